/-
  Part 7 of what NestRenamed is proved by: functions walked, and what they come to.
-/
import Derived.Maps.RangeRun
import Derived.Test.YtogccbelnfgfhaaGreatProg
import Derived.Test.YtogccbelnfgfhaaGreatPNestRenamed6
namespace Go.Proofs
open Go.Gk Go.RowKit Go.Gm

/-- What CopyModule lays: the instructions at block b, each one's arguments in a block of its own behind. -/
def Cpy (w : World) (b : Nat) (pl : List PI) : Prop :=
  ∃ hs : List Ins, hs.length = pl.length ∧ Blk w b 41 (flat inV hs) ∧ ∀ (j : Nat) (h : j < hs.length) (h' : j < pl.length), ∃ c, b < c ∧ hs[j] = mkIn pl[j] ⟨some (blk c), pl[j].2.2.2.length, pl[j].2.2.2.length⟩ ∧ Blk w c 61 (flat agV pl[j].2.2.2)
theorem Cpy.isPl {w : World} {b : Nat} {pl : List PI} (h : Cpy w b pl) (hm : pl.length ≤ 9223372036854775807) (hm' : ∀ p ∈ pl, p.2.2.2.length ≤ 9223372036854775807) : IsPl w ⟨some (blk b), pl.length, pl.length⟩ pl := by
  obtain ⟨hs, h1, h2, h3⟩ := h
  refine ⟨rfl, Nat.le_refl _, hm, (fun h => by cases h), fun a ha k hk => ?_⟩
  cases ha
  obtain ⟨c, h4, h5, h6⟩ := h3 k (by omega) hk
  refine ⟨⟨some (blk c), pl[k].2.2.2.length, pl[k].2.2.2.length⟩, fun j hj => ?_, Blk.isC agV_len (by omega) h6 (hm' _ (List.getElem_mem hk))⟩
  rw [← h5]
  have hg := flat_get inV_len hs k (by omega) j hj
  have hlt : j < (inV (hs[k]'(by omega))).length := hj
  rw [List.getElem?_eq_getElem hlt] at hg ⊢
  exact h2.cell hg
theorem CopyModule_spec {x : Mo} {pl : List PI} {w : World} {R : Value → World → Prop} (hN : IsPl w x.2.2.1 pl) (hp : PlOk pl)
    (hR : ∀ b w', w.heap.size ≤ b → Cpy w' b pl → IsPl w' ⟨some (blk b), pl.length, pl.length⟩ pl → Below w.heap.size w w' → R (moA (x.1, x.2.1, ⟨some (blk b), pl.length, pl.length⟩, ())) w') :
    callR Tryz.prog 11 #[moA x] w R := by
  refine callR.of (intagliokit_CopyModule_calls x R w ?_) fun _ _ h => h
  refine lay_of fun w1 hB1 b1 z1 => ?_
  have hB1 : Blk w1 w.heap.size 25 (moV x) := hB1
  refine lay_of fun w2 hC2 b2 z2 => ?_
  have hC2 : Blk w2 w1.heap.size 25 [.int .u32 0, .int .u32 0, .slice none 0 0] := hC2
  have hB2 := hB1.below b2
  have hl := hN.len
  have h40 := hp.len
  refine hB2.rS (n := 2) rfl ⟨⟨by omega, by omega, by omega, by omega⟩, ?_⟩
  refine lay_of fun w3 hD3 b3 z3 => ?_
  have hb3 := (b1.on b2).on b3
  have hB3 := hB2.below b3
  have hC3 := hC2.below b3
  have hargs : ∀ p ∈ pl, p.2.2.2.length ≤ 9223372036854775807 := fun p h => by have := hp.args p h; omega
  refine LoopW.count pl.length hN.bound (fun k w' => Below w.heap.size w w' ∧ w3.heap.size ≤ w'.heap.size ∧ Blk w' w.heap.size 25 (moV x) ∧ Blk w' w1.heap.size 25 [.int .u32 0, .int .u32 0, .slice none 0 0] ∧
      ∃ (hs : List Ins) (r : List Value), hs.length = k ∧ Blk w' w2.heap.size 41 (flat inV hs ++ r) ∧ r.length = (pl.length - k) * 4 ∧
        ∀ (j : Nat) (h : j < hs.length) (h' : j < pl.length), ∃ c, w2.heap.size < c ∧ hs[j] = mkIn pl[j] ⟨some (blk c), pl[j].2.2.2.length, pl[j].2.2.2.length⟩ ∧ Blk w' c 61 (flat agV pl[j].2.2.2))
    ⟨hb3, Nat.le_refl _, hB3, hC3, [], _, rfl, by simpa [flat] using hD3, by rw [Array.length_toList, size_madeCells, hl]; simp, fun j h _ => by cases h⟩ ?_
  rintro k w4 hk ⟨hb, hz, hB, hC, hs, r, hhl, hD, hr, hrow⟩ next hnext
  refine hB.rS (n := 2) rfl (ifB_dec (fun hlt => ?_) (fun hge => ?_))
  · have hlt : k < pl.length := by dsimp only at hlt; omega
    refine hB.rS (n := 2) rfl (elemPI (hN.below hb) hlt fun t ht => ?_)
    refine CopyInst_spec (x := mkIn pl[k] t) ht (hp.args _ (List.getElem_mem hlt)) fun c w5 hc hA5 hI5 b5 => ⟨mkIn pl[k] ⟨some (blk c), pl[k].2.2.2.length, pl[k].2.2.2.length⟩, rfl, ?_⟩
    have hb5 := hb.on b5
    have hD5 := hD.below b5
    have hB5 := hB.below b5
    have hC5 := hC.below b5
    have s5 := b5.size
    refine ⟨⟨by omega, by dsimp only; omega⟩, ?_⟩
    have hfl : (flat inV hs).length = k * 4 := by rw [flat_length inV_len, hhl]
    obtain ⟨r', hr', e⟩ := set4 (flat inV hs) (cs := r) (m := pl.length - (k + 1)) (by rw [hr]; congr 1; omega) (.int .u16 pl[k].1) (.int .u32 pl[k].2.1) (.int .u32 pl[k].2.2.1) (.slice (some (blk c)) pl[k].2.2.2.length pl[k].2.2.2.length)
    rw [hfl] at e
    have hcl : (flat inV hs ++ r).length = pl.length * 4 := by rw [List.length_append, hfl, hr, ← Nat.add_mul]; congr 1; omega
    dsimp only
    rw [show Int.toNat (k : Int) = k from rfl]
    simp only [add_add']
    have hD1 := hD5.set (k * 4) (.int .u16 pl[k].1)
    have hD2 := hD1.set (k * 4 + 1) (.int .u32 pl[k].2.1)
    have hD3 := hD2.set (k * 4 + 2) (.int .u32 pl[k].2.2.1)
    have hD4 := hD3.set (k * 4 + 3) (.slice (some (blk c)) pl[k].2.2.2.length pl[k].2.2.2.length)
    have c1 := (((Chg.set w2.heap.size (k * 4) w5 (.int .u16 pl[k].1)).trans (Chg.set w2.heap.size (k * 4 + 1) _ (.int .u32 pl[k].2.1))).trans (Chg.set w2.heap.size (k * 4 + 2) _ (.int .u32 pl[k].2.2.1))).trans
      (Chg.set w2.heap.size (k * 4 + 3) _ (.slice (some (blk c)) pl[k].2.2.2.length pl[k].2.2.2.length))
    refine ⟨hD5.wr (by omega), hD1.wr (by rw [List.length_set]; omega), hD2.wr (by rw [List.length_set, List.length_set]; omega), hD3.wr (by rw [List.length_set, List.length_set, List.length_set]; omega), ?_⟩
    refine hnext _ hlt ⟨c1.below hb5 (by omega), by rw [c1.size]; omega, c1.blk hB5 (by omega), c1.blk hC5 (by omega), hs ++ [mkIn pl[k] ⟨some (blk c), pl[k].2.2.2.length, pl[k].2.2.2.length⟩], r', by simp [hhl], ?_, hr', ?_⟩
    · rw [e] at hD4
      have e2 : flat inV (hs ++ [mkIn pl[k] ⟨some (blk c), pl[k].2.2.2.length, pl[k].2.2.2.length⟩]) = flat inV hs ++ inV (mkIn pl[k] ⟨some (blk c), pl[k].2.2.2.length, pl[k].2.2.2.length⟩) := by
        simp [flat]
      rw [e2]
      exact hD4
    · intro j h h'
      by_cases hj : j < hs.length
      · obtain ⟨c', g1, g2, g3⟩ := hrow j hj h'
        refine ⟨c', g1, ?_, c1.blk (g3.below b5) (by omega)⟩
        rw [List.getElem_append_left hj]
        exact g2
      · have hj' : j = k := by simp at h; omega
        subst hj'
        refine ⟨c, by omega, ?_, c1.blk hA5 (by omega)⟩
        rw [List.getElem_append_right (by omega)]
        simp [hhl]
  · have hk' : k = pl.length := by dsimp only at hge; omega
    subst hk'
    simp only [Nat.sub_self, Nat.zero_mul] at hr
    have : r = [] := List.eq_nil_of_length_eq_zero hr
    subst this
    rw [List.append_nil] at hD
    refine ⟨hB.wr (n := 2) (by simp), ?_⟩
    rw [hl]
    have c1 := Chg.set w.heap.size 2 w4 (.slice (some (blk w2.heap.size)) pl.length pl.length)
    have hB5 : Blk _ w.heap.size 25 (moV (x.1, x.2.1, ⟨some (blk w2.heap.size), pl.length, pl.length⟩, ())) := hB.set 2 (.slice (some (blk w2.heap.size)) pl.length pl.length)
    have hb5 := c1.below hb (Nat.le_refl _)
    have hC5 := c1.blk hC (by omega)
    have hD5 := c1.blk hD (by omega)
    refine Nw.mk (Mo.load hB5 ?_)
    refine st3 hC5 rfl fun w6 hC6 c6 => ?_
    have hC6 : Blk w6 w1.heap.size 25 (moV (x.1, x.2.1, ⟨some (blk w2.heap.size), pl.length, pl.length⟩, ())) := hC6
    have hcp : Cpy w6 w2.heap.size pl := ⟨hs, hhl, c6.blk hD5 (by omega), fun j h h' => by
      obtain ⟨c', g1, g2, g3⟩ := hrow j h h'
      exact ⟨c', g1, g2, c6.blk (c1.blk g3 (by omega)) (by omega)⟩⟩
    refine Mo.load hC6 ?_
    exact hR w2.heap.size w6 (by omega) hcp (hcp.isPl hN.bound hargs) (c6.below hb5 (by omega))


end Go.Proofs
namespace Go.Proofs
open Go.Gk Go.RowKit Go.Gm

abbrev idsA (l : List Ag) : List Int := (l.filter fun a => a.1 == 1).map (·.2.1)
def allI (p : PI) : List Int := p.2.1 :: p.2.2.1 :: idsA p.2.2.2
def allP (pl : List PI) : List Int := pl.flatMap allI
open Classical in
/-- Of an instruction without fault: its ids lie below the bound, what is an id bears no text. -/
theorem fault_ids {p : PI} {bd : Int} (h : faultI p bd = 0) (hb : 0 < bd) (h0 : 0 ≤ p.2.1 ∧ 0 ≤ p.2.2.1 ∧ ∀ x ∈ p.2.2.2, 0 ≤ x.2.1) :
    (∀ n ∈ allI p, 0 ≤ n ∧ n < bd) ∧ ∀ x ∈ p.2.2.2, x.1 = 1 → x.2.2.size = 0 := by
  unfold faultI at h
  cases hfr : frm p.1 with
  | none => rw [faultP_none hfr] at h; cases h
  | some g =>
    rw [faultP_some hfr] at h
    have hek : errK g p.2.1 p.2.2.1 p.2.2.2 bd p.2.2.2.length = 0 := by
      refine Classical.byContradiction fun hne => ?_
      unfold faultF at h
      rw [if_pos hne] at h
      exact hne h
    obtain ⟨e1, e2, e3⟩ := errK_all hek
    have hw := argK_all e3
    have idlt : ∀ {must : Bool} {n e : Int}, idP must n bd e = 0 → e ≠ 0 → n < bd := by
      intro must n e hi he
      unfold idP at hi
      split at hi
      · rename_i hm
        split at hi
        · cases hi
        · rename_i hno
          cases must with
          | true => exact Int.not_le.1 fun hle => hno ⟨rfl, hle⟩
          | false =>
            have : n = 0 := by
              refine Classical.byContradiction fun hn => ?_
              rw [bne_iff_ne.2 hn] at hm
              cases hm
            omega
      · exact absurd hi he
    have hx : ∀ x ∈ p.2.2.2, x.1 = 1 → (x.2.1 < bd) ∧ x.2.2.size = 0 := by
      intro x hx h1
      obtain ⟨j, hj, rfl⟩ := List.mem_iff_getElem.1 hx
      have := hw j hj
      unfold werr at this
      rw [getD_lt hj] at this
      unfold wrongP at this
      split at this
      · cases this
      · split at this
        · cases this
        · rename_i n1
          split at this
          · cases this
          · rename_i n2
            refine ⟨Int.not_le.1 fun hle => n2 ⟨h1, .inr hle⟩, ?_⟩
            refine Classical.byContradiction fun hne => n1 (.inr ⟨by rw [h1]; decide, hne⟩)
    refine ⟨fun n hn => ?_, fun x hx' h1 => (hx x hx' h1).2⟩
    unfold allI at hn
    rcases List.mem_cons.1 hn with rfl | hn
    · exact ⟨h0.1, idlt e1 (by decide)⟩
    · rcases List.mem_cons.1 hn with rfl | hn
      · exact ⟨h0.2.1, idlt e2 (by decide)⟩
      · obtain ⟨x, hx', rfl⟩ := List.mem_map.1 hn
        obtain ⟨hx1, hx2⟩ := List.mem_filter.1 hx'
        exact ⟨h0.2.2 x hx1, (hx x hx1 (by simpa using hx2)).1⟩

end Go.Proofs
namespace Go.Proofs
open Go.Gk Go.RowKit Go.Gm

theorem _root_.Go.Gk.Blk.rM0 {w : World} {b : Nat} {T : TypeId} {cs : List Value} (h : Blk w b T cs) {x : Option Nat} (hn : cs[0]? = some (.map x)) {φ : Option Nat → Prop} (hφ : φ x) : ldM w (blk b) φ := ⟨x, h.cell0 hn, hφ⟩
theorem uMap : Tryz.prog.underlying 92 = some (.map 22 22) := by kernel_rfl
theorem uU32 : Tryz.prog.underlying 22 = some (.int .u32) := by kernel_rfl
theorem zU32 : ∃ i, Tryz.prog.info? 22 = some i ∧ i.zero = some (.int .u32 0) := ⟨Tryz.t22, by kernel_rfl, rfl⟩
end Go.Proofs
namespace Go.Proofs
open Go.Gk Go.RowKit Go.Gm

def KeyN (L : List (Int × Int)) : Prop := (L.map (·.1)).Nodup
theorem keys_set (k v : Int) : ∀ L : List (Int × Int), (setL L k v).map (·.1) = L.map (·.1) ∨ ((setL L k v).map (·.1) = L.map (·.1) ++ [k] ∧ k ∉ L.map (·.1))
  | [] => .inr ⟨rfl, by simp⟩
  | p :: r => by
    simp only [setL]
    split
    · rename_i e
      left
      simp [e]
    · rename_i e
      rcases keys_set k v r with h | ⟨h1, h2⟩
      · left
        simp [h]
      · right
        refine ⟨by simp [h1], ?_⟩
        rw [List.map_cons, List.mem_cons, not_or]
        exact ⟨e, h2⟩
theorem KeyN.set {L : List (Int × Int)} (h : KeyN L) (k v : Int) : KeyN (setL L k v) := by
  unfold KeyN at h ⊢
  rcases keys_set k v L with e | ⟨e, hk⟩
  · rw [e]; exact h
  · rw [e]
    refine List.nodup_append.2 ⟨h, by simp, ?_⟩
    intro a ha b hb e'
    rw [List.mem_singleton] at hb
    rw [e', hb] at ha
    exact hk ha

def mk1 (pl : List PI) (id : Int) (k : Nat) : Bool := (pl.getD k pi0).2.2.1 == id && id != 0
def makerI (pl : List PI) (id : Int) (n : Nat) : Int := match (List.range n).find? (mk1 pl id) with
  | some k => (k : Int)
  | none => -1
/-- The map L says who makes an id, of the instructions from k on. -/
def MkOk (L : List (Int × Int)) (pl : List PI) (k : Nat) : Prop := ∀ id, (lookL L id = none → ∀ j, k ≤ j → j < pl.length → mk1 pl id j = false) ∧
  ∀ v, lookL L id = some v → ∃ j : Nat, v = (j : Int) ∧ k ≤ j ∧ j < pl.length ∧ mk1 pl id j = true ∧ ∀ i, k ≤ i → i < j → mk1 pl id i = false
theorem MkOk.end (pl : List PI) : MkOk [] pl pl.length := fun _ => ⟨fun _ j h1 h2 => by omega, fun v h => by cases h⟩
theorem MkOk.step {L : List (Int × Int)} {pl : List PI} {k : Nat} (h : MkOk L pl (k + 1)) (hk : k < pl.length) : MkOk (if pl[k].2.2.1 ≠ 0 then setL L pl[k].2.2.1 k else L) pl k := by
  have hm : ∀ id, mk1 pl id k = (pl[k].2.2.1 == id && id != 0) := fun id => by unfold mk1; rw [getD_lt hk]
  intro id
  obtain ⟨h1, h2⟩ := h id
  by_cases e0 : pl[k].2.2.1 = 0
  · rw [if_neg (fun h => h e0)]
    have hf : mk1 pl id k = false := by
      rw [hm, e0]
      by_cases e : id = 0
      · rw [e]; rfl
      · rw [beq_eq_false_iff_ne.2 (fun h => e h.symm), Bool.false_and]
    refine ⟨fun hn j g1 g2 => ?_, fun v hv => ?_⟩
    · by_cases e : j = k
      · subst e; exact hf
      · exact h1 hn j (by omega) g2
    · obtain ⟨j, q1, q2, q3, q4, q5⟩ := h2 v hv
      refine ⟨j, q1, by omega, q3, q4, fun i g1 g2 => ?_⟩
      by_cases e : i = k
      · subst e; exact hf
      · exact q5 i (by omega) g2
  · rw [if_pos e0, lookL_set]
    by_cases e : id = pl[k].2.2.1
    · rw [if_pos e]
      refine ⟨fun hn => by (cases hn), fun v hv => ⟨k, (Option.some.inj hv).symm, Nat.le_refl _, hk, ?_, fun i g1 g2 => by omega⟩⟩
      rw [hm, e]
      simp [e0]
    · rw [if_neg e]
      have hf : mk1 pl id k = false := by rw [hm, beq_eq_false_iff_ne.2 (fun h => e h.symm), Bool.false_and]
      refine ⟨fun hn j g1 g2 => ?_, fun v hv => ?_⟩
      · by_cases e : j = k
        · subst e; exact hf
        · exact h1 hn j (by omega) g2
      · obtain ⟨j, q1, q2, q3, q4, q5⟩ := h2 v hv
        refine ⟨j, q1, by omega, q3, q4, fun i g1 g2 => ?_⟩
        by_cases e : i = k
        · subst e; exact hf
        · exact q5 i (by omega) g2
theorem uMapI : Tryz.prog.underlying 99 = some (.map 22 3) := by kernel_rfl
theorem Backward1_spec {y : Value} {s : Sl} {pl : List PI} {pb : Nat} {w : World} (Inv : Nat → World → Prop) (S : World → Prop) (h0 : Inv pl.length w)
    (hkeep : ∀ k w', Inv k w' → w'.cell? (blk pb) = some (.slice s.a s.l s.c) ∧ IsPl w' s pl)
    (hround : ∀ k (hk : k < pl.length) t w', Inv (k + 1) w' → callV Tryz.prog Tryz.fs y [.int .i64 (k : Int), inA (mkIn pl[k] t)] w' fun v w'' => (v = .bool true ∧ Inv k w'') ∨ (v = .bool false ∧ S w''))
    (hend : ∀ w', Inv 0 w' → S w') : Calls Tryz.prog 171 #[y, .pointer (some (blk pb))] w (Ret fun _ w' => S w') := by
  refine slices_Backward_sapi_Inst_api_Inst__1_calls y (blk pb) _ w ⟨s, (hkeep _ _ h0).1, ?_⟩
  have hlen := (hkeep _ _ h0).2.len
  have hmax := (hkeep _ _ h0).2.bound
  dsimp only
  rw [hlen, wrap64_in (by omega) (by omega)]
  refine LoopW.ghost (fun j st w' => j ≤ pl.length ∧ st = ((j : Int) - 1, ()) ∧ Inv j w') pl.length ⟨Nat.le_refl _, rfl, h0⟩ ?_
  rintro k _ w1 ⟨hk, rfl, hI⟩ next hnext
  refine ifB_dec (fun h => ?_) (fun h => ?_)
  · obtain ⟨j, rfl⟩ : ∃ j, k = j + 1 := ⟨k - 1, by dsimp only at h; omega⟩
    have hlt : j < pl.length := by omega
    obtain ⟨c1, c2⟩ := hkeep _ _ hI
    have ej : (((j + 1 : Nat) : Int) - 1) = (j : Int) := by omega
    dsimp only
    rw [ej]
    refine ⟨s, c1, elemPI c2 hlt fun t _ => ?_⟩
    refine callV.mono (hround j hlt t w1 hI) fun v w2 hv => ?_
    rcases hv with ⟨rfl, hv⟩ | ⟨rfl, hv⟩
    · refine ⟨true, rfl, ifB_false rfl ?_⟩
      rw [wrap64_in (by omega) (by omega)]
      exact hnext j _ _ (by omega) ⟨by omega, rfl, hv⟩
    · exact ⟨false, rfl, ifB_true rfl hv⟩
  · have hk0 : k = 0 := by dsimp only at h; omega
    subst hk0
    exact hend w1 hI
theorem makers_spec {s : Sl} {pl : List PI} {w : World} {R : Value → World → Prop} (hN : IsPl w s pl)
    (hR : ∀ w' L, IsMp w' w.heap.size .i64 L → MkOk L pl 0 → KeyN L → Below w.heap.size w w' → R (.map (some w.heap.size)) w') : callR Tryz.prog 101 #[.slice s.a s.l s.c] w R := by
  refine callR.of (ids_makers_calls s R w ?_) fun _ _ h => h
  refine Nw.gen fun w1 e1 => ?_
  have m1 : IsMp w1 w.heap.size .i64 [] := by rw [e1]; exact IsMp.new _ _
  have b1 : Below w.heap.size w w1 := by rw [e1]; exact (Below.refl _ _).alloc (Nat.le_refl _) _
  have z1 : w1.heap.size = w.heap.size + 1 := by rw [e1]; simp
  clear e1
  refine Nw.gen fun w2 e2 => ?_
  have hB2 : Blk w2 w1.heap.size 99 [.map none] := by rw [e2]; exact Blk.new _ _ _
  have b2 : Below w1.heap.size w1 w2 := by rw [e2]; exact (Below.refl _ _).alloc (Nat.le_refl _) _
  have z2 : w2.heap.size = w.heap.size + 2 := by rw [e2]; simp [z1]
  clear e2
  refine ⟨hB2.wr0 (by simp), Nw.gen fun w3 e3 => ?_⟩
  have c3 : Chg w1.heap.size w2 w3 := by rw [e3]; exact Chg.set w1.heap.size 0 w2 _
  have hB3 : Blk w3 w1.heap.size 99 [.map (some w.heap.size)] := by rw [e3]; exact hB2.set0 _
  clear e3
  have m3 := (m1.below b2).of_block (c3.block _ (by omega))
  have hb3 : Below w.heap.size w w3 := c3.below (b1.on b2) (by omega)
  have z3 := c3.size
  refine callR.of (slices_Backward_sapi_Inst_api_Inst_calls s _ w3 ?_) fun _ _ h => h
  refine lay_of fun w4 hC4 b4 z4 => ⟨_, rfl, ?_⟩
  have hC4 : Blk w4 w3.heap.size 23 [.slice s.a s.l s.c] := hC4
  intro mk hy
  have hcf : Tryz.fs.contains 171 = true := by kernel_rfl
  unfold callF
  simp only [hcf]
  generalize hw5 : ((w4.alloc (.deferred (some []))).alloc (mk .ready none)) = w5
  have b5 : Below w4.heap.size w4 w5 := by rw [← hw5]; exact laid_below w4 _ _
  have hd5 : w5.heap[w4.heap.size]? = some (.deferred (some [])) := by rw [← hw5]; exact laid_d w4 _ _
  have hl5 : w5.heap[w4.heap.size + 1]? = some (mk .ready none) := by rw [← hw5]; exact laid_l w4 _ _
  clear hw5
  have b35 := b4.on b5
  refine Backward1_spec (y := .func (.yield (w4.heap.size + 1)) #[] #[]) (s := s) (pl := pl)
    (fun k w' => w'.heap[w4.heap.size + 1]? = some (mk .ready none) ∧ w'.heap[w4.heap.size]? = some (.deferred (some [])) ∧ Blk w' w1.heap.size 99 [.map (some w.heap.size)] ∧ Blk w' w3.heap.size 23 [.slice s.a s.l s.c] ∧ Below w.heap.size w w' ∧
      ∃ L, IsMp w' w.heap.size .i64 L ∧ MkOk L pl k ∧ KeyN L) _
    ⟨hl5, hd5, hB3.below b35, hC4.below b5, hb3.on b35, [], m3.below b35, MkOk.end pl, by simp [KeyN]⟩ ?_ ?_ ?_
  · rintro k w' ⟨h1, h2, h3, h4, h5, _⟩
    exact ⟨h4.cell0 rfl, hN.below h5⟩
  · rintro k hk t w' ⟨h1, h2, h3, h4, h5, L, h6, h7, h8⟩
    have hlt' : w4.heap.size + 1 < w'.heap.size := (Array.getElem?_eq_some_iff.1 h1).1
    refine hy ((k : Int), mkIn pl[k] t, ()) w' _ h1 ?_
    refine box4 rfl fun w6 hI6 b6 z6 => ?_
    have hI6 : Blk w6 w'.heap.size 41 (inV (mkIn pl[k] t)) := hI6
    have hl6 : w6.heap[w4.heap.size + 1]? = some (mk .ready none) := (b6.block _ hlt').trans h1
    refine ⟨hl6, Nw.gen fun w7 e7 => ?_⟩
    have s6 := b6.size
    have hlt6 : w4.heap.size + 1 < w6.heap.size := by omega
    have ho7 : ∀ b, b ≠ w4.heap.size + 1 → w7.heap[b]? = w6.heap[b]? := fun b hb => by rw [e7]; exact World.putObj_heap_other hb
    have z7 : w7.heap.size = w6.heap.size := by rw [e7]; simp
    have hl7 : w7.heap[w4.heap.size + 1]? = some (mk .busy none) := by rw [e7]; exact put_self hlt6 _
    have hb7 : Below w.heap.size w w7 := by rw [e7]; exact (h5.on b6).putObj (by omega) _
    clear e7
    have d7 : w7.heap[w4.heap.size]? = some (.deferred (some [])) := by rw [ho7 _ (by omega), b6.block _ (by omega)]; exact h2
    have k3 := (h3.below b6).of_block (ho7 _ (by have := b4.size; omega))
    have k4 := (h4.below b6).of_block (ho7 _ (by omega))
    have k6 := (h6.below b6).of_block (ho7 _ (by omega))
    have kI := hI6.of_block (ho7 _ (by omega))
    have hst := h7.step hk
    have hput : ∀ {w8 : World}, w8.heap[w4.heap.size + 1]? = some (mk .busy none) → w4.heap.size + 1 < w8.heap.size := fun h => (Array.getElem?_eq_some_iff.1 h).1
    refine kI.rI (n := 2) rfl (ifB_bne (fun e => ?_) (fun e => ?_))
    · have e' : pl[k].2.2.1 ≠ 0 := e
      rw [if_pos e'] at hst
      refine k3.rM0 rfl (kI.rI (n := 2) rfl ?_)
      refine updW_of uMapI uU32 k6 fun w8 m8 c8 => ?_
      have hl8 : w8.heap[w4.heap.size + 1]? = some (mk .busy none) := by rw [c8.block _ (by omega)]; exact hl7
      refine ⟨hl8, .inl ⟨rfl, put_self (hput hl8) _, ?_, ?_, ?_, ?_, _, ?_, hst, h8.set _ _⟩⟩
      · rw [World.putObj_heap_other (by omega), c8.block _ (by omega)]; exact d7
      · exact (c8.blk k3 (by omega)).put (by omega) _
      · exact (c8.blk k4 (by omega)).put (by omega) _
      · exact (c8.below hb7 (Nat.le_refl _)).putObj (by omega) _
      · exact m8.of_block (World.putObj_heap_other (by omega))
    · have e' : ¬ pl[k].2.2.1 ≠ 0 := fun h => h e
      rw [if_neg e'] at hst
      refine ⟨hl7, .inl ⟨rfl, put_self (by omega) _, ?_, ?_, ?_, ?_, L, ?_, hst, h8⟩⟩
      · rw [World.putObj_heap_other (by omega)]; exact d7
      · exact k3.put (by omega) _
      · exact k4.put (by omega) _
      · exact hb7.putObj (by omega) _
      · exact k6.of_block (World.putObj_heap_other (by omega))
  · rintro w' ⟨h1, h2, h3, h4, h5, L, h6, h7, h8⟩
    refine ⟨h1, ?_⟩
    have k3 := h3.put (l := w4.heap.size + 1) (by omega) (mk .exhausted none)
    refine k3.rM0 rfl (closeM_one (by rw [World.putObj_heap_other (by omega)]; exact h2) ?_)
    refine hR _ L ?_ h7 h8 ?_
    · exact (h6.of_block (World.putObj_heap_other (by omega))).of_block (World.putObj_heap_other (by omega))
    · exact (h5.putObj (by omega) _).putObj (by omega) _

end Go.Proofs
namespace Go.Proofs
open Go.Gk Go.RowKit Go.Gm

theorem wrapU32_in {n : Int} (h : 0 ≤ n) (h2 : n ≤ 4294967295) : IntKind.u32.wrap n = n := by
  rw [IntKind.wrap_u32]
  exact Int.emod_eq_of_lt h (Int.lt_of_le_of_lt h2 (by decide))

end Go.Proofs
namespace Go.Proofs
open Go.Gk Go.RowKit Go.Gm

abbrev T20 := Int × Int × Int × Int × Int × Int × Int × Int × Int × Int × Int × Int × Int × Int × Int × Int × Int × Int × Int × Int × Unit
abbrev l20 (x : T20) : List Int := [x.1, x.2.1, x.2.2.1, x.2.2.2.1, x.2.2.2.2.1, x.2.2.2.2.2.1, x.2.2.2.2.2.2.1, x.2.2.2.2.2.2.2.1, x.2.2.2.2.2.2.2.2.1, x.2.2.2.2.2.2.2.2.2.1, x.2.2.2.2.2.2.2.2.2.2.1, x.2.2.2.2.2.2.2.2.2.2.2.1, x.2.2.2.2.2.2.2.2.2.2.2.2.1, x.2.2.2.2.2.2.2.2.2.2.2.2.2.1, x.2.2.2.2.2.2.2.2.2.2.2.2.2.2.1, x.2.2.2.2.2.2.2.2.2.2.2.2.2.2.2.1, x.2.2.2.2.2.2.2.2.2.2.2.2.2.2.2.2.1, x.2.2.2.2.2.2.2.2.2.2.2.2.2.2.2.2.2.1, x.2.2.2.2.2.2.2.2.2.2.2.2.2.2.2.2.2.2.1, x.2.2.2.2.2.2.2.2.2.2.2.2.2.2.2.2.2.2.2.1]
abbrev sp20 (x : T20) : List Value := [.int .i64 x.1, .int .i64 x.2.1, .int .i64 x.2.2.1, .int .i64 x.2.2.2.1, .int .i64 x.2.2.2.2.1, .int .i64 x.2.2.2.2.2.1, .int .i64 x.2.2.2.2.2.2.1, .int .i64 x.2.2.2.2.2.2.2.1, .int .i64 x.2.2.2.2.2.2.2.2.1, .int .i64 x.2.2.2.2.2.2.2.2.2.1, .int .i64 x.2.2.2.2.2.2.2.2.2.2.1, .int .i64 x.2.2.2.2.2.2.2.2.2.2.2.1, .int .i64 x.2.2.2.2.2.2.2.2.2.2.2.2.1, .int .i64 x.2.2.2.2.2.2.2.2.2.2.2.2.2.1, .int .i64 x.2.2.2.2.2.2.2.2.2.2.2.2.2.2.1, .int .i64 x.2.2.2.2.2.2.2.2.2.2.2.2.2.2.2.1, .int .i64 x.2.2.2.2.2.2.2.2.2.2.2.2.2.2.2.2.1, .int .i64 x.2.2.2.2.2.2.2.2.2.2.2.2.2.2.2.2.2.1, .int .i64 x.2.2.2.2.2.2.2.2.2.2.2.2.2.2.2.2.2.2.1, .int .i64 x.2.2.2.2.2.2.2.2.2.2.2.2.2.2.2.2.2.2.2.1]
abbrev ag20 (x : T20) : Value := .agg #[.int .i64 x.1, .int .i64 x.2.1, .int .i64 x.2.2.1, .int .i64 x.2.2.2.1, .int .i64 x.2.2.2.2.1, .int .i64 x.2.2.2.2.2.1, .int .i64 x.2.2.2.2.2.2.1, .int .i64 x.2.2.2.2.2.2.2.1, .int .i64 x.2.2.2.2.2.2.2.2.1, .int .i64 x.2.2.2.2.2.2.2.2.2.1, .int .i64 x.2.2.2.2.2.2.2.2.2.2.1, .int .i64 x.2.2.2.2.2.2.2.2.2.2.2.1, .int .i64 x.2.2.2.2.2.2.2.2.2.2.2.2.1, .int .i64 x.2.2.2.2.2.2.2.2.2.2.2.2.2.1, .int .i64 x.2.2.2.2.2.2.2.2.2.2.2.2.2.2.1, .int .i64 x.2.2.2.2.2.2.2.2.2.2.2.2.2.2.2.1, .int .i64 x.2.2.2.2.2.2.2.2.2.2.2.2.2.2.2.2.1, .int .i64 x.2.2.2.2.2.2.2.2.2.2.2.2.2.2.2.2.2.1, .int .i64 x.2.2.2.2.2.2.2.2.2.2.2.2.2.2.2.2.2.2.1, .int .i64 x.2.2.2.2.2.2.2.2.2.2.2.2.2.2.2.2.2.2.2.1]
theorem l20_of {ps : List Int} (h : ps.length = 20) : ∃ x : T20, ps = l20 x := by
  match ps, h with
  | [a0, a1, a2, a3, a4, a5, a6, a7, a8, a9, a10, a11, a12, a13, a14, a15, a16, a17, a18, a19], _ => exact ⟨(a0, a1, a2, a3, a4, a5, a6, a7, a8, a9, a10, a11, a12, a13, a14, a15, a16, a17, a18, a19, ()), rfl⟩
theorem _root_.Go.Gk.Blk.rI2 {w : World} {b : Nat} {T : TypeId} {cs : List Value} (h : Blk w b T cs) {m n : Nat} {κ : IntKind} {x : Int} (hn : cs[m + n]? = some (.int κ x)) {φ : Int → Prop} (hφ : φ x) : ldI w (((Gk.blk b).add m).add n) κ φ := by
  rw [add_add']; exact h.rI hn hφ
theorem ld20 {w : World} {b : Nat} {T : TypeId} {x : T20} (h : Blk w b T (sp20 x)) {φ : Int → Int → Int → Int → Int → Int → Int → Int → Int → Int → Int → Int → Int → Int → Int → Int → Int → Int → Int → Int → Prop} (hφ : φ x.1 x.2.1 x.2.2.1 x.2.2.2.1 x.2.2.2.2.1 x.2.2.2.2.2.1 x.2.2.2.2.2.2.1 x.2.2.2.2.2.2.2.1 x.2.2.2.2.2.2.2.2.1 x.2.2.2.2.2.2.2.2.2.1 x.2.2.2.2.2.2.2.2.2.2.1 x.2.2.2.2.2.2.2.2.2.2.2.1 x.2.2.2.2.2.2.2.2.2.2.2.2.1 x.2.2.2.2.2.2.2.2.2.2.2.2.2.1 x.2.2.2.2.2.2.2.2.2.2.2.2.2.2.1 x.2.2.2.2.2.2.2.2.2.2.2.2.2.2.2.1 x.2.2.2.2.2.2.2.2.2.2.2.2.2.2.2.2.1 x.2.2.2.2.2.2.2.2.2.2.2.2.2.2.2.2.2.1 x.2.2.2.2.2.2.2.2.2.2.2.2.2.2.2.2.2.2.1 x.2.2.2.2.2.2.2.2.2.2.2.2.2.2.2.2.2.2.2.1) :
      ldI w ((blk b).add 0) .i64 fun x0 =>
      ldI w ((blk b).add 1) .i64 fun x1 =>
      ldI w ((blk b).add 2) .i64 fun x2 =>
      ldI w ((blk b).add 3) .i64 fun x3 =>
      ldI w ((blk b).add 4) .i64 fun x4 =>
      ldI w ((blk b).add 5) .i64 fun x5 =>
      ldI w ((blk b).add 6) .i64 fun x6 =>
      ldI w ((blk b).add 7) .i64 fun x7 =>
      ldI w ((blk b).add 8) .i64 fun x8 =>
      ldI w ((blk b).add 9) .i64 fun x9 =>
      ldI w ((blk b).add 10) .i64 fun x10 =>
      ldI w ((blk b).add 11) .i64 fun x11 =>
      ldI w ((blk b).add 12) .i64 fun x12 =>
      ldI w ((blk b).add 13) .i64 fun x13 =>
      ldI w ((blk b).add 14) .i64 fun x14 =>
      ldI w ((blk b).add 15) .i64 fun x15 =>
      ldI w ((blk b).add 16) .i64 fun x16 =>
      ldI w ((blk b).add 17) .i64 fun x17 =>
      ldI w ((blk b).add 18) .i64 fun x18 =>
      ldI w ((blk b).add 19) .i64 fun x19 =>
      φ x0 x1 x2 x3 x4 x5 x6 x7 x8 x9 x10 x11 x12 x13 x14 x15 x16 x17 x18 x19 :=
  h.rI (n := 0) rfl (h.rI (n := 1) rfl (h.rI (n := 2) rfl (h.rI (n := 3) rfl (h.rI (n := 4) rfl (h.rI (n := 5) rfl (h.rI (n := 6) rfl (h.rI (n := 7) rfl (h.rI (n := 8) rfl (h.rI (n := 9) rfl (h.rI (n := 10) rfl (h.rI (n := 11) rfl (h.rI (n := 12) rfl (h.rI (n := 13) rfl (h.rI (n := 14) rfl (h.rI (n := 15) rfl (h.rI (n := 16) rfl (h.rI (n := 17) rfl (h.rI (n := 18) rfl (h.rI (n := 19) rfl (hφ))))))))))))))))))))
theorem ld20c {w : World} {b : Nat} {T : TypeId} {v0 v1 : Value} {r : List Value} {x : T20} (h : Blk w b T (v0 :: v1 :: (sp20 x ++ r))) {φ : Int → Int → Int → Int → Int → Int → Int → Int → Int → Int → Int → Int → Int → Int → Int → Int → Int → Int → Int → Int → Prop} (hφ : φ x.1 x.2.1 x.2.2.1 x.2.2.2.1 x.2.2.2.2.1 x.2.2.2.2.2.1 x.2.2.2.2.2.2.1 x.2.2.2.2.2.2.2.1 x.2.2.2.2.2.2.2.2.1 x.2.2.2.2.2.2.2.2.2.1 x.2.2.2.2.2.2.2.2.2.2.1 x.2.2.2.2.2.2.2.2.2.2.2.1 x.2.2.2.2.2.2.2.2.2.2.2.2.1 x.2.2.2.2.2.2.2.2.2.2.2.2.2.1 x.2.2.2.2.2.2.2.2.2.2.2.2.2.2.1 x.2.2.2.2.2.2.2.2.2.2.2.2.2.2.2.1 x.2.2.2.2.2.2.2.2.2.2.2.2.2.2.2.2.1 x.2.2.2.2.2.2.2.2.2.2.2.2.2.2.2.2.2.1 x.2.2.2.2.2.2.2.2.2.2.2.2.2.2.2.2.2.2.1 x.2.2.2.2.2.2.2.2.2.2.2.2.2.2.2.2.2.2.2.1) :
      ldI w (((blk b).add 2).add 0) .i64 fun x0 =>
      ldI w (((blk b).add 2).add 1) .i64 fun x1 =>
      ldI w (((blk b).add 2).add 2) .i64 fun x2 =>
      ldI w (((blk b).add 2).add 3) .i64 fun x3 =>
      ldI w (((blk b).add 2).add 4) .i64 fun x4 =>
      ldI w (((blk b).add 2).add 5) .i64 fun x5 =>
      ldI w (((blk b).add 2).add 6) .i64 fun x6 =>
      ldI w (((blk b).add 2).add 7) .i64 fun x7 =>
      ldI w (((blk b).add 2).add 8) .i64 fun x8 =>
      ldI w (((blk b).add 2).add 9) .i64 fun x9 =>
      ldI w (((blk b).add 2).add 10) .i64 fun x10 =>
      ldI w (((blk b).add 2).add 11) .i64 fun x11 =>
      ldI w (((blk b).add 2).add 12) .i64 fun x12 =>
      ldI w (((blk b).add 2).add 13) .i64 fun x13 =>
      ldI w (((blk b).add 2).add 14) .i64 fun x14 =>
      ldI w (((blk b).add 2).add 15) .i64 fun x15 =>
      ldI w (((blk b).add 2).add 16) .i64 fun x16 =>
      ldI w (((blk b).add 2).add 17) .i64 fun x17 =>
      ldI w (((blk b).add 2).add 18) .i64 fun x18 =>
      ldI w (((blk b).add 2).add 19) .i64 fun x19 =>
      φ x0 x1 x2 x3 x4 x5 x6 x7 x8 x9 x10 x11 x12 x13 x14 x15 x16 x17 x18 x19 :=
  h.rI2 (m := 2) (n := 0) rfl (h.rI2 (m := 2) (n := 1) rfl (h.rI2 (m := 2) (n := 2) rfl (h.rI2 (m := 2) (n := 3) rfl (h.rI2 (m := 2) (n := 4) rfl (h.rI2 (m := 2) (n := 5) rfl (h.rI2 (m := 2) (n := 6) rfl (h.rI2 (m := 2) (n := 7) rfl (h.rI2 (m := 2) (n := 8) rfl (h.rI2 (m := 2) (n := 9) rfl (h.rI2 (m := 2) (n := 10) rfl (h.rI2 (m := 2) (n := 11) rfl (h.rI2 (m := 2) (n := 12) rfl (h.rI2 (m := 2) (n := 13) rfl (h.rI2 (m := 2) (n := 14) rfl (h.rI2 (m := 2) (n := 15) rfl (h.rI2 (m := 2) (n := 16) rfl (h.rI2 (m := 2) (n := 17) rfl (h.rI2 (m := 2) (n := 18) rfl (h.rI2 (m := 2) (n := 19) rfl (hφ))))))))))))))))))))
theorem st20 {b : Nat} {T : TypeId} {cs : List Value} {x : T20} {K : World → Prop} {w : World} (hB : Blk w b T cs) (hl : cs.length = 20) (hK : ∀ w', Blk w' b T (sp20 x) → Chg b w w' → K w') :
      Wr w (blk b) ∧ Nw (w.setCell (blk b) (.int .i64 x.1)) fun u0 =>
      Wr u0 ((blk b).add 1) ∧ Nw (u0.setCell ((blk b).add 1) (.int .i64 x.2.1)) fun u1 =>
      Wr u1 ((blk b).add 2) ∧ Nw (u1.setCell ((blk b).add 2) (.int .i64 x.2.2.1)) fun u2 =>
      Wr u2 ((blk b).add 3) ∧ Nw (u2.setCell ((blk b).add 3) (.int .i64 x.2.2.2.1)) fun u3 =>
      Wr u3 ((blk b).add 4) ∧ Nw (u3.setCell ((blk b).add 4) (.int .i64 x.2.2.2.2.1)) fun u4 =>
      Wr u4 ((blk b).add 5) ∧ Nw (u4.setCell ((blk b).add 5) (.int .i64 x.2.2.2.2.2.1)) fun u5 =>
      Wr u5 ((blk b).add 6) ∧ Nw (u5.setCell ((blk b).add 6) (.int .i64 x.2.2.2.2.2.2.1)) fun u6 =>
      Wr u6 ((blk b).add 7) ∧ Nw (u6.setCell ((blk b).add 7) (.int .i64 x.2.2.2.2.2.2.2.1)) fun u7 =>
      Wr u7 ((blk b).add 8) ∧ Nw (u7.setCell ((blk b).add 8) (.int .i64 x.2.2.2.2.2.2.2.2.1)) fun u8 =>
      Wr u8 ((blk b).add 9) ∧ Nw (u8.setCell ((blk b).add 9) (.int .i64 x.2.2.2.2.2.2.2.2.2.1)) fun u9 =>
      Wr u9 ((blk b).add 10) ∧ Nw (u9.setCell ((blk b).add 10) (.int .i64 x.2.2.2.2.2.2.2.2.2.2.1)) fun u10 =>
      Wr u10 ((blk b).add 11) ∧ Nw (u10.setCell ((blk b).add 11) (.int .i64 x.2.2.2.2.2.2.2.2.2.2.2.1)) fun u11 =>
      Wr u11 ((blk b).add 12) ∧ Nw (u11.setCell ((blk b).add 12) (.int .i64 x.2.2.2.2.2.2.2.2.2.2.2.2.1)) fun u12 =>
      Wr u12 ((blk b).add 13) ∧ Nw (u12.setCell ((blk b).add 13) (.int .i64 x.2.2.2.2.2.2.2.2.2.2.2.2.2.1)) fun u13 =>
      Wr u13 ((blk b).add 14) ∧ Nw (u13.setCell ((blk b).add 14) (.int .i64 x.2.2.2.2.2.2.2.2.2.2.2.2.2.2.1)) fun u14 =>
      Wr u14 ((blk b).add 15) ∧ Nw (u14.setCell ((blk b).add 15) (.int .i64 x.2.2.2.2.2.2.2.2.2.2.2.2.2.2.2.1)) fun u15 =>
      Wr u15 ((blk b).add 16) ∧ Nw (u15.setCell ((blk b).add 16) (.int .i64 x.2.2.2.2.2.2.2.2.2.2.2.2.2.2.2.2.1)) fun u16 =>
      Wr u16 ((blk b).add 17) ∧ Nw (u16.setCell ((blk b).add 17) (.int .i64 x.2.2.2.2.2.2.2.2.2.2.2.2.2.2.2.2.2.1)) fun u17 =>
      Wr u17 ((blk b).add 18) ∧ Nw (u17.setCell ((blk b).add 18) (.int .i64 x.2.2.2.2.2.2.2.2.2.2.2.2.2.2.2.2.2.2.1)) fun u18 =>
      Wr u18 ((blk b).add 19) ∧ Nw (u18.setCell ((blk b).add 19) (.int .i64 x.2.2.2.2.2.2.2.2.2.2.2.2.2.2.2.2.2.2.2.1)) fun u19 =>
      K u19 :=
  stC_all (vs := sp20 x) hB hl hK
end Go.Proofs
namespace Go.Proofs
open Go.Gk Go.RowKit Go.Gm

theorem Fns.chg {w w' : World} {fs : Sl} {L : List Fe} {b : Nat} {T : TypeId} {cs : List Value} (h : Fns w fs L) (c : Chg b w w') (hB : Blk w b T cs) (h1 : 29 ≠ T) (h2 : 3 ≠ T) (h3 : 69 ≠ T) : Fns w' fs L := by
  have f : Fr w.heap.size (fun k => k = b) w w' := c.fr
  exact ⟨f.own h.own fun b e e2 => by subst e2; exact own_apart h.own hB h1 e, fun x hx =>
    ⟨f.own (h.row x hx).1 fun b e e2 => by subst e2; exact own_apart (h.row x hx).1 hB h2 e, f.own (h.row x hx).2 fun b e e2 => by subst e2; exact own_apart (h.row x hx).2 hB h3 e⟩⟩
section
variable {x : Mo} {pl : List PI} {w : World} {R : Value → World → Prop}
theorem read_spec (hN : IsPl w x.2.2.1 pl) (hp : PlOk pl)
    (hok : ∀ bc ps fs L w', layP x.2.1 pl = (0, 0) → Ct w w' bc x.2.2.1 pl.length ps fs → PartsTo pl 10 pl.length ps → Fns w' fs L → Fresh w.heap.size fs → cutF pl pl.length = L.map (·.1) → GoodL pl pl.length →
      R (.tuple #[.pointer (some (blk bc)), .agg #[.int .i64 0, .int .i64 0]]) w')
    (hbad : ∀ w', Below w.heap.size w w' → (layP x.2.1 pl).1 ≠ 0 → R (.tuple #[.pointer none, .agg #[.int .i64 (layP x.2.1 pl).1, .int .i64 ((layP x.2.1 pl).2 : Int)]]) w') :
    callR Tryz.prog 103 #[moA x] w R := by
  refine callR.of (layout_read_calls x R w ?_) fun _ _ h => h
  refine lay_of fun w1 hB1 b1 z1 => ?_
  have hB1 : Blk w1 w.heap.size 25 (moV x) := hB1
  refine lay_of fun w2 hC2 b2 z2 => ?_
  have hC2 : Blk w2 w1.heap.size 33 [.int .i64 0, .int .i64 0] := hC2
  have hb2 := b1.on b2
  have s1 := b1.size
  have hlen := hN.len
  have h40 := hp.len
  refine Mo.load (hB1.below b2) ?_
  refine Shape_spec (x := x) (hN.below hb2) hp fun w3 b3 => ⟨((shapeP x.2.1 pl).1, ((shapeP x.2.1 pl).2 : Int), ()), rfl, ?_⟩
  refine box2 rfl fun w4 h4 b4 z4 => ?_
  have b24 := b3.on b4
  have hb4 := hb2.on b24
  have hB4 := (hB1.below b2).below b24
  have hC4 := hC2.below b24
  have s24 := b24.size
  refine h4.rI0 rfl (ifB_bne (fun e => ?_) (fun e => ?_))
  · have e' : (shapeP x.2.1 pl).1 ≠ 0 := e
    have hl : layP x.2.1 pl = shapeP x.2.1 pl := if_pos e'
    rw [hl] at hbad
    refine Sp.load h4.drew ?_
    refine st2 hC4.drew rfl fun w5 h5 c5 => Sp.load h5 ?_
    exact hbad w5 (c5.below hb4.drew (by omega)) e'
  · have e' : (shapeP x.2.1 pl).1 = 0 := e
    have hl : layP x.2.1 pl = chkP pl := if_neg (fun h => h e')
    refine hB4.rS (n := 2) (x := x.2.2.1) rfl ?_
    refine lay_of fun w9 h9 b9 z9 => ?_
    have h9 : Blk w9 w4.heap.size 151 (ctV x.2.2.1 (0 : Nat) (List.replicate 20 0) ⟨none, 0, 0⟩) := h9
    have hCt : Ct w4 w9 w4.heap.size x.2.2.1 0 (List.replicate 20 0) ⟨none, 0, 0⟩ := ⟨Nat.le_refl _, b9, h9, List.length_replicate⟩
    have s4 := hb4.size
    generalize hbc : w4.heap.size = bc at hCt z9
    refine cut_spec hCt (hN.below hb4) h40 (fun ps fs L w10 hC10 f10 hg ho hP hL hF hcut => ?_) (fun n ps fs w10 hC10 f10 hS => ?_)
    · refine ⟨true, rfl, ifB_true rfl ?_⟩
      have hlay : layP x.2.1 pl = (0, 0) := by rw [hl, chk_end hg, if_neg (by rw [ho]; decide)]
      have hR1 := hC4.below hC10.b0
      have hCw : Ct w w10 bc x.2.2.1 pl.length ps fs := ⟨by omega, hb4.on hC10.b0, hC10.blk, hC10.len⟩
      refine st2 hR1 rfl fun w12 h12 c12 => Sp.load h12 ?_
      exact hok bc ps fs L w12 hlay (hCw.chg c12 (by omega) (by omega)) hP (hL.chg c12 hR1 (by decide) (by decide) (by decide)) (fun a ha => by have := hF a ha; have := b9.size; omega) hcut hg
    · refine ⟨false, rfl, ifB_false rfl ?_⟩
      have bd : Below w10.heap.size w10 w10.drew := (Below.refl _ _).drew
      have hlay : layP x.2.1 pl = (if n < pl.length then 50 else 51, n) := by rw [hl]; exact hS.chk
      rw [hlay] at hbad
      have hBm := (hB4.below hC10.b0)
      have hR1 := hC4.below hC10.b0
      have hbw : Below w.heap.size w w10 := hb4.on hC10.b0
      refine hC10.blk.drew.rI (n := 1) rfl (hBm.drew.rS (n := 2) (x := x.2.2.1) rfl (ifB_dec (fun h => ?_) (fun h => ?_)))
      · have hlt : n < pl.length := by omega
        rw [if_pos hlt] at hbad
        refine hC10.blk.drew.drew.rI (n := 1) rfl (st2 hR1.drew.drew rfl fun w13 h13 c13 => Sp.load h13 ?_)
        exact hbad w13 (c13.below hbw.drew.drew (by omega)) (show (50 : Int) ≠ 0 by decide)
      · have hlt : ¬ n < pl.length := by omega
        rw [if_neg hlt] at hbad
        refine hC10.blk.drew.drew.rI (n := 1) rfl (st2 hR1.drew.drew rfl fun w13 h13 c13 => Sp.load h13 ?_)
        exact hbad w13 (c13.below hbw.drew.drew (by omega)) (show (51 : Int) ≠ 0 by decide)
theorem Parts_spec (hN : IsPl w x.2.2.1 pl) (hp : PlOk pl)
    (hR : ∀ (y : T20) w', Below w.heap.size w w' → ((layP x.2.1 pl).1 = 0 → PartsTo pl 10 pl.length (l20 y) ∧ GoodL pl pl.length) → R (.tuple #[ag20 y, .agg #[.int .i64 (layP x.2.1 pl).1, .int .i64 ((layP x.2.1 pl).2 : Int)]]) w') :
    callR Tryz.prog 100 #[moA x] w R := by
  refine callR.of (layout_Parts_calls x R w ?_) fun _ _ h => h
  refine lay_of fun w1 hB1 b1 z1 => ?_
  have hB1 : Blk w1 w.heap.size 25 (moV x) := hB1
  refine lay_of fun w2 hA2 b2 z2 => ?_
  refine lay_of fun w3 hC3 b3 z3 => ?_
  have hC3 : Blk w3 w2.heap.size 33 [.int .i64 0, .int .i64 0] := hC3
  have hb23 := b2.on b3
  have hb3 := b1.on hb23
  have s1 := b1.size
  refine Mo.load (hB1.below hb23) ?_
  refine read_spec (x := x) (hN.below hb3) hp (fun bc ps fs L w4 hlay hC4 hP hL hF hcut hg => ⟨some (blk bc), (0, 0, ()), rfl, ?_⟩) (fun w4 b4 hne => ⟨none, ((layP x.2.1 pl).1, ((layP x.2.1 pl).2 : Int), ()), rfl, ?_⟩)
  · rw [hlay] at hR
    refine box2 rfl fun w7 h7 b7 z7 => ?_
    have hC7 := hC4.below b7
    have b37 := hC4.b0.on b7
    have hA7 := ((hA2.below b3).below b37).drew
    have hS7 := (hC3.below b37).drew
    have hbw := (hb3.on b37).drew
    have s37 := b37.size
    have h7 := h7.drew
    obtain ⟨y, rfl⟩ := l20_of hC7.len
    have hct := hC7.blk.drew
    generalize w7.drew = w8 at hct hA7 hS7 hbw h7
    refine ifB_false rfl (derefP_some rfl (ld20c (x := y) hct ?_))
    refine Sp.load h7 ?_
    refine st20 (x := y) hA7 rfl fun w49 h49 c49 => ?_
    have hS49 := c49.blk hS7 (by omega)
    have h7' := c49.blk h7 (by have := hC4.b0.size; omega)
    refine ⟨h7'.cell (n := 0) rfl, h7'.cell (n := 1) rfl, ?_⟩
    refine st2 hS49 rfl fun w51 h51 c51 => ?_
    refine ld20 (x := y) (c51.blk h49 (by omega)) (Sp.load h51 ?_)
    exact hR y w51 (c51.below (c49.below hbw (by omega)) (by omega)) fun _ => ⟨hP, hg⟩
  · refine box2 rfl fun w7 h7 b7 z7 => ?_
    have b37 := b4.on b7
    have hA7 := ((hA2.below b3).below b37).drew
    have hS7 := (hC3.below b37).drew
    have hbw := (hb3.on b37).drew
    have s37 := b37.size
    have s34 := b4.size
    have h7 := h7.drew
    generalize w7.drew = w8 at hA7 hS7 hbw h7
    refine ifB_true rfl (Sp.load h7 ?_)
    refine st20 (x := (0, 0, 0, 0, 0, 0, 0, 0, 0, 0, 0, 0, 0, 0, 0, 0, 0, 0, 0, 0, ())) hA7 rfl fun w49 h49 c49 => ?_
    have hS49 := c49.blk hS7 (by omega)
    have h7' := c49.blk h7 (by omega)
    refine ⟨h7'.cell (n := 0) rfl, h7'.cell (n := 1) rfl, ?_⟩
    refine st2 hS49 rfl fun w51 h51 c51 => ?_
    refine ld20 (x := (0, 0, 0, 0, 0, 0, 0, 0, 0, 0, 0, 0, 0, 0, 0, 0, 0, 0, 0, 0, ())) (c51.blk h49 (by omega)) (Sp.load h51 ?_)
    exact hR _ w51 (c51.below (c49.below hbw (by omega)) (by omega)) fun h => absurd h hne
end
end Go.Proofs
namespace Go.Proofs
open Go.Gk Go.RowKit Go.Gm

theorem makerI_iff {pl : List PI} {id : Int} {n : Nat} : 0 ≤ makerI pl id n ↔ ∃ k, k < n ∧ mk1 pl id k = true := by
  unfold makerI
  constructor
  · intro h
    cases e : (List.range n).find? (mk1 pl id) with
    | none => rw [e] at h; exact absurd h (by decide)
    | some k => exact ⟨k, List.mem_range.1 (List.mem_of_find?_eq_some e), List.find?_some e⟩
  · rintro ⟨k, h1, h2⟩
    cases e : (List.range n).find? (mk1 pl id) with
    | none =>
      rw [List.find?_eq_none] at e
      exact absurd h2 (e k (List.mem_range.2 h1))
    | some k => exact Int.natCast_nonneg k
theorem mk1_zero (pl : List PI) (k : Nat) : mk1 pl 0 k = false := by unfold mk1; simp
theorem MkOk.lt {L : List (Int × Int)} {pl : List PI} (h : MkOk L pl 0) {id v : Int} (hv : lookL L id = some v) (n : Nat) : v < n ↔ 0 ≤ makerI pl id n := by
  obtain ⟨j, rfl, _, q3, q4, q5⟩ := (h id).2 v hv
  rw [makerI_iff]
  constructor
  · intro hh
    exact ⟨j, by omega, q4⟩
  · rintro ⟨k, h1, h2⟩
    rcases Nat.lt_or_ge k j with g | g
    · rw [q5 k (Nat.zero_le _) g] at h2; cases h2
    · omega
theorem MkOk.none {L : List (Int × Int)} {pl : List PI} (h : MkOk L pl 0) {id : Int} (hv : lookL L id = none) : makerI pl id pl.length < 0 := by
  rcases Int.lt_or_le (makerI pl id pl.length) 0 with g | g
  · exact g
  · obtain ⟨k, h1, h2⟩ := makerI_iff.1 g
    rw [(h id).1 hv k (Nat.zero_le _) h1] at h2
    cases h2
theorem MkOk.some {L : List (Int × Int)} {pl : List PI} (h : MkOk L pl 0) {id v : Int} (hv : lookL L id = some v) : 0 ≤ makerI pl id pl.length := by
  obtain ⟨j, _, _, q3, q4, _⟩ := (h id).2 v hv
  exact makerI_iff.2 ⟨j, q3, q4⟩
def idsAt (pl : List PI) (n : Nat) : List Int := idsP (ix pl n).2.1 (ix pl n).2.2.2
def fltP (pl : List PI) (n : Nat) : Int :=
  if 0 ≤ makerI pl (ix pl n).2.2.1 n then 90
  else if (idsAt pl n).any (fun id => decide (makerI pl id pl.length < 0)) = true then 91
  else if partP (ix pl n) = 7 ∧ (idsAt pl n).any (fun id => decide (makerI pl id n < 0)) = true then 92 else 0
def chk9P (bound : Int) (pl : List PI) : Int × Nat := if (layP bound pl).1 ≠ 0 then layP bound pl else match (List.range pl.length).find? (fun k => fltP pl k != 0) with
  | some k => (fltP pl k, k)
  | none => (0, 0)
theorem chk9_lay {bound : Int} {pl : List PI} (h : (layP bound pl).1 ≠ 0) : chk9P bound pl = layP bound pl := if_pos h
theorem chk9_bad {bound : Int} {pl : List PI} (h : ¬ (layP bound pl).1 ≠ 0) {n : Nat} (hn : n < pl.length) (hj : ∀ j, j < n → fltP pl j = 0) (hf : fltP pl n ≠ 0) : chk9P bound pl = (fltP pl n, n) := by
  unfold chk9P
  rw [if_neg h, find_first hn (by rw [bne_iff_ne.2 hf]) fun j hj' => by rw [hj j hj']; rfl]
theorem chk9_good {bound : Int} {pl : List PI} (h : ¬ (layP bound pl).1 ≠ 0) (hj : ∀ j, j < pl.length → fltP pl j = 0) : chk9P bound pl = (0, 0) := by
  unfold chk9P
  have : (List.range pl.length).find? (fun k => fltP pl k != 0) = none := by
    rw [List.find?_eq_none]
    intro j hj'
    rw [hj j (List.mem_range.1 hj')]
    simp
  rw [if_neg h, this]
theorem any_lt {α : Type} {l : List α} {p : α → Bool} {k : Nat} (hk : k < l.length) (h : p l[k] = true) : l.any p = true := List.any_eq_true.2 ⟨l[k], List.getElem_mem hk, h⟩
theorem any_none {α : Type} {l : List α} {p : α → Bool} (h : ∀ k (hk : k < l.length), p l[k] = false) : l.any p = false := by
  cases e : l.any p
  · rfl
  · obtain ⟨x, h1, h2⟩ := List.any_eq_true.1 e
    obtain ⟨k, hk, rfl⟩ := List.mem_iff_getElem.1 h1
    rw [h k hk] at h2
    cases h2

end Go.Proofs
namespace Go.Proofs
open Go.Gk Go.RowKit Go.Gm

theorem zInt : ∃ i, Tryz.prog.info? 3 = some i ∧ i.zero = some (.int .i64 0) := ⟨Tryz.t3, by kernel_rfl, rfl⟩
section
variable {x : Mo} {pl : List PI} {w : World} {R : Value → World → Prop}
theorem Check_spec (hN : IsPl w x.2.2.1 pl) (hp : PlOk pl) (hR : ∀ w', Below w.heap.size w w' → R (.agg #[.int .i64 (chk9P x.2.1 pl).1, .int .i64 ((chk9P x.2.1 pl).2 : Int)]) w') :
    callR Tryz.prog 44 #[moA x] w R := by
  refine callR.of (ids_Check_calls x R w ?_) fun _ _ h => h
  refine lay_of fun w1 hB1 b1 z1 => ?_
  have hB1 : Blk w1 w.heap.size 25 (moV x) := hB1
  refine lay_of fun w2 hC2 b2 z2 => ?_
  have hC2 : Blk w2 w1.heap.size 33 [.int .i64 0, .int .i64 0] := hC2
  have hb2 := b1.on b2
  have s1 := b1.size
  have hlen := hN.len
  have h40 := hp.len
  refine Mo.load (hB1.below b2) ?_
  refine Parts_spec (x := x) (hN.below hb2) hp fun y w3 b3 hP => ⟨y, ((layP x.2.1 pl).1, ((layP x.2.1 pl).2 : Int), ()), rfl, ?_⟩
  refine lay_of fun w4 hY4 b4 z4 => ?_
  refine lay_of fun w5 hE5 b5 z5 => ?_
  have hE5 : Blk w5 w4.heap.size 33 [.int .i64 0, .int .i64 0] := hE5
  refine st20 (x := y) (hY4.below b5) rfl fun w25 hY25 c25 => ?_
  refine st2 (c25.blk hE5 (by omega)) rfl fun w27 hE27 c27 => ?_
  have hY27 := c27.blk hY25 (by omega)
  have b327 : Below w3.heap.size w3 w27 := c27.below (c25.below (b4.on b5) (Nat.le_refl _)) (by omega)
  have b227 := b3.on b327
  have hb27 := hb2.on b227
  have hB27 := (hB1.below b2).below b227
  have hC27 := hC2.below b227
  have out : ∀ {w' : World} {a b : Int}, Below w27.heap.size w27 w' → (chk9P x.2.1 pl).1 = a → (((chk9P x.2.1 pl).2 : Nat) : Int) = b → Wr w' (blk w1.heap.size) ∧ Nw (w'.setCell (blk w1.heap.size) (.int .i64 a)) fun w7 => Wr w7 ((blk w1.heap.size).add 1) ∧
      Nw (w7.setCell ((blk w1.heap.size).add 1) (.int .i64 b)) fun w8 => ldI w8 ((blk w1.heap.size).add 0) .i64 fun x9 => ldI w8 ((blk w1.heap.size).add 1) .i64 fun x10 => R (.agg #[(.int .i64 x9), (.int .i64 x10)]) w8 := by
    intro w' a b hb e1 e2
    subst e1 e2
    exact st2 (hC27.below hb) rfl fun w8 h8 c8 => Sp.load h8 (hR w8 (c8.below (hb27.on hb) (by omega)))
  refine hE27.rI0 rfl (ifB_bne (fun e => ?_) (fun e => ?_))
  · have e' : (layP x.2.1 pl).1 ≠ 0 := e
    have hl := chk9_lay e'
    exact Sp.load hE27 (out (Below.refl _ _) (by rw [hl]) (by rw [hl]))
  have e0 : (layP x.2.1 pl).1 = 0 := e
  have e' : ¬ (layP x.2.1 pl).1 ≠ 0 := fun h => h e
  obtain ⟨hPT, hG⟩ := hP e0
  obtain ⟨q1, q2, q3, q4⟩ := hPT 7 (by omega)
  generalize hfr : (l20 y).getD (2 * 7) 0 = from_ at q1 q2 q4
  generalize hto : (l20 y).getD (2 * 7 + 1) 0 = to_ at q2 q3 q4
  refine hB27.rS (n := 2) (x := x.2.2.1) rfl ?_
  refine makers_spec (hN.below hb27) fun w30 L hM30 hMk hKN b30 => ⟨some w27.heap.size, rfl, ⟨by omega, by omega⟩, ?_⟩
  have hY30 := hY27.below b30
  refine hY30.rI2 (m := 7 * 2) (n := 0) (x := from_) (by rw [← hfr]; rfl) (hY30.rI2 (m := 7 * 2) (n := 1) (x := to_) (by rw [← hto]; rfl) ?_)
  refine box2 rfl fun w33 hG33 b33 z33 => ?_
  have b2733 := b30.on b33
  have hM33 := hM30.below b33
  have hB33 := hB27.below b2733
  refine hB33.rS (n := 2) (x := x.2.2.1) rfl ?_
  refine LoopW.count pl.length hN.bound (fun k w' => Below w33.heap.size w33 w' ∧ ∀ j, j < k → fltP pl j = 0) ⟨Below.refl _ _, fun j hj => by omega⟩ ?_
  rintro k w34 hk ⟨hb34, hj⟩ next hnext
  have hb2734 := b2733.on hb34
  have hN34 := hN.below (hb27.on hb2734)
  refine ifB_dec (fun h => ?_) (fun h => ?_)
  · have hlt : k < pl.length := by dsimp only at h; omega
    have eix : pl[k] = ix pl k := (ix_lt hlt).symm
    refine JoinW.cut (fun _ w' => Below w33.heap.size w33 w' ∧ fltP pl k = 0) ?_ ?_
    · refine elemPI hN34 hlt fun t ht => ?_
      refine box4 rfl fun w39 h39 b39 z39 => ?_
      have h39 : Blk w39 w34.heap.size 41 (inV (mkIn pl[k] t)) := h39
      have hb39 := hb34.on b39
      refine JoinW.cut (fun _ w' => w' = w39 ∧ ¬ 0 ≤ makerI pl (ix pl k).2.2.1 k) ?_ ?_
      · refine h39.rI (n := 2) rfl (ifB_bne (fun e1 => ?_) (fun e1 => ⟨rfl, fun g => ?_⟩))
        · have e1 : pl[k].2.2.1 ≠ 0 := e1
          refine h39.rI (n := 2) rfl (lookV_of uMapI uU32 zInt (hM33.below hb39) ?_)
          have hmk : mk1 pl (ix pl k).2.2.1 k = true := by unfold mk1; rw [← eix, getD_lt hlt, beq_self_eq_true, bne_iff_ne.2 e1]; rfl
          cases hl : lookL L pl[k].2.2.1 with
          | none =>
            have := (hMk pl[k].2.2.1).1 hl k (Nat.zero_le _) hlt
            rw [← eix] at hmk
            rw [hmk] at this
            cases this
          | some v =>
            have hv := hMk.lt hl k
            rw [eix] at hv
            refine ifB_dec (fun h => ?_) (fun h => ⟨rfl, fun g => h (hv.2 g)⟩)
            have hf : fltP pl k = 90 := by unfold fltP; rw [if_pos (hv.1 h)]
            have hb := chk9_bad e' hlt hj (by rw [hf]; decide)
            exact out (b2733.on hb39) (by rw [hb, hf]) (by rw [hb])
        · have e1 : pl[k].2.2.1 = 0 := e1
          rw [← eix, e1] at g
          obtain ⟨j, _, h2⟩ := makerI_iff.1 g
          rw [mk1_zero] at h2
          cases h2
      · rintro _ w42 ⟨rfl, n90⟩
        refine Ins.load h39 ?_
        have hfl : fltP pl k = if (idsAt pl k).any (fun id => decide (makerI pl id pl.length < 0)) = true then 91 else if partP (ix pl k) = 7 ∧ (idsAt pl k).any (fun id => decide (makerI pl id k < 0)) = true then 92 else 0 := by
          unfold fltP; rw [if_neg n90]
        refine Ids_spec (x := mkIn pl[k] t) (ht.below b39) (hp.args _ (List.getElem_mem hlt)) fun r w43 hO hF b43 => ⟨r, rfl, ?_⟩
        have hO : Own w43 22 1 r ((idsAt pl k).map (Value.int .u32)) := by unfold idsAt; rw [← eix]; exact hO
        generalize idsAt pl k = ids at hO hfl
        have hI := hO.isS
        have hrl := hI.len
        have hib := hI.bound
        have hb43 := hb39.on b43
        refine LoopW.ghost (fun j (st : Bool × Int × Unit) w' => ∃ (i : Nat), j = ids.length - i ∧ i ≤ ids.length ∧ w' = w43 ∧ st.2.1 = (i : Int) ∧ (∀ q (hq : q < ids.length), q < i → 0 ≤ makerI pl ids[q] pl.length) ∧ (st.1 = true ↔ ∃ q, ∃ hq : q < ids.length, q < i ∧ makerI pl ids[q] k < 0)) ids.length
          ⟨0, rfl, Nat.zero_le _, rfl, rfl, fun q hq h => by omega, ⟨fun h => (by cases h), fun ⟨q, hq, h, _⟩ => by omega⟩⟩ ?_
        rintro _ ⟨ah, _, _⟩ w44 ⟨i, rfl, hi, hw, e2, hmd, hah⟩ next2 hnext2
        dsimp only at e2 hah
        subst hw e2
        refine ifB_dec (fun h => ?_) (fun h => ?_)
        · have hil : i < ids.length := by dsimp only at h; omega
          refine JoinW.cut (fun (st : Bool × Unit) w' => w' = w44 ∧ 0 ≤ makerI pl ids[i] pl.length ∧ (st.1 = true ↔ ah = true ∨ makerI pl ids[i] k < 0)) ?_ ?_
          · refine elemU hI hil (lookOk_of uMapI uU32 zInt (hM33.below hb43) ?_)
            cases hl : lookL L ids[i] with
            | none =>
              refine ifB_true rfl ?_
              have hf : fltP pl k = 91 := by rw [hfl, if_pos (any_lt hil (decide_eq_true (hMk.none hl)))]
              have hb := chk9_bad e' hlt hj (by rw [hf]; decide)
              exact out (b2733.on hb43) (by rw [hb, hf]) (by rw [hb])
            | some v =>
              refine ifB_false rfl ?_
              have hv := hMk.lt hl k
              refine ifB_bool (fun hat => ⟨rfl, hMk.some hl, ⟨fun _ => .inl hat, fun _ => rfl⟩⟩) (fun haf => ⟨rfl, hMk.some hl, ?_⟩)
              show (decide (v ≥ (k : Int)) = true ↔ _)
              have haf : ah = false := haf
              rw [haf]
              constructor
              · intro g
                have := of_decide_eq_true g
                right
                rcases Int.lt_or_le (makerI pl ids[i] k) 0 with q | q
                · exact q
                · have := hv.2 q; omega
              · rintro (g | g)
                · cases g
                · refine decide_eq_true ?_
                  rcases Int.lt_or_le v k with q | q
                  · have := hv.1 q; omega
                  · exact q
          · rintro ⟨ah', _⟩ w47 ⟨hw, hmi, hah'⟩
            dsimp only at hah' ⊢
            subst hw
            rw [wrap64_succ (by omega)]
            refine hnext2 (ids.length - (i + 1)) _ _ (by omega) ⟨i + 1, rfl, hil, rfl, rfl, fun q hq h => ?_, ?_⟩
            · by_cases eq : q = i
              · subst eq; exact hmi
              · exact hmd q hq (by omega)
            · dsimp only
              rw [hah', hah]
              constructor
              · rintro (⟨q, hq, h1, h2⟩ | g)
                · exact ⟨q, hq, by omega, h2⟩
                · exact ⟨i, hil, by omega, g⟩
              · rintro ⟨q, hq, h1, h2⟩
                by_cases eq : q = i
                · subst eq; exact .inr h2
                · exact .inl ⟨q, hq, by omega, h2⟩
        · have hil : i = ids.length := by dsimp only at h; omega
          subst hil
          have n91 : ¬ ids.any (fun id => decide (makerI pl id pl.length < 0)) = true := by
            rw [any_none (p := fun id => decide (makerI pl id pl.length < 0)) fun q hq => decide_eq_false (by have := hmd q hq hq; omega)]
            decide
          rw [if_neg n91] at hfl
          have hany : ids.any (fun id => decide (makerI pl id k < 0)) = ah := by
            rw [Bool.eq_iff_iff, hah]
            constructor
            · intro g
              obtain ⟨y', y1, y2⟩ := List.any_eq_true.1 g
              obtain ⟨q, hq, rfl⟩ := List.mem_iff_getElem.1 y1
              exact ⟨q, hq, hq, of_decide_eq_true y2⟩
            · rintro ⟨q, hq, _, h2⟩
              exact any_lt hq (decide_eq_true h2)
          rw [hany] at hfl
          have hq4 := q4 k hlt
          have hG44 := hG33.below hb43
          refine JoinW.cut (fun _ w' => w' = w44 ∧ partP (ix pl k) = 7 ∧ ah = true) ?_ ?_
          · refine ifB_not (ifB_bool (fun hat => ?_) (fun haf => ⟨hb43, by have haf : ah = false := haf; rw [hfl, if_neg (fun g => by rw [haf] at g; cases g.2)]⟩))
            refine hG44.rI0 rfl (ifB_dec (fun h1 => ⟨hb43, ?_⟩) (fun h1 => ?_))
            · rw [hfl, if_neg (fun g => by have := hq4.2 g.1; dsimp only at h1; omega)]
            · refine hG44.rI (n := 1) rfl (ifB_dec (fun h2 => ⟨hb43, ?_⟩) (fun h2 => ⟨rfl, hq4.1 ⟨by dsimp only at h1; omega, by dsimp only at h2; omega⟩, hat⟩))
              rw [hfl, if_neg (fun g => by have := hq4.2 g.1; dsimp only at h2; omega)]
          · rintro _ w48 ⟨rfl, g1, g2⟩
            have hf : fltP pl k = 92 := by rw [hfl, if_pos ⟨g1, g2⟩]
            have hb := chk9_bad e' hlt hj (by rw [hf]; decide)
            exact out (b2733.on hb43) (by rw [hb, hf]) (by rw [hb])
    · rintro _ w51 ⟨hb51, hf⟩
      refine hnext w51 hlt ⟨hb51, fun j hjk => ?_⟩
      by_cases ej : j = k
      · subst ej; exact hf
      · exact hj j (by omega)
  · have hk' : k = pl.length := by dsimp only at h; omega
    have hg := chk9_good e' (fun j hj' => hj j (by omega))
    exact out hb2734 (by rw [hg]) (by rw [hg]; rfl)

end
end Go.Proofs
namespace Go.Proofs
open Go.Gk Go.RowKit Go.Gm

/-- Other ids. -/
def turnA (g : Int → Int) (a : Ag) : Ag := if a.1 = 1 then (a.1, g a.2.1, a.2.2) else a
def turnI (g : Int → Int) (p : PI) : PI := (p.1, g p.2.1, g p.2.2.1, p.2.2.2.map (turnA g))
def turnP (g : Int → Int) (pl : List PI) : List PI := pl.map (turnI g)
/-- How many results stand ahead of k. -/
def cntP (pl : List PI) : Nat → Nat
  | 0 => 0
  | k + 1 => cntP pl k + (if (ix pl k).2.2.1 ≠ 0 then 1 else 0)
/-- The numbers that Renumber has given ahead of k. -/
def rnP (pl : List PI) : Nat → Int → Int
  | 0, _ => 0
  | k + 1, id => if (ix pl k).2.2.1 ≠ 0 ∧ id = (ix pl k).2.2.1 then IntKind.u32.wrap ((cntP pl (k + 1) : Nat) : Int) else rnP pl k id
def newP (pl : List PI) : List PI := turnP (rnP pl pl.length) pl
def bndP (pl : List PI) : Int := IntKind.u32.wrap (((cntP pl pl.length : Nat) : Int) + 1)

theorem cntP_le (pl : List PI) : ∀ k, cntP pl k ≤ k
  | 0 => Nat.le_refl _
  | k + 1 => by
    have := cntP_le pl k
    simp only [cntP]
    split <;> omega

/-- What Check says, where it says nothing. -/
theorem chk9_ok {bd : Int} {pl : List PI} (h : (chk9P bd pl).1 = 0) : chk9P bd pl = (0, 0) ∧ (layP bd pl).1 = 0 ∧ ∀ k, k < pl.length → fltP pl k = 0 := by
  unfold chk9P at h ⊢
  by_cases h1 : (layP bd pl).1 ≠ 0
  · rw [if_pos h1] at h; exact absurd h h1
  · rw [if_neg h1] at h ⊢
    have h1 : (layP bd pl).1 = 0 := Classical.not_not.1 h1
    cases hf : (List.range pl.length).find? (fun k => fltP pl k != 0) with
    | none =>
      refine ⟨rfl, h1, fun k hk => ?_⟩
      have := List.find?_eq_none.1 hf k (List.mem_range.2 hk)
      simpa using this
    | some k =>
      rw [hf] at h
      have := List.find?_some hf
      dsimp only at h
      rw [h] at this
      simp at this
theorem lay_shape {bd : Int} {pl : List PI} (h : (layP bd pl).1 = 0) : (shapeP bd pl).1 = 0 := by
  unfold layP at h
  by_cases h1 : (shapeP bd pl).1 ≠ 0
  · rw [if_pos h1] at h; exact h
  · exact Classical.not_not.1 h1
/-- No result is made twice. -/
theorem flt_new {pl : List PI} {k : Nat} (h : fltP pl k = 0) (h0 : (ix pl k).2.2.1 ≠ 0) : ∀ j, j < k → j < pl.length → (ix pl j).2.2.1 ≠ (ix pl k).2.2.1 := by
  intro j hj hl e
  have n90 : ¬ 0 ≤ makerI pl (ix pl k).2.2.1 k := by
    intro g
    unfold fltP at h
    rw [if_pos g] at h
    cases h
  refine n90 (makerI_iff.2 ⟨j, hj, ?_⟩)
  unfold mk1
  rw [show pl.getD j pi0 = ix pl j from ?_, e, beq_self_eq_true, bne_iff_ne.2 h0]
  · rfl
  · rw [getD_lt hl, ix_lt hl]
/-- The ids of a whole module are below its bound. -/
theorem ids_range {bd : Int} {pl : List PI} (hp : PlOk pl) (h0 : 0 ≤ bd) (h : (shapeP bd pl).1 = 0) : ∀ n ∈ allP pl, 0 ≤ n ∧ n < bd := by
  obtain ⟨h1, h2⟩ := shape_ok h
  intro n hn
  obtain ⟨p, hp', hn⟩ := List.mem_flatMap.1 hn
  obtain ⟨k, hk, rfl⟩ := List.getElem_of_mem hp'
  have := hp.nums _ (List.getElem_mem hk)
  exact (fault_ids (h2 k hk) (by omega) ⟨this.1.1, this.2.1.1, fun x hx => (this.2.2 x hx).1⟩).1 n hn
theorem mem_all {pl : List PI} {k : Nat} (hk : k < pl.length) : pl[k].2.1 ∈ allP pl ∧ pl[k].2.2.1 ∈ allP pl ∧ ∀ a ∈ pl[k].2.2.2, a.1 = 1 → a.2.1 ∈ allP pl := by
  have hm : ∀ {n}, n ∈ allI pl[k] → n ∈ allP pl := fun h => List.mem_flatMap.2 ⟨_, List.getElem_mem hk, h⟩
  refine ⟨hm (by simp [allI]), hm (by simp [allI]), fun a ha h1 => hm ?_⟩
  simp only [allI, List.mem_cons]
  right; right
  exact List.mem_map.2 ⟨a, List.mem_filter.2 ⟨ha, by simp [h1]⟩, rfl⟩
theorem rnP_zero (pl : List PI) : ∀ k, rnP pl k 0 = 0
  | 0 => rfl
  | k + 1 => by
    simp only [rnP]
    rw [if_neg (fun g => g.1 g.2.symm)]
    exact rnP_zero pl k
/-- The map that Renumber makes. -/
structure RnOk (L : List (Int × Int)) (pl : List PI) (k : Nat) : Prop where
  len : L.length = cntP pl k + 1
  look : ∀ id, (lookL L id).getD 0 = rnP pl k id
  key : ∀ id, lookL L id ≠ none → id = 0 ∨ ∃ j, j < k ∧ (ix pl j).2.2.1 = id
theorem RnOk.start (pl : List PI) : RnOk (setL [] 0 0) pl 0 := by
  refine ⟨rfl, fun id => ?_, fun id h => ?_⟩
  · simp only [setL, lookL, rnP]; split <;> rfl
  · simp only [setL, lookL] at h
    split at h
    · left; assumption
    · cases h rfl
theorem setL_new {L : List (Int × Int)} {k v : Int} (h : lookL L k = none) : (setL L k v).length = L.length + 1 := by
  induction L with
  | nil => rfl
  | cons p r ih =>
    simp only [lookL] at h
    split at h
    · cases h
    · rename_i hne
      simp only [setL]
      rw [if_neg hne, List.length_cons, ih h, List.length_cons]
theorem RnOk.skip {L : List (Int × Int)} {pl : List PI} {k : Nat} (h : RnOk L pl k) (h0 : (ix pl k).2.2.1 = 0) : RnOk L pl (k + 1) := by
  refine ⟨by rw [h.len]; simp only [cntP]; rw [if_neg (fun g => g h0)], fun id => by rw [h.look]; simp only [rnP]; rw [if_neg (fun g => g.1 h0)], fun id hid => ?_⟩
  rcases h.key id hid with e | ⟨j, hj, e⟩
  · exact .inl e
  · exact .inr ⟨j, by omega, e⟩
theorem RnOk.step {L : List (Int × Int)} {pl : List PI} {k : Nat} (h : RnOk L pl k) (h0 : (ix pl k).2.2.1 ≠ 0) (hn : ∀ j, j < k → (ix pl j).2.2.1 ≠ (ix pl k).2.2.1) :
    RnOk (setL L (ix pl k).2.2.1 (IntKind.u32.wrap (L.length : Int))) pl (k + 1) := by
  have hl : lookL L (ix pl k).2.2.1 = none := by
    refine Classical.byContradiction fun g => ?_
    rcases h.key _ g with e | ⟨j, hj, e⟩
    · exact h0 e
    · exact hn j hj e
  have hc : cntP pl (k + 1) = cntP pl k + 1 := by simp only [cntP]; rw [if_pos h0]
  refine ⟨by rw [setL_new hl, h.len, hc], fun id => ?_, fun id hid => ?_⟩
  · rw [lookL_set]
    simp only [rnP]
    by_cases e : id = (ix pl k).2.2.1
    · rw [if_pos e, if_pos ⟨h0, e⟩, hc, h.len]; rfl
    · rw [if_neg e, if_neg (fun g => e g.2)]; exact h.look id
  · rw [lookL_set] at hid
    by_cases e : id = (ix pl k).2.2.1
    · exact .inr ⟨k, by omega, e.symm⟩
    · rw [if_neg e] at hid
      rcases h.key id hid with e | ⟨j, hj, e⟩
      · exact .inl e
      · exact .inr ⟨j, by omega, e⟩
end Go.Proofs

namespace Go.Proofs
open Go.Gk Go.RowKit Go.Gm

theorem getD_ge {α : Type} {l : List α} {i : Nat} {d : α} (h : l.length ≤ i) : l.getD i d = d := by simp [List.getD, h]
theorem turnA_k (g : Int → Int) (a : Ag) : (turnA g a).1 = a.1 := by unfold turnA; split <;> rfl
theorem turnA_t (g : Int → Int) (a : Ag) : (turnA g a).2.2 = a.2.2 := by unfold turnA; split <;> rfl
theorem turnA_id (g : Int → Int) {a : Ag} (h : a.1 = 1) : (turnA g a).2.1 = g a.2.1 := by unfold turnA; rw [if_pos h]
theorem turnA_no (g : Int → Int) {a : Ag} (h : a.1 ≠ 1) : turnA g a = a := by unfold turnA; rw [if_neg h]
theorem idP_turn {g : Int → Int} {must : Bool} {n b b' e : Int} (he : e ≠ 0) (h : idP must n b e = 0) (hz : g 0 = 0) (hg : n ≠ 0 → 0 < g n ∧ g n < b') : idP must (g n) b' e = 0 := by
  unfold idP at h ⊢
  by_cases em : must = (n != 0)
  · have em' : must = (g n != 0) := by
      rw [em]
      by_cases h0 : n = 0
      · rw [h0, hz]
      · have := hg h0
        rw [bne_iff_ne.2 h0, bne_iff_ne.2 (show g n ≠ 0 by omega)]
    rw [if_pos em', if_neg]
    rintro ⟨m, hb⟩
    rw [m] at em
    have h0 : n ≠ 0 := bne_iff_ne.1 em.symm
    have := hg h0
    omega
  · rw [if_neg em] at h
    exact absurd h he
theorem wrong_turn {g : Int → Int} {c b b' : Int} {a : Ag} (h : wrongP c a b = 0) (hg : a.1 = 1 → a.2.1 ≠ 0 → 0 < g a.2.1 ∧ g a.2.1 < b') : wrongP c (turnA g a) b' = 0 := by
  unfold wrongP at h
  by_cases n1 : c = 0 ∨ a.1 ≠ kindP c
  · rw [if_pos n1] at h; exact absurd h (by decide)
  rw [if_neg n1] at h
  by_cases n2 : (a.1 = 3 ∧ a.2.1 ≠ 0) ∨ (a.1 ≠ 3 ∧ a.2.2.size ≠ 0)
  · rw [if_pos n2] at h; exact absurd h (by decide)
  rw [if_neg n2] at h
  by_cases n3 : a.1 = 1 ∧ (a.2.1 = 0 ∨ b ≤ a.2.1)
  · rw [if_pos n3] at h; exact absurd h (by decide)
  rw [if_neg n3] at h
  by_cases n4 : a.1 = 4 ∧ enumP c a.2.1 = false
  · rw [if_pos n4] at h; exact absurd h (by decide)
  rw [if_neg n4] at h
  by_cases n5 : nul a.2.2 = true
  · rw [if_pos n5] at h; exact absurd h (by decide)
  by_cases e : a.1 = 1
  · have h0 : a.2.1 ≠ 0 := fun g0 => n3 ⟨e, .inl g0⟩
    obtain ⟨g1, g2⟩ := hg e h0
    unfold turnA wrongP
    rw [if_pos e]
    dsimp only
    rw [if_neg n1, if_neg, if_neg, if_neg, if_neg n5]
    · rintro ⟨q, _⟩; omega
    · rintro ⟨_, q⟩; omega
    · rintro (⟨q, _⟩ | q)
      · omega
      · exact n2 (.inr q)
  · rw [turnA_no g e]
    unfold wrongP
    rw [if_neg n1, if_neg n2, if_neg (fun q => e q.1), if_neg n4, if_neg n5]
theorem cost_turn (g : Int → Int) (a : Ag) : cost (turnA g a) = cost a := by unfold cost; rw [turnA_k, turnA_t]
theorem costN_turn (g : Int → Int) (al : List Ag) (k : Nat) : costN (al.map (turnA g)) k = costN al k := by
  unfold costN
  rw [← List.map_take, List.map_map]
  congr 1
  exact List.map_congr_left fun a _ => cost_turn g a
theorem roomP_turn (g : Int → Int) (f : Fl) (al : List Ag) : roomP f (al.map (turnA g)) = roomP f al := by
  unfold roomP; rw [List.length_map, costN_turn]
theorem roomI_turn (g : Int → Int) (p : PI) : roomI (turnI g p) = roomI p := by
  unfold roomI turnI
  dsimp only
  cases frm p.1 with
  | none => rfl
  | some f => exact roomP_turn g f _
theorem argK_none {f : Fl} {al : List Ag} {b : Int} {k : Nat} (h : ∀ j, j < k → werr f al b j = 0) : argK f al b k = 0 := by
  unfold argK
  have : (List.range k).find? (fun j => werr f al b j != 0) = none := by
    rw [List.find?_eq_none]
    intro j hj
    rw [h j (List.mem_range.1 hj)]
    simp
  rw [this]
/-- What is known where an instruction has no fault. -/
theorem fault_all {p : PI} {b : Int} (h : faultI p b = 0) : ∃ f, frm p.1 = some f ∧ idP f.ty p.2.1 b 40 = 0 ∧ idP f.re p.2.2.1 b 41 = 0 ∧ (∀ j, j < p.2.2.2.length → werr f p.2.2.2 b j = 0) ∧
    wholeP f p.2.2.2.length = true ∧ roomP f p.2.2.2 ≤ 65535 := by
  unfold faultI at h
  cases hf : frm p.1 with
  | none => rw [faultP_none hf] at h; cases h
  | some f =>
    rw [faultP_some hf] at h
    unfold faultF at h
    by_cases e1 : errK f p.2.1 p.2.2.1 p.2.2.2 b p.2.2.2.length ≠ 0
    · rw [if_pos e1] at h; exact absurd h e1
    rw [if_neg e1] at h
    obtain ⟨q1, q2, q3⟩ := errK_all (Classical.not_not.1 e1)
    by_cases e2 : wholeP f p.2.2.2.length = false
    · rw [if_pos e2] at h; exact absurd h (by decide)
    rw [if_neg e2] at h
    by_cases e3 : 65535 < roomP f p.2.2.2
    · rw [if_pos e3] at h; exact absurd h (by decide)
    exact ⟨f, rfl, q1, q2, argK_all q3, by simpa using e2, by omega⟩
theorem fault_of {p : PI} {b : Int} {f : Fl} (hf : frm p.1 = some f) (h1 : idP f.ty p.2.1 b 40 = 0) (h2 : idP f.re p.2.2.1 b 41 = 0) (h3 : ∀ j, j < p.2.2.2.length → werr f p.2.2.2 b j = 0)
    (h4 : wholeP f p.2.2.2.length = true) (h5 : roomP f p.2.2.2 ≤ 65535) : faultI p b = 0 := by
  unfold faultI
  rw [faultP_some hf]
  unfold faultF errK
  rw [h1, h2, argK_none h3, h4]
  rw [if_neg (by simp), if_neg (by simp), if_neg (by omega)]
theorem fault_turn {g : Int → Int} {p : PI} {b b' : Int} (h : faultI p b = 0) (hz : g 0 = 0) (hg : ∀ n ∈ allI p, n ≠ 0 → 0 < g n ∧ g n < b') : faultI (turnI g p) b' = 0 := by
  obtain ⟨f, hf, h1, h2, h3, h4, h5⟩ := fault_all h
  refine fault_of (p := turnI g p) (f := f) hf (idP_turn (by decide) h1 hz (hg _ (by simp [allI]))) (idP_turn (by decide) h2 hz (hg _ (by simp [allI]))) (fun j hj => ?_) ?_ ?_
  · have hj : j < p.2.2.2.length := by simpa [turnI] using hj
    have hw := h3 j hj
    unfold werr at hw ⊢
    unfold turnI
    dsimp only
    rw [getD_lt (by rw [List.length_map]; exact hj), List.getElem_map]
    rw [getD_lt hj] at hw
    refine wrong_turn hw fun e => hg _ ?_
    simp only [allI, List.mem_cons]
    right; right
    exact List.mem_map.2 ⟨_, List.mem_filter.2 ⟨List.getElem_mem hj, by simp [e]⟩, rfl⟩
  · unfold turnI; dsimp only; rw [List.length_map]; exact h4
  · unfold turnI; dsimp only; rw [roomP_turn]; exact h5
theorem var_kind : (match frm 59 with | some f => kindP (letP f 0 : Int) | none => 0) = 4 := by decide +kernel
theorem part_turn {g : Int → Int} {p : PI} {b : Int} (h : faultI p b = 0) : partP (turnI g p) = partP p := by
  obtain ⟨f, hf, _, _, h3, _, _⟩ := fault_all h
  have : isVar (turnI g p) = isVar p := by
    unfold isVar turnI
    dsimp only
    by_cases e : p.1 = 59
    · cases hl : p.2.2.2 with
      | nil => rfl
      | cons a r =>
        have hw := h3 0 (by rw [hl]; simp)
        unfold werr at hw
        rw [hl] at hw
        have hk := (wrong_kind hw).2
        have hv := var_kind
        rw [e] at hf
        rw [hf] at hv
        have hv : kindP (letP f 0 : Int) = 4 := hv
        have hk : a.1 = kindP (letP f 0 : Int) := hk
        rw [List.map_cons]
        dsimp only
        rw [turnA_no g (show a.1 ≠ 1 by rw [hk, hv]; decide)]
    · rw [beq_eq_false_iff_ne.2 e]
      rfl
  unfold partP
  rw [this]
  rfl

structure TurnOk (g : Int → Int) (pl : List PI) (b' : Int) : Prop where
  zero : g 0 = 0
  rng : ∀ n ∈ allP pl, n ≠ 0 → 0 < g n ∧ g n < b'
  inj : ∀ m ∈ allP pl, ∀ n ∈ allP pl, g m = g n → m = n
  pos : 0 < b' ∧ b' ≤ 65536
theorem turnP_len (g : Int → Int) (pl : List PI) : (turnP g pl).length = pl.length := List.length_map _
theorem mem_allI {p : PI} {pl : List PI} (hp : p ∈ pl) {n : Int} (h : n ∈ allI p) : n ∈ allP pl := List.mem_flatMap.2 ⟨p, hp, h⟩
theorem ix_turn {g : Int → Int} (hz : g 0 = 0) (pl : List PI) (k : Nat) : ix (turnP g pl) k = turnI g (ix pl k) := by
  by_cases hk : k < pl.length
  · rw [ix, getD_lt (by rw [turnP_len]; exact hk), ix_lt hk]
    unfold turnP
    rw [List.getElem_map]
  · unfold ix
    rw [getD_ge (by rw [turnP_len]; omega), getD_ge (by omega)]
    unfold turnI
    rw [hz]
    rfl
theorem chk_sim {pl ql : List PI} (hl : pl.length = ql.length) (h1 : ∀ k, (ix pl k).1 = (ix ql k).1) (h2 : ∀ k, partP (ix pl k) = partP (ix ql k)) : chkP pl = chkP ql := by
  have hm : ∀ n, mdlP pl n = mdlP ql n := fun n => by unfold mdlP; simp only [h2]
  have ho : ∀ n, overP pl n = overP ql n := fun n => by unfold overP; simp only [h2]
  have ha : ∀ n, aheadP pl n = aheadP ql n := fun n => by cases n with
    | zero => rfl
    | succ n => simp only [aheadP, h1, h2]
  have hf : ∀ n, firstP pl n = firstP ql n := fun n => by
    induction n with
    | zero => rfl
    | succ n ih => simp only [firstP, h1, ih]
  have hy : (fun k => !mayP pl k) = fun k => !mayP ql k := funext fun n => by unfold mayP; rw [ho, hm, h2, h1, ha, hf]
  have hop : openP pl = openP ql := by unfold openP; rw [hm, hl, h1, h2]
  unfold chkP
  rw [hy, hl, hop]
theorem tot_le {bound : Int} {pl : List PI} (h : (shapeP bound pl).1 = 0) : totP pl pl.length ≤ 1048576 := by
  cases hl : pl.length with
  | zero => simp [totP]
  | succ n =>
    unfold shapeP at h
    split at h
    · cases h
    · split at h
      · dsimp only at h
        split at h
        · rename_i hf; exact absurd h hf
        · cases h
      · rename_i hn
        have := List.find?_eq_none.1 hn n (List.mem_range.2 (by omega))
        unfold badI at this
        simp only [Bool.or_eq_true, not_or, decide_eq_true_eq] at this
        omega
theorem totP_mono (pl : List PI) {a b : Nat} (h : a ≤ b) (hb : b ≤ pl.length) : totP pl a ≤ totP pl b := by
  induction b with
  | zero => have : a = 0 := by omega
            subst this; exact Nat.le_refl _
  | succ b ih =>
    by_cases e : a = b + 1
    · subst e; exact Nat.le_refl _
    · have := ih (by omega) (by omega)
      rw [totP_succ (by omega)]
      omega
theorem totP_turn (g : Int → Int) (pl : List PI) (k : Nat) : totP (turnP g pl) k = totP pl k := by
  unfold totP turnP
  rw [← List.map_take, List.map_map]
  congr 2
  exact List.map_congr_left fun p _ => roomI_turn g p
section
variable {g : Int → Int} {pl : List PI} {b b' : Int}
theorem TurnOk.fault (h : TurnOk g pl b') (hs : (shapeP b pl).1 = 0) : ∀ k, k < pl.length → faultI (ix (turnP g pl) k) b' = 0 := by
  intro k hk
  rw [ix_turn h.zero]
  have hf := (shape_ok hs).2 k hk
  rw [ix_lt hk]
  exact fault_turn hf h.zero fun n hn => h.rng n (mem_allI (List.getElem_mem hk) hn)
theorem TurnOk.shape (h : TurnOk g pl b') (hs : (shapeP b pl).1 = 0) : shapeP b' (turnP g pl) = (0, 0) := by
  have hb := h.pos
  refine shape_good (by omega) fun j hj => ?_
  have hj' : j < pl.length := by rwa [turnP_len] at hj
  refine badI_false hj ?_ ?_
  · have := h.fault hs j hj'
    rwa [ix_lt hj] at this
  · rw [totP_turn]
    have := totP_mono pl (a := j + 1) (b := pl.length) (by omega) (Nat.le_refl _)
    have := tot_le hs
    omega
theorem TurnOk.part (h : TurnOk g pl b') (hs : (shapeP b pl).1 = 0) (k : Nat) : partP (ix (turnP g pl) k) = partP (ix pl k) := by
  rw [ix_turn h.zero]
  by_cases hk : k < pl.length
  · exact part_turn (b := b) (by rw [ix_lt hk]; exact (shape_ok hs).2 k hk)
  · have : ix pl k = pi0 := getD_ge (by omega)
    rw [this]
    unfold turnI
    rw [h.zero]
    rfl
theorem TurnOk.chk (h : TurnOk g pl b') (hs : (shapeP b pl).1 = 0) : chkP (turnP g pl) = chkP pl :=
  chk_sim (turnP_len g pl) (fun k => by rw [ix_turn h.zero]; rfl) (h.part hs)
theorem TurnOk.iff0 (h : TurnOk g pl b') {n : Int} (hn : n ∈ allP pl ∨ n = 0) : g n = 0 ↔ n = 0 := by
  constructor
  · intro e
    rcases hn with hn | hn
    · refine Classical.byContradiction fun h0 => ?_
      have := h.rng n hn h0
      omega
    · exact hn
  · intro e; rw [e, h.zero]
theorem TurnOk.eq (h : TurnOk g pl b') {m n : Int} (hm : m ∈ allP pl ∨ m = 0) (hn : n ∈ allP pl ∨ n = 0) : g m = g n ↔ m = n := by
  constructor
  · intro e
    rcases hm with hm | hm
    · rcases hn with hn | hn
      · exact h.inj m hm n hn e
      · subst hn; rw [h.zero] at e; exact (h.iff0 (.inl hm)).1 e
    · subst hm
      rw [h.zero] at e
      exact ((h.iff0 hn).1 e.symm).symm
  · intro e; rw [e]
theorem res_mem (pl : List PI) (k : Nat) : (ix pl k).2.2.1 ∈ allP pl ∨ (ix pl k).2.2.1 = 0 := by
  by_cases hk : k < pl.length
  · left; rw [ix_lt hk]; exact (mem_all hk).2.1
  · right
    have : ix pl k = pi0 := getD_ge (by omega)
    rw [this]
theorem TurnOk.mk1 (h : TurnOk g pl b') {id : Int} (hid : id ∈ allP pl ∨ id = 0) (k : Nat) : Go.Proofs.mk1 (turnP g pl) (g id) k = Go.Proofs.mk1 pl id k := by
  unfold Go.Proofs.mk1
  rw [show (turnP g pl).getD k pi0 = ix (turnP g pl) k from rfl, show pl.getD k pi0 = ix pl k from rfl, ix_turn h.zero]
  unfold turnI
  dsimp only
  rw [Bool.eq_iff_iff]
  simp only [Bool.and_eq_true, beq_iff_eq, bne_iff_ne, ne_eq]
  rw [h.eq (res_mem pl k) hid, h.iff0 hid]
theorem TurnOk.maker (h : TurnOk g pl b') {id : Int} (hid : id ∈ allP pl ∨ id = 0) (n : Nat) : makerI (turnP g pl) (g id) n = makerI pl id n := by
  unfold makerI
  rw [show Go.Proofs.mk1 (turnP g pl) (g id) = Go.Proofs.mk1 pl id from funext (h.mk1 hid)]
theorem ids_mem {p : PI} {n : Int} (h : n ∈ idsP p.2.1 p.2.2.2) : n ∈ allI p := by
  unfold idsP idsN at h
  rw [List.take_length] at h
  rcases List.mem_append.1 h with h | h
  · split at h
    · cases h
    · rw [List.mem_singleton.1 h]; simp [allI]
  · simp only [allI, List.mem_cons]
    exact .inr (.inr h)
theorem at_mem {k : Nat} {n : Int} (h : n ∈ idsAt pl k) : n ∈ allP pl ∨ n = 0 := by
  unfold idsAt at h
  by_cases hk : k < pl.length
  · rw [ix_lt hk] at h
    exact .inl (mem_allI (List.getElem_mem hk) (ids_mem h))
  · have : ix pl k = pi0 := getD_ge (by omega)
    rw [this] at h
    cases h
theorem args_turn (g : Int → Int) : ∀ al : List Ag, (((al.map (turnA g)).filter fun a => a.1 == 1).map (·.2.1)) = (((al.filter fun a => a.1 == 1).map (·.2.1)).map g)
  | [] => rfl
  | a :: al => by
    rw [List.map_cons, List.filter_cons, List.filter_cons, turnA_k]
    by_cases e : a.1 = 1
    · rw [if_pos (beq_iff_eq.2 e), if_pos (beq_iff_eq.2 e), List.map_cons, List.map_cons, List.map_cons, args_turn g al, turnA_id g e]
    · rw [if_neg (fun q => e (beq_iff_eq.1 q)), if_neg (fun q => e (beq_iff_eq.1 q)), args_turn g al]
theorem TurnOk.ids (h : TurnOk g pl b') (k : Nat) : idsAt (turnP g pl) k = (idsAt pl k).map g := by
  have hty : (ix pl k).2.1 ∈ allP pl ∨ (ix pl k).2.1 = 0 := by
    by_cases hk : k < pl.length
    · left; rw [ix_lt hk]; exact (mem_all hk).1
    · right
      have : ix pl k = pi0 := getD_ge (by omega)
      rw [this]
  unfold idsAt
  rw [ix_turn h.zero]
  unfold turnI idsP idsN
  dsimp only
  rw [List.take_length, List.take_length, List.map_append, args_turn]
  congr 1
  by_cases e : (ix pl k).2.1 = 0
  · rw [if_pos e, if_pos (by rw [e, h.zero])]; rfl
  · rw [if_neg e, if_neg (fun q => e ((h.iff0 hty).1 q))]; rfl
theorem any_map_congr {α β : Type} {l : List α} {f : α → β} {p : β → Bool} {q : α → Bool} (h : ∀ x ∈ l, p (f x) = q x) : (l.map f).any p = l.any q := by
  induction l with
  | nil => rfl
  | cons x l ih => rw [List.map_cons, List.any_cons, List.any_cons, h x List.mem_cons_self, ih fun y hy => h y (List.mem_cons_of_mem _ hy)]
theorem TurnOk.flt (h : TurnOk g pl b') (hs : (shapeP b pl).1 = 0) (k : Nat) : fltP (turnP g pl) k = fltP pl k := by
  unfold fltP
  rw [h.ids, h.part hs, turnP_len]
  rw [any_map_congr (q := fun id => decide (makerI pl id pl.length < 0)) fun n hn => by rw [h.maker (at_mem hn)]]
  rw [any_map_congr (q := fun id => decide (makerI pl id k < 0)) fun n hn => by rw [h.maker (at_mem hn)]]
  have : (ix (turnP g pl) k).2.2.1 = g (ix pl k).2.2.1 := by rw [ix_turn h.zero]; rfl
  rw [this, h.maker (res_mem pl k)]
theorem TurnOk.chk9 (h : TurnOk g pl b') (hs : (shapeP b pl).1 = 0) : chk9P b' (turnP g pl) = chk9P b pl := by
  have hl : layP b' (turnP g pl) = layP b pl := by
    unfold layP
    rw [h.shape hs, h.chk hs, if_neg (by simp), if_neg (by rw [hs]; simp)]
  unfold chk9P
  rw [hl, turnP_len]
  simp only [h.flt hs]
end
theorem cntP_mono (pl : List PI) {a b : Nat} (h : a ≤ b) : cntP pl a ≤ cntP pl b := by
  induction b with
  | zero => have : a = 0 := by omega
            subst this; exact Nat.le_refl _
  | succ b ih =>
    by_cases e : a = b + 1
    · subst e; exact Nat.le_refl _
    · have := ih (by omega)
      simp only [cntP]
      omega
theorem nodupI_le : ∀ (m : Nat) (l : List Int), l.Nodup → (∀ x ∈ l, 1 ≤ x ∧ x ≤ m) → l.length ≤ m
  | 0, l, _, h => by
    cases l with
    | nil => exact Nat.le_refl _
    | cons a r => have := h a List.mem_cons_self; omega
  | m + 1, l, hn, h => by
    have ih := nodupI_le m (l.erase ((m + 1 : Nat) : Int)) (hn.erase _) fun x hx => by
      obtain ⟨h1, h2⟩ := (hn.mem_erase_iff).1 hx
      have := h x h2
      omega
    rw [List.length_erase] at ih
    split at ih <;> omega
/-- The results ahead of k. -/
def resP (pl : List PI) (k : Nat) : List Int := ((List.range k).filter fun j => (ix pl j).2.2.1 != 0).map fun j => (ix pl j).2.2.1
theorem resP_len (pl : List PI) : ∀ k, (resP pl k).length = cntP pl k
  | 0 => rfl
  | k + 1 => by
    have ih := resP_len pl k
    unfold resP at ih ⊢
    rw [List.length_map] at ih ⊢
    rw [List.range_succ, List.filter_append, List.length_append, ih]
    simp only [cntP]
    rw [List.filter_cons]
    by_cases e : (ix pl k).2.2.1 = 0
    · rw [if_neg (fun g => bne_iff_ne.1 g e), if_neg (fun g => g e)]; rfl
    · rw [if_pos (bne_iff_ne.2 e), if_pos e]; rfl
theorem resP_nodup {pl : List PI} (h : ∀ k, k < pl.length → (ix pl k).2.2.1 ≠ 0 → ∀ j, j < k → j < pl.length → (ix pl j).2.2.1 ≠ (ix pl k).2.2.1) : ∀ k, k ≤ pl.length → (resP pl k).Nodup
  | 0, _ => List.nodup_nil
  | k + 1, hk => by
    have ih := resP_nodup h k (by omega)
    unfold resP at ih ⊢
    rw [List.range_succ, List.filter_append, List.map_append]
    refine List.nodup_append.2 ⟨ih, ?_, ?_⟩
    · rw [List.filter_cons]
      split <;> simp
    · intro a ha c hc e
      obtain ⟨j, hj, rfl⟩ := List.mem_map.1 ha
      obtain ⟨i, hi, rfl⟩ := List.mem_map.1 hc
      obtain ⟨hi, h0⟩ := List.mem_filter.1 hi
      have := List.mem_singleton.1 hi
      subst this
      have hj := List.mem_range.1 (List.mem_filter.1 hj).1
      exact h i (by omega) (bne_iff_ne.1 h0) j hj (by omega) e
/-- What is known of a module that Check lets pass. -/
structure Whole9 (bd : Int) (pl : List PI) : Prop where
  shape : (shapeP bd pl).1 = 0
  lim : 0 < bd ∧ bd ≤ 65536
  rng : ∀ n ∈ allP pl, 0 ≤ n ∧ n < bd
  new : ∀ k, k < pl.length → (ix pl k).2.2.1 ≠ 0 → ∀ j, j < k → j < pl.length → (ix pl j).2.2.1 ≠ (ix pl k).2.2.1
  made : ∀ n ∈ allP pl, n ≠ 0 → ∃ k, k < pl.length ∧ (ix pl k).2.2.1 = n
  ok : chk9P bd pl = (0, 0)
theorem Whole9.of {bd : Int} {pl : List PI} (hp : PlOk pl) (h0 : 0 ≤ bd) (h : (chk9P bd pl).1 = 0) : Whole9 bd pl := by
  obtain ⟨c1, c2, c3⟩ := chk9_ok h
  have hs := lay_shape c2
  have hbd := (shape_ok hs).1
  refine ⟨hs, by omega, ids_range hp h0 hs, fun k hk h0 => flt_new (c3 k hk) h0, fun n hn h0 => ?_, c1⟩
  obtain ⟨p, hp', hn⟩ := List.mem_flatMap.1 hn
  obtain ⟨k, hk, rfl⟩ := List.getElem_of_mem hp'
  have hr : n = pl[k].2.2.1 ∨ n ∈ idsAt pl k := by
    unfold idsAt idsP idsN
    rw [ix_lt hk, List.take_length]
    simp only [allI, List.mem_cons] at hn
    rcases hn with e | e | e
    · right
      refine List.mem_append_left _ ?_
      rw [if_neg (by rw [← e]; exact h0), e]
      exact List.mem_singleton.2 rfl
    · exact .inl e
    · right
      exact List.mem_append_right _ e
  rcases hr with e | e
  · exact ⟨k, hk, by rw [ix_lt hk, e]⟩
  · have hf := c3 k hk
    unfold fltP at hf
    by_cases e1 : 0 ≤ makerI pl (ix pl k).2.2.1 k
    · rw [if_pos e1] at hf; exact absurd hf (by decide)
    rw [if_neg e1] at hf
    by_cases e2 : (idsAt pl k).any (fun id => decide (makerI pl id pl.length < 0)) = true
    · rw [if_pos e2] at hf; exact absurd hf (by decide)
    have : 0 ≤ makerI pl n pl.length := by
      rcases Int.lt_or_le (makerI pl n pl.length) 0 with q | q
      · exact absurd (List.any_eq_true.2 ⟨n, e, decide_eq_true q⟩) e2
      · exact q
    obtain ⟨j, hj, hm⟩ := makerI_iff.1 this
    unfold mk1 at hm
    rw [Bool.and_eq_true] at hm
    exact ⟨j, hj, beq_iff_eq.1 hm.1⟩
theorem Whole9.cnt {bd : Int} {pl : List PI} (h : Whole9 bd pl) : ((cntP pl pl.length : Nat) : Int) ≤ bd - 1 := by
  have hb := h.lim
  have := nodupI_le (bd - 1).toNat (resP pl pl.length) (resP_nodup h.new _ (Nat.le_refl _)) fun x hx => by
    unfold resP at hx
    obtain ⟨j, hj, rfl⟩ := List.mem_map.1 hx
    obtain ⟨hj, h0⟩ := List.mem_filter.1 hj
    have hj := List.mem_range.1 hj
    have h0 : (ix pl j).2.2.1 ≠ 0 := bne_iff_ne.1 h0
    have := h.rng (ix pl j).2.2.1 (by rw [ix_lt hj]; exact (mem_all hj).2.1)
    omega
  rw [resP_len] at this
  omega
theorem Whole9.rn_at {bd : Int} {pl : List PI} (h : Whole9 bd pl) {k : Nat} (hk : k < pl.length) (h0 : (ix pl k).2.2.1 ≠ 0) : ∀ K, k < K → K ≤ pl.length → rnP pl K (ix pl k).2.2.1 = ((cntP pl (k + 1) : Nat) : Int)
  | 0, h1, _ => by omega
  | K + 1, h1, h2 => by
    simp only [rnP]
    have hc := h.cnt
    have hb := h.lim
    have hm := cntP_mono pl (show k + 1 ≤ pl.length from hk)
    by_cases e : K = k
    · subst e
      rw [if_pos ⟨h0, rfl⟩]
      exact wrapU32_in (by omega) (by omega)
    · rw [if_neg, h.rn_at hk h0 K (by omega) (by omega)]
      rintro ⟨q1, q2⟩
      exact h.new K (by omega) q1 k (by omega) hk q2
theorem cnt_one {pl : List PI} {k : Nat} (h0 : (ix pl k).2.2.1 ≠ 0) : cntP pl (k + 1) = cntP pl k + 1 := by
  simp only [cntP]; rw [if_pos h0]
theorem Whole9.bnd {bd : Int} {pl : List PI} (h : Whole9 bd pl) : bndP pl = ((cntP pl pl.length : Nat) : Int) + 1 := by
  have hc := h.cnt
  have hb := h.lim
  exact wrapU32_in (by omega) (by omega)
theorem Whole9.turn {bd : Int} {pl : List PI} (h : Whole9 bd pl) : TurnOk (rnP pl pl.length) pl (bndP pl) := by
  have hc := h.cnt
  have hb := h.lim
  have hbn := h.bnd
  have at_ : ∀ n ∈ allP pl, n ≠ 0 → ∃ k, k < pl.length ∧ (ix pl k).2.2.1 = n ∧ rnP pl pl.length n = ((cntP pl (k + 1) : Nat) : Int) := fun n hn h0 => by
    obtain ⟨k, hk, e⟩ := h.made n hn h0
    refine ⟨k, hk, e, ?_⟩
    rw [← e]
    exact h.rn_at hk (by rw [e]; exact h0) _ hk (Nat.le_refl _)
  refine ⟨rnP_zero pl _, fun n hn h0 => ?_, fun m hm n hn e => ?_, by omega⟩
  · obtain ⟨k, hk, e1, e2⟩ := at_ n hn h0
    have := cntP_mono pl (show k + 1 ≤ pl.length from hk)
    have := cnt_one (pl := pl) (k := k) (by rw [e1]; exact h0)
    omega
  · by_cases m0 : m = 0
    · subst m0
      by_cases n0 : n = 0
      · exact n0.symm
      · obtain ⟨k, hk, e1, e2⟩ := at_ n hn n0
        rw [rnP_zero] at e
        have := cnt_one (pl := pl) (k := k) (by rw [e1]; exact n0)
        omega
    · by_cases n0 : n = 0
      · subst n0
        obtain ⟨k, hk, e1, e2⟩ := at_ m hm m0
        rw [rnP_zero] at e
        have := cnt_one (pl := pl) (k := k) (by rw [e1]; exact m0)
        omega
      · obtain ⟨j, hj, e1, e2⟩ := at_ m hm m0
        obtain ⟨k, hk, f1, f2⟩ := at_ n hn n0
        have cj := cnt_one (pl := pl) (k := j) (by rw [e1]; exact m0)
        have ck := cnt_one (pl := pl) (k := k) (by rw [f1]; exact n0)
        rcases Nat.lt_trichotomy j k with q | q | q
        · have := cntP_mono pl (show j + 1 ≤ k from q)
          omega
        · subst q; rw [← e1, f1]
        · have := cntP_mono pl (show k + 1 ≤ j from q)
          omega

end Go.Proofs

namespace Go.Proofs
open Go.Gk Go.RowKit Go.Gm

end Go.Proofs
namespace Go.Proofs
open Go.Gk Go.RowKit Go.Gm

abbrev Fv := Int × Int × Sl × Sl × Int × Unit
abbrev fvV (v : Fv) : List Value := [.int .u32 v.1, .int .i64 v.2.1, .slice v.2.2.1.a v.2.2.1.l v.2.2.1.c, .slice v.2.2.2.1.a v.2.2.2.1.l v.2.2.2.1.c, .int .i64 v.2.2.2.2.1]
abbrev fvA (v : Fv) : Value := .agg #[.int .u32 v.1, .int .i64 v.2.1, .slice v.2.2.1.a v.2.2.1.l v.2.2.1.c, .slice v.2.2.2.1.a v.2.2.2.1.l v.2.2.2.1.c, .int .i64 v.2.2.2.2.1]
abbrev IsBk (w : World) (s : Sl) (l : List (Int × Int × Int)) : Prop := IsC 3 blV w s l
structure IsFn (w : World) (v : Fv) (f : FnL) : Prop where
  id : v.1 = f.id
  at_ : v.2.1 = f.at_
  ps : IsI w v.2.2.1 f.ps
  bk : IsBk w v.2.2.2.1 f.bk
  en : v.2.2.2.2.1 = f.en
noncomputable instance fnD : DecidableEq FnL := fun _ _ => Classical.propDecidable _
section
variable {w w' : World} {v : Fv} {f g : FnL} {R : Value → World → Prop}
theorem IsFn.below (h : IsFn w v f) (hb : Below w.heap.size w w') : IsFn w' v f := ⟨h.id, h.at_, h.ps.below hb, IsC.below blV_len h.bk hb, h.en⟩
theorem Fv.load {b : Nat} {T : TypeId} (h : Blk w b T (fvV v)) {φ : Int → Int → Sl → Sl → Int → Prop} (hφ : φ v.1 v.2.1 v.2.2.1 v.2.2.2.1 v.2.2.2.2.1) :
    ldI w ((blk b).add 0) .u32 fun x1 => ldI w ((blk b).add 1) .i64 fun x2 => ldS w ((blk b).add 2) fun x3 => ldS w ((blk b).add 3) fun x4 => ldI w ((blk b).add 4) .i64 fun x5 => φ x1 x2 x3 x4 x5 :=
  h.rI (n := 0) (x := v.1) rfl (h.rI (n := 1) (x := v.2.1) rfl (h.rS (n := 2) (x := v.2.2.1) rfl (h.rS (n := 3) (x := v.2.2.2.1) rfl (h.rI (n := 4) (x := v.2.2.2.2.1) rfl hφ))))
theorem Fns.isFn {fs : Sl} {L : List Fe} (h : Fns w fs L) {x : Fe} (hx : x ∈ L) : IsFn w (x.1.id, x.1.at_, x.2.1, x.2.2, x.1.en, ()) x.1 :=
  ⟨rfl, rfl, (h.row x hx).1.isS, Own.isC blV_len (by omega) (h.row x hx).2, rfl⟩
theorem elemFn {fs : Sl} {L : List Fe} (h : Fns w fs L) {k : Nat} (hk : k < L.length) {φ : Int → Int → Sl → Sl → Int → Prop} (hφ : φ L[k].1.id L[k].1.at_ L[k].2.1 L[k].2.2 L[k].1.en) :
    (0 ≤ (k : Int) ∧ (k : Int) < (fs.l : Int)) ∧ derefP fs.a fun a => ldI w ((a.add (Int.toNat (k : Int) * 5)).add 0) .u32 fun x1 => ldI w ((a.add (Int.toNat (k : Int) * 5)).add 1) .i64 fun x2 => ldS w ((a.add (Int.toNat (k : Int) * 5)).add 2) fun x3 => ldS w ((a.add (Int.toNat (k : Int) * 5)).add 3) fun x4 => ldI w ((a.add (Int.toNat (k : Int) * 5)).add 4) .i64 fun x5 => φ x1 x2 x3 x4 x5 := by
  have hc : IsC 5 feV w fs L := Own.isC feV_len (by omega) h.own
  obtain ⟨a, ha⟩ := hc.base hk
  have hcell := hc.cell a ha k hk
  refine ⟨⟨by omega, by have := h.len; omega⟩, derefP_some ha ⟨_, ?_, _, ?_, _, ?_, _, ?_, _, ?_, hφ⟩⟩
  · rw [add_add']; exact hcell 0 (by omega)
  · rw [add_add']; exact hcell 1 (by omega)
  · rw [add_add']; exact hcell 2 (by omega)
  · rw [add_add']; exact hcell 3 (by omega)
  · rw [add_add']; exact hcell 4 (by omega)
theorem elemBk {s : Sl} {l : List (Int × Int × Int)} (h : IsBk w s l) {k : Nat} (hk : k < l.length) {φ : Int → Int → Int → Prop} (hφ : φ l[k].1 l[k].2.1 l[k].2.2) :
    (0 ≤ (k : Int) ∧ (k : Int) < (s.l : Int)) ∧ derefP s.a fun a => ldI w ((a.add (Int.toNat (k : Int) * 3)).add 0) .u32 fun x => ldI w ((a.add (Int.toNat (k : Int) * 3)).add 1) .i64 fun y => ldI w ((a.add (Int.toNat (k : Int) * 3)).add 2) .i64 fun z => φ x y z := by
  obtain ⟨a, ha⟩ := h.base hk
  have hc := h.cell a ha k hk
  refine ⟨⟨by omega, by have := h.len; omega⟩, derefP_some ha ⟨_, ?_, _, ?_, _, ?_, hφ⟩⟩
  · rw [add_add']; exact hc 0 (by omega)
  · rw [add_add']; exact hc 1 (by omega)
  · rw [add_add']; exact hc 2 (by omega)

theorem EqI_spec {s t : Sl} {l m : List Int} (hs : IsI w s l) (ht : IsI w t m) (hR : ∀ w', Below w.heap.size w w' → R (.bool (decide (l = m))) w') : callR Tryz.prog 132 #[.slice s.a s.l s.c, .slice t.a t.l t.c] w R := by
  refine callR.of (slices_Equal_sint_int_calls s t R w ?_) fun _ _ h => h
  have h1 := hs.len
  have h2 := ht.len
  have no : l ≠ m → ∀ {w'}, Below w.heap.size w w' → R (.bool false) w' := fun h {w'} hb => by
    have := hR w' hb
    rwa [decide_eq_false h] at this
  refine ifB_bne (fun e => no (fun h => e (by rw [h1, h2, h])) (Below.refl _ _)) (fun e => ?_)
  refine LoopW.count l.length hs.bound (fun k w' => Below w.heap.size w w' ∧ ∀ j (q1 : j < l.length) (q2 : j < m.length), j < k → l[j] = m[j]) ⟨Below.refl _ _, fun j _ _ h => by omega⟩ ?_
  rintro k w1 hk ⟨hb, hj⟩ next hnext
  refine ifB_dec (fun h => ?_) (fun h => ?_)
  · have hlt : k < l.length := by dsimp only at h; omega
    have hlm : k < m.length := by omega
    refine elemI (hs.below hb.drew) hlt (elemI (ht.below hb.drew) hlm (ifB_bne (fun e => no (fun g => e (by subst g; rfl)) hb.drew) (fun e => hnext _ hlt ⟨hb.drew, fun j q1 q2 hjk => ?_⟩)))
    by_cases ej : j = k
    · subst ej; exact e
    · exact hj j q1 q2 (by omega)
  · have hk' : k = l.length := by dsimp only at h; omega
    have := hR w1 hb
    rwa [decide_eq_true (List.ext_getElem (by omega) fun j q1 q2 => hj j q1 q2 (by omega))] at this
theorem EqB_spec {s t : Sl} {l m : List (Int × Int × Int)} (hs : IsBk w s l) (ht : IsBk w t m) (hR : ∀ w', Below w.heap.size w w' → R (.bool (decide (l = m))) w') : callR Tryz.prog 133 #[.slice s.a s.l s.c, .slice t.a t.l t.c] w R := by
  refine callR.of (slices_Equal_sapi_Block_api_Block_calls s t R w ?_) fun _ _ h => h
  have h1 := hs.len
  have h2 := ht.len
  have no : l ≠ m → ∀ {w'}, Below w.heap.size w w' → R (.bool false) w' := fun h {w'} hb => by
    have := hR w' hb
    rwa [decide_eq_false h] at this
  refine ifB_bne (fun e => no (fun h => e (by rw [h1, h2, h])) (Below.refl _ _)) (fun e => ?_)
  refine LoopW.count l.length hs.bound (fun k w' => Below w.heap.size w w' ∧ ∀ j (q1 : j < l.length) (q2 : j < m.length), j < k → l[j] = m[j]) ⟨Below.refl _ _, fun j _ _ h => by omega⟩ ?_
  rintro k w1 hk ⟨hb, hj⟩ next hnext
  refine ifB_dec (fun h => ?_) (fun h => ?_)
  · have hlt : k < l.length := by dsimp only at h; omega
    have hlm : k < m.length := by omega
    refine elemBk (IsC.below blV_len hs hb.drew) hlt (elemBk (IsC.below blV_len ht hb.drew) hlm (ifB_not (ifB_bool (fun e => hnext _ hlt ⟨hb.drew, fun j q1 q2 hjk => ?_⟩) (fun e => no (fun g => ?_) hb.drew))))
    · by_cases ej : j = k
      · subst ej
        simp only [Bool.and_true, Bool.and_eq_true, beq_iff_eq] at e
        exact Prod.ext e.1 (Prod.ext e.2.1 e.2.2)
      · exact hj j q1 q2 (by omega)
    · subst g
      simp at e
  · have hk' : k = l.length := by dsimp only at h; omega
    have := hR w1 hb
    rwa [decide_eq_true (List.ext_getElem (by omega) fun j q1 q2 => hj j q1 q2 (by omega))] at this
theorem sameF_spec {u : Fv} (hf : IsFn w v f) (hg : IsFn w u g) (hR : ∀ w', Below w.heap.size w w' → R (.bool (decide (f = g))) w') : callR Tryz.prog 87 #[fvA v, fvA u] w R := by
  refine callR.of (graph_same_calls v u R w ?_) fun _ _ h => h
  refine lay_of fun w1 hA1 b1 z1 => ?_
  have hA1 : Blk w1 w.heap.size 29 (fvV v) := hA1
  refine lay_of fun w2 hB2 b2 z2 => ?_
  have hB2 : Blk w2 w1.heap.size 29 (fvV u) := hB2
  have hA2 := hA1.below b2
  have hb2 := b1.on b2
  have no : f ≠ g → ∀ {w'}, Below w.heap.size w w' → R (.bool false) w' := fun h {w'} hb => by
    have := hR w' hb
    rwa [decide_eq_false h] at this
  refine hA2.rI0 (x := v.1) rfl (hB2.rI0 (x := u.1) rfl (ifB_beq (fun e1 => ?_) (fun e => no (fun h => e (by rw [hf.id, hg.id, h])) hb2)))
  refine hA2.rI (n := 1) (x := v.2.1) rfl (hB2.rI (n := 1) (x := u.2.1) rfl (ifB_beq (fun e2 => ?_) (fun e => no (fun h => e (by rw [hf.at_, hg.at_, h])) hb2)))
  refine hA2.rI (n := 4) (x := v.2.2.2.2.1) rfl (hB2.rI (n := 4) (x := u.2.2.2.2.1) rfl (ifB_beq (fun e3 => ?_) (fun e => no (fun h => e (by rw [hf.en, hg.en, h])) hb2)))
  refine hA2.rS (n := 2) (x := v.2.2.1) rfl (hB2.rS (n := 2) (x := u.2.2.1) rfl ?_)
  refine EqI_spec (hf.ps.below hb2) (hg.ps.below hb2) fun w3 b3 => ⟨_, rfl, ?_⟩
  have hb3 := hb2.on b3
  refine ifB_dec (fun e4 => ?_) (fun e => no (fun h => e (by rw [h])) hb3)
  refine (hA2.below b3).rS (n := 3) (x := v.2.2.2.1) rfl ((hB2.below b3).rS (n := 3) (x := u.2.2.2.1) rfl ?_)
  refine EqB_spec (IsC.below blV_len hf.bk hb3) (IsC.below blV_len hg.bk hb3) fun w4 b4 => ⟨_, rfl, ?_⟩
  have := hR w4 (hb3.on b4)
  have e : decide (f.bk = g.bk) = decide (f = g) := by
    rw [decide_eq_decide]
    constructor
    · intro e5
      have q1 := hf.id.symm.trans (e1.trans hg.id)
      have q2 := hf.at_.symm.trans (e2.trans hg.at_)
      have q3 := hf.en.symm.trans (e3.trans hg.en)
      cases f; cases g
      simp_all
    · intro h; rw [h]
  rw [e]
  exact this
theorem Contains_fn {fs : Sl} {L : List Fe} {vb : Nat} (hL : Fns w fs L) (hV : Blk w vb 29 (fvV v)) (hf : IsFn w v f) (hR : ∀ w', Below w.heap.size w w' → R (.bool (decide (f ∈ L.map (·.1)))) w') :
    callR Tryz.prog 85 #[.slice fs.a fs.l fs.c, .func (.func 86) #[] #[.pointer (some (blk vb))]] w R := by
  refine callR.of (slices_ContainsFunc_sapi_Func_api_Func_calls fs _ R w ?_) fun _ _ h => h
  refine callR.of (slices_IndexFunc_sapi_Func_api_Func_calls fs _ _ w ?_) fun _ _ h => h
  have hl := hL.len
  have hcap : fs.l ≤ 9223372036854775807 := by
    have hc : IsC 5 feV w fs L := Own.isC feV_len (by omega) hL.own
    have := hc.bound
    omega
  have hcf : Tryz.fs.contains 86 = true := by kernel_rfl
  refine LoopW.count L.length (by omega) (fun k w' => Below w.heap.size w w' ∧ ∀ j (h : j < L.length), j < k → L[j].1 ≠ f) ⟨Below.refl _ _, fun j _ h => by omega⟩ ?_
  rintro k w1 hk ⟨hb, hj⟩ next hnext
  refine ifB_dec (fun h => ?_) (fun h => ?_)
  · have hlt : k < L.length := by dsimp only at h; omega
    refine elemFn (hL.below hb) hlt ?_
    unfold callV
    simp only [hcf]
    refine callR.of (graph_New_1_calls (L[k].1.id, L[k].1.at_, L[k].2.1, L[k].2.2, L[k].1.en, ()) (blk vb) _ w1 ?_) fun _ _ h => h
    refine lay_of fun w2 hX2 b2 z2 => ?_
    have hX2 : Blk w2 w1.heap.size 29 (fvV (L[k].1.id, L[k].1.at_, L[k].2.1, L[k].2.2, L[k].1.en, ())) := hX2
    have hb2 := hb.on b2
    refine Fv.load hX2 (Fv.load (hV.below hb2) ?_)
    refine sameF_spec (((hL.below hb2).isFn (List.getElem_mem hlt))) (hf.below hb2) fun w3 b3 => ⟨_, rfl, _, rfl, ?_⟩
    have hb3 := hb2.on b3
    refine ifB_dec (fun e => ?_) (fun e => hnext w3 hlt ⟨hb3, fun j q1 q2 => ?_⟩)
    · refine ⟨_, rfl, ?_⟩
      have := hR w3 hb3
      rw [decide_eq_true (List.mem_map.2 ⟨L[k], List.getElem_mem hlt, e⟩)] at this
      rwa [decide_eq_true (by omega)]
    · by_cases ej : j = k
      · subst ej; exact e
      · exact hj j q1 (by omega)
  · refine ⟨_, rfl, ?_⟩
    have := hR w1 hb
    rw [decide_eq_false (fun hm => by
      obtain ⟨x, hx, e⟩ := List.mem_map.1 hm
      obtain ⟨j, hj', rfl⟩ := List.getElem_of_mem hx
      exact hj j hj' (by dsimp only at h; omega) e)] at this
    rwa [decide_eq_false (by decide)]
end

section
variable {x : Mo} {pl : List PI} {w : World} {R : Value → World → Prop}
theorem Cut_spec (hN : IsPl w x.2.2.1 pl) (hp : PlOk pl)
    (hok : ∀ fs L w', (layP x.2.1 pl).1 = 0 → Below w.heap.size w w' → Fns w' fs L → L.map (·.1) = cutF pl pl.length → R (.tuple #[.slice fs.a fs.l fs.c, .agg #[.int .i64 0, .int .i64 0]]) w')
    (hbad : ∀ w', (layP x.2.1 pl).1 ≠ 0 → Below w.heap.size w w' → R (.tuple #[.slice none 0 0, .agg #[.int .i64 (layP x.2.1 pl).1, .int .i64 ((layP x.2.1 pl).2 : Int)]]) w') :
    callR Tryz.prog 45 #[moA x] w R := by
  refine callR.of (layout_Cut_calls x R w ?_) fun _ _ h => h
  refine lay_of fun w1 hB1 b1 z1 => ?_
  have hB1 : Blk w1 w.heap.size 25 (moV x) := hB1
  refine lay_of fun w2 hC2 b2 z2 => ?_
  have hC2 : Blk w2 w1.heap.size 33 [.int .i64 0, .int .i64 0] := hC2
  have hb2 := b1.on b2
  refine Mo.load (hB1.below b2) ?_
  refine read_spec (x := x) (hN.below hb2) hp (fun bc ps fs L w3 hlay hC3 hP hL hF hcut hg => ⟨some (blk bc), (0, 0, ()), rfl, ?_⟩) (fun w3 b3 hne => ⟨none, ((layP x.2.1 pl).1, ((layP x.2.1 pl).2 : Int), ()), rfl, ?_⟩)
  · refine box2 rfl fun w6 h6 b6 z6 => ?_
    have b26 := hC3.b0.on b6
    have hCc := (hC3.below b6).drew
    have hS6 := (hC2.below b26).drew
    have h6' := h6.drew
    refine ifB_false rfl (derefP_some rfl ?_)
    refine hCc.blk.rS (n := 22) (x := fs) (ctV_f hCc.len) ?_
    have s26 := b26.size
    refine Sp.load h6' (st2 hS6 rfl fun w8 hS8 c8 => Sp.load hS8 ?_)
    have hL6 : Fns w6.drew fs L := (hL.below b6).below (Below.refl _ _).drew
    exact hok fs L w8 (by rw [hlay]) (c8.below ((hb2.on b26).drew) (by omega)) (hL6.chg c8 hS6 (by decide) (by decide) (by decide)) hcut.symm
  · refine box2 rfl fun w6 h6 b6 z6 => ?_
    have b26 := b3.on b6
    have hS6 := (hC2.below b26).drew
    have h6' := h6.drew
    refine ifB_true rfl (Sp.load h6' (st2 hS6 rfl fun w8 hS8 c8 => Sp.load hS8 ?_))
    exact hbad w8 hne (c8.below ((hb2.on b26).drew) (by omega))
end

theorem uFind : Tryz.prog.underlying 131 = some (.map 22 3) := by kernel_rfl
section
variable {w : World} {R : Value → World → Prop} {r : Nat} {M : List (Int × Int)}
theorem all_find {s : Sl} {ls : List Int} (hM : IsMp w r .i64 M) (hs : IsS (Value.int .u32) w s ls) (hmax : 8 * ls.length ≤ 140737488355328)
    (hok : ∀ t w', (∀ n ∈ ls, (lookL M n).isSome = true) → Own w' 3 1 t ((ls.map fun n => (lookL M n).getD 0).map (Value.int .i64)) → Fresh w.heap.size t → Below w.heap.size w w' → R (.tuple #[.slice t.a t.l t.c, .bool true]) w')
    (hbad : ∀ w', (∃ n ∈ ls, lookL M n = none) → Below w.heap.size w w' → R (.tuple #[.slice none 0 0, .bool false]) w') :
    callR Tryz.prog 89 #[.map (some r), .slice s.a s.l s.c] w R := by
  refine callR.of (graph_finder_all_calls (some r) s R w ?_) fun _ _ h => h
  have hl := hs.len
  refine LoopW.countSl ls.length hs.bound (fun k t w' => Own w' 3 1 t (((ls.take k).map fun n => (lookL M n).getD 0).map (Value.int .i64)) ∧ Fresh w.heap.size t ∧ Below w.heap.size w w' ∧ ∀ j (h : j < ls.length), j < k → (lookL M ls[j]).isSome = true)
    ⟨Own.nil _ _ _, fun a ha => by (cases ha), Below.refl _ _, fun j _ h => by omega⟩ ?_
  rintro k t w1 hk ⟨hO, hF, hb, hj⟩ next hnext
  refine ifB_dec (fun h => ?_) (fun h => ?_)
  · have hlt : k < ls.length := by dsimp only at h; omega
    refine elemU (hs.below hb) hlt (lookOk_of uFind uU32 zInt (hM.below hb) ?_)
    refine ifB_not (ifB_bool (fun hsome => ?_) (fun hnone => ?_))
    · refine lay_of fun w2 hD2 b2 z2 => ?_
      have htl : t.l = k := by
        have := hO.1
        rw [List.length_map, List.length_map, List.length_take] at this
        omega
      refine push_fresh eInt (hO.below b2) (hb.on b2) hF rfl hD2 (by omega) (by omega) fun t' w3 hO3 hb3 hF3 => hnext t' w3 hlt ⟨?_, hF3, hb3, fun j q1 q2 => ?_⟩
      · rw [List.take_succ_eq_append_getElem hlt, List.map_append, List.map_append]
        exact hO3
      · by_cases ej : j = k
        · subst ej; exact hsome
        · exact hj j q1 (by omega)
    · have hnone : (lookL M ls[k]).isSome = false := hnone
      exact hbad w1 ⟨ls[k], List.getElem_mem hlt, by simpa using hnone⟩ hb
  · have hk' : k = ls.length := by dsimp only at h; omega
    subst hk'
    rw [List.take_length] at hO
    refine hok t w1 (fun n hn => ?_) hO hF hb
    obtain ⟨j, hj', rfl⟩ := List.getElem_of_mem hn
    exact hj j hj' hj'
/-- What stands right ahead of a block's last instruction says. -/
def mrgP (M : List (Int × Int)) (op : Int) (al : List Ag) (lop : Int) : Option Mg :=
  if op = 247 then (match lookL M (al.getD 0 ag0).2.1 with
    | some a => some (if lop = 251 then 3 else 1, a, -1)
    | none => none)
  else if op = 246 then (match lookL M (al.getD 0 ag0).2.1, lookL M (al.getD 1 ag0).2.1 with
    | some a, some b => some (2, a, b)
    | _, _ => none)
  else some (0, -1, -1)
theorem merge_spec {i last : Ins} {al : List Ag} (hM : IsMp w r .i64 M) (hI : IsAg w i.2.2.2.1 al) (h1 : i.1 = 247 → 0 < al.length) (h2 : i.1 = 246 → 1 < al.length)
    (hR : ∀ (m : Mg) (b : Bool) w', Below w.heap.size w w' → (b = true → mrgP M i.1 al last.1 = some m) → (b = false → mrgP M i.1 al last.1 = none) → R (.tuple #[.agg #[.int .u8 m.1, .int .i64 m.2.1, .int .i64 m.2.2], .bool b]) w') :
    callR Tryz.prog 88 #[.map (some r), inA i, inA last] w R := by
  refine callR.of (graph_finder_merge_calls (some r) i last R w ?_) fun _ _ h => h
  refine lay_of fun w1 hA1 b1 z1 => ?_
  have hA1 : Blk w1 w.heap.size 41 (inV i) := hA1
  refine lay_of fun w2 hB2 b2 z2 => ?_
  have hB2 : Blk w2 w1.heap.size 41 (inV last) := hB2
  refine lay_of fun w3 hX3 b3 z3 => ?_
  have hX3 : Blk w3 w2.heap.size 121 [.int .u8 0, .int .i64 0, .int .i64 0] := hX3
  refine box3 rfl fun w7 hY7 b7 z7 => ?_
  have hY7 : Blk w7 w3.heap.size 121 (mgV (0, -1, -1)) := hY7
  have b17 := (b2.on b3).on b7
  have hb7 := b1.on b17
  have hA7 := hA1.below b17
  have hB7 := hB2.below (b3.on b7)
  have hX7 := hX3.below b7
  have hM7 := hM.below hb7
  have hI7 : IsAg w7 i.2.2.2.1 al := hI.below hb7
  have hal := hI.len
  have out : ∀ {w' : World} (y : Mg), Blk w' w2.heap.size 121 [.int .u8 0, .int .i64 0, .int .i64 0] → ∀ {K : Int → Int → Int → World → Prop}, (∀ w'', Chg w2.heap.size w' w'' → K y.1 y.2.1 y.2.2 w'') →
      Wr w' (blk w2.heap.size) ∧ Nw (w'.setCell (blk w2.heap.size) (.int .u8 y.1)) fun w10 => Wr w10 ((blk w2.heap.size).add 1) ∧ Nw (w10.setCell ((blk w2.heap.size).add 1) (.int .i64 y.2.1)) fun w11 => Wr w11 ((blk w2.heap.size).add 2) ∧ Nw (w11.setCell ((blk w2.heap.size).add 2) (.int .i64 y.2.2)) fun w12 =>
        ldI w12 ((blk w2.heap.size).add 0) .u8 fun x11 => ldI w12 ((blk w2.heap.size).add 1) .i64 fun x12 => ldI w12 ((blk w2.heap.size).add 2) .i64 fun x13 => K x11 x12 x13 w12 := fun {w'} y hX {K} hK =>
    st3 hX rfl fun w'' hX'' c => hX''.rI (n := 0) (x := y.1) rfl (hX''.rI (n := 1) (x := y.2.1) rfl (hX''.rI (n := 2) (x := y.2.2) rfl (hK w'' c)))
  have ldY : ∀ {w' : World}, Blk w' w3.heap.size 121 (mgV (0, -1, -1)) → ∀ {φ : Int → Int → Int → Prop}, φ 0 (-1) (-1) → ldI w' ((blk w3.heap.size).add 0) .u8 fun x8 => ldI w' ((blk w3.heap.size).add 1) .i64 fun x9 => ldI w' ((blk w3.heap.size).add 2) .i64 fun x10 => φ x8 x9 x10 := fun {w'} hY {φ} hφ =>
    hY.rI (n := 0) (x := 0) rfl (hY.rI (n := 1) (x := -1) rfl (hY.rI (n := 2) (x := -1) rfl hφ))
  refine hA7.rI0 (x := i.1) rfl (ifB_beq (fun e247 => ?_) (fun e247 => ?_))
  · have hl0 := h1 e247
    have hm : mrgP M i.1 al last.1 = (match lookL M (al.getD 0 ag0).2.1 with
        | some a => some (if last.1 = 251 then 3 else 1, a, -1)
        | none => none) := by unfold mrgP; rw [if_pos e247]
    refine hA7.rS (n := 3) (x := i.2.2.2.1) rfl ?_
    refine elemAn hI7 (k := 0) hl0 ?_
    refine lay_of fun w8 hD8 b8 z8 => ?_
    have hD8 : Blk w8 w7.heap.size 22 (([al[0].2.1] : List Int).map (Value.int .u32)) := hD8
    refine all_find (s := ⟨some (blk w7.heap.size), 1, 1⟩) (ls := [al[0].2.1]) (hM7.below b8) (hD8.isS rfl rfl (Nat.le_refl _) (by dsimp only; omega)) (by simp) (fun t w9 hs hO9 hF9 b9 => ⟨t, true, rfl, ifB_false rfl ?_⟩) (fun w9 hn b9 => ⟨⟨none, 0, 0⟩, false, rfl, ifB_true rfl ?_⟩)
    · have b79 := b8.on b9
      have hs0 := hs _ (List.mem_singleton.2 rfl)
      obtain ⟨a, ha⟩ := Option.isSome_iff_exists.1 hs0
      rw [getD_lt hl0, ha] at hm
      have hO9 : Own w9 3 1 t ([a].map (Value.int .i64)) := by
        simp only [List.map_cons, List.map_nil, ha, Option.getD_some] at hO9 ⊢
        exact hO9
      refine JoinW.cut (fun (st : Int × Unit) w' => w' = w9 ∧ st.1 = if last.1 = 251 then 3 else 1) ?_ ?_
      · refine (hB7.below b79).rI0 (x := last.1) rfl (ifB_beq (fun e => ⟨rfl, ?_⟩) (fun e => ⟨rfl, ?_⟩))
        · rw [if_pos e]
        · rw [if_neg e]
      · rintro ⟨kd, _⟩ w9 ⟨rfl, rfl⟩
        refine elemI hO9.isS (k := 0) (by simp) ?_
        refine out (if last.1 = 251 then 3 else 1, a, -1) (hX7.below b79) fun w12 c12 => ?_
        exact hR _ true w12 (c12.below (hb7.on b79) (by have := b1.size; have := b2.size; omega)) (fun _ => hm) (fun h => by cases h)
    · have b79 := b8.on b9
      obtain ⟨n, hn1, hn2⟩ := hn
      rw [List.mem_singleton.1 hn1] at hn2
      rw [getD_lt hl0, hn2] at hm
      refine ldY (hY7.below b79) (out (0, -1, -1) (hX7.below b79) fun w12 c12 => ?_)
      exact hR (0, -1, -1) false w12 (c12.below (hb7.on b79) (by have := b1.size; have := b2.size; omega)) (fun h => by cases h) (fun _ => hm)
  refine ifB_beq (fun e246 => ?_) (fun e246 => ?_)
  · have hl0 := h2 e246
    have hm : mrgP M i.1 al last.1 = (match lookL M (al.getD 0 ag0).2.1, lookL M (al.getD 1 ag0).2.1 with
        | some a, some b => some (2, a, b)
        | _, _ => none) := by unfold mrgP; rw [if_neg e247, if_pos e246]
    have bd : Below w7.heap.size w7 w7.drew := (Below.refl _ _).drew
    have hId : IsAg w7.drew i.2.2.2.1 al := hI7.below bd
    refine hA7.drew.rS (n := 3) (x := i.2.2.2.1) rfl ?_
    refine elemAn hId (k := 0) (by omega) ?_
    refine hA7.drew.rS (n := 3) (x := i.2.2.2.1) rfl ?_
    refine elemAn hId (k := 1) hl0 ?_
    refine lay_of fun w8 hD8 b8 z8 => ?_
    have hD8 : Blk w8 w7.drew.heap.size 22 (([al[0].2.1, al[1].2.1] : List Int).map (Value.int .u32)) := hD8
    have b78 := bd.on b8
    refine all_find (s := ⟨some (blk w7.drew.heap.size), 2, 2⟩) (ls := [al[0].2.1, al[1].2.1]) (hM7.below b78) (hD8.isS rfl rfl (Nat.le_refl _) (by dsimp only; omega)) (by simp) (fun t w9 hs hO9 hF9 b9 => ⟨t, true, rfl, ifB_false rfl ?_⟩) (fun w9 hn b9 => ⟨⟨none, 0, 0⟩, false, rfl, ifB_true rfl ?_⟩)
    · have b79 := b78.on b9
      obtain ⟨a, ha⟩ := Option.isSome_iff_exists.1 (hs al[0].2.1 (by simp))
      obtain ⟨b, hb⟩ := Option.isSome_iff_exists.1 (hs al[1].2.1 (by simp))
      rw [getD_lt (show 0 < al.length by omega), getD_lt hl0, ha, hb] at hm
      have hO9 : Own w9 3 1 t ([a, b].map (Value.int .i64)) := by
        simp only [List.map_cons, List.map_nil, ha, hb, Option.getD_some] at hO9 ⊢
        exact hO9
      refine elemI hO9.drew.isS (k := 0) (by simp) (elemI hO9.drew.isS (k := 1) (by simp) ?_)
      refine out (2, a, b) ((hX7.below b79).drew) fun w12 c12 => ?_
      exact hR _ true w12 (c12.below ((hb7.on b79).drew) (by have := b1.size; have := b2.size; omega)) (fun _ => hm) (fun h => by cases h)
    · have b79 := b78.on b9
      obtain ⟨n, hn1, hn2⟩ := hn
      have hm' : mrgP M i.1 al last.1 = none := by
        rw [hm, getD_lt (show 0 < al.length by omega), getD_lt hl0]
        rcases List.mem_cons.1 hn1 with e | e
        · rw [← e, hn2]
        · rw [← List.mem_singleton.1 e, hn2]
          cases lookL M al[0].2.1 <;> rfl
      refine ldY (hY7.below b79) (out (0, -1, -1) (hX7.below b79) fun w12 c12 => ?_)
      exact hR (0, -1, -1) false w12 (c12.below (hb7.on b79) (by have := b1.size; have := b2.size; omega)) (fun h => by cases h) (fun _ => hm')
  · refine ldY hY7 (out (0, -1, -1) hX7 fun w12 c12 => ?_)
    exact hR (0, -1, -1) true w12 (c12.below hb7 (by have := b1.size; have := b2.size; omega)) (fun _ => by unfold mrgP; rw [if_neg e247, if_neg e246]) (fun h => by cases h)
end
end Go.Proofs
namespace Go.Proofs
open Go.Gk Go.RowKit Go.Gm

theorem eInst : ElemT Tryz.prog 23 41 4 40 := ⟨by kernel_rfl, Tryz.t41, .agg #[.int .u16 0, .int .u32 0, .int .u32 0, .slice none 0 0], by kernel_rfl, rfl, rfl, rfl, rfl⟩
theorem eArg : ElemT Tryz.prog 39 61 3 24 := ⟨by kernel_rfl, Tryz.t61, .agg #[.int .u8 0, .int .u32 0, .string (ByteArray.mk #[])], by kernel_rfl, rfl, rfl, rfl, rfl⟩
/-- append of one element of some cells: what lies elsewhere stays. -/
theorem push_keep {P : Program} {t e : TypeId} {sz bytes : Nat} (he : ElemT P t e sz bytes) {w0 w : World} {s : Sl} {xs : List Value} (h : Own w e sz s xs) (hb : Below w0.heap.size w0 w) (hF : Fresh w0.heap.size s) {vs : List Value} (hvs : vs.length = sz) (hv : ∀ u ∈ vs, u.oneCell' = true) {b c : Nat} {T : TypeId}
    (hB : Blk w b T vs) (h63 : s.l + 1 ≤ 9223372036854775807) (hbytes : (s.l + 1) * bytes ≤ 140737488355328) {k : Sl → World → Prop}
    (hk : ∀ r w', Own w' e sz r (xs ++ vs) → Below w0.heap.size w0 w' → Fresh w0.heap.size r → w.heap.size ≤ w'.heap.size → (∀ i, i < w.heap.size → s.a ≠ some (blk i) → w'.heap[i]? = w.heap[i]?) → k r w') : appendS P t (.slice s.a s.l s.c) (.slice (some (blk b)) 1 c) w k := by
  refine append_own he h (news := vs) (by omega) (fun j u hj => hB.cell hj) hv h63 hbytes fun r w' h1 hl' hg => ?_
  rcases hg with ⟨_, _, h3⟩ | ⟨b', h3, h4, h5⟩
  · rw [h3] at hl'; omega
  · have hbb : w0.heap.size ≤ b' := by
      rcases h4 with h4 | h4
      · exact hF _ h4
      · have := hb.size
        omega
    refine hk r w' h1 (hb.trans (below_grown h5 hbb hb.size)) (fun a ha => by rw [h3] at ha; cases ha; exact hbb) (below_grown h5 (Nat.zero_le _) (Nat.zero_le _)).size fun i hi hne => h5.block _ hi fun e => ?_
    have e := Option.some.inj e
    subst e
    rcases h4 with h4 | h4
    · exact hne h4
    · omega
def OwnPl (w : World) (B : Nat) (s : Sl) (pl : List PI) : Prop :=
  ∃ hs : List Ins, hs.length = pl.length ∧ Own w 41 4 s (flat inV hs) ∧ Fresh B s ∧ ∀ (j : Nat) (h : j < hs.length) (h' : j < pl.length), ∃ t, hs[j] = mkIn pl[j] t ∧ Own w 61 3 t (flat agV pl[j].2.2.2) ∧ Fresh B t
section
variable {w w' w0 : World} {B : Nat} {s t : Sl} {pl : List PI} {p : PI}
theorem OwnPl.keep (h : OwnPl w B s pl) (hk : ∀ i, B ≤ i → i < w.heap.size → w'.heap[i]? = w.heap[i]?) : OwnPl w' B s pl := by
  obtain ⟨hs, h1, h2, h3, h4⟩ := h
  refine ⟨hs, h1, h2.of_block fun a ha => hk _ (h3 a ha) (h2.lt ha).2, h3, fun j hj hj' => ?_⟩
  obtain ⟨t, e, h5, h6⟩ := h4 j hj hj'
  exact ⟨t, e, h5.of_block fun a ha => hk _ (h6 a ha) (h5.lt ha).2, h6⟩
theorem OwnPl.below (h : OwnPl w B s pl) (hb : Below w.heap.size w w') : OwnPl w' B s pl := h.keep fun i _ hi => hb.block i hi
theorem OwnPl.nil (w : World) (B : Nat) : OwnPl w B ⟨none, 0, 0⟩ [] := ⟨[], rfl, Own.nil _ _ _, fun a ha => by (cases ha), fun j h => by (cases h)⟩
theorem OwnPl.isPl (h : OwnPl w B s pl) : IsPl w s pl := by
  obtain ⟨hs, h1, h2, h3, h4⟩ := h
  have hc : IsC 4 inV w s hs := Own.isC inV_len (by omega) h2
  refine ⟨by rw [hc.len, h1], hc.cap, hc.max, hc.nil, fun a ha k hk => ?_⟩
  obtain ⟨t, e, h5, h6⟩ := h4 k (by omega) hk
  refine ⟨t, fun j hj => ?_, Own.isC agV_len (by omega) h5⟩
  rw [← e]
  exact hc.cell a ha k (by omega) j hj
theorem own_notBlk {T T' : TypeId} {sz b : Nat} {xs cs : List Value} (h : Own w T sz s xs) (hB : Blk w b T' cs) (hT : T ≠ T') : s.a ≠ some (Gk.blk b) := fun e => by
  obtain ⟨cs', h'⟩ := h.type e
  exact Blk.apart h' hB hT rfl
theorem own_notOwn {T T' : TypeId} {sz sz' : Nat} {xs ys : List Value} (h : Own w T sz s xs) (k : Own w T' sz' t ys) (hT : T ≠ T') {a : Addr} (ha : t.a = some a) : s.a ≠ some (Gk.blk a.block) := fun e => by
  obtain ⟨cs', h'⟩ := k.type ha
  exact own_notBlk h h' hT e
theorem OwnPl.push {b c : Nat} (h : OwnPl w w0.heap.size s pl) (hb : Below w0.heap.size w0 w) (ht : Own w 61 3 t (flat agV p.2.2.2)) (hF : Fresh w0.heap.size t) (hB : Blk w b 41 (inV (mkIn p t))) (hl : 40 * (pl.length + 1) ≤ 140737488355328) {K : Sl → World → Prop}
    (hK : ∀ r w', OwnPl w' w0.heap.size r (pl ++ [p]) → Below w0.heap.size w0 w' → w.heap.size ≤ w'.heap.size → (∀ i T cs, Blk w i T cs → T ≠ 41 → w'.heap[i]? = w.heap[i]?) → K r w') : appendS Tryz.prog 23 (.slice s.a s.l s.c) (.slice (some (blk b)) 1 c) w K := by
  have hsl := h.isPl.len
  obtain ⟨hs, h1, h2, h3, h4⟩ := h
  refine push_keep eInst h2 hb h3 rfl (by simp [Value.oneCell']) hB (by omega) (by omega) fun r w' k1 k2 k3 k4 k5 => hK r w' ⟨hs ++ [mkIn p t], by simp [h1], ?_, k3, ?_⟩ k2 k4 fun i T cs hi hT => k5 i hi.lt (own_notBlk h2 hi hT.symm)
  · simpa [flat] using k1
  · intro j hj hj'
    by_cases hlt : j < hs.length
    · obtain ⟨t', e, h5, h6⟩ := h4 j hlt (by omega)
      rw [List.getElem_append_left hlt]
      have e2 : (pl ++ [p])[j] = pl[j]'(by omega) := List.getElem_append_left (by omega)
      rw [e2]
      exact ⟨t', e, h5.of_block fun a ha => k5 _ (h5.lt ha).2 (own_notOwn h2 h5 (by decide) ha), h6⟩
    · have ej : j = hs.length := by simp at hj; omega
      subst ej
      have e2 : (pl ++ [p])[hs.length] = p := by simp [h1]
      rw [e2]
      exact ⟨t, by simp, ht.of_block fun a ha => k5 _ (ht.lt ha).2 (own_notOwn h2 ht (by decide) ha), hF⟩
end


theorem CloneA_spec {s : Sl} {l : List Ag} {w : World} {R : Value → World → Prop} (h : IsAg w s l) (h24 : 24 * l.length ≤ 140737488351232)
    (hR : ∀ r w', Own w' 61 3 r (flat agV l) → Fresh w.heap.size r → Below w.heap.size w w' → R (.slice r.a r.l r.c) w') :
    callR Tryz.prog 110 #[.slice s.a s.l s.c] w R := by
  refine callR.of (slices_Clone_sapi_Arg_api_Arg_calls s R w ?_) fun _ _ h => h
  refine ifB_bool (fun hn => ?_) (fun hn => ?_)
  · have hn : s.a = none := by simpa using hn
    have hc := h.nil hn
    have : l = [] := List.eq_nil_of_length_eq_zero (by have := h.len; have := h.cap; omega)
    subst this
    exact hR ⟨none, 0, 0⟩ w (Own.nil _ _ _) (fun a ha => by cases ha) (Below.refl _ _)
  · obtain ⟨a, ha⟩ : ∃ a, s.a = some a := by
      cases hs : s.a with
      | none => rw [hs] at hn; cases hn
      | some a => exact ⟨a, rfl⟩
    refine Nw.gen fun w1 hw1 => ?_
    have hB : Blk w1 w.heap.size 61 [] := by rw [hw1]; exact Blk.new w 61 #[]
    have hb1 : Below w.heap.size w w1 := by rw [hw1]; exact (Below.refl _ _).alloc (Nat.le_refl _) _
    have hO : Own w1 61 3 ⟨some (blk w.heap.size), 0, 0⟩ [] := ⟨rfl, .inr ⟨_, [], rfl, hB, Nat.le_refl _, by simp, rfl, rfl⟩⟩
    have h' := IsAg.below h hb1
    rw [ha, h.len]
    refine append_own eArg hO (m := l.length) (news := flat agV l) (flat_length agV_len l) (fun j u hj => ?_) (fun u hu => ?_) (by have := h.bound; simp; omega) (by simp; omega) fun r w' h1 _ h3 => ?_
    · have hlt : j < l.length * 3 := by
        have := (List.getElem?_eq_some_iff.1 hj).1
        rwa [flat_length agV_len] at this
      have e : j = j / 3 * 3 + j % 3 := by omega
      have hg := flat_get agV_len l (j / 3) (by omega) (j % 3) (by omega)
      have hc := h'.cell a ha (j / 3) (by omega) (j % 3) (by omega)
      rw [e] at hj
      rw [e, hc, ← hg, hj]
    · obtain ⟨x, _, hx⟩ := List.mem_flatMap.1 hu
      simp only [agV, List.mem_cons, List.not_mem_nil, or_false] at hx
      rcases hx with rfl | rfl | rfl <;> rfl
    · have h1 : Own w' 61 3 r (flat agV l) := by simpa using h1
      rcases h3 with ⟨h4, h5, h6⟩ | ⟨b, h4, h5, h6⟩
      · subst h5
        exact hR _ _ h1 (fun a ha => by rw [h4] at ha; cases ha) hb1
      · have hbb : w.heap.size ≤ b := by
          rcases h5 with h5 | h5
          · cases h5; exact Nat.le_refl _
          · have := hb1.size; omega
        exact hR _ _ h1 (fun a ha => by rw [h4] at ha; cases ha; exact hbb) (hb1.trans (below_grown h6 hbb hb1.size))
/-- One argument's number is written. -/
theorem flat_num : ∀ (l : List Ag) (i : Nat) (h : i < l.length) (v : Int), (flat agV l).set (i * 3 + 1) (.int .u32 v) = flat agV (l.set i (l[i].1, v, l[i].2.2))
  | a :: l, 0, _, v => rfl
  | a :: l, i + 1, h, v => by
    have ih := flat_num l i (by simpa using h) v
    simp only [flat, List.flatMap_cons, List.set_cons_succ, List.getElem_cons_succ] at ih ⊢
    rw [List.set_append_right _ _ (by rw [agV_len]; omega), agV_len, ← ih]
    congr 2
    omega
theorem Own.num {w : World} {q : Sl} {b : Nat} {l : List Ag} (h : Own w 61 3 q (flat agV l)) (ha : q.a = some (blk b)) {i : Nat} (hi : i < l.length) (v : Int) :
    Wr w ((blk b).add (i * 3 + 1)) ∧ Own (w.setCell ((blk b).add (i * 3 + 1)) (.int .u32 v)) 61 3 q (flat agV (l.set i (l[i].1, v, l[i].2.2))) := by
  obtain ⟨h1, h2⟩ := h
  rw [flat_length agV_len] at h1
  rcases h2 with rfl | ⟨b', cs, e, hB, h3, h4, h5, h6⟩
  · cases ha
  · rw [ha] at e
    have e : b = b' := by injection e with e; injection e
    subst e
    refine ⟨hB.wr ?_, by rw [flat_length agV_len, List.length_set]; exact h1, .inr ⟨b, _, ha, hB.set _ _, h3, h4, by rw [List.length_set]; exact h5, ?_⟩⟩
    · have : q.l * 3 ≤ q.c * 3 := Nat.mul_le_mul_right _ h3
      omega
    · rw [List.take_set, h6, flat_num l i hi v]

end Go.Proofs

namespace Go.Proofs
open Go.Gk Go.RowKit Go.Gm

theorem lenW_of {P : Program} {t kt et : TypeId} (ht : P.underlying t = some (.map kt et)) {w : World} {r : Nat} {κ : IntKind} {L : List (Int × Int)} (h : IsMp w r κ L) {φ : Int → Prop} (hφ : φ (L.length : Int)) : lenW P t (.map (some r)) w φ := by
  obtain ⟨es, c, hb, hes, _⟩ := h
  have hl : es.size = L.length := by
    have := congrArg List.length hes
    simpa using this
  refine ⟨(L.length : Int), ?_, hφ⟩
  have hg : (getObj r).run P w = .ok (.map es c) w := Go.MapKept.run_getObj_map hb
  unfold Builtin.len_
  simp only [List.getElem?_toArray, List.getElem?_cons_zero, Sem.run_bind, run_underlying ht, Result.andThen_ok, hg, Sem.run_pure, hl, goInt]
theorem st123 {b : Nat} {T : TypeId} {v0 v1 v2 v3 u1 u2 u3 : Value} {K : World → Prop} {w : World} (hB : Blk w b T [v0, v1, v2, v3]) (hK : ∀ w', Blk w' b T [v0, u1, u2, u3] → Chg b w w' → K w') :
    Wr w ((blk b).add 1) ∧ Nw (w.setCell ((blk b).add 1) u1) fun w1 => Wr w1 ((blk b).add 2) ∧ Nw (w1.setCell ((blk b).add 2) u2) fun w2 => Wr w2 ((blk b).add 3) ∧ Nw (w2.setCell ((blk b).add 3) u3) fun w3 => K w3 :=
  ⟨hB.wr (by simp), Nw.mk ⟨(hB.set 1 u1).wr (by simp), Nw.mk ⟨((hB.set 1 u1).set 2 u2).wr (by simp), Nw.mk (hK _ (((hB.set 1 u1).set 2 u2).set 3 u3) (((Chg.set b 1 w u1).trans (Chg.set b 2 _ u2)).trans (Chg.set b 3 _ u3)))⟩⟩⟩
theorem OwnPl.chg {w w' : World} {B b : Nat} {s : Sl} {pl : List PI} (h : OwnPl w B s pl) (c : Chg b w w') (hb : b < B) : OwnPl w' B s pl := h.keep fun i hi _ => c.block i (by omega)
theorem OwnPl.lower {w : World} {B B' : Nat} {s : Sl} {pl : List PI} (h : OwnPl w B s pl) (hB : B' ≤ B) : OwnPl w B' s pl := by
  obtain ⟨hs, h1, h2, h3, h4⟩ := h
  refine ⟨hs, h1, h2, fun a ha => Nat.le_trans hB (h3 a ha), fun j hj hj' => ?_⟩
  obtain ⟨t, e, h5, h6⟩ := h4 j hj hj'
  exact ⟨t, e, h5, fun a ha => Nat.le_trans hB (h6 a ha)⟩
/-- The first i arguments under other ids. -/
def upTo (g : Int → Int) (al : List Ag) (i : Nat) : List Ag := (al.take i).map (turnA g) ++ al.drop i
section
variable {g : Int → Int} {al : List Ag} {i : Nat}
theorem upTo_len : (upTo g al i).length = al.length := by
  unfold upTo
  rw [List.length_append, List.length_map, List.length_take, List.length_drop]
  omega
theorem upTo_get (hi : i < al.length) (h : i < (upTo g al i).length) : (upTo g al i)[i] = al[i] := by
  have e : (upTo g al i)[i]? = some al[i] := by
    unfold upTo
    rw [List.getElem?_append_right (by rw [List.length_map, List.length_take]; omega), List.length_map, List.length_take, Nat.min_eq_left (Nat.le_of_lt hi), Nat.sub_self, List.getElem?_drop, Nat.add_zero, List.getElem?_eq_getElem hi]
  exact (List.getElem?_eq_some_iff.1 e).2
theorem upTo_set (hi : i < al.length) : (upTo g al i).set i (turnA g al[i]) = upTo g al (i + 1) := by
  unfold upTo
  rw [List.set_append_right _ _ (by rw [List.length_map, List.length_take]; omega), List.take_succ_eq_append_getElem hi, List.map_append, List.length_map, List.length_take, Nat.min_eq_left (Nat.le_of_lt hi), Nat.sub_self, List.drop_eq_getElem_cons hi, List.set_cons_zero, List.append_assoc]
  rfl
theorem upTo_skip (hi : i < al.length) (e : al[i].1 ≠ 1) : upTo g al (i + 1) = upTo g al i := by
  rw [← upTo_set hi, turnA_no g e, ← upTo_get (g := g) hi (by rw [upTo_len]; exact hi), List.set_getElem_self]
theorem upTo_all : upTo g al al.length = al.map (turnA g) := by unfold upTo; simp
theorem upTo_zero : upTo g al 0 = al := by unfold upTo; simp
end
theorem turnP_succ (g : Int → Int) {pl : List PI} {k : Nat} (hk : k < pl.length) : turnP g (pl.take (k + 1)) = turnP g (pl.take k) ++ [turnI g pl[k]] := by
  unfold turnP
  rw [List.take_succ_eq_append_getElem hk, List.map_append]
  rfl

section
variable {x : Mo} {pl : List PI} {w : World} {R : Value → World → Prop}
theorem turned_spec {f : Value} {g : Int → Int} (hN : IsPl w x.2.2.1 pl) (hp : PlOk pl)
    (hf : ∀ w', Below w.heap.size w w' → ∀ n ∈ allP pl, callV Tryz.prog Tryz.fs f [.int .u32 n] w' fun v w'' => v = .int .u32 (g n) ∧ Below w'.heap.size w' w'')
    (hR : ∀ s w', OwnPl w' w.heap.size s (turnP g pl) → Below w.heap.size w w' → R (moA (x.1, x.2.1, s, ())) w') : callR Tryz.prog 53 #[moA x, f] w R := by
  refine callR.of (ids_turned_calls x f R w ?_) fun _ _ h => h
  refine lay_of fun w1 hB1 b1 z1 => ?_
  have hB1 : Blk w1 w.heap.size 25 (moV x) := hB1
  refine lay_of fun w2 hC2 b2 z2 => ?_
  have hC2 : Blk w2 w1.heap.size 25 [.int .u32 0, .int .u32 0, .slice none 0 0] := hC2
  have hB2 := hB1.below b2
  have hl := hN.len
  have h40 := hp.len
  refine hB2.rS (n := 2) (x := x.2.2.1) rfl ⟨⟨by omega, by omega, by omega, by omega⟩, ?_⟩
  refine lay_of fun w3 hD3 b3 z3 => ?_
  have hb3 := (b1.on b2).on b3
  have hB3 := hB2.below b3
  have hC3 := hC2.below b3
  refine hB3.rS (n := 2) (x := x.2.2.1) rfl ?_
  have hO3 : OwnPl w3 w.heap.size ⟨some (blk w2.heap.size), 0, x.2.2.1.l⟩ (turnP g (pl.take 0)) := by
    refine ⟨[], rfl, ⟨rfl, .inr ⟨_, _, rfl, hD3, Nat.zero_le _, (by dsimp only; omega), ?_, rfl⟩⟩, fun a ha => ?_, fun j h => by (cases h)⟩
    · rw [Array.length_toList, size_madeCells]
    · cases ha
      show w.heap.size ≤ w2.heap.size
      omega
  refine LoopW.countSl pl.length hN.bound (fun k r w' => OwnPl w' w.heap.size r (turnP g (pl.take k)) ∧ Below w.heap.size w w' ∧ w3.heap.size ≤ w'.heap.size ∧ Blk w' w.heap.size 25 (moV x) ∧ Blk w' w1.heap.size 25 [.int .u32 0, .int .u32 0, .slice none 0 0])
    ⟨hO3, hb3, Nat.le_refl _, hB3, hC3⟩ ?_
  rintro k r w4 hk ⟨hO, hb, hz, hB, hC⟩ next hnext
  refine ifB_dec (fun h => ?_) (fun h => ?_)
  · have hlt : k < pl.length := by dsimp only at h; omega
    obtain ⟨m1, m2, m3⟩ := mem_all hlt
    have h24 := hp.args _ (List.getElem_mem hlt)
    refine elemPI (hN.below hb) hlt fun t ht => ?_
    refine box4 rfl fun w5 hI5 b5 z5 => ?_
    have hI5 : Blk w5 w4.heap.size 41 (inV (mkIn pl[k] t)) := hI5
    have bd : Below w5.heap.size w5 w5.drew := (Below.refl _ _).drew
    refine hI5.drew.rI (n := 1) (x := pl[k].2.1) rfl (hI5.drew.rI (n := 2) (x := pl[k].2.2.1) rfl (hI5.drew.rS (n := 3) (x := t) rfl ?_))
    have hb5 := (hb.on b5).on bd
    refine callV.mono (hf _ hb5 _ m1) fun v w6 ⟨hv, b6⟩ => ⟨g pl[k].2.1, hv, ?_⟩
    have hI6 := hI5.drew.below b6
    have hb6 := hb5.on b6
    refine ⟨hI6.cell (n := 3) rfl, hI6.cell (n := 2) rfl, ?_⟩
    refine callV.mono (hf _ hb6 _ m2) fun v w7 ⟨hv', b7⟩ => ⟨g pl[k].2.2.1, hv', ?_⟩
    have hI7 := hI6.below b7
    have hb7 := hb6.on b7
    have b47 := ((b5.on bd).on b6).on b7
    refine ⟨hI7.cell (n := 3) rfl, ?_⟩
    refine CloneA_spec (ht.below b47) h24 fun q w8 hq hqF b8 => ⟨q, rfl, ?_⟩
    have hI8 := hI7.below b8
    have s47 := b47.size
    have hi7 := hI7.lt
    refine st123 hI8 fun w9 hI9 c9 => ?_
    have hI9 : Blk w9 w4.heap.size 41 (inV (pl[k].1, g pl[k].2.1, g pl[k].2.2.1, q, ())) := hI9
    have hq9 : Own w9 61 3 q (flat agV (upTo g pl[k].2.2.2 0)) := by
      rw [upTo_zero]
      exact hq.of_block fun a ha => c9.block _ (by have := hqF a ha; omega)
    have b49 : Below w4.heap.size w4 w9 := c9.below (b47.on b8) (Nat.le_refl _)
    have hb9 := hb.on b49
    have s9 := c9.size
    have s8 := b8.size
    have hql : q.l = pl[k].2.2.2.length := by
      have := hq.1
      rw [flat_length agV_len] at this
      omega
    refine hI9.rS (n := 3) (x := q) rfl ?_
    refine LoopW.count pl[k].2.2.2.length (by omega) (fun i w' => Own w' 61 3 q (flat agV (upTo g pl[k].2.2.2 i)) ∧ Blk w' w4.heap.size 41 (inV (pl[k].1, g pl[k].2.1, g pl[k].2.2.1, q, ())) ∧ Below w7.heap.size w9 w') ⟨hq9, hI9, Below.refl _ _⟩ ?_
    rintro i w10 hi ⟨hq10, hI10, f10⟩ next2 hnext2
    have s10 := f10.size
    refine ifB_dec (fun h => ?_) (fun h => ?_)
    · have hil : i < pl[k].2.2.2.length := by dsimp only at h; omega
      refine JoinW.cut (fun _ w' => Own w' 61 3 q (flat agV (upTo g pl[k].2.2.2 (i + 1))) ∧ Blk w' w4.heap.size 41 (inV (pl[k].1, g pl[k].2.1, g pl[k].2.2.1, q, ())) ∧ Below w7.heap.size w9 w') ?_ (fun _ w' hP => hnext2 w' hil hP)
      have hul : i < (upTo g pl[k].2.2.2 i).length := by rw [upTo_len]; exact hil
      have hIs : IsAg w10 q (upTo g pl[k].2.2.2 i) := Own.isC agV_len (by omega) hq10
      refine elemA3 hIs hul ?_
      rw [upTo_get hil hul]
      refine box3 rfl fun w11 hA11 b11 z11 => ?_
      have f11 : Below w7.heap.size w9 w11 := f10.trans (b11.mono (by omega))
      refine hA11.rI0 rfl (ifB_beq (fun e => ?_) (fun e => ?_))
      · have hI11 := hI10.below b11
        have bd11 : Below w11.heap.size w11 w11.drew := (Below.refl _ _).drew
        have s11 := b11.size
        refine hI11.drew.rS (n := 3) (x := q) rfl (hA11.drew.rI (n := 1) (x := pl[k].2.2.2[i].2.1) rfl ?_)
        refine callV.mono (hf _ ((hb9.trans (f11.mono (by have := hb7.size; omega))).drew) _ (m3 _ (List.getElem_mem hil) e)) fun v w12 ⟨hv2, b12⟩ => ⟨g pl[k].2.2.2[i].2.1, hv2, ?_⟩
        have b1112 := bd11.on b12
        have hI12 := hI11.below b1112
        have hq12 := (hq10.below b11).below b1112
        obtain ⟨a, ha⟩ := hIs.base hul
        have ha' : q.a = some (blk a.block) := by rw [ha]; exact congrArg some (hq10.lt ha).1
        obtain ⟨n1, n2⟩ := Own.num hq12 ha' (by rw [upTo_len]; exact hil) (g pl[k].2.2.2[i].2.1)
        have haF := hqF a ha
        refine ⟨hI12.cell (n := 3) rfl, ⟨by omega, by dsimp only; omega⟩, derefP_some ha' ?_⟩
        dsimp only
        rw [show Int.toNat (i : Int) = i from rfl, add_add']
        refine ⟨n1, Nw.mk ⟨?_, (Chg.set a.block _ w12 _).blk hI12 (by omega), ?_⟩⟩
        · have hs := upTo_set (g := g) hil
          have hg := upTo_get (g := g) hil (by rw [upTo_len]; exact hil)
          have hA : turnA g pl[k].2.2.2[i] = (pl[k].2.2.2[i].1, g pl[k].2.2.2[i].2.1, pl[k].2.2.2[i].2.2) := by unfold turnA; rw [if_pos e]
          rw [hg] at n2
          rw [hA] at hs
          rw [hs] at n2
          exact n2
        · have f12 : Below w7.heap.size w9 w12 := f11.trans (b1112.mono (by omega))
          exact f12.setCell (by rw [add_block]; exact haF) _
      · refine ⟨?_, hI10.below b11, f11⟩
        rw [upTo_skip hil e]
        exact hq10.below b11
    · have hi' : i = pl[k].2.2.2.length := by dsimp only at h; omega
      subst hi'
      rw [upTo_all] at hq10
      have hb10 := hb9.trans (f10.mono (by have := hb7.size; omega))
      have b410 : Below w4.heap.size w4 w10 := b49.trans (f10.mono (by omega))
      have s410 := b410.size
      refine Ins.load hI10 ?_
      refine lay_of fun w11 hD11 b11 z11 => ?_
      have hD11 : Blk w11 w10.heap.size 41 (inV (mkIn (turnI g pl[k]) q)) := hD11
      refine OwnPl.push (w0 := w) (p := turnI g pl[k]) (t := q) ((hO.below b410).below b11) (hb10.on b11) (hq10.below b11) (fun a ha => by have := hqF a ha; have := hb7.size; omega) hD11 (by rw [turnP_len, List.length_take]; omega) fun r' w12 hO12 hb12 hz12 hk12 => ?_
      rw [← turnP_succ g hlt] at hO12
      have s11 := b11.size
      refine hnext r' w12 hlt ⟨hO12, hb12, by omega, ?_, ?_⟩
      · exact ((hB.below b410).below b11).of_block (hk12 _ _ _ ((hB.below b410).below b11) (by decide))
      · exact ((hC.below b410).below b11).of_block (hk12 _ _ _ ((hC.below b410).below b11) (by decide))
  · have hk' : k = pl.length := by dsimp only at h; omega
    subst hk'
    rw [List.take_length] at hO
    have c1 := Chg.set w.heap.size 2 w4 (.slice r.a r.l r.c)
    refine ⟨hB.wr (n := 2) (by simp), Nw.mk ?_⟩
    have hB5 : Blk _ w.heap.size 25 (moV (x.1, x.2.1, r, ())) := hB.set 2 (.slice r.a r.l r.c)
    have hC5 := c1.blk hC (by omega)
    refine Mo.load hB5 ?_
    refine st3 hC5 rfl fun w6 hC6 c6 => ?_
    have hC6 : Blk w6 w1.heap.size 25 (moV (x.1, x.2.1, r, ())) := hC6
    refine Mo.load hC6 ?_
    -- the two boxes hold no instruction
    have hO6 : OwnPl w6 w.heap.size r (turnP g pl) := by
      obtain ⟨hs, h1, h2, h3, h4⟩ := hO
      have keep : ∀ i T cs, Blk w4 i T cs → T ≠ 25 → w6.heap[i]? = w4.heap[i]? := fun i T cs hi hT => by
        rw [c6.block i (Blk.apart hi hC hT), c1.block i (Blk.apart hi hB hT)]
      refine ⟨hs, h1, h2.of_block fun a ha => ?_, h3, fun j hj hj' => ?_⟩
      · obtain ⟨cs, hc⟩ := h2.type ha
        exact keep _ _ _ hc (by decide)
      · obtain ⟨t, e, h5, h6⟩ := h4 j hj hj'
        refine ⟨t, e, h5.of_block fun a ha => ?_, h6⟩
        obtain ⟨cs, hc⟩ := h5.type ha
        exact keep _ _ _ hc (by decide)
    exact hR r w6 hO6 (c6.below (c1.below hb (Nat.le_refl _)) (by omega))
end
end Go.Proofs
namespace Go.Proofs
open Go.Gk Go.RowKit Go.Gm

/-- The finder of a function's blocks: the first k of those behind the first one. -/
def lblN (bk : List (Int × Int × Int)) : Nat → List (Int × Int)
  | 0 => []
  | k + 1 => setL (lblN bk k) (bk.getD (k + 1) (0, 0, 0)).1 ((k : Int) + 1)
abbrev lblM (bk : List (Int × Int × Int)) : List (Int × Int) := lblN bk (bk.length - 1)
def fndP (M : List (Int × Int)) (ls : List Int) : Option (List Int) := if ls.all (fun n => (lookL M n).isSome) = true then some (ls.map fun n => (lookL M n).getD 0) else none
def blkM (pl : List PI) (bk : List (Int × Int × Int)) (b : Int × Int × Int) : Option Mg := mrgP (lblM bk) (ix pl (b.2.2.toNat - 2)).1 (ix pl (b.2.2.toNat - 2)).2.2.2 (ix pl (b.2.2.toNat - 1)).1
def blkT (pl : List PI) (b : Int × Int × Int) : List Int := tgtP (ix pl (b.2.2.toNat - 1)).1 (ix pl (b.2.2.toNat - 1)).2.2.2
def blkE (pl : List PI) (bk : List (Int × Int × Int)) (b : Int × Int × Int) : Option Int := match blkM pl bk b with
  | none => some (b.2.2 - 2)
  | some _ => match fndP (lblM bk) (blkT pl b) with
    | none => some (b.2.2 - 1)
    | some _ => none
noncomputable def gnwE (x : Mo) (pl : List PI) (f : FnL) : Int × Int :=
  if (chk9P x.2.1 pl).1 ≠ 0 then ((chk9P x.2.1 pl).1, ((chk9P x.2.1 pl).2 : Int)) else if f ∉ cutF pl pl.length then (2, 0) else if 4096 < f.bk.length then (4, f.at_) else
    match f.bk.findSome? (blkE pl f.bk) with
    | some a => (140, a)
    | none => (0, 0)
def mgsP (pl : List PI) (bk : List (Int × Int × Int)) : List Mg := bk.map fun b => (blkM pl bk b).getD (0, -1, -1)
def rowsP (pl : List PI) (bk : List (Int × Int × Int)) : List (List Int) := bk.map fun b => (fndP (lblM bk) (blkT pl b)).getD []
theorem lblN_val (bk : List (Int × Int × Int)) : ∀ k n v, lookL (lblN bk k) n = some v → 1 ≤ v ∧ v ≤ k
  | 0, n, v, h => by cases h
  | k + 1, n, v, h => by
    simp only [lblN] at h
    rw [lookL_set] at h
    split at h
    · cases h; omega
    · have := lblN_val bk k n v h; omega
theorem fndP_some {M : List (Int × Int)} {ls : List Int} (h : ∀ n ∈ ls, (lookL M n).isSome = true) : fndP M ls = some (ls.map fun n => (lookL M n).getD 0) := by
  unfold fndP
  rw [if_pos (List.all_eq_true.2 h)]
theorem fndP_none {M : List (Int × Int)} {ls : List Int} (h : ∃ n ∈ ls, lookL M n = none) : fndP M ls = none := by
  unfold fndP
  obtain ⟨n, hn, e⟩ := h
  rw [if_neg]
  intro ha
  have := List.all_eq_true.1 ha n hn
  rw [e] at this
  cases this
theorem findSome_first {α β : Type} {f : α → Option β} : ∀ {l : List α} {k : Nat} (hk : k < l.length) {v : β}, f l[k] = some v → (∀ j (h : j < l.length), j < k → f l[j] = none) → l.findSome? f = some v
  | a :: l, 0, _, v, h, _ => by
    rw [List.findSome?_cons]
    have h : f a = some v := h
    rw [h]
  | a :: l, k + 1, hk, v, h, hj => by
    rw [List.findSome?_cons]
    have h0 : f a = none := hj 0 (by simp) (by omega)
    rw [h0]
    exact findSome_first (l := l) (k := k) (by simpa using hk) h fun j h1 h2 => hj (j + 1) (by simpa using h1) (by omega)
theorem findSome_no {α β : Type} {f : α → Option β} {l : List α} (hj : ∀ j (h : j < l.length), f l[j] = none) : l.findSome? f = none := by
  rw [List.findSome?_eq_none_iff]
  intro a ha
  obtain ⟨j, h, rfl⟩ := List.getElem_of_mem ha
  exact hj j h
theorem tgtP_len (op : Int) (al : List Ag) : (tgtP op al).length ≤ al.length := by
  unfold tgtP
  split
  · exact tgtN_len op al al.length
  · simp
theorem args_247 : (match frm 247 with | some f => decide (1 ≤ f.fixed.length) | none => false) = true := by decide +kernel
theorem args_246 : (match frm 246 with | some f => decide (2 ≤ f.fixed.length) | none => false) = true := by decide +kernel
theorem whole_le {f : Fl} {n : Nat} (h : wholeP f n = true) : f.fixed.length ≤ n := by
  unfold wholeP at h
  split at h
  · cases h
  · omega
theorem merge_args {p : PI} {b : Int} (h : faultI p b = 0) : (p.1 = 247 → 0 < p.2.2.2.length) ∧ (p.1 = 246 → 1 < p.2.2.2.length) := by
  obtain ⟨f, hf, _, _, _, hw, _⟩ := fault_all h
  have hl := whole_le hw
  refine ⟨fun e => ?_, fun e => ?_⟩
  · have h1 := args_247
    rw [e] at hf
    rw [hf] at h1
    have := of_decide_eq_true h1
    omega
  · have h1 := args_246
    rw [e] at hf
    rw [hf] at h1
    have := of_decide_eq_true h1
    omega
section
variable {x : Mo} {pl : List PI} {w : World} {R : Value → World → Prop} {v : Fv} {f : FnL}
theorem elemPc {w : World} {s : Sl} {pl : List PI} (h : IsPl w s pl) {k : Nat} (hk : k < pl.length) {φ : Addr → Int → Int → Int → Sl → Prop}
    (hφ : ∀ a t, (∀ j, j < 4 → w.cell? ((a.add (Int.toNat (k : Int) * 4)).add j) = (inV (mkIn pl[k] t))[j]?) → IsAg w t pl[k].2.2.2 → φ a pl[k].1 pl[k].2.1 pl[k].2.2.1 t) :
    (0 ≤ (k : Int) ∧ (k : Int) < (s.l : Int)) ∧ derefP s.a fun a => ldI w ((a.add (Int.toNat (k : Int) * 4)).add 0) .u16 fun x => ldI w ((a.add (Int.toNat (k : Int) * 4)).add 1) .u32 fun y => ldI w ((a.add (Int.toNat (k : Int) * 4)).add 2) .u32 fun z => ldS w ((a.add (Int.toNat (k : Int) * 4)).add 3) fun t => φ a x y z t := by
  obtain ⟨a, ha⟩ := h.base hk
  obtain ⟨t, h1, h2⟩ := h.elem a ha k hk
  have hc : ∀ j, j < 4 → w.cell? ((a.add (Int.toNat (k : Int) * 4)).add j) = (inV (mkIn pl[k] t))[j]? := fun j hj => by rw [add_add']; exact h1 j hj
  exact ⟨⟨by omega, by have := h.len; omega⟩, derefP_some ha ⟨_, hc 0 (by omega), _, hc 1 (by omega), _, hc 2 (by omega), t, hc 3 (by omega), hφ a t hc h2⟩⟩
theorem eRow : ElemT Tryz.prog 48 26 1 24 := ⟨by kernel_rfl, Tryz.t26, .slice none 0 0, by kernel_rfl, rfl, rfl, rfl, rfl⟩
set_option maxHeartbeats 1000000 in
theorem gNew_spec (hN : IsPl w x.2.2.1 pl) (hp : PlOk pl) (h0 : 0 ≤ x.2.1) (hf : IsFn w v f)
    (hbad : ∀ w' e a, Below w.heap.size w w' → (e, a) = gnwE x pl f → e ≠ 0 → R (.tuple #[.pointer none, .slice none 0 0, .agg #[.int .i64 e, .int .i64 a]]) w')
    (hok : ∀ w' gb ms, Below w.heap.size w w' → gnwE x pl f = (0, 0) → f ∈ cutF pl pl.length → IsG w' gb (edges (rowsP pl f.bk)) → NxOk (edges (rowsP pl f.bk)) → IsM w' ms (mgsP pl f.bk) → R (.tuple #[.pointer (some (blk gb)), .slice ms.a ms.l ms.c, .agg #[.int .i64 0, .int .i64 0]]) w') :
    callR Tryz.prog 33 #[moA x, fvA v] w R := by
  refine callR.of (graph_New_calls x v R w ?_) fun _ _ h => h
  refine lay_of fun w1 hB1 b1 z1 => ?_
  have hB1 : Blk w1 w.heap.size 25 (moV x) := hB1
  refine lay_of fun w2 hV2 b2 z2 => ?_
  have hV2 : Blk w2 w1.heap.size 29 (fvV v) := hV2
  refine lay_of fun w3 hS3 b3 z3 => ?_
  have hS3 : Blk w3 w2.heap.size 33 [.int .i64 0, .int .i64 0] := hS3
  have b13 := b2.on b3
  have hb3 := b1.on b13
  refine Mo.load (hB1.below b13) ?_
  refine Check_spec (x := x) (hN.below hb3) hp fun w4 b4 => ⟨((chk9P x.2.1 pl).1, ((chk9P x.2.1 pl).2 : Int), ()), rfl, ?_⟩
  refine box2 rfl fun w7 h7 b7 z7 => ?_
  have b37 := b4.on b7
  have hb7 := hb3.on b37
  have hB7 := (hB1.below b13).below b37
  have hV7 := (hV2.below b3).below b37
  have hS7 := hS3.below b37
  have s2 := b1.size
  -- what is wrong is said so
  have bad : ∀ {w' : World} (e a : Int), Blk w' w2.heap.size 33 [.int .i64 0, .int .i64 0] → Below w.heap.size w w' → (e, a) = gnwE x pl f → e ≠ 0 →
      Wr w' (blk w2.heap.size) ∧ Nw (w'.setCell (blk w2.heap.size) (.int .i64 e)) fun w8 => Wr w8 ((blk w2.heap.size).add 1) ∧ Nw (w8.setCell ((blk w2.heap.size).add 1) (.int .i64 a)) fun w9 => ldI w9 ((blk w2.heap.size).add 0) .i64 fun x9 => ldI w9 ((blk w2.heap.size).add 1) .i64 fun x10 =>
        R (.tuple #[.pointer none, .slice none 0 0, .agg #[.int .i64 x9, .int .i64 x10]]) w9 := fun {w'} e a hS hb he hne =>
    st2 hS rfl fun w9 hS9 c9 => Sp.load hS9 (hbad w9 e a (c9.below hb (by omega)) he hne)
  refine h7.rI0 rfl (ifB_bne (fun e => ?_) (fun e => ?_))
  · have e' : (chk9P x.2.1 pl).1 ≠ 0 := e
    exact Sp.load h7.drew (bad _ _ hS7.drew hb7.drew (by unfold gnwE; rw [if_pos e']) e')
  have e' : (chk9P x.2.1 pl).1 = 0 := e
  obtain ⟨k1, k2, k3⟩ := chk9_ok e'
  have hsh := lay_shape k2
  refine Mo.load hB7 ?_
  refine Cut_spec (x := x) (hN.below hb7) hp (fun fs L w10 _ b10 hL hLc => ⟨fs, (0, 0, ()), rfl, ?_⟩) (fun w10 hne _ => absurd k2 hne)
  refine box2 rfl fun w13 h13 b13' z13 => ?_
  have b713 := b10.on b13'
  have hb13 := hb7.on b713
  refine Contains_fn (v := v) (f := f) (hL.below b13') (hV7.below b713) (hf.below hb13) fun w14 b14 => ⟨_, rfl, ?_⟩
  rw [hLc]
  have b714 := b713.on b14
  have hb14 := hb7.on b714
  have hB14 := hB7.below b714
  have hV14 := hV7.below b714
  have hS14 := hS7.below b714
  refine ifB_not (ifB_dec (fun hin => ?_) (fun hin => ?_))
  rotate_left
  · exact bad 2 0 hS14 hb14 (by unfold gnwE; rw [if_neg (fun h => h e'), if_pos hin]) (by decide)
  have hFn := cut_ok k2 f hin
  have hbl := (hf.bk).len
  have hbc := (hf.bk).cap
  have hbmax := (hf.bk).bound
  refine hV14.rS (n := 3) (x := v.2.2.2.1) rfl (ifB_dec (fun hgt => ?_) (fun hle => ?_))
  · refine hV14.drew.rI (n := 1) (x := v.2.1) rfl ?_
    exact bad 4 v.2.1 hS14.drew hb14.drew (by unfold gnwE; rw [if_neg (fun h => h e'), if_neg (fun h => h hin), if_pos (by omega), hf.at_]) (by decide)
  have hle : f.bk.length ≤ 4096 := by omega
  have hpos : 0 < f.bk.length := List.length_pos_iff.2 hFn.ne
  have hgn : gnwE x pl f = (match f.bk.findSome? (blkE pl f.bk) with
      | some a => (140, a)
      | none => (0, 0)) := by unfold gnwE; rw [if_neg (fun h => h e'), if_neg (fun h => h hin), if_neg (by omega)]
  refine Nw.gen fun w19 e19 => ?_
  have m19 : IsMp w19 w14.heap.size .i64 [] := by rw [e19]; exact IsMp.new _ _
  have b19 : Below w14.heap.size w14 w19 := by rw [e19]; exact (Below.refl _ _).alloc (Nat.le_refl _) _
  have z19 : w19.heap.size = w14.heap.size + 1 := by rw [e19]; simp
  clear e19
  have hV19 := hV14.below b19
  refine hV19.rS (n := 3) (x := v.2.2.2.1) rfl ⟨⟨by omega, by omega, by omega⟩, ?_⟩
  obtain ⟨ab, hab⟩ := (hf.bk).base hpos
  have hb19 := hb14.on b19
  refine LoopW.count (f.bk.length - 1) (by omega) (fun k w' => Below w14.heap.size w19 w' ∧ IsMp w' w14.heap.size .i64 (lblN f.bk k)) ⟨Below.refl _ _, m19⟩ ?_
  rintro k w20 hk ⟨f20, m20⟩ next hnext
  have b20 : Below w14.heap.size w14 w20 := b19.trans f20
  have hb20 := hb14.on b20
  have s20 := f20.size
  rw [hbl]
  refine ifB_dec (fun h => ?_) (fun h => ?_)
  · have hlt : k + 1 < f.bk.length := by dsimp only at h; omega
    have hcell := (IsC.below blV_len hf.bk hb20).cell ab hab (k + 1) hlt
    refine ⟨⟨by omega, by omega⟩, ?_⟩
    rw [if_neg (by omega), hab]
    refine derefP_some rfl ?_
    have ec : ∀ j, ((ab.add (1 * 3)).add (Int.toNat (k : Int) * 3)).add j = ab.add ((k + 1) * 3 + j) := fun j => by
      rw [add_add', add_add', show Int.toNat (k : Int) = k from rfl]
      congr 1
      omega
    rw [ec, ec, ec]
    refine ⟨_, hcell 0 (by omega), _, hcell 1 (by omega), _, hcell 2 (by omega), ?_⟩
    refine box3 rfl fun w24 h24 b24 z24 => ?_
    refine h24.rI0 rfl ?_
    rw [wrap64_succ (by omega)]
    refine updW_of uFind uU32 (m20.below b24) fun w25 m25 c25 => ?_
    have hn25 := hnext w25 (by omega)
    rw [wrap64_succ (by omega)] at hn25
    refine hn25 ⟨f20.trans (c25.below (b24.mono (by omega)) (Nat.le_refl _)), ?_⟩
    simp only [lblN]
    rw [getD_lt hlt]
    exact m25
  have hk' : k = f.bk.length - 1 := by dsimp only at h; omega
  subst hk'
  have m20 : IsMp w20 w14.heap.size .i64 (lblM f.bk) := m20
  have hV20 := hV14.below b20
  have hB20 := hB14.below b20
  have hS20 := hS14.below b20
  have lM := m20.lt
  have hN20 := hN.below hb20
  have hbk20 : IsBk w20 v.2.2.2.1 f.bk := IsC.below blV_len hf.bk hb20
  have hl := hN.len
  have h40 := hp.len
  refine hV20.rS (n := 3) (x := v.2.2.2.1) rfl ?_
  rw [hbl]
  refine LoopW.ghost (fun j (st : Sl × Sl × Int × Unit) w' => ∃ (k : Nat) (nx mg : Sl) (hs : List Sl), st = (nx, mg, (k : Int), ()) ∧ j = f.bk.length - k ∧ k ≤ f.bk.length ∧ Below w20.heap.size w20 w' ∧ hs.length = k ∧ Own w' 26 1 nx (hs.map Sl.val) ∧ Fresh w20.heap.size nx ∧
    (∀ i (h : i < hs.length) (h' : i < (rowsP pl f.bk).length), Own w' 3 1 hs[i] ((rowsP pl f.bk)[i].map (Value.int .i64)) ∧ Fresh w20.heap.size hs[i]) ∧ Own w' 121 3 mg (flat mgV ((mgsP pl f.bk).take k)) ∧ Fresh w20.heap.size mg ∧
    ∀ i (h : i < f.bk.length), i < k → blkE pl f.bk f.bk[i] = none) f.bk.length
    ⟨0, ⟨none, 0, 0⟩, ⟨none, 0, 0⟩, [], rfl, rfl, Nat.zero_le _, Below.refl _ _, rfl, Own.nil _ _ _, fun a ha => (by cases ha), fun i h => (by cases h), Own.nil _ _ _, fun a ha => (by cases ha), fun i _ h => by omega⟩ ?_
  clear hnext
  rintro _ _ w26 ⟨k, nx, mg, hs, rfl, rfl, hk, b26, hhl, hnx, hnxF, hrow, hmg, hmgF, hgood⟩ next hnext
  have hb26 := hb20.on b26
  dsimp only
  refine ifB_dec (fun h => ?_) (fun h => ?_)
  · have hkl : k < f.bk.length := by omega
    obtain ⟨fr, to_, hbq, hft, htl, h248, h8f, hend, h8t⟩ := (hFn.ok _ (List.getElem_mem hkl)).ex
    have hto : f.bk[k].2.2 = (to_ : Int) := by rw [hbq]
    have elB : ∀ {φ : Int → Int → Int → Prop}, φ f.bk[k].1 f.bk[k].2.1 f.bk[k].2.2 → (0 ≤ (k : Int) ∧ (k : Int) < ((f.bk.length : Nat) : Int)) ∧ derefP v.2.2.2.1.a fun a => ldI w26 ((a.add (Int.toNat (k : Int) * 3)).add 0) .u32 fun x => ldI w26 ((a.add (Int.toNat (k : Int) * 3)).add 1) .i64 fun y => ldI w26 ((a.add (Int.toNat (k : Int) * 3)).add 2) .i64 fun z => φ x y z := fun hφ => by
      have := elemBk (IsC.below blV_len hbk20 b26) hkl hφ
      rwa [hbl] at this
    refine elB ?_
    refine box3 rfl fun w30 hK30 b30 z30 => ?_
    have hK30 : Blk w30 w26.heap.size 69 (blV f.bk[k]) := hK30
    have b2030 := b26.on b30
    have hB30 := hB20.below b2030
    refine hB30.rS (n := 2) (x := x.2.2.1) rfl (hK30.rI (n := 2) (x := f.bk[k].2.2) rfl ?_)
    rw [hto]
    have et1 : IntKind.i64.wrap ((to_ : Int) - 1) = ((to_ - 1 : Nat) : Int) := by rw [wrap64_in (by omega) (by omega)]; omega
    have et2 : IntKind.i64.wrap ((to_ : Int) - 2) = ((to_ - 2 : Nat) : Int) := by rw [wrap64_in (by omega) (by omega)]; omega
    rw [et1]
    have h1l : to_ - 1 < pl.length := by omega
    have h2l : to_ - 2 < pl.length := by omega
    have ei1 : ix pl (to_ - 1) = pl[to_ - 1] := ix_lt h1l
    have ei2 : ix pl (to_ - 2) = pl[to_ - 2] := ix_lt h2l
    refine elemPI (hN20.below b2030) h1l fun tl htl' => ?_
    refine box4 rfl fun w35 hL35 b35 z35 => ?_
    have hL35 : Blk w35 w30.heap.size 41 (inV (mkIn pl[to_ - 1] tl)) := hL35
    have b2035 := b2030.on b35
    have bd : Below w35.heap.size w35 w35.drew := (Below.refl _ _).drew
    have b2035d := b2035.on bd
    have hMargs := merge_args ((shape_ok hsh).2 (to_ - 2) h2l)
    have hbM : blkM pl f.bk f.bk[k] = mrgP (lblM f.bk) pl[to_ - 2].1 pl[to_ - 2].2.2.2 pl[to_ - 1].1 := by
      unfold blkM
      rw [hto, Int.toNat_natCast, ei1, ei2]
    have hbT : blkT pl f.bk[k] = tgtP pl[to_ - 1].1 pl[to_ - 1].2.2.2 := by
      unfold blkT
      rw [hto, Int.toNat_natCast, ei1]
    have s26 := b26.size
    have s30 := b30.size
    have s35 := b35.size
    refine JoinW.cut (fun (st : (Option Addr) × Bool × Unit) w' => ∃ (mb : Nat) (m : Mg) (ok : Bool), st = (some (blk mb), ok, ()) ∧ Blk w' mb 121 (mgV m) ∧ Below w35.heap.size w35 w' ∧ (ok = true → blkM pl f.bk f.bk[k] = some m) ∧ (ok = false → blkM pl f.bk f.bk[k] = none)) ?_ ?_
    · refine (hB30.below b35).drew.rS (n := 2) (x := x.2.2.1) rfl ((hK30.below b35).drew.rI (n := 2) (x := f.bk[k].2.2) rfl ?_)
      rw [hto, et2]
      refine elemPc ((hN20.below b2035d)) h2l fun aM ti hcM hti => ?_
      refine Ins.load (x := mkIn pl[to_ - 1] tl) hL35.drew ⟨?_, ?_⟩
      · refine merge_spec (i := mkIn pl[to_ - 2] ti) (last := mkIn pl[to_ - 1] tl) (m20.below b2035d) hti hMargs.1 hMargs.2 fun m b w36 b36 hm1 hm2 => ⟨(m.1, m.2.1, m.2.2, ()), b, rfl, ?_⟩
        refine box3 rfl fun w40 hX40 b40 z40 => ?_
        exact ⟨w36.heap.size, m, b, rfl, hX40, (bd.on b36).on b40, fun hb => by rw [hbM]; exact hm1 hb, fun hb => by rw [hbM]; exact hm2 hb⟩
      · refine lay_of fun w41 hX41 b41 z41 => ?_
        have hX41 : Blk w41 w35.drew.heap.size 121 [.int .u8 0, .int .i64 0, .int .i64 0] := hX41
        have hL41 := hL35.drew.below b41
        have hK41 := ((hK30.below b35).drew).below b41
        have hB41 := ((hB30.below b35).drew).below b41
        have hcM41 : ∀ j vv, (inV (mkIn pl[to_ - 2] ti))[j]? = some vv → j < 4 → w41.cell? ((aM.add (Int.toNat ((to_ - 2 : Nat) : Int) * 4)).add j) = some vv := fun j vv hv hj => cell_keep b41 ((hcM j hj).trans hv)
        refine ⟨hL41.cell (n := 0) rfl, hL41.cell (n := 1) rfl, hL41.cell (n := 2) rfl, hL41.cell (n := 3) rfl, hcM41 0 _ rfl (by omega), hcM41 1 _ rfl (by omega), hcM41 2 _ rfl (by omega), hcM41 3 _ rfl (by omega), ?_, hB41.cell (n := 2) rfl, ?_⟩
        · rw [← hto]
          exact hK41.cell (n := 2) rfl
        refine merge_spec (i := mkIn pl[to_ - 2] ti) (last := mkIn pl[to_ - 1] tl) ((m20.below b2035d).below b41) (IsAg.below hti b41) hMargs.1 hMargs.2 fun m b w42 b42 hm1 hm2 => ⟨(m.1, m.2.1, m.2.2, ()), b, rfl, ?_⟩
        have b4142 := b41.on b42
        refine st3 (hX41.below b42) rfl fun w45 hX45 c45 => ?_
        exact ⟨w35.drew.heap.size, m, b, rfl, hX45, c45.below (bd.on b4142) (Nat.le_refl _), fun hb => by rw [hbM]; exact hm1 hb, fun hb => by rw [hbM]; exact hm2 hb⟩
    rintro _ w46 ⟨mb, m, ok, rfl, hX46, b46, hm1, hm2⟩
    have b2046 := b2035.on b46
    have b2646 := (b30.on b35).on b46
    have hb46 := hb20.on b2046
    have hK46 := (hK30.below b35).below b46
    have hS46 := hS20.below b2046
    dsimp only
    refine ifB_not (ifB_bool (fun hokt => ?_) (fun hokf => ?_))
    rotate_left
    · have hnone := hm2 hokf
      have hE : blkE pl f.bk f.bk[k] = some ((to_ : Int) - 2) := by unfold blkE; rw [hnone, hto]
      refine hK46.drew.rI (n := 2) (x := f.bk[k].2.2) rfl ?_
      rw [hto, et2]
      refine bad 140 ((to_ - 2 : Nat) : Int) hS46.drew hb46.drew ?_ (by decide)
      rw [hgn, findSome_first hkl hE fun j h1 h2 => hgood j h1 h2]
      dsimp only
      congr 1
      omega
    have hsome := hm1 hokt
    have hL46 := hL35.below b46
    have hal24 := hp.args _ (List.getElem_mem h1l)
    refine Ins.load (x := mkIn pl[to_ - 1] tl) hL46 ?_
    refine Targets_spec (x := mkIn pl[to_ - 1] tl) ((IsAg.below htl' b35).below b46) hal24 fun tg w49 htg htgF b49 => ⟨tg, rfl, ?_⟩
    have htg : Own w49 22 1 tg ((tgtP pl[to_ - 1].1 pl[to_ - 1].2.2.2).map (Value.int .u32)) := htg
    have hlenT := tgtP_len pl[to_ - 1].1 pl[to_ - 1].2.2.2
    have b2049 := b2046.on b49
    refine all_find (M := lblM f.bk) (m20.below b2049) htg.isS (by omega) (fun t w50 hall hO50 hF50 b50 => ⟨t, true, rfl, ifB_false rfl ?_⟩) (fun w50 hnone b50 => ⟨⟨none, 0, 0⟩, false, rfl, ifB_true rfl ?_⟩)
    rotate_left
    · have b4650 := b49.on b50
      have hE : blkE pl f.bk f.bk[k] = some ((to_ : Int) - 1) := by unfold blkE; rw [hsome, hbT, fndP_none hnone, hto]
      refine (hK46.below b4650).drew.rI (n := 2) (x := f.bk[k].2.2) rfl ?_
      rw [hto, et1]
      refine bad 140 ((to_ - 1 : Nat) : Int) (hS46.below b4650).drew (hb46.on b4650).drew ?_ (by decide)
      rw [hgn, findSome_first hkl hE fun j h1 h2 => hgood j h1 h2]
      dsimp only
      congr 1
      omega
    have b4650 := b49.on b50
    have hX50 := hX46.below b4650
    have hE : blkE pl f.bk f.bk[k] = none := by unfold blkE; rw [hsome, hbT, fndP_some hall]
    refine derefP_some rfl ?_
    refine hX50.rI (n := 0) (x := m.1) rfl (hX50.rI (n := 1) (x := m.2.1) rfl (hX50.rI (n := 2) (x := m.2.2) rfl ?_))
    refine lay_of fun w53 hY53 b53 z53 => ?_
    have hY53 : Blk w53 w50.heap.size 121 (mgV m) := hY53
    have b2653 := (b2646.on b4650).on b53
    have b2053 := b26.on b2653
    have hmgl : mg.l = k := by
      have := hmg.1
      rw [flat_length mgV_len, List.length_take] at this
      unfold mgsP at this
      rw [List.length_map] at this
      omega
    refine push_keep (w0 := w20) eMg (hmg.below b2653) b2053 hmgF rfl (by simp [Value.oneCell']) hY53 (by omega) (by omega) fun mg' w54 q1 q2 q3 q4 q5 => ?_
    refine lay_of fun w55 hZ55 b55 z55 => ?_
    have hZ55 : Blk w55 w54.heap.size 26 [Sl.val t] := hZ55
    have hnx54 : Own w54 26 1 nx (hs.map Sl.val) := (hnx.below b2653).of_block fun a ha => q5 _ ((hnx.below b2653).lt ha).2 (own_notOwn (hmg.below b2653) (hnx.below b2653) (by decide) ha)
    have ht53 := hO50.below b53
    have ht54 : Own w54 3 1 t _ := ht53.of_block fun a ha => q5 _ (ht53.lt ha).2 (own_notOwn (hmg.below b2653) ht53 (by decide) ha)
    have hnxl : nx.l = k := by
      have := hnx.1
      rw [List.length_map] at this
      omega
    have q2' := q2.on b55
    refine push_keep (w0 := w20) eRow (hnx54.below b55) q2' hnxF rfl (by simp [Value.oneCell', Sl.val]) hZ55 (by omega) (by omega) fun nx' w56 u1 u2 u3 u4 u5 => ?_
    have hnx55 := hnx54.below b55
    rw [wrap64_succ (by omega)]
    refine hnext (f.bk.length - (k + 1)) _ _ (by omega) ⟨k + 1, nx', mg', hs ++ [t], rfl, rfl, hkl, u2, by simp [hhl], ?_, u3, fun i h1 h2 => ?_, ?_, q3, fun i h1 h2 => ?_⟩
    · rw [List.map_append]
      exact u1
    · have keepI : ∀ {s : Sl} {xs : List Value}, Own w53 3 1 s xs → Own w56 3 1 s xs := fun {s xs} ho => by
        have ho54 : Own w54 3 1 s xs := ho.of_block fun a ha => q5 _ (ho.lt ha).2 (own_notOwn (hmg.below b2653) ho (by decide) ha)
        have ho55 := ho54.below b55
        exact ho55.of_block fun a ha => u5 _ (ho55.lt ha).2 (own_notOwn hnx55 ho55 (by decide) ha)
      by_cases e : i < hs.length
      · rw [List.getElem_append_left e]
        obtain ⟨g1, g2⟩ := hrow i e h2
        exact ⟨keepI (g1.below b2653), g2⟩
      · have ei : i = k := by simp at h1; omega
        subst ei
        have er : (hs ++ [t])[i]'h1 = t := by rw [List.getElem_append_right (by omega)]; simp [hhl]
        rw [er]
        refine ⟨?_, fun a ha => by have := hF50 a ha; have := b2049.size; omega⟩
        have : (rowsP pl f.bk)[i] = (tgtP pl[to_ - 1].1 pl[to_ - 1].2.2.2).map fun n => (lookL (lblM f.bk) n).getD 0 := by
          refine (List.getElem_map (fun b => (fndP (lblM f.bk) (blkT pl b)).getD [])).trans ?_
          rw [hbT, fndP_some hall]
          rfl
        rw [this]
        exact keepI ht53
    · have hmk : (mgsP pl f.bk).take (k + 1) = (mgsP pl f.bk).take k ++ [m] := by
        have hlm : k < (mgsP pl f.bk).length := by unfold mgsP; rw [List.length_map]; exact hkl
        rw [List.take_succ_eq_append_getElem hlm]
        congr 2
        refine (List.getElem_map (fun b => (blkM pl f.bk b).getD (0, -1, -1))).trans ?_
        rw [hsome]
        rfl
      rw [hmk, flat_snoc]
      have q1' := q1.below b55
      exact q1'.of_block fun a ha => u5 _ (q1'.lt ha).2 (own_notOwn hnx55 q1' (by decide) ha)
    · by_cases e : i = k
      · subst e; exact hE
      · exact hgood i h1 (by omega)
  · have hkk : k = f.bk.length := by omega
    subst hkk
    have hrl : (rowsP pl f.bk).length = f.bk.length := by unfold rowsP; rw [List.length_map]
    have hml : (mgsP pl f.bk).length = f.bk.length := by unfold mgsP; rw [List.length_map]
    have hg0 : gnwE x pl f = (0, 0) := by rw [hgn, findSome_no fun j hj => hgood j hj hj]
    rw [← hml, List.take_length] at hmg
    have hII : IsII w26 nx hs (rowsP pl f.bk) := ⟨hnx.isS, by rw [hhl, hrl], fun i h1 h2 => (hrow i h1 h2).1.isS⟩
    have hGood : Good (rowsP pl f.bk) := by
      intro l hl' y hy
      obtain ⟨b, hb, rfl⟩ := List.mem_map.1 hl'
      cases hfd : fndP (lblM f.bk) (blkT pl b) with
      | none => rw [hfd] at hy; cases hy
      | some l =>
        rw [hfd] at hy
        unfold fndP at hfd
        split at hfd
        · rename_i hall
          cases hfd
          obtain ⟨n, hn, rfl⟩ := List.mem_map.1 hy
          have hs1 := List.all_eq_true.1 hall n hn
          obtain ⟨u, hu⟩ := Option.isSome_iff_exists.1 hs1
          rw [hu, Option.getD_some]
          have := lblN_val f.bk _ n u hu
          rw [hrl]
          omega
        · cases hfd
    refine graph_Of_spec hII (fun h => by rw [hrl] at h; omega) (fun h => by rw [hrl] at h; omega) (fun _ _ hng => absurd hGood hng) fun q1 q2 q3 w57 gb b57 hG _ => ⟨some (blk gb), 0, rfl, ?_⟩
    have b2057 := b26.on b57
    refine st2 (hS20.below b2057) rfl fun w59 hS59 c59 => Sp.load hS59 ?_
    have hb57 := hb20.on b2057
    have hM57 := hmg.below b57
    refine hok w59 gb mg (c59.below hb57 (by omega)) hg0 hin ?_ (edges_ok q1 q2 q3) ?_
    · exact (hG.keep fun k k1 _ => c59.block k (by have := b26.size; have := hS20.lt; omega)).isG
    · exact Own.isC mgV_len (by omega) (hM57.of_block fun a ha => c59.block _ fun e => by
        obtain ⟨cs, hc⟩ := hM57.type ha
        exact Blk.apart hc (hS20.below b2057) (by decide) e)
end
end Go.Proofs
namespace Go.Proofs
open Go.Gk Go.RowKit Go.Gm

theorem BkOk.label {pl : List PI} {n : Nat} {b : Int × Int × Int} (h : BkOk pl n b) : ∃ f : Nat, b.1 = (ix pl f).2.2.1 ∧ b.2.1 = (f : Int) ∧ f < n ∧ (ix pl f).1 = 248 := by
  obtain ⟨f, t, rfl, h2, h3, h4, _⟩ := h.ex
  exact ⟨f, rfl, rfl, by omega, h4⟩
end Go.Proofs
namespace Go.Proofs
open Go.Gk Go.RowKit Go.Gm

end Go.Proofs
namespace Go.Proofs
open Go.Gk Go.RowKit Go.Gm


end Go.Proofs
namespace Go.Proofs
open Go.Gk Go.RowKit Go.Gm

end Go.Proofs
namespace Go.Proofs
open Go.Gk Go.RowKit Go.Gr

end Go.Proofs
namespace Go.Proofs
open Go.Gk Go.RowKit Go.Gm

end Go.Proofs
namespace Go.Proofs
open Go.Gk
set_option linter.unusedVariables false
set_option maxRecDepth 100000

end Go.Proofs
namespace Go.Proofs
open Go.Gk Go.RowKit Go.Gm

end Go.Proofs
namespace Go.Proofs
open Go.Gk Go.RowKit Go.Gm

end Go.Proofs
namespace Go.Proofs
open Go.Gk Go.RowKit Go.Gm Go.Gr

open Classical in
/-- What is wrong first with a function's nesting, and at which block. -/
noncomputable def nchE (pl : List PI) (f : FnL) : Int × Int := if Fit (edges (rowsP pl f.bk)).length (mgsP pl f.bk) then spotOf (flawsM (edges (rowsP pl f.bk)) (mgsP pl f.bk) (edges (rowsP pl f.bk)).length) else (2, 0)
noncomputable def nflE (x : Mo) (pl : List PI) (f : FnL) : Option (Int × Int) := if (gnwE x pl f).1 ≠ 0 then some (gnwE x pl f) else if (nchE pl f).1 ≠ 0 then some ((nchE pl f).1, (f.bk.getD (nchE pl f).2.toNat (0, 0, 0)).2.2 - 1) else none
noncomputable def nmoE (x : Mo) (pl : List PI) : Int × Int := if (chk9P x.2.1 pl).1 ≠ 0 then ((chk9P x.2.1 pl).1, ((chk9P x.2.1 pl).2 : Int)) else
  match (cutF pl pl.length).findSome? (nflE x pl) with
  | some p => p
  | none => (0, 0)
theorem flawsM_at {nx : List (List Nat)} {ml : List Mg} {k : Nat} {y : Int × Int} (h : y ∈ flawsM nx ml k) : ∃ i : Nat, y.1 = (i : Int) ∧ i < k := by
  obtain ⟨i, hi, h⟩ := List.mem_flatMap.1 h
  obtain ⟨r, _, rfl⟩ := List.mem_map.1 h
  exact ⟨i, rfl, List.mem_range.1 hi⟩
theorem nch_at {pl : List PI} {f : FnL} (hpos : 0 < f.bk.length) : ∃ i : Nat, (nchE pl f).2 = (i : Int) ∧ i < f.bk.length := by
  have hel : (edges (rowsP pl f.bk)).length = f.bk.length := by rw [edges_length]; unfold rowsP; rw [List.length_map]
  unfold nchE
  split
  · cases hf : flawsM (edges (rowsP pl f.bk)) (mgsP pl f.bk) (edges (rowsP pl f.bk)).length with
    | nil => exact ⟨0, rfl, hpos⟩
    | cons y r =>
      obtain ⟨i, h1, h2⟩ := flawsM_at (nx := edges (rowsP pl f.bk)) (ml := mgsP pl f.bk) (k := (edges (rowsP pl f.bk)).length) (y := y) (by rw [hf]; exact List.mem_cons_self ..)
      exact ⟨i, h1, by omega⟩
  · exact ⟨0, rfl, hpos⟩
section
variable {w : World} {R : Value → World → Prop} {s : Sl} {pl : List PI} {f : FnL}
theorem nCheck_at {gb : Nat} (hG : IsG w gb (edges (rowsP pl f.bk))) (hx : NxOk (edges (rowsP pl f.bk))) (hM : IsM w s (mgsP pl f.bk)) (hR : ∀ w', Below w.heap.size w w' → R (.agg #[.int .i64 (nchE pl f).1, .int .i64 (nchE pl f).2]) w') :
    callR Tryz.prog 46 #[.pointer (some (blk gb)), .slice s.a s.l s.c] w R := by
  refine nCheck_spec (PG.some hx hG) hM (fun e => by cases e) (fun _ hf w' hb => ?_) (fun _ hf w' w2 nb g hb hN => ?_)
  · have := hR w' hb
    unfold nchE at this
    rw [if_neg hf] at this
    exact this
  · have := hR w' hb
    unfold nchE at this
    rw [if_pos hf] at this
    rw [hN.flawsE]
    exact this
end
section
variable {x : Mo} {pl : List PI} {w : World} {R : Value → World → Prop}
theorem nMod_spec (hN : IsPl w x.2.2.1 pl) (hp : PlOk pl) (h0 : 0 ≤ x.2.1) (hR : ∀ w', Below w.heap.size w w' → R (.agg #[.int .i64 (nmoE x pl).1, .int .i64 (nmoE x pl).2]) w') :
    callR Tryz.prog 12 #[moA x] w R := by
  refine callR.of (nest_Module_calls x R w ?_) fun _ _ h => h
  refine lay_of fun w1 hB1 b1 z1 => ?_
  have hB1 : Blk w1 w.heap.size 25 (moV x) := hB1
  refine lay_of fun w2 hS2 b2 z2 => ?_
  have hS2 : Blk w2 w1.heap.size 33 [.int .i64 0, .int .i64 0] := hS2
  have hb2 := b1.on b2
  refine Mo.load (hB1.below b2) ?_
  refine Check_spec (x := x) (hN.below hb2) hp fun w3 b3 => ⟨((chk9P x.2.1 pl).1, ((chk9P x.2.1 pl).2 : Int), ()), rfl, ?_⟩
  refine box2 rfl fun w6 h6 b6 z6 => ?_
  have b26 := b3.on b6
  have hb6 := hb2.on b26
  have hB6 := (hB1.below b2).below b26
  have hS6 := hS2.below b26
  have s1 := b1.size
  have out : ∀ {w' : World} (e a : Int), Blk w' w1.heap.size 33 [.int .i64 0, .int .i64 0] → Below w.heap.size w w' → (e, a) = nmoE x pl →
      Wr w' (blk w1.heap.size) ∧ Nw (w'.setCell (blk w1.heap.size) (.int .i64 e)) fun w8 => Wr w8 ((blk w1.heap.size).add 1) ∧ Nw (w8.setCell ((blk w1.heap.size).add 1) (.int .i64 a)) fun w9 => ldI w9 ((blk w1.heap.size).add 0) .i64 fun x9 => ldI w9 ((blk w1.heap.size).add 1) .i64 fun x10 =>
        R (.agg #[.int .i64 x9, .int .i64 x10]) w9 := fun {w'} e a hS hb he =>
    st2 hS rfl fun w9 hS9 c9 => Sp.load hS9 (by
      have := hR w9 (c9.below hb (by omega))
      rw [← he] at this
      exact this)
  refine h6.rI0 rfl (ifB_bne (fun e => ?_) (fun e => ?_))
  · have e' : (chk9P x.2.1 pl).1 ≠ 0 := e
    exact Sp.load h6 (out _ _ hS6 hb6 (by unfold nmoE; rw [if_pos e']))
  have e' : (chk9P x.2.1 pl).1 = 0 := e
  obtain ⟨k1, k2, k3⟩ := chk9_ok e'
  refine Mo.load hB6 ?_
  refine Cut_spec (x := x) (hN.below hb6) hp (fun fs L w9 _ b9 hL hLc => ⟨fs, (0, 0, ()), rfl, ?_⟩) (fun w9 hne _ => absurd k2 hne)
  refine box2 rfl fun w12 h12 b12 z12 => ?_
  have b612 := b9.on b12
  have hb12 := hb6.on b612
  have hL12 := hL.below b12
  have hS12 := hS6.below b612
  have hB12 := hB6.below b612
  have hll := hL.len
  have hfl : L.length = (cutF pl pl.length).length := by rw [← hLc, List.length_map]
  have hget : ∀ k (h : k < L.length) (h' : k < (cutF pl pl.length).length), L[k].1 = (cutF pl pl.length)[k] := fun k h h' => by
    have : (L.map (·.1))[k]'(by rwa [List.length_map]) = (cutF pl pl.length)[k] := by congr 1
    rwa [List.getElem_map] at this
  have hc5 : IsC 5 feV w12 fs L := Own.isC feV_len (by omega) hL12.own
  have hbd5 := hc5.bound
  have hcn : nmoE x pl = (match (cutF pl pl.length).findSome? (nflE x pl) with
      | some p => p
      | none => (0, 0)) := by unfold nmoE; rw [if_neg (fun h => h e')]; try rfl
  refine LoopW.count L.length hbd5 (fun k w' => Below w12.heap.size w12 w' ∧ ∀ i (h : i < (cutF pl pl.length).length), i < k → nflE x pl (cutF pl pl.length)[i] = none) ⟨Below.refl _ _, fun i _ h => by omega⟩ ?_
  rintro k w13 hk ⟨b13, hgood⟩ next hnext
  have hb13 := hb12.on b13
  have hL13 := hL12.below b13
  refine ifB_dec (fun h => ?_) (fun h => ?_)
  · have hlt : k < L.length := by dsimp only at h; omega
    have hkf : k < (cutF pl pl.length).length := by omega
    have hin : L[k].1 ∈ cutF pl pl.length := by rw [hget k hlt hkf]; exact List.getElem_mem hkf
    have hfe := hget k hlt hkf
    have hFn := cut_ok k2 _ hin
    have hpos : 0 < L[k].1.bk.length := List.length_pos_iff.2 hFn.ne
    have hfail : ∀ p, nflE x pl L[k].1 = some p → p = nmoE x pl := fun p hpe => by
      rw [hcn, findSome_first hkf (v := p) (by rw [← hfe]; exact hpe) fun j h1 h2 => hgood j h1 h2]
    refine elemFn hL13 hlt ?_
    refine Nw.gen fun w14 e14 => ?_
    have hX14 : Blk w14 w13.heap.size 29 [.int .u32 0, .int .i64 0, .slice none 0 0, .slice none 0 0, .int .i64 0] := by rw [e14]; exact Blk.new w13 _ #[_, _, _, _, _]
    have b14 : Below w13.heap.size w13 w14 := by rw [e14]; exact (Below.refl _ _).alloc (Nat.le_refl _) _
    clear e14
    refine st5 hX14 rfl fun w19 hX19 c19 => ?_
    have b19 : Below w13.heap.size w13 w19 := c19.below b14 (Nat.le_refl _)
    have hb19 := hb13.on b19
    have hX19 : Blk w19 w13.heap.size 29 (fvV (L[k].1.id, L[k].1.at_, L[k].2.1, L[k].2.2, L[k].1.en, ())) := hX19
    have hF19 := (hL13.below b19).isFn (List.getElem_mem hlt)
    refine Mo.load ((hB12.below b13).below b19) (Fv.load (v := (L[k].1.id, L[k].1.at_, L[k].2.1, L[k].2.2, L[k].1.en, ())) hX19 ?_)
    have hS19 := (hS12.below b13).below b19
    refine gNew_spec (x := x) (v := (L[k].1.id, L[k].1.at_, L[k].2.1, L[k].2.2, L[k].1.en, ())) (f := L[k].1) (hN.below hb19) hp h0 hF19 (fun w20 e a b20 he hne => ⟨none, ⟨none, 0, 0⟩, (e, a, ()), rfl, ?_⟩) (fun w20 gb ms b20 he _ hG hNx hM => ⟨some (blk gb), ms, (0, 0, ()), rfl, ?_⟩)
    · refine box2 rfl fun w23 h23 b23 z23 => ?_
      have b1923 := b20.on b23
      refine h23.rI0 rfl (ifB_true (by simpa using hne) (Sp.load h23 ?_))
      have hn : nflE x pl L[k].1 = some (e, a) := by
        unfold nflE
        rw [if_pos (by rw [← he]; exact hne), ← he]
      exact out e a (hS19.below b1923) (hb19.on b1923) (hfail _ hn)
    · refine box2 rfl fun w23 h23 b23 z23 => ?_
      have b1923 := b20.on b23
      refine h23.rI0 rfl (ifB_false rfl ?_)
      refine nCheck_at (hG.below b23) hNx (IsC.below mgV_len hM b23) fun w26 b26' => ⟨((nchE pl L[k].1).1, (nchE pl L[k].1).2, ()), rfl, ?_⟩
      refine box2 rfl fun w29 h29 b29 z29 => ?_
      have b1929 := b1923.on (b26'.on b29)
      refine h29.rI0 rfl (ifB_bne (fun hne => ?_) (fun heq => hnext w29 hlt ⟨b13.on (b19.on b1929), fun i q1 q2 => ?_⟩))
      · have hne : (nchE pl L[k].1).1 ≠ 0 := hne
        obtain ⟨i, hi, hil⟩ := nch_at (pl := pl) hpos
        have hn : nflE x pl L[k].1 = some ((nchE pl L[k].1).1, (L[k].1.bk.getD i (0, 0, 0)).2.2 - 1) := by
          unfold nflE
          rw [if_neg (by rw [he]; simp), if_pos hne, hi, Int.toNat_natCast]
        have bd : Below w29.heap.size w29 w29.drew := (Below.refl _ _).drew
        have hX29 := hX19.below (b1929.on bd)
        refine h29.drew.rI0 rfl (hX29.rS (n := 3) (x := L[k].2.2) rfl (h29.drew.rI (n := 1) (x := (nchE pl L[k].1).2) rfl ?_))
        rw [hi]
        have hbk := IsC.below blV_len hF19.bk (b1929.on bd)
        have hbl := hbk.len
        obtain ⟨ba, hba⟩ := hbk.base hil
        have hc := hbk.cell ba hba i hil 2 (by omega)
        refine ⟨⟨by omega, ?_⟩, derefP_some hba ⟨L[k].1.bk[i].2.2, by rw [add_add']; exact hc, ?_⟩⟩
        · have : L[k].2.2.l = L[k].1.bk.length := hbl
          omega
        obtain ⟨fr, to_, hbq, hft, htl, _⟩ := (hFn.ok _ (List.getElem_mem hil)).ex
        have hlen := hp.len
        have hto : L[k].1.bk[i].2.2 = (to_ : Int) := by rw [hbq]
        rw [getD_lt hil] at hn
        rw [wrap64_in (by omega) (by omega)]
        exact out _ _ (hS19.below (b1929.on bd)) (hb19.on (b1929.on bd)) (hfail _ hn)
      · have heq : (nchE pl L[k].1).1 = 0 := heq
        by_cases ei : i = k
        · subst ei
          rw [← hfe]
          unfold nflE
          rw [if_neg (by rw [he]; simp), if_neg (by rw [heq]; simp)]
        · exact hgood i q1 (by omega)
  · have hno : (cutF pl pl.length).findSome? (nflE x pl) = none := findSome_no fun j hj => hgood j hj (by dsimp only at h; omega)
    exact out 0 0 (hS12.below b13) hb13 (by rw [hcn, hno])
end
end Go.Proofs
namespace Go.Proofs
open Go.Gk Go.RowKit Go.Gm

theorem frm_branch : (match frm 249 with | some f => decide (f.fixed = [105]) && decide (f.rest = []) | none => false) = true := by decide +kernel
theorem frm_cond : (match frm 250 with | some f => decide (f.fixed = [105, 105, 105]) && decide (f.rest = []) | none => false) = true := by decide +kernel
theorem frm_switch : (match frm 251 with | some f => decide (f.fixed = [105, 105]) && decide (f.rest = [110, 105]) && decide (f.most = 0) | none => false) = true := by decide +kernel
theorem frm_loop : (match frm 246 with | some f => decide (letP f 0 = 105) && decide (letP f 1 = 105) | none => false) = true := by decide +kernel
theorem frm_sel : (match frm 247 with | some f => decide (letP f 0 = 105) | none => false) = true := by decide +kernel
theorem kindP_id : kindP ((105 : Nat) : Int) = 1 := by decide +kernel
theorem let_kind {p : PI} {b : Int} {f : Fl} (hf : frm p.1 = some f) (h : faultI p b = 0) {j : Nat} (hj : j < p.2.2.2.length) (hl : letP f j = 105) : p.2.2.2[j].1 = 1 := by
  obtain ⟨f', hf', _, _, h3, _, _⟩ := fault_all h
  rw [hf] at hf'
  cases hf'
  have hw := h3 j hj
  unfold werr at hw
  have := (wrong_kind hw).2
  rw [getD_lt hj] at this
  rw [this, hl]
  exact kindP_id
theorem takes_let {op : Int} {f : Fl} (hf : frm op = some f) {n j : Nat} (hw : wholeP f n = true) (hj : j < n) (ht : takes op j = true) : letP f j = 105 := by
  unfold takes at ht
  rw [Bool.or_eq_true, Bool.or_eq_true, Bool.and_eq_true, Bool.and_eq_true, beq_iff_eq, beq_iff_eq, beq_iff_eq, decide_eq_true_iff, decide_eq_true_iff] at ht
  have hl := whole_le hw
  rcases ht with (e | ⟨e, _⟩) | ⟨e, hodd⟩
  · have h1 := frm_branch
    rw [← e, hf] at h1
    simp only [Bool.and_eq_true, decide_eq_true_iff] at h1
    obtain ⟨h1, h2⟩ := h1
    unfold wholeP at hw
    rw [h1, h2] at hw
    simp at hw
    have : j = 0 := by omega
    subst this
    unfold letP
    rw [h1]
    rfl
  · have h1 := frm_cond
    rw [← e, hf] at h1
    simp only [Bool.and_eq_true, decide_eq_true_iff] at h1
    obtain ⟨h1, h2⟩ := h1
    unfold wholeP at hw
    rw [h1, h2] at hw
    simp at hw
    unfold letP
    rw [h1]
    have : j = 0 ∨ j = 1 ∨ j = 2 := by omega
    rcases this with rfl | rfl | rfl <;> rfl
  · have h1 := frm_switch
    rw [← e, hf] at h1
    simp only [Bool.and_eq_true, decide_eq_true_iff] at h1
    obtain ⟨⟨h1, h2⟩, h3⟩ := h1
    unfold letP
    rw [h1, h2, h3]
    by_cases h4 : j < 2
    · have : j = 1 := by omega
      subst this
      rfl
    · rw [if_neg (by simpa using h4), if_neg (by simp), if_neg (by omega)]
      have : (j - ([105, 105] : Bs).length) % ([110, 105] : Bs).length = 1 := by simp; omega
      rw [this]
      rfl
theorem tgt_kind {p : PI} {b : Int} (h : faultI p b = 0) {j : Nat} (hj : j < p.2.2.2.length) (ht : takes p.1 j = true) : p.2.2.2[j].1 = 1 := by
  obtain ⟨f, hf, _, _, _, hw, _⟩ := fault_all h
  exact let_kind hf h hj (takes_let hf hw hj ht)
theorem merge_kind {p : PI} {b : Int} (h : faultI p b = 0) : (p.1 = 247 → ∀ h : 0 < p.2.2.2.length, p.2.2.2[0].1 = 1) ∧ (p.1 = 246 → ∀ h : 1 < p.2.2.2.length, p.2.2.2[0].1 = 1 ∧ p.2.2.2[1].1 = 1) := by
  obtain ⟨f, hf, _⟩ := fault_all h
  refine ⟨fun e hl => ?_, fun e hl => ?_⟩
  · have h1 := frm_sel
    have hf' := hf
    rw [e] at hf'
    rw [hf'] at h1
    exact let_kind hf h hl (of_decide_eq_true h1)
  · have h1 := frm_loop
    have hf' := hf
    rw [e] at hf'
    rw [hf'] at h1
    simp only [Bool.and_eq_true, decide_eq_true_iff] at h1
    exact ⟨let_kind hf h (by omega) h1.1, let_kind hf h hl h1.2⟩

def turnB (g : Int → Int) (b : Int × Int × Int) : Int × Int × Int := (g b.1, b.2)
def turnF (g : Int → Int) (f : FnL) : FnL := ⟨g f.id, f.at_, f.en, f.ps, f.bk.map (turnB g)⟩
theorem modL_map {α : Type} {h f f' : α → α} : ∀ l : List α, (∀ x, f (h x) = h (f' x)) → modL f (l.map h) = (modL f' l).map h
  | [], _ => rfl
  | [x], e => by simp only [List.map, modL, e]
  | x :: y :: r, e => by
    have := modL_map (y :: r) e
    simp only [List.map, modL] at this ⊢
    rw [this]
theorem cutS_turn (g : Int → Int) (l : List FnL) (k : Nat) (p : PI) : cutS (l.map (turnF g)) k (turnI g p) = (cutS l k p).map (turnF g) := by
  unfold cutS
  rw [show (turnI g p).1 = p.1 from rfl, show (turnI g p).2.2.1 = g p.2.2.1 from rfl]
  split
  · rw [List.map_append]
    rfl
  split
  · exact modL_map l fun x => rfl
  split
  · exact modL_map l fun x => rfl
  split
  · exact modL_map l fun x => by simp [turnF, turnB]
  split
  · exact modL_map l fun x => by
      unfold turnF
      dsimp only
      rw [modL_map (h := turnB g) (f' := fun b => (b.1, b.2.1, (k : Int) + 1)) x.bk fun y => rfl]
  · rfl
theorem cutF_turn {g : Int → Int} (hz : g 0 = 0) (pl : List PI) : ∀ n, cutF (turnP g pl) n = (cutF pl n).map (turnF g)
  | 0 => rfl
  | n + 1 => by
    show cutS (cutF (turnP g pl) n) n (ix (turnP g pl) n) = _
    rw [cutF_turn hz pl n, ix_turn hz, cutS_turn]
    rfl
section
variable {g : Int → Int} {pl : List PI} {b b' : Int}
theorem lbl_turn {bk : List (Int × Int × Int)} (hi : ∀ x ∈ bk, ∀ n, n ∈ allP pl → (g n = g x.1 ↔ n = x.1)) {n : Int} (hn : n ∈ allP pl) : ∀ k, k < bk.length → lookL (lblN (bk.map (turnB g)) k) (g n) = lookL (lblN bk k) n
  | 0, _ => rfl
  | k + 1, hk => by
    simp only [lblN]
    rw [lookL_set, lookL_set, getD_lt (by rw [List.length_map]; exact hk), getD_lt hk, List.getElem_map, lbl_turn hi hn k (by omega)]
    have := hi _ (List.getElem_mem hk) n hn
    by_cases e : n = bk[k + 1].1
    · rw [if_pos e, if_pos (show g n = (turnB g bk[k + 1]).1 from this.2 e)]
    · rw [if_neg e, if_neg (show ¬ g n = (turnB g bk[k + 1]).1 from fun q => e (this.1 q))]
theorem tgt_turn {p : PI} (h : faultI p b = 0) : tgtP p.1 (p.2.2.2.map (turnA g)) = (tgtP p.1 p.2.2.2).map g := by
  unfold tgtP
  have hk : (p.2.2.2.map (turnA g)).map (·.1) = p.2.2.2.map (·.1) := by
    rw [List.map_map]
    exact List.map_congr_left fun a _ => turnA_k g a
  rw [hk]
  split
  · unfold tgtN
    rw [List.length_map, List.map_map]
    refine List.map_congr_left fun j hj => ?_
    obtain ⟨h1, h2⟩ := List.mem_filter.1 hj
    have h1 := List.mem_range.1 h1
    rw [getD_lt (by rw [List.length_map]; exact h1), List.getElem_map]
    show (turnA g p.2.2.2[j]).2.1 = g (p.2.2.2.getD j (0, 0, bs [])).2.1
    rw [getD_lt h1, turnA_id g (tgt_kind h h1 h2)]
  · rfl
theorem tgt_mem {p : PI} (h : faultI p b = 0) (hp : p ∈ pl) : ∀ n ∈ tgtP p.1 p.2.2.2, n ∈ allP pl := by
  intro n hn
  unfold tgtP at hn
  split at hn
  · obtain ⟨j, hj, rfl⟩ := List.mem_map.1 hn
    obtain ⟨h1, h2⟩ := List.mem_filter.1 hj
    have h1 := List.mem_range.1 h1
    rw [getD_lt h1]
    obtain ⟨k, hk, rfl⟩ := List.getElem_of_mem hp
    exact (mem_all hk).2.2 _ (List.getElem_mem h1) (tgt_kind h h1 h2)
  · cases hn
theorem fnd_turn {M M' : List (Int × Int)} {ls : List Int} (h : ∀ n ∈ ls, lookL M' (g n) = lookL M n) : fndP M' (ls.map g) = fndP M ls := by
  unfold fndP
  have h1 : (ls.map g).all (fun n => (lookL M' n).isSome) = ls.all (fun n => (lookL M n).isSome) := by
    rw [List.all_map]
    induction ls with
    | nil => rfl
    | cons a r ih =>
      simp only [List.all_cons, Function.comp]
      rw [h a (List.mem_cons_self ..), ih fun n hn => h n (List.mem_cons_of_mem _ hn)]
  have h2 : ((ls.map g).map fun n => (lookL M' n).getD 0) = ls.map fun n => (lookL M n).getD 0 := by
    rw [List.map_map]
    exact List.map_congr_left fun n hn => by simp only [Function.comp]; rw [h n hn]
  rw [h1, h2]
theorem TurnOk.blk (h : TurnOk g pl b') (hs : (shapeP b pl).1 = 0) {f : FnL} (hf : FnOk pl pl.length f) {c : Int × Int × Int} (hc : c ∈ f.bk) :
    blkM (turnP g pl) (turnF g f).bk (turnB g c) = blkM pl f.bk c ∧ fndP (lblM (turnF g f).bk) (blkT (turnP g pl) (turnB g c)) = fndP (lblM f.bk) (blkT pl c) := by
  obtain ⟨fr, to_, rfl, hft, htl, h248, h8f, hend, h8t⟩ := (hf.ok c hc).ex
  have hpos : 0 < f.bk.length := List.length_pos_iff.2 hf.ne
  have hi : ∀ x ∈ f.bk, ∀ n, n ∈ allP pl → (g n = g x.1 ↔ n = x.1) := fun x hx n hn => by
    obtain ⟨q, q1, _, q3, _⟩ := (hf.ok x hx).label
    rw [q1]
    exact h.eq (.inl hn) (res_mem pl q)
  have hlk : ∀ n ∈ allP pl, lookL (lblM (turnF g f).bk) (g n) = lookL (lblM f.bk) n := fun n hn => by
    have := lbl_turn hi hn (f.bk.length - 1) (by omega)
    show lookL (lblN (f.bk.map (turnB g)) ((f.bk.map (turnB g)).length - 1)) (g n) = _
    rw [List.length_map]
    exact this
  have h1l : to_ - 1 < pl.length := by omega
  have h2l : to_ - 2 < pl.length := by omega
  have f1 := (shape_ok hs).2 (to_ - 1) h1l
  have f2 := (shape_ok hs).2 (to_ - 2) h2l
  have ea : ∀ k, (ix (turnP g pl) k).2.2.2 = (ix pl k).2.2.2.map (turnA g) := fun k => by rw [ix_turn h.zero]; rfl
  have eo : ∀ k, (ix (turnP g pl) k).1 = (ix pl k).1 := fun k => by rw [ix_turn h.zero]; rfl
  constructor
  · unfold blkM
    show mrgP _ (ix (turnP g pl) (Int.toNat (to_ : Int) - 2)).1 (ix (turnP g pl) (Int.toNat (to_ : Int) - 2)).2.2.2 (ix (turnP g pl) (Int.toNat (to_ : Int) - 1)).1 = mrgP _ (ix pl (Int.toNat (to_ : Int) - 2)).1 (ix pl (Int.toNat (to_ : Int) - 2)).2.2.2 (ix pl (Int.toNat (to_ : Int) - 1)).1
    rw [Int.toNat_natCast, ea, eo, eo, ix_lt h2l]
    obtain ⟨m1, m2⟩ := merge_kind f2
    obtain ⟨a1, a2⟩ := merge_args f2
    have mem : ∀ j (hj : j < pl[to_ - 2].2.2.2.length), pl[to_ - 2].2.2.2[j].1 = 1 → lookL (lblM (turnF g f).bk) ((pl[to_ - 2].2.2.2.map (turnA g)).getD j ag0).2.1 = lookL (lblM f.bk) (pl[to_ - 2].2.2.2.getD j ag0).2.1 := fun j hj e => by
      rw [getD_lt (by rw [List.length_map]; exact hj), getD_lt hj, List.getElem_map, turnA_id g e]
      exact hlk _ ((mem_all h2l).2.2 _ (List.getElem_mem hj) e)
    unfold mrgP
    split
    · rename_i e
      rw [mem 0 (a1 e) (m1 e (a1 e))]
    split
    · rename_i e
      rw [mem 0 (by have := a2 e; omega) (m2 e (a2 e)).1, mem 1 (a2 e) (m2 e (a2 e)).2]
    · rfl
  · have : blkT (turnP g pl) (turnB g ((ix pl fr).2.2.1, (fr : Int), (to_ : Int))) = (blkT pl ((ix pl fr).2.2.1, (fr : Int), (to_ : Int))).map g := by
      unfold blkT
      show tgtP (ix (turnP g pl) (Int.toNat (to_ : Int) - 1)).1 (ix (turnP g pl) (Int.toNat (to_ : Int) - 1)).2.2.2 = (tgtP (ix pl (Int.toNat (to_ : Int) - 1)).1 (ix pl (Int.toNat (to_ : Int) - 1)).2.2.2).map g
      rw [Int.toNat_natCast, ea, eo, ix_lt h1l]
      exact tgt_turn f1
    rw [this]
    refine fnd_turn fun n hn => hlk n ?_
    refine tgt_mem f1 (List.getElem_mem h1l) n ?_
    unfold blkT at hn
    rw [show Int.toNat ((ix pl fr).2.2.1, (fr : Int), (to_ : Int)).2.2 = to_ from rfl, ix_lt h1l] at hn
    exact hn
theorem TurnOk.rows (h : TurnOk g pl b') (hs : (shapeP b pl).1 = 0) {f : FnL} (hf : FnOk pl pl.length f) : rowsP (turnP g pl) (turnF g f).bk = rowsP pl f.bk ∧ mgsP (turnP g pl) (turnF g f).bk = mgsP pl f.bk := by
  constructor
  · unfold rowsP
    show (f.bk.map (turnB g)).map _ = _
    rw [List.map_map]
    refine List.map_congr_left fun c hc => ?_
    have := (h.blk hs hf hc).2
    simp only [Function.comp]
    rw [this]
  · unfold mgsP
    show (f.bk.map (turnB g)).map _ = _
    rw [List.map_map]
    refine List.map_congr_left fun c hc => ?_
    have := (h.blk hs hf hc).1
    simp only [Function.comp]
    rw [this]
theorem findSome_map {α β γ : Type} {F : β → Option γ} {G : α → Option γ} {t : α → β} : ∀ l : List α, (∀ x ∈ l, F (t x) = G x) → (l.map t).findSome? F = l.findSome? G
  | [], _ => rfl
  | a :: r, e => by
    rw [List.map_cons, List.findSome?_cons, List.findSome?_cons, e a (List.mem_cons_self ..), findSome_map r fun x hx => e x (List.mem_cons_of_mem _ hx)]
/-- What graph.New says is wrong, with other ids. -/
theorem TurnOk.gnw {x y : Mo} (h : TurnOk g pl y.2.1) (hs : (shapeP x.2.1 pl).1 = 0) (hl : (layP x.2.1 pl).1 = 0) {f : FnL} (hf : f ∈ cutF pl pl.length) : gnwE y (turnP g pl) (turnF g f) = gnwE x pl f := by
  have hOk := cut_ok hl f hf
  unfold gnwE
  rw [h.chk9 hs, turnP_len]
  split
  · rfl
  have hin : turnF g f ∈ cutF (turnP g pl) pl.length := by
    rw [cutF_turn h.zero]
    exact List.mem_map.2 ⟨f, hf, rfl⟩
  rw [if_neg (show ¬ (turnF g f ∉ cutF (turnP g pl) pl.length) from fun q => q hin)]
  try rw [if_neg (show ¬ (f ∉ cutF pl pl.length) from fun q => q hf)]
  have : (turnF g f).bk.length = f.bk.length := List.length_map ..
  rw [this]
  split
  · rfl
  have : (turnF g f).bk.findSome? (blkE (turnP g pl) (turnF g f).bk) = f.bk.findSome? (blkE pl f.bk) := by
    refine findSome_map f.bk fun c hc => ?_
    obtain ⟨h1, h2⟩ := h.blk hs hOk hc
    unfold blkE
    rw [h1, h2]
    rfl
  rw [this]
end
end Go.Proofs
namespace Go.Proofs
open Go.Gk
set_option linter.unusedVariables false
set_option maxRecDepth 100000

/-- intaglio.intagliokit.None -/
def a_intagliokit_None : Ann := (.seq none .nil (.seq none .nil .nil))
def L_intagliokit_None (p0 : (Int × Int × Sl × Unit)) (R : Value → World → Prop) (w : World) : Prop :=
 Nw (w.alloc (.cells #[(.int .u32 p0.1), (.int .u32 p0.2.1), (.slice p0.2.2.1.a p0.2.2.1.l p0.2.2.1.c)] 25)) fun w1 =>
 ldI w1 (blk w.heap.size) .u32 fun x1 =>
 ifB (x1 == (0 : Int))
 (ldI w1 ((blk w.heap.size).add 1) .u32 fun x2 =>
 ifB (x2 == (0 : Int))
 (ldS w1 ((blk w.heap.size).add 2) fun x3 =>
 R (.bool ((x3.l : Int) == (0 : Int))) w1)
 (R (.bool false) w1))
 (R (.bool false) w1)
theorem intagliokit_None_calls (p0 : (Int × Int × Sl × Unit)) (R : Value → World → Prop) (w : World) (h : L_intagliokit_None p0 R w) : Calls Tryz.prog 17 #[(.agg #[(.int .u32 p0.1), (.int .u32 p0.2.1), (.slice p0.2.2.1.a p0.2.2.1.l p0.2.2.1.c)])] w (Ret R) :=
 lw_calls (fs := Tryz.fs) (an := a_intagliokit_None) (args := [(.agg #[(.int .u32 p0.1), (.int .u32 p0.2.1), (.slice p0.2.2.1.a p0.2.2.1.l p0.2.2.1.c)])]) Tryz.fsOK Tryz.mixed Tryz.func17 (by kernel_rfl) (by kernel_rfl)
 (Eq.mpr (by kernel_rfl : lwFn Tryz.prog Tryz.fs Tryz.f17 a_intagliokit_None [(.agg #[(.int .u32 p0.1), (.int .u32 p0.2.1), (.slice p0.2.2.1.a p0.2.2.1.l p0.2.2.1.c)])] w R = L_intagliokit_None p0 R w) h)

end Go.Proofs
namespace Go.Proofs
open Go.Gk Go.RowKit Go.Gm

/-- What Renumber comes to. -/
def rnbP (x : Mo) (pl : List PI) : Int × Int × List PI := if (chk9P x.2.1 pl).1 ≠ 0 then (0, 0, []) else (x.1, bndP pl, newP pl)
section
variable {x : Mo} {pl : List PI} {w : World} {R : Value → World → Prop}
theorem Renumber_spec (hN : IsPl w x.2.2.1 pl) (hp : PlOk pl)
    (hR : ∀ (y : Mo) ql w', Below w.heap.size w w' → OwnPl w' w.heap.size y.2.2.1 ql → (y.1, y.2.1, ql) = rnbP x pl → R (.tuple #[moA y, .agg #[.int .i64 (chk9P x.2.1 pl).1, .int .i64 ((chk9P x.2.1 pl).2 : Int)]]) w') :
    callR Tryz.prog 16 #[moA x] w R := by
  refine callR.of (ids_Renumber_calls x R w ?_) fun _ _ h => h
  refine lay_of fun w1 hB1 b1 z1 => ?_
  have hB1 : Blk w1 w.heap.size 25 (moV x) := hB1
  refine lay_of fun w2 hM2 b2 z2 => ?_
  have hM2 : Blk w2 w1.heap.size 25 [.int .u32 0, .int .u32 0, .slice none 0 0] := hM2
  refine lay_of fun w3 hS3 b3 z3 => ?_
  have hS3 : Blk w3 w2.heap.size 33 [.int .i64 0, .int .i64 0] := hS3
  have b13 := b2.on b3
  have hb3 := b1.on b13
  refine Mo.load (hB1.below b13) ?_
  refine Check_spec (x := x) (hN.below hb3) hp fun w4 b4 => ⟨((chk9P x.2.1 pl).1, ((chk9P x.2.1 pl).2 : Int), ()), rfl, ?_⟩
  refine box2 rfl fun w7 h7 b7 z7 => ?_
  have s4 := b4.size
  have b37 := b4.on b7
  have hb7 := hb3.on b37
  have hB7 := (hB1.below b13).below b37
  have hM7 := (hM2.below b3).below b37
  have hS7 := hS3.below b37
  refine h7.rI0 rfl (ifB_bne (fun e => ?_) (fun e => ?_))
  · have e' : (chk9P x.2.1 pl).1 ≠ 0 := e
    refine Sp.load h7.drew ?_
    refine st3 hM7.drew rfl fun w8 hM8 c8 => ?_
    have h8 := c8.blk h7.drew (by omega)
    refine ⟨h8.cell (n := 0) rfl, h8.cell (n := 1) rfl, ?_⟩
    refine st2 (c8.blk hS7.drew (by omega)) rfl fun w9 hS9 c9 => ?_
    refine Mo.load (x := (0, 0, ⟨none, 0, 0⟩, ())) (c9.blk hM8 (by omega)) (Sp.load hS9 ?_)
    exact hR (0, 0, ⟨none, 0, 0⟩, ()) [] w9 (c9.below (c8.below hb7.drew (by omega)) (by omega)) (OwnPl.nil _ _) (by unfold rnbP; rw [if_pos e'])
  have e' : (chk9P x.2.1 pl).1 = 0 := e
  obtain ⟨k1, k2, k3⟩ := chk9_ok e'
  refine Nw.gen fun w8 e8 => ?_
  have m8 : IsMp w8 w7.heap.size .u32 [] := by rw [e8]; exact IsMp.new _ _
  have b8 : Below w7.heap.size w7 w8 := by rw [e8]; exact (Below.refl _ _).alloc (Nat.le_refl _) _
  have z8 : w8.heap.size = w7.heap.size + 1 := by rw [e8]; simp
  clear e8
  refine updW_of uMap uU32 m8 fun w9 m9 c9 => ?_
  have z9 := c9.size
  refine Nw.gen fun w10 e10 => ?_
  have hP10 : Blk w10 w9.heap.size 92 [.map none] := by rw [e10]; exact Blk.new _ _ _
  have b10 : Below w9.heap.size w9 w10 := by rw [e10]; exact (Below.refl _ _).alloc (Nat.le_refl _) _
  have z10 : w10.heap.size = w9.heap.size + 1 := by rw [e10]; simp
  clear e10
  refine ⟨hP10.wr0 (by simp), Nw.gen fun w11 e11 => ?_⟩
  have c11 : Chg w9.heap.size w10 w11 := by rw [e11]; exact Chg.set w9.heap.size 0 w10 _
  have hP11 : Blk w11 w9.heap.size 92 [.map (some w7.heap.size)] := by rw [e11]; exact hP10.set0 _
  clear e11
  have m11 := (m9.below b10).of_block (c11.block _ (by omega))
  have hb11 : Below w.heap.size w w11 := c11.below ((c9.below (hb7.on b8) (by have := hb7.size; omega)).on b10) (by have := hb7.size; omega)
  have up : ∀ {k T cs}, k < w7.heap.size → Blk w7 k T cs → Blk w11 k T cs := fun hk h => c11.blk ((c9.blk (h.below b8) (by omega)).below b10) (by omega)
  have hB11 := up (by have := hB7.lt; omega) hB7
  have hM11 := up (by have := hM7.lt; omega) hM7
  have hS11 := up (by have := hS7.lt; omega) hS7
  have z11 := c11.size
  have s7 := hb7.size
  refine hB11.rS (n := 2) (x := x.2.2.1) rfl ?_
  have hl := hN.len
  have h40 := hp.len
  refine LoopW.count pl.length hN.bound (fun k w' => Below w.heap.size w w' ∧ w11.heap.size ≤ w'.heap.size ∧ Blk w' w.heap.size 25 (moV x) ∧ Blk w' w1.heap.size 25 [.int .u32 0, .int .u32 0, .slice none 0 0] ∧ Blk w' w2.heap.size 33 [.int .i64 0, .int .i64 0] ∧
    Blk w' w9.heap.size 92 [.map (some w7.heap.size)] ∧ ∃ L, IsMp w' w7.heap.size .u32 L ∧ RnOk L pl k) ⟨hb11, Nat.le_refl _, hB11, hM11, hS11, hP11, _, m11, RnOk.start pl⟩ ?_
  rintro k w12 hk ⟨hb, hz, hB, hM, hS, hP, L, hL, hRn⟩ next hnext
  refine ifB_dec (fun h => ?_) (fun h => ?_)
  · have hlt : k < pl.length := by dsimp only at h; omega
    have eix : ix pl k = pl[k] := ix_lt hlt
    refine JoinW.cut (fun _ w' => Below w.heap.size w w' ∧ w11.heap.size ≤ w'.heap.size ∧ Blk w' w.heap.size 25 (moV x) ∧ Blk w' w1.heap.size 25 [.int .u32 0, .int .u32 0, .slice none 0 0] ∧ Blk w' w2.heap.size 33 [.int .i64 0, .int .i64 0] ∧
      Blk w' w9.heap.size 92 [.map (some w7.heap.size)] ∧ ∃ L, IsMp w' w7.heap.size .u32 L ∧ RnOk L pl (k + 1)) ?_ (fun _ w' hP => hnext w' hlt hP)
    refine elemPI (hN.below hb) hlt fun t ht => ?_
    refine box4 rfl fun w13 hI13 b13' z13 => ?_
    have hI13 : Blk w13 w12.heap.size 41 (inV (mkIn pl[k] t)) := hI13
    have hb13 := hb.on b13'
    have hP13 := hP.below b13'
    have hL13 := hL.below b13'
    have s13 := b13'.size
    refine hI13.rI (n := 2) (x := pl[k].2.2.1) rfl (ifB_bne (fun e0 => ?_) (fun e0 => ?_))
    · refine hP13.rM0 rfl (hI13.rI (n := 2) (x := pl[k].2.2.1) rfl (hP13.rM0 rfl (lenW_of uMap hL13 ?_)))
      refine updW_of uMap uU32 hL13 fun w14 m14 c14 => ?_
      have hst := hRn.step (by rw [eix]; exact e0) (fun j hj => flt_new (k3 k hlt) (by rw [eix]; exact e0) j hj (by omega))
      rw [eix] at hst
      have s14 := c14.size
      exact ⟨c14.below hb13 (by omega), by omega, c14.blk (hB.below b13') (by omega), c14.blk (hM.below b13') (by have := hM7.lt; omega), c14.blk (hS.below b13') (by have := hS7.lt; omega), c14.blk hP13 (by omega), _, m14, hst⟩
    · exact ⟨hb13, by omega, hB.below b13', hM.below b13', hS.below b13', hP13, L, hL13, hRn.skip (by rw [eix]; exact e0)⟩
  · have hk' : k = pl.length := by dsimp only at h; omega
    subst hk'
    refine Mo.load hB ?_
    have hcf : Tryz.fs.contains 54 = true := by kernel_rfl
    refine turned_spec (x := x) (g := rnP pl pl.length) (hN.below hb) hp (fun w' hb' n hn => ?_) fun s w13 hO13 b13' => ⟨(x.1, x.2.1, s, ()), rfl, ?_⟩
    · unfold callV
      simp only [hcf]
      refine callR.of (ids_Renumber_1_calls n (blk w9.heap.size) _ w' ?_) fun _ _ h => h
      refine (hP.below hb').rM0 rfl (lookV_of uMap uU32 zU32 (hL.below hb') ?_)
      exact ⟨by rw [hRn.look], Below.refl _ _⟩
    have s13 := b13'.size
    have hB13 := hB.below b13'
    have hM13 := hM.below b13'
    have hS13 := hS.below b13'
    have hP13 := hP.below b13'
    have hL13 := hL.below b13'
    have hb13 := hb.on b13'
    have hlt1 := hM7.lt
    have hlt2 := hS7.lt
    refine st3 hB13 rfl fun w14 hB14 c14 => ?_
    refine (c14.blk hP13 (by omega)).rM0 rfl (lenW_of uMap (hL13.of_block (c14.block _ (by omega))) ?_)
    have c15 := Chg.set w.heap.size 1 w14 (.int .u32 (IntKind.u32.wrap (L.length : Int)))
    refine ⟨hB14.wr (n := 1) (by simp), Nw.mk ?_⟩
    have hB15 : Blk _ w.heap.size 25 (moV (x.1, IntKind.u32.wrap (L.length : Int), s, ())) := hB14.set 1 (.int .u32 (IntKind.u32.wrap (L.length : Int)))
    refine Mo.load hB15 ?_
    refine st3 (c15.blk (c14.blk hM13 (by omega)) (by omega)) rfl fun w16 hM16 c16 => ?_
    refine st2 (c16.blk (c15.blk (c14.blk hS13 (by omega)) (by omega)) (by omega)) rfl fun w17 hS17 c17 => ?_
    refine Mo.load (x := (x.1, IntKind.u32.wrap (L.length : Int), s, ())) (c17.blk hM16 (by omega)) (Sp.load hS17 ?_)
    have hO17 := (((hO13.chg c14 (by omega)).chg c15 (by omega)).chg c16 (by omega)).chg c17 (by omega)
    have hb17 := c17.below (c16.below (c15.below (c14.below hb13 (Nat.le_refl _)) (Nat.le_refl _)) (by omega)) (by omega)
    have := hR (x.1, IntKind.u32.wrap (L.length : Int), s, ()) (newP pl) w17 hb17 (hO17.lower (by omega)) (by
      unfold rnbP
      rw [if_neg (fun h => h e'), hRn.len]
      rfl)
    rw [k1] at this
    exact this

end
end Go.Proofs

namespace Go.Proofs
open Go.Gk Go.RowKit Go.Gm

end Go.Proofs
namespace Go.Proofs
open Go.Gk Go.RowKit Go.Gm

theorem PlOk.turn {g : Int → Int} {pl : List PI} (h : PlOk pl) (hg : ∀ n ∈ allP pl, 0 ≤ g n ∧ g n ≤ 4294967295) : PlOk (turnP g pl) := by
  have get : ∀ p ∈ turnP g pl, ∃ q ∈ pl, p = turnI g q := fun p hp => by
    obtain ⟨q, hq, e⟩ := List.mem_map.1 hp
    exact ⟨q, hq, e.symm⟩
  refine ⟨by rw [turnP_len]; exact h.len, fun p hp => ?_, fun p hp x hx => ?_, fun p hp => ?_⟩
  · obtain ⟨q, hq, rfl⟩ := get p hp
    have := h.args q hq
    unfold turnI
    dsimp only
    rw [List.length_map]
    exact this
  · obtain ⟨q, hq, rfl⟩ := get p hp
    obtain ⟨y, hy, rfl⟩ := List.mem_map.1 hx
    rw [turnA_t]
    exact h.text q hq y hy
  · obtain ⟨q, hq, rfl⟩ := get p hp
    refine ⟨hg _ (mem_allI hq (by simp [allI])), hg _ (mem_allI hq (by simp [allI])), fun x hx => ?_⟩
    obtain ⟨y, hy, rfl⟩ := List.mem_map.1 hx
    by_cases e : y.1 = 1
    · rw [turnA_id g e]
      refine hg _ (mem_allI hq ?_)
      simp only [allI, List.mem_cons]
      right; right
      exact List.mem_map.2 ⟨y, List.mem_filter.2 ⟨hy, by simp [e]⟩, rfl⟩
    · rw [turnA_no g e]
      exact (h.nums q hq).2.2 y hy
theorem TurnOk.plOk {g : Int → Int} {pl : List PI} {b' : Int} (h : TurnOk g pl b') (hp : PlOk pl) : PlOk (turnP g pl) := by
  refine hp.turn fun n hn => ?_
  have hb := h.pos
  by_cases e : n = 0
  · rw [e, h.zero]; omega
  · have := h.rng n hn e
    omega
section
variable {x : Mo} {pl : List PI} {w : World} {R : Value → World → Prop} {s : Sl} {T : List Int}
theorem boxMS {y : Mo} {e a : Int} {K : World → World → Prop} (hK : ∀ w1 w', w1.heap.size = w.heap.size + 1 → Blk w' w.heap.size 25 (moV y) → Blk w' w1.heap.size 33 [.int .i64 e, .int .i64 a] → Below w.heap.size w w' → w'.heap.size = w.heap.size + 2 → K w1 w') :
    Nw (w.alloc (.cells #[(.int .u32 (0 : Int)), (.int .u32 (0 : Int)), (.slice none 0 0)] 25)) fun w1 =>
    Nw (w1.alloc (.cells #[(.int .i64 (0 : Int)), (.int .i64 (0 : Int))] 33)) fun w2 =>
    Wr w2 (blk w.heap.size) ∧ Nw (w2.setCell (blk w.heap.size) (.int .u32 y.1)) fun w3 =>
    Wr w3 ((blk w.heap.size).add 1) ∧ Nw (w3.setCell ((blk w.heap.size).add 1) (.int .u32 y.2.1)) fun w4 =>
    Wr w4 ((blk w.heap.size).add 2) ∧ Nw (w4.setCell ((blk w.heap.size).add 2) (.slice y.2.2.1.a y.2.2.1.l y.2.2.1.c)) fun w5 =>
    Wr w5 (blk w1.heap.size) ∧ Nw (w5.setCell (blk w1.heap.size) (.int .i64 e)) fun w6 =>
    Wr w6 ((blk w1.heap.size).add 1) ∧ Nw (w6.setCell ((blk w1.heap.size).add 1) (.int .i64 a)) fun w7 => K w1 w7 := by
  refine lay_of fun w1 hM1 b1 z1 => ?_
  refine lay_of fun w2 hS2 b2 z2 => ?_
  refine st3 (hM1.below b2) rfl fun w3 hM3 c3 => ?_
  refine st2 (c3.blk hS2 (by omega)) rfl fun w5 hS5 c5 => ?_
  exact hK w1 w5 z1 (c5.blk hM3 (by omega)) hS5 (c5.below (c3.below (b1.on b2) (Nat.le_refl _)) (by omega)) (by rw [c5.size, c3.size]; omega)
theorem None_spec (hR : ∀ w', Below w.heap.size w w' → R (.bool true) w') (h1 : x.1 = 0) (h2 : x.2.1 = 0) (h3 : x.2.2.1.l = 0) : callR Tryz.prog 17 #[moA x] w R := by
  refine callR.of (intagliokit_None_calls x R w ?_) fun _ _ h => h
  refine lay_of fun w1 hB1 b1 z1 => ?_
  have hB1 : Blk w1 w.heap.size 25 (moV x) := hB1
  refine hB1.rI0 (x := x.1) rfl (ifB_beq (fun _ => ?_) (fun e => absurd h1 e))
  refine hB1.rI (n := 1) (x := x.2.1) rfl (ifB_beq (fun _ => ?_) (fun e => absurd h2 e))
  refine hB1.rS (n := 2) (x := x.2.2.1) rfl ?_
  have := hR w1 b1
  rw [h3]
  exact this

theorem rnb_none (h : (chk9P x.2.1 pl).1 ≠ 0) : rnbP x pl = (0, 0, []) := by unfold rnbP; rw [if_pos h]
theorem rnb_some (h : chk9P x.2.1 pl = (0, 0)) : rnbP x pl = (x.1, bndP pl, newP pl) := by unfold rnbP; rw [if_neg (by rw [h]; simp)]
end
end Go.Proofs
namespace Go.Proofs
open Go.Gk Go.RowKit Go.Gm Go.Gr

section
variable {x : Mo} {pl : List PI} {w : World} {R : Value → World → Prop}
theorem TurnOk.nmo {g : Int → Int} {y : Mo} (h : TurnOk g pl y.2.1) (hs : (shapeP x.2.1 pl).1 = 0) : nmoE y (turnP g pl) = nmoE x pl := by
  unfold nmoE
  rw [h.chk9 hs]
  by_cases hc : (chk9P x.2.1 pl).1 ≠ 0
  · rw [if_pos hc, if_pos hc]
  rw [if_neg hc, if_neg hc]
  have hl := (chk9_ok (Classical.not_not.1 hc)).2.1
  have : (cutF (turnP g pl) (turnP g pl).length).findSome? (nflE y (turnP g pl)) = (cutF pl pl.length).findSome? (nflE x pl) := by
    rw [show cutF (turnP g pl) (turnP g pl).length = (cutF pl pl.length).map (turnF g) by rw [turnP_len]; exact cutF_turn h.zero pl _]
    refine findSome_map _ fun f hf => ?_
    have hFn := cut_ok hl f hf
    obtain ⟨r1, r2⟩ := h.rows hs hFn
    have hn : nchE (turnP g pl) (turnF g f) = nchE pl f := by unfold nchE; rw [r1, r2]
    unfold nflE
    rw [h.gnw (x := x) hs hl hf, hn]
    have hb : ∀ i, ((turnF g f).bk.getD i (0, 0, 0)).2.2 = (f.bk.getD i (0, 0, 0)).2.2 := fun i => by
      by_cases hi : i < f.bk.length
      · rw [getD_lt (show i < (turnF g f).bk.length by show i < (f.bk.map (turnB g)).length; rw [List.length_map]; exact hi), getD_lt hi]
        show ((f.bk.map (turnB g))[i]'_).2.2 = _
        rw [List.getElem_map]
        rfl
      · rw [getD_ge (show (turnF g f).bk.length ≤ i by show (f.bk.map (turnB g)).length ≤ i; rw [List.length_map]; omega), getD_ge (by omega)]
    rw [hb]
  rw [this]
theorem NestRenamed_spec (hN : IsPl w x.2.2.1 pl) (hp : PlOk pl) (hbd : 0 ≤ x.2.1 ∧ x.2.1 ≤ 4294967295) (hR : ∀ w', Below w.heap.size w w' → R (.bool true) w') :
    callR Tryz.prog 5 #[moA x] w R := by
  refine callR.of (intagliolaw16_NestRenamed_calls x R w ?_) fun _ _ h => h
  refine lay_of fun w1 hB1 b1 z1 => ?_
  have hB1 : Blk w1 w.heap.size 25 (moV x) := hB1
  refine Mo.load hB1 ?_
  refine CopyModule_spec (x := x) (hN.below b1) hp fun ca w2 _ _ hC2 b2 => ⟨(x.1, x.2.1, ⟨some (blk ca), pl.length, pl.length⟩, ()), rfl, ?_⟩
  refine Renumber_spec (x := (x.1, x.2.1, ⟨some (blk ca), pl.length, pl.length⟩, ())) hC2 hp fun y ql w3 b3 hO3 hy => ⟨y, ((chk9P x.2.1 pl).1, ((chk9P x.2.1 pl).2 : Int), ()), rfl, ?_⟩
  have hy : (y.1, y.2.1, ql) = rnbP x pl := hy
  refine boxMS (y := y) fun w4 w10 z4 hY10 hS10 b10 z10 => ?_
  have b110 := (b2.on b3).on b10
  have hb10 := b1.on b110
  have hB10 := hB1.below b110
  have hO10 := hO3.below b10
  refine hS10.rI0 rfl (ifB_bne (fun e => ?_) (fun e => ?_))
  · have e : (chk9P x.2.1 pl).1 ≠ 0 := e
    rw [rnb_none e, Prod.mk.injEq, Prod.mk.injEq] at hy
    refine Mo.load hY10 ?_
    refine None_spec (x := y) (fun w11 b11 => ⟨_, rfl, ifB_true rfl ?_⟩) hy.1 hy.2.1 ?_
    · exact nawake_spec fun w12 b12 => ⟨true, rfl, hR w12 ((hb10.on b11).on b12)⟩
    · rw [hO10.isPl.len, hy.2.2]
      rfl
  have e : (chk9P x.2.1 pl).1 = 0 := e
  obtain ⟨hok, hlay, _⟩ := chk9_ok e
  have hsh := lay_shape hlay
  have hw9 := Whole9.of hp hbd.1 e
  rw [rnb_some hok, Prod.mk.injEq, Prod.mk.injEq] at hy
  obtain ⟨hy1, hy2, hy3⟩ := hy
  have hturn0 := hw9.turn
  have hturn : TurnOk (rnP pl pl.length) pl y.2.1 := by rw [hy2]; exact hturn0
  have hql : ql = turnP (rnP pl pl.length) pl := hy3
  generalize rnP pl pl.length = g at *
  subst hql
  have hpq : PlOk (turnP g pl) := hturn.plOk hp
  have h0y : 0 ≤ y.2.1 := by have := hturn.pos; omega
  have hN10 : IsPl w10 y.2.2.1 (turnP g pl) := hO10.isPl
  have bd : Below w10.heap.size w10 w10.drew := (Below.refl _ _).drew
  have hB10d := hB10.below bd
  refine Mo.load (hY10.below bd) (Mo.load hB10d ?_)
  refine nMod_spec (x := y) (hN10.below bd) hpq h0y fun w13 b13 => ⟨((nmoE y (turnP g pl)).1, (nmoE y (turnP g pl)).2, ()), rfl, ?_⟩
  have hB13 := hB10d.below b13
  refine ⟨hB13.cell (n := 0) rfl, hB13.cell (n := 1) rfl, hB13.cell (n := 2) rfl, ?_⟩
  have b1013 := bd.on b13
  have hb13 := hb10.on b1013
  refine CopyModule_spec (x := x) (hN.below hb13) hp fun cb w14 _ _ hC14 b14 => ⟨(x.1, x.2.1, ⟨some (blk cb), pl.length, pl.length⟩, ()), rfl, ?_⟩
  refine nMod_spec (x := (x.1, x.2.1, ⟨some (blk cb), pl.length, pl.length⟩, ())) hC14 hp hbd.1 fun w15 b15 => ⟨((nmoE x pl).1, (nmoE x pl).2, ()), rfl, ?_⟩
  rw [hturn.nmo (x := x) hsh]
  refine ifB_true (by simp) ?_
  exact nawake_spec fun w16 b16 => ⟨true, rfl, hR w16 (((hb13.on b14).on b15).on b16)⟩
end
end Go.Proofs
