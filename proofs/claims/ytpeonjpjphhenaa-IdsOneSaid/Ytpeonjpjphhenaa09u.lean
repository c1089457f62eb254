/-
  ids: a module in new memory; who uses an id, what it is called.
-/
import Derived.Test.YtpeonjpjphhenaaL09
import Derived.Test.Ytpeonjpjphhenaa04r
namespace Go.Proofs
open Go.Gk Go.RowKit Go.Gm

/-! ### A module in new memory -/
/-- What CopyModule lays: the instructions at block b, each one's arguments in a block of its own behind. -/
def Cpy (w : World) (b : Nat) (pl : List PI) : Prop :=
  ∃ hs : List Ins, hs.length = pl.length ∧ Blk w b 45 (flat inV hs) ∧ ∀ (j : Nat) (h : j < hs.length) (h' : j < pl.length), ∃ c, b < c ∧ hs[j] = mkIn pl[j] ⟨some (blk c), pl[j].2.2.2.length, pl[j].2.2.2.length⟩ ∧ Blk w c 87 (flat agV pl[j].2.2.2)
theorem Cpy.below {w w' : World} {b : Nat} {pl : List PI} (h : Cpy w b pl) (hb : Below w.heap.size w w') : Cpy w' b pl := by
  obtain ⟨hs, h1, h2, h3⟩ := h
  refine ⟨hs, h1, h2.below hb, fun j hj hj' => ?_⟩
  obtain ⟨c, h4, h5, h6⟩ := h3 j hj hj'
  exact ⟨c, h4, h5, h6.below hb⟩
theorem Cpy.isPl {w : World} {b : Nat} {pl : List PI} (h : Cpy w b pl) (hm : pl.length ≤ 9223372036854775807) (hm' : ∀ p ∈ pl, p.2.2.2.length ≤ 9223372036854775807) : IsPl w ⟨some (blk b), pl.length, pl.length⟩ pl := by
  obtain ⟨hs, h1, h2, h3⟩ := h
  refine ⟨rfl, Nat.le_refl _, hm, (fun h => by cases h), fun a ha k hk => ?_⟩
  cases ha
  obtain ⟨c, h4, h5, h6⟩ := h3 k (by omega) hk
  refine ⟨⟨some (blk c), pl[k].2.2.2.length, pl[k].2.2.2.length⟩, fun j hj => ?_, Blk.isC agV_len (by omega) h6 (hm' _ (List.getElem_mem hk))⟩
  rw [← h5]
  have hg := flat_get inV_len hs k (by omega) j hj
  have hlt : j < (inV (hs[k]'(by omega))).length := hj
  rw [List.getElem?_eq_getElem hlt] at hg ⊢
  exact h2.cell hg
theorem CopyModule_spec {x : Mo} {pl : List PI} {w : World} {R : Value → World → Prop} (hN : IsPl w x.2.2.1 pl) (hp : PlOk pl)
    (hR : ∀ b w', w.heap.size ≤ b → Cpy w' b pl → IsPl w' ⟨some (blk b), pl.length, pl.length⟩ pl → Below w.heap.size w w' → R (moA (x.1, x.2.1, ⟨some (blk b), pl.length, pl.length⟩, ())) w') :
    callR Try.prog 10 #[moA x] w R := by
  refine callR.of (intagliokit_CopyModule_calls x R w ?_) fun _ _ h => h
  refine lay_of fun w1 hB1 b1 z1 => ?_
  have hB1 : Blk w1 w.heap.size 25 (moV x) := hB1
  refine lay_of fun w2 hC2 b2 z2 => ?_
  have hC2 : Blk w2 w1.heap.size 25 [.int .u32 0, .int .u32 0, .slice none 0 0] := hC2
  have hB2 := hB1.below b2
  have hl := hN.len
  have h40 := hp.len
  refine hB2.rS (n := 2) rfl ⟨⟨by omega, by omega, by omega, by omega⟩, ?_⟩
  refine lay_of fun w3 hD3 b3 z3 => ?_
  have hb3 := (b1.on b2).on b3
  have hB3 := hB2.below b3
  have hC3 := hC2.below b3
  have hargs : ∀ p ∈ pl, p.2.2.2.length ≤ 9223372036854775807 := fun p h => by have := hp.args p h; omega
  refine LoopW.count pl.length hN.bound (fun k w' => Below w.heap.size w w' ∧ w3.heap.size ≤ w'.heap.size ∧ Blk w' w.heap.size 25 (moV x) ∧ Blk w' w1.heap.size 25 [.int .u32 0, .int .u32 0, .slice none 0 0] ∧
      ∃ (hs : List Ins) (r : List Value), hs.length = k ∧ Blk w' w2.heap.size 45 (flat inV hs ++ r) ∧ r.length = (pl.length - k) * 4 ∧
        ∀ (j : Nat) (h : j < hs.length) (h' : j < pl.length), ∃ c, w2.heap.size < c ∧ hs[j] = mkIn pl[j] ⟨some (blk c), pl[j].2.2.2.length, pl[j].2.2.2.length⟩ ∧ Blk w' c 87 (flat agV pl[j].2.2.2))
    ⟨hb3, Nat.le_refl _, hB3, hC3, [], _, rfl, by simpa [flat] using hD3, by rw [Array.length_toList, size_madeCells, hl]; simp, fun j h _ => by cases h⟩ ?_
  rintro k w4 hk ⟨hb, hz, hB, hC, hs, r, hhl, hD, hr, hrow⟩ next hnext
  refine hB.rS (n := 2) rfl (ifB_dec (fun hlt => ?_) (fun hge => ?_))
  · have hlt : k < pl.length := by dsimp only at hlt; omega
    refine hB.rS (n := 2) rfl (elemPI (hN.below hb) hlt fun t ht => ?_)
    refine CopyInst_spec (x := mkIn pl[k] t) ht (hp.args _ (List.getElem_mem hlt)) fun c w5 hc hA5 hI5 b5 => ⟨mkIn pl[k] ⟨some (blk c), pl[k].2.2.2.length, pl[k].2.2.2.length⟩, rfl, ?_⟩
    have hb5 := hb.on b5
    have hD5 := hD.below b5
    have hB5 := hB.below b5
    have hC5 := hC.below b5
    have s5 := b5.size
    refine ⟨⟨by omega, by dsimp only; omega⟩, ?_⟩
    have hfl : (flat inV hs).length = k * 4 := by rw [flat_length inV_len, hhl]
    obtain ⟨r', hr', e⟩ := set4 (flat inV hs) (cs := r) (m := pl.length - (k + 1)) (by rw [hr]; congr 1; omega) (.int .u16 pl[k].1) (.int .u32 pl[k].2.1) (.int .u32 pl[k].2.2.1) (.slice (some (blk c)) pl[k].2.2.2.length pl[k].2.2.2.length)
    rw [hfl] at e
    have hcl : (flat inV hs ++ r).length = pl.length * 4 := by rw [List.length_append, hfl, hr, ← Nat.add_mul]; congr 1; omega
    dsimp only
    rw [show Int.toNat (k : Int) = k from rfl]
    simp only [add_add']
    have hD1 := hD5.set (k * 4) (.int .u16 pl[k].1)
    have hD2 := hD1.set (k * 4 + 1) (.int .u32 pl[k].2.1)
    have hD3 := hD2.set (k * 4 + 2) (.int .u32 pl[k].2.2.1)
    have hD4 := hD3.set (k * 4 + 3) (.slice (some (blk c)) pl[k].2.2.2.length pl[k].2.2.2.length)
    have c1 := (((Chg.set w2.heap.size (k * 4) w5 (.int .u16 pl[k].1)).trans (Chg.set w2.heap.size (k * 4 + 1) _ (.int .u32 pl[k].2.1))).trans (Chg.set w2.heap.size (k * 4 + 2) _ (.int .u32 pl[k].2.2.1))).trans
      (Chg.set w2.heap.size (k * 4 + 3) _ (.slice (some (blk c)) pl[k].2.2.2.length pl[k].2.2.2.length))
    refine ⟨hD5.wr (by omega), hD1.wr (by rw [List.length_set]; omega), hD2.wr (by rw [List.length_set, List.length_set]; omega), hD3.wr (by rw [List.length_set, List.length_set, List.length_set]; omega), ?_⟩
    refine hnext _ hlt ⟨c1.below hb5 (by omega), by rw [c1.size]; omega, c1.blk hB5 (by omega), c1.blk hC5 (by omega), hs ++ [mkIn pl[k] ⟨some (blk c), pl[k].2.2.2.length, pl[k].2.2.2.length⟩], r', by simp [hhl], ?_, hr', ?_⟩
    · rw [e] at hD4
      have e2 : flat inV (hs ++ [mkIn pl[k] ⟨some (blk c), pl[k].2.2.2.length, pl[k].2.2.2.length⟩]) = flat inV hs ++ inV (mkIn pl[k] ⟨some (blk c), pl[k].2.2.2.length, pl[k].2.2.2.length⟩) := by
        simp [flat]
      rw [e2]
      exact hD4
    · intro j h h'
      by_cases hj : j < hs.length
      · obtain ⟨c', g1, g2, g3⟩ := hrow j hj h'
        refine ⟨c', g1, ?_, c1.blk (g3.below b5) (by omega)⟩
        rw [List.getElem_append_left hj]
        exact g2
      · have hj' : j = k := by simp at h; omega
        subst hj'
        refine ⟨c, by omega, ?_, c1.blk hA5 (by omega)⟩
        rw [List.getElem_append_right (by omega)]
        simp [hhl]
  · have hk' : k = pl.length := by dsimp only at hge; omega
    subst hk'
    simp only [Nat.sub_self, Nat.zero_mul] at hr
    have : r = [] := List.eq_nil_of_length_eq_zero hr
    subst this
    rw [List.append_nil] at hD
    refine ⟨hB.wr (n := 2) (by simp), ?_⟩
    rw [hl]
    have c1 := Chg.set w.heap.size 2 w4 (.slice (some (blk w2.heap.size)) pl.length pl.length)
    have hB5 : Blk _ w.heap.size 25 (moV (x.1, x.2.1, ⟨some (blk w2.heap.size), pl.length, pl.length⟩, ())) := hB.set 2 (.slice (some (blk w2.heap.size)) pl.length pl.length)
    have hb5 := c1.below hb (Nat.le_refl _)
    have hC5 := c1.blk hC (by omega)
    have hD5 := c1.blk hD (by omega)
    refine Nw.mk (Mo.load hB5 ?_)
    refine st3 hC5 rfl fun w6 hC6 c6 => ?_
    have hC6 : Blk w6 w1.heap.size 25 (moV (x.1, x.2.1, ⟨some (blk w2.heap.size), pl.length, pl.length⟩, ())) := hC6
    have hcp : Cpy w6 w2.heap.size pl := ⟨hs, hhl, c6.blk hD5 (by omega), fun j h h' => by
      obtain ⟨c', g1, g2, g3⟩ := hrow j h h'
      exact ⟨c', g1, g2, c6.blk (c1.blk g3 (by omega)) (by omega)⟩⟩
    refine Mo.load hC6 ?_
    exact hR w2.heap.size w6 (by omega) hcp (hcp.isPl hN.bound hargs) (c6.below hb5 (by omega))

/-! ### Who uses an id -/
theorem shape_zero {bound : Int} {pl : List PI} (h : (shapeP bound pl).1 = 0) : shapeP bound pl = (0, 0) := by
  unfold shapeP at h ⊢
  split at h
  · cases h
  · rename_i hb
    rw [if_neg hb]
    split at h
    · dsimp only at h
      split at h
      · rename_i hf; exact absurd h hf
      · cases h
    · rfl
def names (id : Int) (p : PI) : Bool := (idsP p.2.1 p.2.2.2).contains id
def usesN (id : Int) (pl : List PI) (k : Nat) : List Int := ((List.range k).filter fun j => names id (pl.getD j pi0)).map (fun (j : Nat) => (j : Int))
theorem usesN_succ (id : Int) {pl : List PI} {k : Nat} (hk : k < pl.length) : usesN id pl (k + 1) = usesN id pl k ++ (if names id pl[k] = true then [(k : Int)] else []) := by
  unfold usesN
  rw [List.range_succ, List.filter_append, List.map_append]
  congr 1
  rw [List.filter_cons, getD_lt hk]
  cases names id pl[k] <;> simp
theorem usesN_len (id : Int) (pl : List PI) (k : Nat) : (usesN id pl k).length ≤ k := by
  unfold usesN
  rw [List.length_map]
  exact Nat.le_trans (List.length_filter_le _ _) (by simp)
def usesP (bound : Int) (pl : List PI) (id : Int) : List Int := if (shapeP bound pl).1 = 0 then usesN id pl pl.length else []
section
variable {x : Mo} {pl : List PI} {id : Int} {w : World} {R : Value → World → Prop}
/-! ### What an id is called -/
def isName (id : Int) (p : PI) : Bool := p.1 == 5 && (p.2.2.2.getD 0 ag0).2.1 == id
def nameO (pl : List PI) (id : Int) : Option Nat := (List.range pl.length).find? fun k => isName id (pl.getD k pi0)
def nameP (bound : Int) (pl : List PI) (id : Int) : ByteArray × Bool := if (shapeP bound pl).1 = 0 then (match nameO pl id with
    | some k => (((pl.getD k pi0).2.2.2.getD 1 ag0).2.2, true)
    | none => (bs [], false)) else (bs [], false)
theorem name_args {ty re : Int} {al : List Ag} {bd : Int} (h : faultP 5 ty re al bd = 0) : 2 ≤ al.length := by
  have hfr : frm 5 = some ([79, 112, 78, 97, 109, 101], false, false, [105, 115], [], 0, 5) := by kernel_rfl
  rw [faultP_some hfr] at h
  unfold faultF at h
  split at h
  · rename_i h1; exact absurd h h1
  · split at h
    · cases h
    · rename_i h2
      unfold wholeP at h2
      refine Classical.byContradiction fun hlt => h2 ?_
      exact if_pos (by show al.length < 2; omega)
/-! ### The law -/
end

end Go.Proofs
