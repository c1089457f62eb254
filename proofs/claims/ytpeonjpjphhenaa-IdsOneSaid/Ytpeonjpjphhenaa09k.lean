/-
  ids: who makes an id: the map of makers, Made.
-/
import Derived.Test.YtpeonjpjphhenaaL09m
import Derived.Test.Ytpeonjpjphhenaa09a
import Derived.Test.YtpeonjpjphhenaaRep
import Derived.Maps.RangeRun
namespace Go.Proofs
open Go.Gk Go.RowKit Go.Gm

/-! ### Maps: keys, each once -/
def KeyN (L : List (Int × Int)) : Prop := (L.map (·.1)).Nodup
theorem lookL_mem {k v : Int} : ∀ {L : List (Int × Int)}, lookL L k = some v → (k, v) ∈ L
  | p :: r, h => by
    simp only [lookL] at h
    split at h
    · rename_i e
      cases h
      subst e
      exact List.mem_cons_self
    · exact List.mem_cons_of_mem _ (lookL_mem h)
theorem lookL_of {k v : Int} : ∀ {L : List (Int × Int)}, KeyN L → (k, v) ∈ L → lookL L k = some v
  | p :: r, hn, h => by
    unfold KeyN at hn
    rw [List.map_cons, List.nodup_cons] at hn
    simp only [lookL]
    rcases List.mem_cons.1 h with e | h
    · rw [← e]
      exact if_pos rfl
    · rw [if_neg]
      · exact lookL_of hn.2 h
      · intro e
        exact hn.1 (List.mem_map.2 ⟨(k, v), h, e⟩)
theorem keys_set (k v : Int) : ∀ L : List (Int × Int), (setL L k v).map (·.1) = L.map (·.1) ∨ ((setL L k v).map (·.1) = L.map (·.1) ++ [k] ∧ k ∉ L.map (·.1))
  | [] => .inr ⟨rfl, by simp⟩
  | p :: r => by
    simp only [setL]
    split
    · rename_i e
      left
      simp [e]
    · rename_i e
      rcases keys_set k v r with h | ⟨h1, h2⟩
      · left
        simp [h]
      · right
        refine ⟨by simp [h1], ?_⟩
        rw [List.map_cons, List.mem_cons, not_or]
        exact ⟨e, h2⟩
theorem KeyN.set {L : List (Int × Int)} (h : KeyN L) (k v : Int) : KeyN (setL L k v) := by
  unfold KeyN at h ⊢
  rcases keys_set k v L with e | ⟨e, hk⟩
  · rw [e]; exact h
  · rw [e]
    refine List.nodup_append.2 ⟨h, by simp, ?_⟩
    intro a ha b hb e'
    rw [List.mem_singleton] at hb
    rw [e', hb] at ha
    exact hk ha

/-! ### Who makes an id -/
def mk1 (pl : List PI) (id : Int) (k : Nat) : Bool := (pl.getD k pi0).2.2.1 == id && id != 0
def makerI (pl : List PI) (id : Int) (n : Nat) : Int := match (List.range n).find? (mk1 pl id) with
  | some k => (k : Int)
  | none => -1
def madeP (bound : Int) (pl : List PI) : List Int := if (shapeP bound pl).1 = 0 then (List.range bound.toNat).map fun (id : Nat) => makerI pl (id : Int) pl.length else []
/-- The map L says who makes an id, of the instructions from k on. -/
def MkOk (L : List (Int × Int)) (pl : List PI) (k : Nat) : Prop := ∀ id, (lookL L id = none → ∀ j, k ≤ j → j < pl.length → mk1 pl id j = false) ∧
  ∀ v, lookL L id = some v → ∃ j : Nat, v = (j : Int) ∧ k ≤ j ∧ j < pl.length ∧ mk1 pl id j = true ∧ ∀ i, k ≤ i → i < j → mk1 pl id i = false
theorem MkOk.end (pl : List PI) : MkOk [] pl pl.length := fun _ => ⟨fun _ j h1 h2 => by omega, fun v h => by cases h⟩
theorem MkOk.step {L : List (Int × Int)} {pl : List PI} {k : Nat} (h : MkOk L pl (k + 1)) (hk : k < pl.length) : MkOk (if pl[k].2.2.1 ≠ 0 then setL L pl[k].2.2.1 k else L) pl k := by
  have hm : ∀ id, mk1 pl id k = (pl[k].2.2.1 == id && id != 0) := fun id => by unfold mk1; rw [getD_lt hk]
  intro id
  obtain ⟨h1, h2⟩ := h id
  by_cases e0 : pl[k].2.2.1 = 0
  · rw [if_neg (fun h => h e0)]
    have hf : mk1 pl id k = false := by
      rw [hm, e0]
      by_cases e : id = 0
      · rw [e]; rfl
      · rw [beq_eq_false_iff_ne.2 (fun h => e h.symm), Bool.false_and]
    refine ⟨fun hn j g1 g2 => ?_, fun v hv => ?_⟩
    · by_cases e : j = k
      · subst e; exact hf
      · exact h1 hn j (by omega) g2
    · obtain ⟨j, q1, q2, q3, q4, q5⟩ := h2 v hv
      refine ⟨j, q1, by omega, q3, q4, fun i g1 g2 => ?_⟩
      by_cases e : i = k
      · subst e; exact hf
      · exact q5 i (by omega) g2
  · rw [if_pos e0, lookL_set]
    by_cases e : id = pl[k].2.2.1
    · rw [if_pos e]
      refine ⟨fun hn => by (cases hn), fun v hv => ⟨k, (Option.some.inj hv).symm, Nat.le_refl _, hk, ?_, fun i g1 g2 => by omega⟩⟩
      rw [hm, e]
      simp [e0]
    · rw [if_neg e]
      have hf : mk1 pl id k = false := by rw [hm, beq_eq_false_iff_ne.2 (fun h => e h.symm), Bool.false_and]
      refine ⟨fun hn j g1 g2 => ?_, fun v hv => ?_⟩
      · by_cases e : j = k
        · subst e; exact hf
        · exact h1 hn j (by omega) g2
      · obtain ⟨j, q1, q2, q3, q4, q5⟩ := h2 v hv
        refine ⟨j, q1, by omega, q3, q4, fun i g1 g2 => ?_⟩
        by_cases e : i = k
        · subst e; exact hf
        · exact q5 i (by omega) g2
theorem MkOk.maker {L : List (Int × Int)} {pl : List PI} (h : MkOk L pl 0) (id : Int) : makerI pl id pl.length = (match lookL L id with | some v => v | none => -1) := by
  obtain ⟨h1, h2⟩ := h id
  unfold makerI
  cases e : lookL L id with
  | none =>
    have : (List.range pl.length).find? (mk1 pl id) = none := by
      rw [List.find?_eq_none]
      intro j hj
      rw [h1 e j (Nat.zero_le _) (List.mem_range.1 hj)]
      simp
    rw [this]
  | some v =>
    obtain ⟨j, q1, _, q3, q4, q5⟩ := h2 v e
    rw [find_first q3 q4 fun i hi => q5 i (Nat.zero_le _) hi]
    exact q1.symm
theorem MkOk.range {L : List (Int × Int)} {pl : List PI} (h : MkOk L pl 0) {id v : Int} (hv : lookL L id = some v) : ∃ p ∈ pl, p.2.2.1 = id := by
  obtain ⟨j, _, _, q3, q4, _⟩ := (h id).2 v hv
  refine ⟨pl[j], List.getElem_mem q3, ?_⟩
  unfold mk1 at q4
  rw [getD_lt q3, Bool.and_eq_true, beq_iff_eq] at q4
  exact q4.1

theorem uMapI : Try.prog.underlying 77 = some (.map 22 3) := by kernel_rfl
theorem Backward1_spec {y : Value} {s : Sl} {pl : List PI} {pb : Nat} {w : World} (Inv : Nat → World → Prop) (S : World → Prop) (h0 : Inv pl.length w)
    (hkeep : ∀ k w', Inv k w' → w'.cell? (blk pb) = some (.slice s.a s.l s.c) ∧ IsPl w' s pl)
    (hround : ∀ k (hk : k < pl.length) t w', Inv (k + 1) w' → callV Try.prog Try.fs y [.int .i64 (k : Int), inA (mkIn pl[k] t)] w' fun v w'' => (v = .bool true ∧ Inv k w'') ∨ (v = .bool false ∧ S w''))
    (hend : ∀ w', Inv 0 w' → S w') : Calls Try.prog 93 #[y, .pointer (some (blk pb))] w (Ret fun _ w' => S w') := by
  refine slices_Backward_sapi_Inst_api_Inst__1_calls y (blk pb) _ w ⟨s, (hkeep _ _ h0).1, ?_⟩
  have hlen := (hkeep _ _ h0).2.len
  have hmax := (hkeep _ _ h0).2.bound
  dsimp only
  rw [hlen, wrap64_in (by omega) (by omega)]
  refine LoopW.ghost (fun j st w' => j ≤ pl.length ∧ st = ((j : Int) - 1, ()) ∧ Inv j w') pl.length ⟨Nat.le_refl _, rfl, h0⟩ ?_
  rintro k _ w1 ⟨hk, rfl, hI⟩ next hnext
  refine ifB_dec (fun h => ?_) (fun h => ?_)
  · obtain ⟨j, rfl⟩ : ∃ j, k = j + 1 := ⟨k - 1, by dsimp only at h; omega⟩
    have hlt : j < pl.length := by omega
    obtain ⟨c1, c2⟩ := hkeep _ _ hI
    have ej : (((j + 1 : Nat) : Int) - 1) = (j : Int) := by omega
    dsimp only
    rw [ej]
    refine ⟨s, c1, elemPI c2 hlt fun t _ => ?_⟩
    refine callV.mono (hround j hlt t w1 hI) fun v w2 hv => ?_
    rcases hv with ⟨rfl, hv⟩ | ⟨rfl, hv⟩
    · refine ⟨true, rfl, ifB_false rfl ?_⟩
      rw [wrap64_in (by omega) (by omega)]
      exact hnext j _ _ (by omega) ⟨by omega, rfl, hv⟩
    · exact ⟨false, rfl, ifB_true rfl hv⟩
  · have hk0 : k = 0 := by dsimp only at h; omega
    subst hk0
    exact hend w1 hI
theorem makers_spec {s : Sl} {pl : List PI} {w : World} {R : Value → World → Prop} (hN : IsPl w s pl)
    (hR : ∀ w' L, IsMp w' w.heap.size .i64 L → MkOk L pl 0 → KeyN L → Below w.heap.size w w' → R (.map (some w.heap.size)) w') : callR Try.prog 38 #[.slice s.a s.l s.c] w R := by
  refine callR.of (ids_makers_calls s R w ?_) fun _ _ h => h
  refine Nw.gen fun w1 e1 => ?_
  have m1 : IsMp w1 w.heap.size .i64 [] := by rw [e1]; exact IsMp.new _ _
  have b1 : Below w.heap.size w w1 := by rw [e1]; exact (Below.refl _ _).alloc (Nat.le_refl _) _
  have z1 : w1.heap.size = w.heap.size + 1 := by rw [e1]; simp
  clear e1
  refine Nw.gen fun w2 e2 => ?_
  have hB2 : Blk w2 w1.heap.size 77 [.map none] := by rw [e2]; exact Blk.new _ _ _
  have b2 : Below w1.heap.size w1 w2 := by rw [e2]; exact (Below.refl _ _).alloc (Nat.le_refl _) _
  have z2 : w2.heap.size = w.heap.size + 2 := by rw [e2]; simp [z1]
  clear e2
  refine ⟨hB2.wr0 (by simp), Nw.gen fun w3 e3 => ?_⟩
  have c3 : Chg w1.heap.size w2 w3 := by rw [e3]; exact Chg.set w1.heap.size 0 w2 _
  have hB3 : Blk w3 w1.heap.size 77 [.map (some w.heap.size)] := by rw [e3]; exact hB2.set0 _
  clear e3
  have m3 := (m1.below b2).of_block (c3.block _ (by omega))
  have hb3 : Below w.heap.size w w3 := c3.below (b1.on b2) (by omega)
  have z3 := c3.size
  refine callR.of (slices_Backward_sapi_Inst_api_Inst_calls s _ w3 ?_) fun _ _ h => h
  refine lay_of fun w4 hC4 b4 z4 => ⟨_, rfl, ?_⟩
  have hC4 : Blk w4 w3.heap.size 23 [.slice s.a s.l s.c] := hC4
  intro mk hy
  have hcf : Try.fs.contains 93 = true := by kernel_rfl
  unfold callF
  simp only [hcf]
  generalize hw5 : ((w4.alloc (.deferred (some []))).alloc (mk .ready none)) = w5
  have b5 : Below w4.heap.size w4 w5 := by rw [← hw5]; exact laid_below w4 _ _
  have hd5 : w5.heap[w4.heap.size]? = some (.deferred (some [])) := by rw [← hw5]; exact laid_d w4 _ _
  have hl5 : w5.heap[w4.heap.size + 1]? = some (mk .ready none) := by rw [← hw5]; exact laid_l w4 _ _
  clear hw5
  have b35 := b4.on b5
  refine Backward1_spec (y := .func (.yield (w4.heap.size + 1)) #[] #[]) (s := s) (pl := pl)
    (fun k w' => w'.heap[w4.heap.size + 1]? = some (mk .ready none) ∧ w'.heap[w4.heap.size]? = some (.deferred (some [])) ∧ Blk w' w1.heap.size 77 [.map (some w.heap.size)] ∧ Blk w' w3.heap.size 23 [.slice s.a s.l s.c] ∧ Below w.heap.size w w' ∧
      ∃ L, IsMp w' w.heap.size .i64 L ∧ MkOk L pl k ∧ KeyN L) _
    ⟨hl5, hd5, hB3.below b35, hC4.below b5, hb3.on b35, [], m3.below b35, MkOk.end pl, by simp [KeyN]⟩ ?_ ?_ ?_
  · rintro k w' ⟨h1, h2, h3, h4, h5, _⟩
    exact ⟨h4.cell0 rfl, hN.below h5⟩
  · rintro k hk t w' ⟨h1, h2, h3, h4, h5, L, h6, h7, h8⟩
    have hlt' : w4.heap.size + 1 < w'.heap.size := (Array.getElem?_eq_some_iff.1 h1).1
    refine hy ((k : Int), mkIn pl[k] t, ()) w' _ h1 ?_
    refine box4 rfl fun w6 hI6 b6 z6 => ?_
    have hI6 : Blk w6 w'.heap.size 45 (inV (mkIn pl[k] t)) := hI6
    have hl6 : w6.heap[w4.heap.size + 1]? = some (mk .ready none) := (b6.block _ hlt').trans h1
    refine ⟨hl6, Nw.gen fun w7 e7 => ?_⟩
    have s6 := b6.size
    have hlt6 : w4.heap.size + 1 < w6.heap.size := by omega
    have ho7 : ∀ b, b ≠ w4.heap.size + 1 → w7.heap[b]? = w6.heap[b]? := fun b hb => by rw [e7]; exact World.putObj_heap_other hb
    have z7 : w7.heap.size = w6.heap.size := by rw [e7]; simp
    have hl7 : w7.heap[w4.heap.size + 1]? = some (mk .busy none) := by rw [e7]; exact put_self hlt6 _
    have hb7 : Below w.heap.size w w7 := by rw [e7]; exact (h5.on b6).putObj (by omega) _
    clear e7
    have d7 : w7.heap[w4.heap.size]? = some (.deferred (some [])) := by rw [ho7 _ (by omega), b6.block _ (by omega)]; exact h2
    have k3 := (h3.below b6).of_block (ho7 _ (by have := b4.size; omega))
    have k4 := (h4.below b6).of_block (ho7 _ (by omega))
    have k6 := (h6.below b6).of_block (ho7 _ (by omega))
    have kI := hI6.of_block (ho7 _ (by omega))
    have hst := h7.step hk
    have hput : ∀ {w8 : World}, w8.heap[w4.heap.size + 1]? = some (mk .busy none) → w4.heap.size + 1 < w8.heap.size := fun h => (Array.getElem?_eq_some_iff.1 h).1
    refine kI.rI (n := 2) rfl (ifB_bne (fun e => ?_) (fun e => ?_))
    · have e' : pl[k].2.2.1 ≠ 0 := e
      rw [if_pos e'] at hst
      refine k3.rM0 rfl (kI.rI (n := 2) rfl ?_)
      refine updW_of uMapI uU32 k6 fun w8 m8 c8 => ?_
      have hl8 : w8.heap[w4.heap.size + 1]? = some (mk .busy none) := by rw [c8.block _ (by omega)]; exact hl7
      refine ⟨hl8, .inl ⟨rfl, put_self (hput hl8) _, ?_, ?_, ?_, ?_, _, ?_, hst, h8.set _ _⟩⟩
      · rw [World.putObj_heap_other (by omega), c8.block _ (by omega)]; exact d7
      · exact (c8.blk k3 (by omega)).put (by omega) _
      · exact (c8.blk k4 (by omega)).put (by omega) _
      · exact (c8.below hb7 (Nat.le_refl _)).putObj (by omega) _
      · exact m8.of_block (World.putObj_heap_other (by omega))
    · have e' : ¬ pl[k].2.2.1 ≠ 0 := fun h => h e
      rw [if_neg e'] at hst
      refine ⟨hl7, .inl ⟨rfl, put_self (by omega) _, ?_, ?_, ?_, ?_, L, ?_, hst, h8⟩⟩
      · rw [World.putObj_heap_other (by omega)]; exact d7
      · exact k3.put (by omega) _
      · exact k4.put (by omega) _
      · exact hb7.putObj (by omega) _
      · exact k6.of_block (World.putObj_heap_other (by omega))
  · rintro w' ⟨h1, h2, h3, h4, h5, L, h6, h7, h8⟩
    refine ⟨h1, ?_⟩
    have k3 := h3.put (l := w4.heap.size + 1) (by omega) (mk .exhausted none)
    refine k3.rM0 rfl (closeM_one (by rw [World.putObj_heap_other (by omega)]; exact h2) ?_)
    refine hR _ L ?_ h7 h8 ?_
    · exact (h6.of_block (World.putObj_heap_other (by omega))).of_block (World.putObj_heap_other (by omega))
    · exact (h5.putObj (by omega) _).putObj (by omega) _

end Go.Proofs
