/-
  Contracts of the document's graph: All, Reached.
-/
import Derived.Test.Ytjplhoollkeihaa14r
namespace Go.Proofs
open Go.Gk Go.RowKit Go.Gr

theorem count_up {bl : List Bool} {t : Nat} (ht : t < bl.length) (hf : bl.getD t false = false) : bl.count true < (bl.set t true).count true := by
  have e : bl[t] = false := by simpa [List.getD, ht] using hf
  rw [List.count_set ht, e]
  simp
theorem getD_set {bl : List Bool} {t j : Nat} (ht : t < bl.length) : (bl.set t true).getD j false = (bl.getD j false || j == t) := by
  simp only [List.getD, List.getElem?_set]
  by_cases e : t = j
  · subst e; simp [ht]
  · simp [e, Ne.symm e]

/-- The marks under way. -/
structure Mk (w0 : World) (nx : List (List Nat)) (wo : Int) (w : World) (bl : List Bool) : Prop where
  below : Below w0.heap.size w0 w
  blk : Blk w w0.heap.size 4 (bl.map Value.bool)
  len : bl.length = nx.length
  sound : ∀ j, bl.getD j false = true → ReachN nx wo j
  zero : bl.getD 0 false = true
theorem Mk.ld {w0 : World} {nx : List (List Nat)} {wo : Int} {w : World} {bl : List Bool} (h : Mk w0 nx wo w bl) {i : Nat} (hi : i < nx.length) {φ : Bool → Prop} (hφ : φ (bl.getD i false)) : ldB w ((Go.Gk.blk w0.heap.size).add i) φ := by
  refine ⟨bl.getD i false, h.blk.cell ?_, hφ⟩
  have : i < bl.length := by rw [h.len]; exact hi
  simp [List.getD, this]
theorem Mk.set {w0 : World} {nx : List (List Nat)} {wo : Int} {w : World} {bl : List Bool} (h : Mk w0 nx wo w bl) {t : Nat} (ht : t < nx.length) (hr : ReachN nx wo t) : Mk w0 nx wo (w.setCell ((Go.Gk.blk w0.heap.size).add t) (.bool true)) (bl.set t true) := by
  have htl : t < bl.length := by rw [h.len]; exact ht
  refine ⟨h.below.setCell (by rw [add_block]; exact Nat.le_refl _) _, ?_, by rw [List.length_set]; exact h.len, fun j hj => ?_, ?_⟩
  · rw [List.map_set]; exact h.blk.set t _
  · rw [getD_set htl, Bool.or_eq_true] at hj
    rcases hj with hj | hj
    · exact h.sound j hj
    · have : j = t := by simpa using hj
      subst this; exact hr
  · rw [getD_set htl, h.zero]; rfl
/-- What row i leads to is marked. -/
def ClAt (nx : List (List Nat)) (wo : Int) (bl : List Bool) (i : Nat) : Prop := bl.getD i false = true → ∀ t ∈ nx.getD i [], (t : Int) ≠ wo → bl.getD t false = true

set_option maxHeartbeats 1000000 in
theorem All_spec {rb : Nat} {nx : List (List Nat)} (hx : NxOk nx) {wo : Int} {w : World} {R : Value → World → Prop} (h : IsR w rb nx)
    (hR : ∀ w' (bl : List Bool), Below w.heap.size w w' → Blk w' w.heap.size 4 (bl.map Value.bool) → bl.length = nx.length → (∀ j, bl.getD j false = true ↔ ReachN nx wo j) → R (.slice (some (blk w.heap.size)) nx.length nx.length) w') :
    callR Try.prog 149 #[.pointer (some (blk rb)), .int .i64 wo] w R := by
  refine callR.of (intaglioref14_Graph_All_calls _ wo R w ?_) fun _ _ h => h
  have hmx := hx.max
  have hps := hx.pos
  refine rLen_spec h ⟨_, rfl, ⟨by omega, by omega, by omega, by omega⟩, Nw.gen fun w2 hw2 => ?_⟩
  have hb2 : Below w.heap.size w w2 := by rw [hw2]; exact (Below.refl _ _).alloc (Nat.le_refl _) _
  have hB2 : Blk w2 w.heap.size 4 (List.replicate nx.length (.bool false)) := by rw [hw2]; exact Blk.made w _ _ _
  clear hw2
  have hst : ∀ {w' : World}, Below w.heap.size w w' → IsR w' rb nx := fun hb => h.below hb
  have hz : (List.replicate nx.length false).map Value.bool = List.replicate nx.length (.bool false) := List.map_replicate
  refine JoinW.cut (fun _ w' => w' = w2 ∧ wo ≠ 0) (rLen_spec (hst hb2) ⟨_, rfl, ifB_beq (fun he => by omega) fun _ => ifB_beq (fun he => ?_) fun he => ⟨rfl, he⟩⟩) ?_
  · refine hR w2 (List.replicate nx.length false) hb2 (by rw [hz]; exact hB2) (by simp) fun j => ⟨fun hj => ?_, fun hj => ?_⟩
    · exfalso
      simp only [List.getD, List.getElem?_replicate] at hj
      split at hj <;> simp at hj
    · exfalso
      subst he
      induction hj with
      | zero h _ => exact h rfl
      | step _ _ _ ih => exact ih
  rintro _ wx ⟨ewx, hwo⟩
  subst wx
  refine ⟨⟨by first | omega | (dsimp only; omega), by first | omega | (dsimp only; omega)⟩, hB2.wr (n := 0) (by simp; omega), Nw.gen fun w5 hw5 => ?_⟩
  have hm5 : Mk w nx wo w5 ((List.replicate nx.length false).set 0 true) := by
    have hl0 : 0 < (List.replicate nx.length false).length := by simpa using hps
    refine ⟨by rw [hw5]; exact hb2.setCell (by rw [add_block]; exact Nat.le_refl _) _, ?_, by simp, fun j hj => ?_, ?_⟩
    · rw [hw5, List.map_set, hz]; exact hB2.set 0 _
    · rw [getD_set hl0] at hj
      have e : (List.replicate nx.length false).getD j false = false := by
        simp only [List.getD, List.getElem?_replicate]
        split <;> rfl
      rw [e, Bool.false_or] at hj
      have : j = 0 := by simpa using hj
      subst this
      exact .zero hwo hps
    · rw [getD_set hl0]; simp
  clear hw5
  -- till nothing turns
  refine LoopW.ghost (fun j s w' => ∃ bl m, Mk w nx wo w' bl ∧ s = (m, ()) ∧ (m = false → ∀ i, ClAt nx wo bl i) ∧ j = if m then nx.length - bl.count true + 1 else 0) (nx.length - ((List.replicate nx.length false).set 0 true).count true + 1) ⟨_, true, hm5, rfl, (fun h => by cases h), rfl⟩ ?_
  rintro _ _ w6 ⟨bl, m, hm6, rfl, hcl, rfl⟩ next hnext
  refine ifB_bool (fun hm => ?_) (fun hm => ?_)
  · have hm : m = true := hm
    subst hm
    refine LoopW.countS nx.length (by omega) (fun i m w' => ∃ bl', Mk w nx wo w' bl' ∧ (m = false → bl' = bl ∧ ∀ i', i' < i → ClAt nx wo bl i') ∧ (m = true → bl.count true < bl'.count true)) ⟨bl, hm6, fun _ => ⟨rfl, fun i' hi' => by omega⟩, fun h => by cases h⟩ ?_
    rintro i m w7 hi ⟨bl7, hm7, hf7, ht7⟩ nxt hnxt
    refine rLen_spec (hst hm7.below) ⟨_, rfl, ifB_dec (fun hlt => ?_) (fun hge => ?_)⟩
    · have hlt : i < nx.length := by dsimp only at hlt; omega
      refine JoinW.cut (fun st w' => ∃ bl', Mk w nx wo w' bl' ∧ (st.1 = false → bl' = bl ∧ ∀ i', i' < i + 1 → ClAt nx wo bl i') ∧ (st.1 = true → bl.count true < bl'.count true)) ?_ fun st w' hh => hnxt st.1 w' hlt hh
      refine ⟨⟨by first | omega | (dsimp only; omega), by first | omega | (dsimp only; omega)⟩, hm7.ld hlt (ifB_not (ifB_bool (fun hmk => ?_) (fun hmk => ?_)))⟩
      · -- a node that is marked
        obtain ⟨sr, hs, g1, g2⟩ := h
        have hgd : nx.getD i [] = nx[i] := by simp [List.getD, hlt]
        have hrow : ∀ {w' : World}, Below w.heap.size w w' → ∀ (h' : i < hs.length), IsN w' hs[i] (nx.getD i []) := fun hb h' => by rw [hgd]; exact (g2.below hb).row i h' hlt
        have hrl := hx.row_le i
        have hri : ReachN nx wo i := hm7.sound i hmk
        refine LoopW.countS (nx.getD i []).length (by omega) (fun k m w' => ∃ bl', Mk w nx wo w' bl' ∧ (m = false → bl' = bl ∧ (∀ i', i' < i → ClAt nx wo bl i') ∧ ∀ k', k' < k → ∀ (hk' : k' < (nx.getD i []).length), (((nx.getD i [])[k'] : Nat) : Int) ≠ wo → bl.getD (nx.getD i [])[k'] false = true) ∧ (m = true → bl.count true < bl'.count true))
          ⟨bl7, hm7, fun hm => ⟨(hf7 hm).1, (hf7 hm).2, fun k' hk' => by omega⟩, ht7⟩ ?_
        rintro k m9 w9 hk ⟨bl9, hm9, hf9, ht9⟩ nx3 hnx3
        refine rRow (g1.below hm9.below) (g2.below hm9.below) hlt fun hh => ?_
        have hrn : hs[i].l = (nx.getD i []).length := (hrow hm9.below hh).len
        refine ifB_dec (fun hltk => ?_) (fun hgek => ?_)
        · have hltk : k < (nx.getD i []).length := by dsimp only at hltk; omega
          refine JoinW.cut (fun st w' => ∃ bl', Mk w nx wo w' bl' ∧ (st.1 = false → bl' = bl ∧ (∀ i', i' < i → ClAt nx wo bl i') ∧ ∀ k', k' < k + 1 → ∀ (hk' : k' < (nx.getD i []).length), (((nx.getD i [])[k'] : Nat) : Int) ≠ wo → bl.getD (nx.getD i [])[k'] false = true) ∧ (st.1 = true → bl.count true < bl'.count true)) ?_ fun st w' hh => hnx3 st.1 w' hltk hh
          refine rRow (g1.below hm9.below) (g2.below hm9.below) hlt fun hh => ?_
          refine elemN (hrow hm9.below hh) hltk ?_
          have htn : (nx.getD i [])[k] < nx.length := hx.rows i _ (List.getElem_mem hltk)
          generalize ht : (nx.getD i [])[k] = t at htn
          have hmem : t ∈ nx.getD i [] := by rw [← ht]; exact List.getElem_mem hltk
          have keep : (m9 = false → (t : Int) ≠ wo → bl.getD t false = true) → ∃ bl', Mk w nx wo w9 bl' ∧ (m9 = false → bl' = bl ∧ (∀ i', i' < i → ClAt nx wo bl i') ∧ ∀ k', k' < k + 1 → ∀ (hk' : k' < (nx.getD i []).length), (((nx.getD i [])[k'] : Nat) : Int) ≠ wo → bl.getD (nx.getD i [])[k'] false = true) ∧ (m9 = true → bl.count true < bl'.count true) :=
            fun hnew => ⟨bl9, hm9, fun hm => ⟨(hf9 hm).1, (hf9 hm).2.1, fun k' hk' hkl hne => by
              by_cases e : k' = k
              · subst e; rw [ht] at hne ⊢; exact hnew hm hne
              · exact (hf9 hm).2.2 k' (by omega) hkl hne⟩, ht9⟩
          refine ifB_bne (fun hne => ?_) (fun he => keep fun _ hne => absurd he hne)
          refine ⟨⟨by first | omega | (dsimp only; omega), by first | omega | (dsimp only; omega)⟩, hm9.ld htn (ifB_not (ifB_bool (fun hmt => keep fun hm _ => by rw [← (hf9 hm).1]; exact hmt) (fun hmt => ?_)))⟩
          have htl : t < bl9.length := by rw [hm9.len]; exact htn
          refine ⟨⟨by first | omega | (dsimp only; omega), by first | omega | (dsimp only; omega)⟩, hm9.blk.wr (by rw [List.length_map]; exact htl), Nw.mk ⟨bl9.set t true, hm9.set htn (.step hri hmem hne), (fun h => by cases h), fun _ => ?_⟩⟩
          have hup := count_up htl hmt
          cases hm : m9 with
          | true => have := ht9 hm; omega
          | false => rw [(hf9 hm).1] at hup ⊢; exact hup
        · have hkk : k = (nx.getD i []).length := by dsimp only at hgek; omega
          subst hkk
          refine ⟨bl9, hm9, fun hm => ⟨(hf9 hm).1, fun i' hi' => ?_⟩, ht9⟩
          by_cases e : i' = i
          · subst e
            intro _ t ht hne
            obtain ⟨k', hk', rfl⟩ := List.mem_iff_getElem.1 ht
            exact (hf9 hm).2.2 k' hk' hk' hne
          · exact (hf9 hm).2.1 i' (by omega)
      · refine ⟨bl7, hm7, fun hm => ⟨(hf7 hm).1, fun i' hi' => ?_⟩, ht7⟩
        by_cases e : i' = i
        · subst e
          intro hmk'
          rw [(hf7 hm).1] at hmk
          rw [hmk] at hmk'; cases hmk'
        · exact (hf7 hm).2 i' (by omega)
    · have hi' : i = nx.length := by dsimp only at hge; omega
      subst hi'
      have hc1 := List.count_le_length (a := true) (l := bl7)
      have hl7 := hm7.len
      cases hm : m with
      | false =>
        refine hnext 0 _ _ (by simp) ⟨bl7, false, hm7, rfl, fun _ i => ?_, rfl⟩
        rw [(hf7 hm).1]
        by_cases hi : i < nx.length
        · exact (hf7 hm).2 i hi
        · intro _ t ht
          simp [List.getD, hi] at ht
      | true =>
        have := ht7 hm
        exact hnext (nx.length - bl7.count true + 1) _ _ (by simp only [if_true]; omega) ⟨bl7, true, hm7, rfl, (fun h => by cases h), rfl⟩
  · have hm : m = false := hm
    subst hm
    exact hR w6 bl hm6.below hm6.blk hm6.len fun j => ⟨hm6.sound j, reach_of_closed (S := fun j => bl.getD j false = true) (fun _ _ => hm6.zero) fun i hi t ht hne => hcl rfl i hi t ht hne⟩

theorem rReached_spec {rb : Nat} {nx : List (List Nat)} (hx : NxOk nx) {i : Int} {w : World} {R : Value → World → Prop} (h : IsR w rb nx)
    (hR : ∀ w', Below w.heap.size w w' → R (.bool (reachedOf nx i)) w') :
    callR Try.prog 100 #[.pointer (some (blk rb)), .int .i64 i] w R := by
  refine callR.of (intaglioref14_Graph_Reached_calls _ i R w ?_) fun _ _ h => h
  have no : ¬ (0 ≤ i ∧ i < nx.length) → R (.bool false) w := fun hn => by
    have : reachedOf nx i = false := by
      unfold reachedOf
      by_cases h0 : 0 ≤ i
      · have : (walkOf nx).contains i.toNat = false := by
          rw [← Bool.not_eq_true, List.contains_iff_mem]
          intro hm
          have := hx.came.lt _ hm
          omega
        rw [this, Bool.and_false]
      · simp [h0]
    rw [← this]; exact hR w (Below.refl _ _)
  refine JoinW.cut (fun _ w' => w' = w ∧ 0 ≤ i ∧ i < nx.length) (ifB_dec (fun h0 => no (by omega)) fun h0 => rLen_spec h ⟨_, rfl, ifB_dec (fun h1 => no (by omega)) fun h1 => ⟨rfl, by omega, by omega⟩⟩) ?_
  rintro _ wx ⟨ewx, h0, h1⟩
  subst wx
  obtain ⟨k, rfl⟩ := Int.eq_ofNat_of_zero_le h0
  have hk : k < nx.length := by omega
  refine All_spec hx h fun w' bl hb hB hl hr => ⟨⟨some (blk w.heap.size), nx.length, nx.length⟩, rfl, ⟨by first | omega | (dsimp only; omega), by first | omega | (dsimp only; omega)⟩, ⟨bl.getD k false, hB.cell ?_, ?_⟩⟩
  · have : k < bl.length := by rw [hl]; exact hk
    simp [List.getD, this]
  · have e : bl.getD k false = reachedOf nx (k : Int) := by
      rw [Bool.eq_iff_iff, hr k, ← walk_reach hx.rows hx.pos]
      simp [reachedOf]
    rw [e]; exact hR w' hb

end Go.Proofs
