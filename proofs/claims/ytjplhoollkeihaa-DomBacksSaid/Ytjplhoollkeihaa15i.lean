/-
  The document's dominators: Without.
-/
import Derived.Test.Ytjplhoollkeihaa15h
import Derived.Test.Ytjplhoollkeihaa14s
namespace Go.Proofs
open Go.Gk Go.RowKit Go.Gr Go.Dm

theorem edge_mem {ll : List (List Int)} (hG : Good ll) {i : Nat} (hi : i < ll.length) (x : Nat) : x ∈ (edges ll).getD i [] ↔ (x : Int) ∈ ll[i] := by
  rw [edges_getD hi, mem_dedup, List.mem_map]
  constructor
  · rintro ⟨y, hy, rfl⟩
    have := hG _ (List.getElem_mem hi) y hy
    rw [show ((y.toNat : Nat) : Int) = y by omega]; exact hy
  · intro h; exact ⟨_, h, by simp⟩
theorem set_same {bl : List Bool} {t : Nat} (h : bl.getD t false = true) : bl.set t true = bl := by
  apply List.ext_getElem
  · simp
  · intro j h1 h2
    rw [List.getElem_set]
    split
    · rename_i e
      subst e
      simpa [List.getD, h2] using h.symm
    · rfl

set_option maxHeartbeats 2000000 in
theorem Without_spec {s : Sl} {hs : List Sl} {ll : List (List Int)} (h0 : 0 < ll.length) (hmax : ll.length ≤ 4096) (hG : Good ll) (h8 : ∀ l ∈ ll, 8 * l.length ≤ 281474976710656) {wo : Int} {w : World} {R : Value → World → Prop} (h : IsII w s hs ll)
    (hR : ∀ w' (bl : List Bool), Below w.heap.size w w' → Blk w' w.heap.size 4 (bl.map Value.bool) → bl.length = ll.length → (∀ j, bl.getD j false = true ↔ ReachN (edges ll) wo j) → R (.slice (some (blk w.heap.size)) ll.length ll.length) w') :
    callR Try.prog 107 #[.slice s.a s.l s.c, .int .i64 wo] w R := by
  refine callR.of (intaglioref15_Without_calls s wo R w ?_) fun _ _ h => h
  have hsl : s.l = ll.length := by have := h.top.len; have := h.len; omega
  obtain ⟨nx, hnx⟩ : ∃ nx, nx = edges ll := ⟨_, rfl⟩
  have hnl : nx.length = ll.length := by rw [hnx, edges_length]
  have hem : ∀ i (hi : i < ll.length) (x : Nat), x ∈ nx.getD i [] ↔ (x : Int) ∈ ll[i] := fun i hi x => by rw [hnx]; exact edge_mem hG hi x
  rw [← hnx] at hR
  unfold L_intaglioref15_Without
  rw [hsl]
  have h1 : ∀ {w'}, Below w.heap.size w w' → IsII w' s hs ll := fun hb => h.below hb
  refine ⟨⟨by omega, by omega, by omega, by omega⟩, Nw.gen fun w2 hw2 => ?_⟩
  have hb2 : Below w.heap.size w w2 := by rw [hw2]; exact (Below.refl _ _).alloc (Nat.le_refl _) _
  have hB2 : Blk w2 w.heap.size 4 (List.replicate nx.length (.bool false)) := by rw [hw2, hnl]; exact Blk.made w _ _ _
  clear hw2
  have hz : (List.replicate nx.length false).map Value.bool = List.replicate nx.length (.bool false) := List.map_replicate
  refine JoinW.cut (fun _ w' => w' = w2 ∧ wo ≠ 0) (ifB_beq (fun he => by omega) fun _ => ifB_beq (fun he => ?_) fun he => ⟨rfl, he⟩) ?_
  · refine hR w2 (List.replicate nx.length false) hb2 (by rw [hz]; exact hB2) (by simp [hnl]) fun j => ⟨fun hj => ?_, fun hj => ?_⟩
    · exfalso
      simp only [List.getD, List.getElem?_replicate] at hj
      split at hj <;> simp at hj
    · exfalso
      subst he
      induction hj with
      | zero h _ => exact h rfl
      | step _ _ _ ih => exact ih
  rintro _ wx ⟨ewx, hwo⟩
  subst wx
  refine ⟨⟨by omega, by omega⟩, hB2.wr (n := 0) (by simp; omega), Nw.gen fun w5 hw5 => ?_⟩
  have hm5 : Mk w nx wo w5 ((List.replicate nx.length false).set 0 true) := by
    have hl0 : 0 < (List.replicate nx.length false).length := by simp; omega
    refine ⟨by rw [hw5]; exact hb2.setCell (by rw [add_block]; exact Nat.le_refl _) _, ?_, by simp, fun j hj => ?_, ?_⟩
    · rw [hw5, List.map_set, hz]; exact hB2.set 0 _
    · rw [getD_set hl0] at hj
      have e : (List.replicate nx.length false).getD j false = false := by
        simp only [List.getD, List.getElem?_replicate]
        split <;> rfl
      rw [e, Bool.false_or] at hj
      have : j = 0 := by simpa using hj
      subst this
      exact .zero hwo (by omega)
    · rw [getD_set hl0]; simp
  clear hw5
  have hc5 : 1 ≤ ((List.replicate nx.length false).set 0 true).count true := by
    rw [List.one_le_count_iff]
    exact List.mem_iff_getElem.2 ⟨0, by simp; omega, by simp⟩
  refine LoopW.count ll.length (by omega) (fun k w' => ∃ bl, Mk w nx wo w' bl ∧ (k + 1 ≤ bl.count true ∨ ∀ i, ClAt nx wo bl i)) ⟨_, hm5, .inl hc5⟩ ?_
  rintro k w6 hk ⟨bl, hm6, hcl⟩ next hnext
  refine ifB_dec (fun hltk => ?_) (fun hgek => ?_)
  · have hltk : k < ll.length := by dsimp only at hltk; omega
    -- a round
    let J : (Nat → Prop) → List Bool → Prop := fun done bl' => ((bl' = bl ∧ ∀ i', done i' → ClAt nx wo bl i') ∨ bl.count true < bl'.count true) ∧ ((∀ i, ClAt nx wo bl i) → bl' = bl)
    refine LoopW.count ll.length (by omega) (fun i w' => ∃ bl', Mk w nx wo w' bl' ∧ J (· < i) bl') ⟨bl, hm6, .inl ⟨rfl, fun i' hi' => absurd hi' (by omega)⟩, fun _ => rfl⟩ ?_
    rintro i w7 hi ⟨bl7, hm7, hJ7⟩ nxt hnxt
    refine ifB_dec (fun hlt => ?_) (fun hge => ?_)
    · have hlt : i < ll.length := by dsimp only at hlt; omega
      have hil : i < hs.length := by have := h.len; omega
      refine JoinW.cut (fun _ w' => ∃ bl', Mk w nx wo w' bl' ∧ J (· < i + 1) bl') ?_ fun _ w' hh => hnxt w' hlt hh
      have hrowl := h8 _ (List.getElem_mem hlt)
      -- the row's edges, the first k2 of them done
      refine LoopW.count ll[i].length (by omega) (fun k2 w' => ∃ bl', Mk w nx wo w' bl' ∧ ((bl' = bl ∧ (∀ i', i' < i → ClAt nx wo bl i') ∧ (bl.getD i false = true → ∀ k' (hk' : k' < ll[i].length), k' < k2 → ∀ t : Nat, (t : Int) = ll[i][k'] → (t : Int) ≠ wo → bl.getD t false = true)) ∨ bl.count true < bl'.count true) ∧ ((∀ i, ClAt nx wo bl i) → bl' = bl))
        ⟨bl7, hm7, hJ7.1.imp (fun h => ⟨h.1, h.2, fun _ k' _ hk' => absurd hk' (by omega)⟩) id, hJ7.2⟩ ?_
      rintro k2 w8 hk2 ⟨bl8, hm8, hA8, hC8⟩ nx3 hnx3
      have hII := h1 hm8.below
      have hrow := hII.row i hil hlt
      have hrn : hs[i].l = ll[i].length := hrow.len
      have hleave : (k2 = ll[i].length ∨ bl8.getD i false = false) → ∃ bl', Mk w nx wo w8 bl' ∧ J (· < i + 1) bl' := fun hor => by
        refine ⟨bl8, hm8, hA8.imp (fun ⟨e, g1, g2⟩ => ⟨e, fun i' hi' => ?_⟩) id, hC8⟩
        by_cases e' : i' = i
        · subst e'
          intro hmk t ht hne
          rcases hor with hor | hor
          · obtain ⟨k', hk', e2⟩ := List.mem_iff_getElem.1 ((hem i' hlt t).1 ht)
            exact g2 hmk k' hk' (by omega) t e2.symm hne
          · rw [e, hmk] at hor; cases hor
        · exact g1 i' (by omega)
      refine JoinW.cut (fun _ w' => w' = w8 ∧ k2 < ll[i].length ∧ bl8.getD i false = true) ?_ ?_
      · refine ⟨⟨by omega, by first | omega | (dsimp only; omega)⟩, ?_⟩
        obtain ⟨a, ha⟩ := hII.top.base hil
        refine derefP_some ha ⟨hs[i], hII.top.cell a ha i hil, ifB_dec (fun hlt2 => ⟨⟨by omega, by first | omega | (dsimp only; omega)⟩, hm8.ld (by omega) (ifB_bool (fun hb => ⟨rfl, by dsimp only at hlt2; omega, hb⟩) fun hb => hleave (.inr hb))⟩) (fun hge2 => hleave (.inl (by dsimp only at hge2; omega)))⟩
      · rintro _ wq ⟨ewq, hlt2, hmk⟩
        subst wq
        refine JoinW.cut (fun _ w' => ∃ bl', Mk w nx wo w' bl' ∧ ((bl' = bl ∧ (∀ i', i' < i → ClAt nx wo bl i') ∧ (bl.getD i false = true → ∀ k' (hk' : k' < ll[i].length), k' < k2 + 1 → ∀ t : Nat, (t : Int) = ll[i][k'] → (t : Int) ≠ wo → bl.getD t false = true)) ∨ bl.count true < bl'.count true) ∧ ((∀ i, ClAt nx wo bl i) → bl' = bl)) ?_ fun _ w' hh => hnx3 w' hlt2 hh
        obtain ⟨a, ha⟩ := hII.top.base hil
        have hgood := hG _ (List.getElem_mem hlt) _ (List.getElem_mem hlt2)
        obtain ⟨t, ht⟩ := Int.eq_ofNat_of_zero_le hgood.1
        have htn : t < ll.length := by omega
        have hmem : t ∈ nx.getD i [] := (hem i hlt t).2 (by rw [← ht]; exact List.getElem_mem hlt2)
        refine ⟨⟨by omega, by first | omega | (dsimp only; omega)⟩, derefP_some ha ⟨hs[i], hII.top.cell a ha i hil, elemI hrow hlt2 ?_⟩⟩
        have keep : ((t : Int) ≠ wo → bl8 = bl → bl.getD t false = true) → ∃ bl', Mk w nx wo w8 bl' ∧ ((bl' = bl ∧ (∀ i', i' < i → ClAt nx wo bl i') ∧ (bl.getD i false = true → ∀ k' (hk' : k' < ll[i].length), k' < k2 + 1 → ∀ t : Nat, (t : Int) = ll[i][k'] → (t : Int) ≠ wo → bl.getD t false = true)) ∨ bl.count true < bl'.count true) ∧ ((∀ i, ClAt nx wo bl i) → bl' = bl) := fun hnew =>
          ⟨bl8, hm8, hA8.imp (fun ⟨e, g1, g2⟩ => ⟨e, g1, fun hmk' k' hk' hlt' t' ht' hne' => by
            by_cases e2 : k' = k2
            · subst e2
              have : t' = t := by omega
              subst this
              exact hnew hne' e
            · exact g2 hmk' k' hk' (by omega) t' ht' hne'⟩) id, hC8⟩
        refine ifB_bne (fun hne => ?_) (fun he => keep fun hne _ => absurd (by rw [← ht]; exact he) hne)
        refine ⟨⟨by omega, by first | omega | (dsimp only; omega)⟩, derefP_some ha ⟨hs[i], hII.top.cell a ha i hil, elemI hrow hlt2 ?_⟩⟩
        rw [ht] at hne ⊢
        have htl : t < bl8.length := by rw [hm8.len]; omega
        refine ⟨⟨by omega, by omega⟩, hm8.blk.wr (n := t) (by rw [List.length_map]; exact htl), Nw.mk ?_⟩
        have hri : ReachN nx wo i := hm8.sound i hmk
        have hset := hm8.set (t := t) (by omega) (.step hri hmem hne)
        cases hbt : bl8.getD t false with
        | true =>
          rw [set_same hbt] at hset
          obtain ⟨bl', g1, g2, g3⟩ := keep fun _ e => by rw [← e]; exact hbt
          refine ⟨bl8, hset, ?_, hC8⟩
          refine hA8.imp (fun ⟨e, g1, g2⟩ => ⟨e, g1, fun hmk' k' hk' hlt' t' ht' hne' => ?_⟩) id
          by_cases e2 : k' = k2
          · subst e2
            have : t' = t := by omega
            subst this
            rw [← e]; exact hbt
          · exact g2 hmk' k' hk' (by omega) t' ht' hne'
        | false =>
          have hup := count_up htl hbt
          refine ⟨bl8.set t true, hset, .inr ?_, fun hall => ?_⟩
          · rcases hA8 with ⟨e, _⟩ | hlt'
            · rw [e] at hup ⊢; exact hup
            · omega
          · have e := hC8 hall
            rw [e] at hbt hmk
            have := hall i hmk t hmem hne
            rw [this] at hbt; cases hbt
    · have : i = ll.length := by dsimp only at hge; omega
      subst this
      refine hnext w7 hltk ⟨bl7, hm7, ?_⟩
      have hall' : (∀ i', i' < ll.length → ClAt nx wo bl i') → ∀ i', ClAt nx wo bl i' := fun hh i' => by
        by_cases hi' : i' < ll.length
        · exact hh i' hi'
        · intro _ t ht
          simp [List.getD, show ¬ i' < nx.length by omega] at ht
      rcases hJ7.1 with ⟨e, hd⟩ | hup
      · right; rw [e]; exact hall' hd
      · left
        rcases hcl with hc | hc
        · omega
        · rw [hJ7.2 hc] at hup; omega
  · have : k = ll.length := by dsimp only at hgek; omega
    subst this
    have hlen := hm6.len
    have hcl' : ∀ i, ClAt nx wo bl i := by
      rcases hcl with hc | hc
      · have := List.count_le_length (a := true) (l := bl); omega
      · exact hc
    exact hR w6 bl hm6.below hm6.blk (by omega) fun j => ⟨hm6.sound j, reach_of_closed (S := fun j => bl.getD j false = true) (fun _ _ => hm6.zero) fun i hi t ht hne => hcl' i hi t ht hne⟩

end Go.Proofs
