/-
  The document's dominators: Without; The document's dominators: Table; The document's dominators: Depth, Over, Under; the statement DomOvers.
-/
import Derived.Test.Ytjplhoollkeihaa15h
import Derived.Test.Ytjplhoollkeihaa14s
/-!
  The document's dominators: Without.
-/
namespace Go.Proofs
open Go.Gk Go.RowKit Go.Gr Go.Dm

theorem edge_mem {ll : List (List Int)} (hG : Good ll) {i : Nat} (hi : i < ll.length) (x : Nat) : x ∈ (edges ll).getD i [] ↔ (x : Int) ∈ ll[i] := by
  rw [edges_getD hi, mem_dedup, List.mem_map]
  constructor
  · rintro ⟨y, hy, rfl⟩
    have := hG _ (List.getElem_mem hi) y hy
    rw [show ((y.toNat : Nat) : Int) = y by omega]; exact hy
  · intro h; exact ⟨_, h, by simp⟩
theorem set_same {bl : List Bool} {t : Nat} (h : bl.getD t false = true) : bl.set t true = bl := by
  apply List.ext_getElem
  · simp
  · intro j h1 h2
    rw [List.getElem_set]
    split
    · rename_i e
      subst e
      simpa [List.getD, h2] using h.symm
    · rfl

set_option maxHeartbeats 2000000 in
theorem Without_spec {s : Sl} {hs : List Sl} {ll : List (List Int)} (h0 : 0 < ll.length) (hmax : ll.length ≤ 4096) (hG : Good ll) (h8 : ∀ l ∈ ll, 8 * l.length ≤ 281474976710656) {wo : Int} {w : World} {R : Value → World → Prop} (h : IsII w s hs ll)
    (hR : ∀ w' (bl : List Bool), Below w.heap.size w w' → Blk w' w.heap.size 4 (bl.map Value.bool) → bl.length = ll.length → (∀ j, bl.getD j false = true ↔ ReachN (edges ll) wo j) → R (.slice (some (blk w.heap.size)) ll.length ll.length) w') :
    callR Try.prog 107 #[.slice s.a s.l s.c, .int .i64 wo] w R := by
  refine callR.of (intaglioref15_Without_calls s wo R w ?_) fun _ _ h => h
  have hsl : s.l = ll.length := by have := h.top.len; have := h.len; omega
  obtain ⟨nx, hnx⟩ : ∃ nx, nx = edges ll := ⟨_, rfl⟩
  have hnl : nx.length = ll.length := by rw [hnx, edges_length]
  have hem : ∀ i (hi : i < ll.length) (x : Nat), x ∈ nx.getD i [] ↔ (x : Int) ∈ ll[i] := fun i hi x => by rw [hnx]; exact edge_mem hG hi x
  rw [← hnx] at hR
  unfold L_intaglioref15_Without
  rw [hsl]
  have h1 : ∀ {w'}, Below w.heap.size w w' → IsII w' s hs ll := fun hb => h.below hb
  refine ⟨⟨by omega, by omega, by omega, by omega⟩, Nw.gen fun w2 hw2 => ?_⟩
  have hb2 : Below w.heap.size w w2 := by rw [hw2]; exact (Below.refl _ _).alloc (Nat.le_refl _) _
  have hB2 : Blk w2 w.heap.size 4 (List.replicate nx.length (.bool false)) := by rw [hw2, hnl]; exact Blk.made w _ _ _
  clear hw2
  have hz : (List.replicate nx.length false).map Value.bool = List.replicate nx.length (.bool false) := List.map_replicate
  refine JoinW.cut (fun _ w' => w' = w2 ∧ wo ≠ 0) (ifB_beq (fun he => by omega) fun _ => ifB_beq (fun he => ?_) fun he => ⟨rfl, he⟩) ?_
  · refine hR w2 (List.replicate nx.length false) hb2 (by rw [hz]; exact hB2) (by simp [hnl]) fun j => ⟨fun hj => ?_, fun hj => ?_⟩
    · exfalso
      simp only [List.getD, List.getElem?_replicate] at hj
      split at hj <;> simp at hj
    · exfalso
      subst he
      induction hj with
      | zero h _ => exact h rfl
      | step _ _ _ ih => exact ih
  rintro _ wx ⟨ewx, hwo⟩
  subst wx
  refine ⟨⟨by omega, by omega⟩, hB2.wr (n := 0) (by simp; omega), Nw.gen fun w5 hw5 => ?_⟩
  have hm5 : Mk w nx wo w5 ((List.replicate nx.length false).set 0 true) := by
    have hl0 : 0 < (List.replicate nx.length false).length := by simp; omega
    refine ⟨by rw [hw5]; exact hb2.setCell (by rw [add_block]; exact Nat.le_refl _) _, ?_, by simp, fun j hj => ?_, ?_⟩
    · rw [hw5, List.map_set, hz]; exact hB2.set 0 _
    · rw [getD_set hl0] at hj
      have e : (List.replicate nx.length false).getD j false = false := by
        simp only [List.getD, List.getElem?_replicate]
        split <;> rfl
      rw [e, Bool.false_or] at hj
      have : j = 0 := by simpa using hj
      subst this
      exact .zero hwo (by omega)
    · rw [getD_set hl0]; simp
  clear hw5
  have hc5 : 1 ≤ ((List.replicate nx.length false).set 0 true).count true := by
    rw [List.one_le_count_iff]
    exact List.mem_iff_getElem.2 ⟨0, by simp; omega, by simp⟩
  refine LoopW.count ll.length (by omega) (fun k w' => ∃ bl, Mk w nx wo w' bl ∧ (k + 1 ≤ bl.count true ∨ ∀ i, ClAt nx wo bl i)) ⟨_, hm5, .inl hc5⟩ ?_
  rintro k w6 hk ⟨bl, hm6, hcl⟩ next hnext
  refine ifB_dec (fun hltk => ?_) (fun hgek => ?_)
  · have hltk : k < ll.length := by dsimp only at hltk; omega
    -- a round
    let J : (Nat → Prop) → List Bool → Prop := fun done bl' => ((bl' = bl ∧ ∀ i', done i' → ClAt nx wo bl i') ∨ bl.count true < bl'.count true) ∧ ((∀ i, ClAt nx wo bl i) → bl' = bl)
    refine LoopW.count ll.length (by omega) (fun i w' => ∃ bl', Mk w nx wo w' bl' ∧ J (· < i) bl') ⟨bl, hm6, .inl ⟨rfl, fun i' hi' => absurd hi' (by omega)⟩, fun _ => rfl⟩ ?_
    rintro i w7 hi ⟨bl7, hm7, hJ7⟩ nxt hnxt
    refine ifB_dec (fun hlt => ?_) (fun hge => ?_)
    · have hlt : i < ll.length := by dsimp only at hlt; omega
      have hil : i < hs.length := by have := h.len; omega
      refine JoinW.cut (fun _ w' => ∃ bl', Mk w nx wo w' bl' ∧ J (· < i + 1) bl') ?_ fun _ w' hh => hnxt w' hlt hh
      have hrowl := h8 _ (List.getElem_mem hlt)
      -- the row's edges, the first k2 of them done
      refine LoopW.count ll[i].length (by omega) (fun k2 w' => ∃ bl', Mk w nx wo w' bl' ∧ ((bl' = bl ∧ (∀ i', i' < i → ClAt nx wo bl i') ∧ (bl.getD i false = true → ∀ k' (hk' : k' < ll[i].length), k' < k2 → ∀ t : Nat, (t : Int) = ll[i][k'] → (t : Int) ≠ wo → bl.getD t false = true)) ∨ bl.count true < bl'.count true) ∧ ((∀ i, ClAt nx wo bl i) → bl' = bl))
        ⟨bl7, hm7, hJ7.1.imp (fun h => ⟨h.1, h.2, fun _ k' _ hk' => absurd hk' (by omega)⟩) id, hJ7.2⟩ ?_
      rintro k2 w8 hk2 ⟨bl8, hm8, hA8, hC8⟩ nx3 hnx3
      have hII := h1 hm8.below
      have hrow := hII.row i hil hlt
      have hrn : hs[i].l = ll[i].length := hrow.len
      have hleave : (k2 = ll[i].length ∨ bl8.getD i false = false) → ∃ bl', Mk w nx wo w8 bl' ∧ J (· < i + 1) bl' := fun hor => by
        refine ⟨bl8, hm8, hA8.imp (fun ⟨e, g1, g2⟩ => ⟨e, fun i' hi' => ?_⟩) id, hC8⟩
        by_cases e' : i' = i
        · subst e'
          intro hmk t ht hne
          rcases hor with hor | hor
          · obtain ⟨k', hk', e2⟩ := List.mem_iff_getElem.1 ((hem i' hlt t).1 ht)
            exact g2 hmk k' hk' (by omega) t e2.symm hne
          · rw [e, hmk] at hor; cases hor
        · exact g1 i' (by omega)
      refine JoinW.cut (fun _ w' => w' = w8 ∧ k2 < ll[i].length ∧ bl8.getD i false = true) ?_ ?_
      · refine ⟨⟨by omega, by first | omega | (dsimp only; omega)⟩, ?_⟩
        obtain ⟨a, ha⟩ := hII.top.base hil
        refine derefP_some ha ⟨hs[i], hII.top.cell a ha i hil, ifB_dec (fun hlt2 => ⟨⟨by omega, by first | omega | (dsimp only; omega)⟩, hm8.ld (by omega) (ifB_bool (fun hb => ⟨rfl, by dsimp only at hlt2; omega, hb⟩) fun hb => hleave (.inr hb))⟩) (fun hge2 => hleave (.inl (by dsimp only at hge2; omega)))⟩
      · rintro _ wq ⟨ewq, hlt2, hmk⟩
        subst wq
        refine JoinW.cut (fun _ w' => ∃ bl', Mk w nx wo w' bl' ∧ ((bl' = bl ∧ (∀ i', i' < i → ClAt nx wo bl i') ∧ (bl.getD i false = true → ∀ k' (hk' : k' < ll[i].length), k' < k2 + 1 → ∀ t : Nat, (t : Int) = ll[i][k'] → (t : Int) ≠ wo → bl.getD t false = true)) ∨ bl.count true < bl'.count true) ∧ ((∀ i, ClAt nx wo bl i) → bl' = bl)) ?_ fun _ w' hh => hnx3 w' hlt2 hh
        obtain ⟨a, ha⟩ := hII.top.base hil
        have hgood := hG _ (List.getElem_mem hlt) _ (List.getElem_mem hlt2)
        obtain ⟨t, ht⟩ := Int.eq_ofNat_of_zero_le hgood.1
        have htn : t < ll.length := by omega
        have hmem : t ∈ nx.getD i [] := (hem i hlt t).2 (by rw [← ht]; exact List.getElem_mem hlt2)
        refine ⟨⟨by omega, by first | omega | (dsimp only; omega)⟩, derefP_some ha ⟨hs[i], hII.top.cell a ha i hil, elemI hrow hlt2 ?_⟩⟩
        have keep : ((t : Int) ≠ wo → bl8 = bl → bl.getD t false = true) → ∃ bl', Mk w nx wo w8 bl' ∧ ((bl' = bl ∧ (∀ i', i' < i → ClAt nx wo bl i') ∧ (bl.getD i false = true → ∀ k' (hk' : k' < ll[i].length), k' < k2 + 1 → ∀ t : Nat, (t : Int) = ll[i][k'] → (t : Int) ≠ wo → bl.getD t false = true)) ∨ bl.count true < bl'.count true) ∧ ((∀ i, ClAt nx wo bl i) → bl' = bl) := fun hnew =>
          ⟨bl8, hm8, hA8.imp (fun ⟨e, g1, g2⟩ => ⟨e, g1, fun hmk' k' hk' hlt' t' ht' hne' => by
            by_cases e2 : k' = k2
            · subst e2
              have : t' = t := by omega
              subst this
              exact hnew hne' e
            · exact g2 hmk' k' hk' (by omega) t' ht' hne'⟩) id, hC8⟩
        refine ifB_bne (fun hne => ?_) (fun he => keep fun hne _ => absurd (by rw [← ht]; exact he) hne)
        refine ⟨⟨by omega, by first | omega | (dsimp only; omega)⟩, derefP_some ha ⟨hs[i], hII.top.cell a ha i hil, elemI hrow hlt2 ?_⟩⟩
        rw [ht] at hne ⊢
        have htl : t < bl8.length := by rw [hm8.len]; omega
        refine ⟨⟨by omega, by omega⟩, hm8.blk.wr (n := t) (by rw [List.length_map]; exact htl), Nw.mk ?_⟩
        have hri : ReachN nx wo i := hm8.sound i hmk
        have hset := hm8.set (t := t) (by omega) (.step hri hmem hne)
        cases hbt : bl8.getD t false with
        | true =>
          rw [set_same hbt] at hset
          obtain ⟨bl', g1, g2, g3⟩ := keep fun _ e => by rw [← e]; exact hbt
          refine ⟨bl8, hset, ?_, hC8⟩
          refine hA8.imp (fun ⟨e, g1, g2⟩ => ⟨e, g1, fun hmk' k' hk' hlt' t' ht' hne' => ?_⟩) id
          by_cases e2 : k' = k2
          · subst e2
            have : t' = t := by omega
            subst this
            rw [← e]; exact hbt
          · exact g2 hmk' k' hk' (by omega) t' ht' hne'
        | false =>
          have hup := count_up htl hbt
          refine ⟨bl8.set t true, hset, .inr ?_, fun hall => ?_⟩
          · rcases hA8 with ⟨e, _⟩ | hlt'
            · rw [e] at hup ⊢; exact hup
            · omega
          · have e := hC8 hall
            rw [e] at hbt hmk
            have := hall i hmk t hmem hne
            rw [this] at hbt; cases hbt
    · have : i = ll.length := by dsimp only at hge; omega
      subst this
      refine hnext w7 hltk ⟨bl7, hm7, ?_⟩
      have hall' : (∀ i', i' < ll.length → ClAt nx wo bl i') → ∀ i', ClAt nx wo bl i' := fun hh i' => by
        by_cases hi' : i' < ll.length
        · exact hh i' hi'
        · intro _ t ht
          simp [List.getD, show ¬ i' < nx.length by omega] at ht
      rcases hJ7.1 with ⟨e, hd⟩ | hup
      · right; rw [e]; exact hall' hd
      · left
        rcases hcl with hc | hc
        · omega
        · rw [hJ7.2 hc] at hup; omega
  · have : k = ll.length := by dsimp only at hgek; omega
    subst this
    have hlen := hm6.len
    have hcl' : ∀ i, ClAt nx wo bl i := by
      rcases hcl with hc | hc
      · have := List.count_le_length (a := true) (l := bl); omega
      · exact hc
    exact hR w6 bl hm6.below hm6.blk (by omega) fun j => ⟨hm6.sound j, reach_of_closed (S := fun j => bl.getD j false = true) (fun _ _ => hm6.zero) fun i hi t ht hne => hcl' i hi t ht hne⟩

end Go.Proofs

/-!
  The document's dominators: Table.
-/
namespace Go.Proofs
open Go.Gk Go.RowKit Go.Gr Go.Dm

theorem eBB : ElemT Try.prog 50 126 1 24 := ⟨by kernel_rfl, Try.t126, .slice none 0 0, by kernel_rfl, rfl, rfl, rfl, rfl⟩
/-- A table of who dominates whom. -/
structure Tab (w : World) (t : Sl) (n : Nat) (D : Nat → Nat → Prop) : Prop where
  ex : ∃ hs : List Sl, IsS Sl.val w t hs ∧ hs.length = n ∧ ∀ a (ha : a < hs.length), ∃ bl : List Bool, IsS Value.bool w hs[a] bl ∧ bl.length = n ∧ ∀ b, bl.getD b false = true ↔ D a b
theorem Tab.below {w w' : World} {t : Sl} {n : Nat} {D : Nat → Nat → Prop} (h : Tab w t n D) (hb : Below w.heap.size w w') : Tab w' t n D := by
  obtain ⟨hs, h1, h2, h3⟩ := h.ex
  exact ⟨hs, h1.below hb, h2, fun a ha => let ⟨bl, g1, g2, g3⟩ := h3 a ha; ⟨bl, g1.below hb, g2, g3⟩⟩
theorem Tab.congr {w : World} {t : Sl} {n : Nat} {D D' : Nat → Nat → Prop} (h : Tab w t n D) (hD : ∀ a b, a < n → (D a b ↔ D' a b)) : Tab w t n D' := by
  obtain ⟨hs, h1, h2, h3⟩ := h.ex
  exact ⟨hs, h1, h2, fun a ha => let ⟨bl, g1, g2, g3⟩ := h3 a ha; ⟨bl, g1, g2, fun b => (g3 b).trans (hD a b (by omega))⟩⟩
theorem Tab.len {w : World} {t : Sl} {n : Nat} {D : Nat → Nat → Prop} (h : Tab w t n D) : t.l = n := by
  obtain ⟨hs, h1, h2, h3⟩ := h.ex
  have := h1.len; omega
/-- An entry is read. -/
theorem Tab.get {w : World} {t : Sl} {n : Nat} {D : Nat → Nat → Prop} (h : Tab w t n D) {a b : Nat} (ha : a < n) (hb : b < n) {φ : Bool → Prop} (hφ : ∀ v, (v = true ↔ D a b) → φ v) :
    (0 ≤ (a : Int) ∧ (a : Int) < (t.l : Int)) ∧ derefP t.a fun a3 => ldS w (a3.add (Int.toNat (a : Int))) fun x => (0 ≤ (b : Int) ∧ (b : Int) < (x.l : Int)) ∧ derefP x.a fun a5 => ldB w (a5.add (Int.toNat (b : Int))) φ := by
  obtain ⟨hs, h1, h2, h3⟩ := h.ex
  obtain ⟨bl, g1, g2, g3⟩ := h3 a (by omega)
  refine elemS h1 (k := a) (by omega) (elemB g1 (k := b) (by omega) (hφ _ ?_))
  rw [← g3 b]
  simp [List.getD, show b < bl.length by omega]

/-- The document's answer, by definition: every way to b leads over a. -/
def DomR (nx : List (List Nat)) (a b : Nat) : Prop := ReachN nx (-1) b ∧ (a = b ∨ ¬ ReachN nx (a : Int) b)

theorem getD_map_bool {bl : List Bool} {b : Nat} (hb : b < bl.length) : (bl.map Value.bool)[b]? = some (.bool (bl.getD b false)) := by simp [List.getD, hb]
theorem getD_setB {bl : List Bool} {t j : Nat} {v : Bool} (ht : t < bl.length) : (bl.set t v).getD j false = if j = t then v else bl.getD j false := by
  simp only [List.getD, List.getElem?_set]
  by_cases e : t = j
  · subst e; simp [ht]
  · simp [e, Ne.symm e]

set_option maxHeartbeats 4000000 in
theorem Table_spec {s : Sl} {hs : List Sl} {ll : List (List Int)} (h0 : 0 < ll.length) (hmax : ll.length ≤ 4096) (hG : Good ll) (h8 : ∀ l ∈ ll, 8 * l.length ≤ 281474976710656) {w : World} {R : Value → World → Prop} (h : IsII w s hs ll)
    (hR : ∀ w' r, Below w.heap.size w w' → Tab w' r ll.length (DomR (edges ll)) → R (.slice r.a r.l r.c) w') :
    callR Try.prog 44 #[.slice s.a s.l s.c] w R := by
  refine callR.of (intaglioref15_Table_calls s R w ?_) fun _ _ h => h
  have hsl : s.l = ll.length := by have := h.top.len; have := h.len; omega
  unfold L_intaglioref15_Table
  refine Without_spec h0 hmax hG h8 h fun w1 all b1 hAll hlA hiA => ⟨⟨some (Gk.blk w.heap.size), ll.length, ll.length⟩, rfl, ?_⟩
  obtain ⟨n, hn⟩ : ∃ n, n = ll.length := ⟨_, rfl⟩
  rw [← hn] at h0 hmax hR hlA ⊢
  have hz1 := hAll.lt
  refine LoopW.ghost (fun j st w' => ∃ a : Nat, ∃ l : Sl, ∃ rs : List (Nat × List Bool), a ≤ n ∧ j = n - a ∧ st = (l, (a : Int), ()) ∧ Below w.heap.size w w' ∧ Blk w' w.heap.size 4 (all.map Value.bool) ∧ rs.length = a ∧ Own w' 126 1 l (rs.map fun p => Value.slice (some (Gk.blk p.1)) n n) ∧ Fresh w.heap.size l ∧
      ∀ j (hj : j < rs.length), Blk w' rs[j].1 4 (rs[j].2.map Value.bool) ∧ rs[j].2.length = n ∧ ∀ b, rs[j].2.getD b false = true ↔ DomR (edges ll) j b) n
    ⟨0, ⟨none, 0, 0⟩, [], by omega, rfl, rfl, b1, hAll, rfl, Own.nil _ _ _, fun a ha => (by cases ha), fun j hj => absurd hj (Nat.not_lt_zero j)⟩ ?_
  rintro _ _ w2 ⟨a, l, rs, ha, rfl, rfl, b2, hA2, hrs, ho, hfl, hrows⟩ next hnext
  refine ifB_dec (fun hlt => ?_) (fun hge => ?_)
  · have hlt : a < n := by dsimp only at hlt; omega
    refine Without_spec (by omega) (by omega) hG h8 (h.below b2) fun w3 bl b3 hB3 hl3 hi3 => ⟨⟨some (Gk.blk w2.heap.size), n, n⟩, by rw [← hn], ?_⟩
    rw [← hn] at hl3
    have hz2 := hA2.lt
    -- the row is turned
    refine LoopW.count n (by omega) (fun k w' => Only ⟨some (Gk.blk w2.heap.size), n, n⟩ w3 w' ∧ ∃ bk : List Bool, Blk w' w2.heap.size 4 (bk.map Value.bool) ∧ bk.length = n ∧ (∀ b, b < k → (bk.getD b false = true ↔ DomR (edges ll) a b)) ∧ ∀ b, k ≤ b → bk.getD b false = bl.getD b false)
      ⟨Only.refl _ _, bl, hB3, hl3, fun b hb => absurd hb (by omega), fun _ _ => rfl⟩ ?_
    rintro k w4 hk ⟨on, bk, hBk, hlk, hk1, hk2⟩ nxt hnxt
    have hA4 : Blk w4 w.heap.size 4 (all.map Value.bool) := (hA2.below b3).of_block (on.block _ fun a ha e => by cases ha; have e : w2.heap.size = w.heap.size := e; omega)
    refine ifB_dec (fun hltk => ?_) (fun hgek => ?_)
    · have hltk : k < n := by dsimp only at hltk; omega
      have step : ∀ v : Bool, (v = true ↔ DomR (edges ll) a k) → Only ⟨some (Gk.blk w2.heap.size), n, n⟩ w3 (w4.setCell ((Gk.blk w2.heap.size).add k) (.bool v)) ∧ ∃ bk : List Bool, Blk (w4.setCell ((Gk.blk w2.heap.size).add k) (.bool v)) w2.heap.size 4 (bk.map Value.bool) ∧ bk.length = n ∧ (∀ b, b < k + 1 → (bk.getD b false = true ↔ DomR (edges ll) a b)) ∧ ∀ b, k + 1 ≤ b → bk.getD b false = bl.getD b false := fun v hv => by
        refine ⟨on.set rfl k _, bk.set k v, ?_, by simpa using hlk, fun b hb => ?_, fun b hb => ?_⟩
        · rw [List.map_set]; exact hBk.set k _
        · rw [getD_setB (by omega)]
          by_cases e : b = k
          · subst e; simp [hv]
          · rw [if_neg e]; exact hk1 b (by omega)
        · rw [getD_setB (by omega), if_neg (by omega)]
          exact hk2 b (by omega)
      refine JoinW.cut (fun _ w' => Only ⟨some (Gk.blk w2.heap.size), n, n⟩ w3 w' ∧ ∃ bk : List Bool, Blk w' w2.heap.size 4 (bk.map Value.bool) ∧ bk.length = n ∧ (∀ b, b < k + 1 → (bk.getD b false = true ↔ DomR (edges ll) a b)) ∧ ∀ b, k + 1 ≤ b → bk.getD b false = bl.getD b false) ?_ fun _ w' hh => hnxt w' hltk hh
      have hwr : Wr w4 ((Gk.blk w2.heap.size).add k) := hBk.wr (by simp; omega)
      refine ⟨⟨by omega, by first | omega | (dsimp only; omega)⟩, derefP_some rfl ⟨_, hA4.cell (getD_map_bool (by omega)), ifB_bool (fun hb => ?_) (fun hb => ?_)⟩⟩
      · have hr := (hiA k).1 hb
        refine ifB_beq (fun he => ⟨⟨by omega, by first | omega | (dsimp only; omega)⟩, derefP_some rfl ⟨hwr, Nw.mk (step true ⟨fun _ => ⟨hr, .inl (by exact Int.ofNat.inj he)⟩, fun _ => rfl⟩)⟩⟩) (fun hne => ⟨⟨by omega, by first | omega | (dsimp only; omega)⟩, derefP_some rfl ⟨_, hBk.cell (getD_map_bool (by omega)), ⟨⟨by omega, by first | omega | (dsimp only; omega)⟩, derefP_some rfl ⟨hwr, Nw.mk (step _ ?_)⟩⟩⟩⟩)
        show (!bk.getD k false) = true ↔ _
        rw [hk2 k (Nat.le_refl _)]
        have hne' : a ≠ k := fun e => hne (by rw [e])
        have := hi3 k
        constructor
        · intro hv
          refine ⟨hr, .inr fun hw => ?_⟩
          rw [this.2 hw] at hv; cases hv
        · rintro ⟨_, hw⟩
          rcases hw with hw | hw
          · exact absurd hw hne'
          · cases hbb : bl.getD k false with
            | true => exact absurd (this.1 hbb) hw
            | false => rfl
      · refine ⟨⟨by omega, by first | omega | (dsimp only; omega)⟩, derefP_some rfl ⟨hwr, Nw.mk (step false ⟨fun e => (by cases e), fun hd => ?_⟩)⟩⟩
        have hb : all.getD k false = false := hb
        rw [(hiA k).2 hd.1] at hb; cases hb
    · have hkk : k = n := by dsimp only at hgek; omega
      subst hkk
      have hz3 := b3.size
      have hz4 := on.size
      refine Nw.gen fun w9 hw9 => ?_
      have b34 : Below w2.heap.size w3 w4 := on.below fun a ha => by cases ha; exact Nat.le_refl _
      have b24 : Below w2.heap.size w2 w4 := b3.trans b34
      have b49 : Below w4.heap.size w4 w9 := by rw [hw9]; exact (Below.refl _ _).alloc (Nat.le_refl _) _
      have b29 : Below w2.heap.size w2 w9 := b24.trans (b49.mono (by omega))
      have hT9 : Blk w9 w4.heap.size 126 [.slice (some (Gk.blk w2.heap.size)) k k] := by rw [hw9]; exact Blk.new w4 126 #[_]
      have hBk9 := hBk.below b49
      have ho9 := ho.below b29
      have hll : l.l = a := by have := ho.1; simp at this; omega
      refine append_one eBB ho9 rfl hT9 (by omega) (by omega) fun r w10 hr hrl ⟨b, hrb, hbo, hg⟩ => ?_
      have hbT : ∃ cs, Blk w10 b 126 cs := by obtain ⟨cs, hc⟩ := hr.type hrb; exact ⟨cs, hc⟩
      have hz9 : w4.heap.size < w9.heap.size := hT9.lt
      have keep : ∀ {c : Nat} {cs : List Value}, Blk w9 c 4 cs → Blk w10 c 4 cs := fun {c cs} hc => by
        refine hc.of_block (hg.block _ hc.lt fun e => ?_)
        cases e
        rcases hbo with hb | hb
        · obtain ⟨cs', hc'⟩ := ho9.type hb
          exact absurd (hc'.type hc) (by decide)
        · have := hc.lt; omega
      have hfb : w.heap.size ≤ b := by
        rcases hbo with hb | hb
        · exact hfl _ hb
        · omega
      have hb10 : Below w.heap.size w w10 := (b2.trans (b29.mono b2.size)).trans (below_grown hg hfb (by omega))
      rw [wrap64_succ (by omega)]
      refine hnext (k - (a + 1)) _ _ (by omega) ⟨a + 1, r, rs ++ [(w2.heap.size, bk)], hlt, rfl, rfl, hb10, keep ((hA2.below b24).below b49), by simp [hrs], by rw [List.map_append]; exact hr, fun a ha => (by rw [hrb] at ha; cases ha; exact hfb), fun j hj => ?_⟩
      by_cases e : j < rs.length
      · rw [List.getElem_append_left e]
        obtain ⟨g1, g2, g3⟩ := hrows j e
        exact ⟨keep (g1.below b29), g2, g3⟩
      · have hj' : j = rs.length := by simp at hj; omega
        subst hj'
        rw [List.getElem_append_right (Nat.le_refl _)]
        simp only [Nat.sub_self, List.getElem_cons_zero]
        exact ⟨keep hBk9, hlk, fun b => by
          by_cases hb : b < k
          · rw [hk1 b hb, hrs]
          · rw [hk2 b (by omega), hrs]
            have e1 : bl.getD b false = false := by simp [List.getD, show ¬ b < bl.length by omega]
            rw [e1]
            constructor
            · intro e; cases e
            · rintro ⟨hr', _⟩
              have := (hiA b).2 hr'
              simp [List.getD, show ¬ b < all.length by omega] at this⟩
  · have : a = n := by dsimp only at hge; omega
    subst this
    refine hR w2 l b2 ⟨⟨rs.map fun p => ⟨some (Gk.blk p.1), a, a⟩, ?_, by simpa using hrs, fun j hj => ?_⟩⟩
    · refine Own.isS (T := 126) ?_
      rw [List.map_map]
      exact ho
    · have hj' : j < rs.length := by simpa using hj
      obtain ⟨g1, g2, g3⟩ := hrows j hj'
      refine ⟨rs[j].2, ?_, g2, g3⟩
      rw [List.getElem_map]
      exact g1.isS rfl g2.symm (Nat.le_refl _) (by show a ≤ _; omega)

end Go.Proofs

/-!
  The document's dominators: Depth, Over, Under; the statement DomOvers.
-/
namespace Go.Proofs
open Go.Gk Go.RowKit Go.Gr Go.Dm

section
variable {w : World} {tb : Nat} {nx : List (List Nat)} {ov : Nat → Option Nat} {dp : Nat → Int}
theorem Dt.domR (h : Dt w tb nx ov dp) (a b : Nat) : DomR nx a b ↔ b ∈ orderOf nx ∧ Anc ov a b := by
  have hw := h.ok.walkOk
  have hre : ∀ x, ReachN nx (-1) x ↔ x ∈ orderOf nx := fun x => by rw [hw.mem x]; exact (walk_reach h.ok.rows h.ok.pos x).symm
  unfold DomR
  rw [hre b]
  constructor
  · rintro ⟨h1, h2⟩
    exact ⟨h1, (h.s.di.iff h.s.tr (fun x hx => (h.s.pr x).2 ((hre x).1 hx)) h.s.fix ((hre b).2 h1)).2 h2⟩
  · rintro ⟨h1, h2⟩
    exact ⟨h1, (h.s.di.iff h.s.tr (fun x hx => (h.s.pr x).2 ((hre x).1 hx)) h.s.fix ((hre b).2 h1)).1 h2⟩
theorem Dt.ancOd (h : Dt w tb nx ov dp) {a x : Nat} (hx : x ∈ orderOf nx) (ha : Anc ov a x) : a ∈ orderOf nx := (h.s.pr a).1 (ha.pr h.s.tr ((h.s.pr x).2 hx))
theorem Dt.mono (h : Dt w tb nx ov dp) {a x : Nat} (hx : x ∈ orderOf nx) (ha : Anc ov a x) : a = x ∨ dp a < dp x := by
  induction ha with
  | refl => exact .inl rfl
  | step h1 h2 ih =>
    rename_i x y
    have hy : y ∈ orderOf nx := (h.s.pr y).1 (h.s.tr.up x y h1).2
    have := h.dpo.up x hx y h1
    rcases ih hy with rfl | hlt
    · right; omega
    · right; omega
theorem countP_add {p q : Nat → Bool} {x : Nat} (hp : ∀ a, p a = (q a || a == x)) (hq : q x = false) : ∀ k, (List.range k).countP p = (List.range k).countP q + if x < k then 1 else 0
  | 0 => by simp
  | k + 1 => by
    rw [List.range_succ, List.countP_append, List.countP_append, countP_add hp hq k]
    simp only [List.countP_singleton, hp k]
    by_cases e : k = x
    · subst e; simp [hq]
    · have : (k == x) = false := by simpa using e
      rw [this, Bool.or_false]
      by_cases h : x < k
      · rw [if_pos h, if_pos (show x < k + 1 by omega)]; omega
      · rw [if_neg h, if_neg (show ¬ x < k + 1 by omega)]; omega
theorem Dt.count (h : Dt w tb nx ov dp) : ∀ (m : Nat) (x : Nat), rkOf (orderOf nx) x ≤ m → x ∈ orderOf nx → ∀ col : Nat → Bool, (∀ a, col a = true ↔ Anc ov a x) → ((List.range nx.length).countP col : Int) = dp x + 1 := by
  intro m
  induction m using Nat.strongRecOn with
  | _ m ih =>
    intro x hm hx col hcol
    have hxn := h.lt hx
    cases e : ov x with
    | none =>
      rw [h.dpo.root x hx e, countP_add (q := fun _ => false) (x := x) (fun a => ?_) rfl, if_pos hxn]
      · simp
      · rw [Bool.false_or, Bool.eq_iff_iff, hcol a, beq_iff_eq]
        exact ⟨fun ha => ha.none e, fun e' => e' ▸ .refl⟩
    | some y =>
      have hy : y ∈ orderOf nx := (h.s.pr y).1 (h.s.tr.up x y e).2
      have hrk := (h.s.tr.up x y e).1
      obtain ⟨cy, hcy⟩ : ∃ cy : Nat → Bool, ∀ a, cy a = true ↔ Anc ov a y := ⟨fun a => @decide (Anc ov a y) (Classical.propDecidable _), fun a => by simp⟩
      have hnx : cy x = false := by
        rw [← Bool.not_eq_true, hcy x]
        intro ha
        rcases ha.le h.s.tr with e' | e'
        · subst e'; omega
        · omega
      rw [h.dpo.up x hx y e, countP_add (q := cy) (x := x) (fun a => ?_) hnx, if_pos hxn]
      · have := ih (rkOf (orderOf nx) y) (by omega) y (Nat.le_refl _) hy cy hcy
        omega
      · rw [Bool.eq_iff_iff, Bool.or_eq_true, hcol a, hcy a, beq_iff_eq]
        constructor
        · intro ha
          rcases ha.inv with e' | ⟨z, hz, ha⟩
          · exact .inr e'
          · rw [e] at hz; cases hz; exact .inl ha
        · rintro (ha | e')
          · exact .step e ha
          · subst e'; exact .refl
end
/-- The table, of a tree. -/
abbrev TabD (w : World) (t : Sl) (nx : List (List Nat)) (ov : Nat → Option Nat) : Prop := Tab w t nx.length fun a b => b ∈ orderOf nx ∧ Anc ov a b

section
variable {w0 w : World} {tb : Nat} {nx : List (List Nat)} {ov : Nat → Option Nat} {dp : Nat → Int} {t : Sl} {i : Int} {R : Value → World → Prop}
theorem rDepth_spec (hd : Dt w0 tb nx ov dp) (h : TabD w t nx ov) (hR : R (.int .i64 (depthOf (orderOf nx) dp i)) w) : callR Try.prog 48 #[.slice t.a t.l t.c, .int .i64 i] w R := by
  refine callR.of (intaglioref15_Depth_calls t i R w ?_) fun _ _ h => h
  have htl := h.len
  have hmx := hd.ok.max
  have hno : inOd (orderOf nx) i = false → R (.int .i64 (-1)) w := fun hi => by
    unfold depthOf at hR
    rw [if_neg (by rw [hi]; simp)] at hR
    exact hR
  refine JoinW.cut (fun _ w' => w' = w ∧ ∃ x : Nat, i = (x : Int) ∧ x ∈ orderOf nx) (ifB_dec (fun h0 => hno ?_) fun h0 => ifB_dec (fun h1 => hno ?_) fun h1 => ?_) ?_
  · rw [← Bool.not_eq_true, inOd_iff]; rintro ⟨k, rfl, hk⟩; omega
  · rw [← Bool.not_eq_true, inOd_iff]; rintro ⟨k, rfl, hk⟩; have := hd.lt hk; omega
  · obtain ⟨x, rfl⟩ := Int.eq_ofNat_of_zero_le (by omega : 0 ≤ i)
    refine h.get (a := x) (b := x) (by omega) (by omega) fun v hv => ifB_not (ifB_bool (fun hb => ⟨rfl, x, rfl, (hv.1 hb).1⟩) fun hb => hno ?_)
    rw [inOd_nat, ← Bool.not_eq_true, List.contains_iff_mem]
    intro hm
    rw [hv.2 ⟨hm, .refl⟩] at hb; cases hb
  rintro _ wx ⟨ewx, x, rfl, hx⟩
  subst wx
  have hxn := hd.lt hx
  obtain ⟨col, hcol⟩ : ∃ col : Nat → Bool, ∀ a, col a = true ↔ Anc ov a x := ⟨fun a => @decide (Anc ov a x) (Classical.propDecidable _), fun a => by simp⟩
  have hcnt := hd.count _ x (Nat.le_refl _) hx col hcol
  have hcle : ∀ k, (List.range k).countP col ≤ k := fun k => by have := List.countP_le_length (p := col) (l := List.range k); simpa using this
  refine LoopW.ghost (fun j s w' => ∃ k : Nat, k ≤ nx.length ∧ j = nx.length - k ∧ s = (((List.range k).countP col : Int) - 1, (k : Int), ()) ∧ w' = w) nx.length ⟨0, by omega, rfl, by simp, rfl⟩ ?_
  rintro _ _ w2 ⟨k, hk, rfl, rfl, ew⟩ next hnext
  subst w2
  refine ifB_dec (fun hlt => ?_) (fun hge => ?_)
  · have hlt : k < nx.length := by dsimp only at hlt; omega
    have hck := hcle k
    refine JoinW.cut (fun s w' => s = (((List.range (k + 1)).countP col : Int) - 1, ()) ∧ w' = w) ?_ ?_
    · refine h.get (a := k) (b := x) hlt hxn fun v hv => ?_
      have hv' : v = col k := by
        rw [Bool.eq_iff_iff, hv, hcol k]
        exact ⟨fun h => h.2, fun h => ⟨hx, h⟩⟩
      subst hv'
      rw [List.range_succ, List.countP_append, List.countP_singleton]
      refine ifB_bool (fun hb => ⟨?_, rfl⟩) (fun hb => ⟨?_, rfl⟩)
      · rw [if_pos hb]
        dsimp only
        rw [wrap64_in (by omega) (by omega)]
        congr 1
        omega
      · rw [if_neg (by rw [hb]; simp)]; rfl
    · rintro _ wx ⟨rfl, ewx⟩
      subst wx
      dsimp only
      rw [wrap64_succ (by omega)]
      exact hnext (nx.length - (k + 1)) _ _ (by omega) ⟨k + 1, by omega, rfl, rfl, rfl⟩
  · have : k = nx.length := by dsimp only at hge; omega
    subst this
    unfold depthOf at hR
    rw [inOd_nat, if_pos (by rw [List.contains_iff_mem]; exact hx), show Int.toNat (x : Int) = x from rfl] at hR
    rw [show ((List.range nx.length).countP col : Int) - 1 = dp x by omega]
    exact hR
theorem rOver_spec (hd : Dt w0 tb nx ov dp) (h : TabD w t nx ov) (hR : R (.int .i64 (overOf (orderOf nx) ov i)) w) : callR Try.prog 46 #[.slice t.a t.l t.c, .int .i64 i] w R := by
  refine callR.of (intaglioref15_Over_calls t i R w ?_) fun _ _ h => h
  have htl := h.len
  have hmx := hd.ok.max
  refine rDepth_spec hd h ⟨_, rfl, ifB_dec (fun hlt => ?_) (fun hge => ?_)⟩
  · have : overOf (orderOf nx) ov i = -1 := by
      unfold overOf
      split
      · rename_i hi
        obtain ⟨x, rfl, hx⟩ := inOd_iff.1 hi
        unfold depthOf at hlt
        rw [if_pos hi] at hlt
        simp only [Int.toNat_natCast] at hlt ⊢
        rw [ovI_none]
        cases e : ov x with
        | none => rfl
        | some y =>
          have h1 := hd.dpo.up x hx y e
          have h2 := (hd.dpo.mem y ((hd.s.pr y).1 (hd.s.tr.up x y e).2)).1
          omega
      · rfl
    rw [this] at hR; exact hR
  · have hi : inOd (orderOf nx) i = true := by
      rw [← Bool.not_eq_false]
      intro hi
      unfold depthOf at hge
      rw [if_neg (by rw [hi]; simp)] at hge
      omega
    obtain ⟨x, rfl, hx⟩ := inOd_iff.1 hi
    have hxn := hd.lt hx
    have hdx : depthOf (orderOf nx) dp (x : Int) = dp x := by unfold depthOf; rw [if_pos hi]; rfl
    rw [hdx] at hge
    obtain ⟨y, hy⟩ : ∃ y, ov x = some y := by
      cases e : ov x with
      | some y => exact ⟨y, rfl⟩
      | none => have := hd.dpo.root x hx e; omega
    have hyo : y ∈ orderOf nx := (hd.s.pr y).1 (hd.s.tr.up x y hy).2
    have hyn := hd.lt hyo
    have hdy := hd.dpo.up x hx y hy
    have hxy : y ≠ x := by rintro rfl; omega
    have hov : overOf (orderOf nx) ov (x : Int) = (y : Int) := by unfold overOf; rw [if_pos hi]; show ovI (ov x) = _; rw [hy]; rfl
    rw [hov] at hR
    have hle := (hd.dpo.mem x hx).2
    have hrl := List.idxOf_lt_length_of_mem hx
    have hol := order_len nx
    have hwl := hd.ok.walk_le
    have hrk : rkOf (orderOf nx) x < 4096 := by unfold rkOf; omega
    refine LoopW.count nx.length (by omega) (fun k w' => w' = w ∧ k ≤ y) ⟨rfl, Nat.zero_le _⟩ ?_
    rintro k w2 hk ⟨ew, hky⟩ next hnext
    subst w2
    refine ifB_dec (fun hltk => ?_) (fun hgek => ?_)
    · have hltk : k < nx.length := by dsimp only at hltk; omega
      refine JoinW.cut (fun _ w' => w' = w ∧ k ≠ y) ?_ fun _ w' hh => hnext w' hltk ⟨hh.1, by omega⟩
      refine ifB_bne (fun hne => ?_) (fun he => ⟨rfl, fun e => hxy (by have : (k : Int) = (x : Int) := he; omega)⟩)
      have hne : k ≠ x := fun e => hne (by rw [e])
      refine h.get (a := k) (b := x) hltk hxn fun v hv => ifB_bool (fun hb => ?_) (fun hb => ⟨rfl, fun e => ?_⟩)
      · have hak := (hv.1 hb).2
        have hko := hd.ancOd hx hak
        refine rDepth_spec hd h ⟨_, rfl, rDepth_spec hd h ⟨_, rfl, ?_⟩⟩
        have hdk : depthOf (orderOf nx) dp (k : Int) = dp k := by unfold depthOf; rw [if_pos (inOd_iff.2 ⟨k, rfl, hko⟩)]; rfl
        rw [hdx, wrap64_in (by omega) (by omega)]
        dsimp only
        rw [hdk]
        refine ifB_beq (fun he => ?_) (fun hne' => ⟨rfl, fun e => hne' (by rw [e]; omega)⟩)
        have : k = y := by
          rcases hak.inv with e | ⟨z, hz, ha⟩
          · exact absurd e hne
          · rw [hy] at hz
            cases hz
            rcases hd.mono hyo ha with e | e
            · exact e
            · omega
        rw [this]; exact hR
      · subst e
        rw [hv.2 ⟨hx, .step hy .refl⟩] at hb; cases hb
    · dsimp only at hgek; omega
end

/-- What Under tells. -/
def underOf (nx : List (List Nat)) (ov : Nat → Option Nat) (i : Int) : List Nat := (List.range nx.length).filter fun k => decide (0 ≤ i) && (ovI (ov k) == i)
theorem filter_succ (p : Nat → Bool) (k : Nat) : (List.range (k + 1)).filter p = (List.range k).filter p ++ if p k then [k] else [] := by
  rw [List.range_succ, List.filter_append]
  congr 1
  simp only [List.filter_cons, List.filter_nil]
section
variable {w : World} {tb : Nat} {nx : List (List Nat)} {ov : Nat → Option Nat} {dp : Nat → Int} {t : Sl} {i : Int} {R : Value → World → Prop}
theorem overOf_nat (hd : Dt w tb nx ov dp) (k : Nat) : overOf (orderOf nx) ov (k : Int) = ovI (ov k) := by
  unfold overOf
  split
  · rfl
  · rename_i h
    rw [inOd_iff] at h
    rw [hd.out (x := k) fun hk => h ⟨k, rfl, hk⟩]; rfl
theorem rUnder_spec {w0 : World} (hd : Dt w0 tb nx ov dp) (h : TabD w t nx ov) (hR : ∀ r w', Below w.heap.size w w' → Own w' 3 1 r ((underOf nx ov i).map iN) → R (.slice r.a r.l r.c) w') : callR Try.prog 50 #[.slice t.a t.l t.c, .int .i64 i] w R := by
  refine callR.of (intaglioref15_Under_calls t i R w ?_) fun _ _ h => h
  have htl := h.len
  have hmx := hd.ok.max
  obtain ⟨p, hp⟩ : ∃ p : Nat → Bool, p = fun k => decide (0 ≤ i) && (ovI (ov k) == i) := ⟨_, rfl⟩
  have hun : underOf nx ov i = (List.range nx.length).filter p := by rw [hp]; rfl
  have hpl : ∀ k, ((List.range k).filter p).length ≤ k := fun k => by have := List.length_filter_le p (List.range k); simpa using this
  refine LoopW.ghost (fun j s w' => ∃ k : Nat, ∃ l : Sl, k ≤ nx.length ∧ j = nx.length - k ∧ s = (l, (k : Int), ()) ∧ Below w.heap.size w w' ∧ w.heap.size ≤ w'.heap.size ∧ Own w' 3 1 l (((List.range k).filter p).map iN) ∧ Fresh w.heap.size l) nx.length
    ⟨0, ⟨none, 0, 0⟩, by omega, rfl, rfl, Below.refl _ _, Nat.le_refl _, Own.nil _ _ _, fun a ha => by cases ha⟩ ?_
  rintro _ _ w1 ⟨k, l, hk, rfl, rfl, hb, hz, ho, hf⟩ next hnext
  refine ifB_dec (fun hlt => ?_) (fun hge => ?_)
  · have hlt : k < nx.length := by dsimp only at hlt; omega
    refine JoinW.cut (fun s w' => ∃ l : Sl, s = (l, ()) ∧ Below w.heap.size w w' ∧ w.heap.size ≤ w'.heap.size ∧ Own w' 3 1 l (((List.range (k + 1)).filter p).map iN) ∧ Fresh w.heap.size l) ?_ ?_
    · have hskip : p k = false → ∃ l' : Sl, (l, ()) = (l', ()) ∧ Below w.heap.size w w1 ∧ w.heap.size ≤ w1.heap.size ∧ Own w1 3 1 l' (((List.range (k + 1)).filter p).map iN) ∧ Fresh w.heap.size l' := fun hpk =>
        ⟨l, rfl, hb, hz, by rw [filter_succ, hpk]; simpa using ho, hf⟩
      refine ifB_dec (fun h0 => ?_) (fun h0 => hskip (by rw [hp]; simp [show ¬ 0 ≤ i by omega]))
      refine rOver_spec hd (h.below hb) ⟨_, rfl, ?_⟩
      dsimp only
      rw [overOf_nat hd k]
      refine ifB_beq (fun he => ?_) (fun hne => hskip (by rw [hp]; simp [hne]))
      have hpk : p k = true := by rw [hp]; simp [he]; omega
      have := hpl k
      refine push_own (y := k) rfl hb hz ho hf (by omega) fun r w4 g1 g2 g3 g4 => ⟨r, rfl, g1, g2, ?_, g4⟩
      rw [filter_succ, hpk]
      exact g3
    · rintro _ w5 ⟨l', rfl, g1, g2, g3, g4⟩
      dsimp only
      rw [wrap64_succ (by omega)]
      exact hnext (nx.length - (k + 1)) _ _ (by omega) ⟨k + 1, l', by omega, rfl, rfl, g1, g2, g3, g4⟩
  · have : k = nx.length := by dsimp only at hge; omega
    subst this
    rw [← hun] at ho
    exact hR l w1 hb ho
theorem Under_spec (hd : Dt w tb nx ov dp) (hR : ∀ r w', Below w.heap.size w w' → Own w' 3 1 r ((underOf nx ov i).map iN) → R (.slice r.a r.l r.c) w') : callR Try.prog 49 #[.pointer (some (Gk.blk tb)), .int .i64 i] w R := by
  refine callR.of (dom_Tree_Under_calls _ i R w (reached_spec hd ⟨_, rfl, ?_⟩)) fun _ _ h => h
  have hmx := hd.ok.max
  refine ifB_not (ifB_bool (fun hi => ?_) (fun hi => ?_))
  · obtain ⟨x, rfl, hx⟩ := inOd_iff.1 hi
    obtain ⟨gb, ob, db, rb, hT, hG⟩ := hd.d
    refine derefP_some rfl ⟨⟨_, nx.length, nx.length⟩, hT.t.cell (n := 1) rfl, ?_⟩
    obtain ⟨p, hp⟩ : ∃ p : Nat → Bool, p = fun k => decide ((0 : Int) ≤ (x : Int)) && (ovI (ov k) == (x : Int)) := ⟨_, rfl⟩
    have hun : underOf nx ov (x : Int) = (List.range nx.length).filter p := by rw [hp]; rfl
    have hpl : ∀ k, ((List.range k).filter p).length ≤ k := fun k => by have := List.length_filter_le p (List.range k); simpa using this
    refine LoopW.ghost (fun j s w' => ∃ k : Nat, ∃ l : Sl, k ≤ nx.length ∧ j = nx.length - k ∧ s = (l, (k : Int), ()) ∧ Below w.heap.size w w' ∧ w.heap.size ≤ w'.heap.size ∧ Own w' 3 1 l (((List.range k).filter p).map iN) ∧ Fresh w.heap.size l) nx.length
      ⟨0, ⟨none, 0, 0⟩, by omega, rfl, rfl, Below.refl _ _, Nat.le_refl _, Own.nil _ _ _, fun a ha => by cases ha⟩ ?_
    rintro _ _ w1 ⟨k, l, hk, rfl, rfl, hb, hz, ho, hf⟩ next hnext
    refine ifB_dec (fun hlt => ?_) (fun hge => ?_)
    · have hlt : k < nx.length := by dsimp only at hlt; omega
      refine JoinW.cut (fun s w' => ∃ l : Sl, s = (l, ()) ∧ Below w.heap.size w w' ∧ w.heap.size ≤ w'.heap.size ∧ Own w' 3 1 l (((List.range (k + 1)).filter p).map iN) ∧ Fresh w.heap.size l) ?_ ?_
      · have hT1 := hT.below hb
        refine ⟨⟨by first | omega | (dsimp only; omega), by first | omega | (dsimp only; omega)⟩, derefP_some rfl ⟨_, hT1.o.cell (natL_get hlt), ifB_beq (fun he => ?_) (fun hne => ?_)⟩⟩
        · have he : ovI (ov k) = (x : Int) := he
          have hpk : p k = true := by rw [hp]; simp [he]
          have := hpl k
          refine push_own (y := k) rfl hb hz ho hf (by omega) fun r w4 g1 g2 g3 g4 => ⟨r, rfl, g1, g2, ?_, g4⟩
          rw [filter_succ, hpk]
          exact g3
        · have hne : ¬ ovI (ov k) = (x : Int) := hne
          have hpk : p k = false := by rw [hp]; simp [hne]
          exact ⟨l, rfl, hb, hz, by rw [filter_succ, hpk]; simpa using ho, hf⟩
      · rintro _ w5 ⟨l', rfl, g1, g2, g3, g4⟩
        dsimp only
        rw [wrap64_succ (by omega)]
        exact hnext (nx.length - (k + 1)) _ _ (by omega) ⟨k + 1, l', by omega, rfl, rfl, g1, g2, g3, g4⟩
    · have : k = nx.length := by dsimp only at hge; omega
      subst this
      rw [← hun] at ho
      exact hR l w1 hb ho
  · refine hR ⟨none, 0, 0⟩ w (Below.refl _ _) ?_
    have : underOf nx ov i = [] := by
      unfold underOf
      rw [List.filter_eq_nil_iff]
      intro k hk
      rw [Bool.and_eq_true, decide_eq_true_iff, beq_iff_eq]
      rintro ⟨h0, he⟩
      cases e : ov k with
      | none => rw [e] at he; have he : (-1 : Int) = i := he; omega
      | some y =>
        rw [e] at he
        have he : (y : Int) = i := he
        rw [inOd_iff.2 ⟨y, he.symm, (hd.s.pr y).1 (hd.s.tr.up k y e).2⟩] at hi
        cases hi
    rw [this]
    exact Own.nil _ _ _
end

/-- sound: at most 24 nodes, and all edges lead to one of them. -/
theorem sound_spec {s : Sl} {hs : List Sl} {ll : List (List Int)} (h8 : ∀ l ∈ ll, 8 * l.length ≤ 281474976710656) {w : World} {R : Value → World → Prop} (h : IsII w s hs ll) (hno : R (.bool false) w) (hyes : 0 < ll.length → ll.length ≤ 24 → Good ll → R (.bool true) w) :
    callR Try.prog 42 #[.slice s.a s.l s.c] w R := by
  refine callR.of (intagliolaw15_sound_calls s R w ?_) fun _ _ h => h
  have hsl : s.l = ll.length := by have := h.top.len; have := h.len; omega
  refine JoinW.cut (fun _ w' => w' = w ∧ 0 < ll.length ∧ ll.length ≤ 24) (ifB_beq (fun _ => hno) fun hne => ifB_dec (fun _ => hno) fun hgt => ⟨rfl, ?_, by omega⟩) ?_
  · rcases Nat.eq_zero_or_pos ll.length with e | e
    · exact absurd (by rw [hsl, e]; rfl) hne
    · exact e
  rintro _ wx ⟨ewx, h0, h24⟩
  subst wx
  refine LoopW.count ll.length (by omega) (fun i w' => w' = w ∧ ∀ i' (hi' : i' < ll.length), i' < i → ∀ y ∈ ll[i'], 0 ≤ y ∧ y < (ll.length : Int)) ⟨rfl, fun i' _ h => absurd h (by omega)⟩ ?_
  rintro i w1 hi ⟨ew, hg⟩ next hnext
  subst w1
  refine ifB_dec (fun hlt => ?_) (fun hge => hyes h0 h24 fun l hl y hy => ?_)
  · have hlt : i < ll.length := by dsimp only at hlt; omega
    have hil : i < hs.length := by have := h.len; omega
    have hrow := h.row i hil hlt
    have hrn : hs[i].l = ll[i].length := hrow.len
    have h8i := h8 _ (List.getElem_mem hlt)
    refine LoopW.count ll[i].length (by omega) (fun k w' => w' = w ∧ ∀ k' (hk' : k' < ll[i].length), k' < k → 0 ≤ ll[i][k'] ∧ ll[i][k'] < (ll.length : Int)) ⟨rfl, fun k' _ h => absurd h (by omega)⟩ ?_
    rintro k w2 hk ⟨ew2, hgk⟩ nxt hnxt
    subst w2
    obtain ⟨a, ha⟩ := h.top.base hil
    have rd : ∀ {φ : Sl → Prop}, φ hs[i] → (0 ≤ (i : Int) ∧ (i : Int) < (s.l : Int)) ∧ derefP s.a fun a => ldS w (a.add (Int.toNat (i : Int))) φ := fun hφ => elemS h.top hil hφ
    refine rd (ifB_dec (fun hltk => ?_) (fun hgek => ?_))
    · have hltk : k < ll[i].length := by dsimp only at hltk; omega
      refine JoinW.cut (fun _ w' => w' = w ∧ 0 ≤ ll[i][k] ∧ ll[i][k] < (ll.length : Int)) ?_ ?_
      · refine rd (elemI hrow hltk (ifB_dec (fun _ => hno) fun hn0 => rd (elemI hrow hltk (ifB_dec (fun _ => hno) fun hn1 => ⟨rfl, by omega, by omega⟩))))
      · rintro _ w' ⟨ew', g1⟩
        refine hnxt w' hltk ⟨ew', fun k' hk' hlt' => ?_⟩
        by_cases e : k' = k
        · subst e; exact g1
        · exact hgk k' hk' (by omega)
    · refine hnext w hlt ⟨rfl, fun i' hi' hlt' y hy => ?_⟩
      by_cases e : i' = i
      · subst e
        obtain ⟨k', hk', rfl⟩ := List.mem_iff_getElem.1 hy
        exact hgk k' hk' (by dsimp only at hgek; omega)
      · exact hg i' hi' (by omega) y hy
  · obtain ⟨i', hi', rfl⟩ := List.mem_iff_getElem.1 hl
    exact hg i' hi' (by dsimp only at hge; omega) y hy

theorem DomOvers_spec {s : Sl} {hs : List Sl} {ll : List (List Int)} {i : Int} {w : World} {R : Value → World → Prop} (h : IsII w s hs ll) (_h24 : 24 * ll.length ≤ 281474976710656) (h8 : ∀ l ∈ ll, 8 * l.length ≤ 281474976710656)
    (hR : ∀ w', Below w.heap.size w w' → R (.bool true) w') : callR Try.prog 9 #[.slice s.a s.l s.c, .int .i64 i] w R := by
  refine callR.of (intagliolaw15_DomOvers_calls s i R w ?_) fun _ _ h => h
  refine sound_spec h8 h ⟨_, rfl, ifB_true rfl (hR w (Below.refl _ _))⟩ fun h0 h1 hG => ⟨_, rfl, ifB_false rfl ?_⟩
  refine tree_spec h (fun hn => absurd ⟨h0, by omega, hG⟩ hn) fun _ _ _ w2 tb ov dp b2 hd => ⟨_, _, rfl, ?_⟩
  refine Table_spec h0 (by omega) hG h8 (h.below b2) fun w3 t b3 hT => ⟨t, rfl, ifB_true rfl ?_⟩
  have hd3 := hd.below b3
  have hT3 : TabD w3 t (edges ll) ov := by
    have : Tab w3 t (edges ll).length (DomR (edges ll)) := by rw [edges_length]; exact hT
    exact this.congr fun a b _ => hd.domR a b
  refine Over_spec hd3 ⟨_, rfl, rOver_spec hd3 hT3 ⟨_, rfl, ifB_true (by simp) ?_⟩⟩
  refine Depth_spec hd3 ⟨_, rfl, rDepth_spec hd3 hT3 ⟨_, rfl, ifB_true (by simp) ?_⟩⟩
  refine Under_spec hd3 fun r w4 b4 o4 => ⟨r, rfl, rUnder_spec hd3 (hT3.below b4) fun r5 w5 b5 o5 => ⟨r5, rfl, ?_⟩⟩
  refine same_spec (o4.below b5).isS o5.isS fun w6 b6 => ⟨true, rfl, hR w6 ?_⟩
  have z3 := b3.size
  have z2 := b2.size
  have z4 := b4.size
  have z5 := b5.size
  exact (((b2.trans (b3.mono z2)).trans (b4.mono (by omega))).trans (b5.mono (by omega))).trans (b6.mono (by omega))

end Go.Proofs
