/-
  Contracts of the document's graph: Walk, Order, All, Reached.
-/
import Derived.Test.Ytjplhoollkeihaa14q
import Derived.Test.Ytjplhoollkeihaa14t
namespace Go.Proofs
open Go.Gk Go.RowKit Go.Gr

/-- A walk from the first node, by a new walker. -/
theorem walk0 {rb : Nat} {nx : List (List Nat)} (hx : NxOk nx) {w : World} (h : IsR w rb nx) {k : World → Prop}
    (hk : ∀ w' cm lf, Below w.heap.size w w' → w.heap.size < w'.heap.size → Blk w' w.heap.size 124 [cm.val, lf.val] → Own w' 3 1 cm ((walkOf nx).map iN) → Own w' 3 1 lf ((visit nx nx.length 0 ([], [])).2.map iN) → k w') :
    Nw (w.alloc (.cells #[(.slice none 0 0), (.slice none 0 0)] 124)) fun w1 => JoinW (S := Unit) (fun m1 =>
      callR Try.prog 97 #[.pointer (some (blk rb))] w1 fun v3 w2 =>
      ∃ x4 : Int, v3 = (.int .i64 x4) ∧
      ifB (decide (x4 > (0 : Int)))
        (callR Try.prog 105 #[(.pointer (some (blk w.heap.size))), .pointer (some (blk rb)), (.int .i64 (0 : Int))] w2 fun v5 w3 =>
        v5 = (.tuple #[]) ∧
        m1 (()) w3)
        (m1 (()) w2))
    (fun _ w' => k w') := by
  refine Nw.gen fun w1 hw1 => ?_
  have hG1 : Blk w1 w.heap.size 124 [(⟨none, 0, 0⟩ : Sl).val, (⟨none, 0, 0⟩ : Sl).val] := by rw [hw1]; exact Blk.new w _ #[_, _]
  have hb1 : Below w.heap.size w w1 := by rw [hw1]; exact (Below.refl _ _).alloc (Nat.le_refl _) _
  have hz1 : w1.heap.size = w.heap.size + 1 := by rw [hw1]; simp
  refine JoinW.all (rLen_spec (h.below hb1) ⟨_, rfl, ifB_true (by have := hx.pos; simpa using this) ?_⟩)
  obtain ⟨s, hs, g1, g2⟩ := h
  have cw : CR w w1 w1.heap.size w.heap.size rb s hs nx := ⟨rfl, Nat.le_refl _, by omega, hb1, g1, g2, hx⟩
  refine to_spec cw nx.length 0 ([], []) w1 _ hx.pos (by simp) (by simp) (by simp) (by simp) (by simp)
    ⟨Fr.refl _ _ _, ⟨none, 0, 0⟩, ⟨none, 0, 0⟩, hG1, Own.nil _ _ _, Own.nil _ _ _, fun a h => (by cases h), fun a h => (by cases h), fun a b h => by cases h⟩ fun w' ⟨hfr, cm, lf, k1, k2, k3, _⟩ => ⟨rfl, ?_⟩
  have hb' : Below w.heap.size w w' := hb1.trans (hfr.mono (B' := w.heap.size) (X' := fun _ => False) (by omega) (fun k hk e => by omega)).below
  exact hk w' cm lf hb' (by have := hfr.size; omega) k1 k2 k3

theorem rWalk_spec {rb : Nat} {nx : List (List Nat)} (hx : NxOk nx) {w : World} {R : Value → World → Prop} (h : IsR w rb nx)
    (hR : ∀ r w', Own w' 3 1 r ((walkOf nx).map iN) → Below w.heap.size w w' → R (.slice r.a r.l r.c) w') :
    callR Try.prog 40 #[.pointer (some (blk rb))] w R := by
  refine callR.of (intaglioref14_Graph_Walk_calls _ R w ?_) fun _ _ h => h
  exact walk0 hx h fun w' cm lf h1 h2 h3 h4 h5 => ⟨cm, h3.cell0 rfl, hR cm w' h4 h1⟩

theorem rOrder_spec {rb : Nat} {nx : List (List Nat)} (hx : NxOk nx) {w : World} {R : Value → World → Prop} (h : IsR w rb nx)
    (hR : ∀ r w', Own w' 3 1 r ((orderOf nx).map iN) → Below w.heap.size w w' → R (.slice r.a r.l r.c) w') :
    callR Try.prog 101 #[.pointer (some (blk rb))] w R := by
  refine callR.of (intaglioref14_Graph_Order_calls _ R w ?_) fun _ _ h => h
  refine walk0 hx h fun w' cm lf h1 h2 h3 h4 h5 => ⟨lf, h3.cell (n := 1) rfl, ?_⟩
  obtain ⟨l, hl⟩ : ∃ l, l = (visit nx nx.length 0 ([], [])).2 := ⟨_, rfl⟩
  have ho : orderOf nx = l.reverse := by rw [hl]; rfl
  have hlen : l.length ≤ 4096 := by have h1 := order_len nx; have := hx.walk_le; have := hx.max; rw [ho, List.length_reverse] at h1; omega
  rw [ho] at hR
  rw [← hl] at h5
  clear ho hl
  have hll := own_len h5
  have e0 : IntKind.i64.wrap ((lf.l : Int) - 1) = (l.length : Int) - 1 := by rw [wrap64_in (by omega) (by omega)]; omega
  rw [e0]
  refine LoopW.ghost (fun j s w2 => ∃ k r, k ≤ l.length ∧ j = l.length - k ∧ s = (r, (l.length : Int) - 1 - (k : Int), ()) ∧ Below w'.heap.size w' w2 ∧ w'.heap.size ≤ w2.heap.size ∧ Own w2 3 1 r ((l.reverse.take k).map iN) ∧ Fresh w'.heap.size r) l.length
    ⟨0, ⟨none, 0, 0⟩, Nat.zero_le _, rfl, by simp, Below.refl _ _, Nat.le_refl _, by simpa using Own.nil _ _ _, fun a ha => by cases ha⟩ ?_
  rintro _ _ w2 ⟨k, r, hk, rfl, rfl, hb, hz, hor, hf⟩ next hnext
  refine ifB_dec (fun hlt => ?_) (fun hge => ?_)
  · have hlt : k < l.length := by dsimp only at hlt; omega
    have h3' := h3.below hb
    have h5' := h5.below hb
    refine ⟨lf, h3'.cell (n := 1) rfl, ?_⟩
    have ei : (l.length : Int) - 1 - (k : Int) = ((l.length - 1 - k : Nat) : Int) := by omega
    dsimp only
    rw [ei]
    refine elemN h5'.isS (k := l.length - 1 - k) (by omega) ?_
    refine push_own (y := l[l.length - 1 - k]) rfl hb hz hor hf (by simp; omega) fun r' w3 k1 k2 k3 k4 => hnext (l.length - (k + 1)) _ _ (by omega) ⟨k + 1, r', hlt, rfl, ?_, k1, k2, ?_, k4⟩
    · rw [wrap64_in (by omega) (by omega)]
      congr 2
      omega
    · rw [List.take_succ_eq_append_getElem (by simpa using hlt), List.getElem_reverse]; exact k3
  · have hk' : k = l.length := by dsimp only at hge; omega
    subst hk'
    rw [List.take_of_length_le (by simp)] at hor
    exact hR r w2 hor (h1.trans (hb.mono (by omega)))

end Go.Proofs
