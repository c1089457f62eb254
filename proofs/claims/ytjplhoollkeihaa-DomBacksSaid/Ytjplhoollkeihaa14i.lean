/-
  Contracts of what the statements make: pair, awake, copied.
-/
import Derived.Test.Ytjplhoollkeihaa14h
namespace Go.Proofs
open Go.Gk Go.RowKit Go.Gr

theorem pair_spec {a b : Int} {w : World} {R : Value → World → Prop}
    (hR : ∀ w', Below w.heap.size w w' → w'.heap.size = w.heap.size + 1 → Blk w' w.heap.size 3 [.int .i64 a, .int .i64 b] → IsI w' ⟨some (blk w.heap.size), 2, 2⟩ [a, b] → R (.slice (some (blk w.heap.size)) 2 2) w') :
    callR Try.prog 102 #[.int .i64 a, .int .i64 b] w R := by
  refine callR.of (intagliolaw14_pair_calls a b R w ?_) fun _ _ h => h
  refine ⟨by decide, Nw.gen fun w1 hw1 => ?_⟩
  have h1 : Blk w1 w.heap.size 3 [.int .i64 (0 : Int), .int .i64 (0 : Int)] := by rw [hw1]; exact Blk.made w _ _ 2
  have b1 : Below w.heap.size w w1 := by rw [hw1]; exact (Below.refl _ _).alloc (Nat.le_refl _) _
  have z1 : w1.heap.size = w.heap.size + 1 := by rw [hw1]; simp
  refine ⟨by decide, h1.wr (n := 0) (by simp), Nw.mk ?_⟩
  refine ⟨by decide, (h1.set 0 _).wr (n := 1) (by simp), Nw.mk ?_⟩
  have h3 := (h1.set 0 (.int .i64 a)).set 1 (.int .i64 b)
  refine hR _ ((b1.setCell (by rw [add_block]; exact Nat.le_refl _) _).setCell (by rw [add_block]; exact Nat.le_refl _) _) (by simpa [World.setCell] using z1) h3 ?_
  exact Blk.isS (f := Value.int .i64) (l := [a, b]) h3 rfl rfl (Nat.le_refl _) (show 2 ≤ 9223372036854775807 by decide)

/-- A slice of slices whose cells are numbers as of nodes. -/
theorem awake_spec {w : World} {R : Value → World → Prop} (hR : ∀ w', Below w.heap.size w w' → R (.bool true) w') : callR Try.prog 32 #[] w R := by
  refine callR.of (intagliolaw14_awake_calls R w ?_) fun _ _ h => h
  refine ⟨by decide, Nw.gen fun w1 hw1 => ?_⟩
  have h1 : Blk w1 w.heap.size 32 [.slice none 0 0, .slice none 0 0, .slice none 0 0] := by rw [hw1]; exact Blk.made w _ _ 3
  have b1 : Below w.heap.size w w1 := by rw [hw1]; exact (Below.refl _ _).alloc (Nat.le_refl _) _
  have z1 : w1.heap.size = w.heap.size + 1 := by rw [hw1]; simp
  refine pair_spec fun w2 b2 z2 p2 i2 => ⟨⟨_, 2, 2⟩, rfl, by decide, ?_⟩
  have h2 := h1.below b2
  refine ⟨h2.wr (n := 0) (by simp), Nw.gen fun w3 hw3 => ?_⟩
  have h3 : Blk w3 w.heap.size 32 [.slice (some (blk w1.heap.size)) 2 2, .slice none 0 0, .slice none 0 0] := by rw [hw3]; exact h2.set 0 _
  have p3 : Blk w3 w1.heap.size 3 [.int .i64 2, .int .i64 1] := by rw [hw3]; exact p2.other (by rw [add_block]; simp; omega) _
  have b3 : Below w.heap.size w w3 := by rw [hw3]; exact (b1.trans (b2.mono (by omega))).setCell (by rw [add_block]; exact Nat.le_refl _) _
  have z3 : w3.heap.size = w.heap.size + 2 := by rw [hw3]; simp [World.setCell]; omega
  refine pair_spec fun w4 b4 z4 p4 i4 => ⟨⟨_, 2, 2⟩, rfl, by decide, ?_⟩
  have h4 := h3.below b4
  refine ⟨h4.wr (n := 2) (by simp), Nw.gen fun w5 hw5 => ?_⟩
  have h5 : Blk w5 w.heap.size 32 [.slice (some (blk w1.heap.size)) 2 2, .slice none 0 0, .slice (some (blk w3.heap.size)) 2 2] := by rw [hw5]; exact h4.set 2 _
  have p5 : Blk w5 w1.heap.size 3 [.int .i64 2, .int .i64 1] := by rw [hw5]; exact (p3.below b4).other (by rw [add_block]; simp; omega) _
  have q5 : Blk w5 w3.heap.size 3 [.int .i64 0, .int .i64 2] := by rw [hw5]; exact p4.other (by rw [add_block]; simp; omega) _
  have b5 : Below w.heap.size w w5 := by rw [hw5]; exact (b3.trans (b4.mono (by omega))).setCell (by rw [add_block]; exact Nat.le_refl _) _
  have hin : IsII w5 ⟨some (blk w.heap.size), 3, 3⟩ [⟨some (blk w1.heap.size), 2, 2⟩, ⟨none, 0, 0⟩, ⟨some (blk w3.heap.size), 2, 2⟩] [[2, 1], [], [0, 2]] := by
    refine ⟨Blk.isS (f := Sl.val) h5 rfl rfl (Nat.le_refl _) (show 3 ≤ 9223372036854775807 by decide), rfl, fun i hi _ => ?_⟩
    match i, hi with
    | 0, _ => exact Blk.isS (f := Value.int .i64) (l := [2, 1]) p5 rfl rfl (Nat.le_refl _) (show 2 ≤ 9223372036854775807 by decide)
    | 1, _ => exact ⟨rfl, Nat.le_refl _, show 0 ≤ 9223372036854775807 by decide, fun _ => rfl, fun _ h => by cases h⟩
    | 2, _ => exact Blk.isS (f := Value.int .i64) (l := [0, 2]) q5 rfl rfl (Nat.le_refl _) (show 2 ≤ 9223372036854775807 by decide)
  have hGood : Good [[2, 1], [], [0, 2]] := by unfold Good; decide +kernel
  refine graph_Of_spec (s := ⟨some (blk w.heap.size), 3, 3⟩) hin (fun h => absurd h (by simp)) (fun h => absurd h (by simp)) (fun _ _ h => absurd hGood h) fun _ _ hG w6 gb b6 _ hg => ?_
  have hx : NxOk (edges [[2, 1], [], [0, 2]]) := edges_ok (by decide) (by decide) hG
  have hb6 : Below w.heap.size w w6 := b5.trans (b6.mono b5.size)
  refine ⟨_, _, rfl, ifB_true rfl ?_⟩
  refine gLen_spec hg ⟨_, rfl, ifB_true (by decide +kernel) ?_⟩
  refine Next_spec hx hg fun r8 w8 o8 f8 b8 => ⟨r8, rfl, ?_⟩
  refine pair_spec fun w9 b9 _ _ i9 => ⟨⟨_, 2, 2⟩, rfl, ?_⟩
  have e8 : (rowAt (edges [[2, 1], [], [0, 2]]) 0) = [2, 1] := by decide +kernel
  rw [e8] at o8
  refine Ints_spec (IsS.toI (Own.isS (o8.below b9))) i9 fun w10 _ b10 => ⟨_, rfl, ifB_true (by decide +kernel) ?_⟩
  have hb10 : Below w6.heap.size w6 w10 := b8.trans ((b9.mono b8.size).trans (b10.mono (by have := b8.size; have := b9.size; omega)))
  have hg10 := hg.below hb10
  refine Ahead_spec hx hg10 fun r11 w11 o11 f11 b11 => ⟨r11, rfl, ?_⟩
  refine pair_spec fun w12 b12 _ _ i12 => ⟨⟨_, 2, 2⟩, rfl, ?_⟩
  have e11 : (rowAt (aheadOf (edges [[2, 1], [], [0, 2]])) 2) = [0, 2] := by decide +kernel
  rw [e11] at o11
  refine Ints_spec (IsS.toI (Own.isS (o11.below b12))) i12 fun w13 _ b13 => ⟨_, rfl, ifB_true (by decide +kernel) ?_⟩
  have hb13 : Below w10.heap.size w10 w13 := b11.trans ((b12.mono b11.size).trans (b13.mono (by have := b11.size; have := b12.size; omega)))
  have hg13 := hg10.below hb13
  refine Reached_spec hx hg13 ⟨_, rfl, ifB_true (by decide +kernel) ?_⟩
  refine Order_spec hx hg13 fun r15 w15 o15 f15 b15 => ⟨r15, rfl, ?_⟩
  have e15 : orderOf (edges [[2, 1], [], [0, 2]]) = [0, 1, 2] := by decide +kernel
  have hl := own_len o15
  rw [e15] at hl
  rw [hl]
  refine hR w15 (hb6.trans ((hb10.mono hb6.size).trans ((hb13.mono ?_).trans (b15.mono ?_))))
  · have := hb6.size; have := hb10.size; omega
  · have := hb6.size; have := hb10.size; have := hb13.size; omega

/-- What copied makes: the headers' block B, behind it a block for each of the first m rows. -/
structure Cop (w : World) (B n m : Nat) (row : Nat → List Int) : Prop where
  le : m ≤ n
  head : Blk w B 32 ((List.range n).map fun i => if i < m then .slice (some (blk (B + 1 + i))) (row i).length (row i).length else .slice none 0 0)
  rows : ∀ i, i < m → Blk w (B + 1 + i) 3 ((row i).map (Value.int .i64))
theorem Cop.below {w w' : World} {B n m : Nat} {row : Nat → List Int} (h : Cop w B n m row) (hb : Below w.heap.size w w') : Cop w' B n m row :=
  ⟨h.le, h.head.below hb, fun i hi => (h.rows i hi).below hb⟩
/-- Its slices. -/
abbrev copS (B n m : Nat) (row : Nat → List Int) : List Sl := (List.range n).map fun i => if i < m then ⟨some (blk (B + 1 + i)), (row i).length, (row i).length⟩ else ⟨none, 0, 0⟩
abbrev copL (n m : Nat) (row : Nat → List Int) : List (List Int) := (List.range n).map fun i => if i < m then row i else []
theorem Cop.isII {w : World} {B n m : Nat} {row : Nat → List Int} (h : Cop w B n m row) (hn : n ≤ 9223372036854775807) (hr : ∀ i, i < m → (row i).length ≤ 9223372036854775807) :
    IsII w ⟨some (blk B), n, n⟩ (copS B n m row) (copL n m row) := by
  have hh : Blk w B 32 ((copS B n m row).map Sl.val) := by
    have e : (copS B n m row).map Sl.val = (List.range n).map fun i => if i < m then .slice (some (blk (B + 1 + i))) (row i).length (row i).length else .slice none 0 0 := by
      rw [List.map_map]
      refine List.map_congr_left fun i _ => ?_
      simp only [Function.comp_apply, Sl.val]
      split <;> rfl
    rw [e]; exact h.head
  refine ⟨Blk.isS (f := Sl.val) hh rfl (by simp) (Nat.le_refl _) hn, by simp, fun i hi hi' => ?_⟩
  simp only [List.getElem_map, List.getElem_range]
  by_cases him : i < m
  · rw [if_pos him, if_pos him]
    exact Blk.isS (f := Value.int .i64) (h.rows i him) rfl rfl (Nat.le_refl _) (hr i him)
  · rw [if_neg him, if_neg him]
    exact ⟨rfl, Nat.le_refl _, by decide, fun _ => rfl, fun _ h => by cases h⟩

end Go.Proofs
