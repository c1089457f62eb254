/-
  dom: a tree that is none; the law's tree.
-/
import Derived.Test.Ytjplhoollkeihaa15g
import Derived.Test.Ytjplhoollkeihaa14x
namespace Go.Proofs
open Go.Gk Go.RowKit Go.Gr Go.Dm

section
variable {w : World} {R : Value → World → Prop} {i k : Int}
theorem Over_nil (hR : R (.int .i64 (-1)) w) : callR Try.prog 45 #[.pointer none, .int .i64 i] w R :=
  callR.of (dom_Tree_Over_calls none i R w (reached_nil' ⟨_, rfl, ifB_true rfl hR⟩)) fun _ _ h => h
theorem Depth_nil (hR : R (.int .i64 (-1)) w) : callR Try.prog 47 #[.pointer none, .int .i64 i] w R :=
  callR.of (dom_Tree_Depth_calls none i R w (reached_nil' ⟨_, rfl, ifB_true rfl hR⟩)) fun _ _ h => h
theorem Under_nil (hR : R (.slice none 0 0) w) : callR Try.prog 49 #[.pointer none, .int .i64 i] w R :=
  callR.of (dom_Tree_Under_calls none i R w (reached_nil' ⟨_, rfl, ifB_true rfl hR⟩)) fun _ _ h => h
theorem Frontier_nil (hR : ∀ w', Below w.heap.size w w' → R (.slice none 0 0) w') : callR Try.prog 57 #[.pointer none, .int .i64 i] w R := by
  refine callR.of (dom_Tree_Frontier_calls none i R w ?_) fun _ _ h => h
  refine Nw.gen fun w1 hw1 => Nw.gen fun w2 hw2 => ?_
  have h1 : Blk w1 w.heap.size 47 [.pointer none] := by rw [hw1]; exact Blk.new w _ #[_]
  have h2 : Blk w2 w1.heap.size 3 [.int .i64 i] := by rw [hw2]; exact Blk.new w1 _ #[_]
  have h1' : Blk w2 w.heap.size 47 [.pointer none] := by rw [hw2]; exact h1.alloc _
  exact ⟨none, h1'.cell0 rfl, i, h2.cell0 rfl, reached_nil' ⟨_, rfl, ifB_true rfl (hR w2 (by rw [hw2, hw1]; exact ((Below.refl _ _).alloc (Nat.le_refl _) _).alloc (by simp) _))⟩⟩
theorem Near_nil (hR : R (.tuple #[.int .i64 0, .bool false]) w) : callR Try.prog 54 #[.pointer none, .int .i64 i, .int .i64 k] w R := by
  refine callR.of (dom_Tree_Near_calls none i k R w ?_) fun _ _ h => h
  exact JoinW.cut (fun _ _ => False) (reached_nil' ⟨_, rfl, ifB_true rfl hR⟩) fun _ _ h => h.elim
theorem Backs_nil (hR : R (.slice none 0 0) w) : callR Try.prog 86 #[.pointer none] w R :=
  callR.of (dom_Tree_Backs_calls none R w (ifB_true rfl hR)) fun _ _ h => h
theorem Dominates_nil (hR : ∀ w', Below w.heap.size w w' → R (.bool false) w') : callR Try.prog 51 #[.pointer none, .int .i64 i, .int .i64 k] w R := by
  refine callR.of (dom_Tree_Dominates_calls _ i k R w ?_) fun _ _ h => h
  unfold L_dom_Tree_Dominates
  refine Nw.gen fun w1 hw1 => ?_
  have b1 : Below w.heap.size w w1 := by rw [hw1]; exact (Below.refl _ _).alloc (Nat.le_refl _) _
  have z1 : w1.heap.size = w.heap.size + 1 := by rw [hw1]; simp
  clear hw1
  refine Nw.gen fun w2 hw2 => ?_
  have hF2 : Blk w2 w1.heap.size 4 [.bool false] := by rw [hw2]; exact Blk.new w1 _ #[_]
  have b2' : Below w1.heap.size w1 w2 := by rw [hw2]; exact (Below.refl _ _).alloc (Nat.le_refl _) _
  have z2 : w2.heap.size = w1.heap.size + 1 := by rw [hw2]; simp
  clear hw2
  refine Up_spec fun w3 hP3 hI3 b3' z3 => ⟨_, rfl, ?_⟩
  have b3 : Below w.heap.size w w3 := (b1.trans (b2'.mono (by omega))).trans (b3'.mono (by omega))
  refine up_range_nil hP3 hI3 fun mk => .inl ⟨laid_l _ _ _, ?_⟩
  have bl := laid_below w3 (.deferred (some [])) (mk .ready none)
  have hF := ((hF2.below b3').below bl).put (l := w3.heap.size + 1) (by omega) (mk .exhausted none)
  refine ⟨hF.wr0 (by simp), Nw.mk (closeM_one ((heap_set_other (n := 0) (by omega) _).trans ((World.putObj_heap_other (by omega)).trans (laid_d _ _ _))) ⟨false, ((hF.set0 _).put (by omega) _).cell0 rfl, hR _ ?_⟩)⟩
  exact (((b3.trans (bl.mono (by omega))).putObj (by omega) _).setCell (by show w.heap.size ≤ w1.heap.size; omega) _).putObj (by omega) _
theorem DomNil_spec (hR : ∀ w', Below w.heap.size w w' → R (.bool true) w') : callR Try.prog 23 #[.int .i64 i, .int .i64 k] w R := by
  refine callR.of (intagliolaw15_DomNil_calls i k R w ?_) fun _ _ h => h
  unfold L_intagliolaw15_DomNil
  refine callR.of (dom_New_calls none _ w (ifB_true rfl ⟨none, 1, rfl, ?_⟩)) fun _ _ h => h
  refine JoinW.cut (fun _ w' => w' = w) (ifB_false rfl (ifB_false rfl rfl)) ?_
  rintro _ _ rfl
  rename_i w
  refine Nw.gen fun w3 hw3 => ?_
  have hN3 : Blk w3 w.heap.size 3 [.int .i64 0] := by rw [hw3]; exact Blk.new w _ #[_]
  have b3 : Below w.heap.size w w3 := by rw [hw3]; exact (Below.refl _ _).alloc (Nat.le_refl _) _
  have z3 : w3.heap.size = w.heap.size + 1 := by rw [hw3]; simp
  clear hw3
  refine ⟨hN3.wr0 (by simp), Nw.gen fun w4 hw4 => ?_⟩
  have hN4 : Blk w4 w.heap.size 3 [.int .i64 0] := by rw [hw4]; exact hN3.set0 _
  have b4 : Below w.heap.size w w4 := by rw [hw4]; exact b3.setCell (Nat.le_refl _) _
  have z4 : w4.heap.size = w.heap.size + 1 := by rw [hw4]; simpa [World.setCell] using z3
  clear hw4
  refine Up_spec fun w5 hP5 hI5 b5' z5 => ⟨_, rfl, funcNil_func (ifB_false rfl ?_)⟩
  have b5 : Below w.heap.size w w5 := b4.trans (b5'.mono (by omega))
  refine up_range_nil hP5 hI5 fun mk => ⟨laid_l _ _ _, ?_⟩
  have bl := laid_below w5 (.deferred (some [])) (mk .ready none)
  have hN := ((hN4.below b5').below bl).put (l := w5.heap.size + 1) (by omega) (mk .exhausted none)
  have hd : (World.putObj ((w5.alloc (.deferred (some []))).alloc (mk .ready none)) (w5.heap.size + 1) (mk .exhausted none)).heap[w5.heap.size]? = some (.deferred (some [])) := (World.putObj_heap_other (by omega)).trans (laid_d _ _ _)
  have hz : w5.heap.size + 2 = (World.putObj ((w5.alloc (.deferred (some []))).alloc (mk .ready none)) (w5.heap.size + 1) (mk .exhausted none)).heap.size := by rw [World.putObj_size, laid_size]
  have b10 : Below w.heap.size w (World.putObj ((w5.alloc (.deferred (some []))).alloc (mk .ready none)) (w5.heap.size + 1) (mk .exhausted none)) := (b5.trans (bl.mono (by omega))).putObj (by omega) _
  generalize World.putObj ((w5.alloc (.deferred (some []))).alloc (mk .ready none)) (w5.heap.size + 1) (mk .exhausted none) = w10 at *
  refine Near_nil ⟨0, false, rfl, Over_nil ⟨_, rfl, ifB_true rfl (Depth_nil ⟨_, rfl, ifB_true rfl ?_⟩)⟩⟩
  refine Dominates_nil fun w14 b14 => ⟨false, rfl, ifB_true rfl (Under_nil ⟨⟨none, 0, 0⟩, rfl, ifB_true rfl (ifB_true rfl (ifB_true rfl ⟨0, (hN.below b14).cell0 rfl, ifB_true rfl ?_⟩))⟩)⟩
  refine Frontier_nil fun w16 b16 => ⟨⟨none, 0, 0⟩, rfl, ifB_true rfl (Backs_nil ⟨⟨none, 0, 0⟩, rfl, closeM_one ?_ (hR _ ?_)⟩)⟩
  · have := b14.size
    rw [b16.block _ (by omega), b14.block _ (by omega)]; exact hd
  · exact ((b10.trans (b14.mono (by omega))).trans (b16.mono (by have := b14.size; omega))).putObj (by omega) _
end

/-- The law's tree of a graph. -/
theorem tree_spec {s : Sl} {hs : List Sl} {ll : List (List Int)} {w : World} {R : Value → World → Prop} (h : IsII w s hs ll)
    (hbad : ¬ (0 < ll.length ∧ ll.length ≤ 4096 ∧ Good ll) → ∀ w', Below w.heap.size w w' → R (.tuple #[.pointer none, .bool false]) w')
    (hok : 0 < ll.length → ll.length ≤ 4096 → Good ll → ∀ w' tb ov dp, Below w.heap.size w w' → Dt w' tb (edges ll) ov dp → R (.tuple #[.pointer (some (Gk.blk tb)), .bool true]) w') :
    callR Try.prog 43 #[.slice s.a s.l s.c] w R := by
  refine callR.of (intagliolaw15_tree_calls s R w ?_) fun _ _ h => h
  refine graph_Of_spec h (fun h0 => ⟨_, _, rfl, ifB_true rfl (hbad (by omega) w (Below.refl _ _))⟩) (fun h0 => ⟨_, _, rfl, ifB_true rfl (hbad (by omega) w (Below.refl _ _))⟩)
    (fun _ _ hG w' hb => ⟨_, _, rfl, ifB_true rfl (hbad (fun h => hG h.2.2) w' hb)⟩) fun h0 h1 hG w' gb hb _ hg => ⟨_, _, rfl, ifB_false rfl ?_⟩
  have hx := edges_ok h0 h1 hG
  refine New_spec hx hg fun w2 tb ov dp b2 hd hS hdp => ⟨_, _, rfl, ?_⟩
  exact hok h0 h1 hG w2 tb ov dp (hb.trans (b2.mono hb.size)) ⟨hx, hd, hS, hdp⟩

end Go.Proofs
