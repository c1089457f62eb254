/-
  The statement GraphNil: no graph.
-/
import Derived.Test.Ytjplhoollkeihaa14w
namespace Go.Proofs
open Go.Gk Go.RowKit Go.Gr

theorem GraphNil_spec {i : Int} {w : World} {R : Value → World → Prop} (hR : ∀ w', Below w.heap.size w w' → R (.bool true) w') : callR Try.prog 7 #[.int .i64 i] w R := by
  refine callR.of (intagliolaw14_GraphNil_calls i R w ?_) fun _ _ h => h
  unfold L_intagliolaw14_GraphNil
  refine Nw.gen fun w1 hw1 => ?_
  have hN1 : Blk w1 w.heap.size 3 [.int .i64 0] := by rw [hw1]; exact Blk.new w _ #[_]
  have b1 : Below w.heap.size w w1 := by rw [hw1]; exact (Below.refl _ _).alloc (Nat.le_refl _) _
  have s1 : w1.heap.size = w.heap.size + 1 := by rw [hw1]; simp
  refine ⟨hN1.wr0 (by simp), Nw.gen fun w2 hw2 => ?_⟩
  have hN2 : Blk w2 w.heap.size 3 [.int .i64 0] := by rw [hw2]; exact hN1.set0 _
  have b2 : Below w.heap.size w w2 := by rw [hw2]; exact b1.setCell (Nat.le_refl _) _
  have s2 : w2.heap.size = w.heap.size + 1 := by rw [hw2]; simpa [World.setCell] using s1
  refine Walk_spec fun w3 hP b3 => ⟨_, rfl, funcNil_func (ifB_false rfl ?_)⟩
  have hz3 := b3.size
  have b3' : Below w.heap.size w w3 := b2.trans (b3.mono (by omega))
  have hN3 := hN2.below b3
  refine walk_range (nx := []) (wC := w3) (B := w3.heap.size) hP (.inl ⟨rfl, rfl⟩) fun mk => ?_
  refine ⟨fun _ w' => w' = (w3.alloc (.deferred (some []))).alloc (mk .ready none), rfl, fun k w' _ j h1 h2 => by omega, fun k hk => absurd hk (by simp [walkOf, visit]), ?_⟩
  rintro w' rfl
  refine ⟨laid_l w3 _ _, ?_⟩
  generalize hw8 : World.putObj _ _ _ = w8
  have b8 : Below w3.heap.size w3 w8 := by rw [← hw8]; exact (laid_below w3 _ _).putObj (by omega) _
  have hd8 : w8.heap[w3.heap.size]? = some (.deferred (some [])) := by rw [← hw8, World.putObj_heap_other (by omega)]; exact laid_d w3 _ _
  have hN8 := hN3.below b8
  have b8' : Below w.heap.size w w8 := b3'.trans (b8.mono (by omega))
  have nil : GP w8 none [] := .inl ⟨rfl, rfl⟩
  refine ⟨0, hN8.cell0 rfl, ifB_true rfl ?_⟩
  refine nil.len ⟨0, rfl, ifB_true rfl ?_⟩
  refine nil.next fun r4 w4 o4 _ b4 => ⟨r4, rfl, ifB_true ?_ ?_⟩
  · have := own_len o4; simp [rowAt_nil] at this; simp [this]
  refine (nil.below b4).ahead fun r5 w5 o5 _ b5 => ⟨r5, rfl, ifB_true ?_ ?_⟩
  · have := own_len o5; simp [show aheadOf [] = [] from rfl, rowAt_nil] at this; simp [this]
  have b45 := b4.trans (b5.mono b4.size)
  refine (nil.below b45).reached ⟨_, rfl, ?_⟩
  rw [reached_nil]
  refine ifB_true rfl ((nil.below b45).order fun r6 w6 o6 _ b6 => ⟨r6, rfl, ifB_true ?_ ?_⟩)
  · have := own_len o6; simp [orderOf, visit] at this; simp [this]
  have b46 := b45.trans (b6.mono b45.size)
  refine awake_spec fun w7 b7 => ⟨true, rfl, ?_⟩
  have b47 := b46.trans (b7.mono b46.size)
  have hd7 : w7.heap[w3.heap.size]? = some (.deferred (some [])) := by
    rw [b47.block _ (by rw [← hw8, World.putObj_size, laid_size]; omega)]; exact hd8
  refine closeM_one hd7 (hR _ ?_)
  exact ((b8'.trans (b47.mono b8'.size)).putObj (by omega) _)

end Go.Proofs
