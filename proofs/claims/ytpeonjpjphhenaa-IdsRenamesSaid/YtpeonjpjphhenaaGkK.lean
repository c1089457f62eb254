/-
  Ranges over functions: what is laid, kept, closed.
-/
import Derived.Test.YtpeonjpjphhenaaGkR
import Derived.Test.YtpeonjpjphhenaaGkC
namespace Go.Gk
open Go.RowKit
/-- The blocks from B on that wC has are as they were. -/
def Keep (B : Nat) (wC w : World) : Prop := ∀ k, B ≤ k → k < wC.heap.size → w.heap[k]? = wC.heap[k]?
theorem Keep.refl (B : Nat) (w : World) : Keep B w w := fun _ _ _ => rfl
theorem Keep.below {B : Nat} {wC w w' : World} (h : Keep B wC w) (hs : wC.heap.size ≤ w.heap.size) (hb : Below w.heap.size w w') : Keep B wC w' := fun k h1 h2 => (hb.block k (by omega)).trans (h k h1 h2)
theorem Keep.belowC {B C : Nat} {wC w w' : World} (h : Keep B wC w) (hs : wC.heap.size ≤ C) (hb : Below C w w') : Keep B wC w' := fun k h1 h2 => (hb.block k (by omega)).trans (h k h1 h2)
theorem Keep.set {B : Nat} {wC w : World} (h : Keep B wC w) {b : Nat} (hb : b < B ∨ wC.heap.size ≤ b) (n : Nat) (v : Value) : Keep B wC (w.setCell ((blk b).add n) v) :=
  fun k h1 h2 => (Below.heap_setCell _ _ _ _ (by rw [add_block]; show k ≠ b; omega)).trans (h k h1 h2)
theorem Keep.put {B : Nat} {wC w : World} (h : Keep B wC w) {b : Nat} (hb : b < B ∨ wC.heap.size ≤ b) (o : Obj) : Keep B wC (w.putObj b o) :=
  fun k h1 h2 => (World.putObj_heap_other (by omega)).trans (h k h1 h2)
theorem Keep.alloc {B : Nat} {wC w : World} (h : Keep B wC w) (hs : wC.heap.size ≤ w.heap.size) (o : Obj) : Keep B wC (w.alloc o) := fun k h1 h2 => (alloc_old w o (by omega)).trans (h k h1 h2)
theorem Blk.put {w : World} {b : Nat} {T : TypeId} {cs : List Value} (h : Blk w b T cs) {l : Nat} (hl : b ≠ l) (o : Obj) : Blk (w.putObj l o) b T cs := h.of_block (World.putObj_heap_other hl)
theorem _root_.Go.RowKit.Below.putObj {B : Nat} {w w' : World} (h : Below B w w') {b : Nat} (hb : B ≤ b) (o : Obj) : Below B w (w'.putObj b o) :=
  ⟨h.os, h.tape, h.output, by simpa using h.size, fun k hk => (World.putObj_heap_other (by omega)).trans (h.block k hk)⟩
theorem heap_set_other {w : World} {b k : Nat} (h : k ≠ b) (n : Nat) (v : Value) : (w.setCell ((blk b).add n) v).heap[k]? = w.heap[k]? := Below.heap_setCell _ _ _ _ (by rw [add_block]; exact h)
/-- The two blocks that a range lays. -/
theorem laid_below (w : World) (o o' : Obj) : Below w.heap.size w ((w.alloc o).alloc o') := (((Below.refl _ _).alloc (Nat.le_refl _) o).alloc (by simp) o')
theorem laid_size (w : World) (o o' : Obj) : ((w.alloc o).alloc o').heap.size = w.heap.size + 2 := by simp
theorem laid_d (w : World) (o o' : Obj) : ((w.alloc o).alloc o').heap[w.heap.size]? = some o := (alloc_old (w.alloc o) o' (by simp)).trans (World.alloc_heap_new w o)
theorem laid_l (w : World) (o o' : Obj) : ((w.alloc o).alloc o').heap[w.heap.size + 1]? = some o' := by
  have := World.alloc_heap_new (w.alloc o) o'
  simpa using this
theorem funcNil_func {f : Fn} {a b : Array Value} {k : Bool → Prop} (h : k false) : funcNil (.func f a b) k := h
theorem closeM_one {d : Nat} {w : World} {k : World → Prop} (h : w.heap[d]? = some (.deferred (some []))) (hk : k (w.putObj d (.deferred none))) : closeM [d] w k := ⟨h, hk⟩
theorem callV.mono {P : Program} {fs : List Nat} {f : Value} {args : List Value} {w : World} {S T : Value → World → Prop} (h : callV P fs f args w S) (hk : ∀ v w', S v w' → T v w') : callV P fs f args w T := by
  revert h
  unfold callV
  split
  · split
    · exact fun h => callR.mono h hk
    · rintro ⟨v, w', h1, h2⟩
      exact ⟨v, w', h1, hk _ _ h2⟩
  · rintro ⟨r, h1, h2, h3⟩
    exact ⟨r, h1, h2, RoundIn.mono h3 fun e w' he => by cases e <;> first | exact hk _ _ he | exact he.elim⟩
  · exact id
end Go.Gk
