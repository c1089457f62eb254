/-
  The statement CallsNil: calls that are none.
-/
import Derived.Test.YtjplhoollkeihaaGkN
import Derived.Test.YtjplhoollkeihaaL17a
namespace Go.Gk
/-- A loop that ends in its first round. -/
theorem LoopW.once {S : Type} {body : S → World → (S → World → Prop) → Prop} {s : S} {w : World} (h : ∀ next, body s w next) : LoopW body s w := by
  refine LoopW.ghost (fun _ s' w' => s' = s ∧ w' = w) 0 ⟨rfl, rfl⟩ ?_
  rintro k _ _ ⟨rfl, rfl⟩ next _
  exact h next
end Go.Gk
namespace Go.Proofs
open Go.Gk Go.RowKit

variable {w : World} {R : Value → World → Prop}
theorem cLen_nil (hR : R (.int .i64 0) w) : callR Try.prog 59 #[.pointer none] w R :=
  callR.of (calls_Calls_Len_calls none R w (ifB_true rfl hR)) fun _ _ h => h
theorem CallsNil_spec {i : Int} (hR : ∀ w', Below w.heap.size w w' → R (.bool true) w') : callR Try.prog 13 #[.int .i64 i] w R := by
  refine callR.of (intagliolaw17_CallsNil_calls i R w ?_) fun _ _ h => h
  refine cLen_nil ⟨_, rfl, ifB_true rfl ?_⟩
  refine callR.of (calls_Calls_Calls_calls none i _ w ?_) fun _ _ h => h
  refine JoinW.cut (fun _ _ => False) (ifB_dec (fun _ => ?_) fun h0 => cLen_nil ⟨_, rfl, ifB_dec (fun _ => ?_) fun h1 => ?_⟩) fun _ _ h => h.elim
  case refine_3 => omega
  all_goals
    refine ⟨⟨none, 0, 0⟩, rfl, ifB_true rfl ?_⟩
    refine callR.of (calls_Calls_Called_calls none i _ w ?_) fun _ _ h => h
    refine cLen_nil ⟨_, rfl, LoopW.once fun next => ifB_false rfl ?_⟩
    refine ⟨⟨none, 0, 0⟩, rfl, ifB_true rfl ?_⟩
    refine callR.of (calls_Calls_Order_calls none _ w ?_) fun _ _ h => h
    refine Nw.gen fun w1 hw1 => ?_
    have hB : Blk w1 w.heap.size 65 [.pointer none] := by rw [hw1]; exact Blk.new w _ #[_]
    have hb1 : Below w.heap.size w w1 := by rw [hw1]; exact (Below.refl _ _).alloc (Nat.le_refl _) _
    refine ⟨none, hB.cell0 rfl, cLen_nil ⟨_, rfl, LoopW.once fun next => ifB_false rfl ?_⟩⟩
    refine callR.of (slices_SortStableFunc_sint_int_calls ⟨none, 0, 0⟩ _ _ w1 ?_) fun _ _ h => h
    refine callR.of (slices_stableCmpFunc_int_calls ⟨none, 0, 0⟩ 0 _ _ w1 ?_) fun _ _ h => h
    refine LoopW.once fun next => ifB_false rfl ?_
    refine callR.of (slices_insertionSortCmpFunc_int_calls ⟨none, 0, 0⟩ 0 0 _ _ w1 ?_) fun _ _ h => h
    refine LoopW.once fun next => ifB_false rfl ⟨rfl, LoopW.once fun next => ifB_false rfl ⟨rfl, rfl, ?_⟩⟩
    refine ⟨⟨none, 0, 0⟩, rfl, ifB_true rfl ?_⟩
    refine callR.of (calls_Calls_Deep_calls none i _ w1 ?_) fun _ _ h => h
    refine JoinW.cut (fun _ _ => False) (ifB_dec (fun _ => ?_) fun h0 => cLen_nil ⟨_, rfl, ifB_dec (fun _ => ?_) fun h1 => ?_⟩) fun _ _ h => h.elim
    case refine_3 => omega
    all_goals
      refine ⟨_, rfl, ifB_true rfl ?_⟩
      refine callR.of (calls_Calls_Reached_calls none i _ w1 ?_) fun _ _ h => h
      refine JoinW.cut (fun _ _ => False) (ifB_dec (fun _ => ?_) fun h0 => cLen_nil ⟨_, rfl, ifB_dec (fun _ => ?_) fun h1 => ?_⟩) fun _ _ h => h.elim
      case refine_3 => omega
      all_goals exact ⟨⟨none, 0, 0⟩, rfl, hR w1 hb1⟩

end Go.Proofs
