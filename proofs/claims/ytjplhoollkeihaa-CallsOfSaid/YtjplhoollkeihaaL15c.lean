/-
  Printed by a program of the author: what each function comes to.
-/
import Derived.Test.YtjplhoollkeihaaProg
import Derived.Test.YtjplhoollkeihaaGkR
import Derived.Test.YtjplhoollkeihaaLb
namespace Go.Proofs
open Go.Gk
set_option linter.unusedVariables false
set_option maxRecDepth 100000

/-- slices.ContainsFunc[[]int,int] -/
def a_slices_ContainsFunc_sint_int : Ann := (.seq none .nil (.seq none .nil .nil))
def L_slices_ContainsFunc_sint_int (p0 : Sl) (p1 : Value) (R : Value → World → Prop) (w : World) : Prop :=
  callR Try.prog 150 #[(.slice p0.a p0.l p0.c), p1] w fun v1 w1 =>
  ∃ x2 : Int, v1 = (.int .i64 x2) ∧
  R (.bool (decide (x2 ≥ (0 : Int)))) w1
theorem slices_ContainsFunc_sint_int_calls (p0 : Sl) (p1 : Value) (R : Value → World → Prop) (w : World) (h : L_slices_ContainsFunc_sint_int p0 p1 R w) : Calls Try.prog 111 #[(.slice p0.a p0.l p0.c), p1] w (Ret R) :=
  lw_calls (fs := Try.fs) (an := a_slices_ContainsFunc_sint_int) (args := [(.slice p0.a p0.l p0.c), p1]) Try.fsOK Try.mixed Try.func111 (by kernel_rfl) (by kernel_rfl)
    (Eq.mpr (by kernel_rfl : lwFn Try.prog Try.fs Try.f111 a_slices_ContainsFunc_sint_int [(.slice p0.a p0.l p0.c), p1] w R = L_slices_ContainsFunc_sint_int p0 p1 R w) h)

/-- slices.IndexFunc[[]int,int] -/
def a_slices_IndexFunc_sint_int : Ann := (.seq none .nil (.seq none (.seq none .nil (.one (.loop ⟨[0, 1, 7], [(8, (.b (.int .i64)))]⟩ (.seq none .nil (.seq none (.cond .nil .nil) (.seq none (.one (.seq none .nil (.seq none .nil (.cond (.seq none .nil .nil) .nil)))) .nil)))))) (.seq none .nil .nil)))
def L_slices_IndexFunc_sint_int (p0 : Sl) (p1 : Value) (R : Value → World → Prop) (w : World) : Prop :=
  LoopW (S := Int × Unit) (fun s1 w1 n2 =>
      ifB (decide (s1.1 < (p0.l : Int)))
        ((0 ≤ s1.1 ∧ s1.1 < (p0.l : Int)) ∧
        derefP p0.a fun a3 =>
        ldI w1 (a3.add (Int.toNat s1.1)) .i64 fun x4 =>
        callV Try.prog Try.fs p1 [(.int .i64 x4)] w1 fun v5 w2 =>
        ∃ x6 : Bool, v5 = (.bool x6) ∧
        ifB x6
          (R (.int .i64 s1.1) w2)
          (n2 ((IntKind.i64.wrap (s1.1 + (1 : Int))), ()) w2))
        (R (.int .i64 (-1 : Int)) w1))
    ((0 : Int), ()) w
theorem slices_IndexFunc_sint_int_calls (p0 : Sl) (p1 : Value) (R : Value → World → Prop) (w : World) (h : L_slices_IndexFunc_sint_int p0 p1 R w) : Calls Try.prog 150 #[(.slice p0.a p0.l p0.c), p1] w (Ret R) :=
  lw_calls (fs := Try.fs) (an := a_slices_IndexFunc_sint_int) (args := [(.slice p0.a p0.l p0.c), p1]) Try.fsOK Try.mixed Try.func150 (by kernel_rfl) (by kernel_rfl)
    (Eq.mpr (by kernel_rfl : lwFn Try.prog Try.fs Try.f150 a_slices_IndexFunc_sint_int [(.slice p0.a p0.l p0.c), p1] w R = L_slices_IndexFunc_sint_int p0 p1 R w) h)

end Go.Proofs
