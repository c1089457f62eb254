/-
  Printed by a program of the author: what each function comes to.
-/
import Derived.Test.YtjplhoollkeihaaProg
import Derived.Test.YtjplhoollkeihaaGkR
import Derived.Test.YtjplhoollkeihaaLb
namespace Go.Proofs
open Go.Gk
set_option linter.unusedVariables false
set_option maxRecDepth 100000

/-- slices.Contains[[]int,int] -/
def a_slices_Contains_sint_int : Ann := (.seq none .nil (.seq none .nil .nil))
def L_slices_Contains_sint_int (p0 : Sl) (p1 : Int) (R : Value → World → Prop) (w : World) : Prop :=
  callR Try.prog 151 #[(.slice p0.a p0.l p0.c), (.int .i64 p1)] w fun v1 w1 =>
  ∃ x2 : Int, v1 = (.int .i64 x2) ∧
  R (.bool (decide (x2 ≥ (0 : Int)))) w1
theorem slices_Contains_sint_int_calls (p0 : Sl) (p1 : Int) (R : Value → World → Prop) (w : World) (h : L_slices_Contains_sint_int p0 p1 R w) : Calls Try.prog 113 #[(.slice p0.a p0.l p0.c), (.int .i64 p1)] w (Ret R) :=
  lw_calls (fs := Try.fs) (an := a_slices_Contains_sint_int) (args := [(.slice p0.a p0.l p0.c), (.int .i64 p1)]) Try.fsOK Try.mixed Try.func113 (by kernel_rfl) (by kernel_rfl)
    (Eq.mpr (by kernel_rfl : lwFn Try.prog Try.fs Try.f113 a_slices_Contains_sint_int [(.slice p0.a p0.l p0.c), (.int .i64 p1)] w R = L_slices_Contains_sint_int p0 p1 R w) h)

/-- slices.Index[[]int,int] -/
def a_slices_Index_sint_int : Ann := (.seq none .nil (.seq none (.seq none .nil (.one (.loop ⟨[0, 1, 7], [(8, (.b (.int .i64)))]⟩ (.seq none .nil (.seq none (.cond .nil .nil) (.seq none (.one (.seq none .nil (.seq none .nil (.cond (.seq none .nil .nil) .nil)))) .nil)))))) (.seq none .nil .nil)))
def L_slices_Index_sint_int (p0 : Sl) (p1 : Int) (R : Value → World → Prop) (w : World) : Prop :=
  LoopW (S := Int × Unit) (fun s1 w1 n2 =>
      ifB (decide (s1.1 < (p0.l : Int)))
        ((0 ≤ s1.1 ∧ s1.1 < (p0.l : Int)) ∧
        derefP p0.a fun a3 =>
        ldI w1 (a3.add (Int.toNat s1.1)) .i64 fun x4 =>
        ifB (p1 == x4)
          (R (.int .i64 s1.1) w1)
          (n2 ((IntKind.i64.wrap (s1.1 + (1 : Int))), ()) w1))
        (R (.int .i64 (-1 : Int)) w1))
    ((0 : Int), ()) w
theorem slices_Index_sint_int_calls (p0 : Sl) (p1 : Int) (R : Value → World → Prop) (w : World) (h : L_slices_Index_sint_int p0 p1 R w) : Calls Try.prog 151 #[(.slice p0.a p0.l p0.c), (.int .i64 p1)] w (Ret R) :=
  lw_calls (fs := Try.fs) (an := a_slices_Index_sint_int) (args := [(.slice p0.a p0.l p0.c), (.int .i64 p1)]) Try.fsOK Try.mixed Try.func151 (by kernel_rfl) (by kernel_rfl)
    (Eq.mpr (by kernel_rfl : lwFn Try.prog Try.fs Try.f151 a_slices_Index_sint_int [(.slice p0.a p0.l p0.c), (.int .i64 p1)] w R = L_slices_Index_sint_int p0 p1 R w) h)

/-- slices.Contains[[]uint8,uint8] -/
def a_slices_Contains_suint8_uint8 : Ann := (.seq none .nil (.seq none .nil .nil))
def L_slices_Contains_suint8_uint8 (p0 : Sl) (p1 : Int) (R : Value → World → Prop) (w : World) : Prop :=
  callR Try.prog 197 #[(.slice p0.a p0.l p0.c), (.int .u8 p1)] w fun v1 w1 =>
  ∃ x2 : Int, v1 = (.int .i64 x2) ∧
  R (.bool (decide (x2 ≥ (0 : Int)))) w1
theorem slices_Contains_suint8_uint8_calls (p0 : Sl) (p1 : Int) (R : Value → World → Prop) (w : World) (h : L_slices_Contains_suint8_uint8 p0 p1 R w) : Calls Try.prog 174 #[(.slice p0.a p0.l p0.c), (.int .u8 p1)] w (Ret R) :=
  lw_calls (fs := Try.fs) (an := a_slices_Contains_suint8_uint8) (args := [(.slice p0.a p0.l p0.c), (.int .u8 p1)]) Try.fsOK Try.mixed Try.func174 (by kernel_rfl) (by kernel_rfl)
    (Eq.mpr (by kernel_rfl : lwFn Try.prog Try.fs Try.f174 a_slices_Contains_suint8_uint8 [(.slice p0.a p0.l p0.c), (.int .u8 p1)] w R = L_slices_Contains_suint8_uint8 p0 p1 R w) h)

/-- slices.Index[[]uint8,uint8] -/
def a_slices_Index_suint8_uint8 : Ann := (.seq none .nil (.seq none (.seq none .nil (.one (.loop ⟨[0, 1, 7], [(8, (.b (.int .i64)))]⟩ (.seq none .nil (.seq none (.cond .nil .nil) (.seq none (.one (.seq none .nil (.seq none .nil (.cond (.seq none .nil .nil) .nil)))) .nil)))))) (.seq none .nil .nil)))
def L_slices_Index_suint8_uint8 (p0 : Sl) (p1 : Int) (R : Value → World → Prop) (w : World) : Prop :=
  LoopW (S := Int × Unit) (fun s1 w1 n2 =>
      ifB (decide (s1.1 < (p0.l : Int)))
        ((0 ≤ s1.1 ∧ s1.1 < (p0.l : Int)) ∧
        derefP p0.a fun a3 =>
        ldI w1 (a3.add (Int.toNat s1.1)) .u8 fun x4 =>
        ifB (p1 == x4)
          (R (.int .i64 s1.1) w1)
          (n2 ((IntKind.i64.wrap (s1.1 + (1 : Int))), ()) w1))
        (R (.int .i64 (-1 : Int)) w1))
    ((0 : Int), ()) w
theorem slices_Index_suint8_uint8_calls (p0 : Sl) (p1 : Int) (R : Value → World → Prop) (w : World) (h : L_slices_Index_suint8_uint8 p0 p1 R w) : Calls Try.prog 197 #[(.slice p0.a p0.l p0.c), (.int .u8 p1)] w (Ret R) :=
  lw_calls (fs := Try.fs) (an := a_slices_Index_suint8_uint8) (args := [(.slice p0.a p0.l p0.c), (.int .u8 p1)]) Try.fsOK Try.mixed Try.func197 (by kernel_rfl) (by kernel_rfl)
    (Eq.mpr (by kernel_rfl : lwFn Try.prog Try.fs Try.f197 a_slices_Index_suint8_uint8 [(.slice p0.a p0.l p0.c), (.int .u8 p1)] w R = L_slices_Index_suint8_uint8 p0 p1 R w) h)

end Go.Proofs
