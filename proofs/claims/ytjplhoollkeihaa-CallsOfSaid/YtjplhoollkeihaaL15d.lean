/-
  Printed by a program of the author: what each function comes to.
-/
import Derived.Test.YtjplhoollkeihaaProg
import Derived.Test.YtjplhoollkeihaaGkR
import Derived.Test.YtjplhoollkeihaaLb
namespace Go.Proofs
open Go.Gk
set_option linter.unusedVariables false
set_option maxRecDepth 100000

/-- slices.Compact[[]int,int] -/
def a_slices_Compact_sint_int : Ann := (.seq none .nil (.seq none (.seq none .nil (.cond (.seq none .nil .nil) .nil)) (.seq none (.seq none .nil (.one (.loop ⟨[0], [(3, (.b (.int .i64)))]⟩ (.seq none (.seq none .nil (.cond .nil .nil)) (.seq none (.one (.seq none .nil (.cond (.seq none .nil (.seq none (.seq none .nil (.one (.loop ⟨[0, 4], [(3, (.b (.int .i64))), (5, (.b (.int .i64)))]⟩ (.seq none (.seq none .nil (.cond .nil .nil)) (.seq (some ⟨[0, 4, 5], [(3, (.b (.int .i64)))]⟩) (.one (.seq none .nil (.cond (.seq none .nil .nil) .nil))) .nil))))) (.seq none .nil (.seq none .nil .nil)))) .nil))) .nil))))) (.seq none .nil .nil))))
def L_slices_Compact_sint_int (p0 : Sl) (R : Value → World → Prop) (w : World) : Prop :=
  ifB (decide ((p0.l : Int) < (2 : Int)))
    (R (.slice p0.a p0.l p0.c) w)
    (LoopW (S := Int × Unit) (fun s1 w1 n2 =>
        ifB (decide (s1.1 < (p0.l : Int)))
          ((0 ≤ s1.1 ∧ s1.1 < (p0.l : Int)) ∧
          derefP p0.a fun a3 =>
          ldI w1.drew (a3.add (Int.toNat s1.1)) .i64 fun x4 =>
          (0 ≤ (IntKind.i64.wrap (s1.1 - (1 : Int))) ∧ (IntKind.i64.wrap (s1.1 - (1 : Int))) < (p0.l : Int)) ∧
          derefP p0.a fun a5 =>
          ldI w1.drew (a5.add (Int.toNat (IntKind.i64.wrap (s1.1 - (1 : Int))))) .i64 fun x6 =>
          ifB (x4 == x6)
            ((0 ≤ s1.1 ∧ s1.1 ≤ (p0.l : Int) ∧ (p0.l : Int) ≤ (p0.c : Int)) ∧
            LoopW (S := Int × Int × Unit) (fun s7 w2 n8 =>
                ifB (decide (s7.2.1 < (((p0.l - (Int.toNat s1.1)) : Nat) : Int)))
                  (JoinW (S := Int × Unit) (fun m9 =>
                      (0 ≤ s7.2.1 ∧ s7.2.1 < (((p0.l - (Int.toNat s1.1)) : Nat) : Int)) ∧
                      derefP (if p0.c = (Int.toNat s1.1) then p0.a else Option.map (fun a => a.add (Int.toNat s1.1)) p0.a) fun a11 =>
                      ldI w2.drew (a11.add (Int.toNat s7.2.1)) .i64 fun x12 =>
                      (0 ≤ (IntKind.i64.wrap (s7.2.1 - (1 : Int))) ∧ (IntKind.i64.wrap (s7.2.1 - (1 : Int))) < (((p0.l - (Int.toNat s1.1)) : Nat) : Int)) ∧
                      derefP (if p0.c = (Int.toNat s1.1) then p0.a else Option.map (fun a => a.add (Int.toNat s1.1)) p0.a) fun a13 =>
                      ldI w2.drew (a13.add (Int.toNat (IntKind.i64.wrap (s7.2.1 - (1 : Int))))) .i64 fun x14 =>
                      ifB (x12 != x14)
                        ((0 ≤ s7.2.1 ∧ s7.2.1 < (((p0.l - (Int.toNat s1.1)) : Nat) : Int)) ∧
                        derefP (if p0.c = (Int.toNat s1.1) then p0.a else Option.map (fun a => a.add (Int.toNat s1.1)) p0.a) fun a15 =>
                        ldI w2.drew (a15.add (Int.toNat s7.2.1)) .i64 fun x16 =>
                        (0 ≤ s7.1 ∧ s7.1 < (p0.l : Int)) ∧
                        derefP p0.a fun a17 =>
                        Wr w2.drew (a17.add (Int.toNat s7.1)) ∧
                        Nw (w2.drew.setCell (a17.add (Int.toNat s7.1)) (.int .i64 x16)) fun w3 =>
                        m9 ((IntKind.i64.wrap (s7.1 + (1 : Int))), ()) w3)
                        (m9 (s7.1, ()) w2.drew))
                    (fun s10 w4 =>
                      n8 (s10.1, (IntKind.i64.wrap (s7.2.1 + (1 : Int))), ()) w4))
                  ((0 ≤ s7.1 ∧ s7.1 ≤ (p0.l : Int) ∧ (p0.l : Int) ≤ (p0.c : Int)) ∧
                  clearS Try.prog #[32] (.slice (if p0.c = (Int.toNat s7.1) then p0.a else Option.map (fun a => a.add (Int.toNat s7.1)) p0.a) (p0.l - (Int.toNat s7.1)) (p0.c - (Int.toNat s7.1))) w2 fun w5 =>
                  (0 ≤ (0 : Int) ∧ (0 : Int) ≤ s7.1 ∧ s7.1 ≤ (p0.c : Int)) ∧
                  R (.slice (if p0.c = 0 then p0.a else Option.map (fun a => a.add 0) p0.a) ((Int.toNat s7.1) - 0) (p0.c - 0)) w5))
              (s1.1, (1 : Int), ()) w1.drew)
            (n2 ((IntKind.i64.wrap (s1.1 + (1 : Int))), ()) w1.drew))
          (R (.slice p0.a p0.l p0.c) w1))
      ((1 : Int), ()) w)
theorem slices_Compact_sint_int_calls (p0 : Sl) (R : Value → World → Prop) (w : World) (h : L_slices_Compact_sint_int p0 R w) : Calls Try.prog 133 #[(.slice p0.a p0.l p0.c)] w (Ret R) :=
  lw_calls (fs := Try.fs) (an := a_slices_Compact_sint_int) (args := [(.slice p0.a p0.l p0.c)]) Try.fsOK Try.mixed Try.func133 (by kernel_rfl) (by kernel_rfl)
    (Eq.mpr (by kernel_rfl : lwFn Try.prog Try.fs Try.f133 a_slices_Compact_sint_int [(.slice p0.a p0.l p0.c)] w R = L_slices_Compact_sint_int p0 R w) h)

end Go.Proofs
