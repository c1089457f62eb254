/-
  Printed by a program of the author: what each function comes to.
-/
import Derived.Test.YtjplhoollkeihaaProg
import Derived.Test.YtjplhoollkeihaaGkR
import Derived.Test.YtjplhoollkeihaaLb
namespace Go.Proofs
open Go.Gk
set_option linter.unusedVariables false
set_option maxRecDepth 100000

/-- intaglio.intagliolaw15.DomBacks -/
def a_intagliolaw15_DomBacks : Ann := (.seq none .nil (.seq none (.seq none .nil (.cond (.seq none .nil .nil) .nil)) (.seq none .nil (.seq none .nil (.seq none .nil (.seq (some ⟨[5, 6], []⟩) (.seq none .nil (.cond (.seq none .nil .nil) .nil)) (.seq none (.seq none .nil (.one (.loop ⟨[5, 6], [(7, (.b (.int .i64)))]⟩ (.seq none (.seq none .nil (.cond .nil .nil)) (.seq none (.one (.seq none .nil (.cond (.seq none .nil .nil) .nil))) .nil))))) (.seq none .nil .nil))))))))
def L_intagliolaw15_DomBacks (p0 : Sl) (R : Value → World → Prop) (w : World) : Prop :=
  callR Try.prog 42 #[(.slice p0.a p0.l p0.c)] w fun v1 w1 =>
  ∃ x2 : Bool, v1 = (.bool x2) ∧
  ifB (!x2)
    (R (.bool true) w1)
    (callR Try.prog 43 #[(.slice p0.a p0.l p0.c)] w1 fun v3 w2 =>
    ∃ x4 : Option Addr, ∃ x5 : Bool, v3 = (.tuple #[(.pointer x4), (.bool x5)]) ∧
    callR Try.prog 44 #[(.slice p0.a p0.l p0.c)] w2 fun v6 w3 =>
    ∃ x7 : Sl, v6 = (.slice x7.a x7.l x7.c) ∧
    callR Try.prog 85 #[(.slice p0.a p0.l p0.c), (.slice x7.a x7.l x7.c)] w3 fun v8 w4 =>
    ∃ x9 : Sl, v8 = (.slice x9.a x9.l x9.c) ∧
    callR Try.prog 86 #[(.pointer x4)] w4 fun v10 w5 =>
    ∃ x11 : Sl, v10 = (.slice x11.a x11.l x11.c) ∧
    JoinW (S := Unit) (fun m12 =>
        ifB (!x5)
          (R (.bool false) w5)
          (ifB ((x11.l : Int) != (x9.l : Int))
            (R (.bool false) w5)
            (m12 (()) w5)))
      (fun s13 w6 =>
        LoopW (S := Int × Unit) (fun s14 w7 n15 =>
            ifB (decide (s14.1 < (x9.l : Int)))
              ((0 ≤ s14.1 ∧ s14.1 < (x11.l : Int)) ∧
              derefP x11.a fun a16 =>
              ldI w7.drew ((a16.add ((Int.toNat s14.1) * 2)).add 0) .i64 fun x17 =>
              ldI w7.drew ((a16.add ((Int.toNat s14.1) * 2)).add 1) .i64 fun x18 =>
              (0 ≤ s14.1 ∧ s14.1 < (x9.l : Int)) ∧
              derefP x9.a fun a19 =>
              ldI w7.drew ((a19.add ((Int.toNat s14.1) * 2)).add 0) .i64 fun x20 =>
              ldI w7.drew ((a19.add ((Int.toNat s14.1) * 2)).add 1) .i64 fun x21 =>
              ifB (!(x17 == x20 && x18 == x21))
                (R (.bool false) w7.drew)
                (n15 ((IntKind.i64.wrap (s14.1 + (1 : Int))), ()) w7.drew))
              (R (.bool true) w7))
          ((0 : Int), ()) w6))
theorem intagliolaw15_DomBacks_calls (p0 : Sl) (R : Value → World → Prop) (w : World) (h : L_intagliolaw15_DomBacks p0 R w) : Calls Try.prog 21 #[(.slice p0.a p0.l p0.c)] w (Ret R) :=
  lw_calls (fs := Try.fs) (an := a_intagliolaw15_DomBacks) (args := [(.slice p0.a p0.l p0.c)]) Try.fsOK Try.mixed Try.func21 (by kernel_rfl) (by kernel_rfl)
    (Eq.mpr (by kernel_rfl : lwFn Try.prog Try.fs Try.f21 a_intagliolaw15_DomBacks [(.slice p0.a p0.l p0.c)] w R = L_intagliolaw15_DomBacks p0 R w) h)

end Go.Proofs
