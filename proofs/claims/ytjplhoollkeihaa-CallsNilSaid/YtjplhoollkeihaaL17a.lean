/-
  Printed by a program of the author: what each function comes to.
-/
import Derived.Test.YtjplhoollkeihaaProg
import Derived.Test.YtjplhoollkeihaaGkS
import Derived.Test.YtjplhoollkeihaaLb
namespace Go.Proofs
open Go.Gk
set_option linter.unusedVariables false
set_option maxRecDepth 100000

/-- intaglio.intagliolaw17.CallsNil -/
def a_intagliolaw17_CallsNil : Ann := (.seq none .nil (.seq none .nil (.seq none .nil .nil)))
def L_intagliolaw17_CallsNil (p0 : Int) (R : Value → World → Prop) (w : World) : Prop :=
  callR Try.prog 59 #[(.pointer none)] w fun v1 w1 =>
  ∃ x2 : Int, v1 = (.int .i64 x2) ∧
  ifB (x2 == (0 : Int))
    (callR Try.prog 60 #[(.pointer none), (.int .i64 p0)] w1 fun v3 w2 =>
    ∃ x4 : Sl, v3 = (.slice x4.a x4.l x4.c) ∧
    ifB ((x4.l : Int) == (0 : Int))
      (callR Try.prog 61 #[(.pointer none), (.int .i64 p0)] w2 fun v5 w3 =>
      ∃ x6 : Sl, v5 = (.slice x6.a x6.l x6.c) ∧
      ifB ((x6.l : Int) == (0 : Int))
        (callR Try.prog 62 #[(.pointer none)] w3 fun v7 w4 =>
        ∃ x8 : Sl, v7 = (.slice x8.a x8.l x8.c) ∧
        ifB ((x8.l : Int) == (0 : Int))
          (callR Try.prog 63 #[(.pointer none), (.int .i64 p0)] w4 fun v9 w5 =>
          ∃ x10 : Int, v9 = (.int .i64 x10) ∧
          ifB (x10 == (-1 : Int))
            (callR Try.prog 64 #[(.pointer none), (.int .i64 p0)] w5 fun v11 w6 =>
            ∃ x12 : Sl, v11 = (.slice x12.a x12.l x12.c) ∧
            R (.bool ((x12.l : Int) == (0 : Int))) w6)
            (R (.bool false) w5))
          (R (.bool false) w4))
        (R (.bool false) w3))
      (R (.bool false) w2))
    (R (.bool false) w1)
theorem intagliolaw17_CallsNil_calls (p0 : Int) (R : Value → World → Prop) (w : World) (h : L_intagliolaw17_CallsNil p0 R w) : Calls Try.prog 13 #[(.int .i64 p0)] w (Ret R) :=
  lw_calls (fs := Try.fs) (an := a_intagliolaw17_CallsNil) (args := [(.int .i64 p0)]) Try.fsOK Try.mixed Try.func13 (by kernel_rfl) (by kernel_rfl)
    (Eq.mpr (by kernel_rfl : lwFn Try.prog Try.fs Try.f13 a_intagliolaw17_CallsNil [(.int .i64 p0)] w R = L_intagliolaw17_CallsNil p0 R w) h)

/-- (*intaglio.calls.Calls).Len -/
def a_calls_Calls_Len : Ann := (.seq none .nil (.seq none (.seq none .nil (.cond (.seq none .nil .nil) .nil)) (.seq none .nil .nil)))
def L_calls_Calls_Len (p0 : Option Addr) (R : Value → World → Prop) (w : World) : Prop :=
  ifB (Option.isNone p0)
    (R (.int .i64 (0 : Int)) w)
    (derefP p0 fun a1 =>
    ldS w a1 fun x2 =>
    R (.int .i64 (x2.l : Int)) w)
theorem calls_Calls_Len_calls (p0 : Option Addr) (R : Value → World → Prop) (w : World) (h : L_calls_Calls_Len p0 R w) : Calls Try.prog 59 #[(.pointer p0)] w (Ret R) :=
  lw_calls (fs := Try.fs) (an := a_calls_Calls_Len) (args := [(.pointer p0)]) Try.fsOK Try.mixed Try.func59 (by kernel_rfl) (by kernel_rfl)
    (Eq.mpr (by kernel_rfl : lwFn Try.prog Try.fs Try.f59 a_calls_Calls_Len [(.pointer p0)] w R = L_calls_Calls_Len p0 R w) h)

/-- (*intaglio.calls.Calls).Calls -/
def a_calls_Calls_Calls : Ann := (.seq none .nil (.seq (some ⟨[0, 1], []⟩) (.seq none .nil (.cond (.seq none .nil .nil) .nil)) (.seq none .nil .nil)))
def L_calls_Calls_Calls (p0 : Option Addr) (p1 : Int) (R : Value → World → Prop) (w : World) : Prop :=
  JoinW (S := Unit) (fun m1 =>
      ifB (decide (p1 < (0 : Int)))
        (R (.slice none 0 0) w)
        (callR Try.prog 59 #[(.pointer p0)] w fun v3 w1 =>
        ∃ x4 : Int, v3 = (.int .i64 x4) ∧
        ifB (decide (p1 ≥ x4))
          (R (.slice none 0 0) w1)
          (m1 (()) w1)))
    (fun s2 w2 =>
      derefP p0 fun a5 =>
      ldS w2 a5 fun x6 =>
      (0 ≤ p1 ∧ p1 < (x6.l : Int)) ∧
      derefP x6.a fun a7 =>
      ldS w2 (a7.add (Int.toNat p1)) fun x8 =>
      callR Try.prog 104 #[(.slice x8.a x8.l x8.c)] w2 fun v9 w3 =>
      ∃ x10 : Sl, v9 = (.slice x10.a x10.l x10.c) ∧
      R (.slice x10.a x10.l x10.c) w3)
theorem calls_Calls_Calls_calls (p0 : Option Addr) (p1 : Int) (R : Value → World → Prop) (w : World) (h : L_calls_Calls_Calls p0 p1 R w) : Calls Try.prog 60 #[(.pointer p0), (.int .i64 p1)] w (Ret R) :=
  lw_calls (fs := Try.fs) (an := a_calls_Calls_Calls) (args := [(.pointer p0), (.int .i64 p1)]) Try.fsOK Try.mixed Try.func60 (by kernel_rfl) (by kernel_rfl)
    (Eq.mpr (by kernel_rfl : lwFn Try.prog Try.fs Try.f60 a_calls_Calls_Calls [(.pointer p0), (.int .i64 p1)] w R = L_calls_Calls_Calls p0 p1 R w) h)

/-- (*intaglio.calls.Calls).Called -/
def a_calls_Calls_Called : Ann := (.seq none .nil (.seq none .nil (.seq none (.seq none .nil (.one (.loop ⟨[0, 1, 8], [(5, (.b .slice)), (9, (.b (.int .i64)))]⟩ (.seq none .nil (.seq none (.cond .nil .nil) (.seq (some ⟨[0, 1, 8, 9], [(5, (.b .slice))]⟩) (.one (.seq none .nil (.seq none .nil (.cond .nil .nil)))) .nil)))))) (.seq none .nil .nil))))
def L_calls_Calls_Called (p0 : Option Addr) (p1 : Int) (R : Value → World → Prop) (w : World) : Prop :=
  callR Try.prog 59 #[(.pointer p0)] w fun v1 w1 =>
  ∃ x2 : Int, v1 = (.int .i64 x2) ∧
  LoopW (S := Sl × Int × Unit) (fun s3 w2 n4 =>
      ifB (decide (s3.2.1 < x2))
        (JoinW (S := Sl × Unit) (fun m5 =>
            derefP p0 fun a7 =>
            ldS w2 a7 fun x8 =>
            (0 ≤ s3.2.1 ∧ s3.2.1 < (x8.l : Int)) ∧
            derefP x8.a fun a9 =>
            ldS w2 (a9.add (Int.toNat s3.2.1)) fun x10 =>
            callR Try.prog 113 #[(.slice x10.a x10.l x10.c), (.int .i64 p1)] w2 fun v11 w3 =>
            ∃ x12 : Bool, v11 = (.bool x12) ∧
            ifB x12
              (Nw (w3.alloc (.cells #[(.int .i64 s3.2.1)] 3)) fun w4 =>
              appendS Try.prog 32 (.slice s3.1.a s3.1.l s3.1.c) (.slice (some (blk w3.heap.size)) 1 1) w4 fun r13 w5 =>
              m5 (r13, ()) w5)
              (m5 (s3.1, ()) w3))
          (fun s6 w6 =>
            n4 (s6.1, (IntKind.i64.wrap (s3.2.1 + (1 : Int))), ()) w6))
        (R (.slice s3.1.a s3.1.l s3.1.c) w2))
    ((Sl.mk none 0 0), (0 : Int), ()) w1
theorem calls_Calls_Called_calls (p0 : Option Addr) (p1 : Int) (R : Value → World → Prop) (w : World) (h : L_calls_Calls_Called p0 p1 R w) : Calls Try.prog 61 #[(.pointer p0), (.int .i64 p1)] w (Ret R) :=
  lw_calls (fs := Try.fs) (an := a_calls_Calls_Called) (args := [(.pointer p0), (.int .i64 p1)]) Try.fsOK Try.mixed Try.func61 (by kernel_rfl) (by kernel_rfl)
    (Eq.mpr (by kernel_rfl : lwFn Try.prog Try.fs Try.f61 a_calls_Calls_Called [(.pointer p0), (.int .i64 p1)] w R = L_calls_Calls_Called p0 p1 R w) h)

/-- (*intaglio.calls.Calls).Order -/
def a_calls_Calls_Order : Ann := (.seq none .nil (.seq none .nil (.seq none (.seq none .nil (.one (.loop ⟨[1, 6], [(3, (.b .slice)), (7, (.b (.int .i64)))]⟩ (.seq none .nil (.seq none (.cond .nil .nil) (.seq none (.one (.seq none .nil .nil)) .nil)))))) (.seq none .nil (.seq none .nil .nil)))))
def L_calls_Calls_Order (p0 : Option Addr) (R : Value → World → Prop) (w : World) : Prop :=
  Nw (w.alloc (.cells #[(.pointer p0)] 65)) fun w1 =>
  ldP w1 (blk w.heap.size) fun x1 =>
  callR Try.prog 59 #[(.pointer x1)] w1 fun v2 w2 =>
  ∃ x3 : Int, v2 = (.int .i64 x3) ∧
  LoopW (S := Sl × Int × Unit) (fun s4 w3 n5 =>
      ifB (decide (s4.2.1 < x3))
        (Nw (w3.alloc (.cells #[(.int .i64 s4.2.1)] 3)) fun w4 =>
        appendS Try.prog 32 (.slice s4.1.a s4.1.l s4.1.c) (.slice (some (blk w3.heap.size)) 1 1) w4 fun r6 w5 =>
        n5 (r6, (IntKind.i64.wrap (s4.2.1 + (1 : Int))), ()) w5)
        (callR Try.prog 114 #[(.slice s4.1.a s4.1.l s4.1.c), (.func (.func 115) #[] #[(.pointer (some (blk w.heap.size)))])] w3 fun v7 w6 =>
        v7 = (.tuple #[]) ∧
        R (.slice s4.1.a s4.1.l s4.1.c) w6))
    ((Sl.mk none 0 0), (0 : Int), ()) w2
theorem calls_Calls_Order_calls (p0 : Option Addr) (R : Value → World → Prop) (w : World) (h : L_calls_Calls_Order p0 R w) : Calls Try.prog 62 #[(.pointer p0)] w (Ret R) :=
  lw_calls (fs := Try.fs) (an := a_calls_Calls_Order) (args := [(.pointer p0)]) Try.fsOK Try.mixed Try.func62 (by kernel_rfl) (by kernel_rfl)
    (Eq.mpr (by kernel_rfl : lwFn Try.prog Try.fs Try.f62 a_calls_Calls_Order [(.pointer p0)] w R = L_calls_Calls_Order p0 R w) h)

/-- (*intaglio.calls.Calls).Deep -/
def a_calls_Calls_Deep : Ann := (.seq none .nil (.seq (some ⟨[0, 1], []⟩) (.seq none .nil (.cond (.seq none .nil .nil) .nil)) (.seq none .nil .nil)))
def L_calls_Calls_Deep (p0 : Option Addr) (p1 : Int) (R : Value → World → Prop) (w : World) : Prop :=
  JoinW (S := Unit) (fun m1 =>
      ifB (decide (p1 < (0 : Int)))
        (R (.int .i64 (-1 : Int)) w)
        (callR Try.prog 59 #[(.pointer p0)] w fun v3 w1 =>
        ∃ x4 : Int, v3 = (.int .i64 x4) ∧
        ifB (decide (p1 ≥ x4))
          (R (.int .i64 (-1 : Int)) w1)
          (m1 (()) w1)))
    (fun s2 w2 =>
      derefP p0 fun a5 =>
      ldS w2 (a5.add 2) fun x6 =>
      (0 ≤ p1 ∧ p1 < (x6.l : Int)) ∧
      derefP x6.a fun a7 =>
      ldI w2 (a7.add (Int.toNat p1)) .i64 fun x8 =>
      R (.int .i64 x8) w2)
theorem calls_Calls_Deep_calls (p0 : Option Addr) (p1 : Int) (R : Value → World → Prop) (w : World) (h : L_calls_Calls_Deep p0 p1 R w) : Calls Try.prog 63 #[(.pointer p0), (.int .i64 p1)] w (Ret R) :=
  lw_calls (fs := Try.fs) (an := a_calls_Calls_Deep) (args := [(.pointer p0), (.int .i64 p1)]) Try.fsOK Try.mixed Try.func63 (by kernel_rfl) (by kernel_rfl)
    (Eq.mpr (by kernel_rfl : lwFn Try.prog Try.fs Try.f63 a_calls_Calls_Deep [(.pointer p0), (.int .i64 p1)] w R = L_calls_Calls_Deep p0 p1 R w) h)

/-- (*intaglio.calls.Calls).Reached -/
def a_calls_Calls_Reached : Ann := (.seq none .nil (.seq (some ⟨[0, 1], []⟩) (.seq none .nil (.cond (.seq none .nil .nil) .nil)) (.seq none .nil (.seq none (.seq none .nil (.one (.loop ⟨[22, 23], [(5, (.b .slice)), (24, (.b (.int .i64)))]⟩ (.seq none .nil (.seq none (.cond .nil .nil) (.seq (some ⟨[22, 23, 24], [(5, (.b .slice))]⟩) (.one (.seq none .nil (.seq none .nil (.cond .nil .nil)))) .nil)))))) (.seq none .nil .nil)))))
def L_calls_Calls_Reached (p0 : Option Addr) (p1 : Int) (R : Value → World → Prop) (w : World) : Prop :=
  JoinW (S := Unit) (fun m1 =>
      ifB (decide (p1 < (0 : Int)))
        (R (.slice none 0 0) w)
        (callR Try.prog 59 #[(.pointer p0)] w fun v3 w1 =>
        ∃ x4 : Int, v3 = (.int .i64 x4) ∧
        ifB (decide (p1 ≥ x4))
          (R (.slice none 0 0) w1)
          (m1 (()) w1)))
    (fun s2 w2 =>
      derefP p0 fun a5 =>
      ldS w2 (a5.add 1) fun x6 =>
      (0 ≤ p1 ∧ p1 < (x6.l : Int)) ∧
      derefP x6.a fun a7 =>
      ldS w2 (a7.add (Int.toNat p1)) fun x8 =>
      LoopW (S := Sl × Int × Unit) (fun s9 w3 n10 =>
          ifB (decide (s9.2.1 < (x8.l : Int)))
            (JoinW (S := Sl × Unit) (fun m11 =>
                (0 ≤ s9.2.1 ∧ s9.2.1 < (x8.l : Int)) ∧
                derefP x8.a fun a13 =>
                ldB w3 (a13.add (Int.toNat s9.2.1)) fun x14 =>
                ifB x14
                  (Nw (w3.alloc (.cells #[(.int .i64 s9.2.1)] 3)) fun w4 =>
                  appendS Try.prog 32 (.slice s9.1.a s9.1.l s9.1.c) (.slice (some (blk w3.heap.size)) 1 1) w4 fun r15 w5 =>
                  m11 (r15, ()) w5)
                  (m11 (s9.1, ()) w3))
              (fun s12 w6 =>
                n10 (s12.1, (IntKind.i64.wrap (s9.2.1 + (1 : Int))), ()) w6))
            (R (.slice s9.1.a s9.1.l s9.1.c) w3))
        ((Sl.mk none 0 0), (0 : Int), ()) w2)
theorem calls_Calls_Reached_calls (p0 : Option Addr) (p1 : Int) (R : Value → World → Prop) (w : World) (h : L_calls_Calls_Reached p0 p1 R w) : Calls Try.prog 64 #[(.pointer p0), (.int .i64 p1)] w (Ret R) :=
  lw_calls (fs := Try.fs) (an := a_calls_Calls_Reached) (args := [(.pointer p0), (.int .i64 p1)]) Try.fsOK Try.mixed Try.func64 (by kernel_rfl) (by kernel_rfl)
    (Eq.mpr (by kernel_rfl : lwFn Try.prog Try.fs Try.f64 a_calls_Calls_Reached [(.pointer p0), (.int .i64 p1)] w R = L_calls_Calls_Reached p0 p1 R w) h)

/-- slices.Contains[[]int,int] -/
def a_slices_Contains_sint_int : Ann := (.seq none .nil (.seq none .nil .nil))
def L_slices_Contains_sint_int (p0 : Sl) (p1 : Int) (R : Value → World → Prop) (w : World) : Prop :=
  callR Try.prog 151 #[(.slice p0.a p0.l p0.c), (.int .i64 p1)] w fun v1 w1 =>
  ∃ x2 : Int, v1 = (.int .i64 x2) ∧
  R (.bool (decide (x2 ≥ (0 : Int)))) w1
theorem slices_Contains_sint_int_calls (p0 : Sl) (p1 : Int) (R : Value → World → Prop) (w : World) (h : L_slices_Contains_sint_int p0 p1 R w) : Calls Try.prog 113 #[(.slice p0.a p0.l p0.c), (.int .i64 p1)] w (Ret R) :=
  lw_calls (fs := Try.fs) (an := a_slices_Contains_sint_int) (args := [(.slice p0.a p0.l p0.c), (.int .i64 p1)]) Try.fsOK Try.mixed Try.func113 (by kernel_rfl) (by kernel_rfl)
    (Eq.mpr (by kernel_rfl : lwFn Try.prog Try.fs Try.f113 a_slices_Contains_sint_int [(.slice p0.a p0.l p0.c), (.int .i64 p1)] w R = L_slices_Contains_sint_int p0 p1 R w) h)

/-- slices.SortStableFunc[[]int,int] -/
def a_slices_SortStableFunc_sint_int : Ann := .nil
def L_slices_SortStableFunc_sint_int (p0 : Sl) (p1 : Value) (R : Value → World → Prop) (w : World) : Prop :=
  callR Try.prog 152 #[(.slice p0.a p0.l p0.c), (.int .i64 (p0.l : Int)), p1] w fun v1 w1 =>
  v1 = (.tuple #[]) ∧
  R (.tuple #[]) w1
theorem slices_SortStableFunc_sint_int_calls (p0 : Sl) (p1 : Value) (R : Value → World → Prop) (w : World) (h : L_slices_SortStableFunc_sint_int p0 p1 R w) : Calls Try.prog 114 #[(.slice p0.a p0.l p0.c), p1] w (Ret R) :=
  lw_calls (fs := Try.fs) (an := a_slices_SortStableFunc_sint_int) (args := [(.slice p0.a p0.l p0.c), p1]) Try.fsOK Try.mixed Try.func114 (by kernel_rfl) (by kernel_rfl)
    (Eq.mpr (by kernel_rfl : lwFn Try.prog Try.fs Try.f114 a_slices_SortStableFunc_sint_int [(.slice p0.a p0.l p0.c), p1] w R = L_slices_SortStableFunc_sint_int p0 p1 R w) h)

/-- (*intaglio.calls.Calls).Order 1 -/
def a_calls_Calls_Order_1 : Ann := (.seq none .nil (.seq none .nil .nil))
def L_calls_Calls_Order_1 (p0 : Int) (p1 : Int) (c0 : Addr) (R : Value → World → Prop) (w : World) : Prop :=
  ldP w.drew c0 fun x1 =>
  derefP x1 fun a2 =>
  ldS w.drew (a2.add 2) fun x3 =>
  (0 ≤ p0 ∧ p0 < (x3.l : Int)) ∧
  derefP x3.a fun a4 =>
  ldI w.drew (a4.add (Int.toNat p0)) .i64 fun x5 =>
  ldP w.drew c0 fun x6 =>
  derefP x6 fun a7 =>
  ldS w.drew (a7.add 2) fun x8 =>
  (0 ≤ p1 ∧ p1 < (x8.l : Int)) ∧
  derefP x8.a fun a9 =>
  ldI w.drew (a9.add (Int.toNat p1)) .i64 fun x10 =>
  callR Try.prog 116 #[(.int .i64 x5), (.int .i64 x10)] w.drew fun v11 w1 =>
  ∃ x12 : Int, v11 = (.int .i64 x12) ∧
  R (.int .i64 x12) w1
theorem calls_Calls_Order_1_calls (p0 : Int) (p1 : Int) (c0 : Addr) (R : Value → World → Prop) (w : World) (h : L_calls_Calls_Order_1 p0 p1 c0 R w) : Calls Try.prog 115 #[(.int .i64 p0), (.int .i64 p1), (.pointer (some c0))] w (Ret R) :=
  lw_calls (fs := Try.fs) (an := a_calls_Calls_Order_1) (args := [(.int .i64 p0), (.int .i64 p1), (.pointer (some c0))]) Try.fsOK Try.mixed Try.func115 (by kernel_rfl) (by kernel_rfl)
    (Eq.mpr (by kernel_rfl : lwFn Try.prog Try.fs Try.f115 a_calls_Calls_Order_1 [(.int .i64 p0), (.int .i64 p1), (.pointer (some c0))] w R = L_calls_Calls_Order_1 p0 p1 c0 R w) h)

/-- slices.stableCmpFunc[int] -/
def a_slices_stableCmpFunc_int : Ann := (.seq none .nil (.seq none .nil (.seq none (.one (.loop ⟨[0, 1, 2, 6], [(7, (.b (.int .i64))), (8, (.b (.int .i64)))]⟩ (.seq none (.seq none .nil (.cond .nil .nil)) (.one (.seq none .nil (.seq none .nil .nil)))))) (.seq none .nil (.one (.loop ⟨[0, 1, 2], [(6, (.b (.int .i64)))]⟩ (.seq none (.seq none .nil (.cond .nil .nil)) (.one (.seq none .nil (.seq none (.one (.loop ⟨[0, 1, 2, 6], [(7, (.b (.int .i64))), (8, (.b (.int .i64)))]⟩ (.seq none (.seq none .nil (.cond .nil .nil)) (.one (.seq none .nil (.seq none .nil .nil)))))) (.seq (some ⟨[0, 1, 2, 6], []⟩) (.seq none .nil (.seq none .nil (.cond .nil .nil))) .nil)))))))))))
def L_slices_stableCmpFunc_int (p0 : Sl) (p1 : Int) (p2 : Value) (R : Value → World → Prop) (w : World) : Prop :=
  LoopW (S := Int × Int × Unit) (fun s1 w1 n2 =>
      ifB (decide (s1.2.1 ≤ p1))
        (callR Try.prog 181 #[(.slice p0.a p0.l p0.c), (.int .i64 s1.1), (.int .i64 s1.2.1), p2] w1 fun v3 w2 =>
        v3 = (.tuple #[]) ∧
        n2 (s1.2.1, (IntKind.i64.wrap (s1.2.1 + (20 : Int))), ()) w2)
        (callR Try.prog 181 #[(.slice p0.a p0.l p0.c), (.int .i64 s1.1), (.int .i64 p1), p2] w1 fun v4 w3 =>
        v4 = (.tuple #[]) ∧
        LoopW (S := Int × Unit) (fun s5 w4 n6 =>
            ifB (decide (s5.1 < p1))
              (LoopW (S := Int × Int × Unit) (fun s7 w5 n8 =>
                  ifB (decide (s7.2.1 ≤ p1))
                    (callR Try.prog 182 #[(.slice p0.a p0.l p0.c), (.int .i64 s7.1), (.int .i64 (IntKind.i64.wrap (s7.1 + s5.1))), (.int .i64 s7.2.1), p2] w5 fun v9 w6 =>
                    v9 = (.tuple #[]) ∧
                    n8 (s7.2.1, (IntKind.i64.wrap (s7.2.1 + (IntKind.i64.wrap ((2 : Int) * s5.1)))), ()) w6)
                    (JoinW (S := Unit) (fun m10 =>
                        ifB (decide ((IntKind.i64.wrap (s7.1 + s5.1)) < p1))
                          (callR Try.prog 182 #[(.slice p0.a p0.l p0.c), (.int .i64 s7.1), (.int .i64 (IntKind.i64.wrap (s7.1 + s5.1))), (.int .i64 p1), p2] w5 fun v12 w7 =>
                          v12 = (.tuple #[]) ∧
                          m10 (()) w7)
                          (m10 (()) w5))
                      (fun s11 w8 =>
                        n6 ((IntKind.i64.wrap (s5.1 * (2 : Int))), ()) w8)))
                ((0 : Int), (IntKind.i64.wrap ((2 : Int) * s5.1)), ()) w4)
              (R (.tuple #[]) w4))
          ((20 : Int), ()) w3))
    ((0 : Int), (20 : Int), ()) w
theorem slices_stableCmpFunc_int_calls (p0 : Sl) (p1 : Int) (p2 : Value) (R : Value → World → Prop) (w : World) (h : L_slices_stableCmpFunc_int p0 p1 p2 R w) : Calls Try.prog 152 #[(.slice p0.a p0.l p0.c), (.int .i64 p1), p2] w (Ret R) :=
  lw_calls (fs := Try.fs) (an := a_slices_stableCmpFunc_int) (args := [(.slice p0.a p0.l p0.c), (.int .i64 p1), p2]) Try.fsOK Try.mixed Try.func152 (by kernel_rfl) (by kernel_rfl)
    (Eq.mpr (by kernel_rfl : lwFn Try.prog Try.fs Try.f152 a_slices_stableCmpFunc_int [(.slice p0.a p0.l p0.c), (.int .i64 p1), p2] w R = L_slices_stableCmpFunc_int p0 p1 p2 R w) h)

/-- slices.insertionSortCmpFunc[int] -/
def a_slices_insertionSortCmpFunc_int : Ann := (.seq none .nil (.one (.loop ⟨[0, 1, 2, 3], [(8, (.b (.int .i64)))]⟩ (.seq none (.seq none .nil (.cond .nil .nil)) (.seq (some ⟨[0, 1, 2, 3, 8], []⟩) (.one (.seq none .nil (.one (.loop ⟨[0, 1, 2, 3, 8], [(9, (.b (.int .i64)))]⟩ (.seq (some ⟨[0, 1, 2, 3, 8, 9], []⟩) (.seq none .nil (.cond .nil .nil)) (.seq none (.one .nil) .nil)))))) .nil)))))
def L_slices_insertionSortCmpFunc_int (p0 : Sl) (p1 : Int) (p2 : Int) (p3 : Value) (R : Value → World → Prop) (w : World) : Prop :=
  LoopW (S := Int × Unit) (fun s1 w1 n2 =>
      ifB (decide (s1.1 < p2))
        (JoinW (S := Unit) (fun m3 =>
            LoopW (S := Int × Unit) (fun s5 w2 n6 =>
                JoinW (S := Unit) (fun m7 =>
                    ifB (decide (s5.1 > p1))
                      ((0 ≤ s5.1 ∧ s5.1 < (p0.l : Int)) ∧
                      derefP p0.a fun a9 =>
                      ldI w2.drew (a9.add (Int.toNat s5.1)) .i64 fun x10 =>
                      (0 ≤ (IntKind.i64.wrap (s5.1 - (1 : Int))) ∧ (IntKind.i64.wrap (s5.1 - (1 : Int))) < (p0.l : Int)) ∧
                      derefP p0.a fun a11 =>
                      ldI w2.drew (a11.add (Int.toNat (IntKind.i64.wrap (s5.1 - (1 : Int))))) .i64 fun x12 =>
                      callV Try.prog Try.fs p3 [(.int .i64 x10), (.int .i64 x12)] w2.drew fun v13 w3 =>
                      ∃ x14 : Int, v13 = (.int .i64 x14) ∧
                      ifB (decide (x14 < (0 : Int)))
                        (m7 (()) w3)
                        (m3 (()) w3))
                      (m3 (()) w2.drew))
                  (fun s8 w4 =>
                    (0 ≤ (IntKind.i64.wrap (s5.1 - (1 : Int))) ∧ (IntKind.i64.wrap (s5.1 - (1 : Int))) < (p0.l : Int)) ∧
                    derefP p0.a fun a15 =>
                    ldI w4.drew (a15.add (Int.toNat (IntKind.i64.wrap (s5.1 - (1 : Int))))) .i64 fun x16 =>
                    (0 ≤ s5.1 ∧ s5.1 < (p0.l : Int)) ∧
                    derefP p0.a fun a17 =>
                    ldI w4.drew (a17.add (Int.toNat s5.1)) .i64 fun x18 =>
                    (0 ≤ s5.1 ∧ s5.1 < (p0.l : Int)) ∧
                    derefP p0.a fun a19 =>
                    Wr w4.drew (a19.add (Int.toNat s5.1)) ∧
                    Nw (w4.drew.setCell (a19.add (Int.toNat s5.1)) (.int .i64 x16)) fun w5 =>
                    (0 ≤ (IntKind.i64.wrap (s5.1 - (1 : Int))) ∧ (IntKind.i64.wrap (s5.1 - (1 : Int))) < (p0.l : Int)) ∧
                    derefP p0.a fun a20 =>
                    Wr w5 (a20.add (Int.toNat (IntKind.i64.wrap (s5.1 - (1 : Int))))) ∧
                    Nw (w5.setCell (a20.add (Int.toNat (IntKind.i64.wrap (s5.1 - (1 : Int))))) (.int .i64 x18)) fun w6 =>
                    n6 ((IntKind.i64.wrap (s5.1 - (1 : Int))), ()) w6))
              (s1.1, ()) w1)
          (fun s4 w7 =>
            n2 ((IntKind.i64.wrap (s1.1 + (1 : Int))), ()) w7))
        (R (.tuple #[]) w1))
    ((IntKind.i64.wrap (p1 + (1 : Int))), ()) w
theorem slices_insertionSortCmpFunc_int_calls (p0 : Sl) (p1 : Int) (p2 : Int) (p3 : Value) (R : Value → World → Prop) (w : World) (h : L_slices_insertionSortCmpFunc_int p0 p1 p2 p3 R w) : Calls Try.prog 181 #[(.slice p0.a p0.l p0.c), (.int .i64 p1), (.int .i64 p2), p3] w (Ret R) :=
  lw_calls (fs := Try.fs) (an := a_slices_insertionSortCmpFunc_int) (args := [(.slice p0.a p0.l p0.c), (.int .i64 p1), (.int .i64 p2), p3]) Try.fsOK Try.mixed Try.func181 (by kernel_rfl) (by kernel_rfl)
    (Eq.mpr (by kernel_rfl : lwFn Try.prog Try.fs Try.f181 a_slices_insertionSortCmpFunc_int [(.slice p0.a p0.l p0.c), (.int .i64 p1), (.int .i64 p2), p3] w R = L_slices_insertionSortCmpFunc_int p0 p1 p2 p3 R w) h)

/-- slices.symMergeCmpFunc[int] -/
def a_slices_symMergeCmpFunc_int : Ann := (.seq none (.seq none .nil (.cond (.seq none .nil (.seq none .nil (.seq none (.one (.loop ⟨[0, 1, 4], [(10, (.b (.int .i64))), (11, (.b (.int .i64)))]⟩ (.seq none (.seq none .nil (.cond .nil .nil)) (.one (.seq none .nil (.seq none .nil (.cond .nil .nil))))))) (.seq none (.seq none .nil (.one (.loop ⟨[0, 10], [(13, (.b (.int .i64)))]⟩ (.seq none (.seq none .nil (.cond .nil .nil)) (.seq none (.one .nil) .nil))))) .nil)))) .nil)) (.seq none (.seq none .nil (.cond (.seq none .nil (.seq none .nil (.seq none (.one (.loop ⟨[0, 2, 4], [(14, (.b (.int .i64))), (15, (.b (.int .i64)))]⟩ (.seq none (.seq none .nil (.cond .nil .nil)) (.one (.seq none .nil (.seq none .nil (.cond .nil .nil))))))) (.seq none (.seq none .nil (.one (.loop ⟨[0, 14], [(17, (.b (.int .i64)))]⟩ (.seq none (.seq none .nil (.cond .nil .nil)) (.seq none (.one .nil) .nil))))) .nil)))) .nil)) (.seq none .nil (.seq none .nil (.seq none .nil (.seq (some ⟨[0, 1, 2, 3, 4, 18, 19], [(20, (.b (.int .i64))), (21, (.b (.int .i64)))]⟩) (.seq none .nil (.cond (.seq none .nil .nil) (.seq none .nil .nil))) (.seq none .nil (.seq none (.one (.loop ⟨[0, 1, 2, 3, 4, 18, 19, 22], [(20, (.b (.int .i64))), (21, (.b (.int .i64)))]⟩ (.seq none (.seq none .nil (.cond .nil .nil)) (.one (.seq none .nil (.seq none .nil (.cond .nil .nil))))))) (.seq none .nil (.seq (some ⟨[0, 1, 3, 4, 18, 20, 24], []⟩) (.seq none .nil (.cond .nil .nil)) (.seq (some ⟨[0, 3, 4, 18, 24], []⟩) (.seq none .nil (.cond .nil .nil)) (.seq none .nil (.cond .nil .nil)))))))))))))
def L_slices_symMergeCmpFunc_int (p0 : Sl) (p1 : Int) (p2 : Int) (p3 : Int) (p4 : Value) (R : Value → World → Prop) (w : World) : Prop :=
  ifB ((IntKind.i64.wrap (p2 - p1)) == (1 : Int))
    (LoopW (S := Int × Int × Unit) (fun s1 w1 n2 =>
        ifB (decide (s1.1 < s1.2.1))
          ((0 ≤ (IntKind.i64.wrap (Int.fdiv (IntKind.u64.wrap (IntKind.i64.wrap (s1.1 + s1.2.1))) (2 ^ (min 1 (IntKind.bits .u64))))) ∧ (IntKind.i64.wrap (Int.fdiv (IntKind.u64.wrap (IntKind.i64.wrap (s1.1 + s1.2.1))) (2 ^ (min 1 (IntKind.bits .u64))))) < (p0.l : Int)) ∧
          derefP p0.a fun a3 =>
          ldI w1.drew (a3.add (Int.toNat (IntKind.i64.wrap (Int.fdiv (IntKind.u64.wrap (IntKind.i64.wrap (s1.1 + s1.2.1))) (2 ^ (min 1 (IntKind.bits .u64))))))) .i64 fun x4 =>
          (0 ≤ p1 ∧ p1 < (p0.l : Int)) ∧
          derefP p0.a fun a5 =>
          ldI w1.drew (a5.add (Int.toNat p1)) .i64 fun x6 =>
          callV Try.prog Try.fs p4 [(.int .i64 x4), (.int .i64 x6)] w1.drew fun v7 w2 =>
          ∃ x8 : Int, v7 = (.int .i64 x8) ∧
          ifB (decide (x8 < (0 : Int)))
            (n2 ((IntKind.i64.wrap ((IntKind.i64.wrap (Int.fdiv (IntKind.u64.wrap (IntKind.i64.wrap (s1.1 + s1.2.1))) (2 ^ (min 1 (IntKind.bits .u64))))) + (1 : Int))), s1.2.1, ()) w2)
            (n2 (s1.1, (IntKind.i64.wrap (Int.fdiv (IntKind.u64.wrap (IntKind.i64.wrap (s1.1 + s1.2.1))) (2 ^ (min 1 (IntKind.bits .u64))))), ()) w2))
          (LoopW (S := Int × Unit) (fun s9 w3 n10 =>
              ifB (decide (s9.1 < (IntKind.i64.wrap (s1.1 - (1 : Int)))))
                ((0 ≤ (IntKind.i64.wrap (s9.1 + (1 : Int))) ∧ (IntKind.i64.wrap (s9.1 + (1 : Int))) < (p0.l : Int)) ∧
                derefP p0.a fun a11 =>
                ldI w3.drew (a11.add (Int.toNat (IntKind.i64.wrap (s9.1 + (1 : Int))))) .i64 fun x12 =>
                (0 ≤ s9.1 ∧ s9.1 < (p0.l : Int)) ∧
                derefP p0.a fun a13 =>
                ldI w3.drew (a13.add (Int.toNat s9.1)) .i64 fun x14 =>
                (0 ≤ s9.1 ∧ s9.1 < (p0.l : Int)) ∧
                derefP p0.a fun a15 =>
                Wr w3.drew (a15.add (Int.toNat s9.1)) ∧
                Nw (w3.drew.setCell (a15.add (Int.toNat s9.1)) (.int .i64 x12)) fun w4 =>
                (0 ≤ (IntKind.i64.wrap (s9.1 + (1 : Int))) ∧ (IntKind.i64.wrap (s9.1 + (1 : Int))) < (p0.l : Int)) ∧
                derefP p0.a fun a16 =>
                Wr w4 (a16.add (Int.toNat (IntKind.i64.wrap (s9.1 + (1 : Int))))) ∧
                Nw (w4.setCell (a16.add (Int.toNat (IntKind.i64.wrap (s9.1 + (1 : Int))))) (.int .i64 x14)) fun w5 =>
                n10 ((IntKind.i64.wrap (s9.1 + (1 : Int))), ()) w5)
                (R (.tuple #[]) w3))
            (p1, ()) w1))
      (p2, p3, ()) w)
    (ifB ((IntKind.i64.wrap (p3 - p2)) == (1 : Int))
      (LoopW (S := Int × Int × Unit) (fun s17 w6 n18 =>
          ifB (decide (s17.1 < s17.2.1))
            ((0 ≤ p2 ∧ p2 < (p0.l : Int)) ∧
            derefP p0.a fun a19 =>
            ldI w6.drew (a19.add (Int.toNat p2)) .i64 fun x20 =>
            (0 ≤ (IntKind.i64.wrap (Int.fdiv (IntKind.u64.wrap (IntKind.i64.wrap (s17.1 + s17.2.1))) (2 ^ (min 1 (IntKind.bits .u64))))) ∧ (IntKind.i64.wrap (Int.fdiv (IntKind.u64.wrap (IntKind.i64.wrap (s17.1 + s17.2.1))) (2 ^ (min 1 (IntKind.bits .u64))))) < (p0.l : Int)) ∧
            derefP p0.a fun a21 =>
            ldI w6.drew (a21.add (Int.toNat (IntKind.i64.wrap (Int.fdiv (IntKind.u64.wrap (IntKind.i64.wrap (s17.1 + s17.2.1))) (2 ^ (min 1 (IntKind.bits .u64))))))) .i64 fun x22 =>
            callV Try.prog Try.fs p4 [(.int .i64 x20), (.int .i64 x22)] w6.drew fun v23 w7 =>
            ∃ x24 : Int, v23 = (.int .i64 x24) ∧
            ifB (!(decide (x24 < (0 : Int))))
              (n18 ((IntKind.i64.wrap ((IntKind.i64.wrap (Int.fdiv (IntKind.u64.wrap (IntKind.i64.wrap (s17.1 + s17.2.1))) (2 ^ (min 1 (IntKind.bits .u64))))) + (1 : Int))), s17.2.1, ()) w7)
              (n18 (s17.1, (IntKind.i64.wrap (Int.fdiv (IntKind.u64.wrap (IntKind.i64.wrap (s17.1 + s17.2.1))) (2 ^ (min 1 (IntKind.bits .u64))))), ()) w7))
            (LoopW (S := Int × Unit) (fun s25 w8 n26 =>
                ifB (decide (s25.1 > s17.1))
                  ((0 ≤ (IntKind.i64.wrap (s25.1 - (1 : Int))) ∧ (IntKind.i64.wrap (s25.1 - (1 : Int))) < (p0.l : Int)) ∧
                  derefP p0.a fun a27 =>
                  ldI w8.drew (a27.add (Int.toNat (IntKind.i64.wrap (s25.1 - (1 : Int))))) .i64 fun x28 =>
                  (0 ≤ s25.1 ∧ s25.1 < (p0.l : Int)) ∧
                  derefP p0.a fun a29 =>
                  ldI w8.drew (a29.add (Int.toNat s25.1)) .i64 fun x30 =>
                  (0 ≤ s25.1 ∧ s25.1 < (p0.l : Int)) ∧
                  derefP p0.a fun a31 =>
                  Wr w8.drew (a31.add (Int.toNat s25.1)) ∧
                  Nw (w8.drew.setCell (a31.add (Int.toNat s25.1)) (.int .i64 x28)) fun w9 =>
                  (0 ≤ (IntKind.i64.wrap (s25.1 - (1 : Int))) ∧ (IntKind.i64.wrap (s25.1 - (1 : Int))) < (p0.l : Int)) ∧
                  derefP p0.a fun a32 =>
                  Wr w9 (a32.add (Int.toNat (IntKind.i64.wrap (s25.1 - (1 : Int))))) ∧
                  Nw (w9.setCell (a32.add (Int.toNat (IntKind.i64.wrap (s25.1 - (1 : Int))))) (.int .i64 x30)) fun w10 =>
                  n26 ((IntKind.i64.wrap (s25.1 - (1 : Int))), ()) w10)
                  (R (.tuple #[]) w8))
              (p2, ()) w6))
        (p1, p2, ()) w)
      (JoinW (S := Int × Int × Unit) (fun m33 =>
          ifB (decide (p2 > (IntKind.i64.wrap (Int.fdiv (IntKind.u64.wrap (IntKind.i64.wrap (p1 + p3))) (2 ^ (min 1 (IntKind.bits .u64)))))))
            (m33 ((IntKind.i64.wrap ((IntKind.i64.wrap ((IntKind.i64.wrap (Int.fdiv (IntKind.u64.wrap (IntKind.i64.wrap (p1 + p3))) (2 ^ (min 1 (IntKind.bits .u64))))) + p2)) - p3)), (IntKind.i64.wrap (Int.fdiv (IntKind.u64.wrap (IntKind.i64.wrap (p1 + p3))) (2 ^ (min 1 (IntKind.bits .u64))))), ()) w)
            (m33 (p1, p2, ()) w))
        (fun s34 w11 =>
          LoopW (S := Int × Int × Unit) (fun s35 w12 n36 =>
              ifB (decide (s35.1 < s35.2.1))
                ((0 ≤ (IntKind.i64.wrap ((IntKind.i64.wrap ((IntKind.i64.wrap ((IntKind.i64.wrap (Int.fdiv (IntKind.u64.wrap (IntKind.i64.wrap (p1 + p3))) (2 ^ (min 1 (IntKind.bits .u64))))) + p2)) - (1 : Int))) - (IntKind.i64.wrap (Int.fdiv (IntKind.u64.wrap (IntKind.i64.wrap (s35.1 + s35.2.1))) (2 ^ (min 1 (IntKind.bits .u64))))))) ∧ (IntKind.i64.wrap ((IntKind.i64.wrap ((IntKind.i64.wrap ((IntKind.i64.wrap (Int.fdiv (IntKind.u64.wrap (IntKind.i64.wrap (p1 + p3))) (2 ^ (min 1 (IntKind.bits .u64))))) + p2)) - (1 : Int))) - (IntKind.i64.wrap (Int.fdiv (IntKind.u64.wrap (IntKind.i64.wrap (s35.1 + s35.2.1))) (2 ^ (min 1 (IntKind.bits .u64))))))) < (p0.l : Int)) ∧
                derefP p0.a fun a37 =>
                ldI w12.drew (a37.add (Int.toNat (IntKind.i64.wrap ((IntKind.i64.wrap ((IntKind.i64.wrap ((IntKind.i64.wrap (Int.fdiv (IntKind.u64.wrap (IntKind.i64.wrap (p1 + p3))) (2 ^ (min 1 (IntKind.bits .u64))))) + p2)) - (1 : Int))) - (IntKind.i64.wrap (Int.fdiv (IntKind.u64.wrap (IntKind.i64.wrap (s35.1 + s35.2.1))) (2 ^ (min 1 (IntKind.bits .u64))))))))) .i64 fun x38 =>
                (0 ≤ (IntKind.i64.wrap (Int.fdiv (IntKind.u64.wrap (IntKind.i64.wrap (s35.1 + s35.2.1))) (2 ^ (min 1 (IntKind.bits .u64))))) ∧ (IntKind.i64.wrap (Int.fdiv (IntKind.u64.wrap (IntKind.i64.wrap (s35.1 + s35.2.1))) (2 ^ (min 1 (IntKind.bits .u64))))) < (p0.l : Int)) ∧
                derefP p0.a fun a39 =>
                ldI w12.drew (a39.add (Int.toNat (IntKind.i64.wrap (Int.fdiv (IntKind.u64.wrap (IntKind.i64.wrap (s35.1 + s35.2.1))) (2 ^ (min 1 (IntKind.bits .u64))))))) .i64 fun x40 =>
                callV Try.prog Try.fs p4 [(.int .i64 x38), (.int .i64 x40)] w12.drew fun v41 w13 =>
                ∃ x42 : Int, v41 = (.int .i64 x42) ∧
                ifB (!(decide (x42 < (0 : Int))))
                  (n36 ((IntKind.i64.wrap ((IntKind.i64.wrap (Int.fdiv (IntKind.u64.wrap (IntKind.i64.wrap (s35.1 + s35.2.1))) (2 ^ (min 1 (IntKind.bits .u64))))) + (1 : Int))), s35.2.1, ()) w13)
                  (n36 (s35.1, (IntKind.i64.wrap (Int.fdiv (IntKind.u64.wrap (IntKind.i64.wrap (s35.1 + s35.2.1))) (2 ^ (min 1 (IntKind.bits .u64))))), ()) w13))
                (JoinW (S := Unit) (fun m43 =>
                    ifB (decide (s35.1 < p2))
                      (ifB (decide (p2 < (IntKind.i64.wrap ((IntKind.i64.wrap ((IntKind.i64.wrap (Int.fdiv (IntKind.u64.wrap (IntKind.i64.wrap (p1 + p3))) (2 ^ (min 1 (IntKind.bits .u64))))) + p2)) - s35.1))))
                        (callR Try.prog 211 #[(.slice p0.a p0.l p0.c), (.int .i64 s35.1), (.int .i64 p2), (.int .i64 (IntKind.i64.wrap ((IntKind.i64.wrap ((IntKind.i64.wrap (Int.fdiv (IntKind.u64.wrap (IntKind.i64.wrap (p1 + p3))) (2 ^ (min 1 (IntKind.bits .u64))))) + p2)) - s35.1))), p4] w12 fun v45 w14 =>
                        v45 = (.tuple #[]) ∧
                        m43 (()) w14)
                        (m43 (()) w12))
                      (m43 (()) w12))
                  (fun s44 w15 =>
                    JoinW (S := Unit) (fun m46 =>
                        ifB (decide (p1 < s35.1))
                          (ifB (decide (s35.1 < (IntKind.i64.wrap (Int.fdiv (IntKind.u64.wrap (IntKind.i64.wrap (p1 + p3))) (2 ^ (min 1 (IntKind.bits .u64)))))))
                            (callR Try.prog 182 #[(.slice p0.a p0.l p0.c), (.int .i64 p1), (.int .i64 s35.1), (.int .i64 (IntKind.i64.wrap (Int.fdiv (IntKind.u64.wrap (IntKind.i64.wrap (p1 + p3))) (2 ^ (min 1 (IntKind.bits .u64)))))), p4] w15 fun v48 w16 =>
                            v48 = (.tuple #[]) ∧
                            m46 (()) w16)
                            (m46 (()) w15))
                          (m46 (()) w15))
                      (fun s47 w17 =>
                        ifB (decide ((IntKind.i64.wrap (Int.fdiv (IntKind.u64.wrap (IntKind.i64.wrap (p1 + p3))) (2 ^ (min 1 (IntKind.bits .u64))))) < (IntKind.i64.wrap ((IntKind.i64.wrap ((IntKind.i64.wrap (Int.fdiv (IntKind.u64.wrap (IntKind.i64.wrap (p1 + p3))) (2 ^ (min 1 (IntKind.bits .u64))))) + p2)) - s35.1))))
                          (ifB (decide ((IntKind.i64.wrap ((IntKind.i64.wrap ((IntKind.i64.wrap (Int.fdiv (IntKind.u64.wrap (IntKind.i64.wrap (p1 + p3))) (2 ^ (min 1 (IntKind.bits .u64))))) + p2)) - s35.1)) < p3))
                            (callR Try.prog 182 #[(.slice p0.a p0.l p0.c), (.int .i64 (IntKind.i64.wrap (Int.fdiv (IntKind.u64.wrap (IntKind.i64.wrap (p1 + p3))) (2 ^ (min 1 (IntKind.bits .u64)))))), (.int .i64 (IntKind.i64.wrap ((IntKind.i64.wrap ((IntKind.i64.wrap (Int.fdiv (IntKind.u64.wrap (IntKind.i64.wrap (p1 + p3))) (2 ^ (min 1 (IntKind.bits .u64))))) + p2)) - s35.1))), (.int .i64 p3), p4] w17 fun v49 w18 =>
                            v49 = (.tuple #[]) ∧
                            R (.tuple #[]) w18)
                            (R (.tuple #[]) w17))
                          (R (.tuple #[]) w17)))))
            (s34.1, s34.2.1, ()) w11)))
theorem slices_symMergeCmpFunc_int_calls (p0 : Sl) (p1 : Int) (p2 : Int) (p3 : Int) (p4 : Value) (R : Value → World → Prop) (w : World) (h : L_slices_symMergeCmpFunc_int p0 p1 p2 p3 p4 R w) : Calls Try.prog 182 #[(.slice p0.a p0.l p0.c), (.int .i64 p1), (.int .i64 p2), (.int .i64 p3), p4] w (Ret R) :=
  lw_calls (fs := Try.fs) (an := a_slices_symMergeCmpFunc_int) (args := [(.slice p0.a p0.l p0.c), (.int .i64 p1), (.int .i64 p2), (.int .i64 p3), p4]) Try.fsOK Try.mixed Try.func182 (by kernel_rfl) (by kernel_rfl)
    (Eq.mpr (by kernel_rfl : lwFn Try.prog Try.fs Try.f182 a_slices_symMergeCmpFunc_int [(.slice p0.a p0.l p0.c), (.int .i64 p1), (.int .i64 p2), (.int .i64 p3), p4] w R = L_slices_symMergeCmpFunc_int p0 p1 p2 p3 p4 R w) h)

/-- slices.rotateCmpFunc[int] -/
def a_slices_rotateCmpFunc_int : Ann := (.seq none .nil (.seq none .nil (.seq none (.one (.loop ⟨[0, 2, 4], [(10, (.b (.int .i64))), (11, (.b (.int .i64)))]⟩ (.seq none (.seq none .nil (.cond .nil .nil)) (.one (.seq none .nil (.cond (.seq none .nil .nil) (.seq none .nil .nil))))))) .nil)))
def L_slices_rotateCmpFunc_int (p0 : Sl) (p1 : Int) (p2 : Int) (p3 : Int) (p4 : Value) (R : Value → World → Prop) (w : World) : Prop :=
  LoopW (S := Int × Int × Unit) (fun s1 w1 n2 =>
      ifB (s1.1 != s1.2.1)
        (ifB (decide (s1.1 > s1.2.1))
          (callR Try.prog 224 #[(.slice p0.a p0.l p0.c), (.int .i64 (IntKind.i64.wrap (p2 - s1.1))), (.int .i64 p2), (.int .i64 s1.2.1), p4] w1 fun v3 w2 =>
          v3 = (.tuple #[]) ∧
          n2 ((IntKind.i64.wrap (s1.1 - s1.2.1)), s1.2.1, ()) w2)
          (callR Try.prog 224 #[(.slice p0.a p0.l p0.c), (.int .i64 (IntKind.i64.wrap (p2 - s1.1))), (.int .i64 (IntKind.i64.wrap ((IntKind.i64.wrap (p2 + s1.2.1)) - s1.1))), (.int .i64 s1.1), p4] w1 fun v4 w3 =>
          v4 = (.tuple #[]) ∧
          n2 (s1.1, (IntKind.i64.wrap (s1.2.1 - s1.1)), ()) w3))
        (callR Try.prog 224 #[(.slice p0.a p0.l p0.c), (.int .i64 (IntKind.i64.wrap (p2 - s1.1))), (.int .i64 p2), (.int .i64 s1.1), p4] w1 fun v5 w4 =>
        v5 = (.tuple #[]) ∧
        R (.tuple #[]) w4))
    ((IntKind.i64.wrap (p2 - p1)), (IntKind.i64.wrap (p3 - p2)), ()) w
theorem slices_rotateCmpFunc_int_calls (p0 : Sl) (p1 : Int) (p2 : Int) (p3 : Int) (p4 : Value) (R : Value → World → Prop) (w : World) (h : L_slices_rotateCmpFunc_int p0 p1 p2 p3 p4 R w) : Calls Try.prog 211 #[(.slice p0.a p0.l p0.c), (.int .i64 p1), (.int .i64 p2), (.int .i64 p3), p4] w (Ret R) :=
  lw_calls (fs := Try.fs) (an := a_slices_rotateCmpFunc_int) (args := [(.slice p0.a p0.l p0.c), (.int .i64 p1), (.int .i64 p2), (.int .i64 p3), p4]) Try.fsOK Try.mixed Try.func211 (by kernel_rfl) (by kernel_rfl)
    (Eq.mpr (by kernel_rfl : lwFn Try.prog Try.fs Try.f211 a_slices_rotateCmpFunc_int [(.slice p0.a p0.l p0.c), (.int .i64 p1), (.int .i64 p2), (.int .i64 p3), p4] w R = L_slices_rotateCmpFunc_int p0 p1 p2 p3 p4 R w) h)

/-- slices.swapRangeCmpFunc[int] -/
def a_slices_swapRangeCmpFunc_int : Ann := (.seq none .nil (.one (.loop ⟨[0, 1, 2, 3], [(10, (.b (.int .i64)))]⟩ (.seq none (.seq none .nil (.cond .nil .nil)) (.seq none (.one .nil) .nil)))))
def L_slices_swapRangeCmpFunc_int (p0 : Sl) (p1 : Int) (p2 : Int) (p3 : Int) (p4 : Value) (R : Value → World → Prop) (w : World) : Prop :=
  LoopW (S := Int × Unit) (fun s1 w1 n2 =>
      ifB (decide (s1.1 < p3))
        ((0 ≤ (IntKind.i64.wrap (p2 + s1.1)) ∧ (IntKind.i64.wrap (p2 + s1.1)) < (p0.l : Int)) ∧
        derefP p0.a fun a3 =>
        ldI w1.drew (a3.add (Int.toNat (IntKind.i64.wrap (p2 + s1.1)))) .i64 fun x4 =>
        (0 ≤ (IntKind.i64.wrap (p1 + s1.1)) ∧ (IntKind.i64.wrap (p1 + s1.1)) < (p0.l : Int)) ∧
        derefP p0.a fun a5 =>
        ldI w1.drew (a5.add (Int.toNat (IntKind.i64.wrap (p1 + s1.1)))) .i64 fun x6 =>
        (0 ≤ (IntKind.i64.wrap (p1 + s1.1)) ∧ (IntKind.i64.wrap (p1 + s1.1)) < (p0.l : Int)) ∧
        derefP p0.a fun a7 =>
        Wr w1.drew (a7.add (Int.toNat (IntKind.i64.wrap (p1 + s1.1)))) ∧
        Nw (w1.drew.setCell (a7.add (Int.toNat (IntKind.i64.wrap (p1 + s1.1)))) (.int .i64 x4)) fun w2 =>
        (0 ≤ (IntKind.i64.wrap (p2 + s1.1)) ∧ (IntKind.i64.wrap (p2 + s1.1)) < (p0.l : Int)) ∧
        derefP p0.a fun a8 =>
        Wr w2 (a8.add (Int.toNat (IntKind.i64.wrap (p2 + s1.1)))) ∧
        Nw (w2.setCell (a8.add (Int.toNat (IntKind.i64.wrap (p2 + s1.1)))) (.int .i64 x6)) fun w3 =>
        n2 ((IntKind.i64.wrap (s1.1 + (1 : Int))), ()) w3)
        (R (.tuple #[]) w1))
    ((0 : Int), ()) w
theorem slices_swapRangeCmpFunc_int_calls (p0 : Sl) (p1 : Int) (p2 : Int) (p3 : Int) (p4 : Value) (R : Value → World → Prop) (w : World) (h : L_slices_swapRangeCmpFunc_int p0 p1 p2 p3 p4 R w) : Calls Try.prog 224 #[(.slice p0.a p0.l p0.c), (.int .i64 p1), (.int .i64 p2), (.int .i64 p3), p4] w (Ret R) :=
  lw_calls (fs := Try.fs) (an := a_slices_swapRangeCmpFunc_int) (args := [(.slice p0.a p0.l p0.c), (.int .i64 p1), (.int .i64 p2), (.int .i64 p3), p4]) Try.fsOK Try.mixed Try.func224 (by kernel_rfl) (by kernel_rfl)
    (Eq.mpr (by kernel_rfl : lwFn Try.prog Try.fs Try.f224 a_slices_swapRangeCmpFunc_int [(.slice p0.a p0.l p0.c), (.int .i64 p1), (.int .i64 p2), (.int .i64 p3), p4] w R = L_slices_swapRangeCmpFunc_int p0 p1 p2 p3 p4 R w) h)

end Go.Proofs
