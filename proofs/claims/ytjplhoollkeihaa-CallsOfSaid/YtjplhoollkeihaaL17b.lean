/-
  Printed by a program of the author: what each function comes to.
-/
import Derived.Test.YtjplhoollkeihaaProg
import Derived.Test.YtjplhoollkeihaaGkR
import Derived.Test.YtjplhoollkeihaaLb
namespace Go.Proofs
open Go.Gk
set_option linter.unusedVariables false
set_option maxRecDepth 100000

/-- (*intaglio.calls.Calls).Len -/
def a_calls_Calls_Len : Ann := (.seq none .nil (.seq none (.seq none .nil (.cond (.seq none .nil .nil) .nil)) (.seq none .nil .nil)))
def L_calls_Calls_Len (p0 : Option Addr) (R : Value → World → Prop) (w : World) : Prop :=
  ifB (Option.isNone p0)
    (R (.int .i64 (0 : Int)) w)
    (derefP p0 fun a1 =>
    ldS w a1 fun x2 =>
    R (.int .i64 (x2.l : Int)) w)
theorem calls_Calls_Len_calls (p0 : Option Addr) (R : Value → World → Prop) (w : World) (h : L_calls_Calls_Len p0 R w) : Calls Try.prog 59 #[(.pointer p0)] w (Ret R) :=
  lw_calls (fs := Try.fs) (an := a_calls_Calls_Len) (args := [(.pointer p0)]) Try.fsOK Try.mixed Try.func59 (by kernel_rfl) (by kernel_rfl)
    (Eq.mpr (by kernel_rfl : lwFn Try.prog Try.fs Try.f59 a_calls_Calls_Len [(.pointer p0)] w R = L_calls_Calls_Len p0 R w) h)

/-- (*intaglio.calls.Calls).Calls -/
def a_calls_Calls_Calls : Ann := (.seq none .nil (.seq (some ⟨[0, 1], []⟩) (.seq none .nil (.cond (.seq none .nil .nil) .nil)) (.seq none .nil .nil)))
def L_calls_Calls_Calls (p0 : Option Addr) (p1 : Int) (R : Value → World → Prop) (w : World) : Prop :=
  JoinW (S := Unit) (fun m1 =>
      ifB (decide (p1 < (0 : Int)))
        (R (.slice none 0 0) w)
        (callR Try.prog 59 #[(.pointer p0)] w fun v3 w1 =>
        ∃ x4 : Int, v3 = (.int .i64 x4) ∧
        ifB (decide (p1 ≥ x4))
          (R (.slice none 0 0) w1)
          (m1 (()) w1)))
    (fun s2 w2 =>
      derefP p0 fun a5 =>
      ldS w2 a5 fun x6 =>
      (0 ≤ p1 ∧ p1 < (x6.l : Int)) ∧
      derefP x6.a fun a7 =>
      ldS w2 (a7.add (Int.toNat p1)) fun x8 =>
      callR Try.prog 104 #[(.slice x8.a x8.l x8.c)] w2 fun v9 w3 =>
      ∃ x10 : Sl, v9 = (.slice x10.a x10.l x10.c) ∧
      R (.slice x10.a x10.l x10.c) w3)
theorem calls_Calls_Calls_calls (p0 : Option Addr) (p1 : Int) (R : Value → World → Prop) (w : World) (h : L_calls_Calls_Calls p0 p1 R w) : Calls Try.prog 60 #[(.pointer p0), (.int .i64 p1)] w (Ret R) :=
  lw_calls (fs := Try.fs) (an := a_calls_Calls_Calls) (args := [(.pointer p0), (.int .i64 p1)]) Try.fsOK Try.mixed Try.func60 (by kernel_rfl) (by kernel_rfl)
    (Eq.mpr (by kernel_rfl : lwFn Try.prog Try.fs Try.f60 a_calls_Calls_Calls [(.pointer p0), (.int .i64 p1)] w R = L_calls_Calls_Calls p0 p1 R w) h)

/-- (*intaglio.calls.Calls).Called -/
def a_calls_Calls_Called : Ann := (.seq none .nil (.seq none .nil (.seq none (.seq none .nil (.one (.loop ⟨[0, 1, 8], [(5, (.b .slice)), (9, (.b (.int .i64)))]⟩ (.seq none .nil (.seq none (.cond .nil .nil) (.seq (some ⟨[0, 1, 8, 9], [(5, (.b .slice))]⟩) (.one (.seq none .nil (.seq none .nil (.cond .nil .nil)))) .nil)))))) (.seq none .nil .nil))))
def L_calls_Calls_Called (p0 : Option Addr) (p1 : Int) (R : Value → World → Prop) (w : World) : Prop :=
  callR Try.prog 59 #[(.pointer p0)] w fun v1 w1 =>
  ∃ x2 : Int, v1 = (.int .i64 x2) ∧
  LoopW (S := Sl × Int × Unit) (fun s3 w2 n4 =>
      ifB (decide (s3.2.1 < x2))
        (JoinW (S := Sl × Unit) (fun m5 =>
            derefP p0 fun a7 =>
            ldS w2 a7 fun x8 =>
            (0 ≤ s3.2.1 ∧ s3.2.1 < (x8.l : Int)) ∧
            derefP x8.a fun a9 =>
            ldS w2 (a9.add (Int.toNat s3.2.1)) fun x10 =>
            callR Try.prog 113 #[(.slice x10.a x10.l x10.c), (.int .i64 p1)] w2 fun v11 w3 =>
            ∃ x12 : Bool, v11 = (.bool x12) ∧
            ifB x12
              (Nw (w3.alloc (.cells #[(.int .i64 s3.2.1)] 3)) fun w4 =>
              appendS Try.prog 32 (.slice s3.1.a s3.1.l s3.1.c) (.slice (some (blk w3.heap.size)) 1 1) w4 fun r13 w5 =>
              m5 (r13, ()) w5)
              (m5 (s3.1, ()) w3))
          (fun s6 w6 =>
            n4 (s6.1, (IntKind.i64.wrap (s3.2.1 + (1 : Int))), ()) w6))
        (R (.slice s3.1.a s3.1.l s3.1.c) w2))
    ((Sl.mk none 0 0), (0 : Int), ()) w1
theorem calls_Calls_Called_calls (p0 : Option Addr) (p1 : Int) (R : Value → World → Prop) (w : World) (h : L_calls_Calls_Called p0 p1 R w) : Calls Try.prog 61 #[(.pointer p0), (.int .i64 p1)] w (Ret R) :=
  lw_calls (fs := Try.fs) (an := a_calls_Calls_Called) (args := [(.pointer p0), (.int .i64 p1)]) Try.fsOK Try.mixed Try.func61 (by kernel_rfl) (by kernel_rfl)
    (Eq.mpr (by kernel_rfl : lwFn Try.prog Try.fs Try.f61 a_calls_Calls_Called [(.pointer p0), (.int .i64 p1)] w R = L_calls_Calls_Called p0 p1 R w) h)

/-- (*intaglio.calls.Calls).Order -/
def a_calls_Calls_Order : Ann := (.seq none .nil (.seq none .nil (.seq none (.seq none .nil (.one (.loop ⟨[1, 6], [(3, (.b .slice)), (7, (.b (.int .i64)))]⟩ (.seq none .nil (.seq none (.cond .nil .nil) (.seq none (.one (.seq none .nil .nil)) .nil)))))) (.seq none .nil (.seq none .nil .nil)))))
def L_calls_Calls_Order (p0 : Option Addr) (R : Value → World → Prop) (w : World) : Prop :=
  Nw (w.alloc (.cells #[(.pointer p0)] 65)) fun w1 =>
  ldP w1 (blk w.heap.size) fun x1 =>
  callR Try.prog 59 #[(.pointer x1)] w1 fun v2 w2 =>
  ∃ x3 : Int, v2 = (.int .i64 x3) ∧
  LoopW (S := Sl × Int × Unit) (fun s4 w3 n5 =>
      ifB (decide (s4.2.1 < x3))
        (Nw (w3.alloc (.cells #[(.int .i64 s4.2.1)] 3)) fun w4 =>
        appendS Try.prog 32 (.slice s4.1.a s4.1.l s4.1.c) (.slice (some (blk w3.heap.size)) 1 1) w4 fun r6 w5 =>
        n5 (r6, (IntKind.i64.wrap (s4.2.1 + (1 : Int))), ()) w5)
        (callR Try.prog 114 #[(.slice s4.1.a s4.1.l s4.1.c), (.func (.func 115) #[] #[(.pointer (some (blk w.heap.size)))])] w3 fun v7 w6 =>
        v7 = (.tuple #[]) ∧
        R (.slice s4.1.a s4.1.l s4.1.c) w6))
    ((Sl.mk none 0 0), (0 : Int), ()) w2
theorem calls_Calls_Order_calls (p0 : Option Addr) (R : Value → World → Prop) (w : World) (h : L_calls_Calls_Order p0 R w) : Calls Try.prog 62 #[(.pointer p0)] w (Ret R) :=
  lw_calls (fs := Try.fs) (an := a_calls_Calls_Order) (args := [(.pointer p0)]) Try.fsOK Try.mixed Try.func62 (by kernel_rfl) (by kernel_rfl)
    (Eq.mpr (by kernel_rfl : lwFn Try.prog Try.fs Try.f62 a_calls_Calls_Order [(.pointer p0)] w R = L_calls_Calls_Order p0 R w) h)

/-- (*intaglio.calls.Calls).Deep -/
def a_calls_Calls_Deep : Ann := (.seq none .nil (.seq (some ⟨[0, 1], []⟩) (.seq none .nil (.cond (.seq none .nil .nil) .nil)) (.seq none .nil .nil)))
def L_calls_Calls_Deep (p0 : Option Addr) (p1 : Int) (R : Value → World → Prop) (w : World) : Prop :=
  JoinW (S := Unit) (fun m1 =>
      ifB (decide (p1 < (0 : Int)))
        (R (.int .i64 (-1 : Int)) w)
        (callR Try.prog 59 #[(.pointer p0)] w fun v3 w1 =>
        ∃ x4 : Int, v3 = (.int .i64 x4) ∧
        ifB (decide (p1 ≥ x4))
          (R (.int .i64 (-1 : Int)) w1)
          (m1 (()) w1)))
    (fun s2 w2 =>
      derefP p0 fun a5 =>
      ldS w2 (a5.add 2) fun x6 =>
      (0 ≤ p1 ∧ p1 < (x6.l : Int)) ∧
      derefP x6.a fun a7 =>
      ldI w2 (a7.add (Int.toNat p1)) .i64 fun x8 =>
      R (.int .i64 x8) w2)
theorem calls_Calls_Deep_calls (p0 : Option Addr) (p1 : Int) (R : Value → World → Prop) (w : World) (h : L_calls_Calls_Deep p0 p1 R w) : Calls Try.prog 63 #[(.pointer p0), (.int .i64 p1)] w (Ret R) :=
  lw_calls (fs := Try.fs) (an := a_calls_Calls_Deep) (args := [(.pointer p0), (.int .i64 p1)]) Try.fsOK Try.mixed Try.func63 (by kernel_rfl) (by kernel_rfl)
    (Eq.mpr (by kernel_rfl : lwFn Try.prog Try.fs Try.f63 a_calls_Calls_Deep [(.pointer p0), (.int .i64 p1)] w R = L_calls_Calls_Deep p0 p1 R w) h)

/-- (*intaglio.calls.Calls).Reached -/
def a_calls_Calls_Reached : Ann := (.seq none .nil (.seq (some ⟨[0, 1], []⟩) (.seq none .nil (.cond (.seq none .nil .nil) .nil)) (.seq none .nil (.seq none (.seq none .nil (.one (.loop ⟨[22, 23], [(5, (.b .slice)), (24, (.b (.int .i64)))]⟩ (.seq none .nil (.seq none (.cond .nil .nil) (.seq (some ⟨[22, 23, 24], [(5, (.b .slice))]⟩) (.one (.seq none .nil (.seq none .nil (.cond .nil .nil)))) .nil)))))) (.seq none .nil .nil)))))
def L_calls_Calls_Reached (p0 : Option Addr) (p1 : Int) (R : Value → World → Prop) (w : World) : Prop :=
  JoinW (S := Unit) (fun m1 =>
      ifB (decide (p1 < (0 : Int)))
        (R (.slice none 0 0) w)
        (callR Try.prog 59 #[(.pointer p0)] w fun v3 w1 =>
        ∃ x4 : Int, v3 = (.int .i64 x4) ∧
        ifB (decide (p1 ≥ x4))
          (R (.slice none 0 0) w1)
          (m1 (()) w1)))
    (fun s2 w2 =>
      derefP p0 fun a5 =>
      ldS w2 (a5.add 1) fun x6 =>
      (0 ≤ p1 ∧ p1 < (x6.l : Int)) ∧
      derefP x6.a fun a7 =>
      ldS w2 (a7.add (Int.toNat p1)) fun x8 =>
      LoopW (S := Sl × Int × Unit) (fun s9 w3 n10 =>
          ifB (decide (s9.2.1 < (x8.l : Int)))
            (JoinW (S := Sl × Unit) (fun m11 =>
                (0 ≤ s9.2.1 ∧ s9.2.1 < (x8.l : Int)) ∧
                derefP x8.a fun a13 =>
                ldB w3 (a13.add (Int.toNat s9.2.1)) fun x14 =>
                ifB x14
                  (Nw (w3.alloc (.cells #[(.int .i64 s9.2.1)] 3)) fun w4 =>
                  appendS Try.prog 32 (.slice s9.1.a s9.1.l s9.1.c) (.slice (some (blk w3.heap.size)) 1 1) w4 fun r15 w5 =>
                  m11 (r15, ()) w5)
                  (m11 (s9.1, ()) w3))
              (fun s12 w6 =>
                n10 (s12.1, (IntKind.i64.wrap (s9.2.1 + (1 : Int))), ()) w6))
            (R (.slice s9.1.a s9.1.l s9.1.c) w3))
        ((Sl.mk none 0 0), (0 : Int), ()) w2)
theorem calls_Calls_Reached_calls (p0 : Option Addr) (p1 : Int) (R : Value → World → Prop) (w : World) (h : L_calls_Calls_Reached p0 p1 R w) : Calls Try.prog 64 #[(.pointer p0), (.int .i64 p1)] w (Ret R) :=
  lw_calls (fs := Try.fs) (an := a_calls_Calls_Reached) (args := [(.pointer p0), (.int .i64 p1)]) Try.fsOK Try.mixed Try.func64 (by kernel_rfl) (by kernel_rfl)
    (Eq.mpr (by kernel_rfl : lwFn Try.prog Try.fs Try.f64 a_calls_Calls_Reached [(.pointer p0), (.int .i64 p1)] w R = L_calls_Calls_Reached p0 p1 R w) h)

/-- intaglio.calls.Of -/
def a_calls_Of : Ann := (.seq none .nil (.seq none (.seq none .nil (.cond (.seq none .nil .nil) .nil)) (.seq none (.seq none .nil (.one (.loop ⟨[1, 10, 11], [(12, (.b (.int .i64)))]⟩ (.seq none .nil (.seq none (.cond .nil .nil) (.seq none (.one (.seq none .nil (.seq none .nil (.cond (.seq none .nil .nil) .nil)))) .nil)))))) (.seq none .nil (.seq none .nil (.seq none (.seq none .nil (.cond (.seq none .nil .nil) .nil)) (.seq none .nil .nil)))))))
def L_calls_Of (p0 : Sl) (R : Value → World → Prop) (w : World) : Prop :=
  Nw (w.alloc (.cells #[(.slice p0.a p0.l p0.c)] 22)) fun w1 =>
  ldS w1 (blk w.heap.size) fun x1 =>
  ifB (decide ((x1.l : Int) > (4096 : Int)))
    (R (.tuple #[(.pointer none), (.int .i64 (4 : Int))]) w1)
    (ldS w1 (blk w.heap.size) fun x2 =>
    LoopW (S := Int × Unit) (fun s3 w2 n4 =>
        ifB (decide (s3.1 < (x2.l : Int)))
          ((0 ≤ s3.1 ∧ s3.1 < (x2.l : Int)) ∧
          derefP x2.a fun a5 =>
          ldS w2 (a5.add (Int.toNat s3.1)) fun x6 =>
          callR Try.prog 111 #[(.slice x6.a x6.l x6.c), (.func (.func 136) #[] #[(.pointer (some (blk w.heap.size)))])] w2 fun v7 w3 =>
          ∃ x8 : Bool, v7 = (.bool x8) ∧
          ifB x8
            (R (.tuple #[(.pointer none), (.int .i64 (3 : Int))]) w3)
            (n4 ((IntKind.i64.wrap (s3.1 + (1 : Int))), ()) w3))
          (ldS w2 (blk w.heap.size) fun x9 =>
          callR Try.prog 137 #[(.slice x9.a x9.l x9.c)] w2 fun v10 w4 =>
          ∃ x11 : Sl, v10 = (.slice x11.a x11.l x11.c) ∧
          Wr w4 (blk w.heap.size) ∧
          Nw (w4.setCell (blk w.heap.size) (.slice x11.a x11.l x11.c)) fun w5 =>
          ldS w5 (blk w.heap.size) fun x12 =>
          callR Try.prog 138 #[(.slice x12.a x12.l x12.c)] w5 fun v13 w6 =>
          ∃ x14 : Sl, v13 = (.slice x14.a x14.l x14.c) ∧
          ldS w6 (blk w.heap.size) fun x15 =>
          callR Try.prog 139 #[(.slice x15.a x15.l x15.c), (.slice x14.a x14.l x14.c)] w6 fun v16 w7 =>
          ∃ x17 : Bool, v16 = (.bool x17) ∧
          ifB x17
            (R (.tuple #[(.pointer none), (.int .i64 (171 : Int))]) w7)
            (ldS w7 (blk w.heap.size) fun x18 =>
            callR Try.prog 140 #[(.slice x18.a x18.l x18.c), (.slice x14.a x14.l x14.c)] w7 fun v19 w8 =>
            ∃ x20 : Option Addr, v19 = (.pointer x20) ∧
            R (.tuple #[(.pointer x20), (.int .i64 (0 : Int))]) w8)))
      ((0 : Int), ()) w1)
theorem calls_Of_calls (p0 : Sl) (R : Value → World → Prop) (w : World) (h : L_calls_Of p0 R w) : Calls Try.prog 89 #[(.slice p0.a p0.l p0.c)] w (Ret R) :=
  lw_calls (fs := Try.fs) (an := a_calls_Of) (args := [(.slice p0.a p0.l p0.c)]) Try.fsOK Try.mixed Try.func89 (by kernel_rfl) (by kernel_rfl)
    (Eq.mpr (by kernel_rfl : lwFn Try.prog Try.fs Try.f89 a_calls_Of [(.slice p0.a p0.l p0.c)] w R = L_calls_Of p0 R w) h)

/-- intaglio.intaglioref17.Of -/
def a_intaglioref17_Of : Ann := (.seq none .nil (.seq none (.seq none .nil (.cond (.seq none .nil .nil) .nil)) (.seq none (.seq none .nil (.one (.loop ⟨[0], [(3, (.b (.int .i64)))]⟩ (.seq none (.seq none .nil (.cond .nil .nil)) (.seq none (.one (.seq none .nil (.one (.loop ⟨[0, 3], [(4, (.b (.int .i64)))]⟩ (.seq none (.seq none .nil (.cond .nil .nil)) (.seq (some ⟨[0, 3, 4], []⟩) (.one (.seq none .nil (.cond (.seq none .nil .nil) .nil))) .nil)))))) .nil))))) (.seq none .nil (.seq none (.seq none .nil (.one (.loop ⟨[0, 5], [(6, (.b (.int .i64)))]⟩ (.seq none (.seq none .nil (.cond .nil .nil)) (.seq none (.one (.seq none .nil (.one (.loop ⟨[0, 5, 6], [(7, (.b (.int .i64)))]⟩ (.seq none (.seq none .nil (.cond .nil .nil)) (.seq none (.one (.seq none .nil (.cond (.seq none .nil .nil) .nil))) .nil)))))) .nil))))) (.seq none .nil .nil))))))
def L_intaglioref17_Of (p0 : Sl) (R : Value → World → Prop) (w : World) : Prop :=
  ifB (decide ((p0.l : Int) > (4096 : Int)))
    (R (.int .i64 (4 : Int)) w)
    (LoopW (S := Int × Unit) (fun s1 w1 n2 =>
        ifB (decide (s1.1 < (p0.l : Int)))
          (LoopW (S := Int × Unit) (fun s3 w2 n4 =>
              (0 ≤ s1.1 ∧ s1.1 < (p0.l : Int)) ∧
              derefP p0.a fun a5 =>
              ldS w2 (a5.add (Int.toNat s1.1)) fun x6 =>
              ifB (decide (s3.1 < (x6.l : Int)))
                (JoinW (S := Unit) (fun m7 =>
                    (0 ≤ s1.1 ∧ s1.1 < (p0.l : Int)) ∧
                    derefP p0.a fun a9 =>
                    ldS w2 (a9.add (Int.toNat s1.1)) fun x10 =>
                    (0 ≤ s3.1 ∧ s3.1 < (x10.l : Int)) ∧
                    derefP x10.a fun a11 =>
                    ldI w2 (a11.add (Int.toNat s3.1)) .i64 fun x12 =>
                    ifB (decide (x12 < (0 : Int)))
                      (R (.int .i64 (3 : Int)) w2)
                      ((0 ≤ s1.1 ∧ s1.1 < (p0.l : Int)) ∧
                      derefP p0.a fun a13 =>
                      ldS w2 (a13.add (Int.toNat s1.1)) fun x14 =>
                      (0 ≤ s3.1 ∧ s3.1 < (x14.l : Int)) ∧
                      derefP x14.a fun a15 =>
                      ldI w2 (a15.add (Int.toNat s3.1)) .i64 fun x16 =>
                      ifB (decide (x16 ≥ (p0.l : Int)))
                        (R (.int .i64 (3 : Int)) w2)
                        (m7 (()) w2)))
                  (fun s8 w3 =>
                    n4 ((IntKind.i64.wrap (s3.1 + (1 : Int))), ()) w3))
                (n2 ((IntKind.i64.wrap (s1.1 + (1 : Int))), ()) w2))
            ((0 : Int), ()) w1)
          (callR Try.prog 141 #[(.slice p0.a p0.l p0.c)] w1 fun v17 w4 =>
          ∃ x18 : Sl, v17 = (.slice x18.a x18.l x18.c) ∧
          LoopW (S := Int × Unit) (fun s19 w5 n20 =>
              ifB (decide (s19.1 < (p0.l : Int)))
                (LoopW (S := Int × Unit) (fun s21 w6 n22 =>
                    (0 ≤ s19.1 ∧ s19.1 < (p0.l : Int)) ∧
                    derefP p0.a fun a23 =>
                    ldS w6 (a23.add (Int.toNat s19.1)) fun x24 =>
                    ifB (decide (s21.1 < (x24.l : Int)))
                      ((0 ≤ s19.1 ∧ s19.1 < (p0.l : Int)) ∧
                      derefP p0.a fun a25 =>
                      ldS w6 (a25.add (Int.toNat s19.1)) fun x26 =>
                      (0 ≤ s21.1 ∧ s21.1 < (x26.l : Int)) ∧
                      derefP x26.a fun a27 =>
                      ldI w6 (a27.add (Int.toNat s21.1)) .i64 fun x28 =>
                      (0 ≤ x28 ∧ x28 < (x18.l : Int)) ∧
                      derefP x18.a fun a29 =>
                      ldS w6 (a29.add (Int.toNat x28)) fun x30 =>
                      (0 ≤ s19.1 ∧ s19.1 < (x30.l : Int)) ∧
                      derefP x30.a fun a31 =>
                      ldB w6 (a31.add (Int.toNat s19.1)) fun x32 =>
                      ifB x32
                        (R (.int .i64 (171 : Int)) w6)
                        (n22 ((IntKind.i64.wrap (s21.1 + (1 : Int))), ()) w6))
                      (n20 ((IntKind.i64.wrap (s19.1 + (1 : Int))), ()) w6))
                  ((0 : Int), ()) w5)
                (R (.int .i64 (0 : Int)) w5))
            ((0 : Int), ()) w4))
      ((0 : Int), ()) w)
theorem intaglioref17_Of_calls (p0 : Sl) (R : Value → World → Prop) (w : World) (h : L_intaglioref17_Of p0 R w) : Calls Try.prog 90 #[(.slice p0.a p0.l p0.c)] w (Ret R) :=
  lw_calls (fs := Try.fs) (an := a_intaglioref17_Of) (args := [(.slice p0.a p0.l p0.c)]) Try.fsOK Try.mixed Try.func90 (by kernel_rfl) (by kernel_rfl)
    (Eq.mpr (by kernel_rfl : lwFn Try.prog Try.fs Try.f90 a_intaglioref17_Of [(.slice p0.a p0.l p0.c)] w R = L_intaglioref17_Of p0 R w) h)

/-- slices.Contains[[]int,int] -/
def a_slices_Contains_sint_int : Ann := (.seq none .nil (.seq none .nil .nil))
def L_slices_Contains_sint_int (p0 : Sl) (p1 : Int) (R : Value → World → Prop) (w : World) : Prop :=
  callR Try.prog 151 #[(.slice p0.a p0.l p0.c), (.int .i64 p1)] w fun v1 w1 =>
  ∃ x2 : Int, v1 = (.int .i64 x2) ∧
  R (.bool (decide (x2 ≥ (0 : Int)))) w1
theorem slices_Contains_sint_int_calls (p0 : Sl) (p1 : Int) (R : Value → World → Prop) (w : World) (h : L_slices_Contains_sint_int p0 p1 R w) : Calls Try.prog 113 #[(.slice p0.a p0.l p0.c), (.int .i64 p1)] w (Ret R) :=
  lw_calls (fs := Try.fs) (an := a_slices_Contains_sint_int) (args := [(.slice p0.a p0.l p0.c), (.int .i64 p1)]) Try.fsOK Try.mixed Try.func113 (by kernel_rfl) (by kernel_rfl)
    (Eq.mpr (by kernel_rfl : lwFn Try.prog Try.fs Try.f113 a_slices_Contains_sint_int [(.slice p0.a p0.l p0.c), (.int .i64 p1)] w R = L_slices_Contains_sint_int p0 p1 R w) h)

/-- slices.SortStableFunc[[]int,int] -/
def a_slices_SortStableFunc_sint_int : Ann := .nil
def L_slices_SortStableFunc_sint_int (p0 : Sl) (p1 : Value) (R : Value → World → Prop) (w : World) : Prop :=
  callR Try.prog 152 #[(.slice p0.a p0.l p0.c), (.int .i64 (p0.l : Int)), p1] w fun v1 w1 =>
  v1 = (.tuple #[]) ∧
  R (.tuple #[]) w1
theorem slices_SortStableFunc_sint_int_calls (p0 : Sl) (p1 : Value) (R : Value → World → Prop) (w : World) (h : L_slices_SortStableFunc_sint_int p0 p1 R w) : Calls Try.prog 114 #[(.slice p0.a p0.l p0.c), p1] w (Ret R) :=
  lw_calls (fs := Try.fs) (an := a_slices_SortStableFunc_sint_int) (args := [(.slice p0.a p0.l p0.c), p1]) Try.fsOK Try.mixed Try.func114 (by kernel_rfl) (by kernel_rfl)
    (Eq.mpr (by kernel_rfl : lwFn Try.prog Try.fs Try.f114 a_slices_SortStableFunc_sint_int [(.slice p0.a p0.l p0.c), p1] w R = L_slices_SortStableFunc_sint_int p0 p1 R w) h)

/-- (*intaglio.calls.Calls).Order 1 -/
def a_calls_Calls_Order_1 : Ann := (.seq none .nil (.seq none .nil .nil))
def L_calls_Calls_Order_1 (p0 : Int) (p1 : Int) (c0 : Addr) (R : Value → World → Prop) (w : World) : Prop :=
  ldP w.drew c0 fun x1 =>
  derefP x1 fun a2 =>
  ldS w.drew (a2.add 2) fun x3 =>
  (0 ≤ p0 ∧ p0 < (x3.l : Int)) ∧
  derefP x3.a fun a4 =>
  ldI w.drew (a4.add (Int.toNat p0)) .i64 fun x5 =>
  ldP w.drew c0 fun x6 =>
  derefP x6 fun a7 =>
  ldS w.drew (a7.add 2) fun x8 =>
  (0 ≤ p1 ∧ p1 < (x8.l : Int)) ∧
  derefP x8.a fun a9 =>
  ldI w.drew (a9.add (Int.toNat p1)) .i64 fun x10 =>
  callR Try.prog 116 #[(.int .i64 x5), (.int .i64 x10)] w.drew fun v11 w1 =>
  ∃ x12 : Int, v11 = (.int .i64 x12) ∧
  R (.int .i64 x12) w1
theorem calls_Calls_Order_1_calls (p0 : Int) (p1 : Int) (c0 : Addr) (R : Value → World → Prop) (w : World) (h : L_calls_Calls_Order_1 p0 p1 c0 R w) : Calls Try.prog 115 #[(.int .i64 p0), (.int .i64 p1), (.pointer (some c0))] w (Ret R) :=
  lw_calls (fs := Try.fs) (an := a_calls_Calls_Order_1) (args := [(.int .i64 p0), (.int .i64 p1), (.pointer (some c0))]) Try.fsOK Try.mixed Try.func115 (by kernel_rfl) (by kernel_rfl)
    (Eq.mpr (by kernel_rfl : lwFn Try.prog Try.fs Try.f115 a_calls_Calls_Order_1 [(.int .i64 p0), (.int .i64 p1), (.pointer (some c0))] w R = L_calls_Calls_Order_1 p0 p1 c0 R w) h)

/-- cmp.Compare[int] -/
def a_cmp_Compare_int : Ann := (.seq none .nil (.seq none .nil (.seq none .nil (.seq none (.seq none .nil (.cond (.seq none (.seq none .nil (.cond (.seq none .nil .nil) .nil)) (.seq none .nil .nil)) .nil)) (.seq none (.seq none .nil (.cond (.seq none .nil .nil) .nil)) (.seq none (.seq none .nil (.cond (.seq none .nil .nil) .nil)) (.seq none (.seq none .nil (.cond (.seq none .nil .nil) .nil)) (.seq none .nil .nil))))))))
def L_cmp_Compare_int (p0 : Int) (p1 : Int) (R : Value → World → Prop) (w : World) : Prop :=
  callR Try.prog 153 #[(.int .i64 p0)] w fun v1 w1 =>
  ∃ x2 : Bool, v1 = (.bool x2) ∧
  callR Try.prog 153 #[(.int .i64 p1)] w1 fun v3 w2 =>
  ∃ x4 : Bool, v3 = (.bool x4) ∧
  ifB x2
    (ifB x4
      (R (.int .i64 (0 : Int)) w2)
      (R (.int .i64 (-1 : Int)) w2))
    (ifB x4
      (R (.int .i64 (1 : Int)) w2)
      (ifB (decide (p0 < p1))
        (R (.int .i64 (-1 : Int)) w2)
        (ifB (decide (p0 > p1))
          (R (.int .i64 (1 : Int)) w2)
          (R (.int .i64 (0 : Int)) w2))))
theorem cmp_Compare_int_calls (p0 : Int) (p1 : Int) (R : Value → World → Prop) (w : World) (h : L_cmp_Compare_int p0 p1 R w) : Calls Try.prog 116 #[(.int .i64 p0), (.int .i64 p1)] w (Ret R) :=
  lw_calls (fs := Try.fs) (an := a_cmp_Compare_int) (args := [(.int .i64 p0), (.int .i64 p1)]) Try.fsOK Try.mixed Try.func116 (by kernel_rfl) (by kernel_rfl)
    (Eq.mpr (by kernel_rfl : lwFn Try.prog Try.fs Try.f116 a_cmp_Compare_int [(.int .i64 p0), (.int .i64 p1)] w R = L_cmp_Compare_int p0 p1 R w) h)

/-- intaglio.calls.Of 1 -/
def a_calls_Of_1 : Ann := (.seq none .nil (.seq none .nil .nil))
def L_calls_Of_1 (p0 : Int) (c0 : Addr) (R : Value → World → Prop) (w : World) : Prop :=
  ifB (decide (p0 < (0 : Int)))
    (R (.bool true) w)
    (ldS w c0 fun x1 =>
    R (.bool (decide (p0 ≥ (x1.l : Int)))) w)
theorem calls_Of_1_calls (p0 : Int) (c0 : Addr) (R : Value → World → Prop) (w : World) (h : L_calls_Of_1 p0 c0 R w) : Calls Try.prog 136 #[(.int .i64 p0), (.pointer (some c0))] w (Ret R) :=
  lw_calls (fs := Try.fs) (an := a_calls_Of_1) (args := [(.int .i64 p0), (.pointer (some c0))]) Try.fsOK Try.mixed Try.func136 (by kernel_rfl) (by kernel_rfl)
    (Eq.mpr (by kernel_rfl : lwFn Try.prog Try.fs Try.f136 a_calls_Of_1 [(.int .i64 p0), (.pointer (some c0))] w R = L_calls_Of_1 p0 c0 R w) h)

/-- intaglio.calls.sorted -/
def a_calls_sorted : Ann := (.seq none .nil (.seq none .nil (.seq none (.seq none .nil (.one (.loop ⟨[9, 10], [(3, (.b .slice)), (11, (.b (.int .i64)))]⟩ (.seq none .nil (.seq none (.cond .nil .nil) (.seq none (.one (.seq none .nil (.seq none .nil (.seq none .nil .nil)))) .nil)))))) (.seq none .nil .nil))))
def L_calls_sorted (p0 : Sl) (R : Value → World → Prop) (w : World) : Prop :=
  (0 ≤ (0 : Int) ∧ (0 : Int) ≤ (p0.l : Int) ∧ (24 : Int) * (p0.l : Int) ≤ 281474976710656 ∧ (p0.l : Int) ≤ 9223372036854775807) ∧
  Nw (w.alloc (.cells (madeCells #[(.slice none 0 0)] (p0.l * 1)) 32)) fun w1 =>
  LoopW (S := Sl × Int × Unit) (fun s1 w2 n2 =>
      ifB (decide (s1.2.1 < (p0.l : Int)))
        ((0 ≤ s1.2.1 ∧ s1.2.1 < (p0.l : Int)) ∧
        derefP p0.a fun a3 =>
        ldS w2 (a3.add (Int.toNat s1.2.1)) fun x4 =>
        callR Try.prog 104 #[(.slice x4.a x4.l x4.c)] w2 fun v5 w3 =>
        ∃ x6 : Sl, v5 = (.slice x6.a x6.l x6.c) ∧
        callR Try.prog 132 #[(.slice x6.a x6.l x6.c)] w3 fun v7 w4 =>
        v7 = (.tuple #[]) ∧
        callR Try.prog 133 #[(.slice x6.a x6.l x6.c)] w4 fun v8 w5 =>
        ∃ x9 : Sl, v8 = (.slice x9.a x9.l x9.c) ∧
        Nw (w5.alloc (.cells #[(.slice x9.a x9.l x9.c)] 32)) fun w6 =>
        appendS Try.prog 22 (.slice s1.1.a s1.1.l s1.1.c) (.slice (some (blk w5.heap.size)) 1 1) w6 fun r10 w7 =>
        n2 (r10, (IntKind.i64.wrap (s1.2.1 + (1 : Int))), ()) w7)
        (R (.slice s1.1.a s1.1.l s1.1.c) w2))
    ((Sl.mk (some (blk w.heap.size)) 0 p0.l), (0 : Int), ()) w1
theorem calls_sorted_calls (p0 : Sl) (R : Value → World → Prop) (w : World) (h : L_calls_sorted p0 R w) : Calls Try.prog 137 #[(.slice p0.a p0.l p0.c)] w (Ret R) :=
  lw_calls (fs := Try.fs) (an := a_calls_sorted) (args := [(.slice p0.a p0.l p0.c)]) Try.fsOK Try.mixed Try.func137 (by kernel_rfl) (by kernel_rfl)
    (Eq.mpr (by kernel_rfl : lwFn Try.prog Try.fs Try.f137 a_calls_sorted [(.slice p0.a p0.l p0.c)] w R = L_calls_sorted p0 R w) h)

/-- intaglio.calls.closed -/
def a_calls_closed : Ann := (.seq none .nil (.seq none .nil (.seq none (.seq none .nil (.one (.loop ⟨[1, 3, 11], [(12, (.b (.int .i64)))]⟩ (.seq none .nil (.seq none (.cond .nil .nil) (.seq none (.one (.seq none .nil (.seq none .nil (.seq none .nil (.seq none .nil (.seq none .nil .nil)))))) .nil)))))) (.seq none .nil .nil))))
def L_calls_closed (p0 : Sl) (R : Value → World → Prop) (w : World) : Prop :=
  Nw (w.alloc (.cells #[(.slice p0.a p0.l p0.c)] 22)) fun w1 =>
  ldS w1 (blk w.heap.size) fun x1 =>
  (0 ≤ (x1.l : Int) ∧ (x1.l : Int) ≤ (x1.l : Int) ∧ (24 : Int) * (x1.l : Int) ≤ 281474976710656 ∧ (x1.l : Int) ≤ 9223372036854775807) ∧
  Nw (w1.alloc (.cells (madeCells #[(.slice none 0 0)] (x1.l * 1)) 126)) fun w2 =>
  ldS w2 (blk w.heap.size) fun x2 =>
  LoopW (S := Int × Unit) (fun s3 w3 n4 =>
      ifB (decide (s3.1 < (x2.l : Int)))
        (ldS w3 (blk w.heap.size) fun x5 =>
        (0 ≤ (x5.l : Int) ∧ (x5.l : Int) ≤ (x5.l : Int) ∧ (1 : Int) * (x5.l : Int) ≤ 281474976710656 ∧ (x5.l : Int) ≤ 9223372036854775807) ∧
        Nw (w3.alloc (.cells (madeCells #[(.bool false)] (x5.l * 1)) 4)) fun w4 =>
        Nw (w4.alloc (.cells #[(.slice none 0 0)] 126)) fun w5 =>
        Wr w5 (blk w4.heap.size) ∧
        Nw (w5.setCell (blk w4.heap.size) (.slice (some (blk w3.heap.size)) x5.l x5.l)) fun w6 =>
        Nw (w6.alloc (.cells #[.nilFunc] 119)) fun w7 =>
        Wr w7 (blk w6.heap.size) ∧
        Nw (w7.setCell (blk w6.heap.size) (.func (.func 178) #[] #[(.pointer (some (blk w4.heap.size))), (.pointer (some (blk w.heap.size))), (.pointer (some (blk w6.heap.size)))])) fun w8 =>
        ldR w8 (blk w6.heap.size) fun x6 =>
        callV Try.prog Try.fs x6 [(.int .i64 s3.1)] w8 fun v7 w9 =>
        v7 = (.tuple #[]) ∧
        ldS w9 (blk w4.heap.size) fun x8 =>
        (0 ≤ s3.1 ∧ s3.1 < (x1.l : Int)) ∧
        Wr w9 ((blk w1.heap.size).add (Int.toNat s3.1)) ∧
        Nw (w9.setCell ((blk w1.heap.size).add (Int.toNat s3.1)) (.slice x8.a x8.l x8.c)) fun w10 =>
        n4 ((IntKind.i64.wrap (s3.1 + (1 : Int))), ()) w10)
        (R (.slice (some (blk w1.heap.size)) x1.l x1.l) w3))
    ((0 : Int), ()) w2
theorem calls_closed_calls (p0 : Sl) (R : Value → World → Prop) (w : World) (h : L_calls_closed p0 R w) : Calls Try.prog 138 #[(.slice p0.a p0.l p0.c)] w (Ret R) :=
  lw_calls (fs := Try.fs) (an := a_calls_closed) (args := [(.slice p0.a p0.l p0.c)]) Try.fsOK Try.mixed Try.func138 (by kernel_rfl) (by kernel_rfl)
    (Eq.mpr (by kernel_rfl : lwFn Try.prog Try.fs Try.f138 a_calls_closed [(.slice p0.a p0.l p0.c)] w R = L_calls_closed p0 R w) h)

/-- intaglio.calls.round -/
def a_calls_round : Ann := (.seq none .nil (.one (.seq none .nil (.seq none (.seq none .nil (.one (.loop ⟨[1, 9, 10], [(11, (.b (.int .i64)))]⟩ (.seq none .nil (.seq none (.cond .nil .nil) (.seq none (.one (.seq none .nil (.seq none (.seq none .nil (.one (.loop ⟨[1, 5, 9, 10, 11, 16, 17], [(18, (.b (.int .i64)))]⟩ (.seq none .nil (.seq none (.cond .nil .nil) (.seq none (.one (.seq none .nil (.seq none .nil (.cond (.seq none .nil .nil) .nil)))) .nil)))))) .nil))) .nil)))))) (.seq none .nil .nil)))))
def L_calls_round (p0 : Sl) (p1 : Sl) (R : Value → World → Prop) (w : World) : Prop :=
  LoopW (S := Int × Unit) (fun s1 w1 n2 =>
      ifB (decide (s1.1 < (p0.l : Int)))
        ((0 ≤ s1.1 ∧ s1.1 < (p0.l : Int)) ∧
        derefP p0.a fun a3 =>
        ldS w1 (a3.add (Int.toNat s1.1)) fun x4 =>
        LoopW (S := Int × Unit) (fun s5 w2 n6 =>
            ifB (decide (s5.1 < (x4.l : Int)))
              ((0 ≤ s5.1 ∧ s5.1 < (x4.l : Int)) ∧
              derefP x4.a fun a7 =>
              ldI w2 (a7.add (Int.toNat s5.1)) .i64 fun x8 =>
              (0 ≤ x8 ∧ x8 < (p1.l : Int)) ∧
              derefP p1.a fun a9 =>
              ldS w2 (a9.add (Int.toNat x8)) fun x10 =>
              (0 ≤ s1.1 ∧ s1.1 < (x10.l : Int)) ∧
              derefP x10.a fun a11 =>
              ldB w2 (a11.add (Int.toNat s1.1)) fun x12 =>
              ifB x12
                (R (.bool true) w2)
                (n6 ((IntKind.i64.wrap (s5.1 + (1 : Int))), ()) w2))
              (n2 ((IntKind.i64.wrap (s1.1 + (1 : Int))), ()) w2))
          ((0 : Int), ()) w1)
        (R (.bool false) w1))
    ((0 : Int), ()) w
theorem calls_round_calls (p0 : Sl) (p1 : Sl) (R : Value → World → Prop) (w : World) (h : L_calls_round p0 p1 R w) : Calls Try.prog 139 #[(.slice p0.a p0.l p0.c), (.slice p1.a p1.l p1.c)] w (Ret R) :=
  lw_calls (fs := Try.fs) (an := a_calls_round) (args := [(.slice p0.a p0.l p0.c), (.slice p1.a p1.l p1.c)]) Try.fsOK Try.mixed Try.func139 (by kernel_rfl) (by kernel_rfl)
    (Eq.mpr (by kernel_rfl : lwFn Try.prog Try.fs Try.f139 a_calls_round [(.slice p0.a p0.l p0.c), (.slice p1.a p1.l p1.c)] w R = L_calls_round p0 p1 R w) h)

/-- intaglio.calls.made -/
def a_calls_made : Ann := (.seq none .nil (.seq (some ⟨[2], [(5, (.b .ptr))]⟩) .nil (.seq none .nil (.seq none .nil (.seq none (.seq none .nil (.one (.loop ⟨[5, 6, 18], [(19, (.b (.int .i64)))]⟩ (.seq none .nil (.seq none (.cond .nil .nil) (.seq none (.one (.seq none .nil .nil)) .nil)))))) (.seq none .nil .nil))))))
def L_calls_made (p0 : Sl) (p1 : Sl) (R : Value → World → Prop) (w : World) : Prop :=
  Nw (w.alloc (.cells #[(.slice p0.a p0.l p0.c)] 22)) fun w1 =>
  JoinW (S := (Option Addr) × Unit) (fun m1 =>
      ldS w1.drew (blk w.heap.size) fun x3 =>
      ldS w1.drew (blk w.heap.size) fun x4 =>
      (Nw (w1.drew.alloc (.cells #[(.int .i64 (-1 : Int))] 3)) fun w2 =>
      w2.cell? (blk w.heap.size) = some (.slice x4.a x4.l x4.c) ∧
      w2.cell? (blk w.heap.size) = some (.slice x3.a x3.l x3.c) ∧
      (callR Try.prog 134 #[(.slice (some (blk w1.drew.heap.size)) 1 1), (.int .i64 (x4.l : Int))] w2 fun v5 w3 =>
      ∃ x6 : Sl, v5 = (.slice x6.a x6.l x6.c) ∧
      w3.cell? (blk w.heap.size) = some (.slice x3.a x3.l x3.c) ∧
      (Nw (w3.alloc (.cells #[(.slice x3.a x3.l x3.c), (.slice p1.a p1.l p1.c), (.slice x6.a x6.l x6.c)] 133)) fun w4 =>
      Nw (w4.alloc (.cells #[(.pointer none)] 65)) fun w5 =>
      Wr w5 (blk w4.heap.size) ∧
      Nw (w5.setCell (blk w4.heap.size) (.pointer (some (blk w3.heap.size)))) fun w6 =>
      m1 ((some (blk w4.heap.size)), ()) w6) ∧
      Nw (w3.alloc (.cells #[(.pointer none)] 65)) fun w7 =>
      w7.cell? (blk w.heap.size) = some (.slice x3.a x3.l x3.c) ∧
      Nw (w7.alloc (.cells #[(.slice x3.a x3.l x3.c), (.slice p1.a p1.l p1.c), (.slice x6.a x6.l x6.c)] 133)) fun w8 =>
      Wr w8 (blk w3.heap.size) ∧
      Nw (w8.setCell (blk w3.heap.size) (.pointer (some (blk w7.heap.size)))) fun w9 =>
      m1 ((some (blk w3.heap.size)), ()) w9) ∧
      Nw (w2.alloc (.cells #[(.pointer none)] 65)) fun w10 =>
      w10.cell? (blk w.heap.size) = some (.slice x4.a x4.l x4.c) ∧
      w10.cell? (blk w.heap.size) = some (.slice x3.a x3.l x3.c) ∧
      callR Try.prog 134 #[(.slice (some (blk w1.drew.heap.size)) 1 1), (.int .i64 (x4.l : Int))] w10 fun v7 w11 =>
      ∃ x8 : Sl, v7 = (.slice x8.a x8.l x8.c) ∧
      w11.cell? (blk w.heap.size) = some (.slice x3.a x3.l x3.c) ∧
      Nw (w11.alloc (.cells #[(.slice x3.a x3.l x3.c), (.slice p1.a p1.l p1.c), (.slice x8.a x8.l x8.c)] 133)) fun w12 =>
      Wr w12 (blk w2.heap.size) ∧
      Nw (w12.setCell (blk w2.heap.size) (.pointer (some (blk w11.heap.size)))) fun w13 =>
      m1 ((some (blk w2.heap.size)), ()) w13) ∧
      Nw (w1.drew.alloc (.cells #[(.pointer none)] 65)) fun w14 =>
      w14.cell? (blk w.heap.size) = some (.slice x4.a x4.l x4.c) ∧
      w14.cell? (blk w.heap.size) = some (.slice x3.a x3.l x3.c) ∧
      Nw (w14.alloc (.cells #[(.int .i64 (-1 : Int))] 3)) fun w15 =>
      w15.cell? (blk w.heap.size) = some (.slice x4.a x4.l x4.c) ∧
      w15.cell? (blk w.heap.size) = some (.slice x3.a x3.l x3.c) ∧
      callR Try.prog 134 #[(.slice (some (blk w14.heap.size)) 1 1), (.int .i64 (x4.l : Int))] w15 fun v9 w16 =>
      ∃ x10 : Sl, v9 = (.slice x10.a x10.l x10.c) ∧
      w16.cell? (blk w.heap.size) = some (.slice x3.a x3.l x3.c) ∧
      Nw (w16.alloc (.cells #[(.slice x3.a x3.l x3.c), (.slice p1.a p1.l p1.c), (.slice x10.a x10.l x10.c)] 133)) fun w17 =>
      Wr w17 (blk w1.drew.heap.size) ∧
      Nw (w17.setCell (blk w1.drew.heap.size) (.pointer (some (blk w16.heap.size)))) fun w18 =>
      m1 ((some (blk w1.drew.heap.size)), ()) w18)
    (fun s2 w19 =>
      Nw (w19.alloc (.cells #[.nilFunc] 52)) fun w20 =>
      Wr w20 (blk w19.heap.size) ∧
      Nw (w20.setCell (blk w19.heap.size) (.func (.func 179) #[] #[(.pointer s2.1), (.pointer (some (blk w.heap.size))), (.pointer (some (blk w19.heap.size)))])) fun w21 =>
      ldS w21 (blk w.heap.size) fun x11 =>
      LoopW (S := Int × Unit) (fun s12 w22 n13 =>
          ifB (decide (s12.1 < (x11.l : Int)))
            (ldR w22 (blk w19.heap.size) fun x14 =>
            callV Try.prog Try.fs x14 [(.int .i64 s12.1)] w22 fun v15 w23 =>
            ∃ x16 : Int, v15 = (.int .i64 x16) ∧
            n13 ((IntKind.i64.wrap (s12.1 + (1 : Int))), ()) w23)
            (derefP s2.1 fun a17 =>
            ldP w22 a17 fun x18 =>
            R (.pointer x18) w22))
        ((0 : Int), ()) w21)
theorem calls_made_calls (p0 : Sl) (p1 : Sl) (R : Value → World → Prop) (w : World) (h : L_calls_made p0 p1 R w) : Calls Try.prog 140 #[(.slice p0.a p0.l p0.c), (.slice p1.a p1.l p1.c)] w (Ret R) :=
  lw_calls (fs := Try.fs) (an := a_calls_made) (args := [(.slice p0.a p0.l p0.c), (.slice p1.a p1.l p1.c)]) Try.fsOK Try.mixed Try.func140 (by kernel_rfl) (by kernel_rfl)
    (Eq.mpr (by kernel_rfl : lwFn Try.prog Try.fs Try.f140 a_calls_made [(.slice p0.a p0.l p0.c), (.slice p1.a p1.l p1.c)] w R = L_calls_made p0 p1 R w) h)

/-- intaglio.intaglioref17.Reaches -/
def a_intaglioref17_Reaches : Ann := (.seq none .nil (.seq none .nil (.seq none (.seq none .nil (.one (.loop ⟨[0], [(3, (.b .slice)), (4, (.b (.int .i64)))]⟩ (.seq none (.seq none .nil (.cond .nil .nil)) (.seq none (.one (.seq none .nil (.seq none .nil .nil))) .nil))))) (.seq none .nil (.seq none (.one (.loop ⟨[0, 3], [(6, (.b .bool))]⟩ (.seq none (.seq none .nil (.cond .nil .nil)) (.one (.seq none .nil (.seq none .nil (.one (.loop ⟨[0, 3], [(6, (.b .bool)), (7, (.b (.int .i64)))]⟩ (.seq none (.seq none .nil (.cond .nil .nil)) (.seq none (.one (.seq none .nil (.one (.loop ⟨[0, 3, 7], [(6, (.b .bool)), (8, (.b (.int .i64)))]⟩ (.seq none (.seq none .nil (.cond .nil .nil)) (.seq none (.one (.seq none .nil (.one (.loop ⟨[0, 3, 7, 8], [(6, (.b .bool)), (9, (.b (.int .i64)))]⟩ (.seq none (.seq none .nil (.cond .nil .nil)) (.seq (some ⟨[0, 3, 7, 8, 9], [(6, (.b .bool))]⟩) (.one (.seq none .nil (.cond (.seq none .nil .nil) .nil))) .nil)))))) .nil)))))) .nil)))))))))) (.seq none .nil .nil))))))
def L_intaglioref17_Reaches (p0 : Sl) (R : Value → World → Prop) (w : World) : Prop :=
  LoopW (S := Sl × Int × Unit) (fun s1 w1 n2 =>
      ifB (decide (s1.2.1 < (p0.l : Int)))
        ((0 ≤ (p0.l : Int) ∧ (p0.l : Int) ≤ (p0.l : Int) ∧ (1 : Int) * (p0.l : Int) ≤ 281474976710656 ∧ (p0.l : Int) ≤ 9223372036854775807) ∧
        Nw (w1.alloc (.cells (madeCells #[(.bool false)] (p0.l * 1)) 4)) fun w2 =>
        (0 ≤ s1.2.1 ∧ s1.2.1 < (p0.l : Int)) ∧
        Wr w2 ((blk w1.heap.size).add (Int.toNat s1.2.1)) ∧
        Nw (w2.setCell ((blk w1.heap.size).add (Int.toNat s1.2.1)) (.bool true)) fun w3 =>
        Nw (w3.alloc (.cells #[(.slice (some (blk w1.heap.size)) p0.l p0.l)] 126)) fun w4 =>
        appendS Try.prog 50 (.slice s1.1.a s1.1.l s1.1.c) (.slice (some (blk w3.heap.size)) 1 1) w4 fun r3 w5 =>
        n2 (r3, (IntKind.i64.wrap (s1.2.1 + (1 : Int))), ()) w5)
        (LoopW (S := Bool × Unit) (fun s4 w6 n5 =>
            ifB s4.1
              (LoopW (S := Bool × Int × Unit) (fun s6 w7 n7 =>
                  ifB (decide (s6.2.1 < (p0.l : Int)))
                    (LoopW (S := Bool × Int × Unit) (fun s8 w8 n9 =>
                        (0 ≤ s6.2.1 ∧ s6.2.1 < (p0.l : Int)) ∧
                        derefP p0.a fun a10 =>
                        ldS w8 (a10.add (Int.toNat s6.2.1)) fun x11 =>
                        ifB (decide (s8.2.1 < (x11.l : Int)))
                          (LoopW (S := Bool × Int × Unit) (fun s12 w9 n13 =>
                              ifB (decide (s12.2.1 < (p0.l : Int)))
                                (JoinW (S := Bool × Unit) (fun m14 =>
                                    (0 ≤ s6.2.1 ∧ s6.2.1 < (p0.l : Int)) ∧
                                    derefP p0.a fun a16 =>
                                    ldS w9 (a16.add (Int.toNat s6.2.1)) fun x17 =>
                                    (0 ≤ s8.2.1 ∧ s8.2.1 < (x17.l : Int)) ∧
                                    derefP x17.a fun a18 =>
                                    ldI w9 (a18.add (Int.toNat s8.2.1)) .i64 fun x19 =>
                                    (0 ≤ x19 ∧ x19 < (s1.1.l : Int)) ∧
                                    derefP s1.1.a fun a20 =>
                                    ldS w9 (a20.add (Int.toNat x19)) fun x21 =>
                                    (0 ≤ s12.2.1 ∧ s12.2.1 < (x21.l : Int)) ∧
                                    derefP x21.a fun a22 =>
                                    ldB w9 (a22.add (Int.toNat s12.2.1)) fun x23 =>
                                    ifB x23
                                      ((0 ≤ s6.2.1 ∧ s6.2.1 < (s1.1.l : Int)) ∧
                                      derefP s1.1.a fun a24 =>
                                      ldS w9 (a24.add (Int.toNat s6.2.1)) fun x25 =>
                                      (0 ≤ s12.2.1 ∧ s12.2.1 < (x25.l : Int)) ∧
                                      derefP x25.a fun a26 =>
                                      ldB w9 (a26.add (Int.toNat s12.2.1)) fun x27 =>
                                      ifB (!x27)
                                        ((0 ≤ s6.2.1 ∧ s6.2.1 < (s1.1.l : Int)) ∧
                                        derefP s1.1.a fun a28 =>
                                        ldS w9 (a28.add (Int.toNat s6.2.1)) fun x29 =>
                                        (0 ≤ s12.2.1 ∧ s12.2.1 < (x29.l : Int)) ∧
                                        derefP x29.a fun a30 =>
                                        Wr w9 (a30.add (Int.toNat s12.2.1)) ∧
                                        Nw (w9.setCell (a30.add (Int.toNat s12.2.1)) (.bool true)) fun w10 =>
                                        m14 (true, ()) w10)
                                        (m14 (s12.1, ()) w9))
                                      (m14 (s12.1, ()) w9))
                                  (fun s15 w11 =>
                                    n13 (s15.1, (IntKind.i64.wrap (s12.2.1 + (1 : Int))), ()) w11))
                                (n9 (s12.1, (IntKind.i64.wrap (s8.2.1 + (1 : Int))), ()) w9))
                            (s8.1, (0 : Int), ()) w8)
                          (n7 (s8.1, (IntKind.i64.wrap (s6.2.1 + (1 : Int))), ()) w8))
                      (s6.1, (0 : Int), ()) w7)
                    (n5 (s6.1, ()) w7))
                (false, (0 : Int), ()) w6)
              (R (.slice s1.1.a s1.1.l s1.1.c) w6))
          (true, ()) w1))
    ((Sl.mk none 0 0), (0 : Int), ()) w
theorem intaglioref17_Reaches_calls (p0 : Sl) (R : Value → World → Prop) (w : World) (h : L_intaglioref17_Reaches p0 R w) : Calls Try.prog 141 #[(.slice p0.a p0.l p0.c)] w (Ret R) :=
  lw_calls (fs := Try.fs) (an := a_intaglioref17_Reaches) (args := [(.slice p0.a p0.l p0.c)]) Try.fsOK Try.mixed Try.func141 (by kernel_rfl) (by kernel_rfl)
    (Eq.mpr (by kernel_rfl : lwFn Try.prog Try.fs Try.f141 a_intaglioref17_Reaches [(.slice p0.a p0.l p0.c)] w R = L_intaglioref17_Reaches p0 R w) h)

/-- intaglio.intaglioref17.Calls -/
def a_intaglioref17_Calls : Ann := (.seq none .nil (.seq none .nil (.seq none (.seq none .nil (.one (.loop ⟨[0, 1], [(5, (.b .slice)), (6, (.b (.int .i64)))]⟩ (.seq (some ⟨[0, 1, 5, 6], []⟩) (.seq none .nil (.cond .nil .nil)) (.seq (some ⟨[0, 1, 6], [(5, (.b .slice))]⟩) (.one (.seq none .nil (.seq none (.seq none .nil (.one (.loop ⟨[0, 1, 5, 6], [(7, (.b .bool)), (8, (.b (.int .i64)))]⟩ (.seq none (.seq none .nil (.cond .nil .nil)) (.seq (some ⟨[0, 1, 5, 6, 8], [(7, (.b .bool))]⟩) (.one (.seq none .nil (.cond .nil .nil))) .nil))))) (.seq none .nil (.cond .nil .nil))))) .nil))))) (.seq none .nil .nil))))
def L_intaglioref17_Calls (p0 : Sl) (p1 : Int) (R : Value → World → Prop) (w : World) : Prop :=
  LoopW (S := Sl × Int × Unit) (fun s1 w1 n2 =>
      JoinW (S := Unit) (fun m3 =>
          ifB (decide (s1.2.1 < (p0.l : Int)))
            (ifB (decide (p1 ≥ (0 : Int)))
              (ifB (decide (p1 < (p0.l : Int)))
                (m3 (()) w1)
                (R (.slice s1.1.a s1.1.l s1.1.c) w1))
              (R (.slice s1.1.a s1.1.l s1.1.c) w1))
            (R (.slice s1.1.a s1.1.l s1.1.c) w1))
        (fun s4 w2 =>
          JoinW (S := Sl × Unit) (fun m5 =>
              LoopW (S := Bool × Int × Unit) (fun s7 w3 n8 =>
                  (0 ≤ p1 ∧ p1 < (p0.l : Int)) ∧
                  derefP p0.a fun a9 =>
                  ldS w3 (a9.add (Int.toNat p1)) fun x10 =>
                  ifB (decide (s7.2.1 < (x10.l : Int)))
                    (JoinW (S := Bool × Unit) (fun m11 =>
                        (0 ≤ p1 ∧ p1 < (p0.l : Int)) ∧
                        derefP p0.a fun a13 =>
                        ldS w3 (a13.add (Int.toNat p1)) fun x14 =>
                        (0 ≤ s7.2.1 ∧ s7.2.1 < (x14.l : Int)) ∧
                        derefP x14.a fun a15 =>
                        ldI w3 (a15.add (Int.toNat s7.2.1)) .i64 fun x16 =>
                        ifB (x16 == s1.2.1)
                          (m11 (true, ()) w3)
                          (m11 (s7.1, ()) w3))
                      (fun s12 w4 =>
                        n8 (s12.1, (IntKind.i64.wrap (s7.2.1 + (1 : Int))), ()) w4))
                    (ifB s7.1
                      (Nw (w3.alloc (.cells #[(.int .i64 s1.2.1)] 3)) fun w5 =>
                      appendS Try.prog 32 (.slice s1.1.a s1.1.l s1.1.c) (.slice (some (blk w3.heap.size)) 1 1) w5 fun r17 w6 =>
                      m5 (r17, ()) w6)
                      (m5 (s1.1, ()) w3)))
                (false, (0 : Int), ()) w2)
            (fun s6 w7 =>
              n2 (s6.1, (IntKind.i64.wrap (s1.2.1 + (1 : Int))), ()) w7)))
    ((Sl.mk none 0 0), (0 : Int), ()) w
theorem intaglioref17_Calls_calls (p0 : Sl) (p1 : Int) (R : Value → World → Prop) (w : World) (h : L_intaglioref17_Calls p0 p1 R w) : Calls Try.prog 142 #[(.slice p0.a p0.l p0.c), (.int .i64 p1)] w (Ret R) :=
  lw_calls (fs := Try.fs) (an := a_intaglioref17_Calls) (args := [(.slice p0.a p0.l p0.c), (.int .i64 p1)]) Try.fsOK Try.mixed Try.func142 (by kernel_rfl) (by kernel_rfl)
    (Eq.mpr (by kernel_rfl : lwFn Try.prog Try.fs Try.f142 a_intaglioref17_Calls [(.slice p0.a p0.l p0.c), (.int .i64 p1)] w R = L_intaglioref17_Calls p0 p1 R w) h)

/-- intaglio.intaglioref17.Called -/
def a_intaglioref17_Called : Ann := (.seq none .nil (.seq none .nil (.seq none (.seq none .nil (.one (.loop ⟨[0, 1], [(5, (.b .slice)), (6, (.b (.int .i64)))]⟩ (.seq none (.seq none .nil (.cond .nil .nil)) (.seq (some ⟨[0, 1, 6], [(5, (.b .slice))]⟩) (.one (.seq none .nil (.seq none (.seq none .nil (.one (.loop ⟨[0, 1, 5, 6], [(7, (.b .bool)), (8, (.b (.int .i64)))]⟩ (.seq none (.seq none .nil (.cond .nil .nil)) (.seq (some ⟨[0, 1, 5, 6, 8], [(7, (.b .bool))]⟩) (.one (.seq none .nil (.cond .nil .nil))) .nil))))) (.seq none .nil (.cond .nil .nil))))) .nil))))) (.seq none .nil .nil))))
def L_intaglioref17_Called (p0 : Sl) (p1 : Int) (R : Value → World → Prop) (w : World) : Prop :=
  LoopW (S := Sl × Int × Unit) (fun s1 w1 n2 =>
      ifB (decide (s1.2.1 < (p0.l : Int)))
        (JoinW (S := Sl × Unit) (fun m3 =>
            LoopW (S := Bool × Int × Unit) (fun s5 w2 n6 =>
                (0 ≤ s1.2.1 ∧ s1.2.1 < (p0.l : Int)) ∧
                derefP p0.a fun a7 =>
                ldS w2 (a7.add (Int.toNat s1.2.1)) fun x8 =>
                ifB (decide (s5.2.1 < (x8.l : Int)))
                  (JoinW (S := Bool × Unit) (fun m9 =>
                      (0 ≤ s1.2.1 ∧ s1.2.1 < (p0.l : Int)) ∧
                      derefP p0.a fun a11 =>
                      ldS w2 (a11.add (Int.toNat s1.2.1)) fun x12 =>
                      (0 ≤ s5.2.1 ∧ s5.2.1 < (x12.l : Int)) ∧
                      derefP x12.a fun a13 =>
                      ldI w2 (a13.add (Int.toNat s5.2.1)) .i64 fun x14 =>
                      ifB (x14 == p1)
                        (m9 (true, ()) w2)
                        (m9 (s5.1, ()) w2))
                    (fun s10 w3 =>
                      n6 (s10.1, (IntKind.i64.wrap (s5.2.1 + (1 : Int))), ()) w3))
                  (ifB s5.1
                    (Nw (w2.alloc (.cells #[(.int .i64 s1.2.1)] 3)) fun w4 =>
                    appendS Try.prog 32 (.slice s1.1.a s1.1.l s1.1.c) (.slice (some (blk w2.heap.size)) 1 1) w4 fun r15 w5 =>
                    m3 (r15, ()) w5)
                    (m3 (s1.1, ()) w2)))
              (false, (0 : Int), ()) w1)
          (fun s4 w6 =>
            n2 (s4.1, (IntKind.i64.wrap (s1.2.1 + (1 : Int))), ()) w6))
        (R (.slice s1.1.a s1.1.l s1.1.c) w1))
    ((Sl.mk none 0 0), (0 : Int), ()) w
theorem intaglioref17_Called_calls (p0 : Sl) (p1 : Int) (R : Value → World → Prop) (w : World) (h : L_intaglioref17_Called p0 p1 R w) : Calls Try.prog 143 #[(.slice p0.a p0.l p0.c), (.int .i64 p1)] w (Ret R) :=
  lw_calls (fs := Try.fs) (an := a_intaglioref17_Called) (args := [(.slice p0.a p0.l p0.c), (.int .i64 p1)]) Try.fsOK Try.mixed Try.func143 (by kernel_rfl) (by kernel_rfl)
    (Eq.mpr (by kernel_rfl : lwFn Try.prog Try.fs Try.f143 a_intaglioref17_Called [(.slice p0.a p0.l p0.c), (.int .i64 p1)] w R = L_intaglioref17_Called p0 p1 R w) h)

/-- intaglio.intaglioref17.Deep -/
def a_intaglioref17_Deep : Ann := (.seq none .nil (.seq (some ⟨[0, 1], []⟩) (.seq none .nil (.cond (.seq none .nil .nil) .nil)) (.seq none .nil .nil)))
def L_intaglioref17_Deep (p0 : Sl) (p1 : Int) (R : Value → World → Prop) (w : World) : Prop :=
  JoinW (S := Unit) (fun m1 =>
      ifB (decide (p1 < (0 : Int)))
        (R (.int .i64 (-1 : Int)) w)
        (ifB (decide (p1 ≥ (p0.l : Int)))
          (R (.int .i64 (-1 : Int)) w)
          (m1 (()) w)))
    (fun s2 w1 =>
      callR Try.prog 180 #[(.slice p0.a p0.l p0.c)] w1 fun v3 w2 =>
      ∃ x4 : Sl, v3 = (.slice x4.a x4.l x4.c) ∧
      (0 ≤ p1 ∧ p1 < (x4.l : Int)) ∧
      derefP x4.a fun a5 =>
      ldI w2 (a5.add (Int.toNat p1)) .i64 fun x6 =>
      R (.int .i64 x6) w2)
theorem intaglioref17_Deep_calls (p0 : Sl) (p1 : Int) (R : Value → World → Prop) (w : World) (h : L_intaglioref17_Deep p0 p1 R w) : Calls Try.prog 144 #[(.slice p0.a p0.l p0.c), (.int .i64 p1)] w (Ret R) :=
  lw_calls (fs := Try.fs) (an := a_intaglioref17_Deep) (args := [(.slice p0.a p0.l p0.c), (.int .i64 p1)]) Try.fsOK Try.mixed Try.func144 (by kernel_rfl) (by kernel_rfl)
    (Eq.mpr (by kernel_rfl : lwFn Try.prog Try.fs Try.f144 a_intaglioref17_Deep [(.slice p0.a p0.l p0.c), (.int .i64 p1)] w R = L_intaglioref17_Deep p0 p1 R w) h)

/-- intaglio.intaglioref17.Reached -/
def a_intaglioref17_Reached : Ann := (.seq none .nil (.seq none .nil (.seq none .nil (.seq none (.seq none .nil (.one (.loop ⟨[0, 1, 6], [(5, (.b .slice)), (7, (.b (.int .i64)))]⟩ (.seq (some ⟨[0, 1, 5, 6, 7], []⟩) (.seq none .nil (.cond .nil .nil)) (.seq (some ⟨[0, 1, 6, 7], [(5, (.b .slice))]⟩) (.one (.seq none .nil (.cond .nil .nil))) .nil))))) (.seq none .nil .nil)))))
def L_intaglioref17_Reached (p0 : Sl) (p1 : Int) (R : Value → World → Prop) (w : World) : Prop :=
  callR Try.prog 141 #[(.slice p0.a p0.l p0.c)] w fun v1 w1 =>
  ∃ x2 : Sl, v1 = (.slice x2.a x2.l x2.c) ∧
  LoopW (S := Sl × Int × Unit) (fun s3 w2 n4 =>
      JoinW (S := Unit) (fun m5 =>
          ifB (decide (s3.2.1 < (p0.l : Int)))
            (ifB (decide (p1 ≥ (0 : Int)))
              (ifB (decide (p1 < (p0.l : Int)))
                (m5 (()) w2)
                (R (.slice s3.1.a s3.1.l s3.1.c) w2))
              (R (.slice s3.1.a s3.1.l s3.1.c) w2))
            (R (.slice s3.1.a s3.1.l s3.1.c) w2))
        (fun s6 w3 =>
          JoinW (S := Sl × Unit) (fun m7 =>
              (0 ≤ p1 ∧ p1 < (x2.l : Int)) ∧
              derefP x2.a fun a9 =>
              ldS w3 (a9.add (Int.toNat p1)) fun x10 =>
              (0 ≤ s3.2.1 ∧ s3.2.1 < (x10.l : Int)) ∧
              derefP x10.a fun a11 =>
              ldB w3 (a11.add (Int.toNat s3.2.1)) fun x12 =>
              ifB x12
                (Nw (w3.alloc (.cells #[(.int .i64 s3.2.1)] 3)) fun w4 =>
                appendS Try.prog 32 (.slice s3.1.a s3.1.l s3.1.c) (.slice (some (blk w3.heap.size)) 1 1) w4 fun r13 w5 =>
                m7 (r13, ()) w5)
                (m7 (s3.1, ()) w3))
            (fun s8 w6 =>
              n4 (s8.1, (IntKind.i64.wrap (s3.2.1 + (1 : Int))), ()) w6)))
    ((Sl.mk none 0 0), (0 : Int), ()) w1
theorem intaglioref17_Reached_calls (p0 : Sl) (p1 : Int) (R : Value → World → Prop) (w : World) (h : L_intaglioref17_Reached p0 p1 R w) : Calls Try.prog 145 #[(.slice p0.a p0.l p0.c), (.int .i64 p1)] w (Ret R) :=
  lw_calls (fs := Try.fs) (an := a_intaglioref17_Reached) (args := [(.slice p0.a p0.l p0.c), (.int .i64 p1)]) Try.fsOK Try.mixed Try.func145 (by kernel_rfl) (by kernel_rfl)
    (Eq.mpr (by kernel_rfl : lwFn Try.prog Try.fs Try.f145 a_intaglioref17_Reached [(.slice p0.a p0.l p0.c), (.int .i64 p1)] w R = L_intaglioref17_Reached p0 p1 R w) h)

/-- intaglio.intaglioref17.Order -/
def a_intaglioref17_Order : Ann := (.seq none .nil (.seq none .nil (.seq none .nil (.seq none (.seq none .nil (.one (.loop ⟨[0, 4], [(3, (.b .slice)), (5, (.b (.int .i64)))]⟩ (.seq none (.seq none .nil (.cond .nil .nil)) (.seq none (.one (.seq none .nil (.one (.loop ⟨[0, 4, 5], [(3, (.b .slice)), (6, (.b (.int .i64)))]⟩ (.seq none (.seq none .nil (.cond .nil .nil)) (.seq (some ⟨[0, 4, 5, 6], [(3, (.b .slice))]⟩) (.one (.seq none .nil (.cond .nil .nil))) .nil)))))) .nil))))) (.seq none .nil .nil)))))
def L_intaglioref17_Order (p0 : Sl) (R : Value → World → Prop) (w : World) : Prop :=
  callR Try.prog 180 #[(.slice p0.a p0.l p0.c)] w fun v1 w1 =>
  ∃ x2 : Sl, v1 = (.slice x2.a x2.l x2.c) ∧
  LoopW (S := Sl × Int × Unit) (fun s3 w2 n4 =>
      ifB (decide (s3.2.1 < (p0.l : Int)))
        (LoopW (S := Sl × Int × Unit) (fun s5 w3 n6 =>
            ifB (decide (s5.2.1 < (p0.l : Int)))
              (JoinW (S := Sl × Unit) (fun m7 =>
                  (0 ≤ s5.2.1 ∧ s5.2.1 < (x2.l : Int)) ∧
                  derefP x2.a fun a9 =>
                  ldI w3 (a9.add (Int.toNat s5.2.1)) .i64 fun x10 =>
                  ifB (x10 == s3.2.1)
                    (Nw (w3.alloc (.cells #[(.int .i64 s5.2.1)] 3)) fun w4 =>
                    appendS Try.prog 32 (.slice s5.1.a s5.1.l s5.1.c) (.slice (some (blk w3.heap.size)) 1 1) w4 fun r11 w5 =>
                    m7 (r11, ()) w5)
                    (m7 (s5.1, ()) w3))
                (fun s8 w6 =>
                  n6 (s8.1, (IntKind.i64.wrap (s5.2.1 + (1 : Int))), ()) w6))
              (n4 (s5.1, (IntKind.i64.wrap (s3.2.1 + (1 : Int))), ()) w3))
          (s3.1, (0 : Int), ()) w2)
        (R (.slice s3.1.a s3.1.l s3.1.c) w2))
    ((Sl.mk none 0 0), (0 : Int), ()) w1
theorem intaglioref17_Order_calls (p0 : Sl) (R : Value → World → Prop) (w : World) (h : L_intaglioref17_Order p0 R w) : Calls Try.prog 146 #[(.slice p0.a p0.l p0.c)] w (Ret R) :=
  lw_calls (fs := Try.fs) (an := a_intaglioref17_Order) (args := [(.slice p0.a p0.l p0.c)]) Try.fsOK Try.mixed Try.func146 (by kernel_rfl) (by kernel_rfl)
    (Eq.mpr (by kernel_rfl : lwFn Try.prog Try.fs Try.f146 a_intaglioref17_Order [(.slice p0.a p0.l p0.c)] w R = L_intaglioref17_Order p0 R w) h)

/-- slices.Index[[]int,int] -/
def a_slices_Index_sint_int : Ann := (.seq none .nil (.seq none (.seq none .nil (.one (.loop ⟨[0, 1, 7], [(8, (.b (.int .i64)))]⟩ (.seq none .nil (.seq none (.cond .nil .nil) (.seq none (.one (.seq none .nil (.seq none .nil (.cond (.seq none .nil .nil) .nil)))) .nil)))))) (.seq none .nil .nil)))
def L_slices_Index_sint_int (p0 : Sl) (p1 : Int) (R : Value → World → Prop) (w : World) : Prop :=
  LoopW (S := Int × Unit) (fun s1 w1 n2 =>
      ifB (decide (s1.1 < (p0.l : Int)))
        ((0 ≤ s1.1 ∧ s1.1 < (p0.l : Int)) ∧
        derefP p0.a fun a3 =>
        ldI w1 (a3.add (Int.toNat s1.1)) .i64 fun x4 =>
        ifB (p1 == x4)
          (R (.int .i64 s1.1) w1)
          (n2 ((IntKind.i64.wrap (s1.1 + (1 : Int))), ()) w1))
        (R (.int .i64 (-1 : Int)) w1))
    ((0 : Int), ()) w
theorem slices_Index_sint_int_calls (p0 : Sl) (p1 : Int) (R : Value → World → Prop) (w : World) (h : L_slices_Index_sint_int p0 p1 R w) : Calls Try.prog 151 #[(.slice p0.a p0.l p0.c), (.int .i64 p1)] w (Ret R) :=
  lw_calls (fs := Try.fs) (an := a_slices_Index_sint_int) (args := [(.slice p0.a p0.l p0.c), (.int .i64 p1)]) Try.fsOK Try.mixed Try.func151 (by kernel_rfl) (by kernel_rfl)
    (Eq.mpr (by kernel_rfl : lwFn Try.prog Try.fs Try.f151 a_slices_Index_sint_int [(.slice p0.a p0.l p0.c), (.int .i64 p1)] w R = L_slices_Index_sint_int p0 p1 R w) h)

/-- slices.stableCmpFunc[int] -/
def a_slices_stableCmpFunc_int : Ann := (.seq none .nil (.seq none .nil (.seq none (.one (.loop ⟨[0, 1, 2, 6], [(7, (.b (.int .i64))), (8, (.b (.int .i64)))]⟩ (.seq none (.seq none .nil (.cond .nil .nil)) (.one (.seq none .nil (.seq none .nil .nil)))))) (.seq none .nil (.one (.loop ⟨[0, 1, 2], [(6, (.b (.int .i64)))]⟩ (.seq none (.seq none .nil (.cond .nil .nil)) (.one (.seq none .nil (.seq none (.one (.loop ⟨[0, 1, 2, 6], [(7, (.b (.int .i64))), (8, (.b (.int .i64)))]⟩ (.seq none (.seq none .nil (.cond .nil .nil)) (.one (.seq none .nil (.seq none .nil .nil)))))) (.seq (some ⟨[0, 1, 2, 6], []⟩) (.seq none .nil (.seq none .nil (.cond .nil .nil))) .nil)))))))))))
def L_slices_stableCmpFunc_int (p0 : Sl) (p1 : Int) (p2 : Value) (R : Value → World → Prop) (w : World) : Prop :=
  LoopW (S := Int × Int × Unit) (fun s1 w1 n2 =>
      ifB (decide (s1.2.1 ≤ p1))
        (callR Try.prog 181 #[(.slice p0.a p0.l p0.c), (.int .i64 s1.1), (.int .i64 s1.2.1), p2] w1 fun v3 w2 =>
        v3 = (.tuple #[]) ∧
        n2 (s1.2.1, (IntKind.i64.wrap (s1.2.1 + (20 : Int))), ()) w2)
        (callR Try.prog 181 #[(.slice p0.a p0.l p0.c), (.int .i64 s1.1), (.int .i64 p1), p2] w1 fun v4 w3 =>
        v4 = (.tuple #[]) ∧
        LoopW (S := Int × Unit) (fun s5 w4 n6 =>
            ifB (decide (s5.1 < p1))
              (LoopW (S := Int × Int × Unit) (fun s7 w5 n8 =>
                  ifB (decide (s7.2.1 ≤ p1))
                    (callR Try.prog 182 #[(.slice p0.a p0.l p0.c), (.int .i64 s7.1), (.int .i64 (IntKind.i64.wrap (s7.1 + s5.1))), (.int .i64 s7.2.1), p2] w5 fun v9 w6 =>
                    v9 = (.tuple #[]) ∧
                    n8 (s7.2.1, (IntKind.i64.wrap (s7.2.1 + (IntKind.i64.wrap ((2 : Int) * s5.1)))), ()) w6)
                    (JoinW (S := Unit) (fun m10 =>
                        ifB (decide ((IntKind.i64.wrap (s7.1 + s5.1)) < p1))
                          (callR Try.prog 182 #[(.slice p0.a p0.l p0.c), (.int .i64 s7.1), (.int .i64 (IntKind.i64.wrap (s7.1 + s5.1))), (.int .i64 p1), p2] w5 fun v12 w7 =>
                          v12 = (.tuple #[]) ∧
                          m10 (()) w7)
                          (m10 (()) w5))
                      (fun s11 w8 =>
                        n6 ((IntKind.i64.wrap (s5.1 * (2 : Int))), ()) w8)))
                ((0 : Int), (IntKind.i64.wrap ((2 : Int) * s5.1)), ()) w4)
              (R (.tuple #[]) w4))
          ((20 : Int), ()) w3))
    ((0 : Int), (20 : Int), ()) w
theorem slices_stableCmpFunc_int_calls (p0 : Sl) (p1 : Int) (p2 : Value) (R : Value → World → Prop) (w : World) (h : L_slices_stableCmpFunc_int p0 p1 p2 R w) : Calls Try.prog 152 #[(.slice p0.a p0.l p0.c), (.int .i64 p1), p2] w (Ret R) :=
  lw_calls (fs := Try.fs) (an := a_slices_stableCmpFunc_int) (args := [(.slice p0.a p0.l p0.c), (.int .i64 p1), p2]) Try.fsOK Try.mixed Try.func152 (by kernel_rfl) (by kernel_rfl)
    (Eq.mpr (by kernel_rfl : lwFn Try.prog Try.fs Try.f152 a_slices_stableCmpFunc_int [(.slice p0.a p0.l p0.c), (.int .i64 p1), p2] w R = L_slices_stableCmpFunc_int p0 p1 p2 R w) h)

/-- cmp.isNaN[int] -/
def a_cmp_isNaN_int : Ann := (.seq none .nil (.seq none .nil .nil))
def L_cmp_isNaN_int (p0 : Int) (R : Value → World → Prop) (w : World) : Prop :=
  R (.bool (p0 != p0)) w
theorem cmp_isNaN_int_calls (p0 : Int) (R : Value → World → Prop) (w : World) (h : L_cmp_isNaN_int p0 R w) : Calls Try.prog 153 #[(.int .i64 p0)] w (Ret R) :=
  lw_calls (fs := Try.fs) (an := a_cmp_isNaN_int) (args := [(.int .i64 p0)]) Try.fsOK Try.mixed Try.func153 (by kernel_rfl) (by kernel_rfl)
    (Eq.mpr (by kernel_rfl : lwFn Try.prog Try.fs Try.f153 a_cmp_isNaN_int [(.int .i64 p0)] w R = L_cmp_isNaN_int p0 R w) h)

/-- intaglio.calls.closed 1 -/
def a_calls_closed_1 : Ann := (.seq none (.seq none .nil (.cond .nil .nil)) (.seq none .nil (.seq none .nil (.one (.loop ⟨[3, 17, 18], [(19, (.b (.int .i64)))]⟩ (.seq none .nil (.seq none (.cond .nil .nil) (.seq none (.one (.seq none .nil .nil)) .nil))))))))
def L_calls_closed_1 (p0 : Int) (c0 : Addr) (c1 : Addr) (c2 : Addr) (R : Value → World → Prop) (w : World) : Prop :=
  ldS w c0 fun x1 =>
  (0 ≤ p0 ∧ p0 < (x1.l : Int)) ∧
  derefP x1.a fun a2 =>
  ldB w (a2.add (Int.toNat p0)) fun x3 =>
  ifB x3
    (R (.tuple #[]) w)
    (ldS w c0 fun x4 =>
    (0 ≤ p0 ∧ p0 < (x4.l : Int)) ∧
    derefP x4.a fun a5 =>
    Wr w (a5.add (Int.toNat p0)) ∧
    Nw (w.setCell (a5.add (Int.toNat p0)) (.bool true)) fun w1 =>
    ldS w1 c1 fun x6 =>
    (0 ≤ p0 ∧ p0 < (x6.l : Int)) ∧
    derefP x6.a fun a7 =>
    ldS w1 (a7.add (Int.toNat p0)) fun x8 =>
    LoopW (S := Int × Unit) (fun s9 w2 n10 =>
        ifB (decide (s9.1 < (x8.l : Int)))
          ((0 ≤ s9.1 ∧ s9.1 < (x8.l : Int)) ∧
          derefP x8.a fun a11 =>
          ldI w2 (a11.add (Int.toNat s9.1)) .i64 fun x12 =>
          ldR w2 c2 fun x13 =>
          callV Try.prog Try.fs x13 [(.int .i64 x12)] w2 fun v14 w3 =>
          v14 = (.tuple #[]) ∧
          n10 ((IntKind.i64.wrap (s9.1 + (1 : Int))), ()) w3)
          (R (.tuple #[]) w2))
      ((0 : Int), ()) w1)
theorem calls_closed_1_calls (p0 : Int) (c0 : Addr) (c1 : Addr) (c2 : Addr) (R : Value → World → Prop) (w : World) (h : L_calls_closed_1 p0 c0 c1 c2 R w) : Calls Try.prog 178 #[(.int .i64 p0), (.pointer (some c0)), (.pointer (some c1)), (.pointer (some c2))] w (Ret R) :=
  lw_calls (fs := Try.fs) (an := a_calls_closed_1) (args := [(.int .i64 p0), (.pointer (some c0)), (.pointer (some c1)), (.pointer (some c2))]) Try.fsOK Try.mixed Try.func178 (by kernel_rfl) (by kernel_rfl)
    (Eq.mpr (by kernel_rfl : lwFn Try.prog Try.fs Try.f178 a_calls_closed_1 [(.int .i64 p0), (.pointer (some c0)), (.pointer (some c1)), (.pointer (some c2))] w R = L_calls_closed_1 p0 c0 c1 c2 R w) h)

/-- intaglio.calls.made 1 -/
def a_calls_made_1 : Ann := (.seq none .nil (.seq (some ⟨[0, 1], []⟩) (.seq none .nil (.cond (.seq none .nil (.seq none (.seq none .nil (.one (.loop ⟨[0, 1, 3, 20, 21], [(6, (.b (.int .i64))), (22, (.b (.int .i64)))]⟩ (.seq none .nil (.seq none (.cond .nil .nil) (.seq none (.one (.seq none .nil .nil)) .nil)))))) .nil)) .nil)) (.seq none .nil .nil)))
def L_calls_made_1 (p0 : Int) (c0 : Addr) (c1 : Addr) (c2 : Addr) (R : Value → World → Prop) (w : World) : Prop :=
  JoinW (S := Unit) (fun m1 =>
      ldP w c0 fun x3 =>
      derefP x3 fun a4 =>
      ldS w (a4.add 2) fun x5 =>
      (0 ≤ p0 ∧ p0 < (x5.l : Int)) ∧
      derefP x5.a fun a6 =>
      ldI w (a6.add (Int.toNat p0)) .i64 fun x7 =>
      ifB (decide (x7 < (0 : Int)))
        (ldS w c1 fun x8 =>
        (0 ≤ p0 ∧ p0 < (x8.l : Int)) ∧
        derefP x8.a fun a9 =>
        ldS w (a9.add (Int.toNat p0)) fun x10 =>
        LoopW (S := Int × Int × Unit) (fun s11 w1 n12 =>
            ifB (decide (s11.2.1 < (x10.l : Int)))
              ((0 ≤ s11.2.1 ∧ s11.2.1 < (x10.l : Int)) ∧
              derefP x10.a fun a13 =>
              ldI w1 (a13.add (Int.toNat s11.2.1)) .i64 fun x14 =>
              ldR w1 c2 fun x15 =>
              callV Try.prog Try.fs x15 [(.int .i64 x14)] w1 fun v16 w2 =>
              ∃ x17 : Int, v16 = (.int .i64 x17) ∧
              n12 ((if (IntKind.i64.wrap (x17 + (1 : Int))) > s11.1 then (IntKind.i64.wrap (x17 + (1 : Int))) else s11.1), (IntKind.i64.wrap (s11.2.1 + (1 : Int))), ()) w2)
              (ldP w1 c0 fun x18 =>
              derefP x18 fun a19 =>
              ldS w1 (a19.add 2) fun x20 =>
              (0 ≤ p0 ∧ p0 < (x20.l : Int)) ∧
              derefP x20.a fun a21 =>
              Wr w1 (a21.add (Int.toNat p0)) ∧
              Nw (w1.setCell (a21.add (Int.toNat p0)) (.int .i64 s11.1)) fun w3 =>
              m1 (()) w3))
          ((0 : Int), (0 : Int), ()) w)
        (m1 (()) w))
    (fun s2 w4 =>
      ldP w4 c0 fun x22 =>
      derefP x22 fun a23 =>
      ldS w4 (a23.add 2) fun x24 =>
      (0 ≤ p0 ∧ p0 < (x24.l : Int)) ∧
      derefP x24.a fun a25 =>
      ldI w4 (a25.add (Int.toNat p0)) .i64 fun x26 =>
      R (.int .i64 x26) w4)
theorem calls_made_1_calls (p0 : Int) (c0 : Addr) (c1 : Addr) (c2 : Addr) (R : Value → World → Prop) (w : World) (h : L_calls_made_1 p0 c0 c1 c2 R w) : Calls Try.prog 179 #[(.int .i64 p0), (.pointer (some c0)), (.pointer (some c1)), (.pointer (some c2))] w (Ret R) :=
  lw_calls (fs := Try.fs) (an := a_calls_made_1) (args := [(.int .i64 p0), (.pointer (some c0)), (.pointer (some c1)), (.pointer (some c2))]) Try.fsOK Try.mixed Try.func179 (by kernel_rfl) (by kernel_rfl)
    (Eq.mpr (by kernel_rfl : lwFn Try.prog Try.fs Try.f179 a_calls_made_1 [(.int .i64 p0), (.pointer (some c0)), (.pointer (some c1)), (.pointer (some c2))] w R = L_calls_made_1 p0 c0 c1 c2 R w) h)

/-- intaglio.intaglioref17.Deeps -/
def a_intaglioref17_Deeps : Ann := (.seq none .nil (.seq none .nil (.seq none .nil (.seq none (.seq none .nil (.one (.loop ⟨[0, 3], [(4, (.b .bool)), (5, (.b (.int .i64)))]⟩ (.seq (some ⟨[0, 3, 5], []⟩) (.seq none .nil (.cond .nil .nil)) (.seq none (.one (.seq none .nil (.seq none .nil (.one (.loop ⟨[0, 3, 5], [(4, (.b .bool)), (6, (.b (.int .i64)))]⟩ (.seq none (.seq none .nil (.cond .nil .nil)) (.seq none (.one (.seq none .nil (.one (.loop ⟨[0, 3, 5, 6], [(4, (.b .bool)), (7, (.b (.int .i64)))]⟩ (.seq none (.seq none .nil (.cond .nil .nil)) (.seq (some ⟨[0, 3, 5, 6, 7], [(4, (.b .bool))]⟩) (.one (.seq none .nil (.cond (.seq none .nil .nil) .nil))) .nil)))))) .nil))))))) .nil))))) (.seq none .nil .nil)))))
def L_intaglioref17_Deeps (p0 : Sl) (R : Value → World → Prop) (w : World) : Prop :=
  (0 ≤ (p0.l : Int) ∧ (p0.l : Int) ≤ (p0.l : Int) ∧ (8 : Int) * (p0.l : Int) ≤ 281474976710656 ∧ (p0.l : Int) ≤ 9223372036854775807) ∧
  Nw (w.alloc (.cells (madeCells #[(.int .i64 (0 : Int))] (p0.l * 1)) 3)) fun w1 =>
  LoopW (S := Bool × Int × Unit) (fun s1 w2 n2 =>
      JoinW (S := Unit) (fun m3 =>
          ifB s1.1
            (ifB (decide (s1.2.1 ≤ (p0.l : Int)))
              (m3 (()) w2)
              (R (.slice (some (blk w.heap.size)) p0.l p0.l) w2))
            (R (.slice (some (blk w.heap.size)) p0.l p0.l) w2))
        (fun s4 w3 =>
          LoopW (S := Bool × Int × Unit) (fun s5 w4 n6 =>
              ifB (decide (s5.2.1 < (p0.l : Int)))
                (LoopW (S := Bool × Int × Unit) (fun s7 w5 n8 =>
                    (0 ≤ s5.2.1 ∧ s5.2.1 < (p0.l : Int)) ∧
                    derefP p0.a fun a9 =>
                    ldS w5 (a9.add (Int.toNat s5.2.1)) fun x10 =>
                    ifB (decide (s7.2.1 < (x10.l : Int)))
                      (JoinW (S := Bool × Unit) (fun m11 =>
                          (0 ≤ s5.2.1 ∧ s5.2.1 < (p0.l : Int)) ∧
                          derefP p0.a fun a13 =>
                          ldS w5.drew (a13.add (Int.toNat s5.2.1)) fun x14 =>
                          (0 ≤ s7.2.1 ∧ s7.2.1 < (x14.l : Int)) ∧
                          derefP x14.a fun a15 =>
                          ldI w5.drew (a15.add (Int.toNat s7.2.1)) .i64 fun x16 =>
                          (0 ≤ x16 ∧ x16 < (p0.l : Int)) ∧
                          ldI w5.drew ((blk w.heap.size).add (Int.toNat x16)) .i64 fun x17 =>
                          (0 ≤ s5.2.1 ∧ s5.2.1 < (p0.l : Int)) ∧
                          ldI w5.drew ((blk w.heap.size).add (Int.toNat s5.2.1)) .i64 fun x18 =>
                          ifB (decide ((IntKind.i64.wrap (x17 + (1 : Int))) > x18))
                            ((0 ≤ s5.2.1 ∧ s5.2.1 < (p0.l : Int)) ∧
                            derefP p0.a fun a19 =>
                            ldS w5.drew (a19.add (Int.toNat s5.2.1)) fun x20 =>
                            (0 ≤ s7.2.1 ∧ s7.2.1 < (x20.l : Int)) ∧
                            derefP x20.a fun a21 =>
                            ldI w5.drew (a21.add (Int.toNat s7.2.1)) .i64 fun x22 =>
                            (0 ≤ x22 ∧ x22 < (p0.l : Int)) ∧
                            ldI w5.drew ((blk w.heap.size).add (Int.toNat x22)) .i64 fun x23 =>
                            (0 ≤ s5.2.1 ∧ s5.2.1 < (p0.l : Int)) ∧
                            Wr w5.drew ((blk w.heap.size).add (Int.toNat s5.2.1)) ∧
                            Nw (w5.drew.setCell ((blk w.heap.size).add (Int.toNat s5.2.1)) (.int .i64 (IntKind.i64.wrap (x23 + (1 : Int))))) fun w6 =>
                            m11 (true, ()) w6)
                            (m11 (s7.1, ()) w5.drew))
                        (fun s12 w7 =>
                          n8 (s12.1, (IntKind.i64.wrap (s7.2.1 + (1 : Int))), ()) w7))
                      (n6 (s7.1, (IntKind.i64.wrap (s5.2.1 + (1 : Int))), ()) w5))
                  (s5.1, (0 : Int), ()) w4)
                (n2 (s5.1, (IntKind.i64.wrap (s1.2.1 + (1 : Int))), ()) w4))
            (false, (0 : Int), ()) w3))
    (true, (0 : Int), ()) w1
theorem intaglioref17_Deeps_calls (p0 : Sl) (R : Value → World → Prop) (w : World) (h : L_intaglioref17_Deeps p0 R w) : Calls Try.prog 180 #[(.slice p0.a p0.l p0.c)] w (Ret R) :=
  lw_calls (fs := Try.fs) (an := a_intaglioref17_Deeps) (args := [(.slice p0.a p0.l p0.c)]) Try.fsOK Try.mixed Try.func180 (by kernel_rfl) (by kernel_rfl)
    (Eq.mpr (by kernel_rfl : lwFn Try.prog Try.fs Try.f180 a_intaglioref17_Deeps [(.slice p0.a p0.l p0.c)] w R = L_intaglioref17_Deeps p0 R w) h)

/-- slices.insertionSortCmpFunc[int] -/
def a_slices_insertionSortCmpFunc_int : Ann := (.seq none .nil (.one (.loop ⟨[0, 1, 2, 3], [(8, (.b (.int .i64)))]⟩ (.seq none (.seq none .nil (.cond .nil .nil)) (.seq (some ⟨[0, 1, 2, 3, 8], []⟩) (.one (.seq none .nil (.one (.loop ⟨[0, 1, 2, 3, 8], [(9, (.b (.int .i64)))]⟩ (.seq (some ⟨[0, 1, 2, 3, 8, 9], []⟩) (.seq none .nil (.cond .nil .nil)) (.seq none (.one .nil) .nil)))))) .nil)))))
def L_slices_insertionSortCmpFunc_int (p0 : Sl) (p1 : Int) (p2 : Int) (p3 : Value) (R : Value → World → Prop) (w : World) : Prop :=
  LoopW (S := Int × Unit) (fun s1 w1 n2 =>
      ifB (decide (s1.1 < p2))
        (JoinW (S := Unit) (fun m3 =>
            LoopW (S := Int × Unit) (fun s5 w2 n6 =>
                JoinW (S := Unit) (fun m7 =>
                    ifB (decide (s5.1 > p1))
                      ((0 ≤ s5.1 ∧ s5.1 < (p0.l : Int)) ∧
                      derefP p0.a fun a9 =>
                      ldI w2.drew (a9.add (Int.toNat s5.1)) .i64 fun x10 =>
                      (0 ≤ (IntKind.i64.wrap (s5.1 - (1 : Int))) ∧ (IntKind.i64.wrap (s5.1 - (1 : Int))) < (p0.l : Int)) ∧
                      derefP p0.a fun a11 =>
                      ldI w2.drew (a11.add (Int.toNat (IntKind.i64.wrap (s5.1 - (1 : Int))))) .i64 fun x12 =>
                      callV Try.prog Try.fs p3 [(.int .i64 x10), (.int .i64 x12)] w2.drew fun v13 w3 =>
                      ∃ x14 : Int, v13 = (.int .i64 x14) ∧
                      ifB (decide (x14 < (0 : Int)))
                        (m7 (()) w3)
                        (m3 (()) w3))
                      (m3 (()) w2.drew))
                  (fun s8 w4 =>
                    (0 ≤ (IntKind.i64.wrap (s5.1 - (1 : Int))) ∧ (IntKind.i64.wrap (s5.1 - (1 : Int))) < (p0.l : Int)) ∧
                    derefP p0.a fun a15 =>
                    ldI w4.drew (a15.add (Int.toNat (IntKind.i64.wrap (s5.1 - (1 : Int))))) .i64 fun x16 =>
                    (0 ≤ s5.1 ∧ s5.1 < (p0.l : Int)) ∧
                    derefP p0.a fun a17 =>
                    ldI w4.drew (a17.add (Int.toNat s5.1)) .i64 fun x18 =>
                    (0 ≤ s5.1 ∧ s5.1 < (p0.l : Int)) ∧
                    derefP p0.a fun a19 =>
                    Wr w4.drew (a19.add (Int.toNat s5.1)) ∧
                    Nw (w4.drew.setCell (a19.add (Int.toNat s5.1)) (.int .i64 x16)) fun w5 =>
                    (0 ≤ (IntKind.i64.wrap (s5.1 - (1 : Int))) ∧ (IntKind.i64.wrap (s5.1 - (1 : Int))) < (p0.l : Int)) ∧
                    derefP p0.a fun a20 =>
                    Wr w5 (a20.add (Int.toNat (IntKind.i64.wrap (s5.1 - (1 : Int))))) ∧
                    Nw (w5.setCell (a20.add (Int.toNat (IntKind.i64.wrap (s5.1 - (1 : Int))))) (.int .i64 x18)) fun w6 =>
                    n6 ((IntKind.i64.wrap (s5.1 - (1 : Int))), ()) w6))
              (s1.1, ()) w1)
          (fun s4 w7 =>
            n2 ((IntKind.i64.wrap (s1.1 + (1 : Int))), ()) w7))
        (R (.tuple #[]) w1))
    ((IntKind.i64.wrap (p1 + (1 : Int))), ()) w
theorem slices_insertionSortCmpFunc_int_calls (p0 : Sl) (p1 : Int) (p2 : Int) (p3 : Value) (R : Value → World → Prop) (w : World) (h : L_slices_insertionSortCmpFunc_int p0 p1 p2 p3 R w) : Calls Try.prog 181 #[(.slice p0.a p0.l p0.c), (.int .i64 p1), (.int .i64 p2), p3] w (Ret R) :=
  lw_calls (fs := Try.fs) (an := a_slices_insertionSortCmpFunc_int) (args := [(.slice p0.a p0.l p0.c), (.int .i64 p1), (.int .i64 p2), p3]) Try.fsOK Try.mixed Try.func181 (by kernel_rfl) (by kernel_rfl)
    (Eq.mpr (by kernel_rfl : lwFn Try.prog Try.fs Try.f181 a_slices_insertionSortCmpFunc_int [(.slice p0.a p0.l p0.c), (.int .i64 p1), (.int .i64 p2), p3] w R = L_slices_insertionSortCmpFunc_int p0 p1 p2 p3 R w) h)

/-- slices.symMergeCmpFunc[int] -/
def a_slices_symMergeCmpFunc_int : Ann := (.seq none (.seq none .nil (.cond (.seq none .nil (.seq none .nil (.seq none (.one (.loop ⟨[0, 1, 4], [(10, (.b (.int .i64))), (11, (.b (.int .i64)))]⟩ (.seq none (.seq none .nil (.cond .nil .nil)) (.one (.seq none .nil (.seq none .nil (.cond .nil .nil))))))) (.seq none (.seq none .nil (.one (.loop ⟨[0, 10], [(13, (.b (.int .i64)))]⟩ (.seq none (.seq none .nil (.cond .nil .nil)) (.seq none (.one .nil) .nil))))) .nil)))) .nil)) (.seq none (.seq none .nil (.cond (.seq none .nil (.seq none .nil (.seq none (.one (.loop ⟨[0, 2, 4], [(14, (.b (.int .i64))), (15, (.b (.int .i64)))]⟩ (.seq none (.seq none .nil (.cond .nil .nil)) (.one (.seq none .nil (.seq none .nil (.cond .nil .nil))))))) (.seq none (.seq none .nil (.one (.loop ⟨[0, 14], [(17, (.b (.int .i64)))]⟩ (.seq none (.seq none .nil (.cond .nil .nil)) (.seq none (.one .nil) .nil))))) .nil)))) .nil)) (.seq none .nil (.seq none .nil (.seq none .nil (.seq (some ⟨[0, 1, 2, 3, 4, 18, 19], [(20, (.b (.int .i64))), (21, (.b (.int .i64)))]⟩) (.seq none .nil (.cond (.seq none .nil .nil) (.seq none .nil .nil))) (.seq none .nil (.seq none (.one (.loop ⟨[0, 1, 2, 3, 4, 18, 19, 22], [(20, (.b (.int .i64))), (21, (.b (.int .i64)))]⟩ (.seq none (.seq none .nil (.cond .nil .nil)) (.one (.seq none .nil (.seq none .nil (.cond .nil .nil))))))) (.seq none .nil (.seq (some ⟨[0, 1, 3, 4, 18, 20, 24], []⟩) (.seq none .nil (.cond .nil .nil)) (.seq (some ⟨[0, 3, 4, 18, 24], []⟩) (.seq none .nil (.cond .nil .nil)) (.seq none .nil (.cond .nil .nil)))))))))))))
def L_slices_symMergeCmpFunc_int (p0 : Sl) (p1 : Int) (p2 : Int) (p3 : Int) (p4 : Value) (R : Value → World → Prop) (w : World) : Prop :=
  ifB ((IntKind.i64.wrap (p2 - p1)) == (1 : Int))
    (LoopW (S := Int × Int × Unit) (fun s1 w1 n2 =>
        ifB (decide (s1.1 < s1.2.1))
          ((0 ≤ (IntKind.i64.wrap (Int.fdiv (IntKind.u64.wrap (IntKind.i64.wrap (s1.1 + s1.2.1))) (2 ^ (min 1 (IntKind.bits .u64))))) ∧ (IntKind.i64.wrap (Int.fdiv (IntKind.u64.wrap (IntKind.i64.wrap (s1.1 + s1.2.1))) (2 ^ (min 1 (IntKind.bits .u64))))) < (p0.l : Int)) ∧
          derefP p0.a fun a3 =>
          ldI w1.drew (a3.add (Int.toNat (IntKind.i64.wrap (Int.fdiv (IntKind.u64.wrap (IntKind.i64.wrap (s1.1 + s1.2.1))) (2 ^ (min 1 (IntKind.bits .u64))))))) .i64 fun x4 =>
          (0 ≤ p1 ∧ p1 < (p0.l : Int)) ∧
          derefP p0.a fun a5 =>
          ldI w1.drew (a5.add (Int.toNat p1)) .i64 fun x6 =>
          callV Try.prog Try.fs p4 [(.int .i64 x4), (.int .i64 x6)] w1.drew fun v7 w2 =>
          ∃ x8 : Int, v7 = (.int .i64 x8) ∧
          ifB (decide (x8 < (0 : Int)))
            (n2 ((IntKind.i64.wrap ((IntKind.i64.wrap (Int.fdiv (IntKind.u64.wrap (IntKind.i64.wrap (s1.1 + s1.2.1))) (2 ^ (min 1 (IntKind.bits .u64))))) + (1 : Int))), s1.2.1, ()) w2)
            (n2 (s1.1, (IntKind.i64.wrap (Int.fdiv (IntKind.u64.wrap (IntKind.i64.wrap (s1.1 + s1.2.1))) (2 ^ (min 1 (IntKind.bits .u64))))), ()) w2))
          (LoopW (S := Int × Unit) (fun s9 w3 n10 =>
              ifB (decide (s9.1 < (IntKind.i64.wrap (s1.1 - (1 : Int)))))
                ((0 ≤ (IntKind.i64.wrap (s9.1 + (1 : Int))) ∧ (IntKind.i64.wrap (s9.1 + (1 : Int))) < (p0.l : Int)) ∧
                derefP p0.a fun a11 =>
                ldI w3.drew (a11.add (Int.toNat (IntKind.i64.wrap (s9.1 + (1 : Int))))) .i64 fun x12 =>
                (0 ≤ s9.1 ∧ s9.1 < (p0.l : Int)) ∧
                derefP p0.a fun a13 =>
                ldI w3.drew (a13.add (Int.toNat s9.1)) .i64 fun x14 =>
                (0 ≤ s9.1 ∧ s9.1 < (p0.l : Int)) ∧
                derefP p0.a fun a15 =>
                Wr w3.drew (a15.add (Int.toNat s9.1)) ∧
                Nw (w3.drew.setCell (a15.add (Int.toNat s9.1)) (.int .i64 x12)) fun w4 =>
                (0 ≤ (IntKind.i64.wrap (s9.1 + (1 : Int))) ∧ (IntKind.i64.wrap (s9.1 + (1 : Int))) < (p0.l : Int)) ∧
                derefP p0.a fun a16 =>
                Wr w4 (a16.add (Int.toNat (IntKind.i64.wrap (s9.1 + (1 : Int))))) ∧
                Nw (w4.setCell (a16.add (Int.toNat (IntKind.i64.wrap (s9.1 + (1 : Int))))) (.int .i64 x14)) fun w5 =>
                n10 ((IntKind.i64.wrap (s9.1 + (1 : Int))), ()) w5)
                (R (.tuple #[]) w3))
            (p1, ()) w1))
      (p2, p3, ()) w)
    (ifB ((IntKind.i64.wrap (p3 - p2)) == (1 : Int))
      (LoopW (S := Int × Int × Unit) (fun s17 w6 n18 =>
          ifB (decide (s17.1 < s17.2.1))
            ((0 ≤ p2 ∧ p2 < (p0.l : Int)) ∧
            derefP p0.a fun a19 =>
            ldI w6.drew (a19.add (Int.toNat p2)) .i64 fun x20 =>
            (0 ≤ (IntKind.i64.wrap (Int.fdiv (IntKind.u64.wrap (IntKind.i64.wrap (s17.1 + s17.2.1))) (2 ^ (min 1 (IntKind.bits .u64))))) ∧ (IntKind.i64.wrap (Int.fdiv (IntKind.u64.wrap (IntKind.i64.wrap (s17.1 + s17.2.1))) (2 ^ (min 1 (IntKind.bits .u64))))) < (p0.l : Int)) ∧
            derefP p0.a fun a21 =>
            ldI w6.drew (a21.add (Int.toNat (IntKind.i64.wrap (Int.fdiv (IntKind.u64.wrap (IntKind.i64.wrap (s17.1 + s17.2.1))) (2 ^ (min 1 (IntKind.bits .u64))))))) .i64 fun x22 =>
            callV Try.prog Try.fs p4 [(.int .i64 x20), (.int .i64 x22)] w6.drew fun v23 w7 =>
            ∃ x24 : Int, v23 = (.int .i64 x24) ∧
            ifB (!(decide (x24 < (0 : Int))))
              (n18 ((IntKind.i64.wrap ((IntKind.i64.wrap (Int.fdiv (IntKind.u64.wrap (IntKind.i64.wrap (s17.1 + s17.2.1))) (2 ^ (min 1 (IntKind.bits .u64))))) + (1 : Int))), s17.2.1, ()) w7)
              (n18 (s17.1, (IntKind.i64.wrap (Int.fdiv (IntKind.u64.wrap (IntKind.i64.wrap (s17.1 + s17.2.1))) (2 ^ (min 1 (IntKind.bits .u64))))), ()) w7))
            (LoopW (S := Int × Unit) (fun s25 w8 n26 =>
                ifB (decide (s25.1 > s17.1))
                  ((0 ≤ (IntKind.i64.wrap (s25.1 - (1 : Int))) ∧ (IntKind.i64.wrap (s25.1 - (1 : Int))) < (p0.l : Int)) ∧
                  derefP p0.a fun a27 =>
                  ldI w8.drew (a27.add (Int.toNat (IntKind.i64.wrap (s25.1 - (1 : Int))))) .i64 fun x28 =>
                  (0 ≤ s25.1 ∧ s25.1 < (p0.l : Int)) ∧
                  derefP p0.a fun a29 =>
                  ldI w8.drew (a29.add (Int.toNat s25.1)) .i64 fun x30 =>
                  (0 ≤ s25.1 ∧ s25.1 < (p0.l : Int)) ∧
                  derefP p0.a fun a31 =>
                  Wr w8.drew (a31.add (Int.toNat s25.1)) ∧
                  Nw (w8.drew.setCell (a31.add (Int.toNat s25.1)) (.int .i64 x28)) fun w9 =>
                  (0 ≤ (IntKind.i64.wrap (s25.1 - (1 : Int))) ∧ (IntKind.i64.wrap (s25.1 - (1 : Int))) < (p0.l : Int)) ∧
                  derefP p0.a fun a32 =>
                  Wr w9 (a32.add (Int.toNat (IntKind.i64.wrap (s25.1 - (1 : Int))))) ∧
                  Nw (w9.setCell (a32.add (Int.toNat (IntKind.i64.wrap (s25.1 - (1 : Int))))) (.int .i64 x30)) fun w10 =>
                  n26 ((IntKind.i64.wrap (s25.1 - (1 : Int))), ()) w10)
                  (R (.tuple #[]) w8))
              (p2, ()) w6))
        (p1, p2, ()) w)
      (JoinW (S := Int × Int × Unit) (fun m33 =>
          ifB (decide (p2 > (IntKind.i64.wrap (Int.fdiv (IntKind.u64.wrap (IntKind.i64.wrap (p1 + p3))) (2 ^ (min 1 (IntKind.bits .u64)))))))
            (m33 ((IntKind.i64.wrap ((IntKind.i64.wrap ((IntKind.i64.wrap (Int.fdiv (IntKind.u64.wrap (IntKind.i64.wrap (p1 + p3))) (2 ^ (min 1 (IntKind.bits .u64))))) + p2)) - p3)), (IntKind.i64.wrap (Int.fdiv (IntKind.u64.wrap (IntKind.i64.wrap (p1 + p3))) (2 ^ (min 1 (IntKind.bits .u64))))), ()) w)
            (m33 (p1, p2, ()) w))
        (fun s34 w11 =>
          LoopW (S := Int × Int × Unit) (fun s35 w12 n36 =>
              ifB (decide (s35.1 < s35.2.1))
                ((0 ≤ (IntKind.i64.wrap ((IntKind.i64.wrap ((IntKind.i64.wrap ((IntKind.i64.wrap (Int.fdiv (IntKind.u64.wrap (IntKind.i64.wrap (p1 + p3))) (2 ^ (min 1 (IntKind.bits .u64))))) + p2)) - (1 : Int))) - (IntKind.i64.wrap (Int.fdiv (IntKind.u64.wrap (IntKind.i64.wrap (s35.1 + s35.2.1))) (2 ^ (min 1 (IntKind.bits .u64))))))) ∧ (IntKind.i64.wrap ((IntKind.i64.wrap ((IntKind.i64.wrap ((IntKind.i64.wrap (Int.fdiv (IntKind.u64.wrap (IntKind.i64.wrap (p1 + p3))) (2 ^ (min 1 (IntKind.bits .u64))))) + p2)) - (1 : Int))) - (IntKind.i64.wrap (Int.fdiv (IntKind.u64.wrap (IntKind.i64.wrap (s35.1 + s35.2.1))) (2 ^ (min 1 (IntKind.bits .u64))))))) < (p0.l : Int)) ∧
                derefP p0.a fun a37 =>
                ldI w12.drew (a37.add (Int.toNat (IntKind.i64.wrap ((IntKind.i64.wrap ((IntKind.i64.wrap ((IntKind.i64.wrap (Int.fdiv (IntKind.u64.wrap (IntKind.i64.wrap (p1 + p3))) (2 ^ (min 1 (IntKind.bits .u64))))) + p2)) - (1 : Int))) - (IntKind.i64.wrap (Int.fdiv (IntKind.u64.wrap (IntKind.i64.wrap (s35.1 + s35.2.1))) (2 ^ (min 1 (IntKind.bits .u64))))))))) .i64 fun x38 =>
                (0 ≤ (IntKind.i64.wrap (Int.fdiv (IntKind.u64.wrap (IntKind.i64.wrap (s35.1 + s35.2.1))) (2 ^ (min 1 (IntKind.bits .u64))))) ∧ (IntKind.i64.wrap (Int.fdiv (IntKind.u64.wrap (IntKind.i64.wrap (s35.1 + s35.2.1))) (2 ^ (min 1 (IntKind.bits .u64))))) < (p0.l : Int)) ∧
                derefP p0.a fun a39 =>
                ldI w12.drew (a39.add (Int.toNat (IntKind.i64.wrap (Int.fdiv (IntKind.u64.wrap (IntKind.i64.wrap (s35.1 + s35.2.1))) (2 ^ (min 1 (IntKind.bits .u64))))))) .i64 fun x40 =>
                callV Try.prog Try.fs p4 [(.int .i64 x38), (.int .i64 x40)] w12.drew fun v41 w13 =>
                ∃ x42 : Int, v41 = (.int .i64 x42) ∧
                ifB (!(decide (x42 < (0 : Int))))
                  (n36 ((IntKind.i64.wrap ((IntKind.i64.wrap (Int.fdiv (IntKind.u64.wrap (IntKind.i64.wrap (s35.1 + s35.2.1))) (2 ^ (min 1 (IntKind.bits .u64))))) + (1 : Int))), s35.2.1, ()) w13)
                  (n36 (s35.1, (IntKind.i64.wrap (Int.fdiv (IntKind.u64.wrap (IntKind.i64.wrap (s35.1 + s35.2.1))) (2 ^ (min 1 (IntKind.bits .u64))))), ()) w13))
                (JoinW (S := Unit) (fun m43 =>
                    ifB (decide (s35.1 < p2))
                      (ifB (decide (p2 < (IntKind.i64.wrap ((IntKind.i64.wrap ((IntKind.i64.wrap (Int.fdiv (IntKind.u64.wrap (IntKind.i64.wrap (p1 + p3))) (2 ^ (min 1 (IntKind.bits .u64))))) + p2)) - s35.1))))
                        (callR Try.prog 211 #[(.slice p0.a p0.l p0.c), (.int .i64 s35.1), (.int .i64 p2), (.int .i64 (IntKind.i64.wrap ((IntKind.i64.wrap ((IntKind.i64.wrap (Int.fdiv (IntKind.u64.wrap (IntKind.i64.wrap (p1 + p3))) (2 ^ (min 1 (IntKind.bits .u64))))) + p2)) - s35.1))), p4] w12 fun v45 w14 =>
                        v45 = (.tuple #[]) ∧
                        m43 (()) w14)
                        (m43 (()) w12))
                      (m43 (()) w12))
                  (fun s44 w15 =>
                    JoinW (S := Unit) (fun m46 =>
                        ifB (decide (p1 < s35.1))
                          (ifB (decide (s35.1 < (IntKind.i64.wrap (Int.fdiv (IntKind.u64.wrap (IntKind.i64.wrap (p1 + p3))) (2 ^ (min 1 (IntKind.bits .u64)))))))
                            (callR Try.prog 182 #[(.slice p0.a p0.l p0.c), (.int .i64 p1), (.int .i64 s35.1), (.int .i64 (IntKind.i64.wrap (Int.fdiv (IntKind.u64.wrap (IntKind.i64.wrap (p1 + p3))) (2 ^ (min 1 (IntKind.bits .u64)))))), p4] w15 fun v48 w16 =>
                            v48 = (.tuple #[]) ∧
                            m46 (()) w16)
                            (m46 (()) w15))
                          (m46 (()) w15))
                      (fun s47 w17 =>
                        ifB (decide ((IntKind.i64.wrap (Int.fdiv (IntKind.u64.wrap (IntKind.i64.wrap (p1 + p3))) (2 ^ (min 1 (IntKind.bits .u64))))) < (IntKind.i64.wrap ((IntKind.i64.wrap ((IntKind.i64.wrap (Int.fdiv (IntKind.u64.wrap (IntKind.i64.wrap (p1 + p3))) (2 ^ (min 1 (IntKind.bits .u64))))) + p2)) - s35.1))))
                          (ifB (decide ((IntKind.i64.wrap ((IntKind.i64.wrap ((IntKind.i64.wrap (Int.fdiv (IntKind.u64.wrap (IntKind.i64.wrap (p1 + p3))) (2 ^ (min 1 (IntKind.bits .u64))))) + p2)) - s35.1)) < p3))
                            (callR Try.prog 182 #[(.slice p0.a p0.l p0.c), (.int .i64 (IntKind.i64.wrap (Int.fdiv (IntKind.u64.wrap (IntKind.i64.wrap (p1 + p3))) (2 ^ (min 1 (IntKind.bits .u64)))))), (.int .i64 (IntKind.i64.wrap ((IntKind.i64.wrap ((IntKind.i64.wrap (Int.fdiv (IntKind.u64.wrap (IntKind.i64.wrap (p1 + p3))) (2 ^ (min 1 (IntKind.bits .u64))))) + p2)) - s35.1))), (.int .i64 p3), p4] w17 fun v49 w18 =>
                            v49 = (.tuple #[]) ∧
                            R (.tuple #[]) w18)
                            (R (.tuple #[]) w17))
                          (R (.tuple #[]) w17)))))
            (s34.1, s34.2.1, ()) w11)))
theorem slices_symMergeCmpFunc_int_calls (p0 : Sl) (p1 : Int) (p2 : Int) (p3 : Int) (p4 : Value) (R : Value → World → Prop) (w : World) (h : L_slices_symMergeCmpFunc_int p0 p1 p2 p3 p4 R w) : Calls Try.prog 182 #[(.slice p0.a p0.l p0.c), (.int .i64 p1), (.int .i64 p2), (.int .i64 p3), p4] w (Ret R) :=
  lw_calls (fs := Try.fs) (an := a_slices_symMergeCmpFunc_int) (args := [(.slice p0.a p0.l p0.c), (.int .i64 p1), (.int .i64 p2), (.int .i64 p3), p4]) Try.fsOK Try.mixed Try.func182 (by kernel_rfl) (by kernel_rfl)
    (Eq.mpr (by kernel_rfl : lwFn Try.prog Try.fs Try.f182 a_slices_symMergeCmpFunc_int [(.slice p0.a p0.l p0.c), (.int .i64 p1), (.int .i64 p2), (.int .i64 p3), p4] w R = L_slices_symMergeCmpFunc_int p0 p1 p2 p3 p4 R w) h)

/-- cmp.Less[int] -/
def a_cmp_Less_int : Ann := (.seq none .nil (.seq none .nil .nil))
def L_cmp_Less_int (p0 : Int) (p1 : Int) (R : Value → World → Prop) (w : World) : Prop :=
  callR Try.prog 153 #[(.int .i64 p0)] w fun v1 w1 =>
  ∃ x2 : Bool, v1 = (.bool x2) ∧
  ifB x2
    (callR Try.prog 153 #[(.int .i64 p1)] w1 fun v3 w2 =>
    ∃ x4 : Bool, v3 = (.bool x4) ∧
    ifB (!x4)
      (R (.bool true) w2)
      (R (.bool (decide (p0 < p1))) w2))
    (R (.bool (decide (p0 < p1))) w1)
theorem cmp_Less_int_calls (p0 : Int) (p1 : Int) (R : Value → World → Prop) (w : World) (h : L_cmp_Less_int p0 p1 R w) : Calls Try.prog 204 #[(.int .i64 p0), (.int .i64 p1)] w (Ret R) :=
  lw_calls (fs := Try.fs) (an := a_cmp_Less_int) (args := [(.int .i64 p0), (.int .i64 p1)]) Try.fsOK Try.mixed Try.func204 (by kernel_rfl) (by kernel_rfl)
    (Eq.mpr (by kernel_rfl : lwFn Try.prog Try.fs Try.f204 a_cmp_Less_int [(.int .i64 p0), (.int .i64 p1)] w R = L_cmp_Less_int p0 p1 R w) h)

/-- slices.rotateCmpFunc[int] -/
def a_slices_rotateCmpFunc_int : Ann := (.seq none .nil (.seq none .nil (.seq none (.one (.loop ⟨[0, 2, 4], [(10, (.b (.int .i64))), (11, (.b (.int .i64)))]⟩ (.seq none (.seq none .nil (.cond .nil .nil)) (.one (.seq none .nil (.cond (.seq none .nil .nil) (.seq none .nil .nil))))))) .nil)))
def L_slices_rotateCmpFunc_int (p0 : Sl) (p1 : Int) (p2 : Int) (p3 : Int) (p4 : Value) (R : Value → World → Prop) (w : World) : Prop :=
  LoopW (S := Int × Int × Unit) (fun s1 w1 n2 =>
      ifB (s1.1 != s1.2.1)
        (ifB (decide (s1.1 > s1.2.1))
          (callR Try.prog 224 #[(.slice p0.a p0.l p0.c), (.int .i64 (IntKind.i64.wrap (p2 - s1.1))), (.int .i64 p2), (.int .i64 s1.2.1), p4] w1 fun v3 w2 =>
          v3 = (.tuple #[]) ∧
          n2 ((IntKind.i64.wrap (s1.1 - s1.2.1)), s1.2.1, ()) w2)
          (callR Try.prog 224 #[(.slice p0.a p0.l p0.c), (.int .i64 (IntKind.i64.wrap (p2 - s1.1))), (.int .i64 (IntKind.i64.wrap ((IntKind.i64.wrap (p2 + s1.2.1)) - s1.1))), (.int .i64 s1.1), p4] w1 fun v4 w3 =>
          v4 = (.tuple #[]) ∧
          n2 (s1.1, (IntKind.i64.wrap (s1.2.1 - s1.1)), ()) w3))
        (callR Try.prog 224 #[(.slice p0.a p0.l p0.c), (.int .i64 (IntKind.i64.wrap (p2 - s1.1))), (.int .i64 p2), (.int .i64 s1.1), p4] w1 fun v5 w4 =>
        v5 = (.tuple #[]) ∧
        R (.tuple #[]) w4))
    ((IntKind.i64.wrap (p2 - p1)), (IntKind.i64.wrap (p3 - p2)), ()) w
theorem slices_rotateCmpFunc_int_calls (p0 : Sl) (p1 : Int) (p2 : Int) (p3 : Int) (p4 : Value) (R : Value → World → Prop) (w : World) (h : L_slices_rotateCmpFunc_int p0 p1 p2 p3 p4 R w) : Calls Try.prog 211 #[(.slice p0.a p0.l p0.c), (.int .i64 p1), (.int .i64 p2), (.int .i64 p3), p4] w (Ret R) :=
  lw_calls (fs := Try.fs) (an := a_slices_rotateCmpFunc_int) (args := [(.slice p0.a p0.l p0.c), (.int .i64 p1), (.int .i64 p2), (.int .i64 p3), p4]) Try.fsOK Try.mixed Try.func211 (by kernel_rfl) (by kernel_rfl)
    (Eq.mpr (by kernel_rfl : lwFn Try.prog Try.fs Try.f211 a_slices_rotateCmpFunc_int [(.slice p0.a p0.l p0.c), (.int .i64 p1), (.int .i64 p2), (.int .i64 p3), p4] w R = L_slices_rotateCmpFunc_int p0 p1 p2 p3 p4 R w) h)

/-- slices.swapRangeCmpFunc[int] -/
def a_slices_swapRangeCmpFunc_int : Ann := (.seq none .nil (.one (.loop ⟨[0, 1, 2, 3], [(10, (.b (.int .i64)))]⟩ (.seq none (.seq none .nil (.cond .nil .nil)) (.seq none (.one .nil) .nil)))))
def L_slices_swapRangeCmpFunc_int (p0 : Sl) (p1 : Int) (p2 : Int) (p3 : Int) (p4 : Value) (R : Value → World → Prop) (w : World) : Prop :=
  LoopW (S := Int × Unit) (fun s1 w1 n2 =>
      ifB (decide (s1.1 < p3))
        ((0 ≤ (IntKind.i64.wrap (p2 + s1.1)) ∧ (IntKind.i64.wrap (p2 + s1.1)) < (p0.l : Int)) ∧
        derefP p0.a fun a3 =>
        ldI w1.drew (a3.add (Int.toNat (IntKind.i64.wrap (p2 + s1.1)))) .i64 fun x4 =>
        (0 ≤ (IntKind.i64.wrap (p1 + s1.1)) ∧ (IntKind.i64.wrap (p1 + s1.1)) < (p0.l : Int)) ∧
        derefP p0.a fun a5 =>
        ldI w1.drew (a5.add (Int.toNat (IntKind.i64.wrap (p1 + s1.1)))) .i64 fun x6 =>
        (0 ≤ (IntKind.i64.wrap (p1 + s1.1)) ∧ (IntKind.i64.wrap (p1 + s1.1)) < (p0.l : Int)) ∧
        derefP p0.a fun a7 =>
        Wr w1.drew (a7.add (Int.toNat (IntKind.i64.wrap (p1 + s1.1)))) ∧
        Nw (w1.drew.setCell (a7.add (Int.toNat (IntKind.i64.wrap (p1 + s1.1)))) (.int .i64 x4)) fun w2 =>
        (0 ≤ (IntKind.i64.wrap (p2 + s1.1)) ∧ (IntKind.i64.wrap (p2 + s1.1)) < (p0.l : Int)) ∧
        derefP p0.a fun a8 =>
        Wr w2 (a8.add (Int.toNat (IntKind.i64.wrap (p2 + s1.1)))) ∧
        Nw (w2.setCell (a8.add (Int.toNat (IntKind.i64.wrap (p2 + s1.1)))) (.int .i64 x6)) fun w3 =>
        n2 ((IntKind.i64.wrap (s1.1 + (1 : Int))), ()) w3)
        (R (.tuple #[]) w1))
    ((0 : Int), ()) w
theorem slices_swapRangeCmpFunc_int_calls (p0 : Sl) (p1 : Int) (p2 : Int) (p3 : Int) (p4 : Value) (R : Value → World → Prop) (w : World) (h : L_slices_swapRangeCmpFunc_int p0 p1 p2 p3 p4 R w) : Calls Try.prog 224 #[(.slice p0.a p0.l p0.c), (.int .i64 p1), (.int .i64 p2), (.int .i64 p3), p4] w (Ret R) :=
  lw_calls (fs := Try.fs) (an := a_slices_swapRangeCmpFunc_int) (args := [(.slice p0.a p0.l p0.c), (.int .i64 p1), (.int .i64 p2), (.int .i64 p3), p4]) Try.fsOK Try.mixed Try.func224 (by kernel_rfl) (by kernel_rfl)
    (Eq.mpr (by kernel_rfl : lwFn Try.prog Try.fs Try.f224 a_slices_swapRangeCmpFunc_int [(.slice p0.a p0.l p0.c), (.int .i64 p1), (.int .i64 p2), (.int .i64 p3), p4] w R = L_slices_swapRangeCmpFunc_int p0 p1 p2 p3 p4 R w) h)

end Go.Proofs
