/-
  Printed by a program of the author: what each function comes to.
-/
import Derived.Test.YtjplhoollkeihaaProg
import Derived.Test.YtjplhoollkeihaaGkR
import Derived.Test.YtjplhoollkeihaaLb
namespace Go.Proofs
open Go.Gk
set_option linter.unusedVariables false
set_option maxRecDepth 100000

/-- intaglio.intaglioref16.Flaws -/
def a_intaglioref16_Flaws : Ann := (.seq none .nil (.seq none .nil (.seq none (.seq none .nil (.cond (.seq none .nil .nil) .nil)) (.seq none .nil .nil))))
def L_intaglioref16_Flaws (p0 : Option Addr) (p1 : Sl) (R : Value → World → Prop) (w : World) : Prop :=
  callR Try.prog 117 #[(.pointer p0), (.slice p1.a p1.l p1.c)] w fun v1 w1 =>
  ∃ x2 : Int, v1 = (.int .i64 x2) ∧
  ifB (x2 != (0 : Int))
    (R (.tuple #[(.slice none 0 0), (.int .i64 x2)]) w1)
    (callR Try.prog 118 #[(.pointer p0), (.slice p1.a p1.l p1.c)] w1 fun v3 w2 =>
    ∃ x4 : Option Addr, v3 = (.pointer x4) ∧
    callR Try.prog 119 #[(.pointer x4)] w2 fun v5 w3 =>
    ∃ x6 : Sl, v5 = (.slice x6.a x6.l x6.c) ∧
    R (.tuple #[(.slice x6.a x6.l x6.c), (.int .i64 (0 : Int))]) w3)
theorem intaglioref16_Flaws_calls (p0 : Option Addr) (p1 : Sl) (R : Value → World → Prop) (w : World) (h : L_intaglioref16_Flaws p0 p1 R w) : Calls Try.prog 65 #[(.pointer p0), (.slice p1.a p1.l p1.c)] w (Ret R) :=
  lw_calls (fs := Try.fs) (an := a_intaglioref16_Flaws) (args := [(.pointer p0), (.slice p1.a p1.l p1.c)]) Try.fsOK Try.mixed Try.func65 (by kernel_rfl) (by kernel_rfl)
    (Eq.mpr (by kernel_rfl : lwFn Try.prog Try.fs Try.f65 a_intaglioref16_Flaws [(.pointer p0), (.slice p1.a p1.l p1.c)] w R = L_intaglioref16_Flaws p0 p1 R w) h)

/-- intaglio.intaglioref16.Check -/
def a_intaglioref16_Check : Ann := (.seq none .nil (.seq none .nil (.seq none (.seq none .nil (.cond (.seq none .nil .nil) .nil)) (.seq none (.seq none .nil (.cond (.seq none .nil .nil) .nil)) (.seq none .nil .nil)))))
def L_intaglioref16_Check (p0 : Option Addr) (p1 : Sl) (R : Value → World → Prop) (w : World) : Prop :=
  Nw (w.alloc (.cells #[(.int .i64 (0 : Int)), (.int .i64 (0 : Int))] 75)) fun w1 =>
  callR Try.prog 65 #[(.pointer p0), (.slice p1.a p1.l p1.c)] w1 fun v1 w2 =>
  ∃ x2 : Sl, ∃ x3 : Int, v1 = (.tuple #[(.slice x2.a x2.l x2.c), (.int .i64 x3)]) ∧
  ifB (x3 != (0 : Int))
    (Wr w2 (blk w.heap.size) ∧
    Nw (w2.setCell (blk w.heap.size) (.int .i64 x3)) fun w3 =>
    Wr w3 ((blk w.heap.size).add 1) ∧
    Nw (w3.setCell ((blk w.heap.size).add 1) (.int .i64 (0 : Int))) fun w4 =>
    ldI w4 ((blk w.heap.size).add 0) .i64 fun x4 =>
    ldI w4 ((blk w.heap.size).add 1) .i64 fun x5 =>
    R (.agg #[(.int .i64 x4), (.int .i64 x5)]) w4)
    (ifB ((x2.l : Int) == (0 : Int))
      (Wr w2 (blk w.heap.size) ∧
      Nw (w2.setCell (blk w.heap.size) (.int .i64 (0 : Int))) fun w5 =>
      Wr w5 ((blk w.heap.size).add 1) ∧
      Nw (w5.setCell ((blk w.heap.size).add 1) (.int .i64 (0 : Int))) fun w6 =>
      ldI w6 ((blk w.heap.size).add 0) .i64 fun x6 =>
      ldI w6 ((blk w.heap.size).add 1) .i64 fun x7 =>
      R (.agg #[(.int .i64 x6), (.int .i64 x7)]) w6)
      ((0 ≤ (0 : Int) ∧ (0 : Int) < (x2.l : Int)) ∧
      derefP x2.a fun a8 =>
      ldI w2.drew ((a8.add (0 * 2)).add 1) .i64 fun x9 =>
      (0 ≤ (0 : Int) ∧ (0 : Int) < (x2.l : Int)) ∧
      derefP x2.a fun a10 =>
      ldI w2.drew (a10.add (0 * 2)) .i64 fun x11 =>
      Wr w2.drew (blk w.heap.size) ∧
      Nw (w2.drew.setCell (blk w.heap.size) (.int .i64 x9)) fun w7 =>
      Wr w7 ((blk w.heap.size).add 1) ∧
      Nw (w7.setCell ((blk w.heap.size).add 1) (.int .i64 x11)) fun w8 =>
      ldI w8 ((blk w.heap.size).add 0) .i64 fun x12 =>
      ldI w8 ((blk w.heap.size).add 1) .i64 fun x13 =>
      R (.agg #[(.int .i64 x12), (.int .i64 x13)]) w8))
theorem intaglioref16_Check_calls (p0 : Option Addr) (p1 : Sl) (R : Value → World → Prop) (w : World) (h : L_intaglioref16_Check p0 p1 R w) : Calls Try.prog 71 #[(.pointer p0), (.slice p1.a p1.l p1.c)] w (Ret R) :=
  lw_calls (fs := Try.fs) (an := a_intaglioref16_Check) (args := [(.pointer p0), (.slice p1.a p1.l p1.c)]) Try.fsOK Try.mixed Try.func71 (by kernel_rfl) (by kernel_rfl)
    (Eq.mpr (by kernel_rfl : lwFn Try.prog Try.fs Try.f71 a_intaglioref16_Check [(.pointer p0), (.slice p1.a p1.l p1.c)] w R = L_intaglioref16_Check p0 p1 R w) h)

/-- intaglio.intaglioref16.Construct -/
def a_intaglioref16_Construct : Ann := (.seq none .nil (.seq none .nil (.seq none (.seq none .nil (.cond (.seq none .nil .nil) .nil)) (.seq (some ⟨[0, 1, 2], []⟩) (.seq none .nil (.cond (.seq none .nil .nil) .nil)) (.seq none .nil (.seq none (.seq none .nil (.cond (.seq none .nil .nil) .nil)) (.seq none .nil (.seq none (.seq none .nil (.one (.loop ⟨[1, 2, 9], [(10, (.b .slice)), (11, (.b (.int .i64)))]⟩ (.seq none (.seq none .nil (.cond .nil .nil)) (.seq (some ⟨[1, 2, 9, 11], [(10, (.b .slice))]⟩) (.one (.seq none .nil (.cond .nil .nil))) .nil))))) (.seq none .nil .nil)))))))))
def L_intaglioref16_Construct (p0 : Option Addr) (p1 : Sl) (p2 : Int) (R : Value → World → Prop) (w : World) : Prop :=
  callR Try.prog 117 #[(.pointer p0), (.slice p1.a p1.l p1.c)] w fun v1 w1 =>
  ∃ x2 : Int, v1 = (.int .i64 x2) ∧
  ifB (x2 != (0 : Int))
    (R (.tuple #[(.slice none 0 0), (.int .i64 x2)]) w1)
    (JoinW (S := Unit) (fun m3 =>
        ifB (decide (p2 < (0 : Int)))
          (R (.tuple #[(.slice none 0 0), (.int .i64 (3 : Int))]) w1)
          (ifB (decide (p2 ≥ (p1.l : Int)))
            (R (.tuple #[(.slice none 0 0), (.int .i64 (3 : Int))]) w1)
            (m3 (()) w1)))
      (fun s4 w2 =>
        callR Try.prog 118 #[(.pointer p0), (.slice p1.a p1.l p1.c)] w2 fun v5 w3 =>
        ∃ x6 : Option Addr, v5 = (.pointer x6) ∧
        callR Try.prog 128 #[(.pointer x6), (.int .i64 p2)] w3 fun v7 w4 =>
        ∃ x8 : Bool, v7 = (.bool x8) ∧
        ifB (!x8)
          (R (.tuple #[(.slice none 0 0), (.int .i64 (5 : Int))]) w4)
          (LoopW (S := Sl × Int × Unit) (fun s9 w5 n10 =>
              ifB (decide (s9.2.1 < (p1.l : Int)))
                (JoinW (S := Sl × Unit) (fun m11 =>
                    callR Try.prog 129 #[(.pointer x6), (.int .i64 p2), (.int .i64 s9.2.1)] w5 fun v13 w6 =>
                    ∃ x14 : Bool, v13 = (.bool x14) ∧
                    ifB x14
                      (Nw (w6.alloc (.cells #[(.int .i64 s9.2.1)] 3)) fun w7 =>
                      appendS Try.prog 32 (.slice s9.1.a s9.1.l s9.1.c) (.slice (some (blk w6.heap.size)) 1 1) w7 fun r15 w8 =>
                      m11 (r15, ()) w8)
                      (m11 (s9.1, ()) w6))
                  (fun s12 w9 =>
                    n10 (s12.1, (IntKind.i64.wrap (s9.2.1 + (1 : Int))), ()) w9))
                (R (.tuple #[(.slice s9.1.a s9.1.l s9.1.c), (.int .i64 (0 : Int))]) w5))
            ((Sl.mk none 0 0), (0 : Int), ()) w4)))
theorem intaglioref16_Construct_calls (p0 : Option Addr) (p1 : Sl) (p2 : Int) (R : Value → World → Prop) (w : World) (h : L_intaglioref16_Construct p0 p1 p2 R w) : Calls Try.prog 82 #[(.pointer p0), (.slice p1.a p1.l p1.c), (.int .i64 p2)] w (Ret R) :=
  lw_calls (fs := Try.fs) (an := a_intaglioref16_Construct) (args := [(.pointer p0), (.slice p1.a p1.l p1.c), (.int .i64 p2)]) Try.fsOK Try.mixed Try.func82 (by kernel_rfl) (by kernel_rfl)
    (Eq.mpr (by kernel_rfl : lwFn Try.prog Try.fs Try.f82 a_intaglioref16_Construct [(.pointer p0), (.slice p1.a p1.l p1.c), (.int .i64 p2)] w R = L_intaglioref16_Construct p0 p1 p2 R w) h)

/-- intaglio.intaglioref16.Inner -/
def a_intaglioref16_Inner : Ann := (.seq none .nil (.seq none .nil (.seq none (.seq none .nil (.cond (.seq none .nil .nil) .nil)) (.seq (some ⟨[0, 1, 2], []⟩) (.seq none .nil (.cond (.seq none .nil .nil) .nil)) (.seq none .nil (.seq none (.seq none .nil (.one (.loop ⟨[1, 2, 9], [(10, (.b (.int .i64)))]⟩ (.seq none (.seq none .nil (.cond .nil .nil)) (.seq none (.one (.seq none .nil (.cond (.seq none .nil .nil) .nil))) .nil))))) (.seq none .nil .nil)))))))
def L_intaglioref16_Inner (p0 : Option Addr) (p1 : Sl) (p2 : Int) (R : Value → World → Prop) (w : World) : Prop :=
  callR Try.prog 117 #[(.pointer p0), (.slice p1.a p1.l p1.c)] w fun v1 w1 =>
  ∃ x2 : Int, v1 = (.int .i64 x2) ∧
  ifB (x2 != (0 : Int))
    (R (.tuple #[(.int .i64 (0 : Int)), (.int .i64 x2)]) w1)
    (JoinW (S := Unit) (fun m3 =>
        ifB (decide (p2 < (0 : Int)))
          (R (.tuple #[(.int .i64 (0 : Int)), (.int .i64 (3 : Int))]) w1)
          (ifB (decide (p2 ≥ (p1.l : Int)))
            (R (.tuple #[(.int .i64 (0 : Int)), (.int .i64 (3 : Int))]) w1)
            (m3 (()) w1)))
      (fun s4 w2 =>
        callR Try.prog 118 #[(.pointer p0), (.slice p1.a p1.l p1.c)] w2 fun v5 w3 =>
        ∃ x6 : Option Addr, v5 = (.pointer x6) ∧
        LoopW (S := Int × Unit) (fun s7 w4 n8 =>
            ifB (decide (s7.1 < (p1.l : Int)))
              (callR Try.prog 130 #[(.pointer x6), (.int .i64 s7.1), (.int .i64 p2), (.int .u8 (0 : Int))] w4 fun v9 w5 =>
              ∃ x10 : Bool, v9 = (.bool x10) ∧
              ifB x10
                (R (.tuple #[(.int .i64 s7.1), (.int .i64 (0 : Int))]) w5)
                (n8 ((IntKind.i64.wrap (s7.1 + (1 : Int))), ()) w5))
              (R (.tuple #[(.int .i64 (-1 : Int)), (.int .i64 (0 : Int))]) w4))
          ((0 : Int), ()) w3))
theorem intaglioref16_Inner_calls (p0 : Option Addr) (p1 : Sl) (p2 : Int) (R : Value → World → Prop) (w : World) (h : L_intaglioref16_Inner p0 p1 p2 R w) : Calls Try.prog 83 #[(.pointer p0), (.slice p1.a p1.l p1.c), (.int .i64 p2)] w (Ret R) :=
  lw_calls (fs := Try.fs) (an := a_intaglioref16_Inner) (args := [(.pointer p0), (.slice p1.a p1.l p1.c), (.int .i64 p2)]) Try.fsOK Try.mixed Try.func83 (by kernel_rfl) (by kernel_rfl)
    (Eq.mpr (by kernel_rfl : lwFn Try.prog Try.fs Try.f83 a_intaglioref16_Inner [(.pointer p0), (.slice p1.a p1.l p1.c), (.int .i64 p2)] w R = L_intaglioref16_Inner p0 p1 p2 R w) h)

/-- intaglio.intaglioref16.Asked -/
def a_intaglioref16_Asked : Ann := (.seq none .nil (.seq none (.seq none .nil (.cond (.seq none .nil .nil) .nil)) (.seq none (.seq none .nil (.cond (.seq none .nil .nil) .nil)) (.seq none .nil .nil))))
def L_intaglioref16_Asked (p0 : Option Addr) (p1 : Sl) (R : Value → World → Prop) (w : World) : Prop :=
  ifB (Option.isNone p0)
    (R (.int .i64 (1 : Int)) w)
    (callR Try.prog 154 #[(.pointer p0), (.slice p1.a p1.l p1.c)] w fun v1 w1 =>
    ∃ x2 : Bool, v1 = (.bool x2) ∧
    ifB (!x2)
      (R (.int .i64 (2 : Int)) w1)
      (R (.int .i64 (0 : Int)) w1))
theorem intaglioref16_Asked_calls (p0 : Option Addr) (p1 : Sl) (R : Value → World → Prop) (w : World) (h : L_intaglioref16_Asked p0 p1 R w) : Calls Try.prog 117 #[(.pointer p0), (.slice p1.a p1.l p1.c)] w (Ret R) :=
  lw_calls (fs := Try.fs) (an := a_intaglioref16_Asked) (args := [(.pointer p0), (.slice p1.a p1.l p1.c)]) Try.fsOK Try.mixed Try.func117 (by kernel_rfl) (by kernel_rfl)
    (Eq.mpr (by kernel_rfl : lwFn Try.prog Try.fs Try.f117 a_intaglioref16_Asked [(.pointer p0), (.slice p1.a p1.l p1.c)] w R = L_intaglioref16_Asked p0 p1 R w) h)

/-- intaglio.intaglioref16.New -/
def a_intaglioref16_New : Ann := (.seq none .nil (.seq none .nil (.seq none .nil (.seq none (.seq none .nil (.one (.loop ⟨[1, 5], [(6, (.b (.int .i64)))]⟩ (.seq none (.seq none .nil (.cond .nil .nil)) (.seq none (.one (.seq none .nil (.seq none .nil (.seq none (.seq none .nil (.one (.loop ⟨[1, 5, 6, 7, 8], [(9, (.b (.int .i64)))]⟩ (.seq none (.seq none .nil (.cond .nil .nil)) (.seq (some ⟨[1, 5, 6, 7, 8, 9], []⟩) (.one .nil) .nil))))) .nil)))) .nil))))) (.seq none .nil .nil)))))
def L_intaglioref16_New (p0 : Option Addr) (p1 : Sl) (R : Value → World → Prop) (w : World) : Prop :=
  callR Try.prog 155 #[(.pointer p0), (.slice p1.a p1.l p1.c)] w fun v1 w1 =>
  ∃ x2 : Option Addr, v1 = (.pointer x2) ∧
  Nw (w1.alloc (.cells #[(.pointer p0), (.slice p1.a p1.l p1.c), (.pointer x2), (.slice none 0 0), (.slice none 0 0)] 168)) fun w2 =>
  ldP w2 ((blk w1.heap.size).add 2) fun x3 =>
  callR Try.prog 149 #[(.pointer x3), (.int .i64 (-1 : Int))] w2 fun v4 w3 =>
  ∃ x5 : Sl, v4 = (.slice x5.a x5.l x5.c) ∧
  Wr w3 ((blk w1.heap.size).add 3) ∧
  Nw (w3.setCell ((blk w1.heap.size).add 3) (.slice x5.a x5.l x5.c)) fun w4 =>
  LoopW (S := Int × Unit) (fun s6 w5 n7 =>
      ifB (decide (s6.1 < (p1.l : Int)))
        ((0 ≤ (p1.l : Int) ∧ (p1.l : Int) ≤ (p1.l : Int) ∧ (1 : Int) * (p1.l : Int) ≤ 281474976710656 ∧ (p1.l : Int) ≤ 9223372036854775807) ∧
        Nw (w5.alloc (.cells (madeCells #[(.bool false)] (p1.l * 1)) 4)) fun w6 =>
        ldP w6 ((blk w1.heap.size).add 2) fun x8 =>
        callR Try.prog 149 #[(.pointer x8), (.int .i64 s6.1)] w6 fun v9 w7 =>
        ∃ x10 : Sl, v9 = (.slice x10.a x10.l x10.c) ∧
        LoopW (S := Int × Unit) (fun s11 w8 n12 =>
            ifB (decide (s11.1 < (p1.l : Int)))
              (JoinW (S := Unit) (fun m13 =>
                  ldS w8 ((blk w1.heap.size).add 3) fun x15 =>
                  (0 ≤ s6.1 ∧ s6.1 < (x15.l : Int)) ∧
                  derefP x15.a fun a16 =>
                  ldB w8 (a16.add (Int.toNat s6.1)) fun x17 =>
                  ifB x17
                    (ldS w8 ((blk w1.heap.size).add 3) fun x18 =>
                    (0 ≤ s11.1 ∧ s11.1 < (x18.l : Int)) ∧
                    derefP x18.a fun a19 =>
                    ldB w8 (a19.add (Int.toNat s11.1)) fun x20 =>
                    ifB x20
                      ((0 ≤ s11.1 ∧ s11.1 < (x10.l : Int)) ∧
                      derefP x10.a fun a21 =>
                      ldB w8 (a21.add (Int.toNat s11.1)) fun x22 =>
                      (0 ≤ s11.1 ∧ s11.1 < (p1.l : Int)) ∧
                      Wr w8 ((blk w5.heap.size).add (Int.toNat s11.1)) ∧
                      Nw (w8.setCell ((blk w5.heap.size).add (Int.toNat s11.1)) (.bool (!x22))) fun w9 =>
                      m13 (()) w9)
                      ((0 ≤ s11.1 ∧ s11.1 < (p1.l : Int)) ∧
                      Wr w8 ((blk w5.heap.size).add (Int.toNat s11.1)) ∧
                      Nw (w8.setCell ((blk w5.heap.size).add (Int.toNat s11.1)) (.bool false)) fun w10 =>
                      m13 (()) w10))
                    ((0 ≤ s11.1 ∧ s11.1 < (p1.l : Int)) ∧
                    Wr w8 ((blk w5.heap.size).add (Int.toNat s11.1)) ∧
                    Nw (w8.setCell ((blk w5.heap.size).add (Int.toNat s11.1)) (.bool false)) fun w11 =>
                    m13 (()) w11))
                (fun s14 w12 =>
                  n12 ((IntKind.i64.wrap (s11.1 + (1 : Int))), ()) w12))
              (ldS w8 ((blk w1.heap.size).add 4) fun x23 =>
              Nw (w8.alloc (.cells #[(.slice (some (blk w5.heap.size)) p1.l p1.l)] 126)) fun w13 =>
              appendS Try.prog 50 (.slice x23.a x23.l x23.c) (.slice (some (blk w8.heap.size)) 1 1) w13 fun r24 w14 =>
              Wr w14 ((blk w1.heap.size).add 4) ∧
              Nw (w14.setCell ((blk w1.heap.size).add 4) (.slice r24.a r24.l r24.c)) fun w15 =>
              n7 ((IntKind.i64.wrap (s6.1 + (1 : Int))), ()) w15))
          ((0 : Int), ()) w7)
        (R (.pointer (some (blk w1.heap.size))) w5))
    ((0 : Int), ()) w4
theorem intaglioref16_New_calls (p0 : Option Addr) (p1 : Sl) (R : Value → World → Prop) (w : World) (h : L_intaglioref16_New p0 p1 R w) : Calls Try.prog 118 #[(.pointer p0), (.slice p1.a p1.l p1.c)] w (Ret R) :=
  lw_calls (fs := Try.fs) (an := a_intaglioref16_New) (args := [(.pointer p0), (.slice p1.a p1.l p1.c)]) Try.fsOK Try.mixed Try.func118 (by kernel_rfl) (by kernel_rfl)
    (Eq.mpr (by kernel_rfl : lwFn Try.prog Try.fs Try.f118 a_intaglioref16_New [(.pointer p0), (.slice p1.a p1.l p1.c)] w R = L_intaglioref16_New p0 p1 R w) h)

/-- (*intaglio.intaglioref16.Nest).All -/
def a_intaglioref16_Nest_All : Ann := (.seq none .nil (.seq none .nil (.seq none (.seq none .nil (.one (.loop ⟨[0], [(3, (.b .slice)), (4, (.b (.int .i64)))]⟩ (.seq none (.seq none .nil (.cond .nil .nil)) (.seq (some ⟨[0, 4], [(3, (.b .slice))]⟩) (.one (.seq none (.seq none .nil (.cond .nil .nil)) (.seq (some ⟨[0, 4], [(3, (.b .slice))]⟩) (.seq none .nil (.cond .nil .nil)) (.seq (some ⟨[0, 4], [(3, (.b .slice))]⟩) (.seq none .nil (.cond .nil .nil)) (.seq (some ⟨[0, 4], [(3, (.b .slice))]⟩) (.seq none .nil (.cond .nil .nil)) (.seq none .nil (.cond .nil .nil))))))) .nil))))) (.seq none .nil .nil))))
def L_intaglioref16_Nest_All (p0 : Option Addr) (R : Value → World → Prop) (w : World) : Prop :=
  LoopW (S := Sl × Int × Unit) (fun s1 w1 n2 =>
      derefP p0 fun a3 =>
      ldS w1 (a3.add 1) fun x4 =>
      ifB (decide (s1.2.1 < (x4.l : Int)))
        (JoinW (S := Sl × Unit) (fun m5 =>
            derefP p0 fun a7 =>
            ldS w1 (a7.add 3) fun x8 =>
            (0 ≤ s1.2.1 ∧ s1.2.1 < (x8.l : Int)) ∧
            derefP x8.a fun a9 =>
            ldB w1 (a9.add (Int.toNat s1.2.1)) fun x10 =>
            ifB (!x10)
              (m5 (s1.1, ()) w1)
              (JoinW (S := Sl × Unit) (fun m11 =>
                  callR Try.prog 156 #[(.pointer p0), (.int .i64 s1.2.1)] w1 fun v13 w2 =>
                  ∃ x14 : Bool, v13 = (.bool x14) ∧
                  ifB x14
                    (Nw (w2.alloc (.cells #[(.int .i64 s1.2.1), (.int .i64 (163 : Int))] 143)) fun w3 =>
                    appendS Try.prog 67 (.slice s1.1.a s1.1.l s1.1.c) (.slice (some (blk w2.heap.size)) 1 1) w3 fun r15 w4 =>
                    m11 (r15, ()) w4)
                    (m11 (s1.1, ()) w2))
                (fun s12 w5 =>
                  JoinW (S := Sl × Unit) (fun m16 =>
                      callR Try.prog 157 #[(.pointer p0), (.int .i64 s1.2.1)] w5 fun v18 w6 =>
                      ∃ x19 : Bool, v18 = (.bool x19) ∧
                      ifB x19
                        (Nw (w6.alloc (.cells #[(.int .i64 s1.2.1), (.int .i64 (160 : Int))] 143)) fun w7 =>
                        appendS Try.prog 67 (.slice s12.1.a s12.1.l s12.1.c) (.slice (some (blk w6.heap.size)) 1 1) w7 fun r20 w8 =>
                        m16 (r20, ()) w8)
                        (m16 (s12.1, ()) w6))
                    (fun s17 w9 =>
                      JoinW (S := Sl × Unit) (fun m21 =>
                          callR Try.prog 158 #[(.pointer p0), (.int .i64 s1.2.1)] w9 fun v23 w10 =>
                          ∃ x24 : Bool, v23 = (.bool x24) ∧
                          ifB x24
                            (Nw (w10.alloc (.cells #[(.int .i64 s1.2.1), (.int .i64 (162 : Int))] 143)) fun w11 =>
                            appendS Try.prog 67 (.slice s17.1.a s17.1.l s17.1.c) (.slice (some (blk w10.heap.size)) 1 1) w11 fun r25 w12 =>
                            m21 (r25, ()) w12)
                            (m21 (s17.1, ()) w10))
                        (fun s22 w13 =>
                          callR Try.prog 159 #[(.pointer p0), (.int .i64 s1.2.1)] w13 fun v26 w14 =>
                          ∃ x27 : Bool, v26 = (.bool x27) ∧
                          ifB x27
                            (Nw (w14.alloc (.cells #[(.int .i64 s1.2.1), (.int .i64 (161 : Int))] 143)) fun w15 =>
                            appendS Try.prog 67 (.slice s22.1.a s22.1.l s22.1.c) (.slice (some (blk w14.heap.size)) 1 1) w15 fun r28 w16 =>
                            m5 (r28, ()) w16)
                            (m5 (s22.1, ()) w14))))))
          (fun s6 w17 =>
            n2 (s6.1, (IntKind.i64.wrap (s1.2.1 + (1 : Int))), ()) w17))
        (R (.slice s1.1.a s1.1.l s1.1.c) w1))
    ((Sl.mk none 0 0), (0 : Int), ()) w
theorem intaglioref16_Nest_All_calls (p0 : Option Addr) (R : Value → World → Prop) (w : World) (h : L_intaglioref16_Nest_All p0 R w) : Calls Try.prog 119 #[(.pointer p0)] w (Ret R) :=
  lw_calls (fs := Try.fs) (an := a_intaglioref16_Nest_All) (args := [(.pointer p0)]) Try.fsOK Try.mixed Try.func119 (by kernel_rfl) (by kernel_rfl)
    (Eq.mpr (by kernel_rfl : lwFn Try.prog Try.fs Try.f119 a_intaglioref16_Nest_All [(.pointer p0)] w R = L_intaglioref16_Nest_All p0 R w) h)

/-- (*intaglio.intaglioref16.Nest).Head -/
def a_intaglioref16_Nest_Head : Ann := (.seq none .nil (.seq none .nil .nil))
def L_intaglioref16_Nest_Head (p0 : Option Addr) (p1 : Int) (R : Value → World → Prop) (w : World) : Prop :=
  derefP p0 fun a1 =>
  ldS w (a1.add 3) fun x2 =>
  (0 ≤ p1 ∧ p1 < (x2.l : Int)) ∧
  derefP x2.a fun a3 =>
  ldB w (a3.add (Int.toNat p1)) fun x4 =>
  ifB x4
    (derefP p0 fun a5 =>
    ldS w (a5.add 1) fun x6 =>
    (0 ≤ p1 ∧ p1 < (x6.l : Int)) ∧
    derefP x6.a fun a7 =>
    ldI w (a7.add ((Int.toNat p1) * 3)) .u8 fun x8 =>
    R (.bool (x8 != (0 : Int))) w)
    (R (.bool false) w)
theorem intaglioref16_Nest_Head_calls (p0 : Option Addr) (p1 : Int) (R : Value → World → Prop) (w : World) (h : L_intaglioref16_Nest_Head p0 p1 R w) : Calls Try.prog 128 #[(.pointer p0), (.int .i64 p1)] w (Ret R) :=
  lw_calls (fs := Try.fs) (an := a_intaglioref16_Nest_Head) (args := [(.pointer p0), (.int .i64 p1)]) Try.fsOK Try.mixed Try.func128 (by kernel_rfl) (by kernel_rfl)
    (Eq.mpr (by kernel_rfl : lwFn Try.prog Try.fs Try.f128 a_intaglioref16_Nest_Head [(.pointer p0), (.int .i64 p1)] w R = L_intaglioref16_Nest_Head p0 p1 R w) h)

/-- (*intaglio.intaglioref16.Nest).In -/
def a_intaglioref16_Nest_In : Ann := (.seq none .nil (.seq none .nil .nil))
def L_intaglioref16_Nest_In (p0 : Option Addr) (p1 : Int) (p2 : Int) (R : Value → World → Prop) (w : World) : Prop :=
  callR Try.prog 128 #[(.pointer p0), (.int .i64 p1)] w.drew fun v1 w1 =>
  ∃ x2 : Bool, v1 = (.bool x2) ∧
  ifB x2
    (derefP p0 fun a3 =>
    ldS w1 (a3.add 4) fun x4 =>
    (0 ≤ p1 ∧ p1 < (x4.l : Int)) ∧
    derefP x4.a fun a5 =>
    ldS w1 (a5.add (Int.toNat p1)) fun x6 =>
    (0 ≤ p2 ∧ p2 < (x6.l : Int)) ∧
    derefP x6.a fun a7 =>
    ldB w1 (a7.add (Int.toNat p2)) fun x8 =>
    ifB x8
      (derefP p0 fun a9 =>
      ldS w1 (a9.add 4) fun x10 =>
      derefP p0 fun a11 =>
      ldS w1 (a11.add 1) fun x12 =>
      (0 ≤ p1 ∧ p1 < (x12.l : Int)) ∧
      derefP x12.a fun a13 =>
      ldI w1 ((a13.add ((Int.toNat p1) * 3)).add 1) .i64 fun x14 =>
      (0 ≤ x14 ∧ x14 < (x10.l : Int)) ∧
      derefP x10.a fun a15 =>
      ldS w1 (a15.add (Int.toNat x14)) fun x16 =>
      (0 ≤ p2 ∧ p2 < (x16.l : Int)) ∧
      derefP x16.a fun a17 =>
      ldB w1 (a17.add (Int.toNat p2)) fun x18 =>
      R (.bool (!x18)) w1)
      (R (.bool false) w1))
    (R (.bool false) w1)
theorem intaglioref16_Nest_In_calls (p0 : Option Addr) (p1 : Int) (p2 : Int) (R : Value → World → Prop) (w : World) (h : L_intaglioref16_Nest_In p0 p1 p2 R w) : Calls Try.prog 129 #[(.pointer p0), (.int .i64 p1), (.int .i64 p2)] w (Ret R) :=
  lw_calls (fs := Try.fs) (an := a_intaglioref16_Nest_In) (args := [(.pointer p0), (.int .i64 p1), (.int .i64 p2)]) Try.fsOK Try.mixed Try.func129 (by kernel_rfl) (by kernel_rfl)
    (Eq.mpr (by kernel_rfl : lwFn Try.prog Try.fs Try.f129 a_intaglioref16_Nest_In [(.pointer p0), (.int .i64 p1), (.int .i64 p2)] w R = L_intaglioref16_Nest_In p0 p1 p2 R w) h)

/-- (*intaglio.intaglioref16.Nest).Within -/
def a_intaglioref16_Nest_Within : Ann := (.seq none .nil (.seq (some ⟨[0, 1, 2, 3], []⟩) (.seq none .nil (.cond (.seq none .nil .nil) .nil)) (.seq none (.seq none .nil (.one (.loop ⟨[0, 1, 2, 3], [(9, (.b (.int .i64)))]⟩ (.seq none (.seq none .nil (.cond .nil .nil)) (.seq (some ⟨[0, 1, 2, 3, 9], []⟩) (.one (.seq none .nil (.cond (.seq none .nil .nil) .nil))) .nil))))) (.seq none .nil .nil))))
def L_intaglioref16_Nest_Within (p0 : Option Addr) (p1 : Int) (p2 : Int) (p3 : Int) (R : Value → World → Prop) (w : World) : Prop :=
  JoinW (S := Unit) (fun m1 =>
      callR Try.prog 173 #[(.pointer p0), (.int .i64 p1), (.int .u8 p3)] w fun v3 w1 =>
      ∃ x4 : Bool, v3 = (.bool x4) ∧
      ifB (!x4)
        (R (.bool false) w1)
        (callR Try.prog 129 #[(.pointer p0), (.int .i64 p1), (.int .i64 p2)] w1 fun v5 w2 =>
        ∃ x6 : Bool, v5 = (.bool x6) ∧
        ifB (!x6)
          (R (.bool false) w2)
          (m1 (()) w2)))
    (fun s2 w3 =>
      LoopW (S := Int × Unit) (fun s7 w4 n8 =>
          derefP p0 fun a9 =>
          ldS w4 (a9.add 1) fun x10 =>
          ifB (decide (s7.1 < (x10.l : Int)))
            (JoinW (S := Unit) (fun m11 =>
                ifB (s7.1 != p1)
                  (callR Try.prog 173 #[(.pointer p0), (.int .i64 s7.1), (.int .u8 p3)] w4 fun v13 w5 =>
                  ∃ x14 : Bool, v13 = (.bool x14) ∧
                  ifB x14
                    (callR Try.prog 129 #[(.pointer p0), (.int .i64 s7.1), (.int .i64 p2)] w5 fun v15 w6 =>
                    ∃ x16 : Bool, v15 = (.bool x16) ∧
                    ifB x16
                      (derefP p0 fun a17 =>
                      ldS w6 (a17.add 4) fun x18 =>
                      (0 ≤ p1 ∧ p1 < (x18.l : Int)) ∧
                      derefP x18.a fun a19 =>
                      ldS w6 (a19.add (Int.toNat p1)) fun x20 =>
                      (0 ≤ s7.1 ∧ s7.1 < (x20.l : Int)) ∧
                      derefP x20.a fun a21 =>
                      ldB w6 (a21.add (Int.toNat s7.1)) fun x22 =>
                      ifB x22
                        (R (.bool false) w6)
                        (m11 (()) w6))
                      (m11 (()) w6))
                    (m11 (()) w5))
                  (m11 (()) w4))
              (fun s12 w7 =>
                n8 ((IntKind.i64.wrap (s7.1 + (1 : Int))), ()) w7))
            (R (.bool true) w4))
        ((0 : Int), ()) w3)
theorem intaglioref16_Nest_Within_calls (p0 : Option Addr) (p1 : Int) (p2 : Int) (p3 : Int) (R : Value → World → Prop) (w : World) (h : L_intaglioref16_Nest_Within p0 p1 p2 p3 R w) : Calls Try.prog 130 #[(.pointer p0), (.int .i64 p1), (.int .i64 p2), (.int .u8 p3)] w (Ret R) :=
  lw_calls (fs := Try.fs) (an := a_intaglioref16_Nest_Within) (args := [(.pointer p0), (.int .i64 p1), (.int .i64 p2), (.int .u8 p3)]) Try.fsOK Try.mixed Try.func130 (by kernel_rfl) (by kernel_rfl)
    (Eq.mpr (by kernel_rfl : lwFn Try.prog Try.fs Try.f130 a_intaglioref16_Nest_Within [(.pointer p0), (.int .i64 p1), (.int .i64 p2), (.int .u8 p3)] w R = L_intaglioref16_Nest_Within p0 p1 p2 p3 R w) h)

/-- intaglio.intaglioref16.Fit -/
def a_intaglioref16_Fit : Ann := (.seq none .nil (.seq none (.seq none .nil (.cond (.seq none .nil .nil) .nil)) (.seq none (.seq none .nil (.one (.loop ⟨[1], [(5, (.b (.int .i64)))]⟩ (.seq none (.seq none .nil (.cond .nil .nil)) (.seq (some ⟨[1, 5], []⟩) (.one (.seq none (.seq none .nil (.cond (.seq none .nil .nil) .nil)) (.seq (some ⟨[1, 5], []⟩) (.seq none .nil (.cond (.seq none .nil .nil) .nil)) (.seq none .nil (.cond (.seq none .nil .nil) .nil))))) .nil))))) (.seq none .nil .nil))))
def L_intaglioref16_Fit (p0 : Option Addr) (p1 : Sl) (R : Value → World → Prop) (w : World) : Prop :=
  callR Try.prog 97 #[(.pointer p0)] w fun v1 w1 =>
  ∃ x2 : Int, v1 = (.int .i64 x2) ∧
  ifB ((p1.l : Int) != x2)
    (R (.bool false) w1)
    (LoopW (S := Int × Unit) (fun s3 w2 n4 =>
        ifB (decide (s3.1 < (p1.l : Int)))
          (JoinW (S := Unit) (fun m5 =>
              (0 ≤ s3.1 ∧ s3.1 < (p1.l : Int)) ∧
              derefP p1.a fun a7 =>
              ldI w2 (a7.add ((Int.toNat s3.1) * 3)) .u8 fun x8 =>
              ifB (decide (x8 > (3 : Int)))
                (R (.bool false) w2)
                (JoinW (S := Unit) (fun m9 =>
                    (0 ≤ s3.1 ∧ s3.1 < (p1.l : Int)) ∧
                    derefP p1.a fun a11 =>
                    ldI w2 (a11.add ((Int.toNat s3.1) * 3)) .u8 fun x12 =>
                    ifB (x12 != (0 : Int))
                      ((0 ≤ s3.1 ∧ s3.1 < (p1.l : Int)) ∧
                      derefP p1.a fun a13 =>
                      ldI w2 ((a13.add ((Int.toNat s3.1) * 3)).add 1) .i64 fun x14 =>
                      ifB (decide (x14 < (0 : Int)))
                        (R (.bool false) w2)
                        ((0 ≤ s3.1 ∧ s3.1 < (p1.l : Int)) ∧
                        derefP p1.a fun a15 =>
                        ldI w2 ((a15.add ((Int.toNat s3.1) * 3)).add 1) .i64 fun x16 =>
                        ifB (decide (x16 ≥ (p1.l : Int)))
                          (R (.bool false) w2)
                          (m9 (()) w2)))
                      (m9 (()) w2))
                  (fun s10 w3 =>
                    (0 ≤ s3.1 ∧ s3.1 < (p1.l : Int)) ∧
                    derefP p1.a fun a17 =>
                    ldI w3 (a17.add ((Int.toNat s3.1) * 3)) .u8 fun x18 =>
                    ifB (x18 == (2 : Int))
                      ((0 ≤ s3.1 ∧ s3.1 < (p1.l : Int)) ∧
                      derefP p1.a fun a19 =>
                      ldI w3 ((a19.add ((Int.toNat s3.1) * 3)).add 2) .i64 fun x20 =>
                      ifB (decide (x20 < (0 : Int)))
                        (R (.bool false) w3)
                        ((0 ≤ s3.1 ∧ s3.1 < (p1.l : Int)) ∧
                        derefP p1.a fun a21 =>
                        ldI w3 ((a21.add ((Int.toNat s3.1) * 3)).add 2) .i64 fun x22 =>
                        ifB (decide (x22 ≥ (p1.l : Int)))
                          (R (.bool false) w3)
                          (m5 (()) w3)))
                      (m5 (()) w3))))
            (fun s6 w4 =>
              n4 ((IntKind.i64.wrap (s3.1 + (1 : Int))), ()) w4))
          (R (.bool true) w2))
      ((0 : Int), ()) w1)
theorem intaglioref16_Fit_calls (p0 : Option Addr) (p1 : Sl) (R : Value → World → Prop) (w : World) (h : L_intaglioref16_Fit p0 p1 R w) : Calls Try.prog 154 #[(.pointer p0), (.slice p1.a p1.l p1.c)] w (Ret R) :=
  lw_calls (fs := Try.fs) (an := a_intaglioref16_Fit) (args := [(.pointer p0), (.slice p1.a p1.l p1.c)]) Try.fsOK Try.mixed Try.func154 (by kernel_rfl) (by kernel_rfl)
    (Eq.mpr (by kernel_rfl : lwFn Try.prog Try.fs Try.f154 a_intaglioref16_Fit [(.pointer p0), (.slice p1.a p1.l p1.c)] w R = L_intaglioref16_Fit p0 p1 R w) h)

/-- intaglio.intaglioref16.wide -/
def a_intaglioref16_wide : Ann := (.seq none .nil (.seq none .nil (.seq none (.seq none .nil (.one (.loop ⟨[0, 1], [(5, (.b .slice)), (6, (.b (.int .i64)))]⟩ (.seq none (.seq none .nil (.cond .nil .nil)) (.seq none (.one (.seq none .nil (.seq (some ⟨[0, 1, 5, 6], [(7, (.b .slice))]⟩) (.seq none .nil (.cond .nil .nil)) (.seq (some ⟨[0, 1, 5, 6], [(7, (.b .slice))]⟩) (.seq none .nil (.cond .nil .nil)) .nil)))) .nil))))) (.seq none .nil (.seq none .nil .nil)))))
def L_intaglioref16_wide (p0 : Option Addr) (p1 : Sl) (R : Value → World → Prop) (w : World) : Prop :=
  LoopW (S := Sl × Int × Unit) (fun s1 w1 n2 =>
      ifB (decide (s1.2.1 < (p1.l : Int)))
        (callR Try.prog 98 #[(.pointer p0), (.int .i64 s1.2.1)] w1 fun v3 w2 =>
        ∃ x4 : Sl, v3 = (.slice x4.a x4.l x4.c) ∧
        JoinW (S := Sl × Unit) (fun m5 =>
            (0 ≤ s1.2.1 ∧ s1.2.1 < (p1.l : Int)) ∧
            derefP p1.a fun a7 =>
            ldI w2 (a7.add ((Int.toNat s1.2.1) * 3)) .u8 fun x8 =>
            ifB (x8 != (0 : Int))
              ((0 ≤ s1.2.1 ∧ s1.2.1 < (p1.l : Int)) ∧
              derefP p1.a fun a9 =>
              ldI w2 ((a9.add ((Int.toNat s1.2.1) * 3)).add 1) .i64 fun x10 =>
              Nw (w2.alloc (.cells #[(.int .i64 x10)] 3)) fun w3 =>
              appendS Try.prog 32 (.slice x4.a x4.l x4.c) (.slice (some (blk w2.heap.size)) 1 1) w3 fun r11 w4 =>
              m5 (r11, ()) w4)
              (m5 (x4, ()) w2))
          (fun s6 w5 =>
            JoinW (S := Sl × Unit) (fun m12 =>
                (0 ≤ s1.2.1 ∧ s1.2.1 < (p1.l : Int)) ∧
                derefP p1.a fun a14 =>
                ldI w5 (a14.add ((Int.toNat s1.2.1) * 3)) .u8 fun x15 =>
                ifB (x15 == (2 : Int))
                  ((0 ≤ s1.2.1 ∧ s1.2.1 < (p1.l : Int)) ∧
                  derefP p1.a fun a16 =>
                  ldI w5 ((a16.add ((Int.toNat s1.2.1) * 3)).add 2) .i64 fun x17 =>
                  Nw (w5.alloc (.cells #[(.int .i64 x17)] 3)) fun w6 =>
                  appendS Try.prog 32 (.slice s6.1.a s6.1.l s6.1.c) (.slice (some (blk w5.heap.size)) 1 1) w6 fun r18 w7 =>
                  m12 (r18, ()) w7)
                  (m12 (s6.1, ()) w5))
              (fun s13 w8 =>
                Nw (w8.alloc (.cells #[(.slice s13.1.a s13.1.l s13.1.c)] 32)) fun w9 =>
                appendS Try.prog 22 (.slice s1.1.a s1.1.l s1.1.c) (.slice (some (blk w8.heap.size)) 1 1) w9 fun r19 w10 =>
                n2 (r19, (IntKind.i64.wrap (s1.2.1 + (1 : Int))), ()) w10)))
        (callR Try.prog 26 #[(.slice s1.1.a s1.1.l s1.1.c)] w1 fun v20 w11 =>
        ∃ x21 : Option Addr, ∃ x22 : Int, v20 = (.tuple #[(.pointer x21), (.int .i64 x22)]) ∧
        R (.pointer x21) w11))
    ((Sl.mk none 0 0), (0 : Int), ()) w
theorem intaglioref16_wide_calls (p0 : Option Addr) (p1 : Sl) (R : Value → World → Prop) (w : World) (h : L_intaglioref16_wide p0 p1 R w) : Calls Try.prog 155 #[(.pointer p0), (.slice p1.a p1.l p1.c)] w (Ret R) :=
  lw_calls (fs := Try.fs) (an := a_intaglioref16_wide) (args := [(.pointer p0), (.slice p1.a p1.l p1.c)]) Try.fsOK Try.mixed Try.func155 (by kernel_rfl) (by kernel_rfl)
    (Eq.mpr (by kernel_rfl : lwFn Try.prog Try.fs Try.f155 a_intaglioref16_wide [(.pointer p0), (.slice p1.a p1.l p1.c)] w R = L_intaglioref16_wide p0 p1 R w) h)

/-- (*intaglio.intaglioref16.Nest).Bare -/
def a_intaglioref16_Nest_Bare : Ann := (.seq none .nil (.seq none .nil .nil))
def L_intaglioref16_Nest_Bare (p0 : Option Addr) (p1 : Int) (R : Value → World → Prop) (w : World) : Prop :=
  derefP p0 fun a1 =>
  ldS w (a1.add 1) fun x2 =>
  (0 ≤ p1 ∧ p1 < (x2.l : Int)) ∧
  derefP x2.a fun a3 =>
  ldI w (a3.add ((Int.toNat p1) * 3)) .u8 fun x4 =>
  ifB (x4 == (0 : Int))
    (derefP p0 fun a5 =>
    ldP w a5 fun x6 =>
    callR Try.prog 98 #[(.pointer x6), (.int .i64 p1)] w fun v7 w1 =>
    ∃ x8 : Sl, v7 = (.slice x8.a x8.l x8.c) ∧
    R (.bool (decide ((x8.l : Int) ≥ (2 : Int)))) w1)
    (R (.bool false) w)
theorem intaglioref16_Nest_Bare_calls (p0 : Option Addr) (p1 : Int) (R : Value → World → Prop) (w : World) (h : L_intaglioref16_Nest_Bare p0 p1 R w) : Calls Try.prog 156 #[(.pointer p0), (.int .i64 p1)] w (Ret R) :=
  lw_calls (fs := Try.fs) (an := a_intaglioref16_Nest_Bare) (args := [(.pointer p0), (.int .i64 p1)]) Try.fsOK Try.mixed Try.func156 (by kernel_rfl) (by kernel_rfl)
    (Eq.mpr (by kernel_rfl : lwFn Try.prog Try.fs Try.f156 a_intaglioref16_Nest_Bare [(.pointer p0), (.int .i64 p1)] w R = L_intaglioref16_Nest_Bare p0 p1 R w) h)

/-- (*intaglio.intaglioref16.Nest).Merge -/
def a_intaglioref16_Nest_Merge : Ann := (.seq none .nil (.seq none (.seq none .nil (.cond (.seq none .nil .nil) .nil)) (.seq none .nil (.seq (some ⟨[0, 1, 5], []⟩) (.seq none .nil (.cond (.seq none .nil .nil) .nil)) (.seq none .nil (.seq (some ⟨[0, 1, 5, 6], []⟩) (.seq none .nil (.cond (.seq none .nil .nil) .nil)) (.seq none (.seq none .nil (.one (.loop ⟨[0, 1, 5, 6], [(7, (.b (.int .i64)))]⟩ (.seq none (.seq none .nil (.cond .nil .nil)) (.seq (some ⟨[0, 1, 5, 6, 7], []⟩) (.one (.seq (some ⟨[0, 1, 5, 6, 7], []⟩) (.seq none .nil (.cond .nil .nil)) (.seq none .nil (.cond (.seq none .nil .nil) .nil)))) .nil))))) (.seq none .nil .nil))))))))
def L_intaglioref16_Nest_Merge (p0 : Option Addr) (p1 : Int) (R : Value → World → Prop) (w : World) : Prop :=
  derefP p0 fun a1 =>
  ldS w (a1.add 1) fun x2 =>
  (0 ≤ p1 ∧ p1 < (x2.l : Int)) ∧
  derefP x2.a fun a3 =>
  ldI w (a3.add ((Int.toNat p1) * 3)) .u8 fun x4 =>
  ifB (x4 == (0 : Int))
    (R (.bool false) w)
    (derefP p0 fun a5 =>
    ldS w (a5.add 1) fun x6 =>
    (0 ≤ p1 ∧ p1 < (x6.l : Int)) ∧
    derefP x6.a fun a7 =>
    ldI w ((a7.add ((Int.toNat p1) * 3)).add 1) .i64 fun x8 =>
    JoinW (S := Unit) (fun m9 =>
        ifB (x8 == p1)
          (R (.bool true) w)
          (derefP p0 fun a11 =>
          ldS w (a11.add 4) fun x12 =>
          (0 ≤ p1 ∧ p1 < (x12.l : Int)) ∧
          derefP x12.a fun a13 =>
          ldS w (a13.add (Int.toNat p1)) fun x14 =>
          (0 ≤ x8 ∧ x8 < (x14.l : Int)) ∧
          derefP x14.a fun a15 =>
          ldB w (a15.add (Int.toNat x8)) fun x16 =>
          ifB (!x16)
            (R (.bool true) w)
            (m9 (()) w)))
      (fun s10 w1 =>
        derefP p0 fun a17 =>
        ldS w1 (a17.add 1) fun x18 =>
        (0 ≤ p1 ∧ p1 < (x18.l : Int)) ∧
        derefP x18.a fun a19 =>
        ldI w1 (a19.add ((Int.toNat p1) * 3)) .u8 fun x20 =>
        JoinW (S := Unit) (fun m21 =>
            ifB (x20 == (2 : Int))
              (derefP p0 fun a23 =>
              ldS w1.drew (a23.add 1) fun x24 =>
              (0 ≤ p1 ∧ p1 < (x24.l : Int)) ∧
              derefP x24.a fun a25 =>
              ldI w1.drew ((a25.add ((Int.toNat p1) * 3)).add 2) .i64 fun x26 =>
              ifB (x26 == x8)
                (R (.bool true) w1.drew)
                (derefP p0 fun a27 =>
                ldS w1.drew (a27.add 4) fun x28 =>
                (0 ≤ p1 ∧ p1 < (x28.l : Int)) ∧
                derefP x28.a fun a29 =>
                ldS w1.drew (a29.add (Int.toNat p1)) fun x30 =>
                derefP p0 fun a31 =>
                ldS w1.drew (a31.add 1) fun x32 =>
                (0 ≤ p1 ∧ p1 < (x32.l : Int)) ∧
                derefP x32.a fun a33 =>
                ldI w1.drew ((a33.add ((Int.toNat p1) * 3)).add 2) .i64 fun x34 =>
                (0 ≤ x34 ∧ x34 < (x30.l : Int)) ∧
                derefP x30.a fun a35 =>
                ldB w1.drew (a35.add (Int.toNat x34)) fun x36 =>
                ifB (!x36)
                  (R (.bool true) w1.drew)
                  (m21 (()) w1.drew)))
              (m21 (()) w1.drew))
          (fun s22 w2 =>
            LoopW (S := Int × Unit) (fun s37 w3 n38 =>
                derefP p0 fun a39 =>
                ldS w3 (a39.add 1) fun x40 =>
                ifB (decide (s37.1 < (x40.l : Int)))
                  (JoinW (S := Unit) (fun m41 =>
                      JoinW (S := Unit) (fun m43 =>
                          ifB (s37.1 == p1)
                            (m41 (()) w3)
                            (callR Try.prog 128 #[(.pointer p0), (.int .i64 s37.1)] w3 fun v45 w4 =>
                            ∃ x46 : Bool, v45 = (.bool x46) ∧
                            ifB (!x46)
                              (m41 (()) w4)
                              (m43 (()) w4)))
                        (fun s44 w5 =>
                          derefP p0 fun a47 =>
                          ldS w5.drew (a47.add 1) fun x48 =>
                          (0 ≤ s37.1 ∧ s37.1 < (x48.l : Int)) ∧
                          derefP x48.a fun a49 =>
                          ldI w5.drew ((a49.add ((Int.toNat s37.1) * 3)).add 1) .i64 fun x50 =>
                          ifB (x50 == x8)
                            (R (.bool true) w5.drew)
                            (ifB (x20 == (2 : Int))
                              (derefP p0 fun a51 =>
                              ldS w5.drew (a51.add 1) fun x52 =>
                              (0 ≤ s37.1 ∧ s37.1 < (x52.l : Int)) ∧
                              derefP x52.a fun a53 =>
                              ldI w5.drew (a53.add ((Int.toNat s37.1) * 3)) .u8 fun x54 =>
                              ifB (x54 == (2 : Int))
                                (derefP p0 fun a55 =>
                                ldS w5.drew (a55.add 1) fun x56 =>
                                (0 ≤ s37.1 ∧ s37.1 < (x56.l : Int)) ∧
                                derefP x56.a fun a57 =>
                                ldI w5.drew ((a57.add ((Int.toNat s37.1) * 3)).add 2) .i64 fun x58 =>
                                derefP p0 fun a59 =>
                                ldS w5.drew (a59.add 1) fun x60 =>
                                (0 ≤ p1 ∧ p1 < (x60.l : Int)) ∧
                                derefP x60.a fun a61 =>
                                ldI w5.drew ((a61.add ((Int.toNat p1) * 3)).add 2) .i64 fun x62 =>
                                ifB (x58 == x62)
                                  (R (.bool true) w5.drew)
                                  (m41 (()) w5.drew))
                                (m41 (()) w5.drew))
                              (m41 (()) w5.drew))))
                    (fun s42 w6 =>
                      n38 ((IntKind.i64.wrap (s37.1 + (1 : Int))), ()) w6))
                  (R (.bool false) w3))
              ((0 : Int), ()) w2)))
theorem intaglioref16_Nest_Merge_calls (p0 : Option Addr) (p1 : Int) (R : Value → World → Prop) (w : World) (h : L_intaglioref16_Nest_Merge p0 p1 R w) : Calls Try.prog 157 #[(.pointer p0), (.int .i64 p1)] w (Ret R) :=
  lw_calls (fs := Try.fs) (an := a_intaglioref16_Nest_Merge) (args := [(.pointer p0), (.int .i64 p1)]) Try.fsOK Try.mixed Try.func157 (by kernel_rfl) (by kernel_rfl)
    (Eq.mpr (by kernel_rfl : lwFn Try.prog Try.fs Try.f157 a_intaglioref16_Nest_Merge [(.pointer p0), (.int .i64 p1)] w R = L_intaglioref16_Nest_Merge p0 p1 R w) h)

/-- (*intaglio.intaglioref16.Nest).Back -/
def a_intaglioref16_Nest_Back : Ann := (.seq none .nil (.seq none .nil (.seq none (.seq none .nil (.one (.loop ⟨[0, 1, 5], [(6, (.b (.int .i64)))]⟩ (.seq none (.seq none .nil (.cond .nil .nil)) (.seq (some ⟨[0, 1, 5, 6], []⟩) (.one (.seq none .nil (.seq none .nil (.cond (.seq none .nil (.cond (.seq none .nil .nil) .nil)) (.seq none .nil (.cond (.seq none .nil .nil) .nil)))))) .nil))))) (.seq none .nil (.seq none .nil (.seq none (.seq none .nil (.one (.loop ⟨[0, 1, 9], [(8, (.b (.int .i64))), (10, (.b (.int .i64)))]⟩ (.seq none (.seq none .nil (.cond .nil .nil)) (.seq (some ⟨[0, 1, 9, 10], [(8, (.b (.int .i64)))]⟩) (.one (.seq none .nil (.cond .nil .nil))) .nil))))) (.seq none .nil .nil)))))))
def L_intaglioref16_Nest_Back (p0 : Option Addr) (p1 : Int) (R : Value → World → Prop) (w : World) : Prop :=
  derefP p0 fun a1 =>
  ldP w a1 fun x2 =>
  callR Try.prog 98 #[(.pointer x2), (.int .i64 p1)] w fun v3 w1 =>
  ∃ x4 : Sl, v3 = (.slice x4.a x4.l x4.c) ∧
  LoopW (S := Int × Unit) (fun s5 w2 n6 =>
      ifB (decide (s5.1 < (x4.l : Int)))
        (JoinW (S := Unit) (fun m7 =>
            (0 ≤ s5.1 ∧ s5.1 < (x4.l : Int)) ∧
            derefP x4.a fun a9 =>
            ldI w2 (a9.add (Int.toNat s5.1)) .i64 fun x10 =>
            derefP p0 fun a11 =>
            ldS w2 (a11.add 4) fun x12 =>
            (0 ≤ x10 ∧ x10 < (x12.l : Int)) ∧
            derefP x12.a fun a13 =>
            ldS w2 (a13.add (Int.toNat x10)) fun x14 =>
            (0 ≤ p1 ∧ p1 < (x14.l : Int)) ∧
            derefP x14.a fun a15 =>
            ldB w2 (a15.add (Int.toNat p1)) fun x16 =>
            ifB x16
              (derefP p0 fun a17 =>
              ldS w2.drew (a17.add 1) fun x18 =>
              (0 ≤ x10 ∧ x10 < (x18.l : Int)) ∧
              derefP x18.a fun a19 =>
              ldI w2.drew (a19.add ((Int.toNat x10) * 3)) .u8 fun x20 =>
              ifB (x20 != (2 : Int))
                (R (.bool true) w2.drew)
                (derefP p0 fun a21 =>
                ldS w2.drew (a21.add 4) fun x22 =>
                derefP p0 fun a23 =>
                ldS w2.drew (a23.add 1) fun x24 =>
                (0 ≤ x10 ∧ x10 < (x24.l : Int)) ∧
                derefP x24.a fun a25 =>
                ldI w2.drew ((a25.add ((Int.toNat x10) * 3)).add 2) .i64 fun x26 =>
                (0 ≤ x26 ∧ x26 < (x22.l : Int)) ∧
                derefP x22.a fun a27 =>
                ldS w2.drew (a27.add (Int.toNat x26)) fun x28 =>
                (0 ≤ p1 ∧ p1 < (x28.l : Int)) ∧
                derefP x28.a fun a29 =>
                ldB w2.drew (a29.add (Int.toNat p1)) fun x30 =>
                ifB (!x30)
                  (R (.bool true) w2.drew)
                  (m7 (()) w2.drew)))
              (callR Try.prog 183 #[(.pointer p0), (.int .i64 x10), (.int .i64 p1)] w2 fun v31 w3 =>
              ∃ x32 : Bool, v31 = (.bool x32) ∧
              ifB x32
                (R (.bool true) w3)
                (m7 (()) w3)))
          (fun s8 w4 =>
            n6 ((IntKind.i64.wrap (s5.1 + (1 : Int))), ()) w4))
        (derefP p0 fun a33 =>
        ldP w2 a33 fun x34 =>
        callR Try.prog 99 #[(.pointer x34), (.int .i64 p1)] w2 fun v35 w5 =>
        ∃ x36 : Sl, v35 = (.slice x36.a x36.l x36.c) ∧
        LoopW (S := Int × Int × Unit) (fun s37 w6 n38 =>
            ifB (decide (s37.2.1 < (x36.l : Int)))
              (JoinW (S := Int × Unit) (fun m39 =>
                  derefP p0 fun a41 =>
                  ldS w6.drew (a41.add 4) fun x42 =>
                  (0 ≤ p1 ∧ p1 < (x42.l : Int)) ∧
                  derefP x42.a fun a43 =>
                  ldS w6.drew (a43.add (Int.toNat p1)) fun x44 =>
                  (0 ≤ s37.2.1 ∧ s37.2.1 < (x36.l : Int)) ∧
                  derefP x36.a fun a45 =>
                  ldI w6.drew (a45.add (Int.toNat s37.2.1)) .i64 fun x46 =>
                  (0 ≤ x46 ∧ x46 < (x44.l : Int)) ∧
                  derefP x44.a fun a47 =>
                  ldB w6.drew (a47.add (Int.toNat x46)) fun x48 =>
                  ifB x48
                    (m39 ((IntKind.i64.wrap (s37.1 + (1 : Int))), ()) w6.drew)
                    (m39 (s37.1, ()) w6.drew))
                (fun s40 w7 =>
                  n38 (s40.1, (IntKind.i64.wrap (s37.2.1 + (1 : Int))), ()) w7))
              (R (.bool (decide (s37.1 ≥ (2 : Int)))) w6))
          ((0 : Int), (0 : Int), ()) w5))
    ((0 : Int), ()) w1
theorem intaglioref16_Nest_Back_calls (p0 : Option Addr) (p1 : Int) (R : Value → World → Prop) (w : World) (h : L_intaglioref16_Nest_Back p0 p1 R w) : Calls Try.prog 158 #[(.pointer p0), (.int .i64 p1)] w (Ret R) :=
  lw_calls (fs := Try.fs) (an := a_intaglioref16_Nest_Back) (args := [(.pointer p0), (.int .i64 p1)]) Try.fsOK Try.mixed Try.func158 (by kernel_rfl) (by kernel_rfl)
    (Eq.mpr (by kernel_rfl : lwFn Try.prog Try.fs Try.f158 a_intaglioref16_Nest_Back [(.pointer p0), (.int .i64 p1)] w R = L_intaglioref16_Nest_Back p0 p1 R w) h)

/-- (*intaglio.intaglioref16.Nest).Exit -/
def a_intaglioref16_Nest_Exit : Ann := (.seq none .nil (.seq none .nil (.seq none (.seq none .nil (.one (.loop ⟨[0, 1, 5], [(6, (.b (.int .i64)))]⟩ (.seq none (.seq none .nil (.cond .nil .nil)) (.seq none (.one (.seq none .nil (.cond (.seq none .nil .nil) .nil))) .nil))))) (.seq none .nil .nil))))
def L_intaglioref16_Nest_Exit (p0 : Option Addr) (p1 : Int) (R : Value → World → Prop) (w : World) : Prop :=
  derefP p0 fun a1 =>
  ldP w a1 fun x2 =>
  callR Try.prog 98 #[(.pointer x2), (.int .i64 p1)] w fun v3 w1 =>
  ∃ x4 : Sl, v3 = (.slice x4.a x4.l x4.c) ∧
  LoopW (S := Int × Unit) (fun s5 w2 n6 =>
      ifB (decide (s5.1 < (x4.l : Int)))
        ((0 ≤ s5.1 ∧ s5.1 < (x4.l : Int)) ∧
        derefP x4.a fun a7 =>
        ldI w2 (a7.add (Int.toNat s5.1)) .i64 fun x8 =>
        callR Try.prog 184 #[(.pointer p0), (.int .i64 p1), (.int .i64 x8)] w2 fun v9 w3 =>
        ∃ x10 : Bool, v9 = (.bool x10) ∧
        ifB (!x10)
          (R (.bool true) w3)
          (n6 ((IntKind.i64.wrap (s5.1 + (1 : Int))), ()) w3))
        (R (.bool false) w2))
    ((0 : Int), ()) w1
theorem intaglioref16_Nest_Exit_calls (p0 : Option Addr) (p1 : Int) (R : Value → World → Prop) (w : World) (h : L_intaglioref16_Nest_Exit p0 p1 R w) : Calls Try.prog 159 #[(.pointer p0), (.int .i64 p1)] w (Ret R) :=
  lw_calls (fs := Try.fs) (an := a_intaglioref16_Nest_Exit) (args := [(.pointer p0), (.int .i64 p1)]) Try.fsOK Try.mixed Try.func159 (by kernel_rfl) (by kernel_rfl)
    (Eq.mpr (by kernel_rfl : lwFn Try.prog Try.fs Try.f159 a_intaglioref16_Nest_Exit [(.pointer p0), (.int .i64 p1)] w R = L_intaglioref16_Nest_Exit p0 p1 R w) h)

/-- (*intaglio.intaglioref16.Nest).Of -/
def a_intaglioref16_Nest_Of : Ann := (.seq none .nil (.seq none .nil (.seq none .nil .nil)))
def L_intaglioref16_Nest_Of (p0 : Option Addr) (p1 : Int) (p2 : Int) (R : Value → World → Prop) (w : World) : Prop :=
  derefP p0 fun a1 =>
  ldS w (a1.add 1) fun x2 =>
  (0 ≤ p1 ∧ p1 < (x2.l : Int)) ∧
  derefP x2.a fun a3 =>
  ldI w (a3.add ((Int.toNat p1) * 3)) .u8 fun x4 =>
  callR Try.prog 128 #[(.pointer p0), (.int .i64 p1)] w fun v5 w1 =>
  ∃ x6 : Bool, v5 = (.bool x6) ∧
  ifB x6
    (ifB (p2 == (0 : Int))
      (R (.bool true) w1)
      (ifB (x4 == (2 : Int))
        (R (.bool true) w1)
        (ifB (p2 == (3 : Int))
          (R (.bool (x4 == (3 : Int))) w1)
          (R (.bool false) w1))))
    (R (.bool false) w1)
theorem intaglioref16_Nest_Of_calls (p0 : Option Addr) (p1 : Int) (p2 : Int) (R : Value → World → Prop) (w : World) (h : L_intaglioref16_Nest_Of p0 p1 p2 R w) : Calls Try.prog 173 #[(.pointer p0), (.int .i64 p1), (.int .u8 p2)] w (Ret R) :=
  lw_calls (fs := Try.fs) (an := a_intaglioref16_Nest_Of) (args := [(.pointer p0), (.int .i64 p1), (.int .u8 p2)]) Try.fsOK Try.mixed Try.func173 (by kernel_rfl) (by kernel_rfl)
    (Eq.mpr (by kernel_rfl : lwFn Try.prog Try.fs Try.f173 a_intaglioref16_Nest_Of [(.pointer p0), (.int .i64 p1), (.int .u8 p2)] w R = L_intaglioref16_Nest_Of p0 p1 p2 R w) h)

/-- (*intaglio.intaglioref16.Nest).Comes -/
def a_intaglioref16_Nest_Comes : Ann := (.seq none .nil (.seq none .nil (.seq none .nil (.seq none (.seq none .nil (.one (.loop ⟨[0, 2, 7], [(8, (.b .bool))]⟩ (.seq none (.seq none .nil (.cond .nil .nil)) (.one (.seq none .nil (.seq none .nil (.one (.loop ⟨[0, 2, 7], [(8, (.b .bool)), (9, (.b (.int .i64)))]⟩ (.seq none (.seq none .nil (.cond .nil .nil)) (.seq (some ⟨[0, 2, 7, 9], [(8, (.b .bool))]⟩) (.one (.seq none (.seq none .nil (.cond .nil .nil)) (.seq none .nil (.seq none .nil (.one (.loop ⟨[0, 2, 7, 9, 10], [(8, (.b .bool)), (11, (.b (.int .i64)))]⟩ (.seq none (.seq none .nil (.cond .nil .nil)) (.seq (some ⟨[0, 2, 7, 9, 10, 11], [(8, (.b .bool))]⟩) (.one (.seq none .nil (.cond (.seq none .nil .nil) .nil))) .nil)))))))) .nil))))))))))) (.seq none .nil .nil)))))
def L_intaglioref16_Nest_Comes (p0 : Option Addr) (p1 : Int) (p2 : Int) (R : Value → World → Prop) (w : World) : Prop :=
  derefP p0 fun a1 =>
  ldS w (a1.add 1) fun x2 =>
  (0 ≤ (x2.l : Int) ∧ (x2.l : Int) ≤ (x2.l : Int) ∧ (1 : Int) * (x2.l : Int) ≤ 281474976710656 ∧ (x2.l : Int) ≤ 9223372036854775807) ∧
  Nw (w.alloc (.cells (madeCells #[(.bool false)] (x2.l * 1)) 4)) fun w1 =>
  (0 ≤ p1 ∧ p1 < (x2.l : Int)) ∧
  Wr w1 ((blk w.heap.size).add (Int.toNat p1)) ∧
  Nw (w1.setCell ((blk w.heap.size).add (Int.toNat p1)) (.bool true)) fun w2 =>
  LoopW (S := Bool × Unit) (fun s3 w3 n4 =>
      ifB s3.1
        (LoopW (S := Bool × Int × Unit) (fun s5 w4 n6 =>
            derefP p0 fun a7 =>
            ldS w4 (a7.add 1) fun x8 =>
            ifB (decide (s5.2.1 < (x8.l : Int)))
              (JoinW (S := Bool × Unit) (fun m9 =>
                  (0 ≤ s5.2.1 ∧ s5.2.1 < (x2.l : Int)) ∧
                  ldB w4 ((blk w.heap.size).add (Int.toNat s5.2.1)) fun x11 =>
                  ifB (!x11)
                    (m9 (s5.1, ()) w4)
                    (callR Try.prog 212 #[(.pointer p0), (.int .i64 s5.2.1)] w4 fun v12 w5 =>
                    ∃ x13 : Sl, v12 = (.slice x13.a x13.l x13.c) ∧
                    LoopW (S := Bool × Int × Unit) (fun s14 w6 n15 =>
                        ifB (decide (s14.2.1 < (x13.l : Int)))
                          (JoinW (S := Bool × Unit) (fun m16 =>
                              (0 ≤ s14.2.1 ∧ s14.2.1 < (x13.l : Int)) ∧
                              derefP x13.a fun a18 =>
                              ldI w6 (a18.add (Int.toNat s14.2.1)) .i64 fun x19 =>
                              (0 ≤ x19 ∧ x19 < (x2.l : Int)) ∧
                              ldB w6 ((blk w.heap.size).add (Int.toNat x19)) fun x20 =>
                              ifB (!x20)
                                ((0 ≤ s14.2.1 ∧ s14.2.1 < (x13.l : Int)) ∧
                                derefP x13.a fun a21 =>
                                ldI w6 (a21.add (Int.toNat s14.2.1)) .i64 fun x22 =>
                                (0 ≤ x22 ∧ x22 < (x2.l : Int)) ∧
                                Wr w6 ((blk w.heap.size).add (Int.toNat x22)) ∧
                                Nw (w6.setCell ((blk w.heap.size).add (Int.toNat x22)) (.bool true)) fun w7 =>
                                m16 (true, ()) w7)
                                (m16 (s14.1, ()) w6))
                            (fun s17 w8 =>
                              n15 (s17.1, (IntKind.i64.wrap (s14.2.1 + (1 : Int))), ()) w8))
                          (m9 (s14.1, ()) w6))
                      (s5.1, (0 : Int), ()) w5))
                (fun s10 w9 =>
                  n6 (s10.1, (IntKind.i64.wrap (s5.2.1 + (1 : Int))), ()) w9))
              (n4 (s5.1, ()) w4))
          (false, (0 : Int), ()) w3)
        ((0 ≤ p2 ∧ p2 < (x2.l : Int)) ∧
        ldB w3 ((blk w.heap.size).add (Int.toNat p2)) fun x23 =>
        R (.bool x23) w3))
    (true, ()) w2
theorem intaglioref16_Nest_Comes_calls (p0 : Option Addr) (p1 : Int) (p2 : Int) (R : Value → World → Prop) (w : World) (h : L_intaglioref16_Nest_Comes p0 p1 p2 R w) : Calls Try.prog 183 #[(.pointer p0), (.int .i64 p1), (.int .i64 p2)] w (Ret R) :=
  lw_calls (fs := Try.fs) (an := a_intaglioref16_Nest_Comes) (args := [(.pointer p0), (.int .i64 p1), (.int .i64 p2)]) Try.fsOK Try.mixed Try.func183 (by kernel_rfl) (by kernel_rfl)
    (Eq.mpr (by kernel_rfl : lwFn Try.prog Try.fs Try.f183 a_intaglioref16_Nest_Comes [(.pointer p0), (.int .i64 p1), (.int .i64 p2)] w R = L_intaglioref16_Nest_Comes p0 p1 p2 R w) h)

/-- (*intaglio.intaglioref16.Nest).May -/
def a_intaglioref16_Nest_May : Ann := (.seq none .nil (.seq none .nil (.seq none .nil (.seq none (.seq none .nil (.one (.loop ⟨[0, 1, 2], [(7, (.b (.int .i64))), (8, (.b (.int .i64))), (9, (.b (.int .i64)))]⟩ (.seq none (.seq none .nil (.cond .nil .nil)) (.seq (some ⟨[0, 1, 2, 9], [(7, (.b (.int .i64))), (8, (.b (.int .i64)))]⟩) (.one (.seq (some ⟨[0, 1, 2, 7, 8, 9], []⟩) (.seq none .nil (.cond (.seq none .nil .nil) .nil)) (.seq none .nil (.cond (.seq none .nil (.seq none .nil (.cond .nil .nil))) .nil)))) .nil))))) (.seq none (.seq none .nil (.cond (.seq none .nil .nil) .nil)) (.seq (some ⟨[0, 1, 2], []⟩) (.seq none .nil (.cond (.seq none .nil .nil) .nil)) (.seq none (.seq none .nil (.one (.loop ⟨[0, 1, 2], [(10, (.b (.int .i64)))]⟩ (.seq none (.seq none .nil (.cond .nil .nil)) (.seq (some ⟨[0, 1, 2, 10], []⟩) (.one (.seq none .nil (.cond (.seq none .nil .nil) .nil))) .nil))))) (.seq none .nil .nil))))))))
def L_intaglioref16_Nest_May (p0 : Option Addr) (p1 : Int) (p2 : Int) (R : Value → World → Prop) (w : World) : Prop :=
  LoopW (S := Int × Int × Int × Unit) (fun s1 w1 n2 =>
      derefP p0 fun a3 =>
      ldS w1 (a3.add 1) fun x4 =>
      ifB (decide (s1.2.2.1 < (x4.l : Int)))
        (JoinW (S := Int × Int × Unit) (fun m5 =>
            JoinW (S := Unit) (fun m7 =>
                callR Try.prog 129 #[(.pointer p0), (.int .i64 s1.2.2.1), (.int .i64 p2)] w1 fun v9 w2 =>
                ∃ x10 : Bool, v9 = (.bool x10) ∧
                ifB x10
                  (callR Try.prog 129 #[(.pointer p0), (.int .i64 s1.2.2.1), (.int .i64 p1)] w2 fun v11 w3 =>
                  ∃ x12 : Bool, v11 = (.bool x12) ∧
                  ifB (!x12)
                    (ifB (p2 != s1.2.2.1)
                      (R (.bool false) w3)
                      (m7 (()) w3))
                    (m7 (()) w3))
                  (m7 (()) w2))
              (fun s8 w4 =>
                callR Try.prog 129 #[(.pointer p0), (.int .i64 s1.2.2.1), (.int .i64 p1)] w4 fun v13 w5 =>
                ∃ x14 : Bool, v13 = (.bool x14) ∧
                ifB x14
                  (callR Try.prog 129 #[(.pointer p0), (.int .i64 s1.2.2.1), (.int .i64 p2)] w5 fun v15 w6 =>
                  ∃ x16 : Bool, v15 = (.bool x16) ∧
                  ifB (!x16)
                    (ifB (decide (s1.1 < (0 : Int)))
                      (m5 (s1.2.2.1, (IntKind.i64.wrap (s1.2.1 + (1 : Int))), ()) w6)
                      (derefP p0 fun a17 =>
                      ldS w6 (a17.add 4) fun x18 =>
                      (0 ≤ s1.2.2.1 ∧ s1.2.2.1 < (x18.l : Int)) ∧
                      derefP x18.a fun a19 =>
                      ldS w6 (a19.add (Int.toNat s1.2.2.1)) fun x20 =>
                      (0 ≤ s1.1 ∧ s1.1 < (x20.l : Int)) ∧
                      derefP x20.a fun a21 =>
                      ldB w6 (a21.add (Int.toNat s1.1)) fun x22 =>
                      ifB x22
                        (m5 (s1.2.2.1, (IntKind.i64.wrap (s1.2.1 + (1 : Int))), ()) w6)
                        (m5 (s1.1, (IntKind.i64.wrap (s1.2.1 + (1 : Int))), ()) w6)))
                    (m5 (s1.1, s1.2.1, ()) w6))
                  (m5 (s1.1, s1.2.1, ()) w5)))
          (fun s6 w7 =>
            n2 (s6.1, s6.2.1, (IntKind.i64.wrap (s1.2.2.1 + (1 : Int))), ()) w7))
        (ifB (s1.2.1 == (0 : Int))
          (R (.bool true) w1)
          (JoinW (S := Unit) (fun m23 =>
              derefP p0 fun a25 =>
              ldS w1 (a25.add 1) fun x26 =>
              (0 ≤ s1.1 ∧ s1.1 < (x26.l : Int)) ∧
              derefP x26.a fun a27 =>
              ldI w1 ((a27.add ((Int.toNat s1.1) * 3)).add 1) .i64 fun x28 =>
              ifB (p2 == x28)
                (ifB (s1.2.1 == (1 : Int))
                  (R (.bool true) w1)
                  (callR Try.prog 130 #[(.pointer p0), (.int .i64 s1.1), (.int .i64 p1), (.int .u8 (3 : Int))] w1 fun v29 w8 =>
                  ∃ x30 : Bool, v29 = (.bool x30) ∧
                  ifB x30
                    (R (.bool true) w8)
                    (m23 (()) w8)))
                (m23 (()) w1))
            (fun s24 w9 =>
              LoopW (S := Int × Unit) (fun s31 w10 n32 =>
                  derefP p0 fun a33 =>
                  ldS w10 (a33.add 1) fun x34 =>
                  ifB (decide (s31.1 < (x34.l : Int)))
                    (JoinW (S := Unit) (fun m35 =>
                        callR Try.prog 130 #[(.pointer p0), (.int .i64 s31.1), (.int .i64 p1), (.int .u8 (2 : Int))] w10 fun v37 w11 =>
                        ∃ x38 : Bool, v37 = (.bool x38) ∧
                        ifB x38
                          (derefP p0 fun a39 =>
                          ldS w11 (a39.add 1) fun x40 =>
                          (0 ≤ s31.1 ∧ s31.1 < (x40.l : Int)) ∧
                          derefP x40.a fun a41 =>
                          ldI w11 ((a41.add ((Int.toNat s31.1) * 3)).add 2) .i64 fun x42 =>
                          ifB (p2 == x42)
                            (callR Try.prog 129 #[(.pointer p0), (.int .i64 s31.1), (.int .i64 p2)] w11 fun v43 w12 =>
                            ∃ x44 : Bool, v43 = (.bool x44) ∧
                            ifB x44
                              (R (.bool true) w12)
                              (m35 (()) w12))
                            (m35 (()) w11))
                          (m35 (()) w11))
                      (fun s36 w13 =>
                        n32 ((IntKind.i64.wrap (s31.1 + (1 : Int))), ()) w13))
                    (R (.bool false) w10))
                ((0 : Int), ()) w9))))
    ((-1 : Int), (0 : Int), (0 : Int), ()) w
theorem intaglioref16_Nest_May_calls (p0 : Option Addr) (p1 : Int) (p2 : Int) (R : Value → World → Prop) (w : World) (h : L_intaglioref16_Nest_May p0 p1 p2 R w) : Calls Try.prog 184 #[(.pointer p0), (.int .i64 p1), (.int .i64 p2)] w (Ret R) :=
  lw_calls (fs := Try.fs) (an := a_intaglioref16_Nest_May) (args := [(.pointer p0), (.int .i64 p1), (.int .i64 p2)]) Try.fsOK Try.mixed Try.func184 (by kernel_rfl) (by kernel_rfl)
    (Eq.mpr (by kernel_rfl : lwFn Try.prog Try.fs Try.f184 a_intaglioref16_Nest_May [(.pointer p0), (.int .i64 p1), (.int .i64 p2)] w R = L_intaglioref16_Nest_May p0 p1 p2 R w) h)

/-- (*intaglio.intaglioref16.Nest).Forward -/
def a_intaglioref16_Nest_Forward : Ann := (.seq none .nil (.seq none .nil (.seq none .nil (.seq none (.seq none .nil (.one (.loop ⟨[0, 1, 6], [(5, (.b .slice)), (7, (.b (.int .i64)))]⟩ (.seq none (.seq none .nil (.cond .nil .nil)) (.seq (some ⟨[0, 1, 6, 7], [(5, (.b .slice))]⟩) (.one (.seq none .nil (.cond .nil .nil))) .nil))))) (.seq none .nil .nil)))))
def L_intaglioref16_Nest_Forward (p0 : Option Addr) (p1 : Int) (R : Value → World → Prop) (w : World) : Prop :=
  derefP p0 fun a1 =>
  ldP w a1 fun x2 =>
  callR Try.prog 98 #[(.pointer x2), (.int .i64 p1)] w fun v3 w1 =>
  ∃ x4 : Sl, v3 = (.slice x4.a x4.l x4.c) ∧
  LoopW (S := Sl × Int × Unit) (fun s5 w2 n6 =>
      ifB (decide (s5.2.1 < (x4.l : Int)))
        (JoinW (S := Sl × Unit) (fun m7 =>
            derefP p0 fun a9 =>
            ldS w2.drew (a9.add 4) fun x10 =>
            (0 ≤ s5.2.1 ∧ s5.2.1 < (x4.l : Int)) ∧
            derefP x4.a fun a11 =>
            ldI w2.drew (a11.add (Int.toNat s5.2.1)) .i64 fun x12 =>
            (0 ≤ x12 ∧ x12 < (x10.l : Int)) ∧
            derefP x10.a fun a13 =>
            ldS w2.drew (a13.add (Int.toNat x12)) fun x14 =>
            (0 ≤ p1 ∧ p1 < (x14.l : Int)) ∧
            derefP x14.a fun a15 =>
            ldB w2.drew (a15.add (Int.toNat p1)) fun x16 =>
            ifB (!x16)
              ((0 ≤ s5.2.1 ∧ s5.2.1 < (x4.l : Int)) ∧
              derefP x4.a fun a17 =>
              ldI w2.drew (a17.add (Int.toNat s5.2.1)) .i64 fun x18 =>
              Nw (w2.drew.alloc (.cells #[(.int .i64 x18)] 3)) fun w3 =>
              appendS Try.prog 32 (.slice s5.1.a s5.1.l s5.1.c) (.slice (some (blk w2.drew.heap.size)) 1 1) w3 fun r19 w4 =>
              m7 (r19, ()) w4)
              (m7 (s5.1, ()) w2.drew))
          (fun s8 w5 =>
            n6 (s8.1, (IntKind.i64.wrap (s5.2.1 + (1 : Int))), ()) w5))
        (R (.slice s5.1.a s5.1.l s5.1.c) w2))
    ((Sl.mk none 0 0), (0 : Int), ()) w1
theorem intaglioref16_Nest_Forward_calls (p0 : Option Addr) (p1 : Int) (R : Value → World → Prop) (w : World) (h : L_intaglioref16_Nest_Forward p0 p1 R w) : Calls Try.prog 212 #[(.pointer p0), (.int .i64 p1)] w (Ret R) :=
  lw_calls (fs := Try.fs) (an := a_intaglioref16_Nest_Forward) (args := [(.pointer p0), (.int .i64 p1)]) Try.fsOK Try.mixed Try.func212 (by kernel_rfl) (by kernel_rfl)
    (Eq.mpr (by kernel_rfl : lwFn Try.prog Try.fs Try.f212 a_intaglioref16_Nest_Forward [(.pointer p0), (.int .i64 p1)] w R = L_intaglioref16_Nest_Forward p0 p1 R w) h)

end Go.Proofs
