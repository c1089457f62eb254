/-
  Printed by a program of the author: what each function comes to.
-/
import Derived.Test.YtocnlbhoibplbaaProg
import Derived.Test.YtocnlbhoibplbaaGkR
import Derived.Test.YtocnlbhoibplbaaLb
namespace Go.Proofs
open Go.Gk
set_option linter.unusedVariables false
set_option maxRecDepth 100000

/-- intaglio.intagliolaw14.awake -/
def a_intagliolaw14_awake : Ann := (.seq none .nil (.seq none .nil (.seq none .nil (.seq none .nil (.seq none .nil (.seq none .nil .nil))))))
def L_intagliolaw14_awake  (R : Value → World → Prop) (w : World) : Prop :=
  (0 ≤ (3 : Int) ∧ (3 : Int) ≤ (3 : Int) ∧ (24 : Int) * (3 : Int) ≤ 281474976710656 ∧ (3 : Int) ≤ 9223372036854775807) ∧
  Nw (w.alloc (.cells (madeCells #[(.slice none 0 0)] (3 * 1)) 40)) fun w1 =>
  callR Try.prog 34 #[(.int .i64 (2 : Int)), (.int .i64 (1 : Int))] w1 fun v1 w2 =>
  ∃ x2 : Sl, v1 = (.slice x2.a x2.l x2.c) ∧
  (0 ≤ (0 : Int) ∧ (0 : Int) < (3 : Int)) ∧
  Wr w2 ((blk w.heap.size).add 0) ∧
  Nw (w2.setCell ((blk w.heap.size).add 0) (.slice x2.a x2.l x2.c)) fun w3 =>
  callR Try.prog 34 #[(.int .i64 (0 : Int)), (.int .i64 (2 : Int))] w3 fun v3 w4 =>
  ∃ x4 : Sl, v3 = (.slice x4.a x4.l x4.c) ∧
  (0 ≤ (2 : Int) ∧ (2 : Int) < (3 : Int)) ∧
  Wr w4 ((blk w.heap.size).add 2) ∧
  Nw (w4.setCell ((blk w.heap.size).add 2) (.slice x4.a x4.l x4.c)) fun w5 =>
  callR Try.prog 35 #[(.slice (some (blk w.heap.size)) 3 3)] w5 fun v5 w6 =>
  ∃ x6 : Option Addr, ∃ x7 : Int, v5 = (.tuple #[(.pointer x6), (.int .i64 x7)]) ∧
  ifB (x7 == (0 : Int))
    (callR Try.prog 36 #[(.pointer x6)] w6 fun v8 w7 =>
    ∃ x9 : Int, v8 = (.int .i64 x9) ∧
    ifB (x9 == (3 : Int))
      (callR Try.prog 37 #[(.pointer x6), (.int .i64 (0 : Int))] w7 fun v10 w8 =>
      ∃ x11 : Sl, v10 = (.slice x11.a x11.l x11.c) ∧
      callR Try.prog 34 #[(.int .i64 (2 : Int)), (.int .i64 (1 : Int))] w8 fun v12 w9 =>
      ∃ x13 : Sl, v12 = (.slice x13.a x13.l x13.c) ∧
      callR Try.prog 23 #[(.slice x11.a x11.l x11.c), (.slice x13.a x13.l x13.c)] w9 fun v14 w10 =>
      ∃ x15 : Bool, v14 = (.bool x15) ∧
      ifB x15
        (callR Try.prog 38 #[(.pointer x6), (.int .i64 (2 : Int))] w10 fun v16 w11 =>
        ∃ x17 : Sl, v16 = (.slice x17.a x17.l x17.c) ∧
        callR Try.prog 34 #[(.int .i64 (0 : Int)), (.int .i64 (2 : Int))] w11 fun v18 w12 =>
        ∃ x19 : Sl, v18 = (.slice x19.a x19.l x19.c) ∧
        callR Try.prog 23 #[(.slice x17.a x17.l x17.c), (.slice x19.a x19.l x19.c)] w12 fun v20 w13 =>
        ∃ x21 : Bool, v20 = (.bool x21) ∧
        ifB x21
          (callR Try.prog 39 #[(.pointer x6), (.int .i64 (1 : Int))] w13 fun v22 w14 =>
          ∃ x23 : Bool, v22 = (.bool x23) ∧
          ifB x23
            (callR Try.prog 40 #[(.pointer x6)] w14 fun v24 w15 =>
            ∃ x25 : Sl, v24 = (.slice x25.a x25.l x25.c) ∧
            R (.bool ((x25.l : Int) == (3 : Int))) w15)
            (R (.bool false) w14))
          (R (.bool false) w13))
        (R (.bool false) w10))
      (R (.bool false) w7))
    (R (.bool false) w6)
theorem intagliolaw14_awake_calls  (R : Value → World → Prop) (w : World) (h : L_intagliolaw14_awake  R w) : Calls Try.prog 15 #[] w (Ret R) :=
  lw_calls (fs := Try.fs) (an := a_intagliolaw14_awake) (args := []) Try.fsOK Try.mixed Try.func15 (by kernel_rfl) (by kernel_rfl)
    (Eq.mpr (by kernel_rfl : lwFn Try.prog Try.fs Try.f15 a_intagliolaw14_awake [] w R = L_intagliolaw14_awake  R w) h)

/-- intaglio.intagliokit.Ints -/
def a_intagliokit_Ints : Ann := (.seq none .nil (.seq none (.seq none .nil (.cond (.seq none .nil .nil) .nil)) (.seq none (.seq none .nil (.one (.loop ⟨[0, 1], [(5, (.b (.int .i64)))]⟩ (.seq none (.seq none .nil (.cond .nil .nil)) (.seq none (.one (.seq none .nil (.cond (.seq none .nil .nil) .nil))) .nil))))) (.seq none .nil .nil))))
def L_intagliokit_Ints (p0 : Sl) (p1 : Sl) (R : Value → World → Prop) (w : World) : Prop :=
  ifB ((p0.l : Int) != (p1.l : Int))
    (R (.bool false) w)
    (LoopW (S := Int × Unit) (fun s1 w1 n2 =>
        ifB (decide (s1.1 < (p0.l : Int)))
          ((0 ≤ s1.1 ∧ s1.1 < (p0.l : Int)) ∧
          derefP p0.a fun a3 =>
          ldI w1.drew (a3.add (Int.toNat s1.1)) .i64 fun x4 =>
          (0 ≤ s1.1 ∧ s1.1 < (p1.l : Int)) ∧
          derefP p1.a fun a5 =>
          ldI w1.drew (a5.add (Int.toNat s1.1)) .i64 fun x6 =>
          ifB (x4 != x6)
            (R (.bool false) w1.drew)
            (n2 ((IntKind.i64.wrap (s1.1 + (1 : Int))), ()) w1.drew))
          (R (.bool true) w1))
      ((0 : Int), ()) w)
theorem intagliokit_Ints_calls (p0 : Sl) (p1 : Sl) (R : Value → World → Prop) (w : World) (h : L_intagliokit_Ints p0 p1 R w) : Calls Try.prog 23 #[(.slice p0.a p0.l p0.c), (.slice p1.a p1.l p1.c)] w (Ret R) :=
  lw_calls (fs := Try.fs) (an := a_intagliokit_Ints) (args := [(.slice p0.a p0.l p0.c), (.slice p1.a p1.l p1.c)]) Try.fsOK Try.mixed Try.func23 (by kernel_rfl) (by kernel_rfl)
    (Eq.mpr (by kernel_rfl : lwFn Try.prog Try.fs Try.f23 a_intagliokit_Ints [(.slice p0.a p0.l p0.c), (.slice p1.a p1.l p1.c)] w R = L_intagliokit_Ints p0 p1 R w) h)

/-- intaglio.intagliolaw14.pair -/
def a_intagliolaw14_pair : Ann := (.seq none .nil (.seq none .nil (.seq none .nil (.seq none .nil (.seq none .nil .nil)))))
def L_intagliolaw14_pair (p0 : Int) (p1 : Int) (R : Value → World → Prop) (w : World) : Prop :=
  (0 ≤ (2 : Int) ∧ (2 : Int) ≤ (2 : Int) ∧ (8 : Int) * (2 : Int) ≤ 281474976710656 ∧ (2 : Int) ≤ 9223372036854775807) ∧
  Nw (w.alloc (.cells (madeCells #[(.int .i64 (0 : Int))] (2 * 1)) 3)) fun w1 =>
  (0 ≤ (0 : Int) ∧ (0 : Int) < (2 : Int)) ∧
  Wr w1 ((blk w.heap.size).add 0) ∧
  Nw (w1.setCell ((blk w.heap.size).add 0) (.int .i64 p0)) fun w2 =>
  (0 ≤ (1 : Int) ∧ (1 : Int) < (2 : Int)) ∧
  Wr w2 ((blk w.heap.size).add 1) ∧
  Nw (w2.setCell ((blk w.heap.size).add 1) (.int .i64 p1)) fun w3 =>
  R (.slice (some (blk w.heap.size)) 2 2) w3
theorem intagliolaw14_pair_calls (p0 : Int) (p1 : Int) (R : Value → World → Prop) (w : World) (h : L_intagliolaw14_pair p0 p1 R w) : Calls Try.prog 34 #[(.int .i64 p0), (.int .i64 p1)] w (Ret R) :=
  lw_calls (fs := Try.fs) (an := a_intagliolaw14_pair) (args := [(.int .i64 p0), (.int .i64 p1)]) Try.fsOK Try.mixed Try.func34 (by kernel_rfl) (by kernel_rfl)
    (Eq.mpr (by kernel_rfl : lwFn Try.prog Try.fs Try.f34 a_intagliolaw14_pair [(.int .i64 p0), (.int .i64 p1)] w R = L_intagliolaw14_pair p0 p1 R w) h)

/-- intaglio.graph.Of -/
def a_graph_Of : Ann := (.seq none .nil (.seq none (.one (.seq none .nil (.cond (.seq none .nil .nil) (.seq none .nil (.cond (.seq none .nil .nil) .nil))))) (.seq (some ⟨[0], [(4, (.b .ptr))]⟩) .nil (.seq none (.seq none .nil (.one (.loop ⟨[0, 4, 26, 27], [(28, (.b (.int .i64)))]⟩ (.seq none .nil (.seq none (.cond .nil .nil) (.seq none (.one (.seq none .nil (.seq none .nil (.seq none .nil (.one (.loop ⟨[0, 4, 5, 7, 26, 27, 28, 33, 34], [(35, (.b (.int .i64)))]⟩ (.seq none .nil (.seq none (.cond .nil .nil) (.seq (some ⟨[0, 4, 5, 7, 26, 27, 28, 33, 34, 35], []⟩) (.one (.seq none .nil (.seq (some ⟨[0, 4, 5, 7, 9, 26, 27, 28, 33, 34, 35], []⟩) (.seq none .nil (.cond (.seq none .nil .nil) .nil)) (.seq none .nil (.cond (.seq none .nil (.seq none .nil .nil)) .nil))))) .nil))))))))) .nil)))))) (.seq none .nil (.seq none .nil .nil))))))
def L_graph_Of (p0 : Sl) (R : Value → World → Prop) (w : World) : Prop :=
  ifB ((p0.l : Int) == (0 : Int))
    (R (.tuple #[(.pointer none), (.int .i64 (2 : Int))]) w)
    (ifB (decide ((p0.l : Int) > (4096 : Int)))
      (R (.tuple #[(.pointer none), (.int .i64 (4 : Int))]) w)
      (JoinW (S := (Option Addr) × Unit) (fun m1 =>
          ((0 ≤ (p0.l : Int) ∧ (p0.l : Int) ≤ (p0.l : Int) ∧ (24 : Int) * (p0.l : Int) ≤ 281474976710656 ∧ (p0.l : Int) ≤ 9223372036854775807) ∧
          Nw (w.drew.alloc (.cells (madeCells #[(.slice none 0 0)] (p0.l * 1)) 40)) fun w1 =>
          (0 ≤ (p0.l : Int) ∧ (p0.l : Int) ≤ (p0.l : Int) ∧ (24 : Int) * (p0.l : Int) ≤ 281474976710656 ∧ (p0.l : Int) ≤ 9223372036854775807) ∧
          Nw (w1.alloc (.cells (madeCells #[(.slice none 0 0)] (p0.l * 1)) 40)) fun w2 =>
          Nw (w2.alloc (.cells (List.toArray ([(.slice (some (blk w.drew.heap.size)) p0.l p0.l), (.slice (some (blk w1.heap.size)) p0.l p0.l), (.slice none 0 0), (.slice none 0 0)] ++ List.replicate 64 (.int .u64 (0 : Int)))) 102)) fun w3 =>
          m1 ((some (blk w2.heap.size)), ()) w3) ∧
          (0 ≤ (p0.l : Int) ∧ (p0.l : Int) ≤ (p0.l : Int) ∧ (24 : Int) * (p0.l : Int) ≤ 281474976710656 ∧ (p0.l : Int) ≤ 9223372036854775807) ∧
          Nw (w.drew.alloc (.cells (madeCells #[(.slice none 0 0)] (p0.l * 1)) 40)) fun w4 =>
          (0 ≤ (p0.l : Int) ∧ (p0.l : Int) ≤ (p0.l : Int) ∧ (24 : Int) * (p0.l : Int) ≤ 281474976710656 ∧ (p0.l : Int) ≤ 9223372036854775807) ∧
          Nw (w4.alloc (.cells (madeCells #[(.slice none 0 0)] (p0.l * 1)) 40)) fun w5 =>
          Nw (w5.alloc (.cells (List.toArray ([(.slice (some (blk w4.heap.size)) p0.l p0.l), (.slice (some (blk w.drew.heap.size)) p0.l p0.l), (.slice none 0 0), (.slice none 0 0)] ++ List.replicate 64 (.int .u64 (0 : Int)))) 102)) fun w6 =>
          m1 ((some (blk w5.heap.size)), ()) w6)
        (fun s2 w7 =>
          LoopW (S := Int × Unit) (fun s3 w8 n4 =>
              ifB (decide (s3.1 < (p0.l : Int)))
                ((0 ≤ s3.1 ∧ s3.1 < (p0.l : Int)) ∧
                derefP p0.a fun a5 =>
                ldS w8 (a5.add (Int.toNat s3.1)) fun x6 =>
                Nw (w8.alloc (.cells (List.toArray (List.replicate 64 (.int .u64 (0 : Int)))) 100)) fun w9 =>
                LoopW (S := Int × Unit) (fun s7 w10 n8 =>
                    ifB (decide (s7.1 < (x6.l : Int)))
                      (JoinW (S := Unit) (fun m9 =>
                        (0 ≤ s7.1 ∧ s7.1 < (x6.l : Int)) ∧
                        derefP x6.a fun a11 =>
                        ldI w10 (a11.add (Int.toNat s7.1)) .i64 fun x12 =>
                        JoinW (S := Unit) (fun m13 =>
                        ifB (decide (x12 < (0 : Int)))
                        (R (.tuple #[(.pointer none), (.int .i64 (141 : Int))]) w10)
                        (ifB (decide (x12 ≥ (p0.l : Int)))
                        (R (.tuple #[(.pointer none), (.int .i64 (141 : Int))]) w10)
                        (m13 (()) w10)))
                        (fun s14 w11 =>
                        callR Try.prog 63 #[(.pointer (some (blk w8.heap.size))), (.int .i64 x12)] w11 fun v15 w12 =>
                        ∃ x16 : Bool, v15 = (.bool x16) ∧
                        ifB (!x16)
                        (callR Try.prog 64 #[(.pointer (some (blk w8.heap.size))), (.int .i64 x12)] w12 fun v17 w13 =>
                        v17 = (.tuple #[]) ∧
                        derefP s2.1 fun a18 =>
                        ldS w13.drew a18 fun x19 =>
                        derefP s2.1 fun a20 =>
                        ldS w13.drew a20 fun x21 =>
                        (0 ≤ s3.1 ∧ s3.1 < (x21.l : Int)) ∧
                        derefP x21.a fun a22 =>
                        ldS w13.drew (a22.add (Int.toNat s3.1)) fun x23 =>
                        Nw (w13.drew.alloc (.cells #[(.int .i64 x12)] 3)) fun w14 =>
                        w14.cell? (a22.add (Int.toNat s3.1)) = some (.slice x23.a x23.l x23.c) ∧
                        w14.cell? a20 = some (.slice x21.a x21.l x21.c) ∧
                        w14.cell? a18 = some (.slice x19.a x19.l x19.c) ∧
                        appendS Try.prog 40 (.slice x23.a x23.l x23.c) (.slice (some (blk w13.drew.heap.size)) 1 1) w14 fun r24 w15 =>
                        w15.cell? a18 = some (.slice x19.a x19.l x19.c) ∧
                        (0 ≤ s3.1 ∧ s3.1 < (x19.l : Int)) ∧
                        derefP x19.a fun a25 =>
                        Wr w15 (a25.add (Int.toNat s3.1)) ∧
                        Nw (w15.setCell (a25.add (Int.toNat s3.1)) (.slice r24.a r24.l r24.c)) fun w16 =>
                        derefP s2.1 fun a26 =>
                        ldS w16.drew (a26.add 1) fun x27 =>
                        derefP s2.1 fun a28 =>
                        ldS w16.drew (a28.add 1) fun x29 =>
                        (0 ≤ x12 ∧ x12 < (x29.l : Int)) ∧
                        derefP x29.a fun a30 =>
                        ldS w16.drew (a30.add (Int.toNat x12)) fun x31 =>
                        Nw (w16.drew.alloc (.cells #[(.int .i64 s3.1)] 3)) fun w17 =>
                        w17.cell? (a30.add (Int.toNat x12)) = some (.slice x31.a x31.l x31.c) ∧
                        w17.cell? (a28.add 1) = some (.slice x29.a x29.l x29.c) ∧
                        w17.cell? (a26.add 1) = some (.slice x27.a x27.l x27.c) ∧
                        appendS Try.prog 40 (.slice x31.a x31.l x31.c) (.slice (some (blk w16.drew.heap.size)) 1 1) w17 fun r32 w18 =>
                        w18.cell? (a26.add 1) = some (.slice x27.a x27.l x27.c) ∧
                        (0 ≤ x12 ∧ x12 < (x27.l : Int)) ∧
                        derefP x27.a fun a33 =>
                        Wr w18 (a33.add (Int.toNat x12)) ∧
                        Nw (w18.setCell (a33.add (Int.toNat x12)) (.slice r32.a r32.l r32.c)) fun w19 =>
                        m9 (()) w19)
                        (m9 (()) w12)))
                        (fun s10 w20 =>
                        n8 ((IntKind.i64.wrap (s7.1 + (1 : Int))), ()) w20))
                      (n4 ((IntKind.i64.wrap (s3.1 + (1 : Int))), ()) w10))
                  ((0 : Int), ()) w9)
                (callR Try.prog 65 #[(.pointer s2.1)] w8 fun v34 w21 =>
                v34 = (.tuple #[]) ∧
                R (.tuple #[(.pointer s2.1), (.int .i64 (0 : Int))]) w21))
            ((0 : Int), ()) w7)))
theorem graph_Of_calls (p0 : Sl) (R : Value → World → Prop) (w : World) (h : L_graph_Of p0 R w) : Calls Try.prog 35 #[(.slice p0.a p0.l p0.c)] w (Ret R) :=
  lw_calls (fs := Try.fs) (an := a_graph_Of) (args := [(.slice p0.a p0.l p0.c)]) Try.fsOK Try.mixed Try.func35 (by kernel_rfl) (by kernel_rfl)
    (Eq.mpr (by kernel_rfl : lwFn Try.prog Try.fs Try.f35 a_graph_Of [(.slice p0.a p0.l p0.c)] w R = L_graph_Of p0 R w) h)

/-- (*intaglio.graph.Graph).Len -/
def a_graph_Graph_Len : Ann := (.seq none .nil (.seq none (.seq none .nil (.cond (.seq none .nil .nil) .nil)) (.seq none .nil .nil)))
def L_graph_Graph_Len (p0 : Option Addr) (R : Value → World → Prop) (w : World) : Prop :=
  ifB (Option.isNone p0)
    (R (.int .i64 (0 : Int)) w)
    (derefP p0 fun a1 =>
    ldS w a1 fun x2 =>
    R (.int .i64 (x2.l : Int)) w)
theorem graph_Graph_Len_calls (p0 : Option Addr) (R : Value → World → Prop) (w : World) (h : L_graph_Graph_Len p0 R w) : Calls Try.prog 36 #[(.pointer p0)] w (Ret R) :=
  lw_calls (fs := Try.fs) (an := a_graph_Graph_Len) (args := [(.pointer p0)]) Try.fsOK Try.mixed Try.func36 (by kernel_rfl) (by kernel_rfl)
    (Eq.mpr (by kernel_rfl : lwFn Try.prog Try.fs Try.f36 a_graph_Graph_Len [(.pointer p0)] w R = L_graph_Graph_Len p0 R w) h)

/-- (*intaglio.graph.Graph).Next -/
def a_graph_Graph_Next : Ann := (.seq none .nil (.seq none (.seq none .nil (.cond (.seq none .nil .nil) .nil)) (.seq none .nil .nil)))
def L_graph_Graph_Next (p0 : Option Addr) (p1 : Int) (R : Value → World → Prop) (w : World) : Prop :=
  callR Try.prog 66 #[(.pointer p0), (.int .i64 p1)] w fun v1 w1 =>
  ∃ x2 : Bool, v1 = (.bool x2) ∧
  ifB (!x2)
    (R (.slice none 0 0) w1)
    (derefP p0 fun a3 =>
    ldS w1 a3 fun x4 =>
    (0 ≤ p1 ∧ p1 < (x4.l : Int)) ∧
    derefP x4.a fun a5 =>
    ldS w1 (a5.add (Int.toNat p1)) fun x6 =>
    callR Try.prog 67 #[(.slice x6.a x6.l x6.c)] w1 fun v7 w2 =>
    ∃ x8 : Sl, v7 = (.slice x8.a x8.l x8.c) ∧
    R (.slice x8.a x8.l x8.c) w2)
theorem graph_Graph_Next_calls (p0 : Option Addr) (p1 : Int) (R : Value → World → Prop) (w : World) (h : L_graph_Graph_Next p0 p1 R w) : Calls Try.prog 37 #[(.pointer p0), (.int .i64 p1)] w (Ret R) :=
  lw_calls (fs := Try.fs) (an := a_graph_Graph_Next) (args := [(.pointer p0), (.int .i64 p1)]) Try.fsOK Try.mixed Try.func37 (by kernel_rfl) (by kernel_rfl)
    (Eq.mpr (by kernel_rfl : lwFn Try.prog Try.fs Try.f37 a_graph_Graph_Next [(.pointer p0), (.int .i64 p1)] w R = L_graph_Graph_Next p0 p1 R w) h)

/-- (*intaglio.graph.Graph).Ahead -/
def a_graph_Graph_Ahead : Ann := (.seq none .nil (.seq none (.seq none .nil (.cond (.seq none .nil .nil) .nil)) (.seq none .nil .nil)))
def L_graph_Graph_Ahead (p0 : Option Addr) (p1 : Int) (R : Value → World → Prop) (w : World) : Prop :=
  callR Try.prog 66 #[(.pointer p0), (.int .i64 p1)] w fun v1 w1 =>
  ∃ x2 : Bool, v1 = (.bool x2) ∧
  ifB (!x2)
    (R (.slice none 0 0) w1)
    (derefP p0 fun a3 =>
    ldS w1 (a3.add 1) fun x4 =>
    (0 ≤ p1 ∧ p1 < (x4.l : Int)) ∧
    derefP x4.a fun a5 =>
    ldS w1 (a5.add (Int.toNat p1)) fun x6 =>
    callR Try.prog 67 #[(.slice x6.a x6.l x6.c)] w1 fun v7 w2 =>
    ∃ x8 : Sl, v7 = (.slice x8.a x8.l x8.c) ∧
    R (.slice x8.a x8.l x8.c) w2)
theorem graph_Graph_Ahead_calls (p0 : Option Addr) (p1 : Int) (R : Value → World → Prop) (w : World) (h : L_graph_Graph_Ahead p0 p1 R w) : Calls Try.prog 38 #[(.pointer p0), (.int .i64 p1)] w (Ret R) :=
  lw_calls (fs := Try.fs) (an := a_graph_Graph_Ahead) (args := [(.pointer p0), (.int .i64 p1)]) Try.fsOK Try.mixed Try.func38 (by kernel_rfl) (by kernel_rfl)
    (Eq.mpr (by kernel_rfl : lwFn Try.prog Try.fs Try.f38 a_graph_Graph_Ahead [(.pointer p0), (.int .i64 p1)] w R = L_graph_Graph_Ahead p0 p1 R w) h)

/-- (*intaglio.graph.Graph).Reached -/
def a_graph_Graph_Reached : Ann := (.seq none .nil (.seq none .nil .nil))
def L_graph_Graph_Reached (p0 : Option Addr) (p1 : Int) (R : Value → World → Prop) (w : World) : Prop :=
  callR Try.prog 66 #[(.pointer p0), (.int .i64 p1)] w fun v1 w1 =>
  ∃ x2 : Bool, v1 = (.bool x2) ∧
  ifB x2
    (derefP p0 fun a3 =>
    callR Try.prog 63 #[(.pointer (some (a3.add 4))), (.int .i64 p1)] w1 fun v4 w2 =>
    ∃ x5 : Bool, v4 = (.bool x5) ∧
    R (.bool x5) w2)
    (R (.bool false) w1)
theorem graph_Graph_Reached_calls (p0 : Option Addr) (p1 : Int) (R : Value → World → Prop) (w : World) (h : L_graph_Graph_Reached p0 p1 R w) : Calls Try.prog 39 #[(.pointer p0), (.int .i64 p1)] w (Ret R) :=
  lw_calls (fs := Try.fs) (an := a_graph_Graph_Reached) (args := [(.pointer p0), (.int .i64 p1)]) Try.fsOK Try.mixed Try.func39 (by kernel_rfl) (by kernel_rfl)
    (Eq.mpr (by kernel_rfl : lwFn Try.prog Try.fs Try.f39 a_graph_Graph_Reached [(.pointer p0), (.int .i64 p1)] w R = L_graph_Graph_Reached p0 p1 R w) h)

/-- (*intaglio.graph.Graph).Order -/
def a_graph_Graph_Order : Ann := (.seq none .nil (.seq none (.seq none .nil (.cond (.seq none .nil .nil) .nil)) (.seq none .nil .nil)))
def L_graph_Graph_Order (p0 : Option Addr) (R : Value → World → Prop) (w : World) : Prop :=
  ifB (Option.isNone p0)
    (R (.slice none 0 0) w)
    (derefP p0 fun a1 =>
    ldS w (a1.add 3) fun x2 =>
    callR Try.prog 67 #[(.slice x2.a x2.l x2.c)] w fun v3 w1 =>
    ∃ x4 : Sl, v3 = (.slice x4.a x4.l x4.c) ∧
    R (.slice x4.a x4.l x4.c) w1)
theorem graph_Graph_Order_calls (p0 : Option Addr) (R : Value → World → Prop) (w : World) (h : L_graph_Graph_Order p0 R w) : Calls Try.prog 40 #[(.pointer p0)] w (Ret R) :=
  lw_calls (fs := Try.fs) (an := a_graph_Graph_Order) (args := [(.pointer p0)]) Try.fsOK Try.mixed Try.func40 (by kernel_rfl) (by kernel_rfl)
    (Eq.mpr (by kernel_rfl : lwFn Try.prog Try.fs Try.f40 a_graph_Graph_Order [(.pointer p0)] w R = L_graph_Graph_Order p0 R w) h)

/-- (*intaglio.graph.bits).has -/
def a_graph_bits_has : Ann := (.seq none .nil (.seq none .nil .nil))
def L_graph_bits_has (p0 : Option Addr) (p1 : Int) (R : Value → World → Prop) (w : World) : Prop :=
  derefP p0 fun a1 =>
  (0 ≤ (IntKind.i64.wrap (Int.tdiv p1 (64 : Int))) ∧ (IntKind.i64.wrap (Int.tdiv p1 (64 : Int))) < (64 : Int)) ∧
  ldI w (a1.add (Int.toNat (IntKind.i64.wrap (Int.tdiv p1 (64 : Int))))) .u64 fun x2 =>
  ifB (decide ((Int.tmod p1 (64 : Int)) < 0))
    (False)
    (R (.bool ((IntKind.u64.wrap (BitVec.toNat (BitVec.ofInt (IntKind.bits .u64) (Int.fdiv x2 (2 ^ (min (Int.toNat (Int.tmod p1 (64 : Int))) (IntKind.bits .u64)))) &&& BitVec.ofInt (IntKind.bits .u64) (1 : Int)) : Int)) == (1 : Int))) w)
theorem graph_bits_has_calls (p0 : Option Addr) (p1 : Int) (R : Value → World → Prop) (w : World) (h : L_graph_bits_has p0 p1 R w) : Calls Try.prog 63 #[(.pointer p0), (.int .i64 p1)] w (Ret R) :=
  lw_calls (fs := Try.fs) (an := a_graph_bits_has) (args := [(.pointer p0), (.int .i64 p1)]) Try.fsOK Try.mixed Try.func63 (by kernel_rfl) (by kernel_rfl)
    (Eq.mpr (by kernel_rfl : lwFn Try.prog Try.fs Try.f63 a_graph_bits_has [(.pointer p0), (.int .i64 p1)] w R = L_graph_bits_has p0 p1 R w) h)

/-- (*intaglio.graph.bits).add -/
def a_graph_bits_add : Ann := .nil
def L_graph_bits_add (p0 : Option Addr) (p1 : Int) (R : Value → World → Prop) (w : World) : Prop :=
  derefP p0 fun a1 =>
  (0 ≤ (IntKind.i64.wrap (Int.tdiv p1 (64 : Int))) ∧ (IntKind.i64.wrap (Int.tdiv p1 (64 : Int))) < (64 : Int)) ∧
  ldI w.drew (a1.add (Int.toNat (IntKind.i64.wrap (Int.tdiv p1 (64 : Int))))) .u64 fun x2 =>
  ifB (decide ((Int.tmod p1 (64 : Int)) < 0))
    (False)
    (derefP p0 fun a3 =>
    (0 ≤ (IntKind.i64.wrap (Int.tdiv p1 (64 : Int))) ∧ (IntKind.i64.wrap (Int.tdiv p1 (64 : Int))) < (64 : Int)) ∧
    Wr w.drew (a3.add (Int.toNat (IntKind.i64.wrap (Int.tdiv p1 (64 : Int))))) ∧
    Nw (w.drew.setCell (a3.add (Int.toNat (IntKind.i64.wrap (Int.tdiv p1 (64 : Int))))) (.int .u64 (IntKind.u64.wrap (BitVec.toNat (BitVec.ofInt (IntKind.bits .u64) x2 ||| BitVec.ofInt (IntKind.bits .u64) (IntKind.u64.wrap ((1 : Int) * 2 ^ (min (Int.toNat (Int.tmod p1 (64 : Int))) (IntKind.bits .u64))))) : Int)))) fun w1 =>
    R (.tuple #[]) w1)
theorem graph_bits_add_calls (p0 : Option Addr) (p1 : Int) (R : Value → World → Prop) (w : World) (h : L_graph_bits_add p0 p1 R w) : Calls Try.prog 64 #[(.pointer p0), (.int .i64 p1)] w (Ret R) :=
  lw_calls (fs := Try.fs) (an := a_graph_bits_add) (args := [(.pointer p0), (.int .i64 p1)]) Try.fsOK Try.mixed Try.func64 (by kernel_rfl) (by kernel_rfl)
    (Eq.mpr (by kernel_rfl : lwFn Try.prog Try.fs Try.f64 a_graph_bits_add [(.pointer p0), (.int .i64 p1)] w R = L_graph_bits_add p0 p1 R w) h)

/-- (*intaglio.graph.Graph).walked -/
def a_graph_Graph_walked : Ann := (.seq none .nil (.seq none .nil (.seq none .nil (.seq none .nil .nil))))
def L_graph_Graph_walked (p0 : Option Addr) (R : Value → World → Prop) (w : World) : Prop :=
  Nw (w.alloc (.cells #[(.pointer p0)] 63)) fun w1 =>
  Nw (w1.alloc (.cells #[.nilFunc] 103)) fun w2 =>
  Wr w2 (blk w1.heap.size) ∧
  Nw (w2.setCell (blk w1.heap.size) (.func (.func 88) #[] #[(.pointer (some (blk w.heap.size))), (.pointer (some (blk w1.heap.size)))])) fun w3 =>
  ldR w3 (blk w1.heap.size) fun x1 =>
  callV Try.prog Try.fs x1 [(.int .i64 (0 : Int))] w3 fun v2 w4 =>
  v2 = (.tuple #[]) ∧
  ldP w4 (blk w.heap.size) fun x3 =>
  derefP x3 fun a4 =>
  ldS w4 (a4.add 3) fun x5 =>
  callR Try.prog 89 #[(.slice x5.a x5.l x5.c)] w4 fun v6 w5 =>
  v6 = (.tuple #[]) ∧
  R (.tuple #[]) w5
theorem graph_Graph_walked_calls (p0 : Option Addr) (R : Value → World → Prop) (w : World) (h : L_graph_Graph_walked p0 R w) : Calls Try.prog 65 #[(.pointer p0)] w (Ret R) :=
  lw_calls (fs := Try.fs) (an := a_graph_Graph_walked) (args := [(.pointer p0)]) Try.fsOK Try.mixed Try.func65 (by kernel_rfl) (by kernel_rfl)
    (Eq.mpr (by kernel_rfl : lwFn Try.prog Try.fs Try.f65 a_graph_Graph_walked [(.pointer p0)] w R = L_graph_Graph_walked p0 R w) h)

/-- (*intaglio.graph.Graph).is -/
def a_graph_Graph_is : Ann := (.seq none .nil (.seq none .nil .nil))
def L_graph_Graph_is (p0 : Option Addr) (p1 : Int) (R : Value → World → Prop) (w : World) : Prop :=
  ifB (decide (p1 ≥ (0 : Int)))
    (callR Try.prog 36 #[(.pointer p0)] w fun v1 w1 =>
    ∃ x2 : Int, v1 = (.int .i64 x2) ∧
    R (.bool (decide (p1 < x2))) w1)
    (R (.bool false) w)
theorem graph_Graph_is_calls (p0 : Option Addr) (p1 : Int) (R : Value → World → Prop) (w : World) (h : L_graph_Graph_is p0 p1 R w) : Calls Try.prog 66 #[(.pointer p0), (.int .i64 p1)] w (Ret R) :=
  lw_calls (fs := Try.fs) (an := a_graph_Graph_is) (args := [(.pointer p0), (.int .i64 p1)]) Try.fsOK Try.mixed Try.func66 (by kernel_rfl) (by kernel_rfl)
    (Eq.mpr (by kernel_rfl : lwFn Try.prog Try.fs Try.f66 a_graph_Graph_is [(.pointer p0), (.int .i64 p1)] w R = L_graph_Graph_is p0 p1 R w) h)

/-- slices.Clone[[]int,int] -/
def a_slices_Clone_sint_int : Ann := (.seq none .nil (.seq none (.seq none .nil (.cond (.seq none .nil .nil) .nil)) (.seq none .nil .nil)))
def L_slices_Clone_sint_int (p0 : Sl) (R : Value → World → Prop) (w : World) : Prop :=
  ifB (Option.isNone p0.a)
    (R (.slice none 0 0) w)
    (Nw (w.alloc (.cells #[] 3)) fun w1 =>
    appendS Try.prog 40 (.slice (some (blk w.heap.size)) 0 0) (.slice p0.a p0.l p0.c) w1 fun r1 w2 =>
    R (.slice r1.a r1.l r1.c) w2)
theorem slices_Clone_sint_int_calls (p0 : Sl) (R : Value → World → Prop) (w : World) (h : L_slices_Clone_sint_int p0 R w) : Calls Try.prog 67 #[(.slice p0.a p0.l p0.c)] w (Ret R) :=
  lw_calls (fs := Try.fs) (an := a_slices_Clone_sint_int) (args := [(.slice p0.a p0.l p0.c)]) Try.fsOK Try.mixed Try.func67 (by kernel_rfl) (by kernel_rfl)
    (Eq.mpr (by kernel_rfl : lwFn Try.prog Try.fs Try.f67 a_slices_Clone_sint_int [(.slice p0.a p0.l p0.c)] w R = L_slices_Clone_sint_int p0 R w) h)

/-- (*intaglio.graph.Graph).walked 1 -/
def a_graph_Graph_walked_1 : Ann := (.seq none .nil (.seq none .nil (.seq none (.seq none .nil (.one (.loop ⟨[0, 1, 2, 27, 28], [(29, (.b (.int .i64)))]⟩ (.seq none .nil (.seq none (.cond .nil .nil) (.seq (some ⟨[0, 1, 2, 27, 28, 29], []⟩) (.one (.seq none .nil (.seq none .nil (.cond .nil .nil)))) .nil)))))) .nil)))
def L_graph_Graph_walked_1 (p0 : Int) (c0 : Addr) (c1 : Addr) (R : Value → World → Prop) (w : World) : Prop :=
  ldP w c0 fun x1 =>
  derefP x1 fun a2 =>
  callR Try.prog 64 #[(.pointer (some (a2.add 4))), (.int .i64 p0)] w fun v3 w1 =>
  v3 = (.tuple #[]) ∧
  ldP w1.drew c0 fun x4 =>
  ldP w1.drew c0 fun x5 =>
  derefP x5 fun a6 =>
  ldS w1.drew (a6.add 2) fun x7 =>
  Nw (w1.drew.alloc (.cells #[(.int .i64 p0)] 3)) fun w2 =>
  w2.cell? (a6.add 2) = some (.slice x7.a x7.l x7.c) ∧
  w2.cell? c0 = some (.pointer x5) ∧
  w2.cell? c0 = some (.pointer x4) ∧
  appendS Try.prog 40 (.slice x7.a x7.l x7.c) (.slice (some (blk w1.drew.heap.size)) 1 1) w2 fun r8 w3 =>
  w3.cell? c0 = some (.pointer x4) ∧
  derefP x4 fun a9 =>
  Wr w3 (a9.add 2) ∧
  Nw (w3.setCell (a9.add 2) (.slice r8.a r8.l r8.c)) fun w4 =>
  ldP w4 c0 fun x10 =>
  derefP x10 fun a11 =>
  ldS w4 a11 fun x12 =>
  (0 ≤ p0 ∧ p0 < (x12.l : Int)) ∧
  derefP x12.a fun a13 =>
  ldS w4 (a13.add (Int.toNat p0)) fun x14 =>
  LoopW (S := Int × Unit) (fun s15 w5 n16 =>
      ifB (decide (s15.1 < (x14.l : Int)))
        (JoinW (S := Unit) (fun m17 =>
            (0 ≤ s15.1 ∧ s15.1 < (x14.l : Int)) ∧
            derefP x14.a fun a19 =>
            ldI w5 (a19.add (Int.toNat s15.1)) .i64 fun x20 =>
            ldP w5 c0 fun x21 =>
            derefP x21 fun a22 =>
            callR Try.prog 63 #[(.pointer (some (a22.add 4))), (.int .i64 x20)] w5 fun v23 w6 =>
            ∃ x24 : Bool, v23 = (.bool x24) ∧
            ifB (!x24)
              (ldR w6 c1 fun x25 =>
              callV Try.prog Try.fs x25 [(.int .i64 x20)] w6 fun v26 w7 =>
              v26 = (.tuple #[]) ∧
              m17 (()) w7)
              (m17 (()) w6))
          (fun s18 w8 =>
            n16 ((IntKind.i64.wrap (s15.1 + (1 : Int))), ()) w8))
        (ldP w5.drew c0 fun x27 =>
        ldP w5.drew c0 fun x28 =>
        derefP x28 fun a29 =>
        ldS w5.drew (a29.add 3) fun x30 =>
        Nw (w5.drew.alloc (.cells #[(.int .i64 p0)] 3)) fun w9 =>
        w9.cell? (a29.add 3) = some (.slice x30.a x30.l x30.c) ∧
        w9.cell? c0 = some (.pointer x28) ∧
        w9.cell? c0 = some (.pointer x27) ∧
        appendS Try.prog 40 (.slice x30.a x30.l x30.c) (.slice (some (blk w5.drew.heap.size)) 1 1) w9 fun r31 w10 =>
        w10.cell? c0 = some (.pointer x27) ∧
        derefP x27 fun a32 =>
        Wr w10 (a32.add 3) ∧
        Nw (w10.setCell (a32.add 3) (.slice r31.a r31.l r31.c)) fun w11 =>
        R (.tuple #[]) w11))
    ((0 : Int), ()) w4
theorem graph_Graph_walked_1_calls (p0 : Int) (c0 : Addr) (c1 : Addr) (R : Value → World → Prop) (w : World) (h : L_graph_Graph_walked_1 p0 c0 c1 R w) : Calls Try.prog 88 #[(.int .i64 p0), (.pointer (some c0)), (.pointer (some c1))] w (Ret R) :=
  lw_calls (fs := Try.fs) (an := a_graph_Graph_walked_1) (args := [(.int .i64 p0), (.pointer (some c0)), (.pointer (some c1))]) Try.fsOK Try.mixed Try.func88 (by kernel_rfl) (by kernel_rfl)
    (Eq.mpr (by kernel_rfl : lwFn Try.prog Try.fs Try.f88 a_graph_Graph_walked_1 [(.int .i64 p0), (.pointer (some c0)), (.pointer (some c1))] w R = L_graph_Graph_walked_1 p0 c0 c1 R w) h)

/-- slices.Reverse[[]int,int] -/
def a_slices_Reverse_sint_int : Ann := (.seq none .nil (.one (.loop ⟨[0], [(2, (.b (.int .i64))), (3, (.b (.int .i64)))]⟩ (.seq none (.seq none .nil (.cond .nil .nil)) (.seq none (.one .nil) .nil)))))
def L_slices_Reverse_sint_int (p0 : Sl) (R : Value → World → Prop) (w : World) : Prop :=
  LoopW (S := Int × Int × Unit) (fun s1 w1 n2 =>
      ifB (decide (s1.1 < s1.2.1))
        ((0 ≤ s1.2.1 ∧ s1.2.1 < (p0.l : Int)) ∧
        derefP p0.a fun a3 =>
        ldI w1.drew (a3.add (Int.toNat s1.2.1)) .i64 fun x4 =>
        (0 ≤ s1.1 ∧ s1.1 < (p0.l : Int)) ∧
        derefP p0.a fun a5 =>
        ldI w1.drew (a5.add (Int.toNat s1.1)) .i64 fun x6 =>
        (0 ≤ s1.1 ∧ s1.1 < (p0.l : Int)) ∧
        derefP p0.a fun a7 =>
        Wr w1.drew (a7.add (Int.toNat s1.1)) ∧
        Nw (w1.drew.setCell (a7.add (Int.toNat s1.1)) (.int .i64 x4)) fun w2 =>
        (0 ≤ s1.2.1 ∧ s1.2.1 < (p0.l : Int)) ∧
        derefP p0.a fun a8 =>
        Wr w2 (a8.add (Int.toNat s1.2.1)) ∧
        Nw (w2.setCell (a8.add (Int.toNat s1.2.1)) (.int .i64 x6)) fun w3 =>
        n2 ((IntKind.i64.wrap (s1.1 + (1 : Int))), (IntKind.i64.wrap (s1.2.1 - (1 : Int))), ()) w3)
        (R (.tuple #[]) w1))
    ((0 : Int), (IntKind.i64.wrap ((p0.l : Int) - (1 : Int))), ()) w
theorem slices_Reverse_sint_int_calls (p0 : Sl) (R : Value → World → Prop) (w : World) (h : L_slices_Reverse_sint_int p0 R w) : Calls Try.prog 89 #[(.slice p0.a p0.l p0.c)] w (Ret R) :=
  lw_calls (fs := Try.fs) (an := a_slices_Reverse_sint_int) (args := [(.slice p0.a p0.l p0.c)]) Try.fsOK Try.mixed Try.func89 (by kernel_rfl) (by kernel_rfl)
    (Eq.mpr (by kernel_rfl : lwFn Try.prog Try.fs Try.f89 a_slices_Reverse_sint_int [(.slice p0.a p0.l p0.c)] w R = L_slices_Reverse_sint_int p0 R w) h)

end Go.Proofs
