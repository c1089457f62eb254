/-
  Printed by a program of the author: what each function comes to.
-/
import Derived.Test.YtocnlbhoibplbaaProg
import Derived.Test.YtocnlbhoibplbaaGkR
import Derived.Test.YtocnlbhoibplbaaLb
namespace Go.Proofs
open Go.Gk
set_option linter.unusedVariables false
set_option maxRecDepth 100000

/-- intaglio.intagliolaw14.GraphTargets -/
def a_intagliolaw14_GraphTargets : Ann := (.seq none .nil (.seq none .nil (.seq none .nil (.seq none (.seq none .nil (.cond (.seq none .nil .nil) .nil)) (.seq none .nil (.seq none .nil .nil))))))
def L_intagliolaw14_GraphTargets (p0 : (Int × Int × Int × Sl × Unit)) (R : Value → World → Prop) (w : World) : Prop :=
  Nw (w.alloc (.cells #[(.int .u16 p0.1), (.int .u32 p0.2.1), (.int .u32 p0.2.2.1), (.slice p0.2.2.2.1.a p0.2.2.2.1.l p0.2.2.2.1.c)] 26)) fun w1 =>
  ldI w1 ((blk w.heap.size).add 0) .u16 fun x1 =>
  ldI w1 ((blk w.heap.size).add 1) .u32 fun x2 =>
  ldI w1 ((blk w.heap.size).add 2) .u32 fun x3 =>
  ldS w1 ((blk w.heap.size).add 3) fun x4 =>
  callR Try.prog 9 #[(.agg #[(.int .u16 x1), (.int .u32 x2), (.int .u32 x3), (.slice x4.a x4.l x4.c)])] w1 fun v5 w2 =>
  ∃ x6 : (Int × Int × Int × Sl × Unit), v5 = (.agg #[(.int .u16 x6.1), (.int .u32 x6.2.1), (.int .u32 x6.2.2.1), (.slice x6.2.2.2.1.a x6.2.2.2.1.l x6.2.2.2.1.c)]) ∧
  Nw (w2.alloc (.cells #[(.int .u16 (0 : Int)), (.int .u32 (0 : Int)), (.int .u32 (0 : Int)), (.slice none 0 0)] 26)) fun w3 =>
  Wr w3 (blk w2.heap.size) ∧
  Nw (w3.setCell (blk w2.heap.size) (.int .u16 x6.1)) fun w4 =>
  Wr w4 ((blk w2.heap.size).add 1) ∧
  Nw (w4.setCell ((blk w2.heap.size).add 1) (.int .u32 x6.2.1)) fun w5 =>
  Wr w5 ((blk w2.heap.size).add 2) ∧
  Nw (w5.setCell ((blk w2.heap.size).add 2) (.int .u32 x6.2.2.1)) fun w6 =>
  Wr w6 ((blk w2.heap.size).add 3) ∧
  Nw (w6.setCell ((blk w2.heap.size).add 3) (.slice x6.2.2.2.1.a x6.2.2.2.1.l x6.2.2.2.1.c)) fun w7 =>
  ldI w7 ((blk w2.heap.size).add 0) .u16 fun x7 =>
  ldI w7 ((blk w2.heap.size).add 1) .u32 fun x8 =>
  ldI w7 ((blk w2.heap.size).add 2) .u32 fun x9 =>
  ldS w7 ((blk w2.heap.size).add 3) fun x10 =>
  callR Try.prog 10 #[(.agg #[(.int .u16 x7), (.int .u32 x8), (.int .u32 x9), (.slice x10.a x10.l x10.c)])] w7 fun v11 w8 =>
  ∃ x12 : Sl, v11 = (.slice x12.a x12.l x12.c) ∧
  ldI w8 ((blk w.heap.size).add 0) .u16 fun x13 =>
  ldI w8 ((blk w.heap.size).add 1) .u32 fun x14 =>
  ldI w8 ((blk w.heap.size).add 2) .u32 fun x15 =>
  ldS w8 ((blk w.heap.size).add 3) fun x16 =>
  callR Try.prog 12 #[(.agg #[(.int .u16 x13), (.int .u32 x14), (.int .u32 x15), (.slice x16.a x16.l x16.c)])] w8 fun v17 w9 =>
  ∃ x18 : Sl, v17 = (.slice x18.a x18.l x18.c) ∧
  callR Try.prog 11 #[(.slice x12.a x12.l x12.c), (.slice x18.a x18.l x18.c)] w9 fun v19 w10 =>
  ∃ x20 : Bool, v19 = (.bool x20) ∧
  ifB (!x20)
    (R (.bool false) w10)
    (callR Try.prog 13 #[(.slice x12.a x12.l x12.c)] w10 fun v21 w11 =>
    v21 = (.tuple #[]) ∧
    ldI w11 ((blk w2.heap.size).add 0) .u16 fun x22 =>
    ldI w11 ((blk w2.heap.size).add 1) .u32 fun x23 =>
    ldI w11 ((blk w2.heap.size).add 2) .u32 fun x24 =>
    ldS w11 ((blk w2.heap.size).add 3) fun x25 =>
    ldI w11 ((blk w.heap.size).add 0) .u16 fun x26 =>
    ldI w11 ((blk w.heap.size).add 1) .u32 fun x27 =>
    ldI w11 ((blk w.heap.size).add 2) .u32 fun x28 =>
    ldS w11 ((blk w.heap.size).add 3) fun x29 =>
    callR Try.prog 14 #[(.agg #[(.int .u16 x22), (.int .u32 x23), (.int .u32 x24), (.slice x25.a x25.l x25.c)]), (.agg #[(.int .u16 x26), (.int .u32 x27), (.int .u32 x28), (.slice x29.a x29.l x29.c)])] w11 fun v30 w12 =>
    ∃ x31 : Bool, v30 = (.bool x31) ∧
    ifB x31
      (callR Try.prog 15 #[] w12 fun v32 w13 =>
      ∃ x33 : Bool, v32 = (.bool x33) ∧
      R (.bool x33) w13)
      (R (.bool false) w12))
theorem intagliolaw14_GraphTargets_calls (p0 : (Int × Int × Int × Sl × Unit)) (R : Value → World → Prop) (w : World) (h : L_intagliolaw14_GraphTargets p0 R w) : Calls Try.prog 3 #[(.agg #[(.int .u16 p0.1), (.int .u32 p0.2.1), (.int .u32 p0.2.2.1), (.slice p0.2.2.2.1.a p0.2.2.2.1.l p0.2.2.2.1.c)])] w (Ret R) :=
  lw_calls (fs := Try.fs) (an := a_intagliolaw14_GraphTargets) (args := [(.agg #[(.int .u16 p0.1), (.int .u32 p0.2.1), (.int .u32 p0.2.2.1), (.slice p0.2.2.2.1.a p0.2.2.2.1.l p0.2.2.2.1.c)])]) Try.fsOK Try.mixed Try.func3 (by kernel_rfl) (by kernel_rfl)
    (Eq.mpr (by kernel_rfl : lwFn Try.prog Try.fs Try.f3 a_intagliolaw14_GraphTargets [(.agg #[(.int .u16 p0.1), (.int .u32 p0.2.1), (.int .u32 p0.2.2.1), (.slice p0.2.2.2.1.a p0.2.2.2.1.l p0.2.2.2.1.c)])] w R = L_intagliolaw14_GraphTargets p0 R w) h)

/-- intaglio.intagliokit.CopyInst -/
def a_intagliokit_CopyInst : Ann := (.seq none .nil (.seq none .nil (.seq none (.seq none .nil (.one (.loop ⟨[1, 2, 3], [(4, (.b (.int .i64)))]⟩ (.seq none (.seq none .nil (.cond .nil .nil)) (.seq none (.one .nil) .nil))))) (.seq none .nil (.seq none .nil .nil)))))
def L_intagliokit_CopyInst (p0 : (Int × Int × Int × Sl × Unit)) (R : Value → World → Prop) (w : World) : Prop :=
  Nw (w.alloc (.cells #[(.int .u16 p0.1), (.int .u32 p0.2.1), (.int .u32 p0.2.2.1), (.slice p0.2.2.2.1.a p0.2.2.2.1.l p0.2.2.2.1.c)] 26)) fun w1 =>
  Nw (w1.alloc (.cells #[(.int .u16 (0 : Int)), (.int .u32 (0 : Int)), (.int .u32 (0 : Int)), (.slice none 0 0)] 26)) fun w2 =>
  ldS w2 ((blk w.heap.size).add 3) fun x1 =>
  (0 ≤ (x1.l : Int) ∧ (x1.l : Int) ≤ (x1.l : Int) ∧ (24 : Int) * (x1.l : Int) ≤ 281474976710656 ∧ (x1.l : Int) ≤ 9223372036854775807) ∧
  Nw (w2.alloc (.cells (madeCells #[(.int .u8 (0 : Int)), (.int .u32 (0 : Int)), (.string (ByteArray.mk #[]))] (x1.l * 3)) 57)) fun w3 =>
  LoopW (S := Int × Unit) (fun s2 w4 n3 =>
      ldS w4 ((blk w.heap.size).add 3) fun x4 =>
      ifB (decide (s2.1 < (x4.l : Int)))
        (ldS w4 ((blk w.heap.size).add 3) fun x5 =>
        (0 ≤ s2.1 ∧ s2.1 < (x5.l : Int)) ∧
        derefP x5.a fun a6 =>
        ldI w4 ((a6.add ((Int.toNat s2.1) * 3)).add 0) .u8 fun x7 =>
        ldI w4 ((a6.add ((Int.toNat s2.1) * 3)).add 1) .u32 fun x8 =>
        ldStr w4 ((a6.add ((Int.toNat s2.1) * 3)).add 2) fun x9 =>
        (0 ≤ s2.1 ∧ s2.1 < (x1.l : Int)) ∧
        Wr w4 ((blk w2.heap.size).add ((Int.toNat s2.1) * 3)) ∧
        Nw (w4.setCell ((blk w2.heap.size).add ((Int.toNat s2.1) * 3)) (.int .u8 x7)) fun w5 =>
        Wr w5 (((blk w2.heap.size).add ((Int.toNat s2.1) * 3)).add 1) ∧
        Nw (w5.setCell (((blk w2.heap.size).add ((Int.toNat s2.1) * 3)).add 1) (.int .u32 x8)) fun w6 =>
        Wr w6 (((blk w2.heap.size).add ((Int.toNat s2.1) * 3)).add 2) ∧
        Nw (w6.setCell (((blk w2.heap.size).add ((Int.toNat s2.1) * 3)).add 2) (.string x9)) fun w7 =>
        n3 ((IntKind.i64.wrap (s2.1 + (1 : Int))), ()) w7)
        (Wr w4 ((blk w.heap.size).add 3) ∧
        Nw (w4.setCell ((blk w.heap.size).add 3) (.slice (some (blk w2.heap.size)) x1.l x1.l)) fun w8 =>
        ldI w8 ((blk w.heap.size).add 0) .u16 fun x10 =>
        ldI w8 ((blk w.heap.size).add 1) .u32 fun x11 =>
        ldI w8 ((blk w.heap.size).add 2) .u32 fun x12 =>
        ldS w8 ((blk w.heap.size).add 3) fun x13 =>
        Wr w8 (blk w1.heap.size) ∧
        Nw (w8.setCell (blk w1.heap.size) (.int .u16 x10)) fun w9 =>
        Wr w9 ((blk w1.heap.size).add 1) ∧
        Nw (w9.setCell ((blk w1.heap.size).add 1) (.int .u32 x11)) fun w10 =>
        Wr w10 ((blk w1.heap.size).add 2) ∧
        Nw (w10.setCell ((blk w1.heap.size).add 2) (.int .u32 x12)) fun w11 =>
        Wr w11 ((blk w1.heap.size).add 3) ∧
        Nw (w11.setCell ((blk w1.heap.size).add 3) (.slice x13.a x13.l x13.c)) fun w12 =>
        ldI w12 ((blk w1.heap.size).add 0) .u16 fun x14 =>
        ldI w12 ((blk w1.heap.size).add 1) .u32 fun x15 =>
        ldI w12 ((blk w1.heap.size).add 2) .u32 fun x16 =>
        ldS w12 ((blk w1.heap.size).add 3) fun x17 =>
        R (.agg #[(.int .u16 x14), (.int .u32 x15), (.int .u32 x16), (.slice x17.a x17.l x17.c)]) w12))
    ((0 : Int), ()) w3
theorem intagliokit_CopyInst_calls (p0 : (Int × Int × Int × Sl × Unit)) (R : Value → World → Prop) (w : World) (h : L_intagliokit_CopyInst p0 R w) : Calls Try.prog 9 #[(.agg #[(.int .u16 p0.1), (.int .u32 p0.2.1), (.int .u32 p0.2.2.1), (.slice p0.2.2.2.1.a p0.2.2.2.1.l p0.2.2.2.1.c)])] w (Ret R) :=
  lw_calls (fs := Try.fs) (an := a_intagliokit_CopyInst) (args := [(.agg #[(.int .u16 p0.1), (.int .u32 p0.2.1), (.int .u32 p0.2.2.1), (.slice p0.2.2.2.1.a p0.2.2.2.1.l p0.2.2.2.1.c)])]) Try.fsOK Try.mixed Try.func9 (by kernel_rfl) (by kernel_rfl)
    (Eq.mpr (by kernel_rfl : lwFn Try.prog Try.fs Try.f9 a_intagliokit_CopyInst [(.agg #[(.int .u16 p0.1), (.int .u32 p0.2.1), (.int .u32 p0.2.2.1), (.slice p0.2.2.2.1.a p0.2.2.2.1.l p0.2.2.2.1.c)])] w R = L_intagliokit_CopyInst p0 R w) h)

/-- intaglio.graph.Targets -/
def a_graph_Targets : Ann := (.seq none .nil (.seq none .nil (.seq none (.seq none .nil (.one (.loop ⟨[1, 12, 13], [(3, (.b .slice)), (14, (.b (.int .i64)))]⟩ (.seq none .nil (.seq none (.cond .nil .nil) (.seq none (.one (.seq none .nil .nil)) .nil)))))) (.seq none (.seq none .nil (.seq none .nil (.cond (.seq none .nil .nil) .nil))) (.seq none .nil (.seq none (.seq none .nil (.one (.loop ⟨[1, 34, 35], [(8, (.b .slice)), (36, (.b (.int .i64)))]⟩ (.seq none .nil (.seq none (.cond .nil .nil) (.seq (some ⟨[1, 34, 35, 36], [(8, (.b .slice))]⟩) (.one (.seq none .nil (.one (.seq none (.seq none .nil (.cond .nil (.seq none .nil (.cond .nil .nil)))) (.cond .nil .nil))))) .nil)))))) (.seq none .nil .nil)))))))
def L_graph_Targets (p0 : (Int × Int × Int × Sl × Unit)) (R : Value → World → Prop) (w : World) : Prop :=
  Nw (w.alloc (.cells #[(.int .u16 p0.1), (.int .u32 p0.2.1), (.int .u32 p0.2.2.1), (.slice p0.2.2.2.1.a p0.2.2.2.1.l p0.2.2.2.1.c)] 26)) fun w1 =>
  ldS w1 ((blk w.heap.size).add 3) fun x1 =>
  LoopW (S := Sl × Int × Unit) (fun s2 w2 n3 =>
      ifB (decide (s2.2.1 < (x1.l : Int)))
        ((0 ≤ s2.2.1 ∧ s2.2.1 < (x1.l : Int)) ∧
        derefP x1.a fun a4 =>
        ldI w2 ((a4.add ((Int.toNat s2.2.1) * 3)).add 0) .u8 fun x5 =>
        ldI w2 ((a4.add ((Int.toNat s2.2.1) * 3)).add 1) .u32 fun x6 =>
        ldStr w2 ((a4.add ((Int.toNat s2.2.1) * 3)).add 2) fun x7 =>
        Nw (w2.alloc (.cells #[(.int .u8 (0 : Int)), (.int .u32 (0 : Int)), (.string (ByteArray.mk #[]))] 57)) fun w3 =>
        Wr w3 (blk w2.heap.size) ∧
        Nw (w3.setCell (blk w2.heap.size) (.int .u8 x5)) fun w4 =>
        Wr w4 ((blk w2.heap.size).add 1) ∧
        Nw (w4.setCell ((blk w2.heap.size).add 1) (.int .u32 x6)) fun w5 =>
        Wr w5 ((blk w2.heap.size).add 2) ∧
        Nw (w5.setCell ((blk w2.heap.size).add 2) (.string x7)) fun w6 =>
        ldI w6 (blk w2.heap.size) .u8 fun x8 =>
        Nw (w6.alloc (.cells #[(.int .u8 x8)] 5)) fun w7 =>
        appendS Try.prog 58 (.slice s2.1.a s2.1.l s2.1.c) (.slice (some (blk w6.heap.size)) 1 1) w7 fun r9 w8 =>
        n3 (r9, (IntKind.i64.wrap (s2.2.1 + (1 : Int))), ()) w8)
        (ldI w2 (blk w.heap.size) .u16 fun x10 =>
        callR Try.prog 32 #[(.int .u16 x10), (.slice s2.1.a s2.1.l s2.1.c)] w2 fun v11 w9 =>
        ∃ x12 : Int, ∃ x13 : Bool, v11 = (.tuple #[(.int .i64 x12), (.bool x13)]) ∧
        ifB (!x13)
          (R (.slice none 0 0) w9)
          (ldS w9 ((blk w.heap.size).add 3) fun x14 =>
          LoopW (S := Sl × Int × Unit) (fun s15 w10 n16 =>
              ifB (decide (s15.2.1 < (x14.l : Int)))
                (JoinW (S := Sl × Unit) (fun m17 =>
                    (0 ≤ s15.2.1 ∧ s15.2.1 < (x14.l : Int)) ∧
                    derefP x14.a fun a19 =>
                    ldI w10 ((a19.add ((Int.toNat s15.2.1) * 3)).add 0) .u8 fun x20 =>
                    ldI w10 ((a19.add ((Int.toNat s15.2.1) * 3)).add 1) .u32 fun x21 =>
                    ldStr w10 ((a19.add ((Int.toNat s15.2.1) * 3)).add 2) fun x22 =>
                    Nw (w10.alloc (.cells #[(.int .u8 (0 : Int)), (.int .u32 (0 : Int)), (.string (ByteArray.mk #[]))] 57)) fun w11 =>
                    Wr w11 (blk w10.heap.size) ∧
                    Nw (w11.setCell (blk w10.heap.size) (.int .u8 x20)) fun w12 =>
                    Wr w12 ((blk w10.heap.size).add 1) ∧
                    Nw (w12.setCell ((blk w10.heap.size).add 1) (.int .u32 x21)) fun w13 =>
                    Wr w13 ((blk w10.heap.size).add 2) ∧
                    Nw (w13.setCell ((blk w10.heap.size).add 2) (.string x22)) fun w14 =>
                    ldI w14 (blk w.heap.size) .u16 fun x23 =>
                    ifB (x23 == (249 : Int))
                      (ifB (x23 == (249 : Int))
                        (ldI w14 ((blk w10.heap.size).add 1) .u32 fun x24 =>
                        Nw (w14.alloc (.cells #[(.int .u32 x24)] 23)) fun w15 =>
                        appendS Try.prog 28 (.slice s15.1.a s15.1.l s15.1.c) (.slice (some (blk w14.heap.size)) 1 1) w15 fun r25 w16 =>
                        m17 (r25, ()) w16)
                        (m17 (s15.1, ()) w14))
                      (ldI w14 (blk w.heap.size) .u16 fun x26 =>
                      ifB (x26 == (250 : Int))
                        (ifB (decide (s15.2.1 > (0 : Int)))
                        (ifB (decide (s15.2.1 > (0 : Int)))
                        (ldI w14 ((blk w10.heap.size).add 1) .u32 fun x27 =>
                        Nw (w14.alloc (.cells #[(.int .u32 x27)] 23)) fun w17 =>
                        appendS Try.prog 28 (.slice s15.1.a s15.1.l s15.1.c) (.slice (some (blk w14.heap.size)) 1 1) w17 fun r28 w18 =>
                        m17 (r28, ()) w18)
                        (m17 (s15.1, ()) w14))
                        (ldI w14 (blk w.heap.size) .u16 fun x29 =>
                        ifB (x29 == (251 : Int))
                        (ifB ((Int.tmod s15.2.1 (2 : Int)) == (1 : Int))
                        (ldI w14 ((blk w10.heap.size).add 1) .u32 fun x30 =>
                        Nw (w14.alloc (.cells #[(.int .u32 x30)] 23)) fun w19 =>
                        appendS Try.prog 28 (.slice s15.1.a s15.1.l s15.1.c) (.slice (some (blk w14.heap.size)) 1 1) w19 fun r31 w20 =>
                        m17 (r31, ()) w20)
                        (m17 (s15.1, ()) w14))
                        (m17 (s15.1, ()) w14)))
                        (ldI w14 (blk w.heap.size) .u16 fun x32 =>
                        ifB (x32 == (251 : Int))
                        (ifB ((Int.tmod s15.2.1 (2 : Int)) == (1 : Int))
                        (ldI w14 ((blk w10.heap.size).add 1) .u32 fun x33 =>
                        Nw (w14.alloc (.cells #[(.int .u32 x33)] 23)) fun w21 =>
                        appendS Try.prog 28 (.slice s15.1.a s15.1.l s15.1.c) (.slice (some (blk w14.heap.size)) 1 1) w21 fun r34 w22 =>
                        m17 (r34, ()) w22)
                        (m17 (s15.1, ()) w14))
                        (m17 (s15.1, ()) w14))))
                  (fun s18 w23 =>
                    n16 (s18.1, (IntKind.i64.wrap (s15.2.1 + (1 : Int))), ()) w23))
                (R (.slice s15.1.a s15.1.l s15.1.c) w10))
            ((Sl.mk none 0 0), (0 : Int), ()) w9)))
    ((Sl.mk none 0 0), (0 : Int), ()) w1
theorem graph_Targets_calls (p0 : (Int × Int × Int × Sl × Unit)) (R : Value → World → Prop) (w : World) (h : L_graph_Targets p0 R w) : Calls Try.prog 10 #[(.agg #[(.int .u16 p0.1), (.int .u32 p0.2.1), (.int .u32 p0.2.2.1), (.slice p0.2.2.2.1.a p0.2.2.2.1.l p0.2.2.2.1.c)])] w (Ret R) :=
  lw_calls (fs := Try.fs) (an := a_graph_Targets) (args := [(.agg #[(.int .u16 p0.1), (.int .u32 p0.2.1), (.int .u32 p0.2.2.1), (.slice p0.2.2.2.1.a p0.2.2.2.1.l p0.2.2.2.1.c)])]) Try.fsOK Try.mixed Try.func10 (by kernel_rfl) (by kernel_rfl)
    (Eq.mpr (by kernel_rfl : lwFn Try.prog Try.fs Try.f10 a_graph_Targets [(.agg #[(.int .u16 p0.1), (.int .u32 p0.2.1), (.int .u32 p0.2.2.1), (.slice p0.2.2.2.1.a p0.2.2.2.1.l p0.2.2.2.1.c)])] w R = L_graph_Targets p0 R w) h)

/-- intaglio.intagliokit.Words -/
def a_intagliokit_Words : Ann := (.seq none .nil (.seq none (.seq none .nil (.cond (.seq none .nil .nil) .nil)) (.seq none (.seq none .nil (.one (.loop ⟨[0, 1], [(5, (.b (.int .i64)))]⟩ (.seq none (.seq none .nil (.cond .nil .nil)) (.seq none (.one (.seq none .nil (.cond (.seq none .nil .nil) .nil))) .nil))))) (.seq none .nil .nil))))
def L_intagliokit_Words (p0 : Sl) (p1 : Sl) (R : Value → World → Prop) (w : World) : Prop :=
  ifB ((p0.l : Int) != (p1.l : Int))
    (R (.bool false) w)
    (LoopW (S := Int × Unit) (fun s1 w1 n2 =>
        ifB (decide (s1.1 < (p0.l : Int)))
          ((0 ≤ s1.1 ∧ s1.1 < (p0.l : Int)) ∧
          derefP p0.a fun a3 =>
          ldI w1.drew (a3.add (Int.toNat s1.1)) .u32 fun x4 =>
          (0 ≤ s1.1 ∧ s1.1 < (p1.l : Int)) ∧
          derefP p1.a fun a5 =>
          ldI w1.drew (a5.add (Int.toNat s1.1)) .u32 fun x6 =>
          ifB (x4 != x6)
            (R (.bool false) w1.drew)
            (n2 ((IntKind.i64.wrap (s1.1 + (1 : Int))), ()) w1.drew))
          (R (.bool true) w1))
      ((0 : Int), ()) w)
theorem intagliokit_Words_calls (p0 : Sl) (p1 : Sl) (R : Value → World → Prop) (w : World) (h : L_intagliokit_Words p0 p1 R w) : Calls Try.prog 11 #[(.slice p0.a p0.l p0.c), (.slice p1.a p1.l p1.c)] w (Ret R) :=
  lw_calls (fs := Try.fs) (an := a_intagliokit_Words) (args := [(.slice p0.a p0.l p0.c), (.slice p1.a p1.l p1.c)]) Try.fsOK Try.mixed Try.func11 (by kernel_rfl) (by kernel_rfl)
    (Eq.mpr (by kernel_rfl : lwFn Try.prog Try.fs Try.f11 a_intagliokit_Words [(.slice p0.a p0.l p0.c), (.slice p1.a p1.l p1.c)] w R = L_intagliokit_Words p0 p1 R w) h)

/-- intaglio.intaglioref14.Targets -/
def a_intaglioref14_Targets : Ann := (.seq none .nil (.seq none .nil (.seq none .nil (.seq none (.seq none .nil (.one (.loop ⟨[1, 3], [(4, (.b .slice)), (5, (.b (.int .i64)))]⟩ (.seq none (.seq none .nil (.cond .nil .nil)) (.seq none (.one .nil) .nil))))) (.seq none .nil (.seq none (.seq none .nil (.cond (.seq none .nil .nil) .nil)) (.seq none (.seq none .nil (.one (.loop ⟨[1], [(3, (.b .slice)), (8, (.b (.int .i64)))]⟩ (.seq none (.seq none .nil (.cond .nil .nil)) (.seq (some ⟨[1, 8], [(3, (.b .slice))]⟩) (.one (.seq none .nil (.cond .nil .nil))) .nil))))) (.seq none .nil .nil))))))))
def L_intaglioref14_Targets (p0 : (Int × Int × Int × Sl × Unit)) (R : Value → World → Prop) (w : World) : Prop :=
  Nw (w.alloc (.cells #[(.int .u16 p0.1), (.int .u32 p0.2.1), (.int .u32 p0.2.2.1), (.slice p0.2.2.2.1.a p0.2.2.2.1.l p0.2.2.2.1.c)] 26)) fun w1 =>
  LoopW (S := Sl × Int × Unit) (fun s1 w2 n2 =>
      ldS w2 ((blk w.heap.size).add 3) fun x3 =>
      ifB (decide (s1.2.1 < (x3.l : Int)))
        (ldS w2 ((blk w.heap.size).add 3) fun x4 =>
        (0 ≤ s1.2.1 ∧ s1.2.1 < (x4.l : Int)) ∧
        derefP x4.a fun a5 =>
        ldI w2 (a5.add ((Int.toNat s1.2.1) * 3)) .u8 fun x6 =>
        Nw (w2.alloc (.cells #[(.int .u8 x6)] 5)) fun w3 =>
        appendS Try.prog 58 (.slice s1.1.a s1.1.l s1.1.c) (.slice (some (blk w2.heap.size)) 1 1) w3 fun r7 w4 =>
        n2 (r7, (IntKind.i64.wrap (s1.2.1 + (1 : Int))), ()) w4)
        (ldI w2 (blk w.heap.size) .u16 fun x8 =>
        callR Try.prog 33 #[(.int .u16 x8), (.slice s1.1.a s1.1.l s1.1.c)] w2 fun v9 w5 =>
        ∃ x10 : Int, ∃ x11 : Bool, v9 = (.tuple #[(.int .i64 x10), (.bool x11)]) ∧
        ifB (!x11)
          (R (.slice none 0 0) w5)
          (LoopW (S := Sl × Int × Unit) (fun s12 w6 n13 =>
              ldS w6 ((blk w.heap.size).add 3) fun x14 =>
              ifB (decide (s12.2.1 < (x14.l : Int)))
                (JoinW (S := Sl × Unit) (fun m15 =>
                    ldI w6 (blk w.heap.size) .u16 fun x17 =>
                    ifB (x17 == (249 : Int))
                      (ldS w6 ((blk w.heap.size).add 3) fun x18 =>
                      (0 ≤ s12.2.1 ∧ s12.2.1 < (x18.l : Int)) ∧
                      derefP x18.a fun a19 =>
                      ldI w6 ((a19.add ((Int.toNat s12.2.1) * 3)).add 1) .u32 fun x20 =>
                      Nw (w6.alloc (.cells #[(.int .u32 x20)] 23)) fun w7 =>
                      appendS Try.prog 28 (.slice s12.1.a s12.1.l s12.1.c) (.slice (some (blk w6.heap.size)) 1 1) w7 fun r21 w8 =>
                      m15 (r21, ()) w8)
                      (ldI w6 (blk w.heap.size) .u16 fun x22 =>
                      ifB (x22 == (250 : Int))
                        (ifB (decide (s12.2.1 > (0 : Int)))
                        (ldS w6 ((blk w.heap.size).add 3) fun x23 =>
                        (0 ≤ s12.2.1 ∧ s12.2.1 < (x23.l : Int)) ∧
                        derefP x23.a fun a24 =>
                        ldI w6 ((a24.add ((Int.toNat s12.2.1) * 3)).add 1) .u32 fun x25 =>
                        Nw (w6.alloc (.cells #[(.int .u32 x25)] 23)) fun w9 =>
                        appendS Try.prog 28 (.slice s12.1.a s12.1.l s12.1.c) (.slice (some (blk w6.heap.size)) 1 1) w9 fun r26 w10 =>
                        m15 (r26, ()) w10)
                        (ldI w6 (blk w.heap.size) .u16 fun x27 =>
                        ifB (x27 == (251 : Int))
                        (ifB ((Int.tmod s12.2.1 (2 : Int)) == (1 : Int))
                        (ldS w6 ((blk w.heap.size).add 3) fun x28 =>
                        (0 ≤ s12.2.1 ∧ s12.2.1 < (x28.l : Int)) ∧
                        derefP x28.a fun a29 =>
                        ldI w6 ((a29.add ((Int.toNat s12.2.1) * 3)).add 1) .u32 fun x30 =>
                        Nw (w6.alloc (.cells #[(.int .u32 x30)] 23)) fun w11 =>
                        appendS Try.prog 28 (.slice s12.1.a s12.1.l s12.1.c) (.slice (some (blk w6.heap.size)) 1 1) w11 fun r31 w12 =>
                        m15 (r31, ()) w12)
                        (m15 (s12.1, ()) w6))
                        (m15 (s12.1, ()) w6)))
                        (ldI w6 (blk w.heap.size) .u16 fun x32 =>
                        ifB (x32 == (251 : Int))
                        (ifB ((Int.tmod s12.2.1 (2 : Int)) == (1 : Int))
                        (ldS w6 ((blk w.heap.size).add 3) fun x33 =>
                        (0 ≤ s12.2.1 ∧ s12.2.1 < (x33.l : Int)) ∧
                        derefP x33.a fun a34 =>
                        ldI w6 ((a34.add ((Int.toNat s12.2.1) * 3)).add 1) .u32 fun x35 =>
                        Nw (w6.alloc (.cells #[(.int .u32 x35)] 23)) fun w13 =>
                        appendS Try.prog 28 (.slice s12.1.a s12.1.l s12.1.c) (.slice (some (blk w6.heap.size)) 1 1) w13 fun r36 w14 =>
                        m15 (r36, ()) w14)
                        (m15 (s12.1, ()) w6))
                        (m15 (s12.1, ()) w6))))
                  (fun s16 w15 =>
                    n13 (s16.1, (IntKind.i64.wrap (s12.2.1 + (1 : Int))), ()) w15))
                (R (.slice s12.1.a s12.1.l s12.1.c) w6))
            ((Sl.mk none 0 0), (0 : Int), ()) w5)))
    ((Sl.mk none 0 0), (0 : Int), ()) w1
theorem intaglioref14_Targets_calls (p0 : (Int × Int × Int × Sl × Unit)) (R : Value → World → Prop) (w : World) (h : L_intaglioref14_Targets p0 R w) : Calls Try.prog 12 #[(.agg #[(.int .u16 p0.1), (.int .u32 p0.2.1), (.int .u32 p0.2.2.1), (.slice p0.2.2.2.1.a p0.2.2.2.1.l p0.2.2.2.1.c)])] w (Ret R) :=
  lw_calls (fs := Try.fs) (an := a_intaglioref14_Targets) (args := [(.agg #[(.int .u16 p0.1), (.int .u32 p0.2.1), (.int .u32 p0.2.2.1), (.slice p0.2.2.2.1.a p0.2.2.2.1.l p0.2.2.2.1.c)])]) Try.fsOK Try.mixed Try.func12 (by kernel_rfl) (by kernel_rfl)
    (Eq.mpr (by kernel_rfl : lwFn Try.prog Try.fs Try.f12 a_intaglioref14_Targets [(.agg #[(.int .u16 p0.1), (.int .u32 p0.2.1), (.int .u32 p0.2.2.1), (.slice p0.2.2.2.1.a p0.2.2.2.1.l p0.2.2.2.1.c)])] w R = L_intaglioref14_Targets p0 R w) h)

/-- intaglio.intagliokit.SpoilWords -/
def a_intagliokit_SpoilWords : Ann := (.seq none .nil (.one (.loop ⟨[0], [(2, (.b (.int .i64)))]⟩ (.seq none (.seq none .nil (.cond .nil .nil)) (.seq none (.one .nil) .nil)))))
def L_intagliokit_SpoilWords (p0 : Sl) (R : Value → World → Prop) (w : World) : Prop :=
  LoopW (S := Int × Unit) (fun s1 w1 n2 =>
      ifB (decide (s1.1 < (p0.l : Int)))
        ((0 ≤ s1.1 ∧ s1.1 < (p0.l : Int)) ∧
        derefP p0.a fun a3 =>
        Wr w1 (a3.add (Int.toNat s1.1)) ∧
        Nw (w1.setCell (a3.add (Int.toNat s1.1)) (.int .u32 (1515870810 : Int))) fun w2 =>
        n2 ((IntKind.i64.wrap (s1.1 + (1 : Int))), ()) w2)
        (R (.tuple #[]) w1))
    ((0 : Int), ()) w
theorem intagliokit_SpoilWords_calls (p0 : Sl) (R : Value → World → Prop) (w : World) (h : L_intagliokit_SpoilWords p0 R w) : Calls Try.prog 13 #[(.slice p0.a p0.l p0.c)] w (Ret R) :=
  lw_calls (fs := Try.fs) (an := a_intagliokit_SpoilWords) (args := [(.slice p0.a p0.l p0.c)]) Try.fsOK Try.mixed Try.func13 (by kernel_rfl) (by kernel_rfl)
    (Eq.mpr (by kernel_rfl : lwFn Try.prog Try.fs Try.f13 a_intagliokit_SpoilWords [(.slice p0.a p0.l p0.c)] w R = L_intagliokit_SpoilWords p0 R w) h)

/-- intaglio.intagliokit.Inst -/
def a_intagliokit_Inst : Ann := (.seq none .nil (.seq (some ⟨[2, 3], []⟩) (.seq none .nil (.cond (.seq none .nil .nil) .nil)) (.seq none (.seq none .nil (.one (.loop ⟨[2, 3], [(5, (.b (.int .i64)))]⟩ (.seq none (.seq none .nil (.cond .nil .nil)) (.seq none (.one (.seq none .nil (.cond (.seq none .nil .nil) .nil))) .nil))))) (.seq none .nil .nil))))
def L_intagliokit_Inst (p0 : (Int × Int × Int × Sl × Unit)) (p1 : (Int × Int × Int × Sl × Unit)) (R : Value → World → Prop) (w : World) : Prop :=
  Nw (w.alloc (.cells #[(.int .u16 p0.1), (.int .u32 p0.2.1), (.int .u32 p0.2.2.1), (.slice p0.2.2.2.1.a p0.2.2.2.1.l p0.2.2.2.1.c)] 26)) fun w1 =>
  Nw (w1.alloc (.cells #[(.int .u16 p1.1), (.int .u32 p1.2.1), (.int .u32 p1.2.2.1), (.slice p1.2.2.2.1.a p1.2.2.2.1.l p1.2.2.2.1.c)] 26)) fun w2 =>
  JoinW (S := Unit) (fun m1 =>
      ldI w2 (blk w.heap.size) .u16 fun x3 =>
      ldI w2 (blk w1.heap.size) .u16 fun x4 =>
      ifB (x3 != x4)
        (R (.bool false) w2)
        (ldI w2 ((blk w.heap.size).add 1) .u32 fun x5 =>
        ldI w2 ((blk w1.heap.size).add 1) .u32 fun x6 =>
        ifB (x5 != x6)
          (R (.bool false) w2)
          (ldI w2 ((blk w.heap.size).add 2) .u32 fun x7 =>
          ldI w2 ((blk w1.heap.size).add 2) .u32 fun x8 =>
          ifB (x7 != x8)
            (R (.bool false) w2)
            (ldS w2 ((blk w.heap.size).add 3) fun x9 =>
            ldS w2 ((blk w1.heap.size).add 3) fun x10 =>
            ifB ((x9.l : Int) != (x10.l : Int))
              (R (.bool false) w2)
              (m1 (()) w2)))))
    (fun s2 w3 =>
      LoopW (S := Int × Unit) (fun s11 w4 n12 =>
          ldS w4 ((blk w.heap.size).add 3) fun x13 =>
          ifB (decide (s11.1 < (x13.l : Int)))
            (ldS w4.drew ((blk w.heap.size).add 3) fun x14 =>
            (0 ≤ s11.1 ∧ s11.1 < (x14.l : Int)) ∧
            derefP x14.a fun a15 =>
            ldI w4.drew ((a15.add ((Int.toNat s11.1) * 3)).add 0) .u8 fun x16 =>
            ldI w4.drew ((a15.add ((Int.toNat s11.1) * 3)).add 1) .u32 fun x17 =>
            ldStr w4.drew ((a15.add ((Int.toNat s11.1) * 3)).add 2) fun x18 =>
            ldS w4.drew ((blk w1.heap.size).add 3) fun x19 =>
            (0 ≤ s11.1 ∧ s11.1 < (x19.l : Int)) ∧
            derefP x19.a fun a20 =>
            ldI w4.drew ((a20.add ((Int.toNat s11.1) * 3)).add 0) .u8 fun x21 =>
            ldI w4.drew ((a20.add ((Int.toNat s11.1) * 3)).add 1) .u32 fun x22 =>
            ldStr w4.drew ((a20.add ((Int.toNat s11.1) * 3)).add 2) fun x23 =>
            ifB (!(x16 == x21 && (x17 == x22 && (x18 == x23 && true))))
              (R (.bool false) w4.drew)
              (n12 ((IntKind.i64.wrap (s11.1 + (1 : Int))), ()) w4.drew))
            (R (.bool true) w4))
        ((0 : Int), ()) w3)
theorem intagliokit_Inst_calls (p0 : (Int × Int × Int × Sl × Unit)) (p1 : (Int × Int × Int × Sl × Unit)) (R : Value → World → Prop) (w : World) (h : L_intagliokit_Inst p0 p1 R w) : Calls Try.prog 14 #[(.agg #[(.int .u16 p0.1), (.int .u32 p0.2.1), (.int .u32 p0.2.2.1), (.slice p0.2.2.2.1.a p0.2.2.2.1.l p0.2.2.2.1.c)]), (.agg #[(.int .u16 p1.1), (.int .u32 p1.2.1), (.int .u32 p1.2.2.1), (.slice p1.2.2.2.1.a p1.2.2.2.1.l p1.2.2.2.1.c)])] w (Ret R) :=
  lw_calls (fs := Try.fs) (an := a_intagliokit_Inst) (args := [(.agg #[(.int .u16 p0.1), (.int .u32 p0.2.1), (.int .u32 p0.2.2.1), (.slice p0.2.2.2.1.a p0.2.2.2.1.l p0.2.2.2.1.c)]), (.agg #[(.int .u16 p1.1), (.int .u32 p1.2.1), (.int .u32 p1.2.2.1), (.slice p1.2.2.2.1.a p1.2.2.2.1.l p1.2.2.2.1.c)])]) Try.fsOK Try.mixed Try.func14 (by kernel_rfl) (by kernel_rfl)
    (Eq.mpr (by kernel_rfl : lwFn Try.prog Try.fs Try.f14 a_intagliokit_Inst [(.agg #[(.int .u16 p0.1), (.int .u32 p0.2.1), (.int .u32 p0.2.2.1), (.slice p0.2.2.2.1.a p0.2.2.2.1.l p0.2.2.2.1.c)]), (.agg #[(.int .u16 p1.1), (.int .u32 p1.2.1), (.int .u32 p1.2.2.1), (.slice p1.2.2.2.1.a p1.2.2.2.1.l p1.2.2.2.1.c)])] w R = L_intagliokit_Inst p0 p1 R w) h)

end Go.Proofs
