/-
 Printed by a program of the author: what each function comes to.
-/
import Derived.Test.YtpeonjpjphhenaaProg
import Derived.Test.YtpeonjpjphhenaaGkR
import Derived.Test.YtpeonjpjphhenaaLb
namespace Go.Proofs
open Go.Gk
set_option linter.unusedVariables false
set_option maxRecDepth 100000

/-- intaglio.intagliokit.Words -/
def a_intagliokit_Words : Ann := (.seq none .nil (.seq none (.seq none .nil (.cond (.seq none .nil .nil) .nil)) (.seq none (.seq none .nil (.one (.loop ⟨[0, 1], [(5, (.b (.int .i64)))]⟩ (.seq none (.seq none .nil (.cond .nil .nil)) (.seq none (.one (.seq none .nil (.cond (.seq none .nil .nil) .nil))) .nil))))) (.seq none .nil .nil))))
def L_intagliokit_Words (p0 : Sl) (p1 : Sl) (R : Value → World → Prop) (w : World) : Prop :=
 ifB ((p0.l : Int) != (p1.l : Int))
 (R (.bool false) w)
 (LoopW (S := Int × Unit) (fun s1 w1 n2 =>
 ifB (decide (s1.1 < (p0.l : Int)))
 ((0 ≤ s1.1 ∧ s1.1 < (p0.l : Int)) ∧
 derefP p0.a fun a3 =>
 ldI w1.drew (a3.add (Int.toNat s1.1)) .u32 fun x4 =>
 (0 ≤ s1.1 ∧ s1.1 < (p1.l : Int)) ∧
 derefP p1.a fun a5 =>
 ldI w1.drew (a5.add (Int.toNat s1.1)) .u32 fun x6 =>
 ifB (x4 != x6)
 (R (.bool false) w1.drew)
 (n2 ((IntKind.i64.wrap (s1.1 + (1 : Int))), ()) w1.drew))
 (R (.bool true) w1))
 ((0 : Int), ()) w)
theorem intagliokit_Words_calls (p0 : Sl) (p1 : Sl) (R : Value → World → Prop) (w : World) (h : L_intagliokit_Words p0 p1 R w) : Calls Try.prog 20 #[(.slice p0.a p0.l p0.c), (.slice p1.a p1.l p1.c)] w (Ret R) :=
 lw_calls (fs := Try.fs) (an := a_intagliokit_Words) (args := [(.slice p0.a p0.l p0.c), (.slice p1.a p1.l p1.c)]) Try.fsOK Try.mixed Try.func20 (by kernel_rfl) (by kernel_rfl)
 (Eq.mpr (by kernel_rfl : lwFn Try.prog Try.fs Try.f20 a_intagliokit_Words [(.slice p0.a p0.l p0.c), (.slice p1.a p1.l p1.c)] w R = L_intagliokit_Words p0 p1 R w) h)

/-- intaglio.intagliokit.SpoilWords -/
def a_intagliokit_SpoilWords : Ann := (.seq none .nil (.one (.loop ⟨[0], [(2, (.b (.int .i64)))]⟩ (.seq none (.seq none .nil (.cond .nil .nil)) (.seq none (.one .nil) .nil)))))
def L_intagliokit_SpoilWords (p0 : Sl) (R : Value → World → Prop) (w : World) : Prop :=
 LoopW (S := Int × Unit) (fun s1 w1 n2 =>
 ifB (decide (s1.1 < (p0.l : Int)))
 ((0 ≤ s1.1 ∧ s1.1 < (p0.l : Int)) ∧
 derefP p0.a fun a3 =>
 Wr w1 (a3.add (Int.toNat s1.1)) ∧
 Nw (w1.setCell (a3.add (Int.toNat s1.1)) (.int .u32 (1515870810 : Int))) fun w2 =>
 n2 ((IntKind.i64.wrap (s1.1 + (1 : Int))), ()) w2)
 (R (.tuple #[]) w1))
 ((0 : Int), ()) w
theorem intagliokit_SpoilWords_calls (p0 : Sl) (R : Value → World → Prop) (w : World) (h : L_intagliokit_SpoilWords p0 R w) : Calls Try.prog 21 #[(.slice p0.a p0.l p0.c)] w (Ret R) :=
 lw_calls (fs := Try.fs) (an := a_intagliokit_SpoilWords) (args := [(.slice p0.a p0.l p0.c)]) Try.fsOK Try.mixed Try.func21 (by kernel_rfl) (by kernel_rfl)
 (Eq.mpr (by kernel_rfl : lwFn Try.prog Try.fs Try.f21 a_intagliokit_SpoilWords [(.slice p0.a p0.l p0.c)] w R = L_intagliokit_SpoilWords p0 R w) h)

/-- intaglio.graph.Targets -/
def a_graph_Targets : Ann := (.seq none .nil (.seq none .nil (.seq none (.seq none .nil (.one (.loop ⟨[1, 12, 13], [(3, (.b .slice)), (14, (.b (.int .i64)))]⟩ (.seq none .nil (.seq none (.cond .nil .nil) (.seq none (.one (.seq none .nil .nil)) .nil)))))) (.seq none (.seq none .nil (.seq none .nil (.cond (.seq none .nil .nil) .nil))) (.seq none .nil (.seq none (.seq none .nil (.one (.loop ⟨[1, 34, 35], [(8, (.b .slice)), (36, (.b (.int .i64)))]⟩ (.seq none .nil (.seq none (.cond .nil .nil) (.seq (some ⟨[1, 34, 35, 36], [(8, (.b .slice))]⟩) (.one (.seq none .nil (.one (.seq none (.seq none .nil (.cond .nil (.seq none .nil (.cond .nil .nil)))) (.cond .nil .nil))))) .nil)))))) (.seq none .nil .nil)))))))
def L_graph_Targets (p0 : (Int × Int × Int × Sl × Unit)) (R : Value → World → Prop) (w : World) : Prop :=
 Nw (w.alloc (.cells #[(.int .u16 p0.1), (.int .u32 p0.2.1), (.int .u32 p0.2.2.1), (.slice p0.2.2.2.1.a p0.2.2.2.1.l p0.2.2.2.1.c)] 45)) fun w1 =>
 ldS w1 ((blk w.heap.size).add 3) fun x1 =>
 LoopW (S := Sl × Int × Unit) (fun s2 w2 n3 =>
 ifB (decide (s2.2.1 < (x1.l : Int)))
 ((0 ≤ s2.2.1 ∧ s2.2.1 < (x1.l : Int)) ∧
 derefP x1.a fun a4 =>
 ldI w2 ((a4.add ((Int.toNat s2.2.1) * 3)).add 0) .u8 fun x5 =>
 ldI w2 ((a4.add ((Int.toNat s2.2.1) * 3)).add 1) .u32 fun x6 =>
 ldStr w2 ((a4.add ((Int.toNat s2.2.1) * 3)).add 2) fun x7 =>
 Nw (w2.alloc (.cells #[(.int .u8 (0 : Int)), (.int .u32 (0 : Int)), (.string (ByteArray.mk #[]))] 87)) fun w3 =>
 Wr w3 (blk w2.heap.size) ∧
 Nw (w3.setCell (blk w2.heap.size) (.int .u8 x5)) fun w4 =>
 Wr w4 ((blk w2.heap.size).add 1) ∧
 Nw (w4.setCell ((blk w2.heap.size).add 1) (.int .u32 x6)) fun w5 =>
 Wr w5 ((blk w2.heap.size).add 2) ∧
 Nw (w5.setCell ((blk w2.heap.size).add 2) (.string x7)) fun w6 =>
 ldI w6 (blk w2.heap.size) .u8 fun x8 =>
 Nw (w6.alloc (.cells #[(.int .u8 x8)] 5)) fun w7 =>
 appendS Try.prog 119 (.slice s2.1.a s2.1.l s2.1.c) (.slice (some (blk w6.heap.size)) 1 1) w7 fun r9 w8 =>
 n3 (r9, (IntKind.i64.wrap (s2.2.1 + (1 : Int))), ()) w8)
 (ldI w2 (blk w.heap.size) .u16 fun x10 =>
 callR Try.prog 63 #[(.int .u16 x10), (.slice s2.1.a s2.1.l s2.1.c)] w2 fun v11 w9 =>
 ∃ x12 : Int, ∃ x13 : Bool, v11 = (.tuple #[(.int .i64 x12), (.bool x13)]) ∧
 ifB (!x13)
 (R (.slice none 0 0) w9)
 (ldS w9 ((blk w.heap.size).add 3) fun x14 =>
 LoopW (S := Sl × Int × Unit) (fun s15 w10 n16 =>
 ifB (decide (s15.2.1 < (x14.l : Int)))
 (JoinW (S := Sl × Unit) (fun m17 =>
 (0 ≤ s15.2.1 ∧ s15.2.1 < (x14.l : Int)) ∧
 derefP x14.a fun a19 =>
 ldI w10 ((a19.add ((Int.toNat s15.2.1) * 3)).add 0) .u8 fun x20 =>
 ldI w10 ((a19.add ((Int.toNat s15.2.1) * 3)).add 1) .u32 fun x21 =>
 ldStr w10 ((a19.add ((Int.toNat s15.2.1) * 3)).add 2) fun x22 =>
 Nw (w10.alloc (.cells #[(.int .u8 (0 : Int)), (.int .u32 (0 : Int)), (.string (ByteArray.mk #[]))] 87)) fun w11 =>
 Wr w11 (blk w10.heap.size) ∧
 Nw (w11.setCell (blk w10.heap.size) (.int .u8 x20)) fun w12 =>
 Wr w12 ((blk w10.heap.size).add 1) ∧
 Nw (w12.setCell ((blk w10.heap.size).add 1) (.int .u32 x21)) fun w13 =>
 Wr w13 ((blk w10.heap.size).add 2) ∧
 Nw (w13.setCell ((blk w10.heap.size).add 2) (.string x22)) fun w14 =>
 ldI w14 (blk w.heap.size) .u16 fun x23 =>
 ifB (x23 == (249 : Int))
 (ifB (x23 == (249 : Int))
 (ldI w14 ((blk w10.heap.size).add 1) .u32 fun x24 =>
 Nw (w14.alloc (.cells #[(.int .u32 x24)] 22)) fun w15 =>
 appendS Try.prog 36 (.slice s15.1.a s15.1.l s15.1.c) (.slice (some (blk w14.heap.size)) 1 1) w15 fun r25 w16 =>
 m17 (r25, ()) w16)
 (m17 (s15.1, ()) w14))
 (ldI w14 (blk w.heap.size) .u16 fun x26 =>
 ifB (x26 == (250 : Int))
 (ifB (decide (s15.2.1 > (0 : Int)))
 (ifB (decide (s15.2.1 > (0 : Int)))
 (ldI w14 ((blk w10.heap.size).add 1) .u32 fun x27 =>
 Nw (w14.alloc (.cells #[(.int .u32 x27)] 22)) fun w17 =>
 appendS Try.prog 36 (.slice s15.1.a s15.1.l s15.1.c) (.slice (some (blk w14.heap.size)) 1 1) w17 fun r28 w18 =>
 m17 (r28, ()) w18)
 (m17 (s15.1, ()) w14))
 (ldI w14 (blk w.heap.size) .u16 fun x29 =>
 ifB (x29 == (251 : Int))
 (ifB ((Int.tmod s15.2.1 (2 : Int)) == (1 : Int))
 (ldI w14 ((blk w10.heap.size).add 1) .u32 fun x30 =>
 Nw (w14.alloc (.cells #[(.int .u32 x30)] 22)) fun w19 =>
 appendS Try.prog 36 (.slice s15.1.a s15.1.l s15.1.c) (.slice (some (blk w14.heap.size)) 1 1) w19 fun r31 w20 =>
 m17 (r31, ()) w20)
 (m17 (s15.1, ()) w14))
 (m17 (s15.1, ()) w14)))
 (ldI w14 (blk w.heap.size) .u16 fun x32 =>
 ifB (x32 == (251 : Int))
 (ifB ((Int.tmod s15.2.1 (2 : Int)) == (1 : Int))
 (ldI w14 ((blk w10.heap.size).add 1) .u32 fun x33 =>
 Nw (w14.alloc (.cells #[(.int .u32 x33)] 22)) fun w21 =>
 appendS Try.prog 36 (.slice s15.1.a s15.1.l s15.1.c) (.slice (some (blk w14.heap.size)) 1 1) w21 fun r34 w22 =>
 m17 (r34, ()) w22)
 (m17 (s15.1, ()) w14))
 (m17 (s15.1, ()) w14))))
 (fun s18 w23 =>
 n16 (s18.1, (IntKind.i64.wrap (s15.2.1 + (1 : Int))), ()) w23))
 (R (.slice s15.1.a s15.1.l s15.1.c) w10))
 ((Sl.mk none 0 0), (0 : Int), ()) w9)))
 ((Sl.mk none 0 0), (0 : Int), ()) w1
theorem graph_Targets_calls (p0 : (Int × Int × Int × Sl × Unit)) (R : Value → World → Prop) (w : World) (h : L_graph_Targets p0 R w) : Calls Try.prog 29 #[(.agg #[(.int .u16 p0.1), (.int .u32 p0.2.1), (.int .u32 p0.2.2.1), (.slice p0.2.2.2.1.a p0.2.2.2.1.l p0.2.2.2.1.c)])] w (Ret R) :=
 lw_calls (fs := Try.fs) (an := a_graph_Targets) (args := [(.agg #[(.int .u16 p0.1), (.int .u32 p0.2.1), (.int .u32 p0.2.2.1), (.slice p0.2.2.2.1.a p0.2.2.2.1.l p0.2.2.2.1.c)])]) Try.fsOK Try.mixed Try.func29 (by kernel_rfl) (by kernel_rfl)
 (Eq.mpr (by kernel_rfl : lwFn Try.prog Try.fs Try.f29 a_graph_Targets [(.agg #[(.int .u16 p0.1), (.int .u32 p0.2.1), (.int .u32 p0.2.2.1), (.slice p0.2.2.2.1.a p0.2.2.2.1.l p0.2.2.2.1.c)])] w R = L_graph_Targets p0 R w) h)

/-- intaglio.intagliokit.CopyInst -/
def a_intagliokit_CopyInst : Ann := (.seq none .nil (.seq none .nil (.seq none (.seq none .nil (.one (.loop ⟨[1, 2, 3], [(4, (.b (.int .i64)))]⟩ (.seq none (.seq none .nil (.cond .nil .nil)) (.seq none (.one .nil) .nil))))) (.seq none .nil (.seq none .nil .nil)))))
def L_intagliokit_CopyInst (p0 : (Int × Int × Int × Sl × Unit)) (R : Value → World → Prop) (w : World) : Prop :=
 Nw (w.alloc (.cells #[(.int .u16 p0.1), (.int .u32 p0.2.1), (.int .u32 p0.2.2.1), (.slice p0.2.2.2.1.a p0.2.2.2.1.l p0.2.2.2.1.c)] 45)) fun w1 =>
 Nw (w1.alloc (.cells #[(.int .u16 (0 : Int)), (.int .u32 (0 : Int)), (.int .u32 (0 : Int)), (.slice none 0 0)] 45)) fun w2 =>
 ldS w2 ((blk w.heap.size).add 3) fun x1 =>
 (0 ≤ (x1.l : Int) ∧ (x1.l : Int) ≤ (x1.l : Int) ∧ (24 : Int) * (x1.l : Int) ≤ 281474976710656 ∧ (x1.l : Int) ≤ 9223372036854775807) ∧
 Nw (w2.alloc (.cells (madeCells #[(.int .u8 (0 : Int)), (.int .u32 (0 : Int)), (.string (ByteArray.mk #[]))] (x1.l * 3)) 87)) fun w3 =>
 LoopW (S := Int × Unit) (fun s2 w4 n3 =>
 ldS w4 ((blk w.heap.size).add 3) fun x4 =>
 ifB (decide (s2.1 < (x4.l : Int)))
 (ldS w4 ((blk w.heap.size).add 3) fun x5 =>
 (0 ≤ s2.1 ∧ s2.1 < (x5.l : Int)) ∧
 derefP x5.a fun a6 =>
 ldI w4 ((a6.add ((Int.toNat s2.1) * 3)).add 0) .u8 fun x7 =>
 ldI w4 ((a6.add ((Int.toNat s2.1) * 3)).add 1) .u32 fun x8 =>
 ldStr w4 ((a6.add ((Int.toNat s2.1) * 3)).add 2) fun x9 =>
 (0 ≤ s2.1 ∧ s2.1 < (x1.l : Int)) ∧
 Wr w4 ((blk w2.heap.size).add ((Int.toNat s2.1) * 3)) ∧
 Nw (w4.setCell ((blk w2.heap.size).add ((Int.toNat s2.1) * 3)) (.int .u8 x7)) fun w5 =>
 Wr w5 (((blk w2.heap.size).add ((Int.toNat s2.1) * 3)).add 1) ∧
 Nw (w5.setCell (((blk w2.heap.size).add ((Int.toNat s2.1) * 3)).add 1) (.int .u32 x8)) fun w6 =>
 Wr w6 (((blk w2.heap.size).add ((Int.toNat s2.1) * 3)).add 2) ∧
 Nw (w6.setCell (((blk w2.heap.size).add ((Int.toNat s2.1) * 3)).add 2) (.string x9)) fun w7 =>
 n3 ((IntKind.i64.wrap (s2.1 + (1 : Int))), ()) w7)
 (Wr w4 ((blk w.heap.size).add 3) ∧
 Nw (w4.setCell ((blk w.heap.size).add 3) (.slice (some (blk w2.heap.size)) x1.l x1.l)) fun w8 =>
 ldI w8 ((blk w.heap.size).add 0) .u16 fun x10 =>
 ldI w8 ((blk w.heap.size).add 1) .u32 fun x11 =>
 ldI w8 ((blk w.heap.size).add 2) .u32 fun x12 =>
 ldS w8 ((blk w.heap.size).add 3) fun x13 =>
 Wr w8 (blk w1.heap.size) ∧
 Nw (w8.setCell (blk w1.heap.size) (.int .u16 x10)) fun w9 =>
 Wr w9 ((blk w1.heap.size).add 1) ∧
 Nw (w9.setCell ((blk w1.heap.size).add 1) (.int .u32 x11)) fun w10 =>
 Wr w10 ((blk w1.heap.size).add 2) ∧
 Nw (w10.setCell ((blk w1.heap.size).add 2) (.int .u32 x12)) fun w11 =>
 Wr w11 ((blk w1.heap.size).add 3) ∧
 Nw (w11.setCell ((blk w1.heap.size).add 3) (.slice x13.a x13.l x13.c)) fun w12 =>
 ldI w12 ((blk w1.heap.size).add 0) .u16 fun x14 =>
 ldI w12 ((blk w1.heap.size).add 1) .u32 fun x15 =>
 ldI w12 ((blk w1.heap.size).add 2) .u32 fun x16 =>
 ldS w12 ((blk w1.heap.size).add 3) fun x17 =>
 R (.agg #[(.int .u16 x14), (.int .u32 x15), (.int .u32 x16), (.slice x17.a x17.l x17.c)]) w12))
 ((0 : Int), ()) w3
theorem intagliokit_CopyInst_calls (p0 : (Int × Int × Int × Sl × Unit)) (R : Value → World → Prop) (w : World) (h : L_intagliokit_CopyInst p0 R w) : Calls Try.prog 36 #[(.agg #[(.int .u16 p0.1), (.int .u32 p0.2.1), (.int .u32 p0.2.2.1), (.slice p0.2.2.2.1.a p0.2.2.2.1.l p0.2.2.2.1.c)])] w (Ret R) :=
 lw_calls (fs := Try.fs) (an := a_intagliokit_CopyInst) (args := [(.agg #[(.int .u16 p0.1), (.int .u32 p0.2.1), (.int .u32 p0.2.2.1), (.slice p0.2.2.2.1.a p0.2.2.2.1.l p0.2.2.2.1.c)])]) Try.fsOK Try.mixed Try.func36 (by kernel_rfl) (by kernel_rfl)
 (Eq.mpr (by kernel_rfl : lwFn Try.prog Try.fs Try.f36 a_intagliokit_CopyInst [(.agg #[(.int .u16 p0.1), (.int .u32 p0.2.1), (.int .u32 p0.2.2.1), (.slice p0.2.2.2.1.a p0.2.2.2.1.l p0.2.2.2.1.c)])] w R = L_intagliokit_CopyInst p0 R w) h)

/-- intaglio.intagliokit.Inst -/
def a_intagliokit_Inst : Ann := (.seq none .nil (.seq (some ⟨[2, 3], []⟩) (.seq none .nil (.cond (.seq none .nil .nil) .nil)) (.seq none (.seq none .nil (.one (.loop ⟨[2, 3], [(5, (.b (.int .i64)))]⟩ (.seq none (.seq none .nil (.cond .nil .nil)) (.seq none (.one (.seq none .nil (.cond (.seq none .nil .nil) .nil))) .nil))))) (.seq none .nil .nil))))
def L_intagliokit_Inst (p0 : (Int × Int × Int × Sl × Unit)) (p1 : (Int × Int × Int × Sl × Unit)) (R : Value → World → Prop) (w : World) : Prop :=
 Nw (w.alloc (.cells #[(.int .u16 p0.1), (.int .u32 p0.2.1), (.int .u32 p0.2.2.1), (.slice p0.2.2.2.1.a p0.2.2.2.1.l p0.2.2.2.1.c)] 45)) fun w1 =>
 Nw (w1.alloc (.cells #[(.int .u16 p1.1), (.int .u32 p1.2.1), (.int .u32 p1.2.2.1), (.slice p1.2.2.2.1.a p1.2.2.2.1.l p1.2.2.2.1.c)] 45)) fun w2 =>
 JoinW (S := Unit) (fun m1 =>
 ldI w2 (blk w.heap.size) .u16 fun x3 =>
 ldI w2 (blk w1.heap.size) .u16 fun x4 =>
 ifB (x3 != x4)
 (R (.bool false) w2)
 (ldI w2 ((blk w.heap.size).add 1) .u32 fun x5 =>
 ldI w2 ((blk w1.heap.size).add 1) .u32 fun x6 =>
 ifB (x5 != x6)
 (R (.bool false) w2)
 (ldI w2 ((blk w.heap.size).add 2) .u32 fun x7 =>
 ldI w2 ((blk w1.heap.size).add 2) .u32 fun x8 =>
 ifB (x7 != x8)
 (R (.bool false) w2)
 (ldS w2 ((blk w.heap.size).add 3) fun x9 =>
 ldS w2 ((blk w1.heap.size).add 3) fun x10 =>
 ifB ((x9.l : Int) != (x10.l : Int))
 (R (.bool false) w2)
 (m1 (()) w2)))))
 (fun s2 w3 =>
 LoopW (S := Int × Unit) (fun s11 w4 n12 =>
 ldS w4 ((blk w.heap.size).add 3) fun x13 =>
 ifB (decide (s11.1 < (x13.l : Int)))
 (ldS w4.drew ((blk w.heap.size).add 3) fun x14 =>
 (0 ≤ s11.1 ∧ s11.1 < (x14.l : Int)) ∧
 derefP x14.a fun a15 =>
 ldI w4.drew ((a15.add ((Int.toNat s11.1) * 3)).add 0) .u8 fun x16 =>
 ldI w4.drew ((a15.add ((Int.toNat s11.1) * 3)).add 1) .u32 fun x17 =>
 ldStr w4.drew ((a15.add ((Int.toNat s11.1) * 3)).add 2) fun x18 =>
 ldS w4.drew ((blk w1.heap.size).add 3) fun x19 =>
 (0 ≤ s11.1 ∧ s11.1 < (x19.l : Int)) ∧
 derefP x19.a fun a20 =>
 ldI w4.drew ((a20.add ((Int.toNat s11.1) * 3)).add 0) .u8 fun x21 =>
 ldI w4.drew ((a20.add ((Int.toNat s11.1) * 3)).add 1) .u32 fun x22 =>
 ldStr w4.drew ((a20.add ((Int.toNat s11.1) * 3)).add 2) fun x23 =>
 ifB (!(x16 == x21 && (x17 == x22 && (x18 == x23 && true))))
 (R (.bool false) w4.drew)
 (n12 ((IntKind.i64.wrap (s11.1 + (1 : Int))), ()) w4.drew))
 (R (.bool true) w4))
 ((0 : Int), ()) w3)
theorem intagliokit_Inst_calls (p0 : (Int × Int × Int × Sl × Unit)) (p1 : (Int × Int × Int × Sl × Unit)) (R : Value → World → Prop) (w : World) (h : L_intagliokit_Inst p0 p1 R w) : Calls Try.prog 42 #[(.agg #[(.int .u16 p0.1), (.int .u32 p0.2.1), (.int .u32 p0.2.2.1), (.slice p0.2.2.2.1.a p0.2.2.2.1.l p0.2.2.2.1.c)]), (.agg #[(.int .u16 p1.1), (.int .u32 p1.2.1), (.int .u32 p1.2.2.1), (.slice p1.2.2.2.1.a p1.2.2.2.1.l p1.2.2.2.1.c)])] w (Ret R) :=
 lw_calls (fs := Try.fs) (an := a_intagliokit_Inst) (args := [(.agg #[(.int .u16 p0.1), (.int .u32 p0.2.1), (.int .u32 p0.2.2.1), (.slice p0.2.2.2.1.a p0.2.2.2.1.l p0.2.2.2.1.c)]), (.agg #[(.int .u16 p1.1), (.int .u32 p1.2.1), (.int .u32 p1.2.2.1), (.slice p1.2.2.2.1.a p1.2.2.2.1.l p1.2.2.2.1.c)])]) Try.fsOK Try.mixed Try.func42 (by kernel_rfl) (by kernel_rfl)
 (Eq.mpr (by kernel_rfl : lwFn Try.prog Try.fs Try.f42 a_intagliokit_Inst [(.agg #[(.int .u16 p0.1), (.int .u32 p0.2.1), (.int .u32 p0.2.2.1), (.slice p0.2.2.2.1.a p0.2.2.2.1.l p0.2.2.2.1.c)]), (.agg #[(.int .u16 p1.1), (.int .u32 p1.2.1), (.int .u32 p1.2.2.1), (.slice p1.2.2.2.1.a p1.2.2.2.1.l p1.2.2.2.1.c)])] w R = L_intagliokit_Inst p0 p1 R w) h)

end Go.Proofs
