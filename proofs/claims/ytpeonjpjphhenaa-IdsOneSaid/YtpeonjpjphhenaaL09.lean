/-
 Printed by a program of the author: what each function comes to.
-/
import Derived.Test.YtpeonjpjphhenaaProg
import Derived.Test.YtpeonjpjphhenaaGkR
import Derived.Test.YtpeonjpjphhenaaLb
namespace Go.Proofs
open Go.Gk
set_option linter.unusedVariables false
set_option maxRecDepth 100000

/-- intaglio.intagliokit.CopyModule -/
def a_intagliokit_CopyModule : Ann := (.seq none .nil (.seq none .nil (.seq none (.seq none .nil (.one (.loop ⟨[1, 2, 3], [(4, (.b (.int .i64)))]⟩ (.seq none (.seq none .nil (.cond .nil .nil)) (.seq none (.one .nil) .nil))))) (.seq none .nil (.seq none .nil .nil)))))
def L_intagliokit_CopyModule (p0 : (Int × Int × Sl × Unit)) (R : Value → World → Prop) (w : World) : Prop :=
 Nw (w.alloc (.cells #[(.int .u32 p0.1), (.int .u32 p0.2.1), (.slice p0.2.2.1.a p0.2.2.1.l p0.2.2.1.c)] 25)) fun w1 =>
 Nw (w1.alloc (.cells #[(.int .u32 (0 : Int)), (.int .u32 (0 : Int)), (.slice none 0 0)] 25)) fun w2 =>
 ldS w2 ((blk w.heap.size).add 2) fun x1 =>
 (0 ≤ (x1.l : Int) ∧ (x1.l : Int) ≤ (x1.l : Int) ∧ (40 : Int) * (x1.l : Int) ≤ 281474976710656 ∧ (x1.l : Int) ≤ 9223372036854775807) ∧
 Nw (w2.alloc (.cells (madeCells #[(.int .u16 (0 : Int)), (.int .u32 (0 : Int)), (.int .u32 (0 : Int)), (.slice none 0 0)] (x1.l * 4)) 45)) fun w3 =>
 LoopW (S := Int × Unit) (fun s2 w4 n3 =>
 ldS w4 ((blk w.heap.size).add 2) fun x4 =>
 ifB (decide (s2.1 < (x4.l : Int)))
 (ldS w4 ((blk w.heap.size).add 2) fun x5 =>
 (0 ≤ s2.1 ∧ s2.1 < (x5.l : Int)) ∧
 derefP x5.a fun a6 =>
 ldI w4 ((a6.add ((Int.toNat s2.1) * 4)).add 0) .u16 fun x7 =>
 ldI w4 ((a6.add ((Int.toNat s2.1) * 4)).add 1) .u32 fun x8 =>
 ldI w4 ((a6.add ((Int.toNat s2.1) * 4)).add 2) .u32 fun x9 =>
 ldS w4 ((a6.add ((Int.toNat s2.1) * 4)).add 3) fun x10 =>
 callR Try.prog 36 #[(.agg #[(.int .u16 x7), (.int .u32 x8), (.int .u32 x9), (.slice x10.a x10.l x10.c)])] w4 fun v11 w5 =>
 ∃ x12 : (Int × Int × Int × Sl × Unit), v11 = (.agg #[(.int .u16 x12.1), (.int .u32 x12.2.1), (.int .u32 x12.2.2.1), (.slice x12.2.2.2.1.a x12.2.2.2.1.l x12.2.2.2.1.c)]) ∧
 (0 ≤ s2.1 ∧ s2.1 < (x1.l : Int)) ∧
 Wr w5 ((blk w2.heap.size).add ((Int.toNat s2.1) * 4)) ∧
 Nw (w5.setCell ((blk w2.heap.size).add ((Int.toNat s2.1) * 4)) (.int .u16 x12.1)) fun w6 =>
 Wr w6 (((blk w2.heap.size).add ((Int.toNat s2.1) * 4)).add 1) ∧
 Nw (w6.setCell (((blk w2.heap.size).add ((Int.toNat s2.1) * 4)).add 1) (.int .u32 x12.2.1)) fun w7 =>
 Wr w7 (((blk w2.heap.size).add ((Int.toNat s2.1) * 4)).add 2) ∧
 Nw (w7.setCell (((blk w2.heap.size).add ((Int.toNat s2.1) * 4)).add 2) (.int .u32 x12.2.2.1)) fun w8 =>
 Wr w8 (((blk w2.heap.size).add ((Int.toNat s2.1) * 4)).add 3) ∧
 Nw (w8.setCell (((blk w2.heap.size).add ((Int.toNat s2.1) * 4)).add 3) (.slice x12.2.2.2.1.a x12.2.2.2.1.l x12.2.2.2.1.c)) fun w9 =>
 n3 ((IntKind.i64.wrap (s2.1 + (1 : Int))), ()) w9)
 (Wr w4 ((blk w.heap.size).add 2) ∧
 Nw (w4.setCell ((blk w.heap.size).add 2) (.slice (some (blk w2.heap.size)) x1.l x1.l)) fun w10 =>
 ldI w10 ((blk w.heap.size).add 0) .u32 fun x13 =>
 ldI w10 ((blk w.heap.size).add 1) .u32 fun x14 =>
 ldS w10 ((blk w.heap.size).add 2) fun x15 =>
 Wr w10 (blk w1.heap.size) ∧
 Nw (w10.setCell (blk w1.heap.size) (.int .u32 x13)) fun w11 =>
 Wr w11 ((blk w1.heap.size).add 1) ∧
 Nw (w11.setCell ((blk w1.heap.size).add 1) (.int .u32 x14)) fun w12 =>
 Wr w12 ((blk w1.heap.size).add 2) ∧
 Nw (w12.setCell ((blk w1.heap.size).add 2) (.slice x15.a x15.l x15.c)) fun w13 =>
 ldI w13 ((blk w1.heap.size).add 0) .u32 fun x16 =>
 ldI w13 ((blk w1.heap.size).add 1) .u32 fun x17 =>
 ldS w13 ((blk w1.heap.size).add 2) fun x18 =>
 R (.agg #[(.int .u32 x16), (.int .u32 x17), (.slice x18.a x18.l x18.c)]) w13))
 ((0 : Int), ()) w3
theorem intagliokit_CopyModule_calls (p0 : (Int × Int × Sl × Unit)) (R : Value → World → Prop) (w : World) (h : L_intagliokit_CopyModule p0 R w) : Calls Try.prog 10 #[(.agg #[(.int .u32 p0.1), (.int .u32 p0.2.1), (.slice p0.2.2.1.a p0.2.2.1.l p0.2.2.1.c)])] w (Ret R) :=
 lw_calls (fs := Try.fs) (an := a_intagliokit_CopyModule) (args := [(.agg #[(.int .u32 p0.1), (.int .u32 p0.2.1), (.slice p0.2.2.1.a p0.2.2.1.l p0.2.2.1.c)])]) Try.fsOK Try.mixed Try.func10 (by kernel_rfl) (by kernel_rfl)
 (Eq.mpr (by kernel_rfl : lwFn Try.prog Try.fs Try.f10 a_intagliokit_CopyModule [(.agg #[(.int .u32 p0.1), (.int .u32 p0.2.1), (.slice p0.2.2.1.a p0.2.2.1.l p0.2.2.1.c)])] w R = L_intagliokit_CopyModule p0 R w) h)

end Go.Proofs
