/-
 Printed by a program of the author: what each function comes to.
-/
import Derived.Test.YtpeonjpjphhenaaProg
import Derived.Test.YtpeonjpjphhenaaGkR
import Derived.Test.YtpeonjpjphhenaaLb
namespace Go.Proofs
open Go.Gk
set_option linter.unusedVariables false
set_option maxRecDepth 100000

/-- intaglio.code.Ids -/
def a_code_Ids : Ann := (.seq none .nil (.seq none .nil (.seq (some ⟨[1], [(3, (.b .slice))]⟩) (.seq none .nil (.cond .nil .nil)) (.seq none (.seq none .nil (.one (.loop ⟨[15, 16], [(3, (.b .slice)), (17, (.b (.int .i64)))]⟩ (.seq none .nil (.seq none (.cond .nil .nil) (.seq (some ⟨[15, 16, 17], [(3, (.b .slice))]⟩) (.one (.seq none .nil (.seq none .nil (.cond .nil .nil)))) .nil)))))) (.seq none .nil .nil)))))
def L_code_Ids (p0 : (Int × Int × Int × Sl × Unit)) (R : Value → World → Prop) (w : World) : Prop :=
 Nw (w.alloc (.cells #[(.int .u16 p0.1), (.int .u32 p0.2.1), (.int .u32 p0.2.2.1), (.slice p0.2.2.2.1.a p0.2.2.2.1.l p0.2.2.2.1.c)] 45)) fun w1 =>
 JoinW (S := Sl × Unit) (fun m1 =>
 ldI w1 ((blk w.heap.size).add 1) .u32 fun x3 =>
 ifB (x3 != (0 : Int))
 (ldI w1 ((blk w.heap.size).add 1) .u32 fun x4 =>
 Nw (w1.alloc (.cells #[(.int .u32 x4)] 22)) fun w2 =>
 appendS Try.prog 36 (.slice none 0 0) (.slice (some (blk w1.heap.size)) 1 1) w2 fun r5 w3 =>
 m1 (r5, ()) w3)
 (m1 ((Sl.mk none 0 0), ()) w1))
 (fun s2 w4 =>
 ldS w4 ((blk w.heap.size).add 3) fun x6 =>
 LoopW (S := Sl × Int × Unit) (fun s7 w5 n8 =>
 ifB (decide (s7.2.1 < (x6.l : Int)))
 (JoinW (S := Sl × Unit) (fun m9 =>
 (0 ≤ s7.2.1 ∧ s7.2.1 < (x6.l : Int)) ∧
 derefP x6.a fun a11 =>
 ldI w5 ((a11.add ((Int.toNat s7.2.1) * 3)).add 0) .u8 fun x12 =>
 ldI w5 ((a11.add ((Int.toNat s7.2.1) * 3)).add 1) .u32 fun x13 =>
 ldStr w5 ((a11.add ((Int.toNat s7.2.1) * 3)).add 2) fun x14 =>
 Nw (w5.alloc (.cells #[(.int .u8 (0 : Int)), (.int .u32 (0 : Int)), (.string (ByteArray.mk #[]))] 87)) fun w6 =>
 Wr w6 (blk w5.heap.size) ∧
 Nw (w6.setCell (blk w5.heap.size) (.int .u8 x12)) fun w7 =>
 Wr w7 ((blk w5.heap.size).add 1) ∧
 Nw (w7.setCell ((blk w5.heap.size).add 1) (.int .u32 x13)) fun w8 =>
 Wr w8 ((blk w5.heap.size).add 2) ∧
 Nw (w8.setCell ((blk w5.heap.size).add 2) (.string x14)) fun w9 =>
 ldI w9 (blk w5.heap.size) .u8 fun x15 =>
 ifB (x15 == (1 : Int))
 (ldI w9 ((blk w5.heap.size).add 1) .u32 fun x16 =>
 Nw (w9.alloc (.cells #[(.int .u32 x16)] 22)) fun w10 =>
 appendS Try.prog 36 (.slice s7.1.a s7.1.l s7.1.c) (.slice (some (blk w9.heap.size)) 1 1) w10 fun r17 w11 =>
 m9 (r17, ()) w11)
 (m9 (s7.1, ()) w9))
 (fun s10 w12 =>
 n8 (s10.1, (IntKind.i64.wrap (s7.2.1 + (1 : Int))), ()) w12))
 (R (.slice s7.1.a s7.1.l s7.1.c) w5))
 (s2.1, (0 : Int), ()) w4)
theorem code_Ids_calls (p0 : (Int × Int × Int × Sl × Unit)) (R : Value → World → Prop) (w : World) (h : L_code_Ids p0 R w) : Calls Try.prog 39 #[(.agg #[(.int .u16 p0.1), (.int .u32 p0.2.1), (.int .u32 p0.2.2.1), (.slice p0.2.2.2.1.a p0.2.2.2.1.l p0.2.2.2.1.c)])] w (Ret R) :=
 lw_calls (fs := Try.fs) (an := a_code_Ids) (args := [(.agg #[(.int .u16 p0.1), (.int .u32 p0.2.1), (.int .u32 p0.2.2.1), (.slice p0.2.2.2.1.a p0.2.2.2.1.l p0.2.2.2.1.c)])]) Try.fsOK Try.mixed Try.func39 (by kernel_rfl) (by kernel_rfl)
 (Eq.mpr (by kernel_rfl : lwFn Try.prog Try.fs Try.f39 a_code_Ids [(.agg #[(.int .u16 p0.1), (.int .u32 p0.2.1), (.int .u32 p0.2.2.1), (.slice p0.2.2.2.1.a p0.2.2.2.1.l p0.2.2.2.1.c)])] w R = L_code_Ids p0 R w) h)

/-- intaglio.intaglioref04.Shape -/
def a_intaglioref04_Shape : Ann := (.seq none .nil (.seq (some ⟨[1, 2], []⟩) (.seq none .nil (.cond (.seq none .nil .nil) .nil)) (.seq none .nil (.seq none (.seq none .nil (.one (.loop ⟨[1, 2], [(3, (.b (.int .i64))), (4, (.b (.int .i64)))]⟩ (.seq none (.seq none .nil (.cond .nil .nil)) (.seq none (.one (.seq none .nil (.seq none (.seq none .nil (.cond (.seq none .nil .nil) .nil)) (.seq none .nil (.seq none .nil (.seq none .nil (.cond (.seq none .nil .nil) .nil))))))) .nil))))) (.seq none .nil .nil)))))
def L_intaglioref04_Shape (p0 : (Int × Int × Sl × Unit)) (R : Value → World → Prop) (w : World) : Prop :=
 Nw (w.alloc (.cells #[(.int .u32 p0.1), (.int .u32 p0.2.1), (.slice p0.2.2.1.a p0.2.2.1.l p0.2.2.1.c)] 25)) fun w1 =>
 Nw (w1.alloc (.cells #[(.int .i64 (0 : Int)), (.int .i64 (0 : Int))] 29)) fun w2 =>
 JoinW (S := Unit) (fun m1 =>
 ldI w2 ((blk w.heap.size).add 1) .u32 fun x3 =>
 ifB (x3 == (0 : Int))
 (Wr w2 (blk w1.heap.size) ∧
 Nw (w2.setCell (blk w1.heap.size) (.int .i64 (24 : Int))) fun w3 =>
 Wr w3 ((blk w1.heap.size).add 1) ∧
 Nw (w3.setCell ((blk w1.heap.size).add 1) (.int .i64 (0 : Int))) fun w4 =>
 ldI w4 ((blk w1.heap.size).add 0) .i64 fun x4 =>
 ldI w4 ((blk w1.heap.size).add 1) .i64 fun x5 =>
 R (.agg #[(.int .i64 x4), (.int .i64 x5)]) w4)
 (ldI w2 ((blk w.heap.size).add 1) .u32 fun x6 =>
 ifB (decide (x6 > (65536 : Int)))
 (Wr w2 (blk w1.heap.size) ∧
 Nw (w2.setCell (blk w1.heap.size) (.int .i64 (24 : Int))) fun w5 =>
 Wr w5 ((blk w1.heap.size).add 1) ∧
 Nw (w5.setCell ((blk w1.heap.size).add 1) (.int .i64 (0 : Int))) fun w6 =>
 ldI w6 ((blk w1.heap.size).add 0) .i64 fun x7 =>
 ldI w6 ((blk w1.heap.size).add 1) .i64 fun x8 =>
 R (.agg #[(.int .i64 x7), (.int .i64 x8)]) w6)
 (m1 (()) w2)))
 (fun s2 w7 =>
 LoopW (S := Int × Int × Unit) (fun s9 w8 n10 =>
 ldS w8 ((blk w.heap.size).add 2) fun x11 =>
 ifB (decide (s9.2.1 < (x11.l : Int)))
 (ldS w8.drew ((blk w.heap.size).add 2) fun x12 =>
 (0 ≤ s9.2.1 ∧ s9.2.1 < (x12.l : Int)) ∧
 derefP x12.a fun a13 =>
 ldI w8.drew ((a13.add ((Int.toNat s9.2.1) * 4)).add 0) .u16 fun x14 =>
 ldI w8.drew ((a13.add ((Int.toNat s9.2.1) * 4)).add 1) .u32 fun x15 =>
 ldI w8.drew ((a13.add ((Int.toNat s9.2.1) * 4)).add 2) .u32 fun x16 =>
 ldS w8.drew ((a13.add ((Int.toNat s9.2.1) * 4)).add 3) fun x17 =>
 ldI w8.drew ((blk w.heap.size).add 1) .u32 fun x18 =>
 callR Try.prog 74 #[(.agg #[(.int .u16 x14), (.int .u32 x15), (.int .u32 x16), (.slice x17.a x17.l x17.c)]), (.int .u32 x18)] w8.drew fun v19 w9 =>
 ∃ x20 : Int, v19 = (.int .i64 x20) ∧
 ifB (x20 != (0 : Int))
 (Wr w9 (blk w1.heap.size) ∧
 Nw (w9.setCell (blk w1.heap.size) (.int .i64 x20)) fun w10 =>
 Wr w10 ((blk w1.heap.size).add 1) ∧
 Nw (w10.setCell ((blk w1.heap.size).add 1) (.int .i64 s9.2.1)) fun w11 =>
 ldI w11 ((blk w1.heap.size).add 0) .i64 fun x21 =>
 ldI w11 ((blk w1.heap.size).add 1) .i64 fun x22 =>
 R (.agg #[(.int .i64 x21), (.int .i64 x22)]) w11)
 (ldS w9 ((blk w.heap.size).add 2) fun x23 =>
 (0 ≤ s9.2.1 ∧ s9.2.1 < (x23.l : Int)) ∧
 derefP x23.a fun a24 =>
 ldI w9 (a24.add ((Int.toNat s9.2.1) * 4)) .u16 fun x25 =>
 callR Try.prog 75 #[(.int .u16 x25)] w9 fun v26 w12 =>
 ∃ x27 : (Int × ByteArray × Bool × Bool × ByteArray × ByteArray × Int × Int × Unit), ∃ x28 : Bool, v26 = (.tuple #[(.agg #[(.int .u16 x27.1), (.string x27.2.1), (.bool x27.2.2.1), (.bool x27.2.2.2.1), (.string x27.2.2.2.2.1), (.string x27.2.2.2.2.2.1), (.int .i64 x27.2.2.2.2.2.2.1), (.int .u8 x27.2.2.2.2.2.2.2.1)]), (.bool x28)]) ∧
 Nw (w12.alloc (.cells #[(.int .u16 (0 : Int)), (.string (ByteArray.mk #[])), (.bool false), (.bool false), (.string (ByteArray.mk #[])), (.string (ByteArray.mk #[])), (.int .i64 (0 : Int)), (.int .u8 (0 : Int))] 133)) fun w13 =>
 Wr w13 (blk w12.heap.size) ∧
 Nw (w13.setCell (blk w12.heap.size) (.int .u16 x27.1)) fun w14 =>
 Wr w14 ((blk w12.heap.size).add 1) ∧
 Nw (w14.setCell ((blk w12.heap.size).add 1) (.string x27.2.1)) fun w15 =>
 Wr w15 ((blk w12.heap.size).add 2) ∧
 Nw (w15.setCell ((blk w12.heap.size).add 2) (.bool x27.2.2.1)) fun w16 =>
 Wr w16 ((blk w12.heap.size).add 3) ∧
 Nw (w16.setCell ((blk w12.heap.size).add 3) (.bool x27.2.2.2.1)) fun w17 =>
 Wr w17 ((blk w12.heap.size).add 4) ∧
 Nw (w17.setCell ((blk w12.heap.size).add 4) (.string x27.2.2.2.2.1)) fun w18 =>
 Wr w18 ((blk w12.heap.size).add 5) ∧
 Nw (w18.setCell ((blk w12.heap.size).add 5) (.string x27.2.2.2.2.2.1)) fun w19 =>
 Wr w19 ((blk w12.heap.size).add 6) ∧
 Nw (w19.setCell ((blk w12.heap.size).add 6) (.int .i64 x27.2.2.2.2.2.2.1)) fun w20 =>
 Wr w20 ((blk w12.heap.size).add 7) ∧
 Nw (w20.setCell ((blk w12.heap.size).add 7) (.int .u8 x27.2.2.2.2.2.2.2.1)) fun w21 =>
 ldS w21.drew ((blk w.heap.size).add 2) fun x29 =>
 (0 ≤ s9.2.1 ∧ s9.2.1 < (x29.l : Int)) ∧
 derefP x29.a fun a30 =>
 ldI w21.drew ((a30.add ((Int.toNat s9.2.1) * 4)).add 0) .u16 fun x31 =>
 ldI w21.drew ((a30.add ((Int.toNat s9.2.1) * 4)).add 1) .u32 fun x32 =>
 ldI w21.drew ((a30.add ((Int.toNat s9.2.1) * 4)).add 2) .u32 fun x33 =>
 ldS w21.drew ((a30.add ((Int.toNat s9.2.1) * 4)).add 3) fun x34 =>
 ldI w21.drew ((blk w12.heap.size).add 0) .u16 fun x35 =>
 ldStr w21.drew ((blk w12.heap.size).add 1) fun x36 =>
 ldB w21.drew ((blk w12.heap.size).add 2) fun x37 =>
 ldB w21.drew ((blk w12.heap.size).add 3) fun x38 =>
 ldStr w21.drew ((blk w12.heap.size).add 4) fun x39 =>
 ldStr w21.drew ((blk w12.heap.size).add 5) fun x40 =>
 ldI w21.drew ((blk w12.heap.size).add 6) .i64 fun x41 =>
 ldI w21.drew ((blk w12.heap.size).add 7) .u8 fun x42 =>
 callR Try.prog 76 #[(.agg #[(.int .u16 x31), (.int .u32 x32), (.int .u32 x33), (.slice x34.a x34.l x34.c)]), (.agg #[(.int .u16 x35), (.string x36), (.bool x37), (.bool x38), (.string x39), (.string x40), (.int .i64 x41), (.int .u8 x42)])] w21.drew fun v43 w22 =>
 ∃ x44 : Int, v43 = (.int .i64 x44) ∧
 ifB (decide ((IntKind.i64.wrap (s9.1 + x44)) > (1048576 : Int)))
 (Wr w22 (blk w1.heap.size) ∧
 Nw (w22.setCell (blk w1.heap.size) (.int .i64 (4 : Int))) fun w23 =>
 Wr w23 ((blk w1.heap.size).add 1) ∧
 Nw (w23.setCell ((blk w1.heap.size).add 1) (.int .i64 s9.2.1)) fun w24 =>
 ldI w24 ((blk w1.heap.size).add 0) .i64 fun x45 =>
 ldI w24 ((blk w1.heap.size).add 1) .i64 fun x46 =>
 R (.agg #[(.int .i64 x45), (.int .i64 x46)]) w24)
 (n10 ((IntKind.i64.wrap (s9.1 + x44)), (IntKind.i64.wrap (s9.2.1 + (1 : Int))), ()) w22)))
 (Wr w8 (blk w1.heap.size) ∧
 Nw (w8.setCell (blk w1.heap.size) (.int .i64 (0 : Int))) fun w25 =>
 Wr w25 ((blk w1.heap.size).add 1) ∧
 Nw (w25.setCell ((blk w1.heap.size).add 1) (.int .i64 (0 : Int))) fun w26 =>
 ldI w26 ((blk w1.heap.size).add 0) .i64 fun x47 =>
 ldI w26 ((blk w1.heap.size).add 1) .i64 fun x48 =>
 R (.agg #[(.int .i64 x47), (.int .i64 x48)]) w26))
 ((5 : Int), (0 : Int), ()) w7)
theorem intaglioref04_Shape_calls (p0 : (Int × Int × Sl × Unit)) (R : Value → World → Prop) (w : World) (h : L_intaglioref04_Shape p0 R w) : Calls Try.prog 46 #[(.agg #[(.int .u32 p0.1), (.int .u32 p0.2.1), (.slice p0.2.2.1.a p0.2.2.1.l p0.2.2.1.c)])] w (Ret R) :=
 lw_calls (fs := Try.fs) (an := a_intaglioref04_Shape) (args := [(.agg #[(.int .u32 p0.1), (.int .u32 p0.2.1), (.slice p0.2.2.1.a p0.2.2.1.l p0.2.2.1.c)])]) Try.fsOK Try.mixed Try.func46 (by kernel_rfl) (by kernel_rfl)
 (Eq.mpr (by kernel_rfl : lwFn Try.prog Try.fs Try.f46 a_intaglioref04_Shape [(.agg #[(.int .u32 p0.1), (.int .u32 p0.2.1), (.slice p0.2.2.1.a p0.2.2.1.l p0.2.2.1.c)])] w R = L_intaglioref04_Shape p0 R w) h)

/-- intaglio.code.Shape -/
def a_code_Shape : Ann := (.seq none .nil (.seq none .nil (.seq none .nil .nil)))
def L_code_Shape (p0 : (Int × Int × Sl × Unit)) (R : Value → World → Prop) (w : World) : Prop :=
 Nw (w.alloc (.cells #[(.int .u32 p0.1), (.int .u32 p0.2.1), (.slice p0.2.2.1.a p0.2.2.1.l p0.2.2.1.c)] 25)) fun w1 =>
 Nw (w1.alloc (.cells #[(.int .i64 (0 : Int)), (.int .i64 (0 : Int))] 29)) fun w2 =>
 ldI w2 ((blk w.heap.size).add 0) .u32 fun x1 =>
 ldI w2 ((blk w.heap.size).add 1) .u32 fun x2 =>
 ldS w2 ((blk w.heap.size).add 2) fun x3 =>
 callR Try.prog 77 #[(.agg #[(.int .u32 x1), (.int .u32 x2), (.slice x3.a x3.l x3.c)])] w2 fun v4 w3 =>
 ∃ x5 : Sl, ∃ x6 : (Int × Int × Unit), v4 = (.tuple #[(.slice x5.a x5.l x5.c), (.agg #[(.int .i64 x6.1), (.int .i64 x6.2.1)])]) ∧
 Nw (w3.alloc (.cells #[(.int .i64 (0 : Int)), (.int .i64 (0 : Int))] 29)) fun w4 =>
 Wr w4 (blk w3.heap.size) ∧
 Nw (w4.setCell (blk w3.heap.size) (.int .i64 x6.1)) fun w5 =>
 Wr w5 ((blk w3.heap.size).add 1) ∧
 Nw (w5.setCell ((blk w3.heap.size).add 1) (.int .i64 x6.2.1)) fun w6 =>
 ldI w6 ((blk w3.heap.size).add 0) .i64 fun x7 =>
 ldI w6 ((blk w3.heap.size).add 1) .i64 fun x8 =>
 Wr w6 (blk w1.heap.size) ∧
 Nw (w6.setCell (blk w1.heap.size) (.int .i64 x7)) fun w7 =>
 Wr w7 ((blk w1.heap.size).add 1) ∧
 Nw (w7.setCell ((blk w1.heap.size).add 1) (.int .i64 x8)) fun w8 =>
 ldI w8 ((blk w1.heap.size).add 0) .i64 fun x9 =>
 ldI w8 ((blk w1.heap.size).add 1) .i64 fun x10 =>
 R (.agg #[(.int .i64 x9), (.int .i64 x10)]) w8
theorem code_Shape_calls (p0 : (Int × Int × Sl × Unit)) (R : Value → World → Prop) (w : World) (h : L_code_Shape p0 R w) : Calls Try.prog 48 #[(.agg #[(.int .u32 p0.1), (.int .u32 p0.2.1), (.slice p0.2.2.1.a p0.2.2.1.l p0.2.2.1.c)])] w (Ret R) :=
 lw_calls (fs := Try.fs) (an := a_code_Shape) (args := [(.agg #[(.int .u32 p0.1), (.int .u32 p0.2.1), (.slice p0.2.2.1.a p0.2.2.1.l p0.2.2.1.c)])]) Try.fsOK Try.mixed Try.func48 (by kernel_rfl) (by kernel_rfl)
 (Eq.mpr (by kernel_rfl : lwFn Try.prog Try.fs Try.f48 a_code_Shape [(.agg #[(.int .u32 p0.1), (.int .u32 p0.2.1), (.slice p0.2.2.1.a p0.2.2.1.l p0.2.2.1.c)])] w R = L_code_Shape p0 R w) h)

/-- intaglio.intaglioref04.Ids -/
def a_intaglioref04_Ids : Ann := (.seq none .nil (.seq none .nil (.seq (some ⟨[1], [(3, (.b .slice))]⟩) (.seq none .nil (.cond .nil .nil)) (.seq none (.seq none .nil (.one (.loop ⟨[1], [(3, (.b .slice)), (4, (.b (.int .i64)))]⟩ (.seq none (.seq none .nil (.cond .nil .nil)) (.seq (some ⟨[1, 4], [(3, (.b .slice))]⟩) (.one (.seq none .nil (.cond .nil .nil))) .nil))))) (.seq none .nil .nil)))))
def L_intaglioref04_Ids (p0 : (Int × Int × Int × Sl × Unit)) (R : Value → World → Prop) (w : World) : Prop :=
 Nw (w.alloc (.cells #[(.int .u16 p0.1), (.int .u32 p0.2.1), (.int .u32 p0.2.2.1), (.slice p0.2.2.2.1.a p0.2.2.2.1.l p0.2.2.2.1.c)] 45)) fun w1 =>
 JoinW (S := Sl × Unit) (fun m1 =>
 ldI w1 ((blk w.heap.size).add 1) .u32 fun x3 =>
 ifB (x3 != (0 : Int))
 (ldI w1 ((blk w.heap.size).add 1) .u32 fun x4 =>
 Nw (w1.alloc (.cells #[(.int .u32 x4)] 22)) fun w2 =>
 appendS Try.prog 36 (.slice none 0 0) (.slice (some (blk w1.heap.size)) 1 1) w2 fun r5 w3 =>
 m1 (r5, ()) w3)
 (m1 ((Sl.mk none 0 0), ()) w1))
 (fun s2 w4 =>
 LoopW (S := Sl × Int × Unit) (fun s6 w5 n7 =>
 ldS w5 ((blk w.heap.size).add 3) fun x8 =>
 ifB (decide (s6.2.1 < (x8.l : Int)))
 (JoinW (S := Sl × Unit) (fun m9 =>
 ldS w5 ((blk w.heap.size).add 3) fun x11 =>
 (0 ≤ s6.2.1 ∧ s6.2.1 < (x11.l : Int)) ∧
 derefP x11.a fun a12 =>
 ldI w5 (a12.add ((Int.toNat s6.2.1) * 3)) .u8 fun x13 =>
 ifB (x13 == (1 : Int))
 (ldS w5 ((blk w.heap.size).add 3) fun x14 =>
 (0 ≤ s6.2.1 ∧ s6.2.1 < (x14.l : Int)) ∧
 derefP x14.a fun a15 =>
 ldI w5 ((a15.add ((Int.toNat s6.2.1) * 3)).add 1) .u32 fun x16 =>
 Nw (w5.alloc (.cells #[(.int .u32 x16)] 22)) fun w6 =>
 appendS Try.prog 36 (.slice s6.1.a s6.1.l s6.1.c) (.slice (some (blk w5.heap.size)) 1 1) w6 fun r17 w7 =>
 m9 (r17, ()) w7)
 (m9 (s6.1, ()) w5))
 (fun s10 w8 =>
 n7 (s10.1, (IntKind.i64.wrap (s6.2.1 + (1 : Int))), ()) w8))
 (R (.slice s6.1.a s6.1.l s6.1.c) w5))
 (s2.1, (0 : Int), ()) w4)
theorem intaglioref04_Ids_calls (p0 : (Int × Int × Int × Sl × Unit)) (R : Value → World → Prop) (w : World) (h : L_intaglioref04_Ids p0 R w) : Calls Try.prog 71 #[(.agg #[(.int .u16 p0.1), (.int .u32 p0.2.1), (.int .u32 p0.2.2.1), (.slice p0.2.2.2.1.a p0.2.2.2.1.l p0.2.2.2.1.c)])] w (Ret R) :=
 lw_calls (fs := Try.fs) (an := a_intaglioref04_Ids) (args := [(.agg #[(.int .u16 p0.1), (.int .u32 p0.2.1), (.int .u32 p0.2.2.1), (.slice p0.2.2.2.1.a p0.2.2.2.1.l p0.2.2.2.1.c)])]) Try.fsOK Try.mixed Try.func71 (by kernel_rfl) (by kernel_rfl)
 (Eq.mpr (by kernel_rfl : lwFn Try.prog Try.fs Try.f71 a_intaglioref04_Ids [(.agg #[(.int .u16 p0.1), (.int .u32 p0.2.1), (.int .u32 p0.2.2.1), (.slice p0.2.2.2.1.a p0.2.2.2.1.l p0.2.2.2.1.c)])] w R = L_intaglioref04_Ids p0 R w) h)

/-- intaglio.intaglioref04.Fault -/
def a_intaglioref04_Fault : Ann := (.seq none .nil (.seq none .nil (.seq none (.seq none .nil (.cond (.seq none .nil .nil) .nil)) (.seq none .nil (.seq none (.seq none .nil (.cond (.seq none .nil .nil) .nil)) (.seq none .nil (.seq none (.seq none .nil (.cond (.seq none .nil .nil) .nil)) (.seq none (.seq none .nil (.one (.loop ⟨[1, 2, 5], [(8, (.b (.int .i64)))]⟩ (.seq none (.seq none .nil (.cond .nil .nil)) (.seq none (.one (.seq none .nil (.seq none .nil (.cond (.seq none .nil .nil) .nil)))) .nil))))) (.seq none (.seq none .nil (.cond (.seq none .nil .nil) .nil)) (.seq none (.seq none .nil (.cond (.seq none .nil .nil) .nil)) (.seq none .nil .nil)))))))))))
def L_intaglioref04_Fault (p0 : (Int × Int × Int × Sl × Unit)) (p1 : Int) (R : Value → World → Prop) (w : World) : Prop :=
 Nw (w.alloc (.cells #[(.int .u16 p0.1), (.int .u32 p0.2.1), (.int .u32 p0.2.2.1), (.slice p0.2.2.2.1.a p0.2.2.2.1.l p0.2.2.2.1.c)] 45)) fun w1 =>
 ldI w1 (blk w.heap.size) .u16 fun x1 =>
 callR Try.prog 75 #[(.int .u16 x1)] w1 fun v2 w2 =>
 ∃ x3 : (Int × ByteArray × Bool × Bool × ByteArray × ByteArray × Int × Int × Unit), ∃ x4 : Bool, v2 = (.tuple #[(.agg #[(.int .u16 x3.1), (.string x3.2.1), (.bool x3.2.2.1), (.bool x3.2.2.2.1), (.string x3.2.2.2.2.1), (.string x3.2.2.2.2.2.1), (.int .i64 x3.2.2.2.2.2.2.1), (.int .u8 x3.2.2.2.2.2.2.2.1)]), (.bool x4)]) ∧
 Nw (w2.alloc (.cells #[(.int .u16 (0 : Int)), (.string (ByteArray.mk #[])), (.bool false), (.bool false), (.string (ByteArray.mk #[])), (.string (ByteArray.mk #[])), (.int .i64 (0 : Int)), (.int .u8 (0 : Int))] 133)) fun w3 =>
 Wr w3 (blk w2.heap.size) ∧
 Nw (w3.setCell (blk w2.heap.size) (.int .u16 x3.1)) fun w4 =>
 Wr w4 ((blk w2.heap.size).add 1) ∧
 Nw (w4.setCell ((blk w2.heap.size).add 1) (.string x3.2.1)) fun w5 =>
 Wr w5 ((blk w2.heap.size).add 2) ∧
 Nw (w5.setCell ((blk w2.heap.size).add 2) (.bool x3.2.2.1)) fun w6 =>
 Wr w6 ((blk w2.heap.size).add 3) ∧
 Nw (w6.setCell ((blk w2.heap.size).add 3) (.bool x3.2.2.2.1)) fun w7 =>
 Wr w7 ((blk w2.heap.size).add 4) ∧
 Nw (w7.setCell ((blk w2.heap.size).add 4) (.string x3.2.2.2.2.1)) fun w8 =>
 Wr w8 ((blk w2.heap.size).add 5) ∧
 Nw (w8.setCell ((blk w2.heap.size).add 5) (.string x3.2.2.2.2.2.1)) fun w9 =>
 Wr w9 ((blk w2.heap.size).add 6) ∧
 Nw (w9.setCell ((blk w2.heap.size).add 6) (.int .i64 x3.2.2.2.2.2.2.1)) fun w10 =>
 Wr w10 ((blk w2.heap.size).add 7) ∧
 Nw (w10.setCell ((blk w2.heap.size).add 7) (.int .u8 x3.2.2.2.2.2.2.2.1)) fun w11 =>
 ifB (!x4)
 (R (.int .i64 (30 : Int)) w11)
 (ldB w11 ((blk w2.heap.size).add 2) fun x5 =>
 ldI w11 ((blk w.heap.size).add 1) .u32 fun x6 =>
 callR Try.prog 96 #[(.bool x5), (.int .u32 x6), (.int .u32 p1), (.int .i64 (40 : Int))] w11 fun v7 w12 =>
 ∃ x8 : Int, v7 = (.int .i64 x8) ∧
 ifB (x8 != (0 : Int))
 (R (.int .i64 x8) w12)
 (ldB w12 ((blk w2.heap.size).add 3) fun x9 =>
 ldI w12 ((blk w.heap.size).add 2) .u32 fun x10 =>
 callR Try.prog 96 #[(.bool x9), (.int .u32 x10), (.int .u32 p1), (.int .i64 (41 : Int))] w12 fun v11 w13 =>
 ∃ x12 : Int, v11 = (.int .i64 x12) ∧
 ifB (x12 != (0 : Int))
 (R (.int .i64 x12) w13)
 (LoopW (S := Int × Unit) (fun s13 w14 n14 =>
 ldS w14 ((blk w.heap.size).add 3) fun x15 =>
 ifB (decide (s13.1 < (x15.l : Int)))
 (ldI w14.drew (blk w.heap.size) .u16 fun x16 =>
 ldS w14.drew ((blk w.heap.size).add 3) fun x17 =>
 (0 ≤ s13.1 ∧ s13.1 < (x17.l : Int)) ∧
 derefP x17.a fun a18 =>
 ldI w14.drew ((a18.add ((Int.toNat s13.1) * 3)).add 0) .u8 fun x19 =>
 ldI w14.drew ((a18.add ((Int.toNat s13.1) * 3)).add 1) .u32 fun x20 =>
 ldStr w14.drew ((a18.add ((Int.toNat s13.1) * 3)).add 2) fun x21 =>
 callR Try.prog 98 #[(.int .u16 x16), (.int .i64 s13.1)] w14.drew fun v22 w15 =>
 ∃ x23 : Int, v22 = (.int .u8 x23) ∧
 w15.cell? ((a18.add ((Int.toNat s13.1) * 3)).add 0) = some (.int .u8 x19) ∧
 w15.cell? ((a18.add ((Int.toNat s13.1) * 3)).add 1) = some (.int .u32 x20) ∧
 w15.cell? ((a18.add ((Int.toNat s13.1) * 3)).add 2) = some (.string x21) ∧
 w15.cell? ((blk w.heap.size).add 3) = some (.slice x17.a x17.l x17.c) ∧
 callR Try.prog 97 #[(.int .u8 x23), (.agg #[(.int .u8 x19), (.int .u32 x20), (.string x21)]), (.int .u32 p1)] w15 fun v24 w16 =>
 ∃ x25 : Int, v24 = (.int .i64 x25) ∧
 ifB (x25 != (0 : Int))
 (R (.int .i64 x25) w16)
 (n14 ((IntKind.i64.wrap (s13.1 + (1 : Int))), ()) w16))
 (ldI w14 ((blk w2.heap.size).add 0) .u16 fun x26 =>
 ldStr w14 ((blk w2.heap.size).add 1) fun x27 =>
 ldB w14 ((blk w2.heap.size).add 2) fun x28 =>
 ldB w14 ((blk w2.heap.size).add 3) fun x29 =>
 ldStr w14 ((blk w2.heap.size).add 4) fun x30 =>
 ldStr w14 ((blk w2.heap.size).add 5) fun x31 =>
 ldI w14 ((blk w2.heap.size).add 6) .i64 fun x32 =>
 ldI w14 ((blk w2.heap.size).add 7) .u8 fun x33 =>
 ldS w14 ((blk w.heap.size).add 3) fun x34 =>
 callR Try.prog 99 #[(.agg #[(.int .u16 x26), (.string x27), (.bool x28), (.bool x29), (.string x30), (.string x31), (.int .i64 x32), (.int .u8 x33)]), (.int .i64 (x34.l : Int))] w14 fun v35 w17 =>
 ∃ x36 : Bool, v35 = (.bool x36) ∧
 ifB (!x36)
 (R (.int .i64 (42 : Int)) w17)
 (ldI w17 ((blk w.heap.size).add 0) .u16 fun x37 =>
 ldI w17 ((blk w.heap.size).add 1) .u32 fun x38 =>
 ldI w17 ((blk w.heap.size).add 2) .u32 fun x39 =>
 ldS w17 ((blk w.heap.size).add 3) fun x40 =>
 ldI w17 ((blk w2.heap.size).add 0) .u16 fun x41 =>
 ldStr w17 ((blk w2.heap.size).add 1) fun x42 =>
 ldB w17 ((blk w2.heap.size).add 2) fun x43 =>
 ldB w17 ((blk w2.heap.size).add 3) fun x44 =>
 ldStr w17 ((blk w2.heap.size).add 4) fun x45 =>
 ldStr w17 ((blk w2.heap.size).add 5) fun x46 =>
 ldI w17 ((blk w2.heap.size).add 6) .i64 fun x47 =>
 ldI w17 ((blk w2.heap.size).add 7) .u8 fun x48 =>
 callR Try.prog 76 #[(.agg #[(.int .u16 x37), (.int .u32 x38), (.int .u32 x39), (.slice x40.a x40.l x40.c)]), (.agg #[(.int .u16 x41), (.string x42), (.bool x43), (.bool x44), (.string x45), (.string x46), (.int .i64 x47), (.int .u8 x48)])] w17 fun v49 w18 =>
 ∃ x50 : Int, v49 = (.int .i64 x50) ∧
 ifB (decide (x50 > (65535 : Int)))
 (R (.int .i64 (25 : Int)) w18)
 (R (.int .i64 (0 : Int)) w18))))
 ((0 : Int), ()) w13)))
theorem intaglioref04_Fault_calls (p0 : (Int × Int × Int × Sl × Unit)) (p1 : Int) (R : Value → World → Prop) (w : World) (h : L_intaglioref04_Fault p0 p1 R w) : Calls Try.prog 74 #[(.agg #[(.int .u16 p0.1), (.int .u32 p0.2.1), (.int .u32 p0.2.2.1), (.slice p0.2.2.2.1.a p0.2.2.2.1.l p0.2.2.2.1.c)]), (.int .u32 p1)] w (Ret R) :=
 lw_calls (fs := Try.fs) (an := a_intaglioref04_Fault) (args := [(.agg #[(.int .u16 p0.1), (.int .u32 p0.2.1), (.int .u32 p0.2.2.1), (.slice p0.2.2.2.1.a p0.2.2.2.1.l p0.2.2.2.1.c)]), (.int .u32 p1)]) Try.fsOK Try.mixed Try.func74 (by kernel_rfl) (by kernel_rfl)
 (Eq.mpr (by kernel_rfl : lwFn Try.prog Try.fs Try.f74 a_intaglioref04_Fault [(.agg #[(.int .u16 p0.1), (.int .u32 p0.2.1), (.int .u32 p0.2.2.1), (.slice p0.2.2.2.1.a p0.2.2.2.1.l p0.2.2.2.1.c)]), (.int .u32 p1)] w R = L_intaglioref04_Fault p0 p1 R w) h)

/-- intaglio.intaglioref04.Room -/
def a_intaglioref04_Room : Ann := (.seq none .nil (.seq none .nil (.seq (some ⟨[2, 3], [(5, (.b (.int .i64)))]⟩) (.seq none .nil (.cond .nil .nil)) (.seq (some ⟨[2], [(5, (.b (.int .i64)))]⟩) (.seq none .nil (.cond .nil .nil)) (.seq none (.seq none .nil (.one (.loop ⟨[2], [(5, (.b (.int .i64))), (6, (.b (.int .i64)))]⟩ (.seq none (.seq none .nil (.cond .nil .nil)) (.seq (some ⟨[2, 6], [(5, (.b (.int .i64)))]⟩) (.one (.seq none .nil (.cond .nil .nil))) .nil))))) (.seq none .nil .nil))))))
def L_intaglioref04_Room (p0 : (Int × Int × Int × Sl × Unit)) (p1 : (Int × ByteArray × Bool × Bool × ByteArray × ByteArray × Int × Int × Unit)) (R : Value → World → Prop) (w : World) : Prop :=
 Nw (w.alloc (.cells #[(.int .u16 p0.1), (.int .u32 p0.2.1), (.int .u32 p0.2.2.1), (.slice p0.2.2.2.1.a p0.2.2.2.1.l p0.2.2.2.1.c)] 45)) fun w1 =>
 Nw (w1.alloc (.cells #[(.int .u16 p1.1), (.string p1.2.1), (.bool p1.2.2.1), (.bool p1.2.2.2.1), (.string p1.2.2.2.2.1), (.string p1.2.2.2.2.2.1), (.int .i64 p1.2.2.2.2.2.2.1), (.int .u8 p1.2.2.2.2.2.2.2.1)] 133)) fun w2 =>
 JoinW (S := Int × Unit) (fun m1 =>
 ldB w2 ((blk w1.heap.size).add 2) fun x3 =>
 ifB x3
 (m1 ((IntKind.i64.wrap ((1 : Int) + (1 : Int))), ()) w2)
 (m1 ((1 : Int), ()) w2))
 (fun s2 w3 =>
 JoinW (S := Int × Unit) (fun m4 =>
 ldB w3 ((blk w1.heap.size).add 3) fun x6 =>
 ifB x6
 (m4 ((IntKind.i64.wrap (s2.1 + (1 : Int))), ()) w3)
 (m4 (s2.1, ()) w3))
 (fun s5 w4 =>
 LoopW (S := Int × Int × Unit) (fun s7 w5 n8 =>
 ldS w5 ((blk w.heap.size).add 3) fun x9 =>
 ifB (decide (s7.2.1 < (x9.l : Int)))
 (JoinW (S := Int × Unit) (fun m10 =>
 ldS w5 ((blk w.heap.size).add 3) fun x12 =>
 (0 ≤ s7.2.1 ∧ s7.2.1 < (x12.l : Int)) ∧
 derefP x12.a fun a13 =>
 ldI w5 (a13.add ((Int.toNat s7.2.1) * 3)) .u8 fun x14 =>
 ifB (x14 == (3 : Int))
 (ldS w5 ((blk w.heap.size).add 3) fun x15 =>
 (0 ≤ s7.2.1 ∧ s7.2.1 < (x15.l : Int)) ∧
 derefP x15.a fun a16 =>
 ldStr w5 ((a16.add ((Int.toNat s7.2.1) * 3)).add 2) fun x17 =>
 callR Try.prog 101 #[(.string x17)] w5 fun v18 w6 =>
 ∃ x19 : Int, v18 = (.int .i64 x19) ∧
 m10 ((IntKind.i64.wrap (s7.1 + x19)), ()) w6)
 (m10 ((IntKind.i64.wrap (s7.1 + (1 : Int))), ()) w5))
 (fun s11 w7 =>
 n8 (s11.1, (IntKind.i64.wrap (s7.2.1 + (1 : Int))), ()) w7))
 (R (.int .i64 s7.1) w5))
 (s5.1, (0 : Int), ()) w4))
theorem intaglioref04_Room_calls (p0 : (Int × Int × Int × Sl × Unit)) (p1 : (Int × ByteArray × Bool × Bool × ByteArray × ByteArray × Int × Int × Unit)) (R : Value → World → Prop) (w : World) (h : L_intaglioref04_Room p0 p1 R w) : Calls Try.prog 76 #[(.agg #[(.int .u16 p0.1), (.int .u32 p0.2.1), (.int .u32 p0.2.2.1), (.slice p0.2.2.2.1.a p0.2.2.2.1.l p0.2.2.2.1.c)]), (.agg #[(.int .u16 p1.1), (.string p1.2.1), (.bool p1.2.2.1), (.bool p1.2.2.2.1), (.string p1.2.2.2.2.1), (.string p1.2.2.2.2.2.1), (.int .i64 p1.2.2.2.2.2.2.1), (.int .u8 p1.2.2.2.2.2.2.2.1)])] w (Ret R) :=
 lw_calls (fs := Try.fs) (an := a_intaglioref04_Room) (args := [(.agg #[(.int .u16 p0.1), (.int .u32 p0.2.1), (.int .u32 p0.2.2.1), (.slice p0.2.2.2.1.a p0.2.2.2.1.l p0.2.2.2.1.c)]), (.agg #[(.int .u16 p1.1), (.string p1.2.1), (.bool p1.2.2.1), (.bool p1.2.2.2.1), (.string p1.2.2.2.2.1), (.string p1.2.2.2.2.2.1), (.int .i64 p1.2.2.2.2.2.2.1), (.int .u8 p1.2.2.2.2.2.2.2.1)])]) Try.fsOK Try.mixed Try.func76 (by kernel_rfl) (by kernel_rfl)
 (Eq.mpr (by kernel_rfl : lwFn Try.prog Try.fs Try.f76 a_intaglioref04_Room [(.agg #[(.int .u16 p0.1), (.int .u32 p0.2.1), (.int .u32 p0.2.2.1), (.slice p0.2.2.2.1.a p0.2.2.2.1.l p0.2.2.2.1.c)]), (.agg #[(.int .u16 p1.1), (.string p1.2.1), (.bool p1.2.2.1), (.bool p1.2.2.2.1), (.string p1.2.2.2.2.1), (.string p1.2.2.2.2.2.1), (.int .i64 p1.2.2.2.2.2.2.1), (.int .u8 p1.2.2.2.2.2.2.2.1)])] w R = L_intaglioref04_Room p0 p1 R w) h)

/-- intaglio.code.raws -/
def a_code_raws : Ann := (.seq none .nil (.seq (some ⟨[1, 3], []⟩) (.seq none .nil (.cond (.seq none .nil .nil) .nil)) (.seq none .nil (.seq none .nil (.seq none .nil (.seq none (.seq none .nil (.one (.loop ⟨[1, 3, 27, 28], [(4, (.b (.int .i64))), (6, (.b .slice)), (29, (.b (.int .i64)))]⟩ (.seq none .nil (.seq none (.cond .nil .nil) (.seq none (.one (.seq none .nil (.seq none .nil (.seq none .nil (.seq none (.one (.seq none .nil (.cond (.seq none .nil .nil) (.seq none .nil (.cond (.seq none .nil .nil) .nil))))) .nil))))) .nil)))))) (.seq none .nil .nil)))))))
def L_code_raws (p0 : (Int × Int × Sl × Unit)) (R : Value → World → Prop) (w : World) : Prop :=
 Nw (w.alloc (.cells #[(.int .u32 p0.1), (.int .u32 p0.2.1), (.slice p0.2.2.1.a p0.2.2.1.l p0.2.2.1.c)] 25)) fun w1 =>
 Nw (w1.alloc (.cells #[(.int .i64 (0 : Int)), (.int .i64 (0 : Int))] 29)) fun w2 =>
 JoinW (S := Unit) (fun m1 =>
 ldI w2 ((blk w.heap.size).add 1) .u32 fun x3 =>
 ifB (x3 == (0 : Int))
 (Wr w2 (blk w1.heap.size) ∧
 Nw (w2.setCell (blk w1.heap.size) (.int .i64 (24 : Int))) fun w3 =>
 Wr w3 ((blk w1.heap.size).add 1) ∧
 Nw (w3.setCell ((blk w1.heap.size).add 1) (.int .i64 (0 : Int))) fun w4 =>
 ldI w4 ((blk w1.heap.size).add 0) .i64 fun x4 =>
 ldI w4 ((blk w1.heap.size).add 1) .i64 fun x5 =>
 R (.tuple #[(.slice none 0 0), (.agg #[(.int .i64 x4), (.int .i64 x5)])]) w4)
 (ldI w2 ((blk w.heap.size).add 1) .u32 fun x6 =>
 ifB (decide (x6 > (65536 : Int)))
 (Wr w2 (blk w1.heap.size) ∧
 Nw (w2.setCell (blk w1.heap.size) (.int .i64 (24 : Int))) fun w5 =>
 Wr w5 ((blk w1.heap.size).add 1) ∧
 Nw (w5.setCell ((blk w1.heap.size).add 1) (.int .i64 (0 : Int))) fun w6 =>
 ldI w6 ((blk w1.heap.size).add 0) .i64 fun x7 =>
 ldI w6 ((blk w1.heap.size).add 1) .i64 fun x8 =>
 R (.tuple #[(.slice none 0 0), (.agg #[(.int .i64 x7), (.int .i64 x8)])]) w6)
 (m1 (()) w2)))
 (fun s2 w7 =>
 callR Try.prog 102 #[(.slice none 0 0)] w7 fun v9 w8 =>
 ∃ x10 : Int, ∃ x11 : Int, v9 = (.tuple #[(.int .i64 x10), (.int .i64 x11)]) ∧
 ldS w8 ((blk w.heap.size).add 2) fun x12 =>
 LoopW (S := Int × Sl × Int × Unit) (fun s13 w9 n14 =>
 ifB (decide (s13.2.2.1 < (x12.l : Int)))
 ((0 ≤ s13.2.2.1 ∧ s13.2.2.1 < (x12.l : Int)) ∧
 derefP x12.a fun a15 =>
 ldI w9 ((a15.add ((Int.toNat s13.2.2.1) * 4)).add 0) .u16 fun x16 =>
 ldI w9 ((a15.add ((Int.toNat s13.2.2.1) * 4)).add 1) .u32 fun x17 =>
 ldI w9 ((a15.add ((Int.toNat s13.2.2.1) * 4)).add 2) .u32 fun x18 =>
 ldS w9 ((a15.add ((Int.toNat s13.2.2.1) * 4)).add 3) fun x19 =>
 Nw (w9.alloc (.cells #[(.int .u16 (0 : Int)), (.int .u32 (0 : Int)), (.int .u32 (0 : Int)), (.slice none 0 0)] 45)) fun w10 =>
 Wr w10 (blk w9.heap.size) ∧
 Nw (w10.setCell (blk w9.heap.size) (.int .u16 x16)) fun w11 =>
 Wr w11 ((blk w9.heap.size).add 1) ∧
 Nw (w11.setCell ((blk w9.heap.size).add 1) (.int .u32 x17)) fun w12 =>
 Wr w12 ((blk w9.heap.size).add 2) ∧
 Nw (w12.setCell ((blk w9.heap.size).add 2) (.int .u32 x18)) fun w13 =>
 Wr w13 ((blk w9.heap.size).add 3) ∧
 Nw (w13.setCell ((blk w9.heap.size).add 3) (.slice x19.a x19.l x19.c)) fun w14 =>
 ldI w14 ((blk w9.heap.size).add 0) .u16 fun x20 =>
 ldI w14 ((blk w9.heap.size).add 1) .u32 fun x21 =>
 ldI w14 ((blk w9.heap.size).add 2) .u32 fun x22 =>
 ldS w14 ((blk w9.heap.size).add 3) fun x23 =>
 ldI w14 ((blk w.heap.size).add 1) .u32 fun x24 =>
 callR Try.prog 103 #[(.agg #[(.int .u16 x20), (.int .u32 x21), (.int .u32 x22), (.slice x23.a x23.l x23.c)]), (.int .u32 x24)] w14 fun v25 w15 =>
 ∃ x26 : (Int × Sl × Unit), ∃ x27 : Int, v25 = (.tuple #[(.agg #[(.int .u16 x26.1), (.slice x26.2.1.a x26.2.1.l x26.2.1.c)]), (.int .i64 x27)]) ∧
 Nw (w15.alloc (.cells #[(.int .u16 (0 : Int)), (.slice none 0 0)] 163)) fun w16 =>
 Wr w16 (blk w15.heap.size) ∧
 Nw (w16.setCell (blk w15.heap.size) (.int .u16 x26.1)) fun w17 =>
 Wr w17 ((blk w15.heap.size).add 1) ∧
 Nw (w17.setCell ((blk w15.heap.size).add 1) (.slice x26.2.1.a x26.2.1.l x26.2.1.c)) fun w18 =>
 ldS w18 ((blk w15.heap.size).add 1) fun x28 =>
 ifB (x27 != (0 : Int))
 (Wr w18 (blk w1.heap.size) ∧
 Nw (w18.setCell (blk w1.heap.size) (.int .i64 x27)) fun w19 =>
 Wr w19 ((blk w1.heap.size).add 1) ∧
 Nw (w19.setCell ((blk w1.heap.size).add 1) (.int .i64 s13.2.2.1)) fun w20 =>
 ldI w20 ((blk w1.heap.size).add 0) .i64 fun x29 =>
 ldI w20 ((blk w1.heap.size).add 1) .i64 fun x30 =>
 R (.tuple #[(.slice none 0 0), (.agg #[(.int .i64 x29), (.int .i64 x30)])]) w20)
 (ifB (decide ((IntKind.i64.wrap (s13.1 - (IntKind.i64.wrap ((1 : Int) + (x28.l : Int))))) < (0 : Int)))
 (Wr w18 (blk w1.heap.size) ∧
 Nw (w18.setCell (blk w1.heap.size) (.int .i64 (4 : Int))) fun w21 =>
 Wr w21 ((blk w1.heap.size).add 1) ∧
 Nw (w21.setCell ((blk w1.heap.size).add 1) (.int .i64 s13.2.2.1)) fun w22 =>
 ldI w22 ((blk w1.heap.size).add 0) .i64 fun x31 =>
 ldI w22 ((blk w1.heap.size).add 1) .i64 fun x32 =>
 R (.tuple #[(.slice none 0 0), (.agg #[(.int .i64 x31), (.int .i64 x32)])]) w22)
 (ldI w18 ((blk w15.heap.size).add 0) .u16 fun x33 =>
 ldS w18 ((blk w15.heap.size).add 1) fun x34 =>
 Nw (w18.alloc (.cells #[(.int .u16 x33), (.slice x34.a x34.l x34.c)] 163)) fun w23 =>
 appendS Try.prog 137 (.slice s13.2.1.a s13.2.1.l s13.2.1.c) (.slice (some (blk w18.heap.size)) 1 1) w23 fun r35 w24 =>
 n14 ((IntKind.i64.wrap (s13.1 - (IntKind.i64.wrap ((1 : Int) + (x28.l : Int))))), r35, (IntKind.i64.wrap (s13.2.2.1 + (1 : Int))), ()) w24)))
 (Wr w9 (blk w1.heap.size) ∧
 Nw (w9.setCell (blk w1.heap.size) (.int .i64 (0 : Int))) fun w25 =>
 Wr w25 ((blk w1.heap.size).add 1) ∧
 Nw (w25.setCell ((blk w1.heap.size).add 1) (.int .i64 (0 : Int))) fun w26 =>
 ldI w26 ((blk w1.heap.size).add 0) .i64 fun x36 =>
 ldI w26 ((blk w1.heap.size).add 1) .i64 fun x37 =>
 R (.tuple #[(.slice s13.2.1.a s13.2.1.l s13.2.1.c), (.agg #[(.int .i64 x36), (.int .i64 x37)])]) w26))
 ((IntKind.i64.wrap ((1048576 : Int) - x10)), (Sl.mk none 0 0), (0 : Int), ()) w8)
theorem code_raws_calls (p0 : (Int × Int × Sl × Unit)) (R : Value → World → Prop) (w : World) (h : L_code_raws p0 R w) : Calls Try.prog 77 #[(.agg #[(.int .u32 p0.1), (.int .u32 p0.2.1), (.slice p0.2.2.1.a p0.2.2.1.l p0.2.2.1.c)])] w (Ret R) :=
 lw_calls (fs := Try.fs) (an := a_code_raws) (args := [(.agg #[(.int .u32 p0.1), (.int .u32 p0.2.1), (.slice p0.2.2.1.a p0.2.2.1.l p0.2.2.1.c)])]) Try.fsOK Try.mixed Try.func77 (by kernel_rfl) (by kernel_rfl)
 (Eq.mpr (by kernel_rfl : lwFn Try.prog Try.fs Try.f77 a_code_raws [(.agg #[(.int .u32 p0.1), (.int .u32 p0.2.1), (.slice p0.2.2.1.a p0.2.2.1.l p0.2.2.1.c)])] w R = L_code_raws p0 R w) h)

/-- intaglio.intaglioref04.Id -/
def a_intaglioref04_Id : Ann := (.seq none .nil (.seq none (.seq none .nil (.cond (.seq none .nil .nil) .nil)) (.seq none (.seq none .nil (.cond (.seq none .nil .nil) .nil)) (.seq none .nil .nil))))
def L_intaglioref04_Id (p0 : Bool) (p1 : Int) (p2 : Int) (p3 : Int) (R : Value → World → Prop) (w : World) : Prop :=
 ifB (!(p0 == (p1 != (0 : Int))))
 (R (.int .i64 p3) w)
 (ifB p0
 (ifB (decide (p1 ≥ p2))
 (R (.int .i64 (43 : Int)) w)
 (R (.int .i64 (0 : Int)) w))
 (R (.int .i64 (0 : Int)) w))
theorem intaglioref04_Id_calls (p0 : Bool) (p1 : Int) (p2 : Int) (p3 : Int) (R : Value → World → Prop) (w : World) (h : L_intaglioref04_Id p0 p1 p2 p3 R w) : Calls Try.prog 96 #[(.bool p0), (.int .u32 p1), (.int .u32 p2), (.int .i64 p3)] w (Ret R) :=
 lw_calls (fs := Try.fs) (an := a_intaglioref04_Id) (args := [(.bool p0), (.int .u32 p1), (.int .u32 p2), (.int .i64 p3)]) Try.fsOK Try.mixed Try.func96 (by kernel_rfl) (by kernel_rfl)
 (Eq.mpr (by kernel_rfl : lwFn Try.prog Try.fs Try.f96 a_intaglioref04_Id [(.bool p0), (.int .u32 p1), (.int .u32 p2), (.int .i64 p3)] w R = L_intaglioref04_Id p0 p1 p2 p3 R w) h)

/-- intaglio.intaglioref04.Wrong -/
def a_intaglioref04_Wrong : Ann := (.seq none .nil (.seq (some ⟨[0, 2, 4], []⟩) (.seq none .nil (.cond (.seq none .nil .nil) .nil)) (.seq (some ⟨[0, 2, 4], []⟩) (.seq none .nil (.cond (.seq none .nil .nil) .nil)) (.seq (some ⟨[0, 4], []⟩) (.seq none .nil (.cond (.seq none .nil .nil) .nil)) (.seq none .nil (.seq (some ⟨[4], []⟩) (.seq none .nil (.cond (.seq none .nil .nil) .nil)) (.seq none (.seq none .nil (.one (.loop ⟨[4], [(9, (.b (.int .i64)))]⟩ (.seq none (.seq none .nil (.cond .nil .nil)) (.seq none (.one (.seq none .nil (.cond (.seq none .nil .nil) .nil))) .nil))))) (.seq none .nil .nil))))))))
def L_intaglioref04_Wrong (p0 : Int) (p1 : (Int × Int × ByteArray × Unit)) (p2 : Int) (R : Value → World → Prop) (w : World) : Prop :=
 Nw (w.alloc (.cells #[(.int .u8 p1.1), (.int .u32 p1.2.1), (.string p1.2.2.1)] 87)) fun w1 =>
 JoinW (S := Unit) (fun m1 =>
 ifB (p0 == (0 : Int))
 (R (.int .i64 (42 : Int)) w1.drew)
 (ldI w1.drew (blk w.heap.size) .u8 fun x3 =>
 callR Try.prog 120 #[(.int .u8 p0)] w1.drew fun v4 w2 =>
 ∃ x5 : Int, v4 = (.int .u8 x5) ∧
 w2.cell? (blk w.heap.size) = some (.int .u8 x3) ∧
 ifB (x3 != x5)
 (R (.int .i64 (42 : Int)) w2)
 (m1 (()) w2)))
 (fun s2 w3 =>
 JoinW (S := Unit) (fun m6 =>
 ldI w3 (blk w.heap.size) .u8 fun x8 =>
 ifB (x8 == (3 : Int))
 (ldI w3 ((blk w.heap.size).add 1) .u32 fun x9 =>
 ifB (x9 != (0 : Int))
 (R (.int .i64 (42 : Int)) w3)
 (ldI w3 (blk w.heap.size) .u8 fun x10 =>
 ifB (x10 != (3 : Int))
 (ldStr w3 ((blk w.heap.size).add 2) fun x11 =>
 ifB (!(x11.toList == (ByteArray.mk #[]).toList))
 (R (.int .i64 (42 : Int)) w3)
 (m6 (()) w3))
 (m6 (()) w3)))
 (ldI w3 (blk w.heap.size) .u8 fun x12 =>
 ifB (x12 != (3 : Int))
 (ldStr w3 ((blk w.heap.size).add 2) fun x13 =>
 ifB (!(x13.toList == (ByteArray.mk #[]).toList))
 (R (.int .i64 (42 : Int)) w3)
 (m6 (()) w3))
 (m6 (()) w3)))
 (fun s7 w4 =>
 JoinW (S := Unit) (fun m14 =>
 ldI w4 (blk w.heap.size) .u8 fun x16 =>
 ifB (x16 == (1 : Int))
 (ldI w4 ((blk w.heap.size).add 1) .u32 fun x17 =>
 callR Try.prog 121 #[(.int .u32 x17), (.int .u32 p2)] w4 fun v18 w5 =>
 ∃ x19 : Bool, v18 = (.bool x19) ∧
 ifB x19
 (R (.int .i64 (43 : Int)) w5)
 (m14 (()) w5))
 (m14 (()) w4))
 (fun s15 w6 =>
 ldI w6 ((blk w.heap.size).add 1) .u32 fun x20 =>
 callR Try.prog 122 #[(.int .u8 p0), (.int .u32 x20)] w6 fun v21 w7 =>
 ∃ x22 : ByteArray, ∃ x23 : Bool, v21 = (.tuple #[(.string x22), (.bool x23)]) ∧
 JoinW (S := Unit) (fun m24 =>
 ldI w7 (blk w.heap.size) .u8 fun x26 =>
 ifB (x26 == (4 : Int))
 (ifB (!x23)
 (R (.int .i64 (31 : Int)) w7)
 (m24 (()) w7))
 (m24 (()) w7))
 (fun s25 w8 =>
 LoopW (S := Int × Unit) (fun s27 w9 n28 =>
 ldStr w9 ((blk w.heap.size).add 2) fun x29 =>
 ifB (decide (s27.1 < (x29.size : Int)))
 (ldStr w9 ((blk w.heap.size).add 2) fun x30 =>
 (0 ≤ s27.1 ∧ s27.1 < (x30.size : Int)) ∧
 ifB ((byteI x30 s27.1) == (0 : Int))
 (R (.int .i64 (13 : Int)) w9)
 (n28 ((IntKind.i64.wrap (s27.1 + (1 : Int))), ()) w9))
 (R (.int .i64 (0 : Int)) w9))
 ((0 : Int), ()) w8))))
theorem intaglioref04_Wrong_calls (p0 : Int) (p1 : (Int × Int × ByteArray × Unit)) (p2 : Int) (R : Value → World → Prop) (w : World) (h : L_intaglioref04_Wrong p0 p1 p2 R w) : Calls Try.prog 97 #[(.int .u8 p0), (.agg #[(.int .u8 p1.1), (.int .u32 p1.2.1), (.string p1.2.2.1)]), (.int .u32 p2)] w (Ret R) :=
 lw_calls (fs := Try.fs) (an := a_intaglioref04_Wrong) (args := [(.int .u8 p0), (.agg #[(.int .u8 p1.1), (.int .u32 p1.2.1), (.string p1.2.2.1)]), (.int .u32 p2)]) Try.fsOK Try.mixed Try.func97 (by kernel_rfl) (by kernel_rfl)
 (Eq.mpr (by kernel_rfl : lwFn Try.prog Try.fs Try.f97 a_intaglioref04_Wrong [(.int .u8 p0), (.agg #[(.int .u8 p1.1), (.int .u32 p1.2.1), (.string p1.2.2.1)]), (.int .u32 p2)] w R = L_intaglioref04_Wrong p0 p1 p2 R w) h)

/-- intaglio.intaglioref04.Whole -/
def a_intaglioref04_Whole : Ann := (.seq none .nil (.seq none (.seq none .nil (.cond (.seq none .nil .nil) .nil)) (.seq none (.seq none .nil (.cond (.seq none .nil .nil) .nil)) (.seq none .nil .nil))))
def L_intaglioref04_Whole (p0 : (Int × ByteArray × Bool × Bool × ByteArray × ByteArray × Int × Int × Unit)) (p1 : Int) (R : Value → World → Prop) (w : World) : Prop :=
 Nw (w.alloc (.cells #[(.int .u16 p0.1), (.string p0.2.1), (.bool p0.2.2.1), (.bool p0.2.2.2.1), (.string p0.2.2.2.2.1), (.string p0.2.2.2.2.2.1), (.int .i64 p0.2.2.2.2.2.2.1), (.int .u8 p0.2.2.2.2.2.2.2.1)] 133)) fun w1 =>
 ldStr w1 ((blk w.heap.size).add 4) fun x1 =>
 ifB (decide (p1 < (x1.size : Int)))
 (R (.bool false) w1)
 (ldStr w1 ((blk w.heap.size).add 5) fun x2 =>
 ifB ((x2.size : Int) == (0 : Int))
 (ldStr w1 ((blk w.heap.size).add 4) fun x3 =>
 R (.bool (p1 == (x3.size : Int))) w1)
 (ldStr w1 ((blk w.heap.size).add 4) fun x4 =>
 ldStr w1 ((blk w.heap.size).add 5) fun x5 =>
 ifB (decide ((x5.size : Int) = 0))
 (False)
 (R (.bool ((Int.tmod (IntKind.i64.wrap (p1 - (x4.size : Int))) (x5.size : Int)) == (0 : Int))) w1)))
theorem intaglioref04_Whole_calls (p0 : (Int × ByteArray × Bool × Bool × ByteArray × ByteArray × Int × Int × Unit)) (p1 : Int) (R : Value → World → Prop) (w : World) (h : L_intaglioref04_Whole p0 p1 R w) : Calls Try.prog 99 #[(.agg #[(.int .u16 p0.1), (.string p0.2.1), (.bool p0.2.2.1), (.bool p0.2.2.2.1), (.string p0.2.2.2.2.1), (.string p0.2.2.2.2.2.1), (.int .i64 p0.2.2.2.2.2.2.1), (.int .u8 p0.2.2.2.2.2.2.2.1)]), (.int .i64 p1)] w (Ret R) :=
 lw_calls (fs := Try.fs) (an := a_intaglioref04_Whole) (args := [(.agg #[(.int .u16 p0.1), (.string p0.2.1), (.bool p0.2.2.1), (.bool p0.2.2.2.1), (.string p0.2.2.2.2.1), (.string p0.2.2.2.2.2.1), (.int .i64 p0.2.2.2.2.2.2.1), (.int .u8 p0.2.2.2.2.2.2.2.1)]), (.int .i64 p1)]) Try.fsOK Try.mixed Try.func99 (by kernel_rfl) (by kernel_rfl)
 (Eq.mpr (by kernel_rfl : lwFn Try.prog Try.fs Try.f99 a_intaglioref04_Whole [(.agg #[(.int .u16 p0.1), (.string p0.2.1), (.bool p0.2.2.1), (.bool p0.2.2.2.1), (.string p0.2.2.2.2.1), (.string p0.2.2.2.2.2.1), (.int .i64 p0.2.2.2.2.2.2.1), (.int .u8 p0.2.2.2.2.2.2.2.1)]), (.int .i64 p1)] w R = L_intaglioref04_Whole p0 p1 R w) h)

/-- intaglio.intaglioref01.Room -/
def a_intaglioref01_Room : Ann := (.seq none .nil (.seq none .nil .nil))
def L_intaglioref01_Room (p0 : ByteArray) (R : Value → World → Prop) (w : World) : Prop :=
 R (.int .i64 (IntKind.i64.wrap ((IntKind.i64.wrap (Int.tdiv (p0.size : Int) (4 : Int))) + (1 : Int)))) w
theorem intaglioref01_Room_calls (p0 : ByteArray) (R : Value → World → Prop) (w : World) (h : L_intaglioref01_Room p0 R w) : Calls Try.prog 101 #[(.string p0)] w (Ret R) :=
 lw_calls (fs := Try.fs) (an := a_intaglioref01_Room) (args := [(.string p0)]) Try.fsOK Try.mixed Try.func101 (by kernel_rfl) (by kernel_rfl)
 (Eq.mpr (by kernel_rfl : lwFn Try.prog Try.fs Try.f101 a_intaglioref01_Room [(.string p0)] w R = L_intaglioref01_Room p0 R w) h)

/-- intaglio.frame.Size -/
def a_frame_Size : Ann := (.seq none .nil (.seq none .nil (.seq none .nil .nil)))
def L_frame_Size (p0 : Sl) (R : Value → World → Prop) (w : World) : Prop :=
 callR Try.prog 123 #[(.slice p0.a p0.l p0.c)] w fun v1 w1 =>
 ∃ x2 : Int, ∃ x3 : (Int × Int × Unit), v1 = (.tuple #[(.int .i64 x2), (.agg #[(.int .i64 x3.1), (.int .i64 x3.2.1)])]) ∧
 Nw (w1.alloc (.cells #[(.int .i64 (0 : Int)), (.int .i64 (0 : Int))] 29)) fun w2 =>
 Wr w2 (blk w1.heap.size) ∧
 Nw (w2.setCell (blk w1.heap.size) (.int .i64 x3.1)) fun w3 =>
 Wr w3 ((blk w1.heap.size).add 1) ∧
 Nw (w3.setCell ((blk w1.heap.size).add 1) (.int .i64 x3.2.1)) fun w4 =>
 ldI w4.drew (blk w1.heap.size) .i64 fun x4 =>
 R (.tuple #[(.int .i64 x2), (.int .i64 x4)]) w4.drew
theorem frame_Size_calls (p0 : Sl) (R : Value → World → Prop) (w : World) (h : L_frame_Size p0 R w) : Calls Try.prog 102 #[(.slice p0.a p0.l p0.c)] w (Ret R) :=
 lw_calls (fs := Try.fs) (an := a_frame_Size) (args := [(.slice p0.a p0.l p0.c)]) Try.fsOK Try.mixed Try.func102 (by kernel_rfl) (by kernel_rfl)
 (Eq.mpr (by kernel_rfl : lwFn Try.prog Try.fs Try.f102 a_frame_Size [(.slice p0.a p0.l p0.c)] w R = L_frame_Size p0 R w) h)

/-- intaglio.code.Raw -/
def a_code_Raw : Ann := (.seq none .nil (.seq none .nil (.seq none (.seq none .nil (.cond (.seq none .nil .nil) .nil)) (.seq none .nil (.seq none .nil (.seq (some ⟨[2, 4, 6, 8], [(9, (.b (.int .i64)))]⟩) (.seq none .nil (.cond .nil .nil)) (.seq none .nil (.seq none (.seq none .nil (.one (.loop ⟨[2, 4, 6, 8, 10, 43, 44], [(9, (.b (.int .i64))), (45, (.b (.int .i64)))]⟩ (.seq none .nil (.seq none (.cond .nil .nil) (.seq (some ⟨[2, 4, 6, 8, 10, 43, 44, 45], [(9, (.b (.int .i64)))]⟩) (.one (.seq none .nil (.seq none .nil (.cond .nil .nil)))) .nil)))))) (.seq (some ⟨[2, 4, 8], [(9, (.b (.int .i64)))]⟩) (.seq none .nil (.cond .nil .nil)) (.seq (some ⟨[2, 4, 8], [(9, (.b (.int .i64)))]⟩) (.seq none .nil (.cond .nil .nil)) (.seq none (.seq none .nil (.cond (.seq none .nil .nil) .nil)) (.seq none .nil .nil))))))))))))
def L_code_Raw (p0 : (Int × Int × Int × Sl × Unit)) (p1 : Int) (R : Value → World → Prop) (w : World) : Prop :=
 Nw (w.alloc (.cells #[(.int .u16 p0.1), (.int .u32 p0.2.1), (.int .u32 p0.2.2.1), (.slice p0.2.2.2.1.a p0.2.2.2.1.l p0.2.2.2.1.c)] 45)) fun w1 =>
 Nw (w1.alloc (.cells #[(.int .u16 (0 : Int)), (.slice none 0 0)] 163)) fun w2 =>
 ldI w2 (blk w.heap.size) .u16 fun x1 =>
 callR Try.prog 90 #[(.int .u16 x1)] w2 fun v2 w3 =>
 ∃ x3 : (Int × ByteArray × Bool × Bool × ByteArray × ByteArray × Int × Int × Unit), ∃ x4 : Bool, v2 = (.tuple #[(.agg #[(.int .u16 x3.1), (.string x3.2.1), (.bool x3.2.2.1), (.bool x3.2.2.2.1), (.string x3.2.2.2.2.1), (.string x3.2.2.2.2.2.1), (.int .i64 x3.2.2.2.2.2.2.1), (.int .u8 x3.2.2.2.2.2.2.2.1)]), (.bool x4)]) ∧
 Nw (w3.alloc (.cells #[(.int .u16 (0 : Int)), (.string (ByteArray.mk #[])), (.bool false), (.bool false), (.string (ByteArray.mk #[])), (.string (ByteArray.mk #[])), (.int .i64 (0 : Int)), (.int .u8 (0 : Int))] 133)) fun w4 =>
 Wr w4 (blk w3.heap.size) ∧
 Nw (w4.setCell (blk w3.heap.size) (.int .u16 x3.1)) fun w5 =>
 Wr w5 ((blk w3.heap.size).add 1) ∧
 Nw (w5.setCell ((blk w3.heap.size).add 1) (.string x3.2.1)) fun w6 =>
 Wr w6 ((blk w3.heap.size).add 2) ∧
 Nw (w6.setCell ((blk w3.heap.size).add 2) (.bool x3.2.2.1)) fun w7 =>
 Wr w7 ((blk w3.heap.size).add 3) ∧
 Nw (w7.setCell ((blk w3.heap.size).add 3) (.bool x3.2.2.2.1)) fun w8 =>
 Wr w8 ((blk w3.heap.size).add 4) ∧
 Nw (w8.setCell ((blk w3.heap.size).add 4) (.string x3.2.2.2.2.1)) fun w9 =>
 Wr w9 ((blk w3.heap.size).add 5) ∧
 Nw (w9.setCell ((blk w3.heap.size).add 5) (.string x3.2.2.2.2.2.1)) fun w10 =>
 Wr w10 ((blk w3.heap.size).add 6) ∧
 Nw (w10.setCell ((blk w3.heap.size).add 6) (.int .i64 x3.2.2.2.2.2.2.1)) fun w11 =>
 Wr w11 ((blk w3.heap.size).add 7) ∧
 Nw (w11.setCell ((blk w3.heap.size).add 7) (.int .u8 x3.2.2.2.2.2.2.2.1)) fun w12 =>
 ifB (!x4)
 (Wr w12 (blk w1.heap.size) ∧
 Nw (w12.setCell (blk w1.heap.size) (.int .u16 (0 : Int))) fun w13 =>
 Wr w13 ((blk w1.heap.size).add 1) ∧
 Nw (w13.setCell ((blk w1.heap.size).add 1) (.slice none 0 0)) fun w14 =>
 ldI w14 ((blk w1.heap.size).add 0) .u16 fun x5 =>
 ldS w14 ((blk w1.heap.size).add 1) fun x6 =>
 R (.tuple #[(.agg #[(.int .u16 x5), (.slice x6.a x6.l x6.c)]), (.int .i64 (30 : Int))]) w14)
 (ldI w12 ((blk w3.heap.size).add 0) .u16 fun x7 =>
 ldStr w12 ((blk w3.heap.size).add 1) fun x8 =>
 ldB w12 ((blk w3.heap.size).add 2) fun x9 =>
 ldB w12 ((blk w3.heap.size).add 3) fun x10 =>
 ldStr w12 ((blk w3.heap.size).add 4) fun x11 =>
 ldStr w12 ((blk w3.heap.size).add 5) fun x12 =>
 ldI w12 ((blk w3.heap.size).add 6) .i64 fun x13 =>
 ldI w12 ((blk w3.heap.size).add 7) .u8 fun x14 =>
 Nw (w12.alloc (.cells #[(.int .u16 x7), (.string x8), (.bool x9), (.bool x10), (.string x11), (.string x12), (.int .i64 x13), (.int .u8 x14), (.int .u32 p1), (.slice none 0 0), (.int .i64 (0 : Int))] 189)) fun w15 =>
 ldB w15 ((blk w3.heap.size).add 2) fun x15 =>
 ldI w15 ((blk w.heap.size).add 1) .u32 fun x16 =>
 callR Try.prog 124 #[(.pointer (some (blk w12.heap.size))), (.bool x15), (.int .u32 x16), (.int .i64 (40 : Int))] w15 fun v17 w16 =>
 ∃ x18 : Int, v17 = (.int .i64 x18) ∧
 JoinW (S := Int × Unit) (fun m19 =>
 ifB (x18 == (0 : Int))
 (ldB w16 ((blk w3.heap.size).add 3) fun x21 =>
 ldI w16 ((blk w.heap.size).add 2) .u32 fun x22 =>
 callR Try.prog 124 #[(.pointer (some (blk w12.heap.size))), (.bool x21), (.int .u32 x22), (.int .i64 (41 : Int))] w16 fun v23 w17 =>
 ∃ x24 : Int, v23 = (.int .i64 x24) ∧
 m19 (x24, ()) w17)
 (m19 (x18, ()) w16))
 (fun s20 w18 =>
 ldS w18 ((blk w.heap.size).add 3) fun x25 =>
 LoopW (S := Int × Int × Unit) (fun s26 w19 n27 =>
 ifB (decide (s26.2.1 < (x25.l : Int)))
 (JoinW (S := Int × Unit) (fun m28 =>
 (0 ≤ s26.2.1 ∧ s26.2.1 < (x25.l : Int)) ∧
 derefP x25.a fun a30 =>
 ldI w19 ((a30.add ((Int.toNat s26.2.1) * 3)).add 0) .u8 fun x31 =>
 ldI w19 ((a30.add ((Int.toNat s26.2.1) * 3)).add 1) .u32 fun x32 =>
 ldStr w19 ((a30.add ((Int.toNat s26.2.1) * 3)).add 2) fun x33 =>
 Nw (w19.alloc (.cells #[(.int .u8 (0 : Int)), (.int .u32 (0 : Int)), (.string (ByteArray.mk #[]))] 87)) fun w20 =>
 Wr w20 (blk w19.heap.size) ∧
 Nw (w20.setCell (blk w19.heap.size) (.int .u8 x31)) fun w21 =>
 Wr w21 ((blk w19.heap.size).add 1) ∧
 Nw (w21.setCell ((blk w19.heap.size).add 1) (.int .u32 x32)) fun w22 =>
 Wr w22 ((blk w19.heap.size).add 2) ∧
 Nw (w22.setCell ((blk w19.heap.size).add 2) (.string x33)) fun w23 =>
 ifB (s26.1 == (0 : Int))
 (ldI w23 ((blk w19.heap.size).add 0) .u8 fun x34 =>
 ldI w23 ((blk w19.heap.size).add 1) .u32 fun x35 =>
 ldStr w23 ((blk w19.heap.size).add 2) fun x36 =>
 callR Try.prog 125 #[(.pointer (some (blk w12.heap.size))), (.int .i64 s26.2.1), (.agg #[(.int .u8 x34), (.int .u32 x35), (.string x36)])] w23 fun v37 w24 =>
 ∃ x38 : Int, v37 = (.int .i64 x38) ∧
 m28 (x38, ()) w24)
 (m28 (s26.1, ()) w23))
 (fun s29 w25 =>
 n27 (s29.1, (IntKind.i64.wrap (s26.2.1 + (1 : Int))), ()) w25))
 (JoinW (S := Int × Unit) (fun m39 =>
 ifB (s26.1 == (0 : Int))
 (ldI w19 ((blk w3.heap.size).add 0) .u16 fun x41 =>
 ldStr w19 ((blk w3.heap.size).add 1) fun x42 =>
 ldB w19 ((blk w3.heap.size).add 2) fun x43 =>
 ldB w19 ((blk w3.heap.size).add 3) fun x44 =>
 ldStr w19 ((blk w3.heap.size).add 4) fun x45 =>
 ldStr w19 ((blk w3.heap.size).add 5) fun x46 =>
 ldI w19 ((blk w3.heap.size).add 6) .i64 fun x47 =>
 ldI w19 ((blk w3.heap.size).add 7) .u8 fun x48 =>
 ldS w19 ((blk w.heap.size).add 3) fun x49 =>
 callR Try.prog 126 #[(.agg #[(.int .u16 x41), (.string x42), (.bool x43), (.bool x44), (.string x45), (.string x46), (.int .i64 x47), (.int .u8 x48)]), (.slice x49.a x49.l x49.c)] w19 fun v50 w26 =>
 ∃ x51 : Int, v50 = (.int .i64 x51) ∧
 m39 (x51, ()) w26)
 (m39 (s26.1, ()) w19))
 (fun s40 w27 =>
 JoinW (S := Int × Unit) (fun m52 =>
 ifB (s40.1 == (0 : Int))
 (ldI w27 ((blk w12.heap.size).add 10) .i64 fun x54 =>
 ifB (decide (x54 ≥ (65535 : Int)))
 (m52 ((25 : Int), ()) w27)
 (m52 (s40.1, ()) w27))
 (m52 (s40.1, ()) w27))
 (fun s53 w28 =>
 ifB (s53.1 != (0 : Int))
 (Wr w28 (blk w1.heap.size) ∧
 Nw (w28.setCell (blk w1.heap.size) (.int .u16 (0 : Int))) fun w29 =>
 Wr w29 ((blk w1.heap.size).add 1) ∧
 Nw (w29.setCell ((blk w1.heap.size).add 1) (.slice none 0 0)) fun w30 =>
 ldI w30 ((blk w1.heap.size).add 0) .u16 fun x55 =>
 ldS w30 ((blk w1.heap.size).add 1) fun x56 =>
 R (.tuple #[(.agg #[(.int .u16 x55), (.slice x56.a x56.l x56.c)]), (.int .i64 s53.1)]) w30)
 (ldI w28.drew (blk w.heap.size) .u16 fun x57 =>
 ldS w28.drew ((blk w12.heap.size).add 9) fun x58 =>
 Wr w28.drew (blk w1.heap.size) ∧
 Nw (w28.drew.setCell (blk w1.heap.size) (.int .u16 x57)) fun w31 =>
 Wr w31 ((blk w1.heap.size).add 1) ∧
 Nw (w31.setCell ((blk w1.heap.size).add 1) (.slice x58.a x58.l x58.c)) fun w32 =>
 ldI w32 ((blk w1.heap.size).add 0) .u16 fun x59 =>
 ldS w32 ((blk w1.heap.size).add 1) fun x60 =>
 R (.tuple #[(.agg #[(.int .u16 x59), (.slice x60.a x60.l x60.c)]), (.int .i64 (0 : Int))]) w32)))))
 (s20.1, (0 : Int), ()) w18))
theorem code_Raw_calls (p0 : (Int × Int × Int × Sl × Unit)) (p1 : Int) (R : Value → World → Prop) (w : World) (h : L_code_Raw p0 p1 R w) : Calls Try.prog 103 #[(.agg #[(.int .u16 p0.1), (.int .u32 p0.2.1), (.int .u32 p0.2.2.1), (.slice p0.2.2.2.1.a p0.2.2.2.1.l p0.2.2.2.1.c)]), (.int .u32 p1)] w (Ret R) :=
 lw_calls (fs := Try.fs) (an := a_code_Raw) (args := [(.agg #[(.int .u16 p0.1), (.int .u32 p0.2.1), (.int .u32 p0.2.2.1), (.slice p0.2.2.2.1.a p0.2.2.2.1.l p0.2.2.2.1.c)]), (.int .u32 p1)]) Try.fsOK Try.mixed Try.func103 (by kernel_rfl) (by kernel_rfl)
 (Eq.mpr (by kernel_rfl : lwFn Try.prog Try.fs Try.f103 a_code_Raw [(.agg #[(.int .u16 p0.1), (.int .u32 p0.2.1), (.int .u32 p0.2.2.1), (.slice p0.2.2.2.1.a p0.2.2.2.1.l p0.2.2.2.1.c)]), (.int .u32 p1)] w R = L_code_Raw p0 p1 R w) h)

/-- intaglio.intaglioref04.None -/
def a_intaglioref04_None : Ann := (.seq none .nil (.seq none .nil .nil))
def L_intaglioref04_None (p0 : Int) (p1 : Int) (R : Value → World → Prop) (w : World) : Prop :=
 ifB (p0 == (0 : Int))
 (R (.bool true) w)
 (R (.bool (decide (p0 ≥ p1))) w)
theorem intaglioref04_None_calls (p0 : Int) (p1 : Int) (R : Value → World → Prop) (w : World) (h : L_intaglioref04_None p0 p1 R w) : Calls Try.prog 121 #[(.int .u32 p0), (.int .u32 p1)] w (Ret R) :=
 lw_calls (fs := Try.fs) (an := a_intaglioref04_None) (args := [(.int .u32 p0), (.int .u32 p1)]) Try.fsOK Try.mixed Try.func121 (by kernel_rfl) (by kernel_rfl)
 (Eq.mpr (by kernel_rfl : lwFn Try.prog Try.fs Try.f121 a_intaglioref04_None [(.int .u32 p0), (.int .u32 p1)] w R = L_intaglioref04_None p0 p1 R w) h)

/-- intaglio.frame.counted -/
def a_frame_counted : Ann := (.seq none .nil (.seq none .nil (.seq none (.seq none .nil (.one (.loop ⟨[3, 7, 8], [(4, (.b (.int .i64))), (9, (.b (.int .i64)))]⟩ (.seq none .nil (.seq none (.cond .nil .nil) (.seq none (.one (.seq none .nil (.seq none .nil (.one (.seq none .nil (.cond (.seq none .nil .nil) (.seq none .nil (.cond (.seq none .nil .nil) .nil)))))))) .nil)))))) (.seq none .nil .nil))))
def L_frame_counted (p0 : Sl) (R : Value → World → Prop) (w : World) : Prop :=
 Nw (w.alloc (.cells #[(.int .i64 (0 : Int)), (.int .i64 (0 : Int))] 29)) fun w1 =>
 LoopW (S := Int × Int × Unit) (fun s1 w2 n2 =>
 ifB (decide (s1.2.1 < (p0.l : Int)))
 ((0 ≤ s1.2.1 ∧ s1.2.1 < (p0.l : Int)) ∧
 derefP p0.a fun a3 =>
 ldI w2 ((a3.add ((Int.toNat s1.2.1) * 2)).add 0) .u16 fun x4 =>
 ldS w2 ((a3.add ((Int.toNat s1.2.1) * 2)).add 1) fun x5 =>
 Nw (w2.alloc (.cells #[(.int .u16 (0 : Int)), (.slice none 0 0)] 163)) fun w3 =>
 Wr w3 (blk w2.heap.size) ∧
 Nw (w3.setCell (blk w2.heap.size) (.int .u16 x4)) fun w4 =>
 Wr w4 ((blk w2.heap.size).add 1) ∧
 Nw (w4.setCell ((blk w2.heap.size).add 1) (.slice x5.a x5.l x5.c)) fun w5 =>
 ldS w5 ((blk w2.heap.size).add 1) fun x6 =>
 ldS w5 ((blk w2.heap.size).add 1) fun x7 =>
 ifB (decide ((x7.l : Int) ≥ (65535 : Int)))
 (Wr w5 (blk w.heap.size) ∧
 Nw (w5.setCell (blk w.heap.size) (.int .i64 (25 : Int))) fun w6 =>
 Wr w6 ((blk w.heap.size).add 1) ∧
 Nw (w6.setCell ((blk w.heap.size).add 1) (.int .i64 s1.2.1)) fun w7 =>
 ldI w7 ((blk w.heap.size).add 0) .i64 fun x8 =>
 ldI w7 ((blk w.heap.size).add 1) .i64 fun x9 =>
 R (.tuple #[(.int .i64 (0 : Int)), (.agg #[(.int .i64 x8), (.int .i64 x9)])]) w7)
 (ifB (decide ((IntKind.i64.wrap (s1.1 + (IntKind.i64.wrap ((1 : Int) + (x6.l : Int))))) > (1048576 : Int)))
 (Wr w5 (blk w.heap.size) ∧
 Nw (w5.setCell (blk w.heap.size) (.int .i64 (4 : Int))) fun w8 =>
 Wr w8 ((blk w.heap.size).add 1) ∧
 Nw (w8.setCell ((blk w.heap.size).add 1) (.int .i64 s1.2.1)) fun w9 =>
 ldI w9 ((blk w.heap.size).add 0) .i64 fun x10 =>
 ldI w9 ((blk w.heap.size).add 1) .i64 fun x11 =>
 R (.tuple #[(.int .i64 (0 : Int)), (.agg #[(.int .i64 x10), (.int .i64 x11)])]) w9)
 (n2 ((IntKind.i64.wrap (s1.1 + (IntKind.i64.wrap ((1 : Int) + (x6.l : Int))))), (IntKind.i64.wrap (s1.2.1 + (1 : Int))), ()) w5)))
 (Wr w2 (blk w.heap.size) ∧
 Nw (w2.setCell (blk w.heap.size) (.int .i64 (0 : Int))) fun w10 =>
 Wr w10 ((blk w.heap.size).add 1) ∧
 Nw (w10.setCell ((blk w.heap.size).add 1) (.int .i64 (0 : Int))) fun w11 =>
 ldI w11 ((blk w.heap.size).add 0) .i64 fun x12 =>
 ldI w11 ((blk w.heap.size).add 1) .i64 fun x13 =>
 R (.tuple #[(.int .i64 s1.1), (.agg #[(.int .i64 x12), (.int .i64 x13)])]) w11))
 ((5 : Int), (0 : Int), ()) w1
theorem frame_counted_calls (p0 : Sl) (R : Value → World → Prop) (w : World) (h : L_frame_counted p0 R w) : Calls Try.prog 123 #[(.slice p0.a p0.l p0.c)] w (Ret R) :=
 lw_calls (fs := Try.fs) (an := a_frame_counted) (args := [(.slice p0.a p0.l p0.c)]) Try.fsOK Try.mixed Try.func123 (by kernel_rfl) (by kernel_rfl)
 (Eq.mpr (by kernel_rfl : lwFn Try.prog Try.fs Try.f123 a_frame_counted [(.slice p0.a p0.l p0.c)] w R = L_frame_counted p0 R w) h)

/-- (*intaglio.code.writer).head -/
def a_code_writer_head : Ann := (.seq none .nil (.seq none (.one (.seq none .nil (.cond (.seq none .nil .nil) (.seq none .nil (.cond (.seq none .nil .nil) .nil))))) (.seq none .nil (.seq none .nil .nil))))
def L_code_writer_head (p0 : Option Addr) (p1 : Bool) (p2 : Int) (p3 : Int) (R : Value → World → Prop) (w : World) : Prop :=
 ifB (!(p1 == (p2 != (0 : Int))))
 (R (.int .i64 p3) w)
 (ifB (!p1)
 (R (.int .i64 (0 : Int)) w)
 (callR Try.prog 145 #[(.pointer p0), (.int .u32 p2)] w fun v1 w1 =>
 v1 = (.tuple #[]) ∧
 derefP p0 fun a2 =>
 ldI w1 (a2.add 8) .u32 fun x3 =>
 callR Try.prog 146 #[(.int .u32 p2), (.int .u32 x3)] w1 fun v4 w2 =>
 ∃ x5 : Int, v4 = (.int .i64 x5) ∧
 R (.int .i64 x5) w2))
theorem code_writer_head_calls (p0 : Option Addr) (p1 : Bool) (p2 : Int) (p3 : Int) (R : Value → World → Prop) (w : World) (h : L_code_writer_head p0 p1 p2 p3 R w) : Calls Try.prog 124 #[(.pointer p0), (.bool p1), (.int .u32 p2), (.int .i64 p3)] w (Ret R) :=
 lw_calls (fs := Try.fs) (an := a_code_writer_head) (args := [(.pointer p0), (.bool p1), (.int .u32 p2), (.int .i64 p3)]) Try.fsOK Try.mixed Try.func124 (by kernel_rfl) (by kernel_rfl)
 (Eq.mpr (by kernel_rfl : lwFn Try.prog Try.fs Try.f124 a_code_writer_head [(.pointer p0), (.bool p1), (.int .u32 p2), (.int .i64 p3)] w R = L_code_writer_head p0 p1 p2 p3 R w) h)

/-- (*intaglio.code.writer).arg -/
def a_code_writer_arg : Ann := (.seq none .nil (.seq none .nil (.seq none .nil (.seq (some ⟨[0, 5, 7], []⟩) (.one (.seq none .nil (.cond (.seq none .nil .nil) (.seq none .nil (.cond (.seq none .nil .nil) .nil))))) (.seq none .nil (.seq none (.seq none .nil (.one (.seq none .nil (.cond (.seq none .nil .nil) (.seq none .nil (.cond (.seq none .nil .nil) .nil)))))) (.seq none .nil .nil)))))))
def L_code_writer_arg (p0 : Option Addr) (p1 : Int) (p2 : (Int × Int × ByteArray × Unit)) (R : Value → World → Prop) (w : World) : Prop :=
 Nw (w.alloc (.cells #[(.int .u8 p2.1), (.int .u32 p2.2.1), (.string p2.2.2.1)] 87)) fun w1 =>
 derefP p0 fun a1 =>
 ldI w1 a1 .u16 fun x2 =>
 callR Try.prog 147 #[(.int .u16 x2), (.int .i64 p1)] w1 fun v3 w2 =>
 ∃ x4 : Int, v3 = (.int .u8 x4) ∧
 ldI w2 (blk w.heap.size) .u8 fun x5 =>
 JoinW (S := Unit) (fun m6 =>
 ifB (x4 == (0 : Int))
 (R (.int .i64 (42 : Int)) w2.drew)
 (ldI w2.drew (blk w.heap.size) .u8 fun x8 =>
 callR Try.prog 91 #[(.int .u8 x4)] w2.drew fun v9 w3 =>
 ∃ x10 : Int, v9 = (.int .u8 x10) ∧
 w3.cell? (blk w.heap.size) = some (.int .u8 x8) ∧
 ifB (x8 != x10)
 (R (.int .i64 (42 : Int)) w3)
 (ifB (x5 == (3 : Int))
 (ldI w3 ((blk w.heap.size).add 1) .u32 fun x11 =>
 ifB (x11 != (0 : Int))
 (R (.int .i64 (42 : Int)) w3)
 (ifB (!(x5 == (3 : Int)))
 (ldStr w3 ((blk w.heap.size).add 2) fun x12 =>
 ifB (!(x12.toList == (ByteArray.mk #[]).toList))
 (R (.int .i64 (42 : Int)) w3)
 (ifB (x5 == (3 : Int))
 (ldStr w3 ((blk w.heap.size).add 2) fun x13 =>
 callR Try.prog 148 #[(.pointer p0), (.string x13)] w3 fun v14 w4 =>
 ∃ x15 : Int, v14 = (.int .i64 x15) ∧
 R (.int .i64 x15) w4)
 (m6 (()) w3)))
 (ifB (x5 == (3 : Int))
 (ldStr w3 ((blk w.heap.size).add 2) fun x16 =>
 callR Try.prog 148 #[(.pointer p0), (.string x16)] w3 fun v17 w5 =>
 ∃ x18 : Int, v17 = (.int .i64 x18) ∧
 R (.int .i64 x18) w5)
 (m6 (()) w3))))
 (ifB (!(x5 == (3 : Int)))
 (ldStr w3 ((blk w.heap.size).add 2) fun x19 =>
 ifB (!(x19.toList == (ByteArray.mk #[]).toList))
 (R (.int .i64 (42 : Int)) w3)
 (ifB (x5 == (3 : Int))
 (ldStr w3 ((blk w.heap.size).add 2) fun x20 =>
 callR Try.prog 148 #[(.pointer p0), (.string x20)] w3 fun v21 w6 =>
 ∃ x22 : Int, v21 = (.int .i64 x22) ∧
 R (.int .i64 x22) w6)
 (m6 (()) w3)))
 (ifB (x5 == (3 : Int))
 (ldStr w3 ((blk w.heap.size).add 2) fun x23 =>
 callR Try.prog 148 #[(.pointer p0), (.string x23)] w3 fun v24 w7 =>
 ∃ x25 : Int, v24 = (.int .i64 x25) ∧
 R (.int .i64 x25) w7)
 (m6 (()) w3))))))
 (fun s7 w8 =>
 ldI w8 ((blk w.heap.size).add 1) .u32 fun x26 =>
 callR Try.prog 145 #[(.pointer p0), (.int .u32 x26)] w8 fun v27 w9 =>
 v27 = (.tuple #[]) ∧
 ldI w9 (blk w.heap.size) .u8 fun x28 =>
 ifB (x28 == (1 : Int))
 (ldI w9.drew ((blk w.heap.size).add 1) .u32 fun x29 =>
 derefP p0 fun a30 =>
 ldI w9.drew (a30.add 8) .u32 fun x31 =>
 callR Try.prog 146 #[(.int .u32 x29), (.int .u32 x31)] w9.drew fun v32 w10 =>
 ∃ x33 : Int, v32 = (.int .i64 x33) ∧
 R (.int .i64 x33) w10)
 (ifB (x28 == (4 : Int))
 (ldI w9 ((blk w.heap.size).add 1) .u32 fun x34 =>
 callR Try.prog 149 #[(.int .u8 x4), (.int .u32 x34)] w9 fun v35 w11 =>
 ∃ x36 : Int, v35 = (.int .i64 x36) ∧
 R (.int .i64 x36) w11)
 (R (.int .i64 (0 : Int)) w9)))
theorem code_writer_arg_calls (p0 : Option Addr) (p1 : Int) (p2 : (Int × Int × ByteArray × Unit)) (R : Value → World → Prop) (w : World) (h : L_code_writer_arg p0 p1 p2 R w) : Calls Try.prog 125 #[(.pointer p0), (.int .i64 p1), (.agg #[(.int .u8 p2.1), (.int .u32 p2.2.1), (.string p2.2.2.1)])] w (Ret R) :=
 lw_calls (fs := Try.fs) (an := a_code_writer_arg) (args := [(.pointer p0), (.int .i64 p1), (.agg #[(.int .u8 p2.1), (.int .u32 p2.2.1), (.string p2.2.2.1)])]) Try.fsOK Try.mixed Try.func125 (by kernel_rfl) (by kernel_rfl)
 (Eq.mpr (by kernel_rfl : lwFn Try.prog Try.fs Try.f125 a_code_writer_arg [(.pointer p0), (.int .i64 p1), (.agg #[(.int .u8 p2.1), (.int .u32 p2.2.1), (.string p2.2.2.1)])] w R = L_code_writer_arg p0 p1 p2 R w) h)

/-- intaglio.code.whole -/
def a_code_whole : Ann := (.seq none .nil (.seq none .nil (.seq none (.seq none .nil (.one (.loop ⟨[2, 10, 11], [(5, (.b .slice)), (12, (.b (.int .i64)))]⟩ (.seq none .nil (.seq none (.cond .nil .nil) (.seq none (.one (.seq none .nil .nil)) .nil)))))) (.seq none (.seq none .nil (.seq none .nil (.cond (.seq none .nil .nil) .nil))) (.seq none .nil .nil)))))
def L_code_whole (p0 : (Int × ByteArray × Bool × Bool × ByteArray × ByteArray × Int × Int × Unit)) (p1 : Sl) (R : Value → World → Prop) (w : World) : Prop :=
 Nw (w.alloc (.cells #[(.int .u16 p0.1), (.string p0.2.1), (.bool p0.2.2.1), (.bool p0.2.2.2.1), (.string p0.2.2.2.2.1), (.string p0.2.2.2.2.2.1), (.int .i64 p0.2.2.2.2.2.2.1), (.int .u8 p0.2.2.2.2.2.2.2.1)] 133)) fun w1 =>
 LoopW (S := Sl × Int × Unit) (fun s1 w2 n2 =>
 ifB (decide (s1.2.1 < (p1.l : Int)))
 ((0 ≤ s1.2.1 ∧ s1.2.1 < (p1.l : Int)) ∧
 derefP p1.a fun a3 =>
 ldI w2 ((a3.add ((Int.toNat s1.2.1) * 3)).add 0) .u8 fun x4 =>
 ldI w2 ((a3.add ((Int.toNat s1.2.1) * 3)).add 1) .u32 fun x5 =>
 ldStr w2 ((a3.add ((Int.toNat s1.2.1) * 3)).add 2) fun x6 =>
 Nw (w2.alloc (.cells #[(.int .u8 (0 : Int)), (.int .u32 (0 : Int)), (.string (ByteArray.mk #[]))] 87)) fun w3 =>
 Wr w3 (blk w2.heap.size) ∧
 Nw (w3.setCell (blk w2.heap.size) (.int .u8 x4)) fun w4 =>
 Wr w4 ((blk w2.heap.size).add 1) ∧
 Nw (w4.setCell ((blk w2.heap.size).add 1) (.int .u32 x5)) fun w5 =>
 Wr w5 ((blk w2.heap.size).add 2) ∧
 Nw (w5.setCell ((blk w2.heap.size).add 2) (.string x6)) fun w6 =>
 ldI w6 (blk w2.heap.size) .u8 fun x7 =>
 Nw (w6.alloc (.cells #[(.int .u8 x7)] 5)) fun w7 =>
 appendS Try.prog 119 (.slice s1.1.a s1.1.l s1.1.c) (.slice (some (blk w6.heap.size)) 1 1) w7 fun r8 w8 =>
 n2 (r8, (IntKind.i64.wrap (s1.2.1 + (1 : Int))), ()) w8)
 (ldI w2 (blk w.heap.size) .u16 fun x9 =>
 callR Try.prog 63 #[(.int .u16 x9), (.slice s1.1.a s1.1.l s1.1.c)] w2 fun v10 w9 =>
 ∃ x11 : Int, ∃ x12 : Bool, v10 = (.tuple #[(.int .i64 x11), (.bool x12)]) ∧
 ifB (!x12)
 (R (.int .i64 (42 : Int)) w9)
 (R (.int .i64 (0 : Int)) w9)))
 ((Sl.mk none 0 0), (0 : Int), ()) w1
theorem code_whole_calls (p0 : (Int × ByteArray × Bool × Bool × ByteArray × ByteArray × Int × Int × Unit)) (p1 : Sl) (R : Value → World → Prop) (w : World) (h : L_code_whole p0 p1 R w) : Calls Try.prog 126 #[(.agg #[(.int .u16 p0.1), (.string p0.2.1), (.bool p0.2.2.1), (.bool p0.2.2.2.1), (.string p0.2.2.2.2.1), (.string p0.2.2.2.2.2.1), (.int .i64 p0.2.2.2.2.2.2.1), (.int .u8 p0.2.2.2.2.2.2.2.1)]), (.slice p1.a p1.l p1.c)] w (Ret R) :=
 lw_calls (fs := Try.fs) (an := a_code_whole) (args := [(.agg #[(.int .u16 p0.1), (.string p0.2.1), (.bool p0.2.2.1), (.bool p0.2.2.2.1), (.string p0.2.2.2.2.1), (.string p0.2.2.2.2.2.1), (.int .i64 p0.2.2.2.2.2.2.1), (.int .u8 p0.2.2.2.2.2.2.2.1)]), (.slice p1.a p1.l p1.c)]) Try.fsOK Try.mixed Try.func126 (by kernel_rfl) (by kernel_rfl)
 (Eq.mpr (by kernel_rfl : lwFn Try.prog Try.fs Try.f126 a_code_whole [(.agg #[(.int .u16 p0.1), (.string p0.2.1), (.bool p0.2.2.1), (.bool p0.2.2.2.1), (.string p0.2.2.2.2.1), (.string p0.2.2.2.2.2.1), (.int .i64 p0.2.2.2.2.2.2.1), (.int .u8 p0.2.2.2.2.2.2.2.1)]), (.slice p1.a p1.l p1.c)] w R = L_code_whole p0 p1 R w) h)

/-- (*intaglio.code.writer).put -/
def a_code_writer_put : Ann := (.seq none .nil .nil)
def L_code_writer_put (p0 : Option Addr) (p1 : Int) (R : Value → World → Prop) (w : World) : Prop :=
 derefP p0 fun a1 =>
 ldS w (a1.add 9) fun x2 =>
 Nw (w.alloc (.cells #[(.int .u32 p1)] 22)) fun w1 =>
 appendS Try.prog 36 (.slice x2.a x2.l x2.c) (.slice (some (blk w.heap.size)) 1 1) w1 fun r3 w2 =>
 derefP p0 fun a4 =>
 Wr w2 (a4.add 9) ∧
 Nw (w2.setCell (a4.add 9) (.slice r3.a r3.l r3.c)) fun w3 =>
 derefP p0 fun a5 =>
 ldI w3 (a5.add 10) .i64 fun x6 =>
 derefP p0 fun a7 =>
 Wr w3 (a7.add 10) ∧
 Nw (w3.setCell (a7.add 10) (.int .i64 (IntKind.i64.wrap (x6 + (1 : Int))))) fun w4 =>
 R (.tuple #[]) w4
theorem code_writer_put_calls (p0 : Option Addr) (p1 : Int) (R : Value → World → Prop) (w : World) (h : L_code_writer_put p0 p1 R w) : Calls Try.prog 145 #[(.pointer p0), (.int .u32 p1)] w (Ret R) :=
 lw_calls (fs := Try.fs) (an := a_code_writer_put) (args := [(.pointer p0), (.int .u32 p1)]) Try.fsOK Try.mixed Try.func145 (by kernel_rfl) (by kernel_rfl)
 (Eq.mpr (by kernel_rfl : lwFn Try.prog Try.fs Try.f145 a_code_writer_put [(.pointer p0), (.int .u32 p1)] w R = L_code_writer_put p0 p1 R w) h)

/-- intaglio.code.id -/
def a_code_id : Ann := (.seq none .nil (.seq none (.seq none .nil (.cond (.seq none .nil .nil) .nil)) (.seq none .nil .nil)))
def L_code_id (p0 : Int) (p1 : Int) (R : Value → World → Prop) (w : World) : Prop :=
 ifB (p0 == (0 : Int))
 (R (.int .i64 (43 : Int)) w)
 (ifB (decide (p0 ≥ p1))
 (R (.int .i64 (43 : Int)) w)
 (R (.int .i64 (0 : Int)) w))
theorem code_id_calls (p0 : Int) (p1 : Int) (R : Value → World → Prop) (w : World) (h : L_code_id p0 p1 R w) : Calls Try.prog 146 #[(.int .u32 p0), (.int .u32 p1)] w (Ret R) :=
 lw_calls (fs := Try.fs) (an := a_code_id) (args := [(.int .u32 p0), (.int .u32 p1)]) Try.fsOK Try.mixed Try.func146 (by kernel_rfl) (by kernel_rfl)
 (Eq.mpr (by kernel_rfl : lwFn Try.prog Try.fs Try.f146 a_code_id [(.int .u32 p0), (.int .u32 p1)] w R = L_code_id p0 p1 R w) h)

/-- (*intaglio.code.writer).text -/
def a_code_writer_text : Ann := (.seq none .nil (.seq none (.seq none .nil (.cond (.seq none .nil .nil) .nil)) (.seq none .nil (.seq none (.seq none .nil (.cond (.seq none .nil (.seq none .nil .nil)) .nil)) (.seq none .nil (.seq none .nil (.seq none .nil .nil)))))))
def L_code_writer_text (p0 : Option Addr) (p1 : ByteArray) (R : Value → World → Prop) (w : World) : Prop :=
 callR Try.prog 158 #[(.string p1), (.int .u8 (0 : Int))] w fun v1 w1 =>
 ∃ x2 : Int, v1 = (.int .i64 x2) ∧
 ifB (decide (x2 ≥ (0 : Int)))
 (R (.int .i64 (13 : Int)) w1)
 (callR Try.prog 159 #[(.string p1)] w1 fun v3 w2 =>
 ∃ x4 : Sl, ∃ x5 : Int, v3 = (.tuple #[(.slice x4.a x4.l x4.c), (.int .i64 x5)]) ∧
 ifB (x5 != (0 : Int))
 (derefP p0 fun a6 =>
 ldI w2.drew (a6.add 10) .i64 fun x7 =>
 callR Try.prog 160 #[(.string p1)] w2.drew fun v8 w3 =>
 ∃ x9 : Int, v8 = (.int .i64 x9) ∧
 w3.cell? (a6.add 10) = some (.int .i64 x7) ∧
 derefP p0 fun a10 =>
 Wr w3 (a10.add 10) ∧
 Nw (w3.setCell (a10.add 10) (.int .i64 (IntKind.i64.wrap (x7 + x9)))) fun w4 =>
 R (.int .i64 (0 : Int)) w4)
 (derefP p0 fun a11 =>
 ldS w2 (a11.add 9) fun x12 =>
 appendS Try.prog 36 (.slice x12.a x12.l x12.c) (.slice x4.a x4.l x4.c) w2 fun r13 w5 =>
 derefP p0 fun a14 =>
 Wr w5 (a14.add 9) ∧
 Nw (w5.setCell (a14.add 9) (.slice r13.a r13.l r13.c)) fun w6 =>
 derefP p0 fun a15 =>
 ldI w6 (a15.add 10) .i64 fun x16 =>
 derefP p0 fun a17 =>
 Wr w6 (a17.add 10) ∧
 Nw (w6.setCell (a17.add 10) (.int .i64 (IntKind.i64.wrap (x16 + (x4.l : Int))))) fun w7 =>
 R (.int .i64 (0 : Int)) w7))
theorem code_writer_text_calls (p0 : Option Addr) (p1 : ByteArray) (R : Value → World → Prop) (w : World) (h : L_code_writer_text p0 p1 R w) : Calls Try.prog 148 #[(.pointer p0), (.string p1)] w (Ret R) :=
 lw_calls (fs := Try.fs) (an := a_code_writer_text) (args := [(.pointer p0), (.string p1)]) Try.fsOK Try.mixed Try.func148 (by kernel_rfl) (by kernel_rfl)
 (Eq.mpr (by kernel_rfl : lwFn Try.prog Try.fs Try.f148 a_code_writer_text [(.pointer p0), (.string p1)] w R = L_code_writer_text p0 p1 R w) h)

/-- intaglio.code.named -/
def a_code_named : Ann := (.seq none .nil (.seq none (.seq none .nil (.seq none .nil (.cond (.seq none .nil .nil) .nil))) (.seq none .nil .nil)))
def L_code_named (p0 : Int) (p1 : Int) (R : Value → World → Prop) (w : World) : Prop :=
 callR Try.prog 161 #[(.int .u8 p0), (.int .u32 p1)] w fun v1 w1 =>
 ∃ x2 : ByteArray, ∃ x3 : Bool, v1 = (.tuple #[(.string x2), (.bool x3)]) ∧
 ifB (!x3)
 (R (.int .i64 (31 : Int)) w1)
 (R (.int .i64 (0 : Int)) w1)
theorem code_named_calls (p0 : Int) (p1 : Int) (R : Value → World → Prop) (w : World) (h : L_code_named p0 p1 R w) : Calls Try.prog 149 #[(.int .u8 p0), (.int .u32 p1)] w (Ret R) :=
 lw_calls (fs := Try.fs) (an := a_code_named) (args := [(.int .u8 p0), (.int .u32 p1)]) Try.fsOK Try.mixed Try.func149 (by kernel_rfl) (by kernel_rfl)
 (Eq.mpr (by kernel_rfl : lwFn Try.prog Try.fs Try.f149 a_code_named [(.int .u8 p0), (.int .u32 p1)] w R = L_code_named p0 p1 R w) h)

/-- strings.IndexByte -/
def a_strings_IndexByte : Ann := (.seq none .nil (.seq none .nil .nil))
def L_strings_IndexByte (p0 : ByteArray) (p1 : Int) (R : Value → World → Prop) (w : World) : Prop :=
 callR Try.prog 163 #[(.string p0), (.int .u8 p1)] w fun v1 w1 =>
 ∃ x2 : Int, v1 = (.int .i64 x2) ∧
 R (.int .i64 x2) w1
theorem strings_IndexByte_calls (p0 : ByteArray) (p1 : Int) (R : Value → World → Prop) (w : World) (h : L_strings_IndexByte p0 p1 R w) : Calls Try.prog 158 #[(.string p0), (.int .u8 p1)] w (Ret R) :=
 lw_calls (fs := Try.fs) (an := a_strings_IndexByte) (args := [(.string p0), (.int .u8 p1)]) Try.fsOK Try.mixed Try.func158 (by kernel_rfl) (by kernel_rfl)
 (Eq.mpr (by kernel_rfl : lwFn Try.prog Try.fs Try.f158 a_strings_IndexByte [(.string p0), (.int .u8 p1)] w R = L_strings_IndexByte p0 p1 R w) h)

/-- intaglio.words.OfText -/
def a_words_OfText : Ann := (.seq none .nil (.seq none (.seq none .nil (.one (.loop ⟨[0, 8], [(9, (.b (.int .i64)))]⟩ (.seq none .nil (.seq none (.cond .nil .nil) (.seq none (.one (.seq none .nil (.seq none .nil (.cond (.seq none .nil .nil) .nil)))) .nil)))))) (.seq none (.seq none .nil (.cond (.seq none .nil .nil) .nil)) (.seq none .nil (.seq none (.seq none .nil (.one (.loop ⟨[0, 5, 24], [(25, (.b (.int .i64)))]⟩ (.seq none .nil (.seq none (.cond .nil .nil) (.seq none (.one (.seq none .nil .nil)) .nil)))))) (.seq none .nil .nil))))))
def L_words_OfText (p0 : ByteArray) (R : Value → World → Prop) (w : World) : Prop :=
 LoopW (S := Int × Unit) (fun s1 w1 n2 =>
 ifB (decide (s1.1 < (p0.size : Int)))
 ((0 ≤ s1.1 ∧ s1.1 < (p0.size : Int)) ∧
 ifB ((byteI p0 s1.1) == (0 : Int))
 (R (.tuple #[(.slice none 0 0), (.int .i64 (13 : Int))]) w1)
 (n2 ((IntKind.i64.wrap (s1.1 + (1 : Int))), ()) w1))
 (callR Try.prog 160 #[(.string p0)] w1 fun v3 w2 =>
 ∃ x4 : Int, v3 = (.int .i64 x4) ∧
 ifB (decide (x4 > (65535 : Int)))
 (R (.tuple #[(.slice none 0 0), (.int .i64 (4 : Int))]) w2)
 (callR Try.prog 160 #[(.string p0)] w2 fun v5 w3 =>
 ∃ x6 : Int, v5 = (.int .i64 x6) ∧
 (0 ≤ x6 ∧ x6 ≤ x6 ∧ (4 : Int) * x6 ≤ 281474976710656 ∧ x6 ≤ 9223372036854775807) ∧
 Nw (w3.alloc (.cells (madeCells #[(.int .u32 (0 : Int))] ((Int.toNat x6) * 1)) 22)) fun w4 =>
 LoopW (S := Int × Unit) (fun s7 w5 n8 =>
 ifB (decide (s7.1 < (p0.size : Int)))
 ((0 ≤ (IntKind.i64.wrap (Int.tdiv s7.1 (4 : Int))) ∧ (IntKind.i64.wrap (Int.tdiv s7.1 (4 : Int))) < ((Int.toNat x6) : Int)) ∧
 ldI w5.drew ((blk w3.heap.size).add (Int.toNat (IntKind.i64.wrap (Int.tdiv s7.1 (4 : Int))))) .u32 fun x9 =>
 (0 ≤ s7.1 ∧ s7.1 < (p0.size : Int)) ∧
 ifB (decide ((IntKind.i64.wrap ((8 : Int) * (Int.tmod s7.1 (4 : Int)))) < 0))
 (False)
 ((0 ≤ (IntKind.i64.wrap (Int.tdiv s7.1 (4 : Int))) ∧ (IntKind.i64.wrap (Int.tdiv s7.1 (4 : Int))) < ((Int.toNat x6) : Int)) ∧
 Wr w5.drew ((blk w3.heap.size).add (Int.toNat (IntKind.i64.wrap (Int.tdiv s7.1 (4 : Int))))) ∧
 Nw (w5.drew.setCell ((blk w3.heap.size).add (Int.toNat (IntKind.i64.wrap (Int.tdiv s7.1 (4 : Int))))) (.int .u32 (IntKind.u32.wrap (BitVec.toNat (BitVec.ofInt (IntKind.bits .u32) x9 ||| BitVec.ofInt (IntKind.bits .u32) (IntKind.u32.wrap ((IntKind.u32.wrap (byteI p0 s7.1)) * 2 ^ (min (Int.toNat (IntKind.i64.wrap ((8 : Int) * (Int.tmod s7.1 (4 : Int))))) (IntKind.bits .u32))))) : Int)))) fun w6 =>
 n8 ((IntKind.i64.wrap (s7.1 + (1 : Int))), ()) w6))
 (R (.tuple #[(.slice (some (blk w3.heap.size)) (Int.toNat x6) (Int.toNat x6)), (.int .i64 (0 : Int))]) w5))
 ((0 : Int), ()) w4)))
 ((0 : Int), ()) w
theorem words_OfText_calls (p0 : ByteArray) (R : Value → World → Prop) (w : World) (h : L_words_OfText p0 R w) : Calls Try.prog 159 #[(.string p0)] w (Ret R) :=
 lw_calls (fs := Try.fs) (an := a_words_OfText) (args := [(.string p0)]) Try.fsOK Try.mixed Try.func159 (by kernel_rfl) (by kernel_rfl)
 (Eq.mpr (by kernel_rfl : lwFn Try.prog Try.fs Try.f159 a_words_OfText [(.string p0)] w R = L_words_OfText p0 R w) h)

/-- intaglio.words.Room -/
def a_words_Room : Ann := (.seq none .nil (.seq none .nil .nil))
def L_words_Room (p0 : ByteArray) (R : Value → World → Prop) (w : World) : Prop :=
 R (.int .i64 (IntKind.i64.wrap ((IntKind.i64.wrap (Int.tdiv (p0.size : Int) (4 : Int))) + (1 : Int)))) w
theorem words_Room_calls (p0 : ByteArray) (R : Value → World → Prop) (w : World) (h : L_words_Room p0 R w) : Calls Try.prog 160 #[(.string p0)] w (Ret R) :=
 lw_calls (fs := Try.fs) (an := a_words_Room) (args := [(.string p0)]) Try.fsOK Try.mixed Try.func160 (by kernel_rfl) (by kernel_rfl)
 (Eq.mpr (by kernel_rfl : lwFn Try.prog Try.fs Try.f160 a_words_Room [(.string p0)] w R = L_words_Room p0 R w) h)

/-- internal.stringslite.IndexByte -/
def a_internal_stringslite_IndexByte : Ann := (.seq none .nil (.seq none .nil .nil))
def L_internal_stringslite_IndexByte (p0 : ByteArray) (p1 : Int) (R : Value → World → Prop) (w : World) : Prop :=
 extR Try.prog 165 #[(.string p0), (.int .u8 p1)] w fun v1 w1 =>
 ∃ x2 : Int, v1 = (.int .i64 x2) ∧
 R (.int .i64 x2) w1
theorem internal_stringslite_IndexByte_calls (p0 : ByteArray) (p1 : Int) (R : Value → World → Prop) (w : World) (h : L_internal_stringslite_IndexByte p0 p1 R w) : Calls Try.prog 163 #[(.string p0), (.int .u8 p1)] w (Ret R) :=
 lw_calls (fs := Try.fs) (an := a_internal_stringslite_IndexByte) (args := [(.string p0), (.int .u8 p1)]) Try.fsOK Try.mixed Try.func163 (by kernel_rfl) (by kernel_rfl)
 (Eq.mpr (by kernel_rfl : lwFn Try.prog Try.fs Try.f163 a_internal_stringslite_IndexByte [(.string p0), (.int .u8 p1)] w R = L_internal_stringslite_IndexByte p0 p1 R w) h)

end Go.Proofs
