/-
 Printed by a program of the author: what each function comes to.
-/
import Derived.Test.YtpeonjpjphhenaaProg
import Derived.Test.YtpeonjpjphhenaaGkJ
import Derived.Test.YtpeonjpjphhenaaGkR
import Derived.Test.YtpeonjpjphhenaaLb
namespace Go.Proofs
open Go.Gk
set_option linter.unusedVariables false
set_option maxRecDepth 100000

/-- intaglio.layout.Cut -/
def a_layout_Cut : Ann := (.seq none .nil (.seq none .nil (.seq none (.seq none .nil (.cond (.seq none .nil .nil) .nil)) (.seq none .nil .nil))))
def L_layout_Cut (p0 : (Int × Int × Sl × Unit)) (R : Value → World → Prop) (w : World) : Prop :=
 Nw (w.alloc (.cells #[(.int .u32 p0.1), (.int .u32 p0.2.1), (.slice p0.2.2.1.a p0.2.2.1.l p0.2.2.1.c)] 25)) fun w1 =>
 Nw (w1.alloc (.cells #[(.int .i64 (0 : Int)), (.int .i64 (0 : Int))] 29)) fun w2 =>
 ldI w2 ((blk w.heap.size).add 0) .u32 fun x1 =>
 ldI w2 ((blk w.heap.size).add 1) .u32 fun x2 =>
 ldS w2 ((blk w.heap.size).add 2) fun x3 =>
 callR Try.prog 54 #[(.agg #[(.int .u32 x1), (.int .u32 x2), (.slice x3.a x3.l x3.c)])] w2 fun v4 w3 =>
 ∃ x5 : Option Addr, ∃ x6 : (Int × Int × Unit), v4 = (.tuple #[(.pointer x5), (.agg #[(.int .i64 x6.1), (.int .i64 x6.2.1)])]) ∧
 Nw (w3.alloc (.cells #[(.int .i64 (0 : Int)), (.int .i64 (0 : Int))] 29)) fun w4 =>
 Wr w4 (blk w3.heap.size) ∧
 Nw (w4.setCell (blk w3.heap.size) (.int .i64 x6.1)) fun w5 =>
 Wr w5 ((blk w3.heap.size).add 1) ∧
 Nw (w5.setCell ((blk w3.heap.size).add 1) (.int .i64 x6.2.1)) fun w6 =>
 ifB (Option.isNone x5)
 (ldI w6.drew ((blk w3.heap.size).add 0) .i64 fun x7 =>
 ldI w6.drew ((blk w3.heap.size).add 1) .i64 fun x8 =>
 Wr w6.drew (blk w1.heap.size) ∧
 Nw (w6.drew.setCell (blk w1.heap.size) (.int .i64 x7)) fun w7 =>
 Wr w7 ((blk w1.heap.size).add 1) ∧
 Nw (w7.setCell ((blk w1.heap.size).add 1) (.int .i64 x8)) fun w8 =>
 ldI w8 ((blk w1.heap.size).add 0) .i64 fun x9 =>
 ldI w8 ((blk w1.heap.size).add 1) .i64 fun x10 =>
 R (.tuple #[(.slice none 0 0), (.agg #[(.int .i64 x9), (.int .i64 x10)])]) w8)
 (derefP x5 fun a11 =>
 ldS w6.drew (a11.add 22) fun x12 =>
 ldI w6.drew ((blk w3.heap.size).add 0) .i64 fun x13 =>
 ldI w6.drew ((blk w3.heap.size).add 1) .i64 fun x14 =>
 Wr w6.drew (blk w1.heap.size) ∧
 Nw (w6.drew.setCell (blk w1.heap.size) (.int .i64 x13)) fun w9 =>
 Wr w9 ((blk w1.heap.size).add 1) ∧
 Nw (w9.setCell ((blk w1.heap.size).add 1) (.int .i64 x14)) fun w10 =>
 ldI w10 ((blk w1.heap.size).add 0) .i64 fun x15 =>
 ldI w10 ((blk w1.heap.size).add 1) .i64 fun x16 =>
 R (.tuple #[(.slice x12.a x12.l x12.c), (.agg #[(.int .i64 x15), (.int .i64 x16)])]) w10)
theorem layout_Cut_calls (p0 : (Int × Int × Sl × Unit)) (R : Value → World → Prop) (w : World) (h : L_layout_Cut p0 R w) : Calls Try.prog 25 #[(.agg #[(.int .u32 p0.1), (.int .u32 p0.2.1), (.slice p0.2.2.1.a p0.2.2.1.l p0.2.2.1.c)])] w (Ret R) :=
 lw_calls (fs := Try.fs) (an := a_layout_Cut) (args := [(.agg #[(.int .u32 p0.1), (.int .u32 p0.2.1), (.slice p0.2.2.1.a p0.2.2.1.l p0.2.2.1.c)])]) Try.fsOK Try.mixed Try.func25 (by kernel_rfl) (by kernel_rfl)
 (Eq.mpr (by kernel_rfl : lwFn Try.prog Try.fs Try.f25 a_layout_Cut [(.agg #[(.int .u32 p0.1), (.int .u32 p0.2.1), (.slice p0.2.2.1.a p0.2.2.1.l p0.2.2.1.c)])] w R = L_layout_Cut p0 R w) h)

/-- intaglio.layout.Parts -/
def a_layout_Parts : Ann := (.seq none .nil (.seq none .nil (.seq none (.seq none .nil (.cond (.seq none .nil .nil) .nil)) (.seq none .nil .nil))))
def L_layout_Parts (p0 : (Int × Int × Sl × Unit)) (R : Value → World → Prop) (w : World) : Prop :=
 Nw (w.alloc (.cells #[(.int .u32 p0.1), (.int .u32 p0.2.1), (.slice p0.2.2.1.a p0.2.2.1.l p0.2.2.1.c)] 25)) fun w1 =>
 Nw (w1.alloc (.cells (List.toArray (List.replicate 20 (.int .i64 (0 : Int)))) 74)) fun w2 =>
 Nw (w2.alloc (.cells #[(.int .i64 (0 : Int)), (.int .i64 (0 : Int))] 29)) fun w3 =>
 ldI w3 ((blk w.heap.size).add 0) .u32 fun x1 =>
 ldI w3 ((blk w.heap.size).add 1) .u32 fun x2 =>
 ldS w3 ((blk w.heap.size).add 2) fun x3 =>
 callR Try.prog 54 #[(.agg #[(.int .u32 x1), (.int .u32 x2), (.slice x3.a x3.l x3.c)])] w3 fun v4 w4 =>
 ∃ x5 : Option Addr, ∃ x6 : (Int × Int × Unit), v4 = (.tuple #[(.pointer x5), (.agg #[(.int .i64 x6.1), (.int .i64 x6.2.1)])]) ∧
 Nw (w4.alloc (.cells #[(.int .i64 (0 : Int)), (.int .i64 (0 : Int))] 29)) fun w5 =>
 Wr w5 (blk w4.heap.size) ∧
 Nw (w5.setCell (blk w4.heap.size) (.int .i64 x6.1)) fun w6 =>
 Wr w6 ((blk w4.heap.size).add 1) ∧
 Nw (w6.setCell ((blk w4.heap.size).add 1) (.int .i64 x6.2.1)) fun w7 =>
 ifB (Option.isNone x5)
 (ldI w7.drew ((blk w4.heap.size).add 0) .i64 fun x7 =>
 ldI w7.drew ((blk w4.heap.size).add 1) .i64 fun x8 =>
 Wr w7.drew (blk w1.heap.size) ∧
 Nw (w7.drew.setCell (blk w1.heap.size) (.int .i64 (0 : Int))) fun w8 =>
 Wr w8 ((blk w1.heap.size).add 1) ∧
 Nw (w8.setCell ((blk w1.heap.size).add 1) (.int .i64 (0 : Int))) fun w9 =>
 Wr w9 ((blk w1.heap.size).add 2) ∧
 Nw (w9.setCell ((blk w1.heap.size).add 2) (.int .i64 (0 : Int))) fun w10 =>
 Wr w10 ((blk w1.heap.size).add 3) ∧
 Nw (w10.setCell ((blk w1.heap.size).add 3) (.int .i64 (0 : Int))) fun w11 =>
 Wr w11 ((blk w1.heap.size).add 4) ∧
 Nw (w11.setCell ((blk w1.heap.size).add 4) (.int .i64 (0 : Int))) fun w12 =>
 Wr w12 ((blk w1.heap.size).add 5) ∧
 Nw (w12.setCell ((blk w1.heap.size).add 5) (.int .i64 (0 : Int))) fun w13 =>
 Wr w13 ((blk w1.heap.size).add 6) ∧
 Nw (w13.setCell ((blk w1.heap.size).add 6) (.int .i64 (0 : Int))) fun w14 =>
 Wr w14 ((blk w1.heap.size).add 7) ∧
 Nw (w14.setCell ((blk w1.heap.size).add 7) (.int .i64 (0 : Int))) fun w15 =>
 Wr w15 ((blk w1.heap.size).add 8) ∧
 Nw (w15.setCell ((blk w1.heap.size).add 8) (.int .i64 (0 : Int))) fun w16 =>
 Wr w16 ((blk w1.heap.size).add 9) ∧
 Nw (w16.setCell ((blk w1.heap.size).add 9) (.int .i64 (0 : Int))) fun w17 =>
 Wr w17 ((blk w1.heap.size).add 10) ∧
 Nw (w17.setCell ((blk w1.heap.size).add 10) (.int .i64 (0 : Int))) fun w18 =>
 Wr w18 ((blk w1.heap.size).add 11) ∧
 Nw (w18.setCell ((blk w1.heap.size).add 11) (.int .i64 (0 : Int))) fun w19 =>
 Wr w19 ((blk w1.heap.size).add 12) ∧
 Nw (w19.setCell ((blk w1.heap.size).add 12) (.int .i64 (0 : Int))) fun w20 =>
 Wr w20 ((blk w1.heap.size).add 13) ∧
 Nw (w20.setCell ((blk w1.heap.size).add 13) (.int .i64 (0 : Int))) fun w21 =>
 Wr w21 ((blk w1.heap.size).add 14) ∧
 Nw (w21.setCell ((blk w1.heap.size).add 14) (.int .i64 (0 : Int))) fun w22 =>
 Wr w22 ((blk w1.heap.size).add 15) ∧
 Nw (w22.setCell ((blk w1.heap.size).add 15) (.int .i64 (0 : Int))) fun w23 =>
 Wr w23 ((blk w1.heap.size).add 16) ∧
 Nw (w23.setCell ((blk w1.heap.size).add 16) (.int .i64 (0 : Int))) fun w24 =>
 Wr w24 ((blk w1.heap.size).add 17) ∧
 Nw (w24.setCell ((blk w1.heap.size).add 17) (.int .i64 (0 : Int))) fun w25 =>
 Wr w25 ((blk w1.heap.size).add 18) ∧
 Nw (w25.setCell ((blk w1.heap.size).add 18) (.int .i64 (0 : Int))) fun w26 =>
 Wr w26 ((blk w1.heap.size).add 19) ∧
 Nw (w26.setCell ((blk w1.heap.size).add 19) (.int .i64 (0 : Int))) fun w27 =>
 w27.cell? ((blk w4.heap.size).add 0) = some (.int .i64 x7) ∧
 w27.cell? ((blk w4.heap.size).add 1) = some (.int .i64 x8) ∧
 Wr w27 (blk w2.heap.size) ∧
 Nw (w27.setCell (blk w2.heap.size) (.int .i64 x7)) fun w28 =>
 Wr w28 ((blk w2.heap.size).add 1) ∧
 Nw (w28.setCell ((blk w2.heap.size).add 1) (.int .i64 x8)) fun w29 =>
 ldI w29 ((blk w1.heap.size).add 0) .i64 fun x9 =>
 ldI w29 ((blk w1.heap.size).add 1) .i64 fun x10 =>
 ldI w29 ((blk w1.heap.size).add 2) .i64 fun x11 =>
 ldI w29 ((blk w1.heap.size).add 3) .i64 fun x12 =>
 ldI w29 ((blk w1.heap.size).add 4) .i64 fun x13 =>
 ldI w29 ((blk w1.heap.size).add 5) .i64 fun x14 =>
 ldI w29 ((blk w1.heap.size).add 6) .i64 fun x15 =>
 ldI w29 ((blk w1.heap.size).add 7) .i64 fun x16 =>
 ldI w29 ((blk w1.heap.size).add 8) .i64 fun x17 =>
 ldI w29 ((blk w1.heap.size).add 9) .i64 fun x18 =>
 ldI w29 ((blk w1.heap.size).add 10) .i64 fun x19 =>
 ldI w29 ((blk w1.heap.size).add 11) .i64 fun x20 =>
 ldI w29 ((blk w1.heap.size).add 12) .i64 fun x21 =>
 ldI w29 ((blk w1.heap.size).add 13) .i64 fun x22 =>
 ldI w29 ((blk w1.heap.size).add 14) .i64 fun x23 =>
 ldI w29 ((blk w1.heap.size).add 15) .i64 fun x24 =>
 ldI w29 ((blk w1.heap.size).add 16) .i64 fun x25 =>
 ldI w29 ((blk w1.heap.size).add 17) .i64 fun x26 =>
 ldI w29 ((blk w1.heap.size).add 18) .i64 fun x27 =>
 ldI w29 ((blk w1.heap.size).add 19) .i64 fun x28 =>
 ldI w29 ((blk w2.heap.size).add 0) .i64 fun x29 =>
 ldI w29 ((blk w2.heap.size).add 1) .i64 fun x30 =>
 R (.tuple #[(.agg #[(.int .i64 x9), (.int .i64 x10), (.int .i64 x11), (.int .i64 x12), (.int .i64 x13), (.int .i64 x14), (.int .i64 x15), (.int .i64 x16), (.int .i64 x17), (.int .i64 x18), (.int .i64 x19), (.int .i64 x20), (.int .i64 x21), (.int .i64 x22), (.int .i64 x23), (.int .i64 x24), (.int .i64 x25), (.int .i64 x26), (.int .i64 x27), (.int .i64 x28)]), (.agg #[(.int .i64 x29), (.int .i64 x30)])]) w29)
 (derefP x5 fun a31 =>
 ldI w7.drew ((a31.add 2).add 0) .i64 fun x32 =>
 ldI w7.drew ((a31.add 2).add 1) .i64 fun x33 =>
 ldI w7.drew ((a31.add 2).add 2) .i64 fun x34 =>
 ldI w7.drew ((a31.add 2).add 3) .i64 fun x35 =>
 ldI w7.drew ((a31.add 2).add 4) .i64 fun x36 =>
 ldI w7.drew ((a31.add 2).add 5) .i64 fun x37 =>
 ldI w7.drew ((a31.add 2).add 6) .i64 fun x38 =>
 ldI w7.drew ((a31.add 2).add 7) .i64 fun x39 =>
 ldI w7.drew ((a31.add 2).add 8) .i64 fun x40 =>
 ldI w7.drew ((a31.add 2).add 9) .i64 fun x41 =>
 ldI w7.drew ((a31.add 2).add 10) .i64 fun x42 =>
 ldI w7.drew ((a31.add 2).add 11) .i64 fun x43 =>
 ldI w7.drew ((a31.add 2).add 12) .i64 fun x44 =>
 ldI w7.drew ((a31.add 2).add 13) .i64 fun x45 =>
 ldI w7.drew ((a31.add 2).add 14) .i64 fun x46 =>
 ldI w7.drew ((a31.add 2).add 15) .i64 fun x47 =>
 ldI w7.drew ((a31.add 2).add 16) .i64 fun x48 =>
 ldI w7.drew ((a31.add 2).add 17) .i64 fun x49 =>
 ldI w7.drew ((a31.add 2).add 18) .i64 fun x50 =>
 ldI w7.drew ((a31.add 2).add 19) .i64 fun x51 =>
 ldI w7.drew ((blk w4.heap.size).add 0) .i64 fun x52 =>
 ldI w7.drew ((blk w4.heap.size).add 1) .i64 fun x53 =>
 Wr w7.drew (blk w1.heap.size) ∧
 Nw (w7.drew.setCell (blk w1.heap.size) (.int .i64 x32)) fun w30 =>
 Wr w30 ((blk w1.heap.size).add 1) ∧
 Nw (w30.setCell ((blk w1.heap.size).add 1) (.int .i64 x33)) fun w31 =>
 Wr w31 ((blk w1.heap.size).add 2) ∧
 Nw (w31.setCell ((blk w1.heap.size).add 2) (.int .i64 x34)) fun w32 =>
 Wr w32 ((blk w1.heap.size).add 3) ∧
 Nw (w32.setCell ((blk w1.heap.size).add 3) (.int .i64 x35)) fun w33 =>
 Wr w33 ((blk w1.heap.size).add 4) ∧
 Nw (w33.setCell ((blk w1.heap.size).add 4) (.int .i64 x36)) fun w34 =>
 Wr w34 ((blk w1.heap.size).add 5) ∧
 Nw (w34.setCell ((blk w1.heap.size).add 5) (.int .i64 x37)) fun w35 =>
 Wr w35 ((blk w1.heap.size).add 6) ∧
 Nw (w35.setCell ((blk w1.heap.size).add 6) (.int .i64 x38)) fun w36 =>
 Wr w36 ((blk w1.heap.size).add 7) ∧
 Nw (w36.setCell ((blk w1.heap.size).add 7) (.int .i64 x39)) fun w37 =>
 Wr w37 ((blk w1.heap.size).add 8) ∧
 Nw (w37.setCell ((blk w1.heap.size).add 8) (.int .i64 x40)) fun w38 =>
 Wr w38 ((blk w1.heap.size).add 9) ∧
 Nw (w38.setCell ((blk w1.heap.size).add 9) (.int .i64 x41)) fun w39 =>
 Wr w39 ((blk w1.heap.size).add 10) ∧
 Nw (w39.setCell ((blk w1.heap.size).add 10) (.int .i64 x42)) fun w40 =>
 Wr w40 ((blk w1.heap.size).add 11) ∧
 Nw (w40.setCell ((blk w1.heap.size).add 11) (.int .i64 x43)) fun w41 =>
 Wr w41 ((blk w1.heap.size).add 12) ∧
 Nw (w41.setCell ((blk w1.heap.size).add 12) (.int .i64 x44)) fun w42 =>
 Wr w42 ((blk w1.heap.size).add 13) ∧
 Nw (w42.setCell ((blk w1.heap.size).add 13) (.int .i64 x45)) fun w43 =>
 Wr w43 ((blk w1.heap.size).add 14) ∧
 Nw (w43.setCell ((blk w1.heap.size).add 14) (.int .i64 x46)) fun w44 =>
 Wr w44 ((blk w1.heap.size).add 15) ∧
 Nw (w44.setCell ((blk w1.heap.size).add 15) (.int .i64 x47)) fun w45 =>
 Wr w45 ((blk w1.heap.size).add 16) ∧
 Nw (w45.setCell ((blk w1.heap.size).add 16) (.int .i64 x48)) fun w46 =>
 Wr w46 ((blk w1.heap.size).add 17) ∧
 Nw (w46.setCell ((blk w1.heap.size).add 17) (.int .i64 x49)) fun w47 =>
 Wr w47 ((blk w1.heap.size).add 18) ∧
 Nw (w47.setCell ((blk w1.heap.size).add 18) (.int .i64 x50)) fun w48 =>
 Wr w48 ((blk w1.heap.size).add 19) ∧
 Nw (w48.setCell ((blk w1.heap.size).add 19) (.int .i64 x51)) fun w49 =>
 w49.cell? ((blk w4.heap.size).add 0) = some (.int .i64 x52) ∧
 w49.cell? ((blk w4.heap.size).add 1) = some (.int .i64 x53) ∧
 Wr w49 (blk w2.heap.size) ∧
 Nw (w49.setCell (blk w2.heap.size) (.int .i64 x52)) fun w50 =>
 Wr w50 ((blk w2.heap.size).add 1) ∧
 Nw (w50.setCell ((blk w2.heap.size).add 1) (.int .i64 x53)) fun w51 =>
 ldI w51 ((blk w1.heap.size).add 0) .i64 fun x54 =>
 ldI w51 ((blk w1.heap.size).add 1) .i64 fun x55 =>
 ldI w51 ((blk w1.heap.size).add 2) .i64 fun x56 =>
 ldI w51 ((blk w1.heap.size).add 3) .i64 fun x57 =>
 ldI w51 ((blk w1.heap.size).add 4) .i64 fun x58 =>
 ldI w51 ((blk w1.heap.size).add 5) .i64 fun x59 =>
 ldI w51 ((blk w1.heap.size).add 6) .i64 fun x60 =>
 ldI w51 ((blk w1.heap.size).add 7) .i64 fun x61 =>
 ldI w51 ((blk w1.heap.size).add 8) .i64 fun x62 =>
 ldI w51 ((blk w1.heap.size).add 9) .i64 fun x63 =>
 ldI w51 ((blk w1.heap.size).add 10) .i64 fun x64 =>
 ldI w51 ((blk w1.heap.size).add 11) .i64 fun x65 =>
 ldI w51 ((blk w1.heap.size).add 12) .i64 fun x66 =>
 ldI w51 ((blk w1.heap.size).add 13) .i64 fun x67 =>
 ldI w51 ((blk w1.heap.size).add 14) .i64 fun x68 =>
 ldI w51 ((blk w1.heap.size).add 15) .i64 fun x69 =>
 ldI w51 ((blk w1.heap.size).add 16) .i64 fun x70 =>
 ldI w51 ((blk w1.heap.size).add 17) .i64 fun x71 =>
 ldI w51 ((blk w1.heap.size).add 18) .i64 fun x72 =>
 ldI w51 ((blk w1.heap.size).add 19) .i64 fun x73 =>
 ldI w51 ((blk w2.heap.size).add 0) .i64 fun x74 =>
 ldI w51 ((blk w2.heap.size).add 1) .i64 fun x75 =>
 R (.tuple #[(.agg #[(.int .i64 x54), (.int .i64 x55), (.int .i64 x56), (.int .i64 x57), (.int .i64 x58), (.int .i64 x59), (.int .i64 x60), (.int .i64 x61), (.int .i64 x62), (.int .i64 x63), (.int .i64 x64), (.int .i64 x65), (.int .i64 x66), (.int .i64 x67), (.int .i64 x68), (.int .i64 x69), (.int .i64 x70), (.int .i64 x71), (.int .i64 x72), (.int .i64 x73)]), (.agg #[(.int .i64 x74), (.int .i64 x75)])]) w51)
theorem layout_Parts_calls (p0 : (Int × Int × Sl × Unit)) (R : Value → World → Prop) (w : World) (h : L_layout_Parts p0 R w) : Calls Try.prog 37 #[(.agg #[(.int .u32 p0.1), (.int .u32 p0.2.1), (.slice p0.2.2.1.a p0.2.2.1.l p0.2.2.1.c)])] w (Ret R) :=
 lw_calls (fs := Try.fs) (an := a_layout_Parts) (args := [(.agg #[(.int .u32 p0.1), (.int .u32 p0.2.1), (.slice p0.2.2.1.a p0.2.2.1.l p0.2.2.1.c)])]) Try.fsOK Try.mixed Try.func37 (by kernel_rfl) (by kernel_rfl)
 (Eq.mpr (by kernel_rfl : lwFn Try.prog Try.fs Try.f37 a_layout_Parts [(.agg #[(.int .u32 p0.1), (.int .u32 p0.2.1), (.slice p0.2.2.1.a p0.2.2.1.l p0.2.2.1.c)])] w R = L_layout_Parts p0 R w) h)

/-- intaglio.intaglioref05.Check -/
def a_intaglioref05_Check : Ann := (.seq none .nil (.seq none .nil (.seq none (.seq none .nil (.cond (.seq none .nil .nil) .nil)) (.seq none .nil (.seq none .nil (.seq none (.seq none .nil (.one (.loop ⟨[2, 4], [(5, (.b (.int .i64))), (6, (.b (.int .i64)))]⟩ (.seq none (.seq none .nil (.cond .nil .nil)) (.seq (some ⟨[2, 4, 6], [(5, (.b (.int .i64)))]⟩) (.one (.seq none (.seq none .nil (.cond (.seq none .nil .nil) .nil)) (.seq none .nil (.cond .nil .nil)))) .nil))))) (.seq (some ⟨[2], []⟩) (.seq none .nil (.cond (.seq none .nil .nil) .nil)) (.seq none .nil .nil))))))))
def L_intaglioref05_Check (p0 : (Int × Int × Sl × Unit)) (R : Value → World → Prop) (w : World) : Prop :=
 Nw (w.alloc (.cells #[(.int .u32 p0.1), (.int .u32 p0.2.1), (.slice p0.2.2.1.a p0.2.2.1.l p0.2.2.1.c)] 25)) fun w1 =>
 Nw (w1.alloc (.cells #[(.int .i64 (0 : Int)), (.int .i64 (0 : Int))] 29)) fun w2 =>
 ldI w2 ((blk w.heap.size).add 0) .u32 fun x1 =>
 ldI w2 ((blk w.heap.size).add 1) .u32 fun x2 =>
 ldS w2 ((blk w.heap.size).add 2) fun x3 =>
 callR Try.prog 46 #[(.agg #[(.int .u32 x1), (.int .u32 x2), (.slice x3.a x3.l x3.c)])] w2 fun v4 w3 =>
 ∃ x5 : (Int × Int × Unit), v4 = (.agg #[(.int .i64 x5.1), (.int .i64 x5.2.1)]) ∧
 Nw (w3.alloc (.cells #[(.int .i64 (0 : Int)), (.int .i64 (0 : Int))] 29)) fun w4 =>
 Wr w4 (blk w3.heap.size) ∧
 Nw (w4.setCell (blk w3.heap.size) (.int .i64 x5.1)) fun w5 =>
 Wr w5 ((blk w3.heap.size).add 1) ∧
 Nw (w5.setCell ((blk w3.heap.size).add 1) (.int .i64 x5.2.1)) fun w6 =>
 ldI w6 (blk w3.heap.size) .i64 fun x6 =>
 ifB (x6 != (0 : Int))
 (ldI w6 ((blk w3.heap.size).add 0) .i64 fun x7 =>
 ldI w6 ((blk w3.heap.size).add 1) .i64 fun x8 =>
 Wr w6 (blk w1.heap.size) ∧
 Nw (w6.setCell (blk w1.heap.size) (.int .i64 x7)) fun w7 =>
 Wr w7 ((blk w1.heap.size).add 1) ∧
 Nw (w7.setCell ((blk w1.heap.size).add 1) (.int .i64 x8)) fun w8 =>
 ldI w8 ((blk w1.heap.size).add 0) .i64 fun x9 =>
 ldI w8 ((blk w1.heap.size).add 1) .i64 fun x10 =>
 R (.agg #[(.int .i64 x9), (.int .i64 x10)]) w8)
 (ldS w6 ((blk w.heap.size).add 2) fun x11 =>
 LoopW (S := Int × Int × Unit) (fun s12 w9 n13 =>
 ifB (decide (s12.2.1 < (x11.l : Int)))
 (JoinW (S := Int × Unit) (fun m14 =>
 callR Try.prog 68 #[(.slice x11.a x11.l x11.c), (.int .i64 s12.2.1)] w9 fun v16 w10 =>
 ∃ x17 : Bool, v16 = (.bool x17) ∧
 ifB (!x17)
 (Wr w10 (blk w1.heap.size) ∧
 Nw (w10.setCell (blk w1.heap.size) (.int .i64 (50 : Int))) fun w11 =>
 Wr w11 ((blk w1.heap.size).add 1) ∧
 Nw (w11.setCell ((blk w1.heap.size).add 1) (.int .i64 s12.2.1)) fun w12 =>
 ldI w12 ((blk w1.heap.size).add 0) .i64 fun x18 =>
 ldI w12 ((blk w1.heap.size).add 1) .i64 fun x19 =>
 R (.agg #[(.int .i64 x18), (.int .i64 x19)]) w12)
 ((0 ≤ s12.2.1 ∧ s12.2.1 < (x11.l : Int)) ∧
 derefP x11.a fun a20 =>
 ldI w10 ((a20.add ((Int.toNat s12.2.1) * 4)).add 0) .u16 fun x21 =>
 ldI w10 ((a20.add ((Int.toNat s12.2.1) * 4)).add 1) .u32 fun x22 =>
 ldI w10 ((a20.add ((Int.toNat s12.2.1) * 4)).add 2) .u32 fun x23 =>
 ldS w10 ((a20.add ((Int.toNat s12.2.1) * 4)).add 3) fun x24 =>
 callR Try.prog 69 #[(.agg #[(.int .u16 x21), (.int .u32 x22), (.int .u32 x23), (.slice x24.a x24.l x24.c)])] w10 fun v25 w13 =>
 ∃ x26 : Int, v25 = (.int .i64 x26) ∧
 ifB (x26 == (1 : Int))
 (m14 ((IntKind.i64.wrap (s12.1 + (1 : Int))), ()) w13)
 (m14 (s12.1, ()) w13)))
 (fun s15 w14 =>
 n13 (s15.1, (IntKind.i64.wrap (s12.2.1 + (1 : Int))), ()) w14))
 (JoinW (S := Unit) (fun m27 =>
 ifB (s12.1 == (0 : Int))
 (Wr w9 (blk w1.heap.size) ∧
 Nw (w9.setCell (blk w1.heap.size) (.int .i64 (51 : Int))) fun w15 =>
 Wr w15 ((blk w1.heap.size).add 1) ∧
 Nw (w15.setCell ((blk w1.heap.size).add 1) (.int .i64 (x11.l : Int))) fun w16 =>
 ldI w16 ((blk w1.heap.size).add 0) .i64 fun x29 =>
 ldI w16 ((blk w1.heap.size).add 1) .i64 fun x30 =>
 R (.agg #[(.int .i64 x29), (.int .i64 x30)]) w16)
 ((0 ≤ (IntKind.i64.wrap ((x11.l : Int) - (1 : Int))) ∧ (IntKind.i64.wrap ((x11.l : Int) - (1 : Int))) < (x11.l : Int)) ∧
 derefP x11.a fun a31 =>
 ldI w9 ((a31.add ((Int.toNat (IntKind.i64.wrap ((x11.l : Int) - (1 : Int)))) * 4)).add 0) .u16 fun x32 =>
 ldI w9 ((a31.add ((Int.toNat (IntKind.i64.wrap ((x11.l : Int) - (1 : Int)))) * 4)).add 1) .u32 fun x33 =>
 ldI w9 ((a31.add ((Int.toNat (IntKind.i64.wrap ((x11.l : Int) - (1 : Int)))) * 4)).add 2) .u32 fun x34 =>
 ldS w9 ((a31.add ((Int.toNat (IntKind.i64.wrap ((x11.l : Int) - (1 : Int)))) * 4)).add 3) fun x35 =>
 callR Try.prog 69 #[(.agg #[(.int .u16 x32), (.int .u32 x33), (.int .u32 x34), (.slice x35.a x35.l x35.c)])] w9 fun v36 w17 =>
 ∃ x37 : Int, v36 = (.int .i64 x37) ∧
 ifB (x37 == (8 : Int))
 ((0 ≤ (IntKind.i64.wrap ((x11.l : Int) - (1 : Int))) ∧ (IntKind.i64.wrap ((x11.l : Int) - (1 : Int))) < (x11.l : Int)) ∧
 derefP x11.a fun a38 =>
 ldI w17 (a38.add ((Int.toNat (IntKind.i64.wrap ((x11.l : Int) - (1 : Int)))) * 4)) .u16 fun x39 =>
 ifB (x39 != (56 : Int))
 (Wr w17 (blk w1.heap.size) ∧
 Nw (w17.setCell (blk w1.heap.size) (.int .i64 (51 : Int))) fun w18 =>
 Wr w18 ((blk w1.heap.size).add 1) ∧
 Nw (w18.setCell ((blk w1.heap.size).add 1) (.int .i64 (x11.l : Int))) fun w19 =>
 ldI w19 ((blk w1.heap.size).add 0) .i64 fun x40 =>
 ldI w19 ((blk w1.heap.size).add 1) .i64 fun x41 =>
 R (.agg #[(.int .i64 x40), (.int .i64 x41)]) w19)
 (m27 (()) w17))
 (m27 (()) w17)))
 (fun s28 w20 =>
 Wr w20 (blk w1.heap.size) ∧
 Nw (w20.setCell (blk w1.heap.size) (.int .i64 (0 : Int))) fun w21 =>
 Wr w21 ((blk w1.heap.size).add 1) ∧
 Nw (w21.setCell ((blk w1.heap.size).add 1) (.int .i64 (0 : Int))) fun w22 =>
 ldI w22 ((blk w1.heap.size).add 0) .i64 fun x42 =>
 ldI w22 ((blk w1.heap.size).add 1) .i64 fun x43 =>
 R (.agg #[(.int .i64 x42), (.int .i64 x43)]) w22)))
 ((0 : Int), (0 : Int), ()) w6)
theorem intaglioref05_Check_calls (p0 : (Int × Int × Sl × Unit)) (R : Value → World → Prop) (w : World) (h : L_intaglioref05_Check p0 R w) : Calls Try.prog 40 #[(.agg #[(.int .u32 p0.1), (.int .u32 p0.2.1), (.slice p0.2.2.1.a p0.2.2.1.l p0.2.2.1.c)])] w (Ret R) :=
 lw_calls (fs := Try.fs) (an := a_intaglioref05_Check) (args := [(.agg #[(.int .u32 p0.1), (.int .u32 p0.2.1), (.slice p0.2.2.1.a p0.2.2.1.l p0.2.2.1.c)])]) Try.fsOK Try.mixed Try.func40 (by kernel_rfl) (by kernel_rfl)
 (Eq.mpr (by kernel_rfl : lwFn Try.prog Try.fs Try.f40 a_intaglioref05_Check [(.agg #[(.int .u32 p0.1), (.int .u32 p0.2.1), (.slice p0.2.2.1.a p0.2.2.1.l p0.2.2.1.c)])] w R = L_intaglioref05_Check p0 R w) h)

/-- intaglio.layout.read -/
def a_layout_read : Ann := (.seq none .nil (.seq none (.seq none .nil (.seq none .nil (.cond (.seq none .nil .nil) .nil))) (.seq none .nil (.seq none (.one (.seq none .nil (.cond (.seq none .nil .nil) (.seq none .nil (.cond (.seq none .nil .nil) .nil))))) (.seq none .nil .nil)))))
def L_layout_read (p0 : (Int × Int × Sl × Unit)) (R : Value → World → Prop) (w : World) : Prop :=
 Nw (w.alloc (.cells #[(.int .u32 p0.1), (.int .u32 p0.2.1), (.slice p0.2.2.1.a p0.2.2.1.l p0.2.2.1.c)] 25)) fun w1 =>
 Nw (w1.alloc (.cells #[(.int .i64 (0 : Int)), (.int .i64 (0 : Int))] 29)) fun w2 =>
 ldI w2 ((blk w.heap.size).add 0) .u32 fun x1 =>
 ldI w2 ((blk w.heap.size).add 1) .u32 fun x2 =>
 ldS w2 ((blk w.heap.size).add 2) fun x3 =>
 callR Try.prog 48 #[(.agg #[(.int .u32 x1), (.int .u32 x2), (.slice x3.a x3.l x3.c)])] w2 fun v4 w3 =>
 ∃ x5 : (Int × Int × Unit), v4 = (.agg #[(.int .i64 x5.1), (.int .i64 x5.2.1)]) ∧
 Nw (w3.alloc (.cells #[(.int .i64 (0 : Int)), (.int .i64 (0 : Int))] 29)) fun w4 =>
 Wr w4 (blk w3.heap.size) ∧
 Nw (w4.setCell (blk w3.heap.size) (.int .i64 x5.1)) fun w5 =>
 Wr w5 ((blk w3.heap.size).add 1) ∧
 Nw (w5.setCell ((blk w3.heap.size).add 1) (.int .i64 x5.2.1)) fun w6 =>
 ldI w6 (blk w3.heap.size) .i64 fun x6 =>
 ifB (x6 != (0 : Int))
 (ldI w6.drew ((blk w3.heap.size).add 0) .i64 fun x7 =>
 ldI w6.drew ((blk w3.heap.size).add 1) .i64 fun x8 =>
 Wr w6.drew (blk w1.heap.size) ∧
 Nw (w6.drew.setCell (blk w1.heap.size) (.int .i64 x7)) fun w7 =>
 Wr w7 ((blk w1.heap.size).add 1) ∧
 Nw (w7.setCell ((blk w1.heap.size).add 1) (.int .i64 x8)) fun w8 =>
 ldI w8 ((blk w1.heap.size).add 0) .i64 fun x9 =>
 ldI w8 ((blk w1.heap.size).add 1) .i64 fun x10 =>
 R (.tuple #[(.pointer none), (.agg #[(.int .i64 x9), (.int .i64 x10)])]) w8)
 (ldS w6 ((blk w.heap.size).add 2) fun x11 =>
 Nw (w6.alloc (.cells (List.toArray ([(.slice x11.a x11.l x11.c)] ++ List.replicate 21 (.int .i64 (0 : Int)) ++ [(.slice none 0 0)])) 100)) fun w9 =>
 callR Try.prog 83 #[(.pointer (some (blk w6.heap.size)))] w9 fun v12 w10 =>
 ∃ x13 : Bool, v12 = (.bool x13) ∧
 ifB x13
 (Wr w10 (blk w1.heap.size) ∧
 Nw (w10.setCell (blk w1.heap.size) (.int .i64 (0 : Int))) fun w11 =>
 Wr w11 ((blk w1.heap.size).add 1) ∧
 Nw (w11.setCell ((blk w1.heap.size).add 1) (.int .i64 (0 : Int))) fun w12 =>
 ldI w12 ((blk w1.heap.size).add 0) .i64 fun x14 =>
 ldI w12 ((blk w1.heap.size).add 1) .i64 fun x15 =>
 R (.tuple #[(.pointer (some (blk w6.heap.size))), (.agg #[(.int .i64 x14), (.int .i64 x15)])]) w12)
 (ldI w10.drew ((blk w6.heap.size).add 1) .i64 fun x16 =>
 ldS w10.drew ((blk w.heap.size).add 2) fun x17 =>
 ifB (decide (x16 < (x17.l : Int)))
 (ldI w10.drew.drew ((blk w6.heap.size).add 1) .i64 fun x18 =>
 Wr w10.drew.drew (blk w1.heap.size) ∧
 Nw (w10.drew.drew.setCell (blk w1.heap.size) (.int .i64 (50 : Int))) fun w13 =>
 Wr w13 ((blk w1.heap.size).add 1) ∧
 Nw (w13.setCell ((blk w1.heap.size).add 1) (.int .i64 x18)) fun w14 =>
 ldI w14 ((blk w1.heap.size).add 0) .i64 fun x19 =>
 ldI w14 ((blk w1.heap.size).add 1) .i64 fun x20 =>
 R (.tuple #[(.pointer none), (.agg #[(.int .i64 x19), (.int .i64 x20)])]) w14)
 (ldI w10.drew.drew ((blk w6.heap.size).add 1) .i64 fun x21 =>
 Wr w10.drew.drew (blk w1.heap.size) ∧
 Nw (w10.drew.drew.setCell (blk w1.heap.size) (.int .i64 (51 : Int))) fun w15 =>
 Wr w15 ((blk w1.heap.size).add 1) ∧
 Nw (w15.setCell ((blk w1.heap.size).add 1) (.int .i64 x21)) fun w16 =>
 ldI w16 ((blk w1.heap.size).add 0) .i64 fun x22 =>
 ldI w16 ((blk w1.heap.size).add 1) .i64 fun x23 =>
 R (.tuple #[(.pointer none), (.agg #[(.int .i64 x22), (.int .i64 x23)])]) w16)))
theorem layout_read_calls (p0 : (Int × Int × Sl × Unit)) (R : Value → World → Prop) (w : World) (h : L_layout_read p0 R w) : Calls Try.prog 54 #[(.agg #[(.int .u32 p0.1), (.int .u32 p0.2.1), (.slice p0.2.2.1.a p0.2.2.1.l p0.2.2.1.c)])] w (Ret R) :=
 lw_calls (fs := Try.fs) (an := a_layout_read) (args := [(.agg #[(.int .u32 p0.1), (.int .u32 p0.2.1), (.slice p0.2.2.1.a p0.2.2.1.l p0.2.2.1.c)])]) Try.fsOK Try.mixed Try.func54 (by kernel_rfl) (by kernel_rfl)
 (Eq.mpr (by kernel_rfl : lwFn Try.prog Try.fs Try.f54 a_layout_read [(.agg #[(.int .u32 p0.1), (.int .u32 p0.2.1), (.slice p0.2.2.1.a p0.2.2.1.l p0.2.2.1.c)])] w R = L_layout_read p0 R w) h)

/-- intaglio.intaglioref05.May -/
def a_intaglioref05_May : Ann := (.seq none .nil (.seq none .nil (.seq none .nil (.seq none (.seq none .nil (.one (.loop ⟨[0, 1, 5], [(6, (.b (.int .i64))), (7, (.b (.int .i64)))]⟩ (.seq none (.seq none .nil (.cond .nil .nil)) (.seq (some ⟨[0, 1, 5, 7], [(6, (.b (.int .i64)))]⟩) (.one (.seq none (.seq none .nil (.cond (.seq none .nil .nil) .nil)) (.seq none .nil (.cond .nil .nil)))) .nil))))) (.seq none (.seq none .nil (.cond (.seq none .nil .nil) .nil)) (.seq (some ⟨[0, 1, 5], []⟩) (.seq none .nil (.cond (.seq none .nil .nil) .nil)) (.seq none (.seq none .nil (.cond (.seq none .nil .nil) .nil)) (.seq none .nil (.seq none .nil (.seq (some ⟨[0, 1, 8], [(9, (.b (.int .u16)))]⟩) (.seq none .nil (.cond .nil .nil)) (.seq none (.seq none .nil (.cond (.seq none .nil .nil) .nil)) (.seq none (.seq none .nil (.cond (.seq none .nil .nil) .nil)) (.seq none (.seq none .nil (.cond (.seq none .nil .nil) .nil)) (.seq none (.seq none .nil (.cond (.seq none .nil .nil) .nil)) (.seq (some ⟨[0, 1, 8, 9], []⟩) (.seq none .nil (.cond (.seq none .nil .nil) .nil)) (.seq none (.seq none .nil (.cond (.seq none .nil .nil) .nil)) (.seq none (.seq none .nil (.cond (.seq none .nil .nil) .nil)) (.seq none (.seq none .nil (.cond (.seq none .nil .nil) .nil)) (.seq none (.seq none .nil (.cond (.seq none .nil .nil) .nil)) (.seq none .nil .nil))))))))))))))))))))
def L_intaglioref05_May (p0 : Sl) (p1 : Int) (R : Value → World → Prop) (w : World) : Prop :=
 (0 ≤ p1 ∧ p1 < (p0.l : Int)) ∧
 derefP p0.a fun a1 =>
 ldI w ((a1.add ((Int.toNat p1) * 4)).add 0) .u16 fun x2 =>
 ldI w ((a1.add ((Int.toNat p1) * 4)).add 1) .u32 fun x3 =>
 ldI w ((a1.add ((Int.toNat p1) * 4)).add 2) .u32 fun x4 =>
 ldS w ((a1.add ((Int.toNat p1) * 4)).add 3) fun x5 =>
 callR Try.prog 69 #[(.agg #[(.int .u16 x2), (.int .u32 x3), (.int .u32 x4), (.slice x5.a x5.l x5.c)])] w fun v6 w1 =>
 ∃ x7 : Int, v6 = (.int .i64 x7) ∧
 LoopW (S := Int × Int × Unit) (fun s8 w2 n9 =>
 ifB (decide (s8.2.1 < p1))
 (JoinW (S := Int × Unit) (fun m10 =>
 (0 ≤ s8.2.1 ∧ s8.2.1 < (p0.l : Int)) ∧
 derefP p0.a fun a12 =>
 ldI w2 ((a12.add ((Int.toNat s8.2.1) * 4)).add 0) .u16 fun x13 =>
 ldI w2 ((a12.add ((Int.toNat s8.2.1) * 4)).add 1) .u32 fun x14 =>
 ldI w2 ((a12.add ((Int.toNat s8.2.1) * 4)).add 2) .u32 fun x15 =>
 ldS w2 ((a12.add ((Int.toNat s8.2.1) * 4)).add 3) fun x16 =>
 callR Try.prog 69 #[(.agg #[(.int .u16 x13), (.int .u32 x14), (.int .u32 x15), (.slice x16.a x16.l x16.c)])] w2 fun v17 w3 =>
 ∃ x18 : Int, v17 = (.int .i64 x18) ∧
 ifB (decide (x18 > x7))
 (R (.bool false) w3)
 ((0 ≤ s8.2.1 ∧ s8.2.1 < (p0.l : Int)) ∧
 derefP p0.a fun a19 =>
 ldI w3 ((a19.add ((Int.toNat s8.2.1) * 4)).add 0) .u16 fun x20 =>
 ldI w3 ((a19.add ((Int.toNat s8.2.1) * 4)).add 1) .u32 fun x21 =>
 ldI w3 ((a19.add ((Int.toNat s8.2.1) * 4)).add 2) .u32 fun x22 =>
 ldS w3 ((a19.add ((Int.toNat s8.2.1) * 4)).add 3) fun x23 =>
 callR Try.prog 69 #[(.agg #[(.int .u16 x20), (.int .u32 x21), (.int .u32 x22), (.slice x23.a x23.l x23.c)])] w3 fun v24 w4 =>
 ∃ x25 : Int, v24 = (.int .i64 x25) ∧
 ifB (x25 == (1 : Int))
 (m10 ((IntKind.i64.wrap (s8.1 + (1 : Int))), ()) w4)
 (m10 (s8.1, ()) w4)))
 (fun s11 w5 =>
 n9 (s11.1, (IntKind.i64.wrap (s8.2.1 + (1 : Int))), ()) w5))
 (ifB (x7 == (1 : Int))
 (R (.bool (s8.1 == (0 : Int))) w2)
 (JoinW (S := Unit) (fun m26 =>
 ifB (decide (x7 > (1 : Int)))
 (ifB (s8.1 == (0 : Int))
 (R (.bool false) w2)
 (m26 (()) w2))
 (m26 (()) w2))
 (fun s27 w6 =>
 ifB (decide (x7 < (8 : Int)))
 (R (.bool true) w6)
 ((0 ≤ p1 ∧ p1 < (p0.l : Int)) ∧
 derefP p0.a fun a28 =>
 ldI w6 (a28.add ((Int.toNat p1) * 4)) .u16 fun x29 =>
 JoinW (S := Int × Unit) (fun m30 =>
 ifB (decide (p1 > (0 : Int)))
 ((0 ≤ (IntKind.i64.wrap (p1 - (1 : Int))) ∧ (IntKind.i64.wrap (p1 - (1 : Int))) < (p0.l : Int)) ∧
 derefP p0.a fun a32 =>
 ldI w6 ((a32.add ((Int.toNat (IntKind.i64.wrap (p1 - (1 : Int)))) * 4)).add 0) .u16 fun x33 =>
 ldI w6 ((a32.add ((Int.toNat (IntKind.i64.wrap (p1 - (1 : Int)))) * 4)).add 1) .u32 fun x34 =>
 ldI w6 ((a32.add ((Int.toNat (IntKind.i64.wrap (p1 - (1 : Int)))) * 4)).add 2) .u32 fun x35 =>
 ldS w6 ((a32.add ((Int.toNat (IntKind.i64.wrap (p1 - (1 : Int)))) * 4)).add 3) fun x36 =>
 callR Try.prog 69 #[(.agg #[(.int .u16 x33), (.int .u32 x34), (.int .u32 x35), (.slice x36.a x36.l x36.c)])] w6 fun v37 w7 =>
 ∃ x38 : Int, v37 = (.int .i64 x38) ∧
 ifB (x38 == (8 : Int))
 ((0 ≤ (IntKind.i64.wrap (p1 - (1 : Int))) ∧ (IntKind.i64.wrap (p1 - (1 : Int))) < (p0.l : Int)) ∧
 derefP p0.a fun a39 =>
 ldI w7 (a39.add ((Int.toNat (IntKind.i64.wrap (p1 - (1 : Int)))) * 4)) .u16 fun x40 =>
 m30 (x40, ()) w7)
 (m30 ((0 : Int), ()) w7))
 (m30 ((0 : Int), ()) w6))
 (fun s31 w8 =>
 ifB (x29 == (54 : Int))
 (ifB (s31.1 == (0 : Int))
 (R (.bool true) w8)
 (R (.bool (s31.1 == (56 : Int))) w8))
 (ifB (x29 == (55 : Int))
 (ifB (s31.1 == (54 : Int))
 (R (.bool true) w8)
 (R (.bool (s31.1 == (55 : Int))) w8))
 (ifB (x29 == (248 : Int))
 (ifB (s31.1 == (54 : Int))
 (R (.bool true) w8)
 (ifB (s31.1 == (55 : Int))
 (R (.bool true) w8)
 (callR Try.prog 94 #[(.int .u16 s31.1)] w8 fun v41 w9 =>
 ∃ x42 : Bool, v41 = (.bool x42) ∧
 R (.bool x42) w9)))
 (ifB (x29 == (56 : Int))
 (callR Try.prog 94 #[(.int .u16 s31.1)] w8 fun v43 w10 =>
 ∃ x44 : Bool, v43 = (.bool x44) ∧
 R (.bool x44) w10)
 (JoinW (S := Unit) (fun m45 =>
 ifB (s31.1 == (0 : Int))
 (R (.bool false) w8)
 (ifB (s31.1 == (54 : Int))
 (R (.bool false) w8)
 (ifB (s31.1 == (55 : Int))
 (R (.bool false) w8)
 (ifB (s31.1 == (56 : Int))
 (R (.bool false) w8)
 (callR Try.prog 94 #[(.int .u16 s31.1)] w8 fun v47 w11 =>
 ∃ x48 : Bool, v47 = (.bool x48) ∧
 ifB x48
 (R (.bool false) w11)
 (m45 (()) w11))))))
 (fun s46 w12 =>
 ifB (x29 == (245 : Int))
 (ifB (s31.1 == (248 : Int))
 (callR Try.prog 95 #[(.slice p0.a p0.l p0.c), (.int .i64 (IntKind.i64.wrap (p1 - (1 : Int))))] w12 fun v49 w13 =>
 ∃ x50 : Bool, v49 = (.bool x50) ∧
 R (.bool (!x50)) w13)
 (ifB (s31.1 == (245 : Int))
 (callR Try.prog 95 #[(.slice p0.a p0.l p0.c), (.int .i64 (IntKind.i64.wrap (p1 - (1 : Int))))] w12 fun v51 w14 =>
 ∃ x52 : Bool, v51 = (.bool x52) ∧
 R (.bool (!x52)) w14)
 (R (.bool false) w12)))
 (ifB (x29 == (59 : Int))
 (ifB (s31.1 == (248 : Int))
 (callR Try.prog 95 #[(.slice p0.a p0.l p0.c), (.int .i64 (IntKind.i64.wrap (p1 - (1 : Int))))] w12 fun v53 w15 =>
 ∃ x54 : Bool, v53 = (.bool x54) ∧
 R (.bool x54) w15)
 (ifB (s31.1 == (59 : Int))
 (callR Try.prog 95 #[(.slice p0.a p0.l p0.c), (.int .i64 (IntKind.i64.wrap (p1 - (1 : Int))))] w12 fun v55 w16 =>
 ∃ x56 : Bool, v55 = (.bool x56) ∧
 R (.bool x56) w16)
 (R (.bool false) w12)))
 (ifB (s31.1 == (246 : Int))
 (ifB (x29 == (249 : Int))
 (R (.bool true) w12)
 (R (.bool (x29 == (250 : Int))) w12))
 (ifB (s31.1 == (247 : Int))
 (ifB (x29 == (250 : Int))
 (R (.bool true) w12)
 (R (.bool (x29 == (251 : Int))) w12))
 (R (.bool true) w12)))))))))))))))
 ((0 : Int), (0 : Int), ()) w1
theorem intaglioref05_May_calls (p0 : Sl) (p1 : Int) (R : Value → World → Prop) (w : World) (h : L_intaglioref05_May p0 p1 R w) : Calls Try.prog 68 #[(.slice p0.a p0.l p0.c), (.int .i64 p1)] w (Ret R) :=
 lw_calls (fs := Try.fs) (an := a_intaglioref05_May) (args := [(.slice p0.a p0.l p0.c), (.int .i64 p1)]) Try.fsOK Try.mixed Try.func68 (by kernel_rfl) (by kernel_rfl)
 (Eq.mpr (by kernel_rfl : lwFn Try.prog Try.fs Try.f68 a_intaglioref05_May [(.slice p0.a p0.l p0.c), (.int .i64 p1)] w R = L_intaglioref05_May p0 p1 R w) h)

/-- intaglio.intaglioref05.Part -/
def a_intaglioref05_Part : Ann := (.seq none .nil (.seq (some ⟨[1], []⟩) (.seq none .nil (.cond (.seq none .nil .nil) .nil)) (.seq none .nil (.seq none .nil .nil))))
def L_intaglioref05_Part (p0 : (Int × Int × Int × Sl × Unit)) (R : Value → World → Prop) (w : World) : Prop :=
 Nw (w.alloc (.cells #[(.int .u16 p0.1), (.int .u32 p0.2.1), (.int .u32 p0.2.2.1), (.slice p0.2.2.2.1.a p0.2.2.2.1.l p0.2.2.2.1.c)] 45)) fun w1 =>
 JoinW (S := Unit) (fun m1 =>
 ldI w1 (blk w.heap.size) .u16 fun x3 =>
 ifB (x3 == (59 : Int))
 (ldS w1 ((blk w.heap.size).add 3) fun x4 =>
 ifB (decide ((x4.l : Int) > (0 : Int)))
 (ldS w1 ((blk w.heap.size).add 3) fun x5 =>
 (0 ≤ (0 : Int) ∧ (0 : Int) < (x5.l : Int)) ∧
 derefP x5.a fun a6 =>
 ldI w1 ((a6.add (0 * 3)).add 1) .u32 fun x7 =>
 ifB (x7 == (7 : Int))
 (R (.int .i64 (8 : Int)) w1)
 (m1 (()) w1))
 (m1 (()) w1))
 (m1 (()) w1))
 (fun s2 w2 =>
 ldI w2 (blk w.heap.size) .u16 fun x8 =>
 callR Try.prog 75 #[(.int .u16 x8)] w2 fun v9 w3 =>
 ∃ x10 : (Int × ByteArray × Bool × Bool × ByteArray × ByteArray × Int × Int × Unit), ∃ x11 : Bool, v9 = (.tuple #[(.agg #[(.int .u16 x10.1), (.string x10.2.1), (.bool x10.2.2.1), (.bool x10.2.2.2.1), (.string x10.2.2.2.2.1), (.string x10.2.2.2.2.2.1), (.int .i64 x10.2.2.2.2.2.2.1), (.int .u8 x10.2.2.2.2.2.2.2.1)]), (.bool x11)]) ∧
 Nw (w3.alloc (.cells #[(.int .u16 (0 : Int)), (.string (ByteArray.mk #[])), (.bool false), (.bool false), (.string (ByteArray.mk #[])), (.string (ByteArray.mk #[])), (.int .i64 (0 : Int)), (.int .u8 (0 : Int))] 133)) fun w4 =>
 Wr w4 (blk w3.heap.size) ∧
 Nw (w4.setCell (blk w3.heap.size) (.int .u16 x10.1)) fun w5 =>
 Wr w5 ((blk w3.heap.size).add 1) ∧
 Nw (w5.setCell ((blk w3.heap.size).add 1) (.string x10.2.1)) fun w6 =>
 Wr w6 ((blk w3.heap.size).add 2) ∧
 Nw (w6.setCell ((blk w3.heap.size).add 2) (.bool x10.2.2.1)) fun w7 =>
 Wr w7 ((blk w3.heap.size).add 3) ∧
 Nw (w7.setCell ((blk w3.heap.size).add 3) (.bool x10.2.2.2.1)) fun w8 =>
 Wr w8 ((blk w3.heap.size).add 4) ∧
 Nw (w8.setCell ((blk w3.heap.size).add 4) (.string x10.2.2.2.2.1)) fun w9 =>
 Wr w9 ((blk w3.heap.size).add 5) ∧
 Nw (w9.setCell ((blk w3.heap.size).add 5) (.string x10.2.2.2.2.2.1)) fun w10 =>
 Wr w10 ((blk w3.heap.size).add 6) ∧
 Nw (w10.setCell ((blk w3.heap.size).add 6) (.int .i64 x10.2.2.2.2.2.2.1)) fun w11 =>
 Wr w11 ((blk w3.heap.size).add 7) ∧
 Nw (w11.setCell ((blk w3.heap.size).add 7) (.int .u8 x10.2.2.2.2.2.2.2.1)) fun w12 =>
 ldI w12 ((blk w3.heap.size).add 7) .u8 fun x12 =>
 R (.int .i64 (IntKind.i64.wrap x12)) w12)
theorem intaglioref05_Part_calls (p0 : (Int × Int × Int × Sl × Unit)) (R : Value → World → Prop) (w : World) (h : L_intaglioref05_Part p0 R w) : Calls Try.prog 69 #[(.agg #[(.int .u16 p0.1), (.int .u32 p0.2.1), (.int .u32 p0.2.2.1), (.slice p0.2.2.2.1.a p0.2.2.2.1.l p0.2.2.2.1.c)])] w (Ret R) :=
 lw_calls (fs := Try.fs) (an := a_intaglioref05_Part) (args := [(.agg #[(.int .u16 p0.1), (.int .u32 p0.2.1), (.int .u32 p0.2.2.1), (.slice p0.2.2.2.1.a p0.2.2.2.1.l p0.2.2.2.1.c)])]) Try.fsOK Try.mixed Try.func69 (by kernel_rfl) (by kernel_rfl)
 (Eq.mpr (by kernel_rfl : lwFn Try.prog Try.fs Try.f69 a_intaglioref05_Part [(.agg #[(.int .u16 p0.1), (.int .u32 p0.2.1), (.int .u32 p0.2.2.1), (.slice p0.2.2.2.1.a p0.2.2.2.1.l p0.2.2.2.1.c)])] w R = L_intaglioref05_Part p0 R w) h)

/-- (*intaglio.layout.cutter).cut -/
def a_layout_cutter_cut : Ann := (.seq none .nil (.one (.seq none (.seq none .nil (.cond (.seq none .nil .nil) .nil)) (.seq none .nil (.seq none .nil (.loop ⟨[0], []⟩ (.seq none (.seq none .nil (.cond (.seq none .nil .nil) .nil)) (.seq none (.seq none .nil (.cond (.seq none .nil .nil) .nil)) (.seq none .nil (.seq none .nil (.seq none .nil (.seq none .nil (.seq none (.one (.loop ⟨[0, 3], []⟩ (.seq none (.seq none .nil (.cond .nil .nil)) (.one (.seq none (.seq none .nil (.cond (.seq none .nil .nil) .nil)) .nil))))) (.seq (some ⟨[0, 3], []⟩) (.seq none .nil (.cond (.seq none .nil .nil) .nil)) (.seq none .nil (.seq none .nil (.seq none .nil .nil)))))))))))))))))
def L_layout_cutter_cut (p0 : Option Addr) (R : Value → World → Prop) (w : World) : Prop :=
 callR Try.prog 109 #[(.pointer p0)] w fun v1 w1 =>
 ∃ x2 : Bool, v1 = (.bool x2) ∧
 ifB (!x2)
 (R (.bool false) w1)
 (derefP p0 fun a3 =>
 ldI w1.drew (a3.add 1) .i64 fun x4 =>
 derefP p0 fun a5 =>
 ldS w1.drew a5 fun x6 =>
 derefP p0 fun a7 =>
 (0 ≤ (8 : Int) ∧ (8 : Int) < (10 : Int)) ∧
 Wr w1.drew ((a7.add 2).add (8 * 2)) ∧
 Nw (w1.drew.setCell ((a7.add 2).add (8 * 2)) (.int .i64 x4)) fun w2 =>
 Wr w2 (((a7.add 2).add (8 * 2)).add 1) ∧
 Nw (w2.setCell (((a7.add 2).add (8 * 2)).add 1) (.int .i64 (x6.l : Int))) fun w3 =>
 derefP p0 fun a8 =>
 ldS w3.drew a8 fun x9 =>
 derefP p0 fun a10 =>
 ldS w3.drew a10 fun x11 =>
 derefP p0 fun a12 =>
 (0 ≤ (9 : Int) ∧ (9 : Int) < (10 : Int)) ∧
 Wr w3.drew ((a12.add 2).add (9 * 2)) ∧
 Nw (w3.drew.setCell ((a12.add 2).add (9 * 2)) (.int .i64 (x9.l : Int))) fun w4 =>
 Wr w4 (((a12.add 2).add (9 * 2)).add 1) ∧
 Nw (w4.setCell (((a12.add 2).add (9 * 2)).add 1) (.int .i64 (x11.l : Int))) fun w5 =>
 LoopW (S := Unit) (fun s13 w6 n14 =>
 callR Try.prog 110 #[(.pointer p0)] w6 fun v15 w7 =>
 ∃ x16 : Int, v15 = (.int .i64 x16) ∧
 ifB (decide (x16 < (0 : Int)))
 (R (.bool true) w7)
 (callR Try.prog 110 #[(.pointer p0)] w7 fun v17 w8 =>
 ∃ x18 : Int, v17 = (.int .i64 x18) ∧
 ifB (x18 != (1 : Int))
 (R (.bool false) w8)
 (derefP p0 fun a19 =>
 ldS w8.drew a19 fun x20 =>
 derefP p0 fun a21 =>
 ldI w8.drew (a21.add 1) .i64 fun x22 =>
 (0 ≤ x22 ∧ x22 < (x20.l : Int)) ∧
 derefP x20.a fun a23 =>
 ldI w8.drew ((a23.add ((Int.toNat x22) * 4)).add 2) .u32 fun x24 =>
 derefP p0 fun a25 =>
 ldI w8.drew (a25.add 1) .i64 fun x26 =>
 Nw (w8.drew.alloc (.cells #[(.int .u32 (0 : Int)), (.int .i64 (0 : Int)), (.slice none 0 0), (.slice none 0 0), (.int .i64 (0 : Int))] 54)) fun w9 =>
 w9.cell? (a25.add 1) = some (.int .i64 x26) ∧
 w9.cell? ((a23.add ((Int.toNat x22) * 4)).add 2) = some (.int .u32 x24) ∧
 w9.cell? (a21.add 1) = some (.int .i64 x22) ∧
 w9.cell? a19 = some (.slice x20.a x20.l x20.c) ∧
 Wr w9 (blk w8.drew.heap.size) ∧
 Nw (w9.setCell (blk w8.drew.heap.size) (.int .u32 x24)) fun w10 =>
 Wr w10 ((blk w8.drew.heap.size).add 1) ∧
 Nw (w10.setCell ((blk w8.drew.heap.size).add 1) (.int .i64 x26)) fun w11 =>
 Wr w11 ((blk w8.drew.heap.size).add 2) ∧
 Nw (w11.setCell ((blk w8.drew.heap.size).add 2) (.slice none 0 0)) fun w12 =>
 Wr w12 ((blk w8.drew.heap.size).add 3) ∧
 Nw (w12.setCell ((blk w8.drew.heap.size).add 3) (.slice none 0 0)) fun w13 =>
 Wr w13 ((blk w8.drew.heap.size).add 4) ∧
 Nw (w13.setCell ((blk w8.drew.heap.size).add 4) (.int .i64 (0 : Int))) fun w14 =>
 derefP p0 fun a27 =>
 ldI w14 (a27.add 1) .i64 fun x28 =>
 derefP p0 fun a29 =>
 Wr w14 (a29.add 1) ∧
 Nw (w14.setCell (a29.add 1) (.int .i64 (IntKind.i64.wrap (x28 + (1 : Int))))) fun w15 =>
 callR Try.prog 111 #[(.pointer p0), (.int .i64 (2 : Int))] w15 fun v30 w16 =>
 ∃ x31 : Sl, v30 = (.slice x31.a x31.l x31.c) ∧
 Wr w16 ((blk w8.drew.heap.size).add 2) ∧
 Nw (w16.setCell ((blk w8.drew.heap.size).add 2) (.slice x31.a x31.l x31.c)) fun w17 =>
 LoopW (S := Unit) (fun s32 w18 n33 =>
 callR Try.prog 110 #[(.pointer p0)] w18 fun v34 w19 =>
 ∃ x35 : Int, v34 = (.int .i64 x35) ∧
 ifB (x35 == (3 : Int))
 (callR Try.prog 112 #[(.pointer p0), (.pointer (some (blk w8.drew.heap.size)))] w19 fun v36 w20 =>
 ∃ x37 : Bool, v36 = (.bool x37) ∧
 ifB (!x37)
 (R (.bool false) w20)
 (n33 (()) w20))
 (JoinW (S := Unit) (fun m38 =>
 ldS w19 ((blk w8.drew.heap.size).add 3) fun x40 =>
 ifB ((x40.l : Int) == (0 : Int))
 (R (.bool false) w19)
 (callR Try.prog 110 #[(.pointer p0)] w19 fun v41 w21 =>
 ∃ x42 : Int, v41 = (.int .i64 x42) ∧
 ifB (x42 != (8 : Int))
 (R (.bool false) w21)
 (m38 (()) w21)))
 (fun s39 w22 =>
 derefP p0 fun a43 =>
 ldI w22 (a43.add 1) .i64 fun x44 =>
 Wr w22 ((blk w8.drew.heap.size).add 4) ∧
 Nw (w22.setCell ((blk w8.drew.heap.size).add 4) (.int .i64 x44)) fun w23 =>
 derefP p0 fun a45 =>
 ldI w23 (a45.add 1) .i64 fun x46 =>
 derefP p0 fun a47 =>
 Wr w23 (a47.add 1) ∧
 Nw (w23.setCell (a47.add 1) (.int .i64 (IntKind.i64.wrap (x46 + (1 : Int))))) fun w24 =>
 derefP p0 fun a48 =>
 ldS w24.drew (a48.add 22) fun x49 =>
 ldI w24.drew ((blk w8.drew.heap.size).add 0) .u32 fun x50 =>
 ldI w24.drew ((blk w8.drew.heap.size).add 1) .i64 fun x51 =>
 ldS w24.drew ((blk w8.drew.heap.size).add 2) fun x52 =>
 ldS w24.drew ((blk w8.drew.heap.size).add 3) fun x53 =>
 ldI w24.drew ((blk w8.drew.heap.size).add 4) .i64 fun x54 =>
 Nw (w24.drew.alloc (.cells #[(.int .u32 x50), (.int .i64 x51), (.slice x52.a x52.l x52.c), (.slice x53.a x53.l x53.c), (.int .i64 x54)] 54)) fun w25 =>
 w25.cell? (a48.add 22) = some (.slice x49.a x49.l x49.c) ∧
 appendS Try.prog 49 (.slice x49.a x49.l x49.c) (.slice (some (blk w24.drew.heap.size)) 1 1) w25 fun r55 w26 =>
 derefP p0 fun a56 =>
 Wr w26 (a56.add 22) ∧
 Nw (w26.setCell (a56.add 22) (.slice r55.a r55.l r55.c)) fun w27 =>
 n14 (()) w27)))
 (()) w17)))
 (()) w5)
theorem layout_cutter_cut_calls (p0 : Option Addr) (R : Value → World → Prop) (w : World) (h : L_layout_cutter_cut p0 R w) : Calls Try.prog 83 #[(.pointer p0)] w (Ret R) :=
 lwJ_calls (l := 0) (fs := Try.fs) (an := a_layout_cutter_cut) (args := [(.pointer p0)]) Try.fsOK Try.mixed Try.func83 (by kernel_rfl) (by kernel_rfl)
 (Eq.mpr (by kernel_rfl : lwJFn Try.prog Try.fs 0 Try.f83 a_layout_cutter_cut [(.pointer p0)] w R = L_layout_cutter_cut p0 R w) h)

/-- intaglio.intaglioref05.Ends -/
def a_intaglioref05_Ends : Ann := (.seq none .nil (.seq none .nil .nil))
def L_intaglioref05_Ends (p0 : Int) (R : Value → World → Prop) (w : World) : Prop :=
 ifB (p0 == (249 : Int))
 (R (.bool true) w)
 (ifB (p0 == (250 : Int))
 (R (.bool true) w)
 (ifB (p0 == (251 : Int))
 (R (.bool true) w)
 (ifB (p0 == (252 : Int))
 (R (.bool true) w)
 (ifB (p0 == (253 : Int))
 (R (.bool true) w)
 (ifB (p0 == (254 : Int))
 (R (.bool true) w)
 (R (.bool (p0 == (255 : Int))) w))))))
theorem intaglioref05_Ends_calls (p0 : Int) (R : Value → World → Prop) (w : World) (h : L_intaglioref05_Ends p0 R w) : Calls Try.prog 94 #[(.int .u16 p0)] w (Ret R) :=
 lw_calls (fs := Try.fs) (an := a_intaglioref05_Ends) (args := [(.int .u16 p0)]) Try.fsOK Try.mixed Try.func94 (by kernel_rfl) (by kernel_rfl)
 (Eq.mpr (by kernel_rfl : lwFn Try.prog Try.fs Try.f94 a_intaglioref05_Ends [(.int .u16 p0)] w R = L_intaglioref05_Ends p0 R w) h)

/-- intaglio.intaglioref05.first -/
def a_intaglioref05_first : Ann := (.seq none .nil (.seq none .nil (.seq none (.one (.loop ⟨[0], [(5, (.b (.int .i64)))]⟩ (.seq none (.seq none .nil (.cond .nil .nil)) (.one .nil)))) (.seq none .nil .nil))))
def L_intaglioref05_first (p0 : Sl) (p1 : Int) (R : Value → World → Prop) (w : World) : Prop :=
 LoopW (S := Int × Unit) (fun s1 w1 n2 =>
 (0 ≤ s1.1 ∧ s1.1 < (p0.l : Int)) ∧
 derefP p0.a fun a3 =>
 ldI w1 (a3.add ((Int.toNat s1.1) * 4)) .u16 fun x4 =>
 ifB (x4 != (248 : Int))
 (n2 ((IntKind.i64.wrap (s1.1 - (1 : Int))), ()) w1)
 ((0 ≤ (IntKind.i64.wrap (s1.1 - (1 : Int))) ∧ (IntKind.i64.wrap (s1.1 - (1 : Int))) < (p0.l : Int)) ∧
 derefP p0.a fun a5 =>
 ldI w1 (a5.add ((Int.toNat (IntKind.i64.wrap (s1.1 - (1 : Int)))) * 4)) .u16 fun x6 =>
 ifB (x6 == (54 : Int))
 (R (.bool true) w1)
 ((0 ≤ (IntKind.i64.wrap (s1.1 - (1 : Int))) ∧ (IntKind.i64.wrap (s1.1 - (1 : Int))) < (p0.l : Int)) ∧
 derefP p0.a fun a7 =>
 ldI w1 (a7.add ((Int.toNat (IntKind.i64.wrap (s1.1 - (1 : Int)))) * 4)) .u16 fun x8 =>
 R (.bool (x8 == (55 : Int))) w1)))
 (p1, ()) w
theorem intaglioref05_first_calls (p0 : Sl) (p1 : Int) (R : Value → World → Prop) (w : World) (h : L_intaglioref05_first p0 p1 R w) : Calls Try.prog 95 #[(.slice p0.a p0.l p0.c), (.int .i64 p1)] w (Ret R) :=
 lw_calls (fs := Try.fs) (an := a_intaglioref05_first) (args := [(.slice p0.a p0.l p0.c), (.int .i64 p1)]) Try.fsOK Try.mixed Try.func95 (by kernel_rfl) (by kernel_rfl)
 (Eq.mpr (by kernel_rfl : lwFn Try.prog Try.fs Try.f95 a_intaglioref05_first [(.slice p0.a p0.l p0.c), (.int .i64 p1)] w R = L_intaglioref05_first p0 p1 R w) h)

/-- (*intaglio.layout.cutter).top -/
def a_layout_cutter_top : Ann := (.seq none .nil (.seq none (.seq none .nil (.one (.loop ⟨[0], [(5, (.b (.int .u8)))]⟩ (.seq none .nil (.seq none (.cond .nil .nil) (.seq (some ⟨[0, 5], []⟩) (.one (.seq none .nil (.seq none .nil (.seq (some ⟨[0, 3, 4, 5], []⟩) (.one (.loop ⟨[0, 3, 4, 5], []⟩ (.seq (some ⟨[0, 3, 4, 5], []⟩) (.seq none .nil (.cond .nil .nil)) (.one (.seq none .nil (.seq none .nil (.cond .nil .nil))))))) (.seq none .nil (.seq none .nil (.cond (.seq none .nil .nil) .nil))))))) .nil)))))) (.seq none .nil .nil)))
def L_layout_cutter_top (p0 : Option Addr) (R : Value → World → Prop) (w : World) : Prop :=
 LoopW (S := Int × Unit) (fun s1 w1 n2 =>
 ifB (decide (s1.1 < (8 : Int)))
 (JoinW (S := Unit) (fun m3 =>
 derefP p0 fun a5 =>
 ldI w1 (a5.add 1) .i64 fun x6 =>
 JoinW (S := Unit) (fun m7 =>
 LoopW (S := Unit) (fun s9 w2 n10 =>
 JoinW (S := Unit) (fun m11 =>
 callR Try.prog 110 #[(.pointer p0)] w2.drew fun v13 w3 =>
 ∃ x14 : Int, v13 = (.int .i64 x14) ∧
 ifB (x14 == (9 : Int))
 (derefP p0 fun a15 =>
 ldS w3 a15 fun x16 =>
 derefP p0 fun a17 =>
 ldI w3 (a17.add 1) .i64 fun x18 =>
 (0 ≤ x18 ∧ x18 < (x16.l : Int)) ∧
 derefP x16.a fun a19 =>
 ldI w3 ((a19.add ((Int.toNat x18) * 4)).add 0) .u16 fun x20 =>
 ldI w3 ((a19.add ((Int.toNat x18) * 4)).add 1) .u32 fun x21 =>
 ldI w3 ((a19.add ((Int.toNat x18) * 4)).add 2) .u32 fun x22 =>
 ldS w3 ((a19.add ((Int.toNat x18) * 4)).add 3) fun x23 =>
 callR Try.prog 138 #[(.agg #[(.int .u16 x20), (.int .u32 x21), (.int .u32 x22), (.slice x23.a x23.l x23.c)])] w3 fun v24 w4 =>
 ∃ x25 : Int, v24 = (.int .u8 x25) ∧
 ifB (x25 == s1.1)
 (m11 (()) w4)
 (m7 (()) w4))
 (m7 (()) w3))
 (fun s12 w5 =>
 derefP p0 fun a26 =>
 ldI w5 (a26.add 1) .i64 fun x27 =>
 derefP p0 fun a28 =>
 Wr w5 (a28.add 1) ∧
 Nw (w5.setCell (a28.add 1) (.int .i64 (IntKind.i64.wrap (x27 + (1 : Int))))) fun w6 =>
 ifB (s1.1 == (1 : Int))
 (m7 (()) w6)
 (n10 (()) w6)))
 (()) w1)
 (fun s8 w7 =>
 derefP p0 fun a29 =>
 ldI w7.drew (a29.add 1) .i64 fun x30 =>
 derefP p0 fun a31 =>
 (0 ≤ s1.1 ∧ s1.1 < (10 : Int)) ∧
 Wr w7.drew ((a31.add 2).add ((Int.toNat s1.1) * 2)) ∧
 Nw (w7.drew.setCell ((a31.add 2).add ((Int.toNat s1.1) * 2)) (.int .i64 x6)) fun w8 =>
 Wr w8 (((a31.add 2).add ((Int.toNat s1.1) * 2)).add 1) ∧
 Nw (w8.setCell (((a31.add 2).add ((Int.toNat s1.1) * 2)).add 1) (.int .i64 x30)) fun w9 =>
 ifB (s1.1 == (1 : Int))
 (derefP p0 fun a32 =>
 ldI w9 (a32.add 1) .i64 fun x33 =>
 ifB (x33 == x6)
 (R (.bool false) w9)
 (m3 (()) w9))
 (m3 (()) w9)))
 (fun s4 w10 =>
 n2 ((IntKind.u8.wrap (s1.1 + (1 : Int))), ()) w10))
 (R (.bool true) w1))
 ((0 : Int), ()) w
theorem layout_cutter_top_calls (p0 : Option Addr) (R : Value → World → Prop) (w : World) (h : L_layout_cutter_top p0 R w) : Calls Try.prog 109 #[(.pointer p0)] w (Ret R) :=
 lw_calls (fs := Try.fs) (an := a_layout_cutter_top) (args := [(.pointer p0)]) Try.fsOK Try.mixed Try.func109 (by kernel_rfl) (by kernel_rfl)
 (Eq.mpr (by kernel_rfl : lwFn Try.prog Try.fs Try.f109 a_layout_cutter_top [(.pointer p0)] w R = L_layout_cutter_top p0 R w) h)

/-- (*intaglio.layout.cutter).next -/
def a_layout_cutter_next : Ann := (.seq none .nil (.seq none (.seq none .nil (.cond (.seq none .nil .nil) .nil)) (.seq none .nil .nil)))
def L_layout_cutter_next (p0 : Option Addr) (R : Value → World → Prop) (w : World) : Prop :=
 derefP p0 fun a1 =>
 ldI w.drew (a1.add 1) .i64 fun x2 =>
 derefP p0 fun a3 =>
 ldS w.drew a3 fun x4 =>
 ifB (x2 == (x4.l : Int))
 (R (.int .i64 (-1 : Int)) w.drew)
 (derefP p0 fun a5 =>
 ldS w.drew.drew a5 fun x6 =>
 derefP p0 fun a7 =>
 ldI w.drew.drew (a7.add 1) .i64 fun x8 =>
 (0 ≤ x8 ∧ x8 < (x6.l : Int)) ∧
 derefP x6.a fun a9 =>
 ldI w.drew.drew ((a9.add ((Int.toNat x8) * 4)).add 0) .u16 fun x10 =>
 ldI w.drew.drew ((a9.add ((Int.toNat x8) * 4)).add 1) .u32 fun x11 =>
 ldI w.drew.drew ((a9.add ((Int.toNat x8) * 4)).add 2) .u32 fun x12 =>
 ldS w.drew.drew ((a9.add ((Int.toNat x8) * 4)).add 3) fun x13 =>
 callR Try.prog 139 #[(.agg #[(.int .u16 x10), (.int .u32 x11), (.int .u32 x12), (.slice x13.a x13.l x13.c)])] w.drew.drew fun v14 w1 =>
 ∃ x15 : Int, v14 = (.int .i64 x15) ∧
 R (.int .i64 x15) w1)
theorem layout_cutter_next_calls (p0 : Option Addr) (R : Value → World → Prop) (w : World) (h : L_layout_cutter_next p0 R w) : Calls Try.prog 110 #[(.pointer p0)] w (Ret R) :=
 lw_calls (fs := Try.fs) (an := a_layout_cutter_next) (args := [(.pointer p0)]) Try.fsOK Try.mixed Try.func110 (by kernel_rfl) (by kernel_rfl)
 (Eq.mpr (by kernel_rfl : lwFn Try.prog Try.fs Try.f110 a_layout_cutter_next [(.pointer p0)] w R = L_layout_cutter_next p0 R w) h)

/-- (*intaglio.layout.cutter).row -/
def a_layout_cutter_row : Ann := (.seq none .nil (.seq none .nil (.seq none (.one (.loop ⟨[0, 1], [(5, (.b .slice))]⟩ (.seq none (.seq none .nil (.cond .nil .nil)) (.one (.seq none .nil .nil))))) (.seq none .nil .nil))))
def L_layout_cutter_row (p0 : Option Addr) (p1 : Int) (R : Value → World → Prop) (w : World) : Prop :=
 LoopW (S := Sl × Unit) (fun s1 w1 n2 =>
 callR Try.prog 110 #[(.pointer p0)] w1 fun v3 w2 =>
 ∃ x4 : Int, v3 = (.int .i64 x4) ∧
 ifB (x4 == p1)
 (derefP p0 fun a5 =>
 ldI w2 (a5.add 1) .i64 fun x6 =>
 Nw (w2.alloc (.cells #[(.int .i64 x6)] 3)) fun w3 =>
 appendS Try.prog 46 (.slice s1.1.a s1.1.l s1.1.c) (.slice (some (blk w2.heap.size)) 1 1) w3 fun r7 w4 =>
 derefP p0 fun a8 =>
 ldI w4 (a8.add 1) .i64 fun x9 =>
 derefP p0 fun a10 =>
 Wr w4 (a10.add 1) ∧
 Nw (w4.setCell (a10.add 1) (.int .i64 (IntKind.i64.wrap (x9 + (1 : Int))))) fun w5 =>
 n2 (r7, ()) w5)
 (R (.slice s1.1.a s1.1.l s1.1.c) w2))
 ((Sl.mk none 0 0), ()) w
theorem layout_cutter_row_calls (p0 : Option Addr) (p1 : Int) (R : Value → World → Prop) (w : World) (h : L_layout_cutter_row p0 p1 R w) : Calls Try.prog 111 #[(.pointer p0), (.int .i64 p1)] w (Ret R) :=
 lw_calls (fs := Try.fs) (an := a_layout_cutter_row) (args := [(.pointer p0), (.int .i64 p1)]) Try.fsOK Try.mixed Try.func111 (by kernel_rfl) (by kernel_rfl)
 (Eq.mpr (by kernel_rfl : lwFn Try.prog Try.fs Try.f111 a_layout_cutter_row [(.pointer p0), (.int .i64 p1)] w R = L_layout_cutter_row p0 p1 R w) h)

/-- (*intaglio.layout.cutter).block -/
def a_layout_cutter_block : Ann := (.seq none .nil (.seq none .nil (.seq none .nil (.seq (some ⟨[0, 1, 5], []⟩) (.seq none .nil (.cond .nil .nil)) (.seq none .nil (.seq none (.seq none .nil (.one (.seq (some ⟨[0, 1, 5], []⟩) (.one (.seq none (.one (.seq none (.seq none (.seq none .nil (.cond .nil .nil)) (.seq none .nil (.cond .nil .nil))) .nil)) (.seq none .nil (.seq none .nil (.cond (.seq none .nil .nil) .nil))))) (.seq none (.seq none .nil (.seq none .nil (.seq none .nil (.seq none .nil .nil)))) .nil)))) (.seq none .nil .nil)))))))
def L_layout_cutter_block (p0 : Option Addr) (p1 : Option Addr) (R : Value → World → Prop) (w : World) : Prop :=
 derefP p0 fun a1 =>
 ldS w.drew a1 fun x2 =>
 derefP p0 fun a3 =>
 ldI w.drew (a3.add 1) .i64 fun x4 =>
 (0 ≤ x4 ∧ x4 < (x2.l : Int)) ∧
 derefP x2.a fun a5 =>
 ldI w.drew ((a5.add ((Int.toNat x4) * 4)).add 2) .u32 fun x6 =>
 derefP p0 fun a7 =>
 ldI w.drew (a7.add 1) .i64 fun x8 =>
 Nw (w.drew.alloc (.cells #[(.int .u32 (0 : Int)), (.int .i64 (0 : Int)), (.int .i64 (0 : Int))] 63)) fun w1 =>
 w1.cell? (a7.add 1) = some (.int .i64 x8) ∧
 w1.cell? ((a5.add ((Int.toNat x4) * 4)).add 2) = some (.int .u32 x6) ∧
 w1.cell? (a3.add 1) = some (.int .i64 x4) ∧
 w1.cell? a1 = some (.slice x2.a x2.l x2.c) ∧
 Wr w1 (blk w.drew.heap.size) ∧
 Nw (w1.setCell (blk w.drew.heap.size) (.int .u32 x6)) fun w2 =>
 Wr w2 ((blk w.drew.heap.size).add 1) ∧
 Nw (w2.setCell ((blk w.drew.heap.size).add 1) (.int .i64 x8)) fun w3 =>
 Wr w3 ((blk w.drew.heap.size).add 2) ∧
 Nw (w3.setCell ((blk w.drew.heap.size).add 2) (.int .i64 (0 : Int))) fun w4 =>
 derefP p0 fun a9 =>
 ldI w4 (a9.add 1) .i64 fun x10 =>
 derefP p0 fun a11 =>
 Wr w4 (a11.add 1) ∧
 Nw (w4.setCell (a11.add 1) (.int .i64 (IntKind.i64.wrap (x10 + (1 : Int))))) fun w5 =>
 JoinW (S := Unit) (fun m12 =>
 derefP p1 fun a14 =>
 ldS w5 (a14.add 3) fun x15 =>
 ifB ((x15.l : Int) == (0 : Int))
 (callR Try.prog 111 #[(.pointer p0), (.int .i64 (5 : Int))] w5 fun v16 w6 =>
 ∃ x17 : Sl, v16 = (.slice x17.a x17.l x17.c) ∧
 m12 (()) w6)
 (callR Try.prog 111 #[(.pointer p0), (.int .i64 (4 : Int))] w5 fun v18 w7 =>
 ∃ x19 : Sl, v18 = (.slice x19.a x19.l x19.c) ∧
 m12 (()) w7))
 (fun s13 w8 =>
 callR Try.prog 111 #[(.pointer p0), (.int .i64 (0 : Int))] w8 fun v20 w9 =>
 ∃ x21 : Sl, v20 = (.slice x21.a x21.l x21.c) ∧
 callR Try.prog 110 #[(.pointer p0)] w9 fun v22 w10 =>
 ∃ x23 : Int, v22 = (.int .i64 x23) ∧
 JoinW (S := Unit) (fun m24 =>
 ifB (x23 == (6 : Int))
 (derefP p0 fun a26 =>
 ldI w10 (a26.add 1) .i64 fun x27 =>
 derefP p0 fun a28 =>
 Wr w10 (a28.add 1) ∧
 Nw (w10.setCell (a28.add 1) (.int .i64 (IntKind.i64.wrap (x27 + (1 : Int))))) fun w11 =>
 callR Try.prog 110 #[(.pointer p0)] w11.drew fun v29 w12 =>
 ∃ x30 : Int, v29 = (.int .i64 x30) ∧
 ifB (x30 != (7 : Int))
 (R (.bool false) w12)
 (derefP p0 fun a31 =>
 ldS w12 a31 fun x32 =>
 derefP p0 fun a33 =>
 ldI w12 (a33.add 1) .i64 fun x34 =>
 (0 ≤ (IntKind.i64.wrap (x34 - (1 : Int))) ∧ (IntKind.i64.wrap (x34 - (1 : Int))) < (x32.l : Int)) ∧
 derefP x32.a fun a35 =>
 ldI w12 (a35.add ((Int.toNat (IntKind.i64.wrap (x34 - (1 : Int)))) * 4)) .u16 fun x36 =>
 derefP p0 fun a37 =>
 ldS w12 a37 fun x38 =>
 derefP p0 fun a39 =>
 ldI w12 (a39.add 1) .i64 fun x40 =>
 (0 ≤ x40 ∧ x40 < (x38.l : Int)) ∧
 derefP x38.a fun a41 =>
 ldI w12 (a41.add ((Int.toNat x40) * 4)) .u16 fun x42 =>
 callR Try.prog 140 #[(.int .u16 x36), (.int .u16 x42)] w12 fun v43 w13 =>
 ∃ x44 : Bool, v43 = (.bool x44) ∧
 ifB (!x44)
 (R (.bool false) w13)
 (m24 (()) w13)))
 (ifB (x23 == (7 : Int))
 (m24 (()) w10)
 (R (.bool false) w10)))
 (fun s25 w14 =>
 derefP p0 fun a45 =>
 ldI w14 (a45.add 1) .i64 fun x46 =>
 derefP p0 fun a47 =>
 Wr w14 (a47.add 1) ∧
 Nw (w14.setCell (a47.add 1) (.int .i64 (IntKind.i64.wrap (x46 + (1 : Int))))) fun w15 =>
 derefP p0 fun a48 =>
 ldI w15 (a48.add 1) .i64 fun x49 =>
 Wr w15 ((blk w.drew.heap.size).add 2) ∧
 Nw (w15.setCell ((blk w.drew.heap.size).add 2) (.int .i64 x49)) fun w16 =>
 derefP p1 fun a50 =>
 ldS w16.drew (a50.add 3) fun x51 =>
 ldI w16.drew ((blk w.drew.heap.size).add 0) .u32 fun x52 =>
 ldI w16.drew ((blk w.drew.heap.size).add 1) .i64 fun x53 =>
 ldI w16.drew ((blk w.drew.heap.size).add 2) .i64 fun x54 =>
 Nw (w16.drew.alloc (.cells #[(.int .u32 x52), (.int .i64 x53), (.int .i64 x54)] 63)) fun w17 =>
 w17.cell? (a50.add 3) = some (.slice x51.a x51.l x51.c) ∧
 appendS Try.prog 52 (.slice x51.a x51.l x51.c) (.slice (some (blk w16.drew.heap.size)) 1 1) w17 fun r55 w18 =>
 derefP p1 fun a56 =>
 Wr w18 (a56.add 3) ∧
 Nw (w18.setCell (a56.add 3) (.slice r55.a r55.l r55.c)) fun w19 =>
 R (.bool true) w19))
theorem layout_cutter_block_calls (p0 : Option Addr) (p1 : Option Addr) (R : Value → World → Prop) (w : World) (h : L_layout_cutter_block p0 p1 R w) : Calls Try.prog 112 #[(.pointer p0), (.pointer p1)] w (Ret R) :=
 lw_calls (fs := Try.fs) (an := a_layout_cutter_block) (args := [(.pointer p0), (.pointer p1)]) Try.fsOK Try.mixed Try.func112 (by kernel_rfl) (by kernel_rfl)
 (Eq.mpr (by kernel_rfl : lwFn Try.prog Try.fs Try.f112 a_layout_cutter_block [(.pointer p0), (.pointer p1)] w R = L_layout_cutter_block p0 p1 R w) h)

/-- intaglio.layout.part -/
def a_layout_part : Ann := (.seq none .nil (.seq none (.seq none .nil (.cond (.seq none .nil .nil) .nil)) (.seq none .nil (.seq none .nil .nil))))
def L_layout_part (p0 : (Int × Int × Int × Sl × Unit)) (R : Value → World → Prop) (w : World) : Prop :=
 Nw (w.alloc (.cells #[(.int .u16 p0.1), (.int .u32 p0.2.1), (.int .u32 p0.2.2.1), (.slice p0.2.2.2.1.a p0.2.2.2.1.l p0.2.2.2.1.c)] 45)) fun w1 =>
 ldI w1 ((blk w.heap.size).add 0) .u16 fun x1 =>
 ldI w1 ((blk w.heap.size).add 1) .u32 fun x2 =>
 ldI w1 ((blk w.heap.size).add 2) .u32 fun x3 =>
 ldS w1 ((blk w.heap.size).add 3) fun x4 =>
 callR Try.prog 156 #[(.agg #[(.int .u16 x1), (.int .u32 x2), (.int .u32 x3), (.slice x4.a x4.l x4.c)])] w1 fun v5 w2 =>
 ∃ x6 : Bool, v5 = (.bool x6) ∧
 ifB x6
 (R (.int .u8 (8 : Int)) w2)
 (ldI w2 (blk w.heap.size) .u16 fun x7 =>
 callR Try.prog 90 #[(.int .u16 x7)] w2 fun v8 w3 =>
 ∃ x9 : (Int × ByteArray × Bool × Bool × ByteArray × ByteArray × Int × Int × Unit), ∃ x10 : Bool, v8 = (.tuple #[(.agg #[(.int .u16 x9.1), (.string x9.2.1), (.bool x9.2.2.1), (.bool x9.2.2.2.1), (.string x9.2.2.2.2.1), (.string x9.2.2.2.2.2.1), (.int .i64 x9.2.2.2.2.2.2.1), (.int .u8 x9.2.2.2.2.2.2.2.1)]), (.bool x10)]) ∧
 Nw (w3.alloc (.cells #[(.int .u16 (0 : Int)), (.string (ByteArray.mk #[])), (.bool false), (.bool false), (.string (ByteArray.mk #[])), (.string (ByteArray.mk #[])), (.int .i64 (0 : Int)), (.int .u8 (0 : Int))] 133)) fun w4 =>
 Wr w4 (blk w3.heap.size) ∧
 Nw (w4.setCell (blk w3.heap.size) (.int .u16 x9.1)) fun w5 =>
 Wr w5 ((blk w3.heap.size).add 1) ∧
 Nw (w5.setCell ((blk w3.heap.size).add 1) (.string x9.2.1)) fun w6 =>
 Wr w6 ((blk w3.heap.size).add 2) ∧
 Nw (w6.setCell ((blk w3.heap.size).add 2) (.bool x9.2.2.1)) fun w7 =>
 Wr w7 ((blk w3.heap.size).add 3) ∧
 Nw (w7.setCell ((blk w3.heap.size).add 3) (.bool x9.2.2.2.1)) fun w8 =>
 Wr w8 ((blk w3.heap.size).add 4) ∧
 Nw (w8.setCell ((blk w3.heap.size).add 4) (.string x9.2.2.2.2.1)) fun w9 =>
 Wr w9 ((blk w3.heap.size).add 5) ∧
 Nw (w9.setCell ((blk w3.heap.size).add 5) (.string x9.2.2.2.2.2.1)) fun w10 =>
 Wr w10 ((blk w3.heap.size).add 6) ∧
 Nw (w10.setCell ((blk w3.heap.size).add 6) (.int .i64 x9.2.2.2.2.2.2.1)) fun w11 =>
 Wr w11 ((blk w3.heap.size).add 7) ∧
 Nw (w11.setCell ((blk w3.heap.size).add 7) (.int .u8 x9.2.2.2.2.2.2.2.1)) fun w12 =>
 ldI w12 ((blk w3.heap.size).add 7) .u8 fun x11 =>
 R (.int .u8 x11) w12)
theorem layout_part_calls (p0 : (Int × Int × Int × Sl × Unit)) (R : Value → World → Prop) (w : World) (h : L_layout_part p0 R w) : Calls Try.prog 138 #[(.agg #[(.int .u16 p0.1), (.int .u32 p0.2.1), (.int .u32 p0.2.2.1), (.slice p0.2.2.2.1.a p0.2.2.2.1.l p0.2.2.2.1.c)])] w (Ret R) :=
 lw_calls (fs := Try.fs) (an := a_layout_part) (args := [(.agg #[(.int .u16 p0.1), (.int .u32 p0.2.1), (.int .u32 p0.2.2.1), (.slice p0.2.2.2.1.a p0.2.2.2.1.l p0.2.2.2.1.c)])]) Try.fsOK Try.mixed Try.func138 (by kernel_rfl) (by kernel_rfl)
 (Eq.mpr (by kernel_rfl : lwFn Try.prog Try.fs Try.f138 a_layout_part [(.agg #[(.int .u16 p0.1), (.int .u32 p0.2.1), (.int .u32 p0.2.2.1), (.slice p0.2.2.2.1.a p0.2.2.2.1.l p0.2.2.2.1.c)])] w R = L_layout_part p0 R w) h)

/-- intaglio.layout.kind -/
def a_layout_kind : Ann := (.seq none .nil (.seq none (.seq none .nil (.cond (.seq none .nil .nil) .nil)) (.seq none (.seq none .nil (.one (.seq none (.one (.one (.seq none (.one (.seq none (.one (.seq none (.one (.seq none (.one (.seq none (.one (.seq none (.one (.seq none (.seq none (.seq none .nil (.cond .nil .nil)) (.seq none (.seq none .nil (.cond .nil .nil)) (.seq none (.seq none .nil (.cond .nil .nil)) (.seq none (.seq none .nil (.cond .nil .nil)) (.seq none (.seq none .nil (.cond .nil .nil)) (.seq none (.seq none .nil (.cond .nil .nil)) (.seq none (.seq none .nil (.cond .nil .nil)) (.seq none .nil (.cond .nil .nil))))))))) .nil)) (.seq none (.seq none .nil .nil) .nil))) (.seq none (.seq none .nil .nil) .nil))) (.seq none (.seq none .nil .nil) .nil))) (.seq none (.seq none .nil .nil) .nil))) (.seq none (.seq none .nil .nil) .nil))) (.seq none (.seq none .nil .nil) .nil)))) (.seq none (.seq none .nil .nil) .nil)))) (.seq none (.seq none .nil (.cond (.seq none .nil .nil) .nil)) (.seq none .nil .nil)))))
def L_layout_kind (p0 : (Int × Int × Int × Sl × Unit)) (R : Value → World → Prop) (w : World) : Prop :=
 Nw (w.alloc (.cells #[(.int .u16 p0.1), (.int .u32 p0.2.1), (.int .u32 p0.2.2.1), (.slice p0.2.2.2.1.a p0.2.2.2.1.l p0.2.2.2.1.c)] 45)) fun w1 =>
 ldI w1 ((blk w.heap.size).add 0) .u16 fun x1 =>
 ldI w1 ((blk w.heap.size).add 1) .u32 fun x2 =>
 ldI w1 ((blk w.heap.size).add 2) .u32 fun x3 =>
 ldS w1 ((blk w.heap.size).add 3) fun x4 =>
 callR Try.prog 138 #[(.agg #[(.int .u16 x1), (.int .u32 x2), (.int .u32 x3), (.slice x4.a x4.l x4.c)])] w1 fun v5 w2 =>
 ∃ x6 : Int, v5 = (.int .u8 x6) ∧
 ifB (x6 != (8 : Int))
 (R (.int .i64 (9 : Int)) w2)
 (ldI w2 (blk w.heap.size) .u16 fun x7 =>
 ifB (x7 == (54 : Int))
 (R (.int .i64 (1 : Int)) w2)
 (ifB (x7 == (55 : Int))
 (R (.int .i64 (2 : Int)) w2)
 (ifB (x7 == (56 : Int))
 (R (.int .i64 (8 : Int)) w2)
 (ifB (x7 == (248 : Int))
 (R (.int .i64 (3 : Int)) w2)
 (ifB (x7 == (245 : Int))
 (R (.int .i64 (4 : Int)) w2)
 (ifB (x7 == (59 : Int))
 (R (.int .i64 (5 : Int)) w2)
 (ifB (x7 == (246 : Int))
 (R (.int .i64 (6 : Int)) w2)
 (ifB (x7 == (247 : Int))
 (R (.int .i64 (6 : Int)) w2)
 (ldI w2 (blk w.heap.size) .u16 fun x8 =>
 callR Try.prog 157 #[(.int .u16 x8)] w2 fun v9 w3 =>
 ∃ x10 : Bool, v9 = (.bool x10) ∧
 ifB x10
 (R (.int .i64 (7 : Int)) w3)
 (R (.int .i64 (0 : Int)) w3))))))))))
theorem layout_kind_calls (p0 : (Int × Int × Int × Sl × Unit)) (R : Value → World → Prop) (w : World) (h : L_layout_kind p0 R w) : Calls Try.prog 139 #[(.agg #[(.int .u16 p0.1), (.int .u32 p0.2.1), (.int .u32 p0.2.2.1), (.slice p0.2.2.2.1.a p0.2.2.2.1.l p0.2.2.2.1.c)])] w (Ret R) :=
 lw_calls (fs := Try.fs) (an := a_layout_kind) (args := [(.agg #[(.int .u16 p0.1), (.int .u32 p0.2.1), (.int .u32 p0.2.2.1), (.slice p0.2.2.2.1.a p0.2.2.2.1.l p0.2.2.2.1.c)])]) Try.fsOK Try.mixed Try.func139 (by kernel_rfl) (by kernel_rfl)
 (Eq.mpr (by kernel_rfl : lwFn Try.prog Try.fs Try.f139 a_layout_kind [(.agg #[(.int .u16 p0.1), (.int .u32 p0.2.1), (.int .u32 p0.2.2.1), (.slice p0.2.2.2.1.a p0.2.2.2.1.l p0.2.2.2.1.c)])] w R = L_layout_kind p0 R w) h)

/-- intaglio.layout.may -/
def a_layout_may : Ann := (.seq none .nil (.seq none (.seq none .nil (.one (.seq none .nil (.cond (.seq none .nil .nil) (.seq none .nil (.cond (.seq none .nil .nil) (.seq none .nil (.cond (.seq none .nil .nil) .nil)))))))) (.seq none .nil .nil)))
def L_layout_may (p0 : Int) (p1 : Int) (R : Value → World → Prop) (w : World) : Prop :=
 ifB (p1 == (251 : Int))
 (R (.bool (p0 == (247 : Int))) w)
 (ifB (p1 == (249 : Int))
 (R (.bool (p0 == (246 : Int))) w)
 (ifB (p1 == (250 : Int))
 (R (.bool true) w)
 (R (.bool false) w)))
theorem layout_may_calls (p0 : Int) (p1 : Int) (R : Value → World → Prop) (w : World) (h : L_layout_may p0 p1 R w) : Calls Try.prog 140 #[(.int .u16 p0), (.int .u16 p1)] w (Ret R) :=
 lw_calls (fs := Try.fs) (an := a_layout_may) (args := [(.int .u16 p0), (.int .u16 p1)]) Try.fsOK Try.mixed Try.func140 (by kernel_rfl) (by kernel_rfl)
 (Eq.mpr (by kernel_rfl : lwFn Try.prog Try.fs Try.f140 a_layout_may [(.int .u16 p0), (.int .u16 p1)] w R = L_layout_may p0 p1 R w) h)

/-- intaglio.layout.variable -/
def a_layout_variable : Ann := (.seq none .nil (.seq none .nil .nil))
def L_layout_variable (p0 : (Int × Int × Int × Sl × Unit)) (R : Value → World → Prop) (w : World) : Prop :=
 Nw (w.alloc (.cells #[(.int .u16 p0.1), (.int .u32 p0.2.1), (.int .u32 p0.2.2.1), (.slice p0.2.2.2.1.a p0.2.2.2.1.l p0.2.2.2.1.c)] 45)) fun w1 =>
 ldI w1 (blk w.heap.size) .u16 fun x1 =>
 ifB (x1 == (59 : Int))
 (ldS w1 ((blk w.heap.size).add 3) fun x2 =>
 ifB (decide ((x2.l : Int) > (0 : Int)))
 (ldS w1 ((blk w.heap.size).add 3) fun x3 =>
 (0 ≤ (0 : Int) ∧ (0 : Int) < (x3.l : Int)) ∧
 derefP x3.a fun a4 =>
 ldI w1 ((a4.add (0 * 3)).add 1) .u32 fun x5 =>
 R (.bool (x5 == (7 : Int))) w1)
 (R (.bool false) w1))
 (R (.bool false) w1)
theorem layout_variable_calls (p0 : (Int × Int × Int × Sl × Unit)) (R : Value → World → Prop) (w : World) (h : L_layout_variable p0 R w) : Calls Try.prog 156 #[(.agg #[(.int .u16 p0.1), (.int .u32 p0.2.1), (.int .u32 p0.2.2.1), (.slice p0.2.2.2.1.a p0.2.2.2.1.l p0.2.2.2.1.c)])] w (Ret R) :=
 lw_calls (fs := Try.fs) (an := a_layout_variable) (args := [(.agg #[(.int .u16 p0.1), (.int .u32 p0.2.1), (.int .u32 p0.2.2.1), (.slice p0.2.2.2.1.a p0.2.2.2.1.l p0.2.2.2.1.c)])]) Try.fsOK Try.mixed Try.func156 (by kernel_rfl) (by kernel_rfl)
 (Eq.mpr (by kernel_rfl : lwFn Try.prog Try.fs Try.f156 a_layout_variable [(.agg #[(.int .u16 p0.1), (.int .u32 p0.2.1), (.int .u32 p0.2.2.1), (.slice p0.2.2.2.1.a p0.2.2.2.1.l p0.2.2.2.1.c)])] w R = L_layout_variable p0 R w) h)

/-- intaglio.layout.Ends -/
def a_layout_Ends : Ann := (.seq none .nil (.seq none .nil .nil))
def L_layout_Ends (p0 : Int) (R : Value → World → Prop) (w : World) : Prop :=
 ifB (decide (p0 ≥ (249 : Int)))
 (R (.bool (decide (p0 ≤ (255 : Int)))) w)
 (R (.bool false) w)
theorem layout_Ends_calls (p0 : Int) (R : Value → World → Prop) (w : World) (h : L_layout_Ends p0 R w) : Calls Try.prog 157 #[(.int .u16 p0)] w (Ret R) :=
 lw_calls (fs := Try.fs) (an := a_layout_Ends) (args := [(.int .u16 p0)]) Try.fsOK Try.mixed Try.func157 (by kernel_rfl) (by kernel_rfl)
 (Eq.mpr (by kernel_rfl : lwFn Try.prog Try.fs Try.f157 a_layout_Ends [(.int .u16 p0)] w R = L_layout_Ends p0 R w) h)

end Go.Proofs
