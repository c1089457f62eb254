/-
 Printed by a program of the author: what each function comes to.
-/
import Derived.Test.YtpeonjpjphhenaaProg
import Derived.Test.YtpeonjpjphhenaaGkR
import Derived.Test.YtpeonjpjphhenaaLb
namespace Go.Proofs
open Go.Gk
set_option linter.unusedVariables false
set_option maxRecDepth 100000

/-- intaglio.intagliolaw09.IdsBack -/
def a_intagliolaw09_IdsBack : Ann := (.seq none .nil (.seq none .nil (.seq none .nil (.seq none .nil (.seq (some ⟨[1, 2, 5, 6], []⟩) (.seq none .nil (.cond (.seq none .nil .nil) .nil)) (.seq none (.seq none .nil (.cond (.seq none .nil .nil) .nil)) (.seq none .nil (.seq none (.seq none .nil (.one (.loop ⟨[1, 2, 5, 10], [(11, (.b (.int .i64)))]⟩ (.seq none (.seq none .nil (.cond .nil .nil)) (.seq none (.one (.seq none (.seq none .nil (.cond (.seq none .nil .nil) .nil)) .nil)) .nil))))) (.seq none .nil (.seq none .nil .nil))))))))))
def L_intagliolaw09_IdsBack (p0 : (Int × Int × Sl × Unit)) (p1 : Sl) (R : Value → World → Prop) (w : World) : Prop :=
 Nw (w.alloc (.cells #[(.int .u32 p0.1), (.int .u32 p0.2.1), (.slice p0.2.2.1.a p0.2.2.1.l p0.2.2.1.c)] 25)) fun w1 =>
 ldI w1 ((blk w.heap.size).add 0) .u32 fun x1 =>
 ldI w1 ((blk w.heap.size).add 1) .u32 fun x2 =>
 ldS w1 ((blk w.heap.size).add 2) fun x3 =>
 callR Try.prog 10 #[(.agg #[(.int .u32 x1), (.int .u32 x2), (.slice x3.a x3.l x3.c)])] w1 fun v4 w2 =>
 ∃ x5 : (Int × Int × Sl × Unit), v4 = (.agg #[(.int .u32 x5.1), (.int .u32 x5.2.1), (.slice x5.2.2.1.a x5.2.2.1.l x5.2.2.1.c)]) ∧
 callR Try.prog 18 #[(.slice p1.a p1.l p1.c)] w2 fun v6 w3 =>
 ∃ x7 : Sl, v6 = (.slice x7.a x7.l x7.c) ∧
 callR Try.prog 19 #[(.agg #[(.int .u32 x5.1), (.int .u32 x5.2.1), (.slice x5.2.2.1.a x5.2.2.1.l x5.2.2.1.c)]), (.slice x7.a x7.l x7.c)] w3 fun v8 w4 =>
 ∃ x9 : (Int × Int × Sl × Unit), ∃ x10 : (Int × Int × Unit), v8 = (.tuple #[(.agg #[(.int .u32 x9.1), (.int .u32 x9.2.1), (.slice x9.2.2.1.a x9.2.2.1.l x9.2.2.1.c)]), (.agg #[(.int .i64 x10.1), (.int .i64 x10.2.1)])]) ∧
 Nw (w4.alloc (.cells #[(.int .u32 (0 : Int)), (.int .u32 (0 : Int)), (.slice none 0 0)] 25)) fun w5 =>
 Nw (w5.alloc (.cells #[(.int .i64 (0 : Int)), (.int .i64 (0 : Int))] 29)) fun w6 =>
 Wr w6 (blk w4.heap.size) ∧
 Nw (w6.setCell (blk w4.heap.size) (.int .u32 x9.1)) fun w7 =>
 Wr w7 ((blk w4.heap.size).add 1) ∧
 Nw (w7.setCell ((blk w4.heap.size).add 1) (.int .u32 x9.2.1)) fun w8 =>
 Wr w8 ((blk w4.heap.size).add 2) ∧
 Nw (w8.setCell ((blk w4.heap.size).add 2) (.slice x9.2.2.1.a x9.2.2.1.l x9.2.2.1.c)) fun w9 =>
 Wr w9 (blk w5.heap.size) ∧
 Nw (w9.setCell (blk w5.heap.size) (.int .i64 x10.1)) fun w10 =>
 Wr w10 ((blk w5.heap.size).add 1) ∧
 Nw (w10.setCell ((blk w5.heap.size).add 1) (.int .i64 x10.2.1)) fun w11 =>
 Nw (w11.alloc (.cells #[(.int .u16 (20 : Int)), (.int .u32 (0 : Int)), (.int .u32 (1 : Int)), (.slice none 0 0)] 45)) fun w12 =>
 Nw (w12.alloc (.cells #[(.int .u32 (0 : Int)), (.int .u32 (0 : Int)), (.slice none 0 0)] 25)) fun w13 =>
 Wr w13 (blk w12.heap.size) ∧
 Nw (w13.setCell (blk w12.heap.size) (.int .u32 (0 : Int))) fun w14 =>
 Wr w14 ((blk w12.heap.size).add 1) ∧
 Nw (w14.setCell ((blk w12.heap.size).add 1) (.int .u32 (2 : Int))) fun w15 =>
 Wr w15 ((blk w12.heap.size).add 2) ∧
 Nw (w15.setCell ((blk w12.heap.size).add 2) (.slice (some (blk w11.heap.size)) 1 1)) fun w16 =>
 ldI w16 ((blk w12.heap.size).add 0) .u32 fun x11 =>
 ldI w16 ((blk w12.heap.size).add 1) .u32 fun x12 =>
 ldS w16 ((blk w12.heap.size).add 2) fun x13 =>
 Nw (w16.alloc (.cells #[(.int .u32 (0 : Int)), (.int .u32 (1 : Int))] 22)) fun w17 =>
 callR Try.prog 19 #[(.agg #[(.int .u32 x11), (.int .u32 x12), (.slice x13.a x13.l x13.c)]), (.slice (some (blk w16.heap.size)) 2 2)] w17 fun v14 w18 =>
 ∃ x15 : (Int × Int × Sl × Unit), ∃ x16 : (Int × Int × Unit), v14 = (.tuple #[(.agg #[(.int .u32 x15.1), (.int .u32 x15.2.1), (.slice x15.2.2.1.a x15.2.2.1.l x15.2.2.1.c)]), (.agg #[(.int .i64 x16.1), (.int .i64 x16.2.1)])]) ∧
 Nw (w18.alloc (.cells #[(.int .u32 (0 : Int)), (.int .u32 (0 : Int)), (.slice none 0 0)] 25)) fun w19 =>
 Nw (w19.alloc (.cells #[(.int .i64 (0 : Int)), (.int .i64 (0 : Int))] 29)) fun w20 =>
 Wr w20 (blk w18.heap.size) ∧
 Nw (w20.setCell (blk w18.heap.size) (.int .u32 x15.1)) fun w21 =>
 Wr w21 ((blk w18.heap.size).add 1) ∧
 Nw (w21.setCell ((blk w18.heap.size).add 1) (.int .u32 x15.2.1)) fun w22 =>
 Wr w22 ((blk w18.heap.size).add 2) ∧
 Nw (w22.setCell ((blk w18.heap.size).add 2) (.slice x15.2.2.1.a x15.2.2.1.l x15.2.2.1.c)) fun w23 =>
 Wr w23 (blk w19.heap.size) ∧
 Nw (w23.setCell (blk w19.heap.size) (.int .i64 x16.1)) fun w24 =>
 Wr w24 ((blk w19.heap.size).add 1) ∧
 Nw (w24.setCell ((blk w19.heap.size).add 1) (.int .i64 x16.2.1)) fun w25 =>
 JoinW (S := Unit) (fun m17 =>
 ldI w25 (blk w19.heap.size) .i64 fun x19 =>
 ifB (x19 != (0 : Int))
 (R (.bool false) w25)
 (ldI w25 ((blk w18.heap.size).add 0) .u32 fun x20 =>
 ldI w25 ((blk w18.heap.size).add 1) .u32 fun x21 =>
 ldS w25 ((blk w18.heap.size).add 2) fun x22 =>
 ldI w25 ((blk w12.heap.size).add 0) .u32 fun x23 =>
 ldI w25 ((blk w12.heap.size).add 1) .u32 fun x24 =>
 ldS w25 ((blk w12.heap.size).add 2) fun x25 =>
 callR Try.prog 13 #[(.agg #[(.int .u32 x20), (.int .u32 x21), (.slice x22.a x22.l x22.c)]), (.agg #[(.int .u32 x23), (.int .u32 x24), (.slice x25.a x25.l x25.c)])] w25 fun v26 w26 =>
 ∃ x27 : Bool, v26 = (.bool x27) ∧
 ifB (!x27)
 (R (.bool false) w26)
 (m17 (()) w26)))
 (fun s18 w27 =>
 ldI w27 (blk w5.heap.size) .i64 fun x28 =>
 ifB (x28 != (0 : Int))
 (ldI w27 ((blk w4.heap.size).add 0) .u32 fun x29 =>
 ldI w27 ((blk w4.heap.size).add 1) .u32 fun x30 =>
 ldS w27 ((blk w4.heap.size).add 2) fun x31 =>
 callR Try.prog 22 #[(.agg #[(.int .u32 x29), (.int .u32 x30), (.slice x31.a x31.l x31.c)])] w27 fun v32 w28 =>
 ∃ x33 : Bool, v32 = (.bool x33) ∧
 R (.bool x33) w28)
 ((0 ≤ (p1.l : Int) ∧ (p1.l : Int) ≤ (p1.l : Int) ∧ (4 : Int) * (p1.l : Int) ≤ 281474976710656 ∧ (p1.l : Int) ≤ 9223372036854775807) ∧
 Nw (w27.alloc (.cells (madeCells #[(.int .u32 (0 : Int))] (p1.l * 1)) 22)) fun w29 =>
 LoopW (S := Int × Unit) (fun s34 w30 n35 =>
 ifB (decide (s34.1 < (p1.l : Int)))
 ((0 ≤ s34.1 ∧ s34.1 < (p1.l : Int)) ∧
 derefP p1.a fun a36 =>
 ldI w30 (a36.add (Int.toNat s34.1)) .u32 fun x37 =>
 ifB (decide (x37 ≥ (IntKind.u32.wrap (p1.l : Int))))
 (R (.bool false) w30)
 ((0 ≤ s34.1 ∧ s34.1 < (p1.l : Int)) ∧
 derefP p1.a fun a38 =>
 ldI w30 (a38.add (Int.toNat s34.1)) .u32 fun x39 =>
 (0 ≤ x39 ∧ x39 < (p1.l : Int)) ∧
 Wr w30 ((blk w27.heap.size).add (Int.toNat x39)) ∧
 Nw (w30.setCell ((blk w27.heap.size).add (Int.toNat x39)) (.int .u32 (IntKind.u32.wrap s34.1))) fun w31 =>
 n35 ((IntKind.i64.wrap (s34.1 + (1 : Int))), ()) w31))
 (ldI w30 ((blk w4.heap.size).add 0) .u32 fun x40 =>
 ldI w30 ((blk w4.heap.size).add 1) .u32 fun x41 =>
 ldS w30 ((blk w4.heap.size).add 2) fun x42 =>
 callR Try.prog 10 #[(.agg #[(.int .u32 x40), (.int .u32 x41), (.slice x42.a x42.l x42.c)])] w30 fun v43 w32 =>
 ∃ x44 : (Int × Int × Sl × Unit), v43 = (.agg #[(.int .u32 x44.1), (.int .u32 x44.2.1), (.slice x44.2.2.1.a x44.2.2.1.l x44.2.2.1.c)]) ∧
 callR Try.prog 19 #[(.agg #[(.int .u32 x44.1), (.int .u32 x44.2.1), (.slice x44.2.2.1.a x44.2.2.1.l x44.2.2.1.c)]), (.slice (some (blk w27.heap.size)) p1.l p1.l)] w32 fun v45 w33 =>
 ∃ x46 : (Int × Int × Sl × Unit), ∃ x47 : (Int × Int × Unit), v45 = (.tuple #[(.agg #[(.int .u32 x46.1), (.int .u32 x46.2.1), (.slice x46.2.2.1.a x46.2.2.1.l x46.2.2.1.c)]), (.agg #[(.int .i64 x47.1), (.int .i64 x47.2.1)])]) ∧
 Nw (w33.alloc (.cells #[(.int .u32 (0 : Int)), (.int .u32 (0 : Int)), (.slice none 0 0)] 25)) fun w34 =>
 Nw (w34.alloc (.cells #[(.int .i64 (0 : Int)), (.int .i64 (0 : Int))] 29)) fun w35 =>
 Wr w35 (blk w33.heap.size) ∧
 Nw (w35.setCell (blk w33.heap.size) (.int .u32 x46.1)) fun w36 =>
 Wr w36 ((blk w33.heap.size).add 1) ∧
 Nw (w36.setCell ((blk w33.heap.size).add 1) (.int .u32 x46.2.1)) fun w37 =>
 Wr w37 ((blk w33.heap.size).add 2) ∧
 Nw (w37.setCell ((blk w33.heap.size).add 2) (.slice x46.2.2.1.a x46.2.2.1.l x46.2.2.1.c)) fun w38 =>
 Wr w38 (blk w34.heap.size) ∧
 Nw (w38.setCell (blk w34.heap.size) (.int .i64 x47.1)) fun w39 =>
 Wr w39 ((blk w34.heap.size).add 1) ∧
 Nw (w39.setCell ((blk w34.heap.size).add 1) (.int .i64 x47.2.1)) fun w40 =>
 ldI w40.drew (blk w34.heap.size) .i64 fun x48 =>
 ifB (x48 == (0 : Int))
 (ldI w40.drew ((blk w33.heap.size).add 0) .u32 fun x49 =>
 ldI w40.drew ((blk w33.heap.size).add 1) .u32 fun x50 =>
 ldS w40.drew ((blk w33.heap.size).add 2) fun x51 =>
 ldI w40.drew ((blk w.heap.size).add 0) .u32 fun x52 =>
 ldI w40.drew ((blk w.heap.size).add 1) .u32 fun x53 =>
 ldS w40.drew ((blk w.heap.size).add 2) fun x54 =>
 callR Try.prog 13 #[(.agg #[(.int .u32 x49), (.int .u32 x50), (.slice x51.a x51.l x51.c)]), (.agg #[(.int .u32 x52), (.int .u32 x53), (.slice x54.a x54.l x54.c)])] w40.drew fun v55 w41 =>
 ∃ x56 : Bool, v55 = (.bool x56) ∧
 ifB x56
 (ldI w41 ((blk w4.heap.size).add 0) .u32 fun x57 =>
 ldI w41 ((blk w4.heap.size).add 1) .u32 fun x58 =>
 ldS w41 ((blk w4.heap.size).add 2) fun x59 =>
 ldI w41 ((blk w.heap.size).add 0) .u32 fun x60 =>
 ldI w41 ((blk w.heap.size).add 1) .u32 fun x61 =>
 ldS w41 ((blk w.heap.size).add 2) fun x62 =>
 callR Try.prog 10 #[(.agg #[(.int .u32 x57), (.int .u32 x58), (.slice x59.a x59.l x59.c)])] w41 fun v63 w42 =>
 ∃ x64 : (Int × Int × Sl × Unit), v63 = (.agg #[(.int .u32 x64.1), (.int .u32 x64.2.1), (.slice x64.2.2.1.a x64.2.2.1.l x64.2.2.1.c)]) ∧
 w42.cell? ((blk w.heap.size).add 0) = some (.int .u32 x60) ∧
 w42.cell? ((blk w.heap.size).add 1) = some (.int .u32 x61) ∧
 w42.cell? ((blk w.heap.size).add 2) = some (.slice x62.a x62.l x62.c) ∧
 callR Try.prog 11 #[(.agg #[(.int .u32 x64.1), (.int .u32 x64.2.1), (.slice x64.2.2.1.a x64.2.2.1.l x64.2.2.1.c)])] w42 fun v65 w43 =>
 ∃ x66 : (Int × Int × Unit), v65 = (.agg #[(.int .i64 x66.1), (.int .i64 x66.2.1)]) ∧
 w43.cell? ((blk w.heap.size).add 0) = some (.int .u32 x60) ∧
 w43.cell? ((blk w.heap.size).add 1) = some (.int .u32 x61) ∧
 w43.cell? ((blk w.heap.size).add 2) = some (.slice x62.a x62.l x62.c) ∧
 callR Try.prog 10 #[(.agg #[(.int .u32 x60), (.int .u32 x61), (.slice x62.a x62.l x62.c)])] w43 fun v67 w44 =>
 ∃ x68 : (Int × Int × Sl × Unit), v67 = (.agg #[(.int .u32 x68.1), (.int .u32 x68.2.1), (.slice x68.2.2.1.a x68.2.2.1.l x68.2.2.1.c)]) ∧
 callR Try.prog 11 #[(.agg #[(.int .u32 x68.1), (.int .u32 x68.2.1), (.slice x68.2.2.1.a x68.2.2.1.l x68.2.2.1.c)])] w44 fun v69 w45 =>
 ∃ x70 : (Int × Int × Unit), v69 = (.agg #[(.int .i64 x70.1), (.int .i64 x70.2.1)]) ∧
 ifB (x66.1 == x70.1 && (x66.2.1 == x70.2.1 && true))
 (ldI w45 ((blk w.heap.size).add 0) .u32 fun x71 =>
 ldI w45 ((blk w.heap.size).add 1) .u32 fun x72 =>
 ldS w45 ((blk w.heap.size).add 2) fun x73 =>
 ldI w45 ((blk w4.heap.size).add 0) .u32 fun x74 =>
 ldI w45 ((blk w4.heap.size).add 1) .u32 fun x75 =>
 ldS w45 ((blk w4.heap.size).add 2) fun x76 =>
 callR Try.prog 10 #[(.agg #[(.int .u32 x71), (.int .u32 x72), (.slice x73.a x73.l x73.c)])] w45 fun v77 w46 =>
 ∃ x78 : (Int × Int × Sl × Unit), v77 = (.agg #[(.int .u32 x78.1), (.int .u32 x78.2.1), (.slice x78.2.2.1.a x78.2.2.1.l x78.2.2.1.c)]) ∧
 w46.cell? ((blk w4.heap.size).add 0) = some (.int .u32 x74) ∧
 w46.cell? ((blk w4.heap.size).add 1) = some (.int .u32 x75) ∧
 w46.cell? ((blk w4.heap.size).add 2) = some (.slice x76.a x76.l x76.c) ∧
 callR Try.prog 10 #[(.agg #[(.int .u32 x74), (.int .u32 x75), (.slice x76.a x76.l x76.c)])] w46 fun v79 w47 =>
 ∃ x80 : (Int × Int × Sl × Unit), v79 = (.agg #[(.int .u32 x80.1), (.int .u32 x80.2.1), (.slice x80.2.2.1.a x80.2.2.1.l x80.2.2.1.c)]) ∧
 callR Try.prog 23 #[(.agg #[(.int .u32 x78.1), (.int .u32 x78.2.1), (.slice x78.2.2.1.a x78.2.2.1.l x78.2.2.1.c)]), (.agg #[(.int .u32 x80.1), (.int .u32 x80.2.1), (.slice x80.2.2.1.a x80.2.2.1.l x80.2.2.1.c)])] w47 fun v81 w48 =>
 ∃ x82 : Bool, v81 = (.bool x82) ∧
 ifB x82
 (ldI w48 ((blk w4.heap.size).add 0) .u32 fun x83 =>
 ldI w48 ((blk w4.heap.size).add 1) .u32 fun x84 =>
 ldS w48 ((blk w4.heap.size).add 2) fun x85 =>
 ldI w48 ((blk w.heap.size).add 0) .u32 fun x86 =>
 ldI w48 ((blk w.heap.size).add 1) .u32 fun x87 =>
 ldS w48 ((blk w.heap.size).add 2) fun x88 =>
 callR Try.prog 23 #[(.agg #[(.int .u32 x83), (.int .u32 x84), (.slice x85.a x85.l x85.c)]), (.agg #[(.int .u32 x86), (.int .u32 x87), (.slice x88.a x88.l x88.c)])] w48 fun v89 w49 =>
 ∃ x90 : Bool, v89 = (.bool x90) ∧
 R (.bool x90) w49)
 (R (.bool false) w48))
 (R (.bool false) w45))
 (R (.bool false) w41))
 (R (.bool false) w40.drew)))
 ((0 : Int), ()) w29))
theorem intagliolaw09_IdsBack_calls (p0 : (Int × Int × Sl × Unit)) (p1 : Sl) (R : Value → World → Prop) (w : World) (h : L_intagliolaw09_IdsBack p0 p1 R w) : Calls Try.prog 6 #[(.agg #[(.int .u32 p0.1), (.int .u32 p0.2.1), (.slice p0.2.2.1.a p0.2.2.1.l p0.2.2.1.c)]), (.slice p1.a p1.l p1.c)] w (Ret R) :=
 lw_calls (fs := Try.fs) (an := a_intagliolaw09_IdsBack) (args := [(.agg #[(.int .u32 p0.1), (.int .u32 p0.2.1), (.slice p0.2.2.1.a p0.2.2.1.l p0.2.2.1.c)]), (.slice p1.a p1.l p1.c)]) Try.fsOK Try.mixed Try.func6 (by kernel_rfl) (by kernel_rfl)
 (Eq.mpr (by kernel_rfl : lwFn Try.prog Try.fs Try.f6 a_intagliolaw09_IdsBack [(.agg #[(.int .u32 p0.1), (.int .u32 p0.2.1), (.slice p0.2.2.1.a p0.2.2.1.l p0.2.2.1.c)]), (.slice p1.a p1.l p1.c)] w R = L_intagliolaw09_IdsBack p0 p1 R w) h)

/-- intaglio.intagliolaw09.IdsOne -/
def a_intagliolaw09_IdsOne : Ann := (.seq none .nil (.seq none .nil (.seq none (.seq none .nil (.cond (.seq none .nil .nil) .nil)) (.seq none (.seq none .nil (.cond (.seq none .nil .nil) .nil)) (.seq none .nil (.seq (some ⟨[1, 2, 5], []⟩) (.seq none .nil (.cond (.seq none .nil .nil) .nil)) (.seq none .nil (.seq (some ⟨[1, 2, 5, 9], []⟩) (.seq none .nil (.cond (.seq none .nil .nil) .nil)) (.seq none (.seq none .nil (.one (.loop ⟨[1, 2, 5, 9], [(11, (.b (.int .i64)))]⟩ (.seq none (.seq none .nil (.cond .nil .nil)) (.seq (some ⟨[1, 2, 5, 9, 11], []⟩) (.one (.seq none .nil (.cond (.seq none .nil .nil) .nil))) .nil))))) (.seq none .nil (.seq none (.seq none .nil (.cond (.seq none .nil .nil) .nil)) (.seq none .nil (.seq none .nil .nil)))))))))))))
def L_intagliolaw09_IdsOne (p0 : (Int × Int × Sl × Unit)) (p1 : Sl) (R : Value → World → Prop) (w : World) : Prop :=
 Nw (w.alloc (.cells #[(.int .u32 p0.1), (.int .u32 p0.2.1), (.slice p0.2.2.1.a p0.2.2.1.l p0.2.2.1.c)] 25)) fun w1 =>
 ldI w1 ((blk w.heap.size).add 0) .u32 fun x1 =>
 ldI w1 ((blk w.heap.size).add 1) .u32 fun x2 =>
 ldS w1 ((blk w.heap.size).add 2) fun x3 =>
 callR Try.prog 10 #[(.agg #[(.int .u32 x1), (.int .u32 x2), (.slice x3.a x3.l x3.c)])] w1 fun v4 w2 =>
 ∃ x5 : (Int × Int × Sl × Unit), v4 = (.agg #[(.int .u32 x5.1), (.int .u32 x5.2.1), (.slice x5.2.2.1.a x5.2.2.1.l x5.2.2.1.c)]) ∧
 callR Try.prog 15 #[(.agg #[(.int .u32 x5.1), (.int .u32 x5.2.1), (.slice x5.2.2.1.a x5.2.2.1.l x5.2.2.1.c)])] w2 fun v6 w3 =>
 ∃ x7 : (Int × Int × Sl × Unit), ∃ x8 : (Int × Int × Unit), v6 = (.tuple #[(.agg #[(.int .u32 x7.1), (.int .u32 x7.2.1), (.slice x7.2.2.1.a x7.2.2.1.l x7.2.2.1.c)]), (.agg #[(.int .i64 x8.1), (.int .i64 x8.2.1)])]) ∧
 Nw (w3.alloc (.cells #[(.int .u32 (0 : Int)), (.int .u32 (0 : Int)), (.slice none 0 0)] 25)) fun w4 =>
 Nw (w4.alloc (.cells #[(.int .i64 (0 : Int)), (.int .i64 (0 : Int))] 29)) fun w5 =>
 Wr w5 (blk w3.heap.size) ∧
 Nw (w5.setCell (blk w3.heap.size) (.int .u32 x7.1)) fun w6 =>
 Wr w6 ((blk w3.heap.size).add 1) ∧
 Nw (w6.setCell ((blk w3.heap.size).add 1) (.int .u32 x7.2.1)) fun w7 =>
 Wr w7 ((blk w3.heap.size).add 2) ∧
 Nw (w7.setCell ((blk w3.heap.size).add 2) (.slice x7.2.2.1.a x7.2.2.1.l x7.2.2.1.c)) fun w8 =>
 Wr w8 (blk w4.heap.size) ∧
 Nw (w8.setCell (blk w4.heap.size) (.int .i64 x8.1)) fun w9 =>
 Wr w9 ((blk w4.heap.size).add 1) ∧
 Nw (w9.setCell ((blk w4.heap.size).add 1) (.int .i64 x8.2.1)) fun w10 =>
 ldI w10.drew ((blk w4.heap.size).add 0) .i64 fun x9 =>
 ldI w10.drew ((blk w4.heap.size).add 1) .i64 fun x10 =>
 ldI w10.drew ((blk w.heap.size).add 0) .u32 fun x11 =>
 ldI w10.drew ((blk w.heap.size).add 1) .u32 fun x12 =>
 ldS w10.drew ((blk w.heap.size).add 2) fun x13 =>
 callR Try.prog 10 #[(.agg #[(.int .u32 x11), (.int .u32 x12), (.slice x13.a x13.l x13.c)])] w10.drew fun v14 w11 =>
 ∃ x15 : (Int × Int × Sl × Unit), v14 = (.agg #[(.int .u32 x15.1), (.int .u32 x15.2.1), (.slice x15.2.2.1.a x15.2.2.1.l x15.2.2.1.c)]) ∧
 w11.cell? ((blk w4.heap.size).add 0) = some (.int .i64 x9) ∧
 w11.cell? ((blk w4.heap.size).add 1) = some (.int .i64 x10) ∧
 callR Try.prog 11 #[(.agg #[(.int .u32 x15.1), (.int .u32 x15.2.1), (.slice x15.2.2.1.a x15.2.2.1.l x15.2.2.1.c)])] w11 fun v16 w12 =>
 ∃ x17 : (Int × Int × Unit), v16 = (.agg #[(.int .i64 x17.1), (.int .i64 x17.2.1)]) ∧
 w12.cell? ((blk w4.heap.size).add 0) = some (.int .i64 x9) ∧
 w12.cell? ((blk w4.heap.size).add 1) = some (.int .i64 x10) ∧
 ifB (!(x9 == x17.1 && (x10 == x17.2.1 && true)))
 (R (.bool false) w12)
 (ldI w12 (blk w4.heap.size) .i64 fun x18 =>
 ifB (x18 != (0 : Int))
 (ldI w12 ((blk w3.heap.size).add 0) .u32 fun x19 =>
 ldI w12 ((blk w3.heap.size).add 1) .u32 fun x20 =>
 ldS w12 ((blk w3.heap.size).add 2) fun x21 =>
 callR Try.prog 22 #[(.agg #[(.int .u32 x19), (.int .u32 x20), (.slice x21.a x21.l x21.c)])] w12 fun v22 w13 =>
 ∃ x23 : Bool, v22 = (.bool x23) ∧
 R (.bool x23) w13)
 (ldI w12 ((blk w3.heap.size).add 0) .u32 fun x24 =>
 ldI w12 ((blk w3.heap.size).add 1) .u32 fun x25 =>
 ldS w12 ((blk w3.heap.size).add 2) fun x26 =>
 callR Try.prog 10 #[(.agg #[(.int .u32 x24), (.int .u32 x25), (.slice x26.a x26.l x26.c)])] w12 fun v27 w14 =>
 ∃ x28 : (Int × Int × Sl × Unit), v27 = (.agg #[(.int .u32 x28.1), (.int .u32 x28.2.1), (.slice x28.2.2.1.a x28.2.2.1.l x28.2.2.1.c)]) ∧
 callR Try.prog 15 #[(.agg #[(.int .u32 x28.1), (.int .u32 x28.2.1), (.slice x28.2.2.1.a x28.2.2.1.l x28.2.2.1.c)])] w14 fun v29 w15 =>
 ∃ x30 : (Int × Int × Sl × Unit), ∃ x31 : (Int × Int × Unit), v29 = (.tuple #[(.agg #[(.int .u32 x30.1), (.int .u32 x30.2.1), (.slice x30.2.2.1.a x30.2.2.1.l x30.2.2.1.c)]), (.agg #[(.int .i64 x31.1), (.int .i64 x31.2.1)])]) ∧
 Nw (w15.alloc (.cells #[(.int .u32 (0 : Int)), (.int .u32 (0 : Int)), (.slice none 0 0)] 25)) fun w16 =>
 Nw (w16.alloc (.cells #[(.int .i64 (0 : Int)), (.int .i64 (0 : Int))] 29)) fun w17 =>
 Wr w17 (blk w15.heap.size) ∧
 Nw (w17.setCell (blk w15.heap.size) (.int .u32 x30.1)) fun w18 =>
 Wr w18 ((blk w15.heap.size).add 1) ∧
 Nw (w18.setCell ((blk w15.heap.size).add 1) (.int .u32 x30.2.1)) fun w19 =>
 Wr w19 ((blk w15.heap.size).add 2) ∧
 Nw (w19.setCell ((blk w15.heap.size).add 2) (.slice x30.2.2.1.a x30.2.2.1.l x30.2.2.1.c)) fun w20 =>
 Wr w20 (blk w16.heap.size) ∧
 Nw (w20.setCell (blk w16.heap.size) (.int .i64 x31.1)) fun w21 =>
 Wr w21 ((blk w16.heap.size).add 1) ∧
 Nw (w21.setCell ((blk w16.heap.size).add 1) (.int .i64 x31.2.1)) fun w22 =>
 JoinW (S := Unit) (fun m32 =>
 ldI w22 (blk w16.heap.size) .i64 fun x34 =>
 ifB (x34 != (0 : Int))
 (R (.bool false) w22)
 (ldI w22 ((blk w15.heap.size).add 0) .u32 fun x35 =>
 ldI w22 ((blk w15.heap.size).add 1) .u32 fun x36 =>
 ldS w22 ((blk w15.heap.size).add 2) fun x37 =>
 ldI w22 ((blk w3.heap.size).add 0) .u32 fun x38 =>
 ldI w22 ((blk w3.heap.size).add 1) .u32 fun x39 =>
 ldS w22 ((blk w3.heap.size).add 2) fun x40 =>
 callR Try.prog 13 #[(.agg #[(.int .u32 x35), (.int .u32 x36), (.slice x37.a x37.l x37.c)]), (.agg #[(.int .u32 x38), (.int .u32 x39), (.slice x40.a x40.l x40.c)])] w22 fun v41 w23 =>
 ∃ x42 : Bool, v41 = (.bool x42) ∧
 ifB (!x42)
 (R (.bool false) w23)
 (ldI w23 ((blk w.heap.size).add 0) .u32 fun x43 =>
 ldI w23 ((blk w.heap.size).add 1) .u32 fun x44 =>
 ldS w23 ((blk w.heap.size).add 2) fun x45 =>
 ldI w23 ((blk w3.heap.size).add 0) .u32 fun x46 =>
 ldI w23 ((blk w3.heap.size).add 1) .u32 fun x47 =>
 ldS w23 ((blk w3.heap.size).add 2) fun x48 =>
 callR Try.prog 23 #[(.agg #[(.int .u32 x43), (.int .u32 x44), (.slice x45.a x45.l x45.c)]), (.agg #[(.int .u32 x46), (.int .u32 x47), (.slice x48.a x48.l x48.c)])] w23 fun v49 w24 =>
 ∃ x50 : Bool, v49 = (.bool x50) ∧
 ifB (!x50)
 (R (.bool false) w24)
 (m32 (()) w24))))
 (fun s33 w25 =>
 ldI w25 ((blk w3.heap.size).add 0) .u32 fun x51 =>
 ldI w25 ((blk w3.heap.size).add 1) .u32 fun x52 =>
 ldS w25 ((blk w3.heap.size).add 2) fun x53 =>
 callR Try.prog 10 #[(.agg #[(.int .u32 x51), (.int .u32 x52), (.slice x53.a x53.l x53.c)])] w25 fun v54 w26 =>
 ∃ x55 : (Int × Int × Sl × Unit), v54 = (.agg #[(.int .u32 x55.1), (.int .u32 x55.2.1), (.slice x55.2.2.1.a x55.2.2.1.l x55.2.2.1.c)]) ∧
 callR Try.prog 24 #[(.agg #[(.int .u32 x55.1), (.int .u32 x55.2.1), (.slice x55.2.2.1.a x55.2.2.1.l x55.2.2.1.c)])] w26 fun v56 w27 =>
 ∃ x57 : Sl, ∃ x58 : (Int × Int × Unit), v56 = (.tuple #[(.slice x57.a x57.l x57.c), (.agg #[(.int .i64 x58.1), (.int .i64 x58.2.1)])]) ∧
 Nw (w27.alloc (.cells #[(.int .i64 (0 : Int)), (.int .i64 (0 : Int))] 29)) fun w28 =>
 Wr w28 (blk w27.heap.size) ∧
 Nw (w28.setCell (blk w27.heap.size) (.int .i64 x58.1)) fun w29 =>
 Wr w29 ((blk w27.heap.size).add 1) ∧
 Nw (w29.setCell ((blk w27.heap.size).add 1) (.int .i64 x58.2.1)) fun w30 =>
 JoinW (S := Unit) (fun m59 =>
 ldI w30 (blk w27.heap.size) .i64 fun x61 =>
 ifB (x61 != (0 : Int))
 (R (.bool false) w30)
 (ldI w30 ((blk w3.heap.size).add 1) .u32 fun x62 =>
 ifB ((x57.l : Int) != (IntKind.i64.wrap x62))
 (R (.bool false) w30)
 ((0 ≤ (0 : Int) ∧ (0 : Int) < (x57.l : Int)) ∧
 derefP x57.a fun a63 =>
 ldI w30 (a63.add 0) .i64 fun x64 =>
 ifB (x64 != (-1 : Int))
 (R (.bool false) w30)
 (m59 (()) w30))))
 (fun s60 w31 =>
 LoopW (S := Int × Unit) (fun s65 w32 n66 =>
 ifB (decide (s65.1 < (x57.l : Int)))
 (JoinW (S := Unit) (fun m67 =>
 (0 ≤ s65.1 ∧ s65.1 < (x57.l : Int)) ∧
 derefP x57.a fun a69 =>
 ldI w32.drew (a69.add (Int.toNat s65.1)) .i64 fun x70 =>
 ifB (decide (x70 < (0 : Int)))
 (R (.bool false) w32.drew)
 (ifB (decide (s65.1 > (1 : Int)))
 ((0 ≤ s65.1 ∧ s65.1 < (x57.l : Int)) ∧
 derefP x57.a fun a71 =>
 ldI w32.drew (a71.add (Int.toNat s65.1)) .i64 fun x72 =>
 (0 ≤ (IntKind.i64.wrap (s65.1 - (1 : Int))) ∧ (IntKind.i64.wrap (s65.1 - (1 : Int))) < (x57.l : Int)) ∧
 derefP x57.a fun a73 =>
 ldI w32.drew (a73.add (Int.toNat (IntKind.i64.wrap (s65.1 - (1 : Int))))) .i64 fun x74 =>
 ifB (decide (x72 ≤ x74))
 (R (.bool false) w32.drew)
 (m67 (()) w32.drew))
 (m67 (()) w32.drew)))
 (fun s68 w33 =>
 n66 ((IntKind.i64.wrap (s65.1 + (1 : Int))), ()) w33))
 (ldI w32 ((blk w.heap.size).add 0) .u32 fun x75 =>
 ldI w32 ((blk w.heap.size).add 1) .u32 fun x76 =>
 ldS w32 ((blk w.heap.size).add 2) fun x77 =>
 callR Try.prog 10 #[(.agg #[(.int .u32 x75), (.int .u32 x76), (.slice x77.a x77.l x77.c)])] w32 fun v78 w34 =>
 ∃ x79 : (Int × Int × Sl × Unit), v78 = (.agg #[(.int .u32 x79.1), (.int .u32 x79.2.1), (.slice x79.2.2.1.a x79.2.2.1.l x79.2.2.1.c)]) ∧
 callR Try.prog 18 #[(.slice p1.a p1.l p1.c)] w34 fun v80 w35 =>
 ∃ x81 : Sl, v80 = (.slice x81.a x81.l x81.c) ∧
 callR Try.prog 19 #[(.agg #[(.int .u32 x79.1), (.int .u32 x79.2.1), (.slice x79.2.2.1.a x79.2.2.1.l x79.2.2.1.c)]), (.slice x81.a x81.l x81.c)] w35 fun v82 w36 =>
 ∃ x83 : (Int × Int × Sl × Unit), ∃ x84 : (Int × Int × Unit), v82 = (.tuple #[(.agg #[(.int .u32 x83.1), (.int .u32 x83.2.1), (.slice x83.2.2.1.a x83.2.2.1.l x83.2.2.1.c)]), (.agg #[(.int .i64 x84.1), (.int .i64 x84.2.1)])]) ∧
 Nw (w36.alloc (.cells #[(.int .u32 (0 : Int)), (.int .u32 (0 : Int)), (.slice none 0 0)] 25)) fun w37 =>
 Nw (w37.alloc (.cells #[(.int .i64 (0 : Int)), (.int .i64 (0 : Int))] 29)) fun w38 =>
 Wr w38 (blk w36.heap.size) ∧
 Nw (w38.setCell (blk w36.heap.size) (.int .u32 x83.1)) fun w39 =>
 Wr w39 ((blk w36.heap.size).add 1) ∧
 Nw (w39.setCell ((blk w36.heap.size).add 1) (.int .u32 x83.2.1)) fun w40 =>
 Wr w40 ((blk w36.heap.size).add 2) ∧
 Nw (w40.setCell ((blk w36.heap.size).add 2) (.slice x83.2.2.1.a x83.2.2.1.l x83.2.2.1.c)) fun w41 =>
 Wr w41 (blk w37.heap.size) ∧
 Nw (w41.setCell (blk w37.heap.size) (.int .i64 x84.1)) fun w42 =>
 Wr w42 ((blk w37.heap.size).add 1) ∧
 Nw (w42.setCell ((blk w37.heap.size).add 1) (.int .i64 x84.2.1)) fun w43 =>
 ldI w43 (blk w37.heap.size) .i64 fun x85 =>
 ifB (x85 != (0 : Int))
 (R (.bool true) w43)
 (ldI w43 ((blk w36.heap.size).add 0) .u32 fun x86 =>
 ldI w43 ((blk w36.heap.size).add 1) .u32 fun x87 =>
 ldS w43 ((blk w36.heap.size).add 2) fun x88 =>
 callR Try.prog 15 #[(.agg #[(.int .u32 x86), (.int .u32 x87), (.slice x88.a x88.l x88.c)])] w43 fun v89 w44 =>
 ∃ x90 : (Int × Int × Sl × Unit), ∃ x91 : (Int × Int × Unit), v89 = (.tuple #[(.agg #[(.int .u32 x90.1), (.int .u32 x90.2.1), (.slice x90.2.2.1.a x90.2.2.1.l x90.2.2.1.c)]), (.agg #[(.int .i64 x91.1), (.int .i64 x91.2.1)])]) ∧
 Nw (w44.alloc (.cells #[(.int .u32 (0 : Int)), (.int .u32 (0 : Int)), (.slice none 0 0)] 25)) fun w45 =>
 Nw (w45.alloc (.cells #[(.int .i64 (0 : Int)), (.int .i64 (0 : Int))] 29)) fun w46 =>
 Wr w46 (blk w44.heap.size) ∧
 Nw (w46.setCell (blk w44.heap.size) (.int .u32 x90.1)) fun w47 =>
 Wr w47 ((blk w44.heap.size).add 1) ∧
 Nw (w47.setCell ((blk w44.heap.size).add 1) (.int .u32 x90.2.1)) fun w48 =>
 Wr w48 ((blk w44.heap.size).add 2) ∧
 Nw (w48.setCell ((blk w44.heap.size).add 2) (.slice x90.2.2.1.a x90.2.2.1.l x90.2.2.1.c)) fun w49 =>
 Wr w49 (blk w45.heap.size) ∧
 Nw (w49.setCell (blk w45.heap.size) (.int .i64 x91.1)) fun w50 =>
 Wr w50 ((blk w45.heap.size).add 1) ∧
 Nw (w50.setCell ((blk w45.heap.size).add 1) (.int .i64 x91.2.1)) fun w51 =>
 ldI w51 (blk w45.heap.size) .i64 fun x92 =>
 ifB (x92 == (0 : Int))
 (ldI w51 ((blk w44.heap.size).add 0) .u32 fun x93 =>
 ldI w51 ((blk w44.heap.size).add 1) .u32 fun x94 =>
 ldS w51 ((blk w44.heap.size).add 2) fun x95 =>
 ldI w51 ((blk w3.heap.size).add 0) .u32 fun x96 =>
 ldI w51 ((blk w3.heap.size).add 1) .u32 fun x97 =>
 ldS w51 ((blk w3.heap.size).add 2) fun x98 =>
 callR Try.prog 13 #[(.agg #[(.int .u32 x93), (.int .u32 x94), (.slice x95.a x95.l x95.c)]), (.agg #[(.int .u32 x96), (.int .u32 x97), (.slice x98.a x98.l x98.c)])] w51 fun v99 w52 =>
 ∃ x100 : Bool, v99 = (.bool x100) ∧
 R (.bool x100) w52)
 (R (.bool false) w51))))
 ((1 : Int), ()) w31))))
theorem intagliolaw09_IdsOne_calls (p0 : (Int × Int × Sl × Unit)) (p1 : Sl) (R : Value → World → Prop) (w : World) (h : L_intagliolaw09_IdsOne p0 p1 R w) : Calls Try.prog 7 #[(.agg #[(.int .u32 p0.1), (.int .u32 p0.2.1), (.slice p0.2.2.1.a p0.2.2.1.l p0.2.2.1.c)]), (.slice p1.a p1.l p1.c)] w (Ret R) :=
 lw_calls (fs := Try.fs) (an := a_intagliolaw09_IdsOne) (args := [(.agg #[(.int .u32 p0.1), (.int .u32 p0.2.1), (.slice p0.2.2.1.a p0.2.2.1.l p0.2.2.1.c)]), (.slice p1.a p1.l p1.c)]) Try.fsOK Try.mixed Try.func7 (by kernel_rfl) (by kernel_rfl)
 (Eq.mpr (by kernel_rfl : lwFn Try.prog Try.fs Try.f7 a_intagliolaw09_IdsOne [(.agg #[(.int .u32 p0.1), (.int .u32 p0.2.1), (.slice p0.2.2.1.a p0.2.2.1.l p0.2.2.1.c)]), (.slice p1.a p1.l p1.c)] w R = L_intagliolaw09_IdsOne p0 p1 R w) h)

/-- intaglio.intagliokit.None -/
def a_intagliokit_None : Ann := (.seq none .nil (.seq none .nil .nil))
def L_intagliokit_None (p0 : (Int × Int × Sl × Unit)) (R : Value → World → Prop) (w : World) : Prop :=
 Nw (w.alloc (.cells #[(.int .u32 p0.1), (.int .u32 p0.2.1), (.slice p0.2.2.1.a p0.2.2.1.l p0.2.2.1.c)] 25)) fun w1 =>
 ldI w1 (blk w.heap.size) .u32 fun x1 =>
 ifB (x1 == (0 : Int))
 (ldI w1 ((blk w.heap.size).add 1) .u32 fun x2 =>
 ifB (x2 == (0 : Int))
 (ldS w1 ((blk w.heap.size).add 2) fun x3 =>
 R (.bool ((x3.l : Int) == (0 : Int))) w1)
 (R (.bool false) w1))
 (R (.bool false) w1)
theorem intagliokit_None_calls (p0 : (Int × Int × Sl × Unit)) (R : Value → World → Prop) (w : World) (h : L_intagliokit_None p0 R w) : Calls Try.prog 22 #[(.agg #[(.int .u32 p0.1), (.int .u32 p0.2.1), (.slice p0.2.2.1.a p0.2.2.1.l p0.2.2.1.c)])] w (Ret R) :=
 lw_calls (fs := Try.fs) (an := a_intagliokit_None) (args := [(.agg #[(.int .u32 p0.1), (.int .u32 p0.2.1), (.slice p0.2.2.1.a p0.2.2.1.l p0.2.2.1.c)])]) Try.fsOK Try.mixed Try.func22 (by kernel_rfl) (by kernel_rfl)
 (Eq.mpr (by kernel_rfl : lwFn Try.prog Try.fs Try.f22 a_intagliokit_None [(.agg #[(.int .u32 p0.1), (.int .u32 p0.2.1), (.slice p0.2.2.1.a p0.2.2.1.l p0.2.2.1.c)])] w R = L_intagliokit_None p0 R w) h)

end Go.Proofs
