/-
 Printed by a program of the author: what each function comes to.
-/
import Derived.Test.YtpeonjpjphhenaaProg
import Derived.Test.YtpeonjpjphhenaaGkR
import Derived.Test.YtpeonjpjphhenaaLb
namespace Go.Proofs
open Go.Gk
set_option linter.unusedVariables false
set_option maxRecDepth 100000

/-- intaglio.grammar.Fits -/
def a_grammar_Fits : Ann := (.seq none .nil (.seq none .nil (.seq none (.seq none .nil (.cond (.seq none .nil .nil) .nil)) (.seq none .nil (.seq none (.seq none .nil (.one (.loop ⟨[1, 8, 21, 22], [(23, (.b (.int .i64)))]⟩ (.seq none .nil (.seq none (.cond .nil .nil) (.seq (some ⟨[1, 8, 21, 22, 23], []⟩) (.one (.seq none .nil (.seq none .nil (.cond (.seq none .nil .nil) .nil)))) .nil)))))) (.seq none .nil (.seq none (.seq none .nil (.cond (.seq none .nil .nil) .nil)) (.seq none .nil .nil))))))))
def L_grammar_Fits (p0 : Int) (p1 : Sl) (R : Value → World → Prop) (w : World) : Prop :=
 callR Try.prog 90 #[(.int .u16 p0)] w fun v1 w1 =>
 ∃ x2 : (Int × ByteArray × Bool × Bool × ByteArray × ByteArray × Int × Int × Unit), ∃ x3 : Bool, v1 = (.tuple #[(.agg #[(.int .u16 x2.1), (.string x2.2.1), (.bool x2.2.2.1), (.bool x2.2.2.2.1), (.string x2.2.2.2.2.1), (.string x2.2.2.2.2.2.1), (.int .i64 x2.2.2.2.2.2.2.1), (.int .u8 x2.2.2.2.2.2.2.2.1)]), (.bool x3)]) ∧
 Nw (w1.alloc (.cells #[(.int .u16 (0 : Int)), (.string (ByteArray.mk #[])), (.bool false), (.bool false), (.string (ByteArray.mk #[])), (.string (ByteArray.mk #[])), (.int .i64 (0 : Int)), (.int .u8 (0 : Int))] 133)) fun w2 =>
 Wr w2 (blk w1.heap.size) ∧
 Nw (w2.setCell (blk w1.heap.size) (.int .u16 x2.1)) fun w3 =>
 Wr w3 ((blk w1.heap.size).add 1) ∧
 Nw (w3.setCell ((blk w1.heap.size).add 1) (.string x2.2.1)) fun w4 =>
 Wr w4 ((blk w1.heap.size).add 2) ∧
 Nw (w4.setCell ((blk w1.heap.size).add 2) (.bool x2.2.2.1)) fun w5 =>
 Wr w5 ((blk w1.heap.size).add 3) ∧
 Nw (w5.setCell ((blk w1.heap.size).add 3) (.bool x2.2.2.2.1)) fun w6 =>
 Wr w6 ((blk w1.heap.size).add 4) ∧
 Nw (w6.setCell ((blk w1.heap.size).add 4) (.string x2.2.2.2.2.1)) fun w7 =>
 Wr w7 ((blk w1.heap.size).add 5) ∧
 Nw (w7.setCell ((blk w1.heap.size).add 5) (.string x2.2.2.2.2.2.1)) fun w8 =>
 Wr w8 ((blk w1.heap.size).add 6) ∧
 Nw (w8.setCell ((blk w1.heap.size).add 6) (.int .i64 x2.2.2.2.2.2.2.1)) fun w9 =>
 Wr w9 ((blk w1.heap.size).add 7) ∧
 Nw (w9.setCell ((blk w1.heap.size).add 7) (.int .u8 x2.2.2.2.2.2.2.2.1)) fun w10 =>
 ifB (!x3)
 (R (.tuple #[(.int .i64 (0 : Int)), (.bool false)]) w10)
 (ldI w10 ((blk w1.heap.size).add 0) .u16 fun x4 =>
 ldStr w10 ((blk w1.heap.size).add 1) fun x5 =>
 ldB w10 ((blk w1.heap.size).add 2) fun x6 =>
 ldB w10 ((blk w1.heap.size).add 3) fun x7 =>
 ldStr w10 ((blk w1.heap.size).add 4) fun x8 =>
 ldStr w10 ((blk w1.heap.size).add 5) fun x9 =>
 ldI w10 ((blk w1.heap.size).add 6) .i64 fun x10 =>
 ldI w10 ((blk w1.heap.size).add 7) .u8 fun x11 =>
 Nw (w10.alloc (.cells #[(.int .u16 (0 : Int)), (.string (ByteArray.mk #[])), (.bool false), (.bool false), (.string (ByteArray.mk #[])), (.string (ByteArray.mk #[])), (.int .i64 (0 : Int)), (.int .u8 (0 : Int))] 149)) fun w11 =>
 Wr w11 (blk w10.heap.size) ∧
 Nw (w11.setCell (blk w10.heap.size) (.int .u16 x4)) fun w12 =>
 Wr w12 ((blk w10.heap.size).add 1) ∧
 Nw (w12.setCell ((blk w10.heap.size).add 1) (.string x5)) fun w13 =>
 Wr w13 ((blk w10.heap.size).add 2) ∧
 Nw (w13.setCell ((blk w10.heap.size).add 2) (.bool x6)) fun w14 =>
 Wr w14 ((blk w10.heap.size).add 3) ∧
 Nw (w14.setCell ((blk w10.heap.size).add 3) (.bool x7)) fun w15 =>
 Wr w15 ((blk w10.heap.size).add 4) ∧
 Nw (w15.setCell ((blk w10.heap.size).add 4) (.string x8)) fun w16 =>
 Wr w16 ((blk w10.heap.size).add 5) ∧
 Nw (w16.setCell ((blk w10.heap.size).add 5) (.string x9)) fun w17 =>
 Wr w17 ((blk w10.heap.size).add 6) ∧
 Nw (w17.setCell ((blk w10.heap.size).add 6) (.int .i64 x10)) fun w18 =>
 Wr w18 ((blk w10.heap.size).add 7) ∧
 Nw (w18.setCell ((blk w10.heap.size).add 7) (.int .u8 x11)) fun w19 =>
 LoopW (S := Int × Unit) (fun s12 w20 n13 =>
 ifB (decide (s12.1 < (p1.l : Int)))
 (JoinW (S := Unit) (fun m14 =>
 (0 ≤ s12.1 ∧ s12.1 < (p1.l : Int)) ∧
 derefP p1.a fun a16 =>
 ldI w20 (a16.add (Int.toNat s12.1)) .u8 fun x17 =>
 ifB (x17 == (0 : Int))
 (R (.tuple #[(.int .i64 s12.1), (.bool false)]) w20)
 (ldI w20 ((blk w10.heap.size).add 0) .u16 fun x18 =>
 ldStr w20 ((blk w10.heap.size).add 1) fun x19 =>
 ldB w20 ((blk w10.heap.size).add 2) fun x20 =>
 ldB w20 ((blk w10.heap.size).add 3) fun x21 =>
 ldStr w20 ((blk w10.heap.size).add 4) fun x22 =>
 ldStr w20 ((blk w10.heap.size).add 5) fun x23 =>
 ldI w20 ((blk w10.heap.size).add 6) .i64 fun x24 =>
 ldI w20 ((blk w10.heap.size).add 7) .u8 fun x25 =>
 callR Try.prog 92 #[(.agg #[(.int .u16 x18), (.string x19), (.bool x20), (.bool x21), (.string x22), (.string x23), (.int .i64 x24), (.int .u8 x25)]), (.int .i64 s12.1)] w20 fun v26 w21 =>
 ∃ x27 : Int, v26 = (.int .u8 x27) ∧
 callR Try.prog 91 #[(.int .u8 x27)] w21 fun v28 w22 =>
 ∃ x29 : Int, v28 = (.int .u8 x29) ∧
 ifB (x29 != x17)
 (R (.tuple #[(.int .i64 s12.1), (.bool false)]) w22)
 (m14 (()) w22)))
 (fun s15 w23 =>
 n13 ((IntKind.i64.wrap (s12.1 + (1 : Int))), ()) w23))
 (ldStr w20 ((blk w10.heap.size).add 4) fun x30 =>
 ifB (decide ((IntKind.i64.wrap ((p1.l : Int) - (x30.size : Int))) < (0 : Int)))
 (R (.tuple #[(.int .i64 (p1.l : Int)), (.bool false)]) w20)
 (ldStr w20 ((blk w10.heap.size).add 5) fun x31 =>
 ifB (!(x31.toList == (ByteArray.mk #[]).toList))
 (ldStr w20 ((blk w10.heap.size).add 5) fun x32 =>
 ifB (decide ((x32.size : Int) = 0))
 (False)
 (ifB ((Int.tmod (IntKind.i64.wrap ((p1.l : Int) - (x30.size : Int))) (x32.size : Int)) != (0 : Int))
 (R (.tuple #[(.int .i64 (p1.l : Int)), (.bool false)]) w20)
 (R (.tuple #[(.int .i64 (0 : Int)), (.bool true)]) w20)))
 (R (.tuple #[(.int .i64 (0 : Int)), (.bool true)]) w20))))
 ((0 : Int), ()) w19)
theorem grammar_Fits_calls (p0 : Int) (p1 : Sl) (R : Value → World → Prop) (w : World) (h : L_grammar_Fits p0 p1 R w) : Calls Try.prog 63 #[(.int .u16 p0), (.slice p1.a p1.l p1.c)] w (Ret R) :=
 lw_calls (fs := Try.fs) (an := a_grammar_Fits) (args := [(.int .u16 p0), (.slice p1.a p1.l p1.c)]) Try.fsOK Try.mixed Try.func63 (by kernel_rfl) (by kernel_rfl)
 (Eq.mpr (by kernel_rfl : lwFn Try.prog Try.fs Try.f63 a_grammar_Fits [(.int .u16 p0), (.slice p1.a p1.l p1.c)] w R = L_grammar_Fits p0 p1 R w) h)

/-- intaglio.grammar.Of -/
def a_grammar_Of : Ann := (.seq none .nil (.seq none .nil (.seq none (.seq none .nil (.cond (.seq none .nil .nil) .nil)) (.seq none .nil (.seq none .nil (.seq none (.seq none .nil (.one (.loop ⟨[2, 5, 6, 30], []⟩ (.seq none .nil (.seq none (.cond .nil .nil) (.one (.seq none .nil (.seq (some ⟨[2, 5, 6, 8, 30], []⟩) .nil .nil)))))))) (.seq (some ⟨[2, 6], []⟩) (.seq none .nil (.cond .nil .nil)) (.seq none .nil .nil))))))))
def L_grammar_Of (p0 : Int) (R : Value → World → Prop) (w : World) : Prop :=
 Nw (w.alloc (.cells #[(.int .u16 (0 : Int)), (.string (ByteArray.mk #[])), (.bool false), (.bool false), (.string (ByteArray.mk #[])), (.string (ByteArray.mk #[])), (.int .i64 (0 : Int)), (.int .u8 (0 : Int))] 133)) fun w1 =>
 callR Try.prog 115 #[(.int .u16 p0)] w1 fun v1 w2 =>
 ∃ x2 : ByteArray, v1 = (.string x2) ∧
 ifB (x2.toList == (ByteArray.mk #[]).toList)
 (Wr w2 (blk w.heap.size) ∧
 Nw (w2.setCell (blk w.heap.size) (.int .u16 (0 : Int))) fun w3 =>
 Wr w3 ((blk w.heap.size).add 1) ∧
 Nw (w3.setCell ((blk w.heap.size).add 1) (.string (ByteArray.mk #[]))) fun w4 =>
 Wr w4 ((blk w.heap.size).add 2) ∧
 Nw (w4.setCell ((blk w.heap.size).add 2) (.bool false)) fun w5 =>
 Wr w5 ((blk w.heap.size).add 3) ∧
 Nw (w5.setCell ((blk w.heap.size).add 3) (.bool false)) fun w6 =>
 Wr w6 ((blk w.heap.size).add 4) ∧
 Nw (w6.setCell ((blk w.heap.size).add 4) (.string (ByteArray.mk #[]))) fun w7 =>
 Wr w7 ((blk w.heap.size).add 5) ∧
 Nw (w7.setCell ((blk w.heap.size).add 5) (.string (ByteArray.mk #[]))) fun w8 =>
 Wr w8 ((blk w.heap.size).add 6) ∧
 Nw (w8.setCell ((blk w.heap.size).add 6) (.int .i64 (0 : Int))) fun w9 =>
 Wr w9 ((blk w.heap.size).add 7) ∧
 Nw (w9.setCell ((blk w.heap.size).add 7) (.int .u8 (0 : Int))) fun w10 =>
 ldI w10 ((blk w.heap.size).add 0) .u16 fun x3 =>
 ldStr w10 ((blk w.heap.size).add 1) fun x4 =>
 ldB w10 ((blk w.heap.size).add 2) fun x5 =>
 ldB w10 ((blk w.heap.size).add 3) fun x6 =>
 ldStr w10 ((blk w.heap.size).add 4) fun x7 =>
 ldStr w10 ((blk w.heap.size).add 5) fun x8 =>
 ldI w10 ((blk w.heap.size).add 6) .i64 fun x9 =>
 ldI w10 ((blk w.heap.size).add 7) .u8 fun x10 =>
 R (.tuple #[(.agg #[(.int .u16 x3), (.string x4), (.bool x5), (.bool x6), (.string x7), (.string x8), (.int .i64 x9), (.int .u8 x10)]), (.bool false)]) w10)
 (callR Try.prog 116 #[(.string x2)] w2 fun v11 w11 =>
 ∃ x12 : (ByteArray × ByteArray × ByteArray × ByteArray × ByteArray × ByteArray × Unit), v11 = (.agg #[(.string x12.1), (.string x12.2.1), (.string x12.2.2.1), (.string x12.2.2.2.1), (.string x12.2.2.2.2.1), (.string x12.2.2.2.2.2.1)]) ∧
 Nw (w11.alloc (.cells #[(.string (ByteArray.mk #[])), (.string (ByteArray.mk #[])), (.string (ByteArray.mk #[])), (.string (ByteArray.mk #[])), (.string (ByteArray.mk #[])), (.string (ByteArray.mk #[]))] 179)) fun w12 =>
 Wr w12 (blk w11.heap.size) ∧
 Nw (w12.setCell (blk w11.heap.size) (.string x12.1)) fun w13 =>
 Wr w13 ((blk w11.heap.size).add 1) ∧
 Nw (w13.setCell ((blk w11.heap.size).add 1) (.string x12.2.1)) fun w14 =>
 Wr w14 ((blk w11.heap.size).add 2) ∧
 Nw (w14.setCell ((blk w11.heap.size).add 2) (.string x12.2.2.1)) fun w15 =>
 Wr w15 ((blk w11.heap.size).add 3) ∧
 Nw (w15.setCell ((blk w11.heap.size).add 3) (.string x12.2.2.2.1)) fun w16 =>
 Wr w16 ((blk w11.heap.size).add 4) ∧
 Nw (w16.setCell ((blk w11.heap.size).add 4) (.string x12.2.2.2.2.1)) fun w17 =>
 Wr w17 ((blk w11.heap.size).add 5) ∧
 Nw (w17.setCell ((blk w11.heap.size).add 5) (.string x12.2.2.2.2.2.1)) fun w18 =>
 (0 ≤ (0 : Int) ∧ (0 : Int) < (6 : Int)) ∧
 ldStr w18.drew ((blk w11.heap.size).add 0) fun x13 =>
 (0 ≤ (2 : Int) ∧ (2 : Int) < (6 : Int)) ∧
 ldStr w18.drew ((blk w11.heap.size).add 2) fun x14 =>
 (0 ≤ (3 : Int) ∧ (3 : Int) < (6 : Int)) ∧
 ldStr w18.drew ((blk w11.heap.size).add 3) fun x15 =>
 (0 ≤ (5 : Int) ∧ (5 : Int) < (6 : Int)) ∧
 ldStr w18.drew ((blk w11.heap.size).add 5) fun x16 =>
 (0 ≤ (0 : Int) ∧ (0 : Int) < (x16.size : Int)) ∧
 Nw (w18.drew.alloc (.cells #[(.int .u16 (0 : Int)), (.string (ByteArray.mk #[])), (.bool false), (.bool false), (.string (ByteArray.mk #[])), (.string (ByteArray.mk #[])), (.int .i64 (0 : Int)), (.int .u8 (0 : Int))] 133)) fun w19 =>
 w19.cell? ((blk w11.heap.size).add 5) = some (.string x16) ∧
 w19.cell? ((blk w11.heap.size).add 3) = some (.string x15) ∧
 w19.cell? ((blk w11.heap.size).add 2) = some (.string x14) ∧
 w19.cell? ((blk w11.heap.size).add 0) = some (.string x13) ∧
 Wr w19 (blk w18.drew.heap.size) ∧
 Nw (w19.setCell (blk w18.drew.heap.size) (.int .u16 p0)) fun w20 =>
 Wr w20 ((blk w18.drew.heap.size).add 1) ∧
 Nw (w20.setCell ((blk w18.drew.heap.size).add 1) (.string x13)) fun w21 =>
 Wr w21 ((blk w18.drew.heap.size).add 2) ∧
 Nw (w21.setCell ((blk w18.drew.heap.size).add 2) (.bool false)) fun w22 =>
 Wr w22 ((blk w18.drew.heap.size).add 3) ∧
 Nw (w22.setCell ((blk w18.drew.heap.size).add 3) (.bool false)) fun w23 =>
 Wr w23 ((blk w18.drew.heap.size).add 4) ∧
 Nw (w23.setCell ((blk w18.drew.heap.size).add 4) (.string x14)) fun w24 =>
 Wr w24 ((blk w18.drew.heap.size).add 5) ∧
 Nw (w24.setCell ((blk w18.drew.heap.size).add 5) (.string x15)) fun w25 =>
 Wr w25 ((blk w18.drew.heap.size).add 6) ∧
 Nw (w25.setCell ((blk w18.drew.heap.size).add 6) (.int .i64 (0 : Int))) fun w26 =>
 Wr w26 ((blk w18.drew.heap.size).add 7) ∧
 Nw (w26.setCell ((blk w18.drew.heap.size).add 7) (.int .u8 (IntKind.u8.wrap ((byteI x16 (0 : Int)) - (48 : Int))))) fun w27 =>
 (0 ≤ (1 : Int) ∧ (1 : Int) < (6 : Int)) ∧
 ldStr w27 ((blk w11.heap.size).add 1) fun x17 =>
 Nw (w27.alloc (.stringIter x17 0)) fun w28 =>
 LoopW (S := Unit) (fun s18 w29 n19 =>
 nextW w27.heap.size w29 (fun i20 c21 w30 =>
 JoinW (S := Unit) (fun m22 =>
 ldB w30 ((blk w18.drew.heap.size).add 2) fun x24 =>
 ifB x24
 (Wr w30 ((blk w18.drew.heap.size).add 2) ∧
 Nw (w30.setCell ((blk w18.drew.heap.size).add 2) (.bool true)) fun w31 =>
 m22 (()) w31)
 (Wr w30 ((blk w18.drew.heap.size).add 2) ∧
 Nw (w30.setCell ((blk w18.drew.heap.size).add 2) (.bool (c21 == (84 : Int)))) fun w32 =>
 m22 (()) w32))
 (fun s23 w33 =>
 ldB w33 ((blk w18.drew.heap.size).add 3) fun x25 =>
 ifB x25
 (Wr w33 ((blk w18.drew.heap.size).add 3) ∧
 Nw (w33.setCell ((blk w18.drew.heap.size).add 3) (.bool true)) fun w34 =>
 n19 (()) w34)
 (Wr w33 ((blk w18.drew.heap.size).add 3) ∧
 Nw (w33.setCell ((blk w18.drew.heap.size).add 3) (.bool (c21 == (82 : Int)))) fun w35 =>
 n19 (()) w35)))
 (JoinW (S := Unit) (fun m26 =>
 (0 ≤ (4 : Int) ∧ (4 : Int) < (6 : Int)) ∧
 ldStr w29 ((blk w11.heap.size).add 4) fun x28 =>
 ifB (!(x28.toList == (ByteArray.mk #[]).toList))
 ((0 ≤ (4 : Int) ∧ (4 : Int) < (6 : Int)) ∧
 ldStr w29 ((blk w11.heap.size).add 4) fun x29 =>
 (0 ≤ (0 : Int) ∧ (0 : Int) < (x29.size : Int)) ∧
 Wr w29 ((blk w18.drew.heap.size).add 6) ∧
 Nw (w29.setCell ((blk w18.drew.heap.size).add 6) (.int .i64 (IntKind.i64.wrap (IntKind.u8.wrap ((byteI x29 (0 : Int)) - (48 : Int)))))) fun w36 =>
 m26 (()) w36)
 (m26 (()) w29))
 (fun s27 w37 =>
 ldI w37 ((blk w18.drew.heap.size).add 0) .u16 fun x30 =>
 ldStr w37 ((blk w18.drew.heap.size).add 1) fun x31 =>
 ldB w37 ((blk w18.drew.heap.size).add 2) fun x32 =>
 ldB w37 ((blk w18.drew.heap.size).add 3) fun x33 =>
 ldStr w37 ((blk w18.drew.heap.size).add 4) fun x34 =>
 ldStr w37 ((blk w18.drew.heap.size).add 5) fun x35 =>
 ldI w37 ((blk w18.drew.heap.size).add 6) .i64 fun x36 =>
 ldI w37 ((blk w18.drew.heap.size).add 7) .u8 fun x37 =>
 Wr w37 (blk w.heap.size) ∧
 Nw (w37.setCell (blk w.heap.size) (.int .u16 x30)) fun w38 =>
 Wr w38 ((blk w.heap.size).add 1) ∧
 Nw (w38.setCell ((blk w.heap.size).add 1) (.string x31)) fun w39 =>
 Wr w39 ((blk w.heap.size).add 2) ∧
 Nw (w39.setCell ((blk w.heap.size).add 2) (.bool x32)) fun w40 =>
 Wr w40 ((blk w.heap.size).add 3) ∧
 Nw (w40.setCell ((blk w.heap.size).add 3) (.bool x33)) fun w41 =>
 Wr w41 ((blk w.heap.size).add 4) ∧
 Nw (w41.setCell ((blk w.heap.size).add 4) (.string x34)) fun w42 =>
 Wr w42 ((blk w.heap.size).add 5) ∧
 Nw (w42.setCell ((blk w.heap.size).add 5) (.string x35)) fun w43 =>
 Wr w43 ((blk w.heap.size).add 6) ∧
 Nw (w43.setCell ((blk w.heap.size).add 6) (.int .i64 x36)) fun w44 =>
 Wr w44 ((blk w.heap.size).add 7) ∧
 Nw (w44.setCell ((blk w.heap.size).add 7) (.int .u8 x37)) fun w45 =>
 ldI w45 ((blk w.heap.size).add 0) .u16 fun x38 =>
 ldStr w45 ((blk w.heap.size).add 1) fun x39 =>
 ldB w45 ((blk w.heap.size).add 2) fun x40 =>
 ldB w45 ((blk w.heap.size).add 3) fun x41 =>
 ldStr w45 ((blk w.heap.size).add 4) fun x42 =>
 ldStr w45 ((blk w.heap.size).add 5) fun x43 =>
 ldI w45 ((blk w.heap.size).add 6) .i64 fun x44 =>
 ldI w45 ((blk w.heap.size).add 7) .u8 fun x45 =>
 R (.tuple #[(.agg #[(.int .u16 x38), (.string x39), (.bool x40), (.bool x41), (.string x42), (.string x43), (.int .i64 x44), (.int .u8 x45)]), (.bool true)]) w45)))
 (()) w28)
theorem grammar_Of_calls (p0 : Int) (R : Value → World → Prop) (w : World) (h : L_grammar_Of p0 R w) : Calls Try.prog 90 #[(.int .u16 p0)] w (Ret R) :=
 lw_calls (fs := Try.fs) (an := a_grammar_Of) (args := [(.int .u16 p0)]) Try.fsOK Try.mixed Try.func90 (by kernel_rfl) (by kernel_rfl)
 (Eq.mpr (by kernel_rfl : lwFn Try.prog Try.fs Try.f90 a_grammar_Of [(.int .u16 p0)] w R = L_grammar_Of p0 R w) h)

/-- intaglio.grammar.Kind -/
def a_grammar_Kind : Ann := (.seq none .nil (.seq none (.seq none .nil (.one (.seq none .nil (.cond (.seq none .nil .nil) (.seq none .nil (.cond (.seq none .nil .nil) (.seq none .nil (.cond (.seq none .nil .nil) .nil)))))))) (.seq none (.seq none .nil (.cond (.seq none .nil .nil) .nil)) (.seq none .nil .nil))))
def L_grammar_Kind (p0 : Int) (R : Value → World → Prop) (w : World) : Prop :=
 ifB (p0 == (105 : Int))
 (R (.int .u8 (1 : Int)) w)
 (ifB (p0 == (110 : Int))
 (R (.int .u8 (2 : Int)) w)
 (ifB (p0 == (115 : Int))
 (R (.int .u8 (3 : Int)) w)
 (callR Try.prog 117 #[(.int .u8 p0)] w fun v1 w1 =>
 ∃ x2 : ByteArray, v1 = (.string x2) ∧
 ifB (!(x2.toList == (ByteArray.mk #[]).toList))
 (R (.int .u8 (4 : Int)) w1)
 (R (.int .u8 (0 : Int)) w1))))
theorem grammar_Kind_calls (p0 : Int) (R : Value → World → Prop) (w : World) (h : L_grammar_Kind p0 R w) : Calls Try.prog 91 #[(.int .u8 p0)] w (Ret R) :=
 lw_calls (fs := Try.fs) (an := a_grammar_Kind) (args := [(.int .u8 p0)]) Try.fsOK Try.mixed Try.func91 (by kernel_rfl) (by kernel_rfl)
 (Eq.mpr (by kernel_rfl : lwFn Try.prog Try.fs Try.f91 a_grammar_Kind [(.int .u8 p0)] w R = L_grammar_Kind p0 R w) h)

/-- (intaglio.grammar.form).letter -/
def a_grammar_form_letter : Ann := (.seq none .nil (.seq none (.seq none .nil (.cond (.seq none .nil .nil) .nil)) (.seq none (.seq none .nil (.one (.loop ⟨[1, 14, 15], [(16, (.b (.int .i64)))]⟩ (.seq none .nil (.seq none (.cond .nil .nil) (.seq none (.one (.seq none .nil (.seq none .nil (.seq none .nil (.cond (.seq none .nil .nil) .nil))))) .nil)))))) (.seq none .nil .nil))))
def L_grammar_form_letter (p0 : (Int × ByteArray × Bool × Bool × ByteArray × ByteArray × Int × Int × Unit)) (p1 : Int) (R : Value → World → Prop) (w : World) : Prop :=
 Nw (w.alloc (.cells #[(.int .u16 p0.1), (.string p0.2.1), (.bool p0.2.2.1), (.bool p0.2.2.2.1), (.string p0.2.2.2.2.1), (.string p0.2.2.2.2.2.1), (.int .i64 p0.2.2.2.2.2.2.1), (.int .u8 p0.2.2.2.2.2.2.2.1)] 149)) fun w1 =>
 ifB (decide (p1 < (0 : Int)))
 (R (.int .u8 (0 : Int)) w1)
 (ldI w1 ((blk w.heap.size).add 0) .u16 fun x1 =>
 ldStr w1 ((blk w.heap.size).add 1) fun x2 =>
 ldB w1 ((blk w.heap.size).add 2) fun x3 =>
 ldB w1 ((blk w.heap.size).add 3) fun x4 =>
 ldStr w1 ((blk w.heap.size).add 4) fun x5 =>
 ldStr w1 ((blk w.heap.size).add 5) fun x6 =>
 ldI w1 ((blk w.heap.size).add 6) .i64 fun x7 =>
 ldI w1 ((blk w.heap.size).add 7) .u8 fun x8 =>
 ldI w1 ((blk w.heap.size).add 0) .u16 fun x9 =>
 ldStr w1 ((blk w.heap.size).add 1) fun x10 =>
 ldB w1 ((blk w.heap.size).add 2) fun x11 =>
 ldB w1 ((blk w.heap.size).add 3) fun x12 =>
 ldStr w1 ((blk w.heap.size).add 4) fun x13 =>
 ldStr w1 ((blk w.heap.size).add 5) fun x14 =>
 ldI w1 ((blk w.heap.size).add 6) .i64 fun x15 =>
 ldI w1 ((blk w.heap.size).add 7) .u8 fun x16 =>
 Nw (w1.alloc (.cells #[(.func (.func 118) #[(.agg #[(.int .u16 x1), (.string x2), (.bool x3), (.bool x4), (.string x5), (.string x6), (.int .i64 x7), (.int .u8 x8)])] #[]), (.func (.func 119) #[(.agg #[(.int .u16 x9), (.string x10), (.bool x11), (.bool x12), (.string x13), (.string x14), (.int .i64 x15), (.int .u8 x16)])] #[])] 151)) fun w2 =>
 LoopW (S := Int × Unit) (fun s17 w3 n18 =>
 ifB (decide (s17.1 < (2 : Int)))
 ((0 ≤ s17.1 ∧ s17.1 < (2 : Int)) ∧
 ldR w3 ((blk w1.heap.size).add (Int.toNat s17.1)) fun x19 =>
 callV Try.prog Try.fs x19 [(.int .i64 p1)] w3 fun v20 w4 =>
 ∃ x21 : Int, v20 = (.int .u8 x21) ∧
 ifB (x21 != (0 : Int))
 (R (.int .u8 x21) w4)
 (n18 ((IntKind.i64.wrap (s17.1 + (1 : Int))), ()) w4))
 (R (.int .u8 (0 : Int)) w3))
 ((0 : Int), ()) w2)
theorem grammar_form_letter_calls (p0 : (Int × ByteArray × Bool × Bool × ByteArray × ByteArray × Int × Int × Unit)) (p1 : Int) (R : Value → World → Prop) (w : World) (h : L_grammar_form_letter p0 p1 R w) : Calls Try.prog 92 #[(.agg #[(.int .u16 p0.1), (.string p0.2.1), (.bool p0.2.2.1), (.bool p0.2.2.2.1), (.string p0.2.2.2.2.1), (.string p0.2.2.2.2.2.1), (.int .i64 p0.2.2.2.2.2.2.1), (.int .u8 p0.2.2.2.2.2.2.2.1)]), (.int .i64 p1)] w (Ret R) :=
 lw_calls (fs := Try.fs) (an := a_grammar_form_letter) (args := [(.agg #[(.int .u16 p0.1), (.string p0.2.1), (.bool p0.2.2.1), (.bool p0.2.2.2.1), (.string p0.2.2.2.2.1), (.string p0.2.2.2.2.2.1), (.int .i64 p0.2.2.2.2.2.2.1), (.int .u8 p0.2.2.2.2.2.2.2.1)]), (.int .i64 p1)]) Try.fsOK Try.mixed Try.func92 (by kernel_rfl) (by kernel_rfl)
 (Eq.mpr (by kernel_rfl : lwFn Try.prog Try.fs Try.f92 a_grammar_form_letter [(.agg #[(.int .u16 p0.1), (.string p0.2.1), (.bool p0.2.2.1), (.bool p0.2.2.2.1), (.string p0.2.2.2.2.1), (.string p0.2.2.2.2.2.1), (.int .i64 p0.2.2.2.2.2.2.1), (.int .u8 p0.2.2.2.2.2.2.2.1)]), (.int .i64 p1)] w R = L_grammar_form_letter p0 p1 R w) h)

/-- intaglio.grammar.row -/
def a_grammar_row : Ann := (.seq none .nil (.seq none (.one (.seq none .nil (.cond (.seq none .nil .nil) (.seq none .nil (.cond (.seq none .nil .nil) .nil))))) (.seq none .nil .nil)))
def L_grammar_row (p0 : Int) (R : Value → World → Prop) (w : World) : Prop :=
 ifB (decide (p0 ≤ (71 : Int)))
 (callR Try.prog 141 #[(.int .u16 p0)] w fun v1 w1 =>
 ∃ x2 : ByteArray, v1 = (.string x2) ∧
 R (.string x2) w1)
 (ifB (decide (p0 ≤ (171 : Int)))
 (callR Try.prog 142 #[(.int .u16 p0)] w fun v3 w2 =>
 ∃ x4 : ByteArray, v3 = (.string x4) ∧
 R (.string x4) w2)
 (callR Try.prog 143 #[(.int .u16 p0)] w fun v5 w3 =>
 ∃ x6 : ByteArray, v5 = (.string x6) ∧
 R (.string x6) w3))
theorem grammar_row_calls (p0 : Int) (R : Value → World → Prop) (w : World) (h : L_grammar_row p0 R w) : Calls Try.prog 115 #[(.int .u16 p0)] w (Ret R) :=
 lw_calls (fs := Try.fs) (an := a_grammar_row) (args := [(.int .u16 p0)]) Try.fsOK Try.mixed Try.func115 (by kernel_rfl) (by kernel_rfl)
 (Eq.mpr (by kernel_rfl : lwFn Try.prog Try.fs Try.f115 a_grammar_row [(.int .u16 p0)] w R = L_grammar_row p0 R w) h)

/-- intaglio.grammar.fields -/
def a_grammar_fields : Ann := (.seq none .nil (.seq none .nil (.seq none .nil (.seq none (.seq none .nil (.one (.loop ⟨[2, 3, 8], [(4, (.b (.int .i64)))]⟩ (.seq none .nil (.seq none (.cond .nil .nil) (.one (.seq none .nil (.seq none .nil (.cond .nil .nil))))))))) (.seq none .nil .nil)))))
def L_grammar_fields (p0 : ByteArray) (R : Value → World → Prop) (w : World) : Prop :=
 Nw (w.alloc (.cells #[(.string (ByteArray.mk #[])), (.string (ByteArray.mk #[])), (.string (ByteArray.mk #[])), (.string (ByteArray.mk #[])), (.string (ByteArray.mk #[])), (.string (ByteArray.mk #[]))] 179)) fun w1 =>
 Nw (w1.alloc (.cells #[(.string (ByteArray.mk #[])), (.string (ByteArray.mk #[])), (.string (ByteArray.mk #[])), (.string (ByteArray.mk #[])), (.string (ByteArray.mk #[])), (.string (ByteArray.mk #[]))] 179)) fun w2 =>
 Nw (w2.alloc (.stringIter p0 0)) fun w3 =>
 LoopW (S := Int × Unit) (fun s1 w4 n2 =>
 nextW w2.heap.size w4 (fun i3 c4 w5 =>
 ifB (c4 == (32 : Int))
 (n2 ((IntKind.i64.wrap (s1.1 + (1 : Int))), ()) w5)
 ((0 ≤ s1.1 ∧ s1.1 < (6 : Int)) ∧
 ldStr w5 ((blk w1.heap.size).add (Int.toNat s1.1)) fun x5 =>
 sumFits x5 (Utf8.encode c4) ∧
 (0 ≤ s1.1 ∧ s1.1 < (6 : Int)) ∧
 Wr w5 ((blk w1.heap.size).add (Int.toNat s1.1)) ∧
 Nw (w5.setCell ((blk w1.heap.size).add (Int.toNat s1.1)) (.string (x5 ++ (Utf8.encode c4)))) fun w6 =>
 n2 (s1.1, ()) w6))
 (ldStr w4 ((blk w1.heap.size).add 0) fun x6 =>
 ldStr w4 ((blk w1.heap.size).add 1) fun x7 =>
 ldStr w4 ((blk w1.heap.size).add 2) fun x8 =>
 ldStr w4 ((blk w1.heap.size).add 3) fun x9 =>
 ldStr w4 ((blk w1.heap.size).add 4) fun x10 =>
 ldStr w4 ((blk w1.heap.size).add 5) fun x11 =>
 Wr w4 (blk w.heap.size) ∧
 Nw (w4.setCell (blk w.heap.size) (.string x6)) fun w7 =>
 Wr w7 ((blk w.heap.size).add 1) ∧
 Nw (w7.setCell ((blk w.heap.size).add 1) (.string x7)) fun w8 =>
 Wr w8 ((blk w.heap.size).add 2) ∧
 Nw (w8.setCell ((blk w.heap.size).add 2) (.string x8)) fun w9 =>
 Wr w9 ((blk w.heap.size).add 3) ∧
 Nw (w9.setCell ((blk w.heap.size).add 3) (.string x9)) fun w10 =>
 Wr w10 ((blk w.heap.size).add 4) ∧
 Nw (w10.setCell ((blk w.heap.size).add 4) (.string x10)) fun w11 =>
 Wr w11 ((blk w.heap.size).add 5) ∧
 Nw (w11.setCell ((blk w.heap.size).add 5) (.string x11)) fun w12 =>
 ldStr w12 ((blk w.heap.size).add 0) fun x12 =>
 ldStr w12 ((blk w.heap.size).add 1) fun x13 =>
 ldStr w12 ((blk w.heap.size).add 2) fun x14 =>
 ldStr w12 ((blk w.heap.size).add 3) fun x15 =>
 ldStr w12 ((blk w.heap.size).add 4) fun x16 =>
 ldStr w12 ((blk w.heap.size).add 5) fun x17 =>
 R (.agg #[(.string x12), (.string x13), (.string x14), (.string x15), (.string x16), (.string x17)]) w12))
 ((0 : Int), ()) w3
theorem grammar_fields_calls (p0 : ByteArray) (R : Value → World → Prop) (w : World) (h : L_grammar_fields p0 R w) : Calls Try.prog 116 #[(.string p0)] w (Ret R) :=
 lw_calls (fs := Try.fs) (an := a_grammar_fields) (args := [(.string p0)]) Try.fsOK Try.mixed Try.func116 (by kernel_rfl) (by kernel_rfl)
 (Eq.mpr (by kernel_rfl : lwFn Try.prog Try.fs Try.f116 a_grammar_fields [(.string p0)] w R = L_grammar_fields p0 R w) h)

/-- intaglio.grammar.names -/
def a_grammar_names : Ann := (.seq none .nil (.seq none (.seq none .nil (.one (.seq none .nil (.cond (.seq none .nil .nil) (.seq none .nil (.cond (.seq none .nil .nil) (.seq none .nil (.cond (.seq none .nil .nil) (.seq none .nil (.cond (.seq none .nil .nil) (.seq none .nil (.cond (.seq none .nil .nil) (.seq none .nil (.cond (.seq none .nil .nil) (.seq none .nil (.cond (.seq none .nil .nil) (.seq none .nil (.cond (.seq none .nil .nil) (.seq none .nil (.cond (.seq none .nil .nil) (.seq none .nil (.cond (.seq none .nil .nil) (.seq none .nil (.cond (.seq none .nil .nil) .nil)))))))))))))))))))))))) (.seq none .nil .nil)))
def L_grammar_names (p0 : Int) (R : Value → World → Prop) (w : World) : Prop :=
 ifB (p0 == (107 : Int))
 (R (.string (ByteArray.mk #[48, 32, 77, 97, 116, 114, 105, 120, 32, 49, 32, 83, 104, 97, 100, 101, 114, 32])) w)
 (ifB (p0 == (97 : Int))
 (R (.string (ByteArray.mk #[48, 32, 76, 111, 103, 105, 99, 97, 108, 32])) w)
 (ifB (p0 == (109 : Int))
 (R (.string (ByteArray.mk #[48, 32, 83, 105, 109, 112, 108, 101, 32, 49, 32, 71, 76, 83, 76, 52, 53, 48, 32])) w)
 (ifB (p0 == (101 : Int))
 (R (.string (ByteArray.mk #[48, 32, 86, 101, 114, 116, 101, 120, 32, 52, 32, 70, 114, 97, 103, 109, 101, 110, 116, 32])) w)
 (ifB (p0 == (120 : Int))
 (R (.string (ByteArray.mk #[55, 32, 79, 114, 105, 103, 105, 110, 85, 112, 112, 101, 114, 76, 101, 102, 116, 32])) w)
 (ifB (p0 == (108 : Int))
 (R (.string (ByteArray.mk #[48, 32, 85, 110, 107, 110, 111, 119, 110, 32, 49, 32, 69, 83, 83, 76, 32, 50, 32, 71, 76, 83, 76, 32])) w)
 (ifB (p0 == (99 : Int))
 (R (.string (ByteArray.mk #[49, 32, 73, 110, 112, 117, 116, 32, 51, 32, 79, 117, 116, 112, 117, 116, 32, 54, 32, 80, 114, 105, 118, 97, 116, 101, 32, 55, 32, 70, 117, 110, 99, 116, 105, 111, 110, 32])) w)
 (ifB (p0 == (100 : Int))
 (R (.string (ByteArray.mk #[48, 32, 82, 101, 108, 97, 120, 101, 100, 80, 114, 101, 99, 105, 115, 105, 111, 110, 32, 49, 49, 32, 66, 117, 105, 108, 116, 73, 110, 32, 49, 52, 32, 70, 108, 97, 116, 32, 51, 48, 32, 76, 111, 99, 97, 116, 105, 111, 110, 32])) w)
 (ifB (p0 == (102 : Int))
 (R (.string (ByteArray.mk #[48, 32, 78, 111, 110, 101, 32, 49, 32, 73, 110, 108, 105, 110, 101, 32, 50, 32, 68, 111, 110, 116, 73, 110, 108, 105, 110, 101, 32, 52, 32, 80, 117, 114, 101, 32, 56, 32, 67, 111, 110, 115, 116, 32])) w)
 (ifB (p0 == (104 : Int))
 (R (.string (ByteArray.mk #[48, 32, 78, 111, 110, 101, 32, 49, 32, 70, 108, 97, 116, 116, 101, 110, 32, 50, 32, 68, 111, 110, 116, 70, 108, 97, 116, 116, 101, 110, 32])) w)
 (ifB (p0 == (103 : Int))
 (R (.string (ByteArray.mk #[48, 32, 78, 111, 110, 101, 32, 49, 32, 85, 110, 114, 111, 108, 108, 32, 50, 32, 68, 111, 110, 116, 85, 110, 114, 111, 108, 108, 32])) w)
 (R (.string (ByteArray.mk #[])) w)))))))))))
theorem grammar_names_calls (p0 : Int) (R : Value → World → Prop) (w : World) (h : L_grammar_names p0 R w) : Calls Try.prog 117 #[(.int .u8 p0)] w (Ret R) :=
 lw_calls (fs := Try.fs) (an := a_grammar_names) (args := [(.int .u8 p0)]) Try.fsOK Try.mixed Try.func117 (by kernel_rfl) (by kernel_rfl)
 (Eq.mpr (by kernel_rfl : lwFn Try.prog Try.fs Try.f117 a_grammar_names [(.int .u8 p0)] w R = L_grammar_names p0 R w) h)

/-- (intaglio.grammar.form).fixed -/
def a_grammar_form_fixed : Ann := (.seq none .nil (.seq (some ⟨[1, 2], []⟩) (.seq none .nil (.cond (.seq none .nil .nil) .nil)) (.seq none .nil .nil)))
def L_grammar_form_fixed (p0 : (Int × ByteArray × Bool × Bool × ByteArray × ByteArray × Int × Int × Unit)) (p1 : Int) (R : Value → World → Prop) (w : World) : Prop :=
 Nw (w.alloc (.cells #[(.int .u16 p0.1), (.string p0.2.1), (.bool p0.2.2.1), (.bool p0.2.2.2.1), (.string p0.2.2.2.2.1), (.string p0.2.2.2.2.2.1), (.int .i64 p0.2.2.2.2.2.2.1), (.int .u8 p0.2.2.2.2.2.2.2.1)] 149)) fun w1 =>
 JoinW (S := Unit) (fun m1 =>
 ifB (decide (p1 < (0 : Int)))
 (R (.int .u8 (0 : Int)) w1)
 (ldStr w1 ((blk w.heap.size).add 4) fun x3 =>
 ifB (decide (p1 ≥ (x3.size : Int)))
 (R (.int .u8 (0 : Int)) w1)
 (m1 (()) w1)))
 (fun s2 w2 =>
 ldStr w2 ((blk w.heap.size).add 4) fun x4 =>
 (0 ≤ p1 ∧ p1 < (x4.size : Int)) ∧
 R (.int .u8 (byteI x4 p1)) w2)
theorem grammar_form_fixed_calls (p0 : (Int × ByteArray × Bool × Bool × ByteArray × ByteArray × Int × Int × Unit)) (p1 : Int) (R : Value → World → Prop) (w : World) (h : L_grammar_form_fixed p0 p1 R w) : Calls Try.prog 118 #[(.agg #[(.int .u16 p0.1), (.string p0.2.1), (.bool p0.2.2.1), (.bool p0.2.2.2.1), (.string p0.2.2.2.2.1), (.string p0.2.2.2.2.2.1), (.int .i64 p0.2.2.2.2.2.2.1), (.int .u8 p0.2.2.2.2.2.2.2.1)]), (.int .i64 p1)] w (Ret R) :=
 lw_calls (fs := Try.fs) (an := a_grammar_form_fixed) (args := [(.agg #[(.int .u16 p0.1), (.string p0.2.1), (.bool p0.2.2.1), (.bool p0.2.2.2.1), (.string p0.2.2.2.2.1), (.string p0.2.2.2.2.2.1), (.int .i64 p0.2.2.2.2.2.2.1), (.int .u8 p0.2.2.2.2.2.2.2.1)]), (.int .i64 p1)]) Try.fsOK Try.mixed Try.func118 (by kernel_rfl) (by kernel_rfl)
 (Eq.mpr (by kernel_rfl : lwFn Try.prog Try.fs Try.f118 a_grammar_form_fixed [(.agg #[(.int .u16 p0.1), (.string p0.2.1), (.bool p0.2.2.1), (.bool p0.2.2.2.1), (.string p0.2.2.2.2.1), (.string p0.2.2.2.2.2.1), (.int .i64 p0.2.2.2.2.2.2.1), (.int .u8 p0.2.2.2.2.2.2.2.1)]), (.int .i64 p1)] w R = L_grammar_form_fixed p0 p1 R w) h)

/-- (intaglio.grammar.form).rest -/
def a_grammar_form_rest : Ann := (.seq none .nil (.seq none .nil (.seq (some ⟨[1, 2], []⟩) (.seq none .nil (.cond (.seq none .nil .nil) .nil)) (.seq none .nil .nil))))
def L_grammar_form_rest (p0 : (Int × ByteArray × Bool × Bool × ByteArray × ByteArray × Int × Int × Unit)) (p1 : Int) (R : Value → World → Prop) (w : World) : Prop :=
 Nw (w.alloc (.cells #[(.int .u16 p0.1), (.string p0.2.1), (.bool p0.2.2.1), (.bool p0.2.2.2.1), (.string p0.2.2.2.2.1), (.string p0.2.2.2.2.2.1), (.int .i64 p0.2.2.2.2.2.2.1), (.int .u8 p0.2.2.2.2.2.2.2.1)] 149)) fun w1 =>
 ldStr w1 ((blk w.heap.size).add 4) fun x1 =>
 JoinW (S := Unit) (fun m2 =>
 ifB (decide ((IntKind.i64.wrap (p1 - (x1.size : Int))) < (0 : Int)))
 (R (.int .u8 (0 : Int)) w1)
 (ldStr w1 ((blk w.heap.size).add 5) fun x4 =>
 ifB (x4.toList == (ByteArray.mk #[]).toList)
 (R (.int .u8 (0 : Int)) w1)
 (ldI w1 ((blk w.heap.size).add 6) .i64 fun x5 =>
 ifB (decide (x5 > (0 : Int)))
 (ldI w1 ((blk w.heap.size).add 6) .i64 fun x6 =>
 ldStr w1 ((blk w.heap.size).add 5) fun x7 =>
 ifB (decide ((IntKind.i64.wrap (p1 - (x1.size : Int))) ≥ (IntKind.i64.wrap (x6 * (x7.size : Int)))))
 (R (.int .u8 (0 : Int)) w1)
 (m2 (()) w1))
 (m2 (()) w1))))
 (fun s3 w2 =>
 ldStr w2.drew ((blk w.heap.size).add 5) fun x8 =>
 ldStr w2.drew ((blk w.heap.size).add 5) fun x9 =>
 ifB (decide ((x9.size : Int) = 0))
 (False)
 ((0 ≤ (Int.tmod (IntKind.i64.wrap (p1 - (x1.size : Int))) (x9.size : Int)) ∧ (Int.tmod (IntKind.i64.wrap (p1 - (x1.size : Int))) (x9.size : Int)) < (x8.size : Int)) ∧
 R (.int .u8 (byteI x8 (Int.tmod (IntKind.i64.wrap (p1 - (x1.size : Int))) (x9.size : Int)))) w2.drew))
theorem grammar_form_rest_calls (p0 : (Int × ByteArray × Bool × Bool × ByteArray × ByteArray × Int × Int × Unit)) (p1 : Int) (R : Value → World → Prop) (w : World) (h : L_grammar_form_rest p0 p1 R w) : Calls Try.prog 119 #[(.agg #[(.int .u16 p0.1), (.string p0.2.1), (.bool p0.2.2.1), (.bool p0.2.2.2.1), (.string p0.2.2.2.2.1), (.string p0.2.2.2.2.2.1), (.int .i64 p0.2.2.2.2.2.2.1), (.int .u8 p0.2.2.2.2.2.2.2.1)]), (.int .i64 p1)] w (Ret R) :=
 lw_calls (fs := Try.fs) (an := a_grammar_form_rest) (args := [(.agg #[(.int .u16 p0.1), (.string p0.2.1), (.bool p0.2.2.1), (.bool p0.2.2.2.1), (.string p0.2.2.2.2.1), (.string p0.2.2.2.2.2.1), (.int .i64 p0.2.2.2.2.2.2.1), (.int .u8 p0.2.2.2.2.2.2.2.1)]), (.int .i64 p1)]) Try.fsOK Try.mixed Try.func119 (by kernel_rfl) (by kernel_rfl)
 (Eq.mpr (by kernel_rfl : lwFn Try.prog Try.fs Try.f119 a_grammar_form_rest [(.agg #[(.int .u16 p0.1), (.string p0.2.1), (.bool p0.2.2.1), (.bool p0.2.2.2.1), (.string p0.2.2.2.2.1), (.string p0.2.2.2.2.2.1), (.int .i64 p0.2.2.2.2.2.2.1), (.int .u8 p0.2.2.2.2.2.2.2.1)]), (.int .i64 p1)] w R = L_grammar_form_rest p0 p1 R w) h)

/-- intaglio.grammar.first -/
def a_grammar_first : Ann := (.seq none .nil (.seq none (.seq none .nil (.one (.seq none .nil (.cond (.seq none .nil .nil) (.seq none .nil (.cond (.seq none .nil .nil) (.seq none .nil (.cond (.seq none .nil .nil) (.seq none .nil (.cond (.seq none .nil .nil) (.seq none .nil (.cond (.seq none .nil .nil) (.seq none .nil (.cond (.seq none .nil .nil) (.seq none .nil (.cond (.seq none .nil .nil) (.seq none .nil (.cond (.seq none .nil .nil) (.seq none .nil (.cond (.seq none .nil .nil) (.seq none .nil (.cond (.seq none .nil .nil) (.seq none .nil (.cond (.seq none .nil .nil) (.seq none .nil (.cond (.seq none .nil .nil) (.seq none .nil (.cond (.seq none .nil .nil) (.seq none .nil (.cond (.seq none .nil .nil) (.seq none .nil (.cond (.seq none .nil .nil) (.seq none .nil (.cond (.seq none .nil .nil) (.seq none .nil (.cond (.seq none .nil .nil) (.seq none .nil (.cond (.seq none .nil .nil) (.seq none .nil (.cond (.seq none .nil .nil) (.seq none .nil (.cond (.seq none .nil .nil) (.seq none .nil (.cond (.seq none .nil .nil) (.seq none .nil (.cond (.seq none .nil .nil) (.seq none .nil (.cond (.seq none .nil .nil) (.seq none .nil (.cond (.seq none .nil .nil) (.seq none .nil (.cond (.seq none .nil .nil) (.seq none .nil (.cond (.seq none .nil .nil) (.seq none .nil (.cond (.seq none .nil .nil) (.seq none .nil (.cond (.seq none .nil .nil) (.seq none .nil (.cond (.seq none .nil .nil) (.seq none .nil (.cond (.seq none .nil .nil) (.seq none .nil (.cond (.seq none .nil .nil) .nil)))))))))))))))))))))))))))))))))))))))))))))))))))))))))))))))) (.seq none .nil .nil)))
def L_grammar_first (p0 : Int) (R : Value → World → Prop) (w : World) : Prop :=
 ifB (p0 == (1 : Int))
 (R (.string (ByteArray.mk #[79, 112, 85, 110, 100, 101, 102, 32, 84, 82, 32, 32, 32, 32, 55])) w)
 (ifB (p0 == (3 : Int))
 (R (.string (ByteArray.mk #[79, 112, 83, 111, 117, 114, 99, 101, 32, 32, 108, 110, 32, 32, 32, 52])) w)
 (ifB (p0 == (5 : Int))
 (R (.string (ByteArray.mk #[79, 112, 78, 97, 109, 101, 32, 32, 105, 115, 32, 32, 32, 53])) w)
 (ifB (p0 == (6 : Int))
 (R (.string (ByteArray.mk #[79, 112, 77, 101, 109, 98, 101, 114, 78, 97, 109, 101, 32, 32, 105, 110, 115, 32, 32, 32, 53])) w)
 (ifB (p0 == (7 : Int))
 (R (.string (ByteArray.mk #[79, 112, 83, 116, 114, 105, 110, 103, 32, 82, 32, 115, 32, 32, 32, 52])) w)
 (ifB (p0 == (14 : Int))
 (R (.string (ByteArray.mk #[79, 112, 77, 101, 109, 111, 114, 121, 77, 111, 100, 101, 108, 32, 32, 97, 109, 32, 32, 32, 49])) w)
 (ifB (p0 == (15 : Int))
 (R (.string (ByteArray.mk #[79, 112, 69, 110, 116, 114, 121, 80, 111, 105, 110, 116, 32, 32, 101, 105, 115, 32, 105, 32, 32, 50])) w)
 (ifB (p0 == (16 : Int))
 (R (.string (ByteArray.mk #[79, 112, 69, 120, 101, 99, 117, 116, 105, 111, 110, 77, 111, 100, 101, 32, 32, 105, 120, 32, 32, 32, 51])) w)
 (ifB (p0 == (17 : Int))
 (R (.string (ByteArray.mk #[79, 112, 67, 97, 112, 97, 98, 105, 108, 105, 116, 121, 32, 32, 107, 32, 32, 32, 48])) w)
 (ifB (p0 == (19 : Int))
 (R (.string (ByteArray.mk #[79, 112, 84, 121, 112, 101, 86, 111, 105, 100, 32, 82, 32, 32, 32, 32, 55])) w)
 (ifB (p0 == (20 : Int))
 (R (.string (ByteArray.mk #[79, 112, 84, 121, 112, 101, 66, 111, 111, 108, 32, 82, 32, 32, 32, 32, 55])) w)
 (ifB (p0 == (21 : Int))
 (R (.string (ByteArray.mk #[79, 112, 84, 121, 112, 101, 73, 110, 116, 32, 82, 32, 110, 110, 32, 32, 32, 55])) w)
 (ifB (p0 == (23 : Int))
 (R (.string (ByteArray.mk #[79, 112, 84, 121, 112, 101, 86, 101, 99, 116, 111, 114, 32, 82, 32, 105, 110, 32, 32, 32, 55])) w)
 (ifB (p0 == (28 : Int))
 (R (.string (ByteArray.mk #[79, 112, 84, 121, 112, 101, 65, 114, 114, 97, 121, 32, 82, 32, 105, 105, 32, 32, 32, 55])) w)
 (ifB (p0 == (30 : Int))
 (R (.string (ByteArray.mk #[79, 112, 84, 121, 112, 101, 83, 116, 114, 117, 99, 116, 32, 82, 32, 32, 105, 32, 32, 55])) w)
 (ifB (p0 == (32 : Int))
 (R (.string (ByteArray.mk #[79, 112, 84, 121, 112, 101, 80, 111, 105, 110, 116, 101, 114, 32, 82, 32, 99, 105, 32, 32, 32, 55])) w)
 (ifB (p0 == (33 : Int))
 (R (.string (ByteArray.mk #[79, 112, 84, 121, 112, 101, 70, 117, 110, 99, 116, 105, 111, 110, 32, 82, 32, 105, 32, 105, 32, 32, 55])) w)
 (ifB (p0 == (41 : Int))
 (R (.string (ByteArray.mk #[79, 112, 67, 111, 110, 115, 116, 97, 110, 116, 84, 114, 117, 101, 32, 84, 82, 32, 32, 32, 32, 55])) w)
 (ifB (p0 == (42 : Int))
 (R (.string (ByteArray.mk #[79, 112, 67, 111, 110, 115, 116, 97, 110, 116, 70, 97, 108, 115, 101, 32, 84, 82, 32, 32, 32, 32, 55])) w)
 (ifB (p0 == (43 : Int))
 (R (.string (ByteArray.mk #[79, 112, 67, 111, 110, 115, 116, 97, 110, 116, 32, 84, 82, 32, 110, 32, 32, 32, 55])) w)
 (ifB (p0 == (44 : Int))
 (R (.string (ByteArray.mk #[79, 112, 67, 111, 110, 115, 116, 97, 110, 116, 67, 111, 109, 112, 111, 115, 105, 116, 101, 32, 84, 82, 32, 32, 105, 32, 32, 55])) w)
 (ifB (p0 == (46 : Int))
 (R (.string (ByteArray.mk #[79, 112, 67, 111, 110, 115, 116, 97, 110, 116, 78, 117, 108, 108, 32, 84, 82, 32, 32, 32, 32, 55])) w)
 (ifB (p0 == (54 : Int))
 (R (.string (ByteArray.mk #[79, 112, 70, 117, 110, 99, 116, 105, 111, 110, 32, 84, 82, 32, 102, 105, 32, 32, 32, 56])) w)
 (ifB (p0 == (55 : Int))
 (R (.string (ByteArray.mk #[79, 112, 70, 117, 110, 99, 116, 105, 111, 110, 80, 97, 114, 97, 109, 101, 116, 101, 114, 32, 84, 82, 32, 32, 32, 32, 56])) w)
 (ifB (p0 == (56 : Int))
 (R (.string (ByteArray.mk #[79, 112, 70, 117, 110, 99, 116, 105, 111, 110, 69, 110, 100, 32, 32, 32, 32, 32, 56])) w)
 (ifB (p0 == (57 : Int))
 (R (.string (ByteArray.mk #[79, 112, 70, 117, 110, 99, 116, 105, 111, 110, 67, 97, 108, 108, 32, 84, 82, 32, 105, 32, 105, 32, 32, 56])) w)
 (ifB (p0 == (59 : Int))
 (R (.string (ByteArray.mk #[79, 112, 86, 97, 114, 105, 97, 98, 108, 101, 32, 84, 82, 32, 99, 32, 105, 32, 49, 32, 55])) w)
 (ifB (p0 == (61 : Int))
 (R (.string (ByteArray.mk #[79, 112, 76, 111, 97, 100, 32, 84, 82, 32, 105, 32, 32, 32, 56])) w)
 (ifB (p0 == (62 : Int))
 (R (.string (ByteArray.mk #[79, 112, 83, 116, 111, 114, 101, 32, 32, 105, 105, 32, 32, 32, 56])) w)
 (ifB (p0 == (65 : Int))
 (R (.string (ByteArray.mk #[79, 112, 65, 99, 99, 101, 115, 115, 67, 104, 97, 105, 110, 32, 84, 82, 32, 105, 32, 105, 32, 32, 56])) w)
 (ifB (p0 == (71 : Int))
 (R (.string (ByteArray.mk #[79, 112, 68, 101, 99, 111, 114, 97, 116, 101, 32, 32, 105, 100, 32, 110, 32, 32, 54])) w)
 (R (.string (ByteArray.mk #[])) w)))))))))))))))))))))))))))))))
theorem grammar_first_calls (p0 : Int) (R : Value → World → Prop) (w : World) (h : L_grammar_first p0 R w) : Calls Try.prog 141 #[(.int .u16 p0)] w (Ret R) :=
 lw_calls (fs := Try.fs) (an := a_grammar_first) (args := [(.int .u16 p0)]) Try.fsOK Try.mixed Try.func141 (by kernel_rfl) (by kernel_rfl)
 (Eq.mpr (by kernel_rfl : lwFn Try.prog Try.fs Try.f141 a_grammar_first [(.int .u16 p0)] w R = L_grammar_first p0 R w) h)

/-- intaglio.grammar.second -/
def a_grammar_second : Ann := (.seq none .nil (.seq none (.seq none .nil (.one (.seq none .nil (.cond (.seq none .nil .nil) (.seq none .nil (.cond (.seq none .nil .nil) (.seq none .nil (.cond (.seq none .nil .nil) (.seq none .nil (.cond (.seq none .nil .nil) (.seq none .nil (.cond (.seq none .nil .nil) (.seq none .nil (.cond (.seq none .nil .nil) (.seq none .nil (.cond (.seq none .nil .nil) (.seq none .nil (.cond (.seq none .nil .nil) (.seq none .nil (.cond (.seq none .nil .nil) (.seq none .nil (.cond (.seq none .nil .nil) (.seq none .nil (.cond (.seq none .nil .nil) (.seq none .nil (.cond (.seq none .nil .nil) (.seq none .nil (.cond (.seq none .nil .nil) (.seq none .nil (.cond (.seq none .nil .nil) (.seq none .nil (.cond (.seq none .nil .nil) (.seq none .nil (.cond (.seq none .nil .nil) (.seq none .nil (.cond (.seq none .nil .nil) (.seq none .nil (.cond (.seq none .nil .nil) (.seq none .nil (.cond (.seq none .nil .nil) (.seq none .nil (.cond (.seq none .nil .nil) (.seq none .nil (.cond (.seq none .nil .nil) (.seq none .nil (.cond (.seq none .nil .nil) (.seq none .nil (.cond (.seq none .nil .nil) (.seq none .nil (.cond (.seq none .nil .nil) (.seq none .nil (.cond (.seq none .nil .nil) (.seq none .nil (.cond (.seq none .nil .nil) (.seq none .nil (.cond (.seq none .nil .nil) (.seq none .nil (.cond (.seq none .nil .nil) (.seq none .nil (.cond (.seq none .nil .nil) (.seq none .nil (.cond (.seq none .nil .nil) (.seq none .nil (.cond (.seq none .nil .nil) .nil)))))))))))))))))))))))))))))))))))))))))))))))))))))))))))))))) (.seq none .nil .nil)))
def L_grammar_second (p0 : Int) (R : Value → World → Prop) (w : World) : Prop :=
 ifB (p0 == (77 : Int))
 (R (.string (ByteArray.mk #[79, 112, 86, 101, 99, 116, 111, 114, 69, 120, 116, 114, 97, 99, 116, 68, 121, 110, 97, 109, 105, 99, 32, 84, 82, 32, 105, 105, 32, 32, 32, 56])) w)
 (ifB (p0 == (78 : Int))
 (R (.string (ByteArray.mk #[79, 112, 86, 101, 99, 116, 111, 114, 73, 110, 115, 101, 114, 116, 68, 121, 110, 97, 109, 105, 99, 32, 84, 82, 32, 105, 105, 105, 32, 32, 32, 56])) w)
 (ifB (p0 == (79 : Int))
 (R (.string (ByteArray.mk #[79, 112, 86, 101, 99, 116, 111, 114, 83, 104, 117, 102, 102, 108, 101, 32, 84, 82, 32, 105, 105, 32, 110, 32, 32, 56])) w)
 (ifB (p0 == (80 : Int))
 (R (.string (ByteArray.mk #[79, 112, 67, 111, 109, 112, 111, 115, 105, 116, 101, 67, 111, 110, 115, 116, 114, 117, 99, 116, 32, 84, 82, 32, 32, 105, 32, 32, 56])) w)
 (ifB (p0 == (81 : Int))
 (R (.string (ByteArray.mk #[79, 112, 67, 111, 109, 112, 111, 115, 105, 116, 101, 69, 120, 116, 114, 97, 99, 116, 32, 84, 82, 32, 105, 32, 110, 32, 32, 56])) w)
 (ifB (p0 == (82 : Int))
 (R (.string (ByteArray.mk #[79, 112, 67, 111, 109, 112, 111, 115, 105, 116, 101, 73, 110, 115, 101, 114, 116, 32, 84, 82, 32, 105, 105, 32, 110, 32, 32, 56])) w)
 (ifB (p0 == (83 : Int))
 (R (.string (ByteArray.mk #[79, 112, 67, 111, 112, 121, 79, 98, 106, 101, 99, 116, 32, 84, 82, 32, 105, 32, 32, 32, 56])) w)
 (ifB (p0 == (124 : Int))
 (R (.string (ByteArray.mk #[79, 112, 66, 105, 116, 99, 97, 115, 116, 32, 84, 82, 32, 105, 32, 32, 32, 56])) w)
 (ifB (p0 == (126 : Int))
 (R (.string (ByteArray.mk #[79, 112, 83, 78, 101, 103, 97, 116, 101, 32, 84, 82, 32, 105, 32, 32, 32, 56])) w)
 (ifB (p0 == (128 : Int))
 (R (.string (ByteArray.mk #[79, 112, 73, 65, 100, 100, 32, 84, 82, 32, 105, 105, 32, 32, 32, 56])) w)
 (ifB (p0 == (130 : Int))
 (R (.string (ByteArray.mk #[79, 112, 73, 83, 117, 98, 32, 84, 82, 32, 105, 105, 32, 32, 32, 56])) w)
 (ifB (p0 == (132 : Int))
 (R (.string (ByteArray.mk #[79, 112, 73, 77, 117, 108, 32, 84, 82, 32, 105, 105, 32, 32, 32, 56])) w)
 (ifB (p0 == (134 : Int))
 (R (.string (ByteArray.mk #[79, 112, 85, 68, 105, 118, 32, 84, 82, 32, 105, 105, 32, 32, 32, 56])) w)
 (ifB (p0 == (135 : Int))
 (R (.string (ByteArray.mk #[79, 112, 83, 68, 105, 118, 32, 84, 82, 32, 105, 105, 32, 32, 32, 56])) w)
 (ifB (p0 == (137 : Int))
 (R (.string (ByteArray.mk #[79, 112, 85, 77, 111, 100, 32, 84, 82, 32, 105, 105, 32, 32, 32, 56])) w)
 (ifB (p0 == (138 : Int))
 (R (.string (ByteArray.mk #[79, 112, 83, 82, 101, 109, 32, 84, 82, 32, 105, 105, 32, 32, 32, 56])) w)
 (ifB (p0 == (139 : Int))
 (R (.string (ByteArray.mk #[79, 112, 83, 77, 111, 100, 32, 84, 82, 32, 105, 105, 32, 32, 32, 56])) w)
 (ifB (p0 == (149 : Int))
 (R (.string (ByteArray.mk #[79, 112, 73, 65, 100, 100, 67, 97, 114, 114, 121, 32, 84, 82, 32, 105, 105, 32, 32, 32, 56])) w)
 (ifB (p0 == (150 : Int))
 (R (.string (ByteArray.mk #[79, 112, 73, 83, 117, 98, 66, 111, 114, 114, 111, 119, 32, 84, 82, 32, 105, 105, 32, 32, 32, 56])) w)
 (ifB (p0 == (151 : Int))
 (R (.string (ByteArray.mk #[79, 112, 85, 77, 117, 108, 69, 120, 116, 101, 110, 100, 101, 100, 32, 84, 82, 32, 105, 105, 32, 32, 32, 56])) w)
 (ifB (p0 == (152 : Int))
 (R (.string (ByteArray.mk #[79, 112, 83, 77, 117, 108, 69, 120, 116, 101, 110, 100, 101, 100, 32, 84, 82, 32, 105, 105, 32, 32, 32, 56])) w)
 (ifB (p0 == (154 : Int))
 (R (.string (ByteArray.mk #[79, 112, 65, 110, 121, 32, 84, 82, 32, 105, 32, 32, 32, 56])) w)
 (ifB (p0 == (155 : Int))
 (R (.string (ByteArray.mk #[79, 112, 65, 108, 108, 32, 84, 82, 32, 105, 32, 32, 32, 56])) w)
 (ifB (p0 == (164 : Int))
 (R (.string (ByteArray.mk #[79, 112, 76, 111, 103, 105, 99, 97, 108, 69, 113, 117, 97, 108, 32, 84, 82, 32, 105, 105, 32, 32, 32, 56])) w)
 (ifB (p0 == (165 : Int))
 (R (.string (ByteArray.mk #[79, 112, 76, 111, 103, 105, 99, 97, 108, 78, 111, 116, 69, 113, 117, 97, 108, 32, 84, 82, 32, 105, 105, 32, 32, 32, 56])) w)
 (ifB (p0 == (166 : Int))
 (R (.string (ByteArray.mk #[79, 112, 76, 111, 103, 105, 99, 97, 108, 79, 114, 32, 84, 82, 32, 105, 105, 32, 32, 32, 56])) w)
 (ifB (p0 == (167 : Int))
 (R (.string (ByteArray.mk #[79, 112, 76, 111, 103, 105, 99, 97, 108, 65, 110, 100, 32, 84, 82, 32, 105, 105, 32, 32, 32, 56])) w)
 (ifB (p0 == (168 : Int))
 (R (.string (ByteArray.mk #[79, 112, 76, 111, 103, 105, 99, 97, 108, 78, 111, 116, 32, 84, 82, 32, 105, 32, 32, 32, 56])) w)
 (ifB (p0 == (169 : Int))
 (R (.string (ByteArray.mk #[79, 112, 83, 101, 108, 101, 99, 116, 32, 84, 82, 32, 105, 105, 105, 32, 32, 32, 56])) w)
 (ifB (p0 == (170 : Int))
 (R (.string (ByteArray.mk #[79, 112, 73, 69, 113, 117, 97, 108, 32, 84, 82, 32, 105, 105, 32, 32, 32, 56])) w)
 (ifB (p0 == (171 : Int))
 (R (.string (ByteArray.mk #[79, 112, 73, 78, 111, 116, 69, 113, 117, 97, 108, 32, 84, 82, 32, 105, 105, 32, 32, 32, 56])) w)
 (R (.string (ByteArray.mk #[])) w)))))))))))))))))))))))))))))))
theorem grammar_second_calls (p0 : Int) (R : Value → World → Prop) (w : World) (h : L_grammar_second p0 R w) : Calls Try.prog 142 #[(.int .u16 p0)] w (Ret R) :=
 lw_calls (fs := Try.fs) (an := a_grammar_second) (args := [(.int .u16 p0)]) Try.fsOK Try.mixed Try.func142 (by kernel_rfl) (by kernel_rfl)
 (Eq.mpr (by kernel_rfl : lwFn Try.prog Try.fs Try.f142 a_grammar_second [(.int .u16 p0)] w R = L_grammar_second p0 R w) h)

/-- intaglio.grammar.third -/
def a_grammar_third : Ann := (.seq none .nil (.seq none (.seq none .nil (.one (.seq none .nil (.cond (.seq none .nil .nil) (.seq none .nil (.cond (.seq none .nil .nil) (.seq none .nil (.cond (.seq none .nil .nil) (.seq none .nil (.cond (.seq none .nil .nil) (.seq none .nil (.cond (.seq none .nil .nil) (.seq none .nil (.cond (.seq none .nil .nil) (.seq none .nil (.cond (.seq none .nil .nil) (.seq none .nil (.cond (.seq none .nil .nil) (.seq none .nil (.cond (.seq none .nil .nil) (.seq none .nil (.cond (.seq none .nil .nil) (.seq none .nil (.cond (.seq none .nil .nil) (.seq none .nil (.cond (.seq none .nil .nil) (.seq none .nil (.cond (.seq none .nil .nil) (.seq none .nil (.cond (.seq none .nil .nil) (.seq none .nil (.cond (.seq none .nil .nil) (.seq none .nil (.cond (.seq none .nil .nil) (.seq none .nil (.cond (.seq none .nil .nil) (.seq none .nil (.cond (.seq none .nil .nil) (.seq none .nil (.cond (.seq none .nil .nil) (.seq none .nil (.cond (.seq none .nil .nil) (.seq none .nil (.cond (.seq none .nil .nil) (.seq none .nil (.cond (.seq none .nil .nil) (.seq none .nil (.cond (.seq none .nil .nil) (.seq none .nil (.cond (.seq none .nil .nil) (.seq none .nil (.cond (.seq none .nil .nil) (.seq none .nil (.cond (.seq none .nil .nil) (.seq none .nil (.cond (.seq none .nil .nil) (.seq none .nil (.cond (.seq none .nil .nil) (.seq none .nil (.cond (.seq none .nil .nil) (.seq none .nil (.cond (.seq none .nil .nil) (.seq none .nil (.cond (.seq none .nil .nil) .nil)))))))))))))))))))))))))))))))))))))))))))))))))))))))))))))))) (.seq none .nil .nil)))
def L_grammar_third (p0 : Int) (R : Value → World → Prop) (w : World) : Prop :=
 ifB (p0 == (172 : Int))
 (R (.string (ByteArray.mk #[79, 112, 85, 71, 114, 101, 97, 116, 101, 114, 84, 104, 97, 110, 32, 84, 82, 32, 105, 105, 32, 32, 32, 56])) w)
 (ifB (p0 == (173 : Int))
 (R (.string (ByteArray.mk #[79, 112, 83, 71, 114, 101, 97, 116, 101, 114, 84, 104, 97, 110, 32, 84, 82, 32, 105, 105, 32, 32, 32, 56])) w)
 (ifB (p0 == (174 : Int))
 (R (.string (ByteArray.mk #[79, 112, 85, 71, 114, 101, 97, 116, 101, 114, 84, 104, 97, 110, 69, 113, 117, 97, 108, 32, 84, 82, 32, 105, 105, 32, 32, 32, 56])) w)
 (ifB (p0 == (175 : Int))
 (R (.string (ByteArray.mk #[79, 112, 83, 71, 114, 101, 97, 116, 101, 114, 84, 104, 97, 110, 69, 113, 117, 97, 108, 32, 84, 82, 32, 105, 105, 32, 32, 32, 56])) w)
 (ifB (p0 == (176 : Int))
 (R (.string (ByteArray.mk #[79, 112, 85, 76, 101, 115, 115, 84, 104, 97, 110, 32, 84, 82, 32, 105, 105, 32, 32, 32, 56])) w)
 (ifB (p0 == (177 : Int))
 (R (.string (ByteArray.mk #[79, 112, 83, 76, 101, 115, 115, 84, 104, 97, 110, 32, 84, 82, 32, 105, 105, 32, 32, 32, 56])) w)
 (ifB (p0 == (178 : Int))
 (R (.string (ByteArray.mk #[79, 112, 85, 76, 101, 115, 115, 84, 104, 97, 110, 69, 113, 117, 97, 108, 32, 84, 82, 32, 105, 105, 32, 32, 32, 56])) w)
 (ifB (p0 == (179 : Int))
 (R (.string (ByteArray.mk #[79, 112, 83, 76, 101, 115, 115, 84, 104, 97, 110, 69, 113, 117, 97, 108, 32, 84, 82, 32, 105, 105, 32, 32, 32, 56])) w)
 (ifB (p0 == (194 : Int))
 (R (.string (ByteArray.mk #[79, 112, 83, 104, 105, 102, 116, 82, 105, 103, 104, 116, 76, 111, 103, 105, 99, 97, 108, 32, 84, 82, 32, 105, 105, 32, 32, 32, 56])) w)
 (ifB (p0 == (195 : Int))
 (R (.string (ByteArray.mk #[79, 112, 83, 104, 105, 102, 116, 82, 105, 103, 104, 116, 65, 114, 105, 116, 104, 109, 101, 116, 105, 99, 32, 84, 82, 32, 105, 105, 32, 32, 32, 56])) w)
 (ifB (p0 == (196 : Int))
 (R (.string (ByteArray.mk #[79, 112, 83, 104, 105, 102, 116, 76, 101, 102, 116, 76, 111, 103, 105, 99, 97, 108, 32, 84, 82, 32, 105, 105, 32, 32, 32, 56])) w)
 (ifB (p0 == (197 : Int))
 (R (.string (ByteArray.mk #[79, 112, 66, 105, 116, 119, 105, 115, 101, 79, 114, 32, 84, 82, 32, 105, 105, 32, 32, 32, 56])) w)
 (ifB (p0 == (198 : Int))
 (R (.string (ByteArray.mk #[79, 112, 66, 105, 116, 119, 105, 115, 101, 88, 111, 114, 32, 84, 82, 32, 105, 105, 32, 32, 32, 56])) w)
 (ifB (p0 == (199 : Int))
 (R (.string (ByteArray.mk #[79, 112, 66, 105, 116, 119, 105, 115, 101, 65, 110, 100, 32, 84, 82, 32, 105, 105, 32, 32, 32, 56])) w)
 (ifB (p0 == (200 : Int))
 (R (.string (ByteArray.mk #[79, 112, 78, 111, 116, 32, 84, 82, 32, 105, 32, 32, 32, 56])) w)
 (ifB (p0 == (201 : Int))
 (R (.string (ByteArray.mk #[79, 112, 66, 105, 116, 70, 105, 101, 108, 100, 73, 110, 115, 101, 114, 116, 32, 84, 82, 32, 105, 105, 105, 105, 32, 32, 32, 56])) w)
 (ifB (p0 == (202 : Int))
 (R (.string (ByteArray.mk #[79, 112, 66, 105, 116, 70, 105, 101, 108, 100, 83, 69, 120, 116, 114, 97, 99, 116, 32, 84, 82, 32, 105, 105, 105, 32, 32, 32, 56])) w)
 (ifB (p0 == (203 : Int))
 (R (.string (ByteArray.mk #[79, 112, 66, 105, 116, 70, 105, 101, 108, 100, 85, 69, 120, 116, 114, 97, 99, 116, 32, 84, 82, 32, 105, 105, 105, 32, 32, 32, 56])) w)
 (ifB (p0 == (204 : Int))
 (R (.string (ByteArray.mk #[79, 112, 66, 105, 116, 82, 101, 118, 101, 114, 115, 101, 32, 84, 82, 32, 105, 32, 32, 32, 56])) w)
 (ifB (p0 == (205 : Int))
 (R (.string (ByteArray.mk #[79, 112, 66, 105, 116, 67, 111, 117, 110, 116, 32, 84, 82, 32, 105, 32, 32, 32, 56])) w)
 (ifB (p0 == (245 : Int))
 (R (.string (ByteArray.mk #[79, 112, 80, 104, 105, 32, 84, 82, 32, 32, 105, 105, 32, 32, 56])) w)
 (ifB (p0 == (246 : Int))
 (R (.string (ByteArray.mk #[79, 112, 76, 111, 111, 112, 77, 101, 114, 103, 101, 32, 32, 105, 105, 103, 32, 32, 32, 56])) w)
 (ifB (p0 == (247 : Int))
 (R (.string (ByteArray.mk #[79, 112, 83, 101, 108, 101, 99, 116, 105, 111, 110, 77, 101, 114, 103, 101, 32, 32, 105, 104, 32, 32, 32, 56])) w)
 (ifB (p0 == (248 : Int))
 (R (.string (ByteArray.mk #[79, 112, 76, 97, 98, 101, 108, 32, 82, 32, 32, 32, 32, 56])) w)
 (ifB (p0 == (249 : Int))
 (R (.string (ByteArray.mk #[79, 112, 66, 114, 97, 110, 99, 104, 32, 32, 105, 32, 32, 32, 56])) w)
 (ifB (p0 == (250 : Int))
 (R (.string (ByteArray.mk #[79, 112, 66, 114, 97, 110, 99, 104, 67, 111, 110, 100, 105, 116, 105, 111, 110, 97, 108, 32, 32, 105, 105, 105, 32, 32, 32, 56])) w)
 (ifB (p0 == (251 : Int))
 (R (.string (ByteArray.mk #[79, 112, 83, 119, 105, 116, 99, 104, 32, 32, 105, 105, 32, 110, 105, 32, 32, 56])) w)
 (ifB (p0 == (252 : Int))
 (R (.string (ByteArray.mk #[79, 112, 75, 105, 108, 108, 32, 32, 32, 32, 32, 56])) w)
 (ifB (p0 == (253 : Int))
 (R (.string (ByteArray.mk #[79, 112, 82, 101, 116, 117, 114, 110, 32, 32, 32, 32, 32, 56])) w)
 (ifB (p0 == (254 : Int))
 (R (.string (ByteArray.mk #[79, 112, 82, 101, 116, 117, 114, 110, 86, 97, 108, 117, 101, 32, 32, 105, 32, 32, 32, 56])) w)
 (ifB (p0 == (255 : Int))
 (R (.string (ByteArray.mk #[79, 112, 85, 110, 114, 101, 97, 99, 104, 97, 98, 108, 101, 32, 32, 32, 32, 32, 56])) w)
 (R (.string (ByteArray.mk #[])) w)))))))))))))))))))))))))))))))
theorem grammar_third_calls (p0 : Int) (R : Value → World → Prop) (w : World) (h : L_grammar_third p0 R w) : Calls Try.prog 143 #[(.int .u16 p0)] w (Ret R) :=
 lw_calls (fs := Try.fs) (an := a_grammar_third) (args := [(.int .u16 p0)]) Try.fsOK Try.mixed Try.func143 (by kernel_rfl) (by kernel_rfl)
 (Eq.mpr (by kernel_rfl : lwFn Try.prog Try.fs Try.f143 a_grammar_third [(.int .u16 p0)] w R = L_grammar_third p0 R w) h)

/-- intaglio.grammar.Letter -/
def a_grammar_Letter : Ann := (.seq none .nil (.seq none .nil (.seq none .nil .nil)))
def L_grammar_Letter (p0 : Int) (p1 : Int) (R : Value → World → Prop) (w : World) : Prop :=
 callR Try.prog 90 #[(.int .u16 p0)] w fun v1 w1 =>
 ∃ x2 : (Int × ByteArray × Bool × Bool × ByteArray × ByteArray × Int × Int × Unit), ∃ x3 : Bool, v1 = (.tuple #[(.agg #[(.int .u16 x2.1), (.string x2.2.1), (.bool x2.2.2.1), (.bool x2.2.2.2.1), (.string x2.2.2.2.2.1), (.string x2.2.2.2.2.2.1), (.int .i64 x2.2.2.2.2.2.2.1), (.int .u8 x2.2.2.2.2.2.2.2.1)]), (.bool x3)]) ∧
 Nw (w1.alloc (.cells #[(.int .u16 (0 : Int)), (.string (ByteArray.mk #[])), (.bool false), (.bool false), (.string (ByteArray.mk #[])), (.string (ByteArray.mk #[])), (.int .i64 (0 : Int)), (.int .u8 (0 : Int))] 133)) fun w2 =>
 Wr w2 (blk w1.heap.size) ∧
 Nw (w2.setCell (blk w1.heap.size) (.int .u16 x2.1)) fun w3 =>
 Wr w3 ((blk w1.heap.size).add 1) ∧
 Nw (w3.setCell ((blk w1.heap.size).add 1) (.string x2.2.1)) fun w4 =>
 Wr w4 ((blk w1.heap.size).add 2) ∧
 Nw (w4.setCell ((blk w1.heap.size).add 2) (.bool x2.2.2.1)) fun w5 =>
 Wr w5 ((blk w1.heap.size).add 3) ∧
 Nw (w5.setCell ((blk w1.heap.size).add 3) (.bool x2.2.2.2.1)) fun w6 =>
 Wr w6 ((blk w1.heap.size).add 4) ∧
 Nw (w6.setCell ((blk w1.heap.size).add 4) (.string x2.2.2.2.2.1)) fun w7 =>
 Wr w7 ((blk w1.heap.size).add 5) ∧
 Nw (w7.setCell ((blk w1.heap.size).add 5) (.string x2.2.2.2.2.2.1)) fun w8 =>
 Wr w8 ((blk w1.heap.size).add 6) ∧
 Nw (w8.setCell ((blk w1.heap.size).add 6) (.int .i64 x2.2.2.2.2.2.2.1)) fun w9 =>
 Wr w9 ((blk w1.heap.size).add 7) ∧
 Nw (w9.setCell ((blk w1.heap.size).add 7) (.int .u8 x2.2.2.2.2.2.2.2.1)) fun w10 =>
 ldI w10 ((blk w1.heap.size).add 0) .u16 fun x4 =>
 ldStr w10 ((blk w1.heap.size).add 1) fun x5 =>
 ldB w10 ((blk w1.heap.size).add 2) fun x6 =>
 ldB w10 ((blk w1.heap.size).add 3) fun x7 =>
 ldStr w10 ((blk w1.heap.size).add 4) fun x8 =>
 ldStr w10 ((blk w1.heap.size).add 5) fun x9 =>
 ldI w10 ((blk w1.heap.size).add 6) .i64 fun x10 =>
 ldI w10 ((blk w1.heap.size).add 7) .u8 fun x11 =>
 callR Try.prog 92 #[(.agg #[(.int .u16 x4), (.string x5), (.bool x6), (.bool x7), (.string x8), (.string x9), (.int .i64 x10), (.int .u8 x11)]), (.int .i64 p1)] w10 fun v12 w11 =>
 ∃ x13 : Int, v12 = (.int .u8 x13) ∧
 R (.int .u8 x13) w11
theorem grammar_Letter_calls (p0 : Int) (p1 : Int) (R : Value → World → Prop) (w : World) (h : L_grammar_Letter p0 p1 R w) : Calls Try.prog 147 #[(.int .u16 p0), (.int .i64 p1)] w (Ret R) :=
 lw_calls (fs := Try.fs) (an := a_grammar_Letter) (args := [(.int .u16 p0), (.int .i64 p1)]) Try.fsOK Try.mixed Try.func147 (by kernel_rfl) (by kernel_rfl)
 (Eq.mpr (by kernel_rfl : lwFn Try.prog Try.fs Try.f147 a_grammar_Letter [(.int .u16 p0), (.int .i64 p1)] w R = L_grammar_Letter p0 p1 R w) h)

/-- intaglio.grammar.Enum -/
def a_grammar_Enum : Ann := (.seq none .nil (.seq none (.seq none .nil (.one (.loop ⟨[], [(10, (.b (.int .u32))), (11, (.b .str))]⟩ (.seq none (.seq none .nil .nil) (.one (.seq none .nil (.cond (.seq none .nil .nil) .nil))))))) (.seq none .nil .nil)))
def L_grammar_Enum (p0 : Int) (p1 : Int) (R : Value → World → Prop) (w : World) : Prop :=
 Nw (w.alloc (.cells #[(.int .u32 p1)] 22)) fun w1 =>
 Nw (w1.alloc (.cells #[(.string (ByteArray.mk #[]))] 9)) fun w2 =>
 Nw (w2.alloc (.cells #[(.bool false)] 4)) fun w3 =>
 callR Try.prog 164 #[(.int .u8 p0)] w3 fun v1 w4 =>
 ∃ x2 : Value, v1 = x2 ∧
 RangeW Try.prog Try.fs x2 w4 (T := Int × ByteArray × Unit) (fun s3 => [(.int .u32 s3.1), (.string s3.2.1)])
 (fun mk4 l5 s3 w5 S6 =>
 w5.heap[l5]? = some (mk4 .ready none) ∧
 Nw (w5.putObj l5 (mk4 .busy none)) fun w6 =>
 ldI w6 (blk w.heap.size) .u32 fun x8 =>
 ifB (s3.1 == x8)
 (Wr w6 (blk w1.heap.size) ∧
 Nw (w6.setCell (blk w1.heap.size) (.string s3.2.1)) fun w7 =>
 Wr w7 (blk w2.heap.size) ∧
 Nw (w7.setCell (blk w2.heap.size) (.bool true)) fun w8 =>
 w8.heap[l5]? = some (mk4 .busy none) ∧
 S6 (.bool false) (w8.putObj l5 (mk4 .done (some .ret))))
 (w6.heap[l5]? = some (mk4 .busy none) ∧
 S6 (.bool true) (w6.putObj l5 (mk4 .ready none))))
 (fun mk4 l5 d7 w9 =>
 (rangeOut mk4 l5 .ready none w9 fun w10 =>
 Wr w10 (blk w1.heap.size) ∧
 Nw (w10.setCell (blk w1.heap.size) (.string (ByteArray.mk #[]))) fun w11 =>
 Wr w11 (blk w2.heap.size) ∧
 Nw (w11.setCell (blk w2.heap.size) (.bool false)) fun w12 =>
 closeM (d7 :: []) w12 fun w13 =>
 ldStr w13 (blk w1.heap.size) fun x9 =>
 ldB w13 (blk w2.heap.size) fun x10 =>
 R (.tuple #[(.string x9), (.bool x10)]) w13) ∨
 (rangeOut mk4 l5 .done (some .ret) w9 fun w14 =>
 closeM (d7 :: []) w14 fun w15 =>
 ldStr w15 (blk w1.heap.size) fun x11 =>
 ldB w15 (blk w2.heap.size) fun x12 =>
 R (.tuple #[(.string x11), (.bool x12)]) w15))
theorem grammar_Enum_calls (p0 : Int) (p1 : Int) (R : Value → World → Prop) (w : World) (h : L_grammar_Enum p0 p1 R w) : Calls Try.prog 161 #[(.int .u8 p0), (.int .u32 p1)] w (Ret R) :=
 lwR_calls (fs := Try.fs) (an := a_grammar_Enum) (args := [(.int .u8 p0), (.int .u32 p1)]) Try.fsOK Try.mixed Try.func161 (by kernel_rfl) (by kernel_rfl)
 (Eq.mpr (by kernel_rfl : lwRFn Try.prog Try.fs Try.f161 a_grammar_Enum [(.int .u8 p0), (.int .u32 p1)] w R = L_grammar_Enum p0 p1 R w) h)

/-- intaglio.grammar.Enums -/
def a_grammar_Enums : Ann := (.seq none .nil (.seq none .nil .nil))
def L_grammar_Enums (p0 : Int) (R : Value → World → Prop) (w : World) : Prop :=
 Nw (w.alloc (.cells #[(.int .u8 p0)] 5)) fun w1 =>
 R (.func (.func 166) #[] #[(.pointer (some (blk w.heap.size)))]) w1
theorem grammar_Enums_calls (p0 : Int) (R : Value → World → Prop) (w : World) (h : L_grammar_Enums p0 R w) : Calls Try.prog 164 #[(.int .u8 p0)] w (Ret R) :=
 lw_calls (fs := Try.fs) (an := a_grammar_Enums) (args := [(.int .u8 p0)]) Try.fsOK Try.mixed Try.func164 (by kernel_rfl) (by kernel_rfl)
 (Eq.mpr (by kernel_rfl : lwFn Try.prog Try.fs Try.f164 a_grammar_Enums [(.int .u8 p0)] w R = L_grammar_Enums p0 R w) h)

/-- intaglio.grammar.Enums 1 -/
def a_grammar_Enums_1 : Ann := (.seq none .nil (.seq none .nil (.seq none .nil (.seq none .nil (.one (.loop ⟨[0, 11], [(3, (.b (.int .u32))), (5, (.b .str)), (6, (.b .bool))]⟩ (.seq none .nil (.seq none (.cond .nil .nil) (.one (.seq none .nil (.seq (some ⟨[0, 6, 11], [(3, (.b (.int .u32)))]⟩) (.one (.seq none .nil (.cond (.seq none .nil .nil) (.seq none .nil (.cond .nil (.seq none .nil (.seq none .nil (.cond .nil .nil)))))))) (.seq none .nil .nil))))))))))))
def L_grammar_Enums_1 (p0 : Value) (c0 : Addr) (R : Value → World → Prop) (w : World) : Prop :=
 ldI w c0 .u8 fun x1 =>
 callR Try.prog 117 #[(.int .u8 x1)] w fun v2 w1 =>
 ∃ x3 : ByteArray, v2 = (.string x3) ∧
 Nw (w1.alloc (.stringIter x3 0)) fun w2 =>
 LoopW (S := Int × ByteArray × Bool × Unit) (fun s4 w3 n5 =>
 nextW w1.heap.size w3 (fun i6 c7 w4 =>
 JoinW (S := Int × Unit) (fun m8 =>
 ifB (c7 != (32 : Int))
 (sumFits s4.2.1 (Utf8.encode c7) ∧
 n5 (s4.1, (s4.2.1 ++ (Utf8.encode c7)), s4.2.2.1, ()) w4)
 (ifB (!s4.2.2.1)
 (callR Try.prog 167 #[(.string s4.2.1)] w4 fun v10 w5 =>
 ∃ x11 : Int, v10 = (.int .u32 x11) ∧
 m8 (x11, ()) w5)
 (callV Try.prog Try.fs p0 [(.int .u32 s4.1), (.string s4.2.1)] w4 fun v12 w6 =>
 ∃ x13 : Bool, v12 = (.bool x13) ∧
 ifB (!x13)
 (R (.tuple #[]) w6)
 (m8 (s4.1, ()) w6))))
 (fun s9 w7 =>
 n5 (s9.1, (ByteArray.mk #[]), (!s4.2.2.1), ()) w7))
 (R (.tuple #[]) w3))
 ((0 : Int), (ByteArray.mk #[]), false, ()) w2
theorem grammar_Enums_1_calls (p0 : Value) (c0 : Addr) (R : Value → World → Prop) (w : World) (h : L_grammar_Enums_1 p0 c0 R w) : Calls Try.prog 166 #[p0, (.pointer (some c0))] w (Ret R) :=
 lw_calls (fs := Try.fs) (an := a_grammar_Enums_1) (args := [p0, (.pointer (some c0))]) Try.fsOK Try.mixed Try.func166 (by kernel_rfl) (by kernel_rfl)
 (Eq.mpr (by kernel_rfl : lwFn Try.prog Try.fs Try.f166 a_grammar_Enums_1 [p0, (.pointer (some c0))] w R = L_grammar_Enums_1 p0 c0 R w) h)

/-- intaglio.grammar.number -/
def a_grammar_number : Ann := (.seq none .nil (.seq none .nil (.seq none (.seq none .nil (.one (.loop ⟨[7], [(3, (.b (.int .u32)))]⟩ (.seq none .nil (.seq none (.cond .nil .nil) (.one (.seq none .nil .nil))))))) (.seq none .nil .nil))))
def L_grammar_number (p0 : ByteArray) (R : Value → World → Prop) (w : World) : Prop :=
 Nw (w.alloc (.stringIter p0 0)) fun w1 =>
 LoopW (S := Int × Unit) (fun s1 w2 n2 =>
 nextW w.heap.size w2 (fun i3 c4 w3 =>
 n2 ((IntKind.u32.wrap ((IntKind.u32.wrap ((10 : Int) * s1.1)) + (IntKind.u32.wrap (IntKind.i32.wrap (c4 - (48 : Int)))))), ()) w3)
 (R (.int .u32 s1.1) w2))
 ((0 : Int), ()) w1
theorem grammar_number_calls (p0 : ByteArray) (R : Value → World → Prop) (w : World) (h : L_grammar_number p0 R w) : Calls Try.prog 167 #[(.string p0)] w (Ret R) :=
 lw_calls (fs := Try.fs) (an := a_grammar_number) (args := [(.string p0)]) Try.fsOK Try.mixed Try.func167 (by kernel_rfl) (by kernel_rfl)
 (Eq.mpr (by kernel_rfl : lwFn Try.prog Try.fs Try.f167 a_grammar_number [(.string p0)] w R = L_grammar_number p0 R w) h)

end Go.Proofs
