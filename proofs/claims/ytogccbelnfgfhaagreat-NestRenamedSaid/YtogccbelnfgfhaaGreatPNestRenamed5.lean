/-
  Part 5 of what NestRenamed is proved by: functions walked, and what they come to.
-/
import Derived.Test.YtogccbelnfgfhaaGreatProg
import Derived.Laws.Strings
import Derived.Test.YtogccbelnfgfhaaGreatPNestRenamed4
namespace Go.Proofs
open Go.Gk
set_option linter.unusedVariables false
set_option maxRecDepth 100000

/-- intaglio.grammar.Fits -/
def a_grammar_Fits : Ann := (.seq none .nil (.seq none .nil (.seq none (.seq none .nil (.cond (.seq none .nil .nil) .nil)) (.seq none .nil (.seq none (.seq none .nil (.one (.loop ⟨[1, 8, 21, 22], [(23, (.b (.int .i64)))]⟩ (.seq none .nil (.seq none (.cond .nil .nil) (.seq (some ⟨[1, 8, 21, 22, 23], []⟩) (.one (.seq none .nil (.seq none .nil (.cond (.seq none .nil .nil) .nil)))) .nil)))))) (.seq none .nil (.seq none (.seq none .nil (.cond (.seq none .nil .nil) .nil)) (.seq none .nil .nil))))))))
def L_grammar_Fits (p0 : Int) (p1 : Sl) (R : Value → World → Prop) (w : World) : Prop :=
 callR Tryz.prog 168 #[(.int .u16 p0)] w fun v1 w1 =>
 ∃ x2 : (Int × ByteArray × Bool × Bool × ByteArray × ByteArray × Int × Int × Unit), ∃ x3 : Bool, v1 = (.tuple #[(.agg #[(.int .u16 x2.1), (.string x2.2.1), (.bool x2.2.2.1), (.bool x2.2.2.2.1), (.string x2.2.2.2.2.1), (.string x2.2.2.2.2.2.1), (.int .i64 x2.2.2.2.2.2.2.1), (.int .u8 x2.2.2.2.2.2.2.2.1)]), (.bool x3)]) ∧
 Nw (w1.alloc (.cells #[(.int .u16 (0 : Int)), (.string (ByteArray.mk #[])), (.bool false), (.bool false), (.string (ByteArray.mk #[])), (.string (ByteArray.mk #[])), (.int .i64 (0 : Int)), (.int .u8 (0 : Int))] 178)) fun w2 =>
 Wr w2 (blk w1.heap.size) ∧
 Nw (w2.setCell (blk w1.heap.size) (.int .u16 x2.1)) fun w3 =>
 Wr w3 ((blk w1.heap.size).add 1) ∧
 Nw (w3.setCell ((blk w1.heap.size).add 1) (.string x2.2.1)) fun w4 =>
 Wr w4 ((blk w1.heap.size).add 2) ∧
 Nw (w4.setCell ((blk w1.heap.size).add 2) (.bool x2.2.2.1)) fun w5 =>
 Wr w5 ((blk w1.heap.size).add 3) ∧
 Nw (w5.setCell ((blk w1.heap.size).add 3) (.bool x2.2.2.2.1)) fun w6 =>
 Wr w6 ((blk w1.heap.size).add 4) ∧
 Nw (w6.setCell ((blk w1.heap.size).add 4) (.string x2.2.2.2.2.1)) fun w7 =>
 Wr w7 ((blk w1.heap.size).add 5) ∧
 Nw (w7.setCell ((blk w1.heap.size).add 5) (.string x2.2.2.2.2.2.1)) fun w8 =>
 Wr w8 ((blk w1.heap.size).add 6) ∧
 Nw (w8.setCell ((blk w1.heap.size).add 6) (.int .i64 x2.2.2.2.2.2.2.1)) fun w9 =>
 Wr w9 ((blk w1.heap.size).add 7) ∧
 Nw (w9.setCell ((blk w1.heap.size).add 7) (.int .u8 x2.2.2.2.2.2.2.2.1)) fun w10 =>
 ifB (!x3)
 (R (.tuple #[(.int .i64 (0 : Int)), (.bool false)]) w10)
 (ldI w10 ((blk w1.heap.size).add 0) .u16 fun x4 =>
 ldStr w10 ((blk w1.heap.size).add 1) fun x5 =>
 ldB w10 ((blk w1.heap.size).add 2) fun x6 =>
 ldB w10 ((blk w1.heap.size).add 3) fun x7 =>
 ldStr w10 ((blk w1.heap.size).add 4) fun x8 =>
 ldStr w10 ((blk w1.heap.size).add 5) fun x9 =>
 ldI w10 ((blk w1.heap.size).add 6) .i64 fun x10 =>
 ldI w10 ((blk w1.heap.size).add 7) .u8 fun x11 =>
 Nw (w10.alloc (.cells #[(.int .u16 (0 : Int)), (.string (ByteArray.mk #[])), (.bool false), (.bool false), (.string (ByteArray.mk #[])), (.string (ByteArray.mk #[])), (.int .i64 (0 : Int)), (.int .u8 (0 : Int))] 230)) fun w11 =>
 Wr w11 (blk w10.heap.size) ∧
 Nw (w11.setCell (blk w10.heap.size) (.int .u16 x4)) fun w12 =>
 Wr w12 ((blk w10.heap.size).add 1) ∧
 Nw (w12.setCell ((blk w10.heap.size).add 1) (.string x5)) fun w13 =>
 Wr w13 ((blk w10.heap.size).add 2) ∧
 Nw (w13.setCell ((blk w10.heap.size).add 2) (.bool x6)) fun w14 =>
 Wr w14 ((blk w10.heap.size).add 3) ∧
 Nw (w14.setCell ((blk w10.heap.size).add 3) (.bool x7)) fun w15 =>
 Wr w15 ((blk w10.heap.size).add 4) ∧
 Nw (w15.setCell ((blk w10.heap.size).add 4) (.string x8)) fun w16 =>
 Wr w16 ((blk w10.heap.size).add 5) ∧
 Nw (w16.setCell ((blk w10.heap.size).add 5) (.string x9)) fun w17 =>
 Wr w17 ((blk w10.heap.size).add 6) ∧
 Nw (w17.setCell ((blk w10.heap.size).add 6) (.int .i64 x10)) fun w18 =>
 Wr w18 ((blk w10.heap.size).add 7) ∧
 Nw (w18.setCell ((blk w10.heap.size).add 7) (.int .u8 x11)) fun w19 =>
 LoopW (S := Int × Unit) (fun s12 w20 n13 =>
 ifB (decide (s12.1 < (p1.l : Int)))
 (JoinW (S := Unit) (fun m14 =>
 (0 ≤ s12.1 ∧ s12.1 < (p1.l : Int)) ∧
 derefP p1.a fun a16 =>
 ldI w20 (a16.add (Int.toNat s12.1)) .u8 fun x17 =>
 ifB (x17 == (0 : Int))
 (R (.tuple #[(.int .i64 s12.1), (.bool false)]) w20)
 (ldI w20 ((blk w10.heap.size).add 0) .u16 fun x18 =>
 ldStr w20 ((blk w10.heap.size).add 1) fun x19 =>
 ldB w20 ((blk w10.heap.size).add 2) fun x20 =>
 ldB w20 ((blk w10.heap.size).add 3) fun x21 =>
 ldStr w20 ((blk w10.heap.size).add 4) fun x22 =>
 ldStr w20 ((blk w10.heap.size).add 5) fun x23 =>
 ldI w20 ((blk w10.heap.size).add 6) .i64 fun x24 =>
 ldI w20 ((blk w10.heap.size).add 7) .u8 fun x25 =>
 callR Tryz.prog 170 #[(.agg #[(.int .u16 x18), (.string x19), (.bool x20), (.bool x21), (.string x22), (.string x23), (.int .i64 x24), (.int .u8 x25)]), (.int .i64 s12.1)] w20 fun v26 w21 =>
 ∃ x27 : Int, v26 = (.int .u8 x27) ∧
 callR Tryz.prog 169 #[(.int .u8 x27)] w21 fun v28 w22 =>
 ∃ x29 : Int, v28 = (.int .u8 x29) ∧
 ifB (x29 != x17)
 (R (.tuple #[(.int .i64 s12.1), (.bool false)]) w22)
 (m14 (()) w22)))
 (fun s15 w23 =>
 n13 ((IntKind.i64.wrap (s12.1 + (1 : Int))), ()) w23))
 (ldStr w20 ((blk w10.heap.size).add 4) fun x30 =>
 ifB (decide ((IntKind.i64.wrap ((p1.l : Int) - (x30.size : Int))) < (0 : Int)))
 (R (.tuple #[(.int .i64 (p1.l : Int)), (.bool false)]) w20)
 (ldStr w20 ((blk w10.heap.size).add 5) fun x31 =>
 ifB (!(x31.toList == (ByteArray.mk #[]).toList))
 (ldStr w20 ((blk w10.heap.size).add 5) fun x32 =>
 ifB (decide ((x32.size : Int) = 0))
 (False)
 (ifB ((Int.tmod (IntKind.i64.wrap ((p1.l : Int) - (x30.size : Int))) (x32.size : Int)) != (0 : Int))
 (R (.tuple #[(.int .i64 (p1.l : Int)), (.bool false)]) w20)
 (R (.tuple #[(.int .i64 (0 : Int)), (.bool true)]) w20)))
 (R (.tuple #[(.int .i64 (0 : Int)), (.bool true)]) w20))))
 ((0 : Int), ()) w19)
theorem grammar_Fits_calls (p0 : Int) (p1 : Sl) (R : Value → World → Prop) (w : World) (h : L_grammar_Fits p0 p1 R w) : Calls Tryz.prog 134 #[(.int .u16 p0), (.slice p1.a p1.l p1.c)] w (Ret R) :=
 lw_calls (fs := Tryz.fs) (an := a_grammar_Fits) (args := [(.int .u16 p0), (.slice p1.a p1.l p1.c)]) Tryz.fsOK Tryz.mixed Tryz.func134 (by kernel_rfl) (by kernel_rfl)
 (Eq.mpr (by kernel_rfl : lwFn Tryz.prog Tryz.fs Tryz.f134 a_grammar_Fits [(.int .u16 p0), (.slice p1.a p1.l p1.c)] w R = L_grammar_Fits p0 p1 R w) h)

/-- intaglio.grammar.Of -/
def a_grammar_Of : Ann := (.seq none .nil (.seq none .nil (.seq none (.seq none .nil (.cond (.seq none .nil .nil) .nil)) (.seq none .nil (.seq none .nil (.seq none (.seq none .nil (.one (.loop ⟨[2, 5, 6, 30], []⟩ (.seq none .nil (.seq none (.cond .nil .nil) (.one (.seq none .nil (.seq (some ⟨[2, 5, 6, 8, 30], []⟩) .nil .nil)))))))) (.seq (some ⟨[2, 6], []⟩) (.seq none .nil (.cond .nil .nil)) (.seq none .nil .nil))))))))
def L_grammar_Of (p0 : Int) (R : Value → World → Prop) (w : World) : Prop :=
 Nw (w.alloc (.cells #[(.int .u16 (0 : Int)), (.string (ByteArray.mk #[])), (.bool false), (.bool false), (.string (ByteArray.mk #[])), (.string (ByteArray.mk #[])), (.int .i64 (0 : Int)), (.int .u8 (0 : Int))] 178)) fun w1 =>
 callR Tryz.prog 221 #[(.int .u16 p0)] w1 fun v1 w2 =>
 ∃ x2 : ByteArray, v1 = (.string x2) ∧
 ifB (x2.toList == (ByteArray.mk #[]).toList)
 (Wr w2 (blk w.heap.size) ∧
 Nw (w2.setCell (blk w.heap.size) (.int .u16 (0 : Int))) fun w3 =>
 Wr w3 ((blk w.heap.size).add 1) ∧
 Nw (w3.setCell ((blk w.heap.size).add 1) (.string (ByteArray.mk #[]))) fun w4 =>
 Wr w4 ((blk w.heap.size).add 2) ∧
 Nw (w4.setCell ((blk w.heap.size).add 2) (.bool false)) fun w5 =>
 Wr w5 ((blk w.heap.size).add 3) ∧
 Nw (w5.setCell ((blk w.heap.size).add 3) (.bool false)) fun w6 =>
 Wr w6 ((blk w.heap.size).add 4) ∧
 Nw (w6.setCell ((blk w.heap.size).add 4) (.string (ByteArray.mk #[]))) fun w7 =>
 Wr w7 ((blk w.heap.size).add 5) ∧
 Nw (w7.setCell ((blk w.heap.size).add 5) (.string (ByteArray.mk #[]))) fun w8 =>
 Wr w8 ((blk w.heap.size).add 6) ∧
 Nw (w8.setCell ((blk w.heap.size).add 6) (.int .i64 (0 : Int))) fun w9 =>
 Wr w9 ((blk w.heap.size).add 7) ∧
 Nw (w9.setCell ((blk w.heap.size).add 7) (.int .u8 (0 : Int))) fun w10 =>
 ldI w10 ((blk w.heap.size).add 0) .u16 fun x3 =>
 ldStr w10 ((blk w.heap.size).add 1) fun x4 =>
 ldB w10 ((blk w.heap.size).add 2) fun x5 =>
 ldB w10 ((blk w.heap.size).add 3) fun x6 =>
 ldStr w10 ((blk w.heap.size).add 4) fun x7 =>
 ldStr w10 ((blk w.heap.size).add 5) fun x8 =>
 ldI w10 ((blk w.heap.size).add 6) .i64 fun x9 =>
 ldI w10 ((blk w.heap.size).add 7) .u8 fun x10 =>
 R (.tuple #[(.agg #[(.int .u16 x3), (.string x4), (.bool x5), (.bool x6), (.string x7), (.string x8), (.int .i64 x9), (.int .u8 x10)]), (.bool false)]) w10)
 (callR Tryz.prog 222 #[(.string x2)] w2 fun v11 w11 =>
 ∃ x12 : (ByteArray × ByteArray × ByteArray × ByteArray × ByteArray × ByteArray × Unit), v11 = (.agg #[(.string x12.1), (.string x12.2.1), (.string x12.2.2.1), (.string x12.2.2.2.1), (.string x12.2.2.2.2.1), (.string x12.2.2.2.2.2.1)]) ∧
 Nw (w11.alloc (.cells #[(.string (ByteArray.mk #[])), (.string (ByteArray.mk #[])), (.string (ByteArray.mk #[])), (.string (ByteArray.mk #[])), (.string (ByteArray.mk #[])), (.string (ByteArray.mk #[]))] 283)) fun w12 =>
 Wr w12 (blk w11.heap.size) ∧
 Nw (w12.setCell (blk w11.heap.size) (.string x12.1)) fun w13 =>
 Wr w13 ((blk w11.heap.size).add 1) ∧
 Nw (w13.setCell ((blk w11.heap.size).add 1) (.string x12.2.1)) fun w14 =>
 Wr w14 ((blk w11.heap.size).add 2) ∧
 Nw (w14.setCell ((blk w11.heap.size).add 2) (.string x12.2.2.1)) fun w15 =>
 Wr w15 ((blk w11.heap.size).add 3) ∧
 Nw (w15.setCell ((blk w11.heap.size).add 3) (.string x12.2.2.2.1)) fun w16 =>
 Wr w16 ((blk w11.heap.size).add 4) ∧
 Nw (w16.setCell ((blk w11.heap.size).add 4) (.string x12.2.2.2.2.1)) fun w17 =>
 Wr w17 ((blk w11.heap.size).add 5) ∧
 Nw (w17.setCell ((blk w11.heap.size).add 5) (.string x12.2.2.2.2.2.1)) fun w18 =>
 (0 ≤ (0 : Int) ∧ (0 : Int) < (6 : Int)) ∧
 ldStr w18.drew ((blk w11.heap.size).add 0) fun x13 =>
 (0 ≤ (2 : Int) ∧ (2 : Int) < (6 : Int)) ∧
 ldStr w18.drew ((blk w11.heap.size).add 2) fun x14 =>
 (0 ≤ (3 : Int) ∧ (3 : Int) < (6 : Int)) ∧
 ldStr w18.drew ((blk w11.heap.size).add 3) fun x15 =>
 (0 ≤ (5 : Int) ∧ (5 : Int) < (6 : Int)) ∧
 ldStr w18.drew ((blk w11.heap.size).add 5) fun x16 =>
 (0 ≤ (0 : Int) ∧ (0 : Int) < (x16.size : Int)) ∧
 Nw (w18.drew.alloc (.cells #[(.int .u16 (0 : Int)), (.string (ByteArray.mk #[])), (.bool false), (.bool false), (.string (ByteArray.mk #[])), (.string (ByteArray.mk #[])), (.int .i64 (0 : Int)), (.int .u8 (0 : Int))] 178)) fun w19 =>
 w19.cell? ((blk w11.heap.size).add 5) = some (.string x16) ∧
 w19.cell? ((blk w11.heap.size).add 3) = some (.string x15) ∧
 w19.cell? ((blk w11.heap.size).add 2) = some (.string x14) ∧
 w19.cell? ((blk w11.heap.size).add 0) = some (.string x13) ∧
 Wr w19 (blk w18.drew.heap.size) ∧
 Nw (w19.setCell (blk w18.drew.heap.size) (.int .u16 p0)) fun w20 =>
 Wr w20 ((blk w18.drew.heap.size).add 1) ∧
 Nw (w20.setCell ((blk w18.drew.heap.size).add 1) (.string x13)) fun w21 =>
 Wr w21 ((blk w18.drew.heap.size).add 2) ∧
 Nw (w21.setCell ((blk w18.drew.heap.size).add 2) (.bool false)) fun w22 =>
 Wr w22 ((blk w18.drew.heap.size).add 3) ∧
 Nw (w22.setCell ((blk w18.drew.heap.size).add 3) (.bool false)) fun w23 =>
 Wr w23 ((blk w18.drew.heap.size).add 4) ∧
 Nw (w23.setCell ((blk w18.drew.heap.size).add 4) (.string x14)) fun w24 =>
 Wr w24 ((blk w18.drew.heap.size).add 5) ∧
 Nw (w24.setCell ((blk w18.drew.heap.size).add 5) (.string x15)) fun w25 =>
 Wr w25 ((blk w18.drew.heap.size).add 6) ∧
 Nw (w25.setCell ((blk w18.drew.heap.size).add 6) (.int .i64 (0 : Int))) fun w26 =>
 Wr w26 ((blk w18.drew.heap.size).add 7) ∧
 Nw (w26.setCell ((blk w18.drew.heap.size).add 7) (.int .u8 (IntKind.u8.wrap ((byteI x16 (0 : Int)) - (48 : Int))))) fun w27 =>
 (0 ≤ (1 : Int) ∧ (1 : Int) < (6 : Int)) ∧
 ldStr w27 ((blk w11.heap.size).add 1) fun x17 =>
 Nw (w27.alloc (.stringIter x17 0)) fun w28 =>
 LoopW (S := Unit) (fun s18 w29 n19 =>
 nextW w27.heap.size w29 (fun i20 c21 w30 =>
 JoinW (S := Unit) (fun m22 =>
 ldB w30 ((blk w18.drew.heap.size).add 2) fun x24 =>
 ifB x24
 (Wr w30 ((blk w18.drew.heap.size).add 2) ∧
 Nw (w30.setCell ((blk w18.drew.heap.size).add 2) (.bool true)) fun w31 =>
 m22 (()) w31)
 (Wr w30 ((blk w18.drew.heap.size).add 2) ∧
 Nw (w30.setCell ((blk w18.drew.heap.size).add 2) (.bool (c21 == (84 : Int)))) fun w32 =>
 m22 (()) w32))
 (fun s23 w33 =>
 ldB w33 ((blk w18.drew.heap.size).add 3) fun x25 =>
 ifB x25
 (Wr w33 ((blk w18.drew.heap.size).add 3) ∧
 Nw (w33.setCell ((blk w18.drew.heap.size).add 3) (.bool true)) fun w34 =>
 n19 (()) w34)
 (Wr w33 ((blk w18.drew.heap.size).add 3) ∧
 Nw (w33.setCell ((blk w18.drew.heap.size).add 3) (.bool (c21 == (82 : Int)))) fun w35 =>
 n19 (()) w35)))
 (JoinW (S := Unit) (fun m26 =>
 (0 ≤ (4 : Int) ∧ (4 : Int) < (6 : Int)) ∧
 ldStr w29 ((blk w11.heap.size).add 4) fun x28 =>
 ifB (!(x28.toList == (ByteArray.mk #[]).toList))
 ((0 ≤ (4 : Int) ∧ (4 : Int) < (6 : Int)) ∧
 ldStr w29 ((blk w11.heap.size).add 4) fun x29 =>
 (0 ≤ (0 : Int) ∧ (0 : Int) < (x29.size : Int)) ∧
 Wr w29 ((blk w18.drew.heap.size).add 6) ∧
 Nw (w29.setCell ((blk w18.drew.heap.size).add 6) (.int .i64 (IntKind.i64.wrap (IntKind.u8.wrap ((byteI x29 (0 : Int)) - (48 : Int)))))) fun w36 =>
 m26 (()) w36)
 (m26 (()) w29))
 (fun s27 w37 =>
 ldI w37 ((blk w18.drew.heap.size).add 0) .u16 fun x30 =>
 ldStr w37 ((blk w18.drew.heap.size).add 1) fun x31 =>
 ldB w37 ((blk w18.drew.heap.size).add 2) fun x32 =>
 ldB w37 ((blk w18.drew.heap.size).add 3) fun x33 =>
 ldStr w37 ((blk w18.drew.heap.size).add 4) fun x34 =>
 ldStr w37 ((blk w18.drew.heap.size).add 5) fun x35 =>
 ldI w37 ((blk w18.drew.heap.size).add 6) .i64 fun x36 =>
 ldI w37 ((blk w18.drew.heap.size).add 7) .u8 fun x37 =>
 Wr w37 (blk w.heap.size) ∧
 Nw (w37.setCell (blk w.heap.size) (.int .u16 x30)) fun w38 =>
 Wr w38 ((blk w.heap.size).add 1) ∧
 Nw (w38.setCell ((blk w.heap.size).add 1) (.string x31)) fun w39 =>
 Wr w39 ((blk w.heap.size).add 2) ∧
 Nw (w39.setCell ((blk w.heap.size).add 2) (.bool x32)) fun w40 =>
 Wr w40 ((blk w.heap.size).add 3) ∧
 Nw (w40.setCell ((blk w.heap.size).add 3) (.bool x33)) fun w41 =>
 Wr w41 ((blk w.heap.size).add 4) ∧
 Nw (w41.setCell ((blk w.heap.size).add 4) (.string x34)) fun w42 =>
 Wr w42 ((blk w.heap.size).add 5) ∧
 Nw (w42.setCell ((blk w.heap.size).add 5) (.string x35)) fun w43 =>
 Wr w43 ((blk w.heap.size).add 6) ∧
 Nw (w43.setCell ((blk w.heap.size).add 6) (.int .i64 x36)) fun w44 =>
 Wr w44 ((blk w.heap.size).add 7) ∧
 Nw (w44.setCell ((blk w.heap.size).add 7) (.int .u8 x37)) fun w45 =>
 ldI w45 ((blk w.heap.size).add 0) .u16 fun x38 =>
 ldStr w45 ((blk w.heap.size).add 1) fun x39 =>
 ldB w45 ((blk w.heap.size).add 2) fun x40 =>
 ldB w45 ((blk w.heap.size).add 3) fun x41 =>
 ldStr w45 ((blk w.heap.size).add 4) fun x42 =>
 ldStr w45 ((blk w.heap.size).add 5) fun x43 =>
 ldI w45 ((blk w.heap.size).add 6) .i64 fun x44 =>
 ldI w45 ((blk w.heap.size).add 7) .u8 fun x45 =>
 R (.tuple #[(.agg #[(.int .u16 x38), (.string x39), (.bool x40), (.bool x41), (.string x42), (.string x43), (.int .i64 x44), (.int .u8 x45)]), (.bool true)]) w45)))
 (()) w28)
theorem grammar_Of_calls (p0 : Int) (R : Value → World → Prop) (w : World) (h : L_grammar_Of p0 R w) : Calls Tryz.prog 168 #[(.int .u16 p0)] w (Ret R) :=
 lw_calls (fs := Tryz.fs) (an := a_grammar_Of) (args := [(.int .u16 p0)]) Tryz.fsOK Tryz.mixed Tryz.func168 (by kernel_rfl) (by kernel_rfl)
 (Eq.mpr (by kernel_rfl : lwFn Tryz.prog Tryz.fs Tryz.f168 a_grammar_Of [(.int .u16 p0)] w R = L_grammar_Of p0 R w) h)

/-- intaglio.grammar.Kind -/
def a_grammar_Kind : Ann := (.seq none .nil (.seq none (.seq none .nil (.one (.seq none .nil (.cond (.seq none .nil .nil) (.seq none .nil (.cond (.seq none .nil .nil) (.seq none .nil (.cond (.seq none .nil .nil) .nil)))))))) (.seq none (.seq none .nil (.cond (.seq none .nil .nil) .nil)) (.seq none .nil .nil))))
def L_grammar_Kind (p0 : Int) (R : Value → World → Prop) (w : World) : Prop :=
 ifB (p0 == (105 : Int))
 (R (.int .u8 (1 : Int)) w)
 (ifB (p0 == (110 : Int))
 (R (.int .u8 (2 : Int)) w)
 (ifB (p0 == (115 : Int))
 (R (.int .u8 (3 : Int)) w)
 (callR Tryz.prog 223 #[(.int .u8 p0)] w fun v1 w1 =>
 ∃ x2 : ByteArray, v1 = (.string x2) ∧
 ifB (!(x2.toList == (ByteArray.mk #[]).toList))
 (R (.int .u8 (4 : Int)) w1)
 (R (.int .u8 (0 : Int)) w1))))
theorem grammar_Kind_calls (p0 : Int) (R : Value → World → Prop) (w : World) (h : L_grammar_Kind p0 R w) : Calls Tryz.prog 169 #[(.int .u8 p0)] w (Ret R) :=
 lw_calls (fs := Tryz.fs) (an := a_grammar_Kind) (args := [(.int .u8 p0)]) Tryz.fsOK Tryz.mixed Tryz.func169 (by kernel_rfl) (by kernel_rfl)
 (Eq.mpr (by kernel_rfl : lwFn Tryz.prog Tryz.fs Tryz.f169 a_grammar_Kind [(.int .u8 p0)] w R = L_grammar_Kind p0 R w) h)

/-- (intaglio.grammar.form).letter -/
def a_grammar_form_letter : Ann := (.seq none .nil (.seq none (.seq none .nil (.cond (.seq none .nil .nil) .nil)) (.seq none (.seq none .nil (.one (.loop ⟨[1, 14, 15], [(16, (.b (.int .i64)))]⟩ (.seq none .nil (.seq none (.cond .nil .nil) (.seq none (.one (.seq none .nil (.seq none .nil (.seq none .nil (.cond (.seq none .nil .nil) .nil))))) .nil)))))) (.seq none .nil .nil))))
def L_grammar_form_letter (p0 : (Int × ByteArray × Bool × Bool × ByteArray × ByteArray × Int × Int × Unit)) (p1 : Int) (R : Value → World → Prop) (w : World) : Prop :=
 Nw (w.alloc (.cells #[(.int .u16 p0.1), (.string p0.2.1), (.bool p0.2.2.1), (.bool p0.2.2.2.1), (.string p0.2.2.2.2.1), (.string p0.2.2.2.2.2.1), (.int .i64 p0.2.2.2.2.2.2.1), (.int .u8 p0.2.2.2.2.2.2.2.1)] 230)) fun w1 =>
 ifB (decide (p1 < (0 : Int)))
 (R (.int .u8 (0 : Int)) w1)
 (ldI w1 ((blk w.heap.size).add 0) .u16 fun x1 =>
 ldStr w1 ((blk w.heap.size).add 1) fun x2 =>
 ldB w1 ((blk w.heap.size).add 2) fun x3 =>
 ldB w1 ((blk w.heap.size).add 3) fun x4 =>
 ldStr w1 ((blk w.heap.size).add 4) fun x5 =>
 ldStr w1 ((blk w.heap.size).add 5) fun x6 =>
 ldI w1 ((blk w.heap.size).add 6) .i64 fun x7 =>
 ldI w1 ((blk w.heap.size).add 7) .u8 fun x8 =>
 ldI w1 ((blk w.heap.size).add 0) .u16 fun x9 =>
 ldStr w1 ((blk w.heap.size).add 1) fun x10 =>
 ldB w1 ((blk w.heap.size).add 2) fun x11 =>
 ldB w1 ((blk w.heap.size).add 3) fun x12 =>
 ldStr w1 ((blk w.heap.size).add 4) fun x13 =>
 ldStr w1 ((blk w.heap.size).add 5) fun x14 =>
 ldI w1 ((blk w.heap.size).add 6) .i64 fun x15 =>
 ldI w1 ((blk w.heap.size).add 7) .u8 fun x16 =>
 Nw (w1.alloc (.cells #[(.func (.func 224) #[(.agg #[(.int .u16 x1), (.string x2), (.bool x3), (.bool x4), (.string x5), (.string x6), (.int .i64 x7), (.int .u8 x8)])] #[]), (.func (.func 225) #[(.agg #[(.int .u16 x9), (.string x10), (.bool x11), (.bool x12), (.string x13), (.string x14), (.int .i64 x15), (.int .u8 x16)])] #[])] 231)) fun w2 =>
 LoopW (S := Int × Unit) (fun s17 w3 n18 =>
 ifB (decide (s17.1 < (2 : Int)))
 ((0 ≤ s17.1 ∧ s17.1 < (2 : Int)) ∧
 ldR w3 ((blk w1.heap.size).add (Int.toNat s17.1)) fun x19 =>
 callV Tryz.prog Tryz.fs x19 [(.int .i64 p1)] w3 fun v20 w4 =>
 ∃ x21 : Int, v20 = (.int .u8 x21) ∧
 ifB (x21 != (0 : Int))
 (R (.int .u8 x21) w4)
 (n18 ((IntKind.i64.wrap (s17.1 + (1 : Int))), ()) w4))
 (R (.int .u8 (0 : Int)) w3))
 ((0 : Int), ()) w2)
theorem grammar_form_letter_calls (p0 : (Int × ByteArray × Bool × Bool × ByteArray × ByteArray × Int × Int × Unit)) (p1 : Int) (R : Value → World → Prop) (w : World) (h : L_grammar_form_letter p0 p1 R w) : Calls Tryz.prog 170 #[(.agg #[(.int .u16 p0.1), (.string p0.2.1), (.bool p0.2.2.1), (.bool p0.2.2.2.1), (.string p0.2.2.2.2.1), (.string p0.2.2.2.2.2.1), (.int .i64 p0.2.2.2.2.2.2.1), (.int .u8 p0.2.2.2.2.2.2.2.1)]), (.int .i64 p1)] w (Ret R) :=
 lw_calls (fs := Tryz.fs) (an := a_grammar_form_letter) (args := [(.agg #[(.int .u16 p0.1), (.string p0.2.1), (.bool p0.2.2.1), (.bool p0.2.2.2.1), (.string p0.2.2.2.2.1), (.string p0.2.2.2.2.2.1), (.int .i64 p0.2.2.2.2.2.2.1), (.int .u8 p0.2.2.2.2.2.2.2.1)]), (.int .i64 p1)]) Tryz.fsOK Tryz.mixed Tryz.func170 (by kernel_rfl) (by kernel_rfl)
 (Eq.mpr (by kernel_rfl : lwFn Tryz.prog Tryz.fs Tryz.f170 a_grammar_form_letter [(.agg #[(.int .u16 p0.1), (.string p0.2.1), (.bool p0.2.2.1), (.bool p0.2.2.2.1), (.string p0.2.2.2.2.1), (.string p0.2.2.2.2.2.1), (.int .i64 p0.2.2.2.2.2.2.1), (.int .u8 p0.2.2.2.2.2.2.2.1)]), (.int .i64 p1)] w R = L_grammar_form_letter p0 p1 R w) h)

/-- intaglio.grammar.row -/
def a_grammar_row : Ann := (.seq none .nil (.seq none (.one (.seq none .nil (.cond (.seq none .nil .nil) (.seq none .nil (.cond (.seq none .nil .nil) .nil))))) (.seq none .nil .nil)))
def L_grammar_row (p0 : Int) (R : Value → World → Prop) (w : World) : Prop :=
 ifB (decide (p0 ≤ (71 : Int)))
 (callR Tryz.prog 254 #[(.int .u16 p0)] w fun v1 w1 =>
 ∃ x2 : ByteArray, v1 = (.string x2) ∧
 R (.string x2) w1)
 (ifB (decide (p0 ≤ (171 : Int)))
 (callR Tryz.prog 255 #[(.int .u16 p0)] w fun v3 w2 =>
 ∃ x4 : ByteArray, v3 = (.string x4) ∧
 R (.string x4) w2)
 (callR Tryz.prog 256 #[(.int .u16 p0)] w fun v5 w3 =>
 ∃ x6 : ByteArray, v5 = (.string x6) ∧
 R (.string x6) w3))
theorem grammar_row_calls (p0 : Int) (R : Value → World → Prop) (w : World) (h : L_grammar_row p0 R w) : Calls Tryz.prog 221 #[(.int .u16 p0)] w (Ret R) :=
 lw_calls (fs := Tryz.fs) (an := a_grammar_row) (args := [(.int .u16 p0)]) Tryz.fsOK Tryz.mixed Tryz.func221 (by kernel_rfl) (by kernel_rfl)
 (Eq.mpr (by kernel_rfl : lwFn Tryz.prog Tryz.fs Tryz.f221 a_grammar_row [(.int .u16 p0)] w R = L_grammar_row p0 R w) h)

/-- intaglio.grammar.fields -/
def a_grammar_fields : Ann := (.seq none .nil (.seq none .nil (.seq none .nil (.seq none (.seq none .nil (.one (.loop ⟨[2, 3, 8], [(4, (.b (.int .i64)))]⟩ (.seq none .nil (.seq none (.cond .nil .nil) (.one (.seq none .nil (.seq none .nil (.cond .nil .nil))))))))) (.seq none .nil .nil)))))
def L_grammar_fields (p0 : ByteArray) (R : Value → World → Prop) (w : World) : Prop :=
 Nw (w.alloc (.cells #[(.string (ByteArray.mk #[])), (.string (ByteArray.mk #[])), (.string (ByteArray.mk #[])), (.string (ByteArray.mk #[])), (.string (ByteArray.mk #[])), (.string (ByteArray.mk #[]))] 283)) fun w1 =>
 Nw (w1.alloc (.cells #[(.string (ByteArray.mk #[])), (.string (ByteArray.mk #[])), (.string (ByteArray.mk #[])), (.string (ByteArray.mk #[])), (.string (ByteArray.mk #[])), (.string (ByteArray.mk #[]))] 283)) fun w2 =>
 Nw (w2.alloc (.stringIter p0 0)) fun w3 =>
 LoopW (S := Int × Unit) (fun s1 w4 n2 =>
 nextW w2.heap.size w4 (fun i3 c4 w5 =>
 ifB (c4 == (32 : Int))
 (n2 ((IntKind.i64.wrap (s1.1 + (1 : Int))), ()) w5)
 ((0 ≤ s1.1 ∧ s1.1 < (6 : Int)) ∧
 ldStr w5 ((blk w1.heap.size).add (Int.toNat s1.1)) fun x5 =>
 sumFits x5 (Utf8.encode c4) ∧
 (0 ≤ s1.1 ∧ s1.1 < (6 : Int)) ∧
 Wr w5 ((blk w1.heap.size).add (Int.toNat s1.1)) ∧
 Nw (w5.setCell ((blk w1.heap.size).add (Int.toNat s1.1)) (.string (x5 ++ (Utf8.encode c4)))) fun w6 =>
 n2 (s1.1, ()) w6))
 (ldStr w4 ((blk w1.heap.size).add 0) fun x6 =>
 ldStr w4 ((blk w1.heap.size).add 1) fun x7 =>
 ldStr w4 ((blk w1.heap.size).add 2) fun x8 =>
 ldStr w4 ((blk w1.heap.size).add 3) fun x9 =>
 ldStr w4 ((blk w1.heap.size).add 4) fun x10 =>
 ldStr w4 ((blk w1.heap.size).add 5) fun x11 =>
 Wr w4 (blk w.heap.size) ∧
 Nw (w4.setCell (blk w.heap.size) (.string x6)) fun w7 =>
 Wr w7 ((blk w.heap.size).add 1) ∧
 Nw (w7.setCell ((blk w.heap.size).add 1) (.string x7)) fun w8 =>
 Wr w8 ((blk w.heap.size).add 2) ∧
 Nw (w8.setCell ((blk w.heap.size).add 2) (.string x8)) fun w9 =>
 Wr w9 ((blk w.heap.size).add 3) ∧
 Nw (w9.setCell ((blk w.heap.size).add 3) (.string x9)) fun w10 =>
 Wr w10 ((blk w.heap.size).add 4) ∧
 Nw (w10.setCell ((blk w.heap.size).add 4) (.string x10)) fun w11 =>
 Wr w11 ((blk w.heap.size).add 5) ∧
 Nw (w11.setCell ((blk w.heap.size).add 5) (.string x11)) fun w12 =>
 ldStr w12 ((blk w.heap.size).add 0) fun x12 =>
 ldStr w12 ((blk w.heap.size).add 1) fun x13 =>
 ldStr w12 ((blk w.heap.size).add 2) fun x14 =>
 ldStr w12 ((blk w.heap.size).add 3) fun x15 =>
 ldStr w12 ((blk w.heap.size).add 4) fun x16 =>
 ldStr w12 ((blk w.heap.size).add 5) fun x17 =>
 R (.agg #[(.string x12), (.string x13), (.string x14), (.string x15), (.string x16), (.string x17)]) w12))
 ((0 : Int), ()) w3
theorem grammar_fields_calls (p0 : ByteArray) (R : Value → World → Prop) (w : World) (h : L_grammar_fields p0 R w) : Calls Tryz.prog 222 #[(.string p0)] w (Ret R) :=
 lw_calls (fs := Tryz.fs) (an := a_grammar_fields) (args := [(.string p0)]) Tryz.fsOK Tryz.mixed Tryz.func222 (by kernel_rfl) (by kernel_rfl)
 (Eq.mpr (by kernel_rfl : lwFn Tryz.prog Tryz.fs Tryz.f222 a_grammar_fields [(.string p0)] w R = L_grammar_fields p0 R w) h)

/-- intaglio.grammar.names -/
def a_grammar_names : Ann := (.seq none .nil (.seq none (.seq none .nil (.one (.seq none .nil (.cond (.seq none .nil .nil) (.seq none .nil (.cond (.seq none .nil .nil) (.seq none .nil (.cond (.seq none .nil .nil) (.seq none .nil (.cond (.seq none .nil .nil) (.seq none .nil (.cond (.seq none .nil .nil) (.seq none .nil (.cond (.seq none .nil .nil) (.seq none .nil (.cond (.seq none .nil .nil) (.seq none .nil (.cond (.seq none .nil .nil) (.seq none .nil (.cond (.seq none .nil .nil) (.seq none .nil (.cond (.seq none .nil .nil) (.seq none .nil (.cond (.seq none .nil .nil) .nil)))))))))))))))))))))))) (.seq none .nil .nil)))
def L_grammar_names (p0 : Int) (R : Value → World → Prop) (w : World) : Prop :=
 ifB (p0 == (107 : Int))
 (R (.string (ByteArray.mk #[48, 32, 77, 97, 116, 114, 105, 120, 32, 49, 32, 83, 104, 97, 100, 101, 114, 32])) w)
 (ifB (p0 == (97 : Int))
 (R (.string (ByteArray.mk #[48, 32, 76, 111, 103, 105, 99, 97, 108, 32])) w)
 (ifB (p0 == (109 : Int))
 (R (.string (ByteArray.mk #[48, 32, 83, 105, 109, 112, 108, 101, 32, 49, 32, 71, 76, 83, 76, 52, 53, 48, 32])) w)
 (ifB (p0 == (101 : Int))
 (R (.string (ByteArray.mk #[48, 32, 86, 101, 114, 116, 101, 120, 32, 52, 32, 70, 114, 97, 103, 109, 101, 110, 116, 32])) w)
 (ifB (p0 == (120 : Int))
 (R (.string (ByteArray.mk #[55, 32, 79, 114, 105, 103, 105, 110, 85, 112, 112, 101, 114, 76, 101, 102, 116, 32])) w)
 (ifB (p0 == (108 : Int))
 (R (.string (ByteArray.mk #[48, 32, 85, 110, 107, 110, 111, 119, 110, 32, 49, 32, 69, 83, 83, 76, 32, 50, 32, 71, 76, 83, 76, 32])) w)
 (ifB (p0 == (99 : Int))
 (R (.string (ByteArray.mk #[49, 32, 73, 110, 112, 117, 116, 32, 51, 32, 79, 117, 116, 112, 117, 116, 32, 54, 32, 80, 114, 105, 118, 97, 116, 101, 32, 55, 32, 70, 117, 110, 99, 116, 105, 111, 110, 32])) w)
 (ifB (p0 == (100 : Int))
 (R (.string (ByteArray.mk #[48, 32, 82, 101, 108, 97, 120, 101, 100, 80, 114, 101, 99, 105, 115, 105, 111, 110, 32, 49, 49, 32, 66, 117, 105, 108, 116, 73, 110, 32, 49, 52, 32, 70, 108, 97, 116, 32, 51, 48, 32, 76, 111, 99, 97, 116, 105, 111, 110, 32])) w)
 (ifB (p0 == (102 : Int))
 (R (.string (ByteArray.mk #[48, 32, 78, 111, 110, 101, 32, 49, 32, 73, 110, 108, 105, 110, 101, 32, 50, 32, 68, 111, 110, 116, 73, 110, 108, 105, 110, 101, 32, 52, 32, 80, 117, 114, 101, 32, 56, 32, 67, 111, 110, 115, 116, 32])) w)
 (ifB (p0 == (104 : Int))
 (R (.string (ByteArray.mk #[48, 32, 78, 111, 110, 101, 32, 49, 32, 70, 108, 97, 116, 116, 101, 110, 32, 50, 32, 68, 111, 110, 116, 70, 108, 97, 116, 116, 101, 110, 32])) w)
 (ifB (p0 == (103 : Int))
 (R (.string (ByteArray.mk #[48, 32, 78, 111, 110, 101, 32, 49, 32, 85, 110, 114, 111, 108, 108, 32, 50, 32, 68, 111, 110, 116, 85, 110, 114, 111, 108, 108, 32])) w)
 (R (.string (ByteArray.mk #[])) w)))))))))))
theorem grammar_names_calls (p0 : Int) (R : Value → World → Prop) (w : World) (h : L_grammar_names p0 R w) : Calls Tryz.prog 223 #[(.int .u8 p0)] w (Ret R) :=
 lw_calls (fs := Tryz.fs) (an := a_grammar_names) (args := [(.int .u8 p0)]) Tryz.fsOK Tryz.mixed Tryz.func223 (by kernel_rfl) (by kernel_rfl)
 (Eq.mpr (by kernel_rfl : lwFn Tryz.prog Tryz.fs Tryz.f223 a_grammar_names [(.int .u8 p0)] w R = L_grammar_names p0 R w) h)

/-- (intaglio.grammar.form).fixed -/
def a_grammar_form_fixed : Ann := (.seq none .nil (.seq (some ⟨[1, 2], []⟩) (.seq none .nil (.cond (.seq none .nil .nil) .nil)) (.seq none .nil .nil)))
def L_grammar_form_fixed (p0 : (Int × ByteArray × Bool × Bool × ByteArray × ByteArray × Int × Int × Unit)) (p1 : Int) (R : Value → World → Prop) (w : World) : Prop :=
 Nw (w.alloc (.cells #[(.int .u16 p0.1), (.string p0.2.1), (.bool p0.2.2.1), (.bool p0.2.2.2.1), (.string p0.2.2.2.2.1), (.string p0.2.2.2.2.2.1), (.int .i64 p0.2.2.2.2.2.2.1), (.int .u8 p0.2.2.2.2.2.2.2.1)] 230)) fun w1 =>
 JoinW (S := Unit) (fun m1 =>
 ifB (decide (p1 < (0 : Int)))
 (R (.int .u8 (0 : Int)) w1)
 (ldStr w1 ((blk w.heap.size).add 4) fun x3 =>
 ifB (decide (p1 ≥ (x3.size : Int)))
 (R (.int .u8 (0 : Int)) w1)
 (m1 (()) w1)))
 (fun s2 w2 =>
 ldStr w2 ((blk w.heap.size).add 4) fun x4 =>
 (0 ≤ p1 ∧ p1 < (x4.size : Int)) ∧
 R (.int .u8 (byteI x4 p1)) w2)
theorem grammar_form_fixed_calls (p0 : (Int × ByteArray × Bool × Bool × ByteArray × ByteArray × Int × Int × Unit)) (p1 : Int) (R : Value → World → Prop) (w : World) (h : L_grammar_form_fixed p0 p1 R w) : Calls Tryz.prog 224 #[(.agg #[(.int .u16 p0.1), (.string p0.2.1), (.bool p0.2.2.1), (.bool p0.2.2.2.1), (.string p0.2.2.2.2.1), (.string p0.2.2.2.2.2.1), (.int .i64 p0.2.2.2.2.2.2.1), (.int .u8 p0.2.2.2.2.2.2.2.1)]), (.int .i64 p1)] w (Ret R) :=
 lw_calls (fs := Tryz.fs) (an := a_grammar_form_fixed) (args := [(.agg #[(.int .u16 p0.1), (.string p0.2.1), (.bool p0.2.2.1), (.bool p0.2.2.2.1), (.string p0.2.2.2.2.1), (.string p0.2.2.2.2.2.1), (.int .i64 p0.2.2.2.2.2.2.1), (.int .u8 p0.2.2.2.2.2.2.2.1)]), (.int .i64 p1)]) Tryz.fsOK Tryz.mixed Tryz.func224 (by kernel_rfl) (by kernel_rfl)
 (Eq.mpr (by kernel_rfl : lwFn Tryz.prog Tryz.fs Tryz.f224 a_grammar_form_fixed [(.agg #[(.int .u16 p0.1), (.string p0.2.1), (.bool p0.2.2.1), (.bool p0.2.2.2.1), (.string p0.2.2.2.2.1), (.string p0.2.2.2.2.2.1), (.int .i64 p0.2.2.2.2.2.2.1), (.int .u8 p0.2.2.2.2.2.2.2.1)]), (.int .i64 p1)] w R = L_grammar_form_fixed p0 p1 R w) h)

/-- (intaglio.grammar.form).rest -/
def a_grammar_form_rest : Ann := (.seq none .nil (.seq none .nil (.seq (some ⟨[1, 2], []⟩) (.seq none .nil (.cond (.seq none .nil .nil) .nil)) (.seq none .nil .nil))))
def L_grammar_form_rest (p0 : (Int × ByteArray × Bool × Bool × ByteArray × ByteArray × Int × Int × Unit)) (p1 : Int) (R : Value → World → Prop) (w : World) : Prop :=
 Nw (w.alloc (.cells #[(.int .u16 p0.1), (.string p0.2.1), (.bool p0.2.2.1), (.bool p0.2.2.2.1), (.string p0.2.2.2.2.1), (.string p0.2.2.2.2.2.1), (.int .i64 p0.2.2.2.2.2.2.1), (.int .u8 p0.2.2.2.2.2.2.2.1)] 230)) fun w1 =>
 ldStr w1 ((blk w.heap.size).add 4) fun x1 =>
 JoinW (S := Unit) (fun m2 =>
 ifB (decide ((IntKind.i64.wrap (p1 - (x1.size : Int))) < (0 : Int)))
 (R (.int .u8 (0 : Int)) w1)
 (ldStr w1 ((blk w.heap.size).add 5) fun x4 =>
 ifB (x4.toList == (ByteArray.mk #[]).toList)
 (R (.int .u8 (0 : Int)) w1)
 (ldI w1 ((blk w.heap.size).add 6) .i64 fun x5 =>
 ifB (decide (x5 > (0 : Int)))
 (ldI w1 ((blk w.heap.size).add 6) .i64 fun x6 =>
 ldStr w1 ((blk w.heap.size).add 5) fun x7 =>
 ifB (decide ((IntKind.i64.wrap (p1 - (x1.size : Int))) ≥ (IntKind.i64.wrap (x6 * (x7.size : Int)))))
 (R (.int .u8 (0 : Int)) w1)
 (m2 (()) w1))
 (m2 (()) w1))))
 (fun s3 w2 =>
 ldStr w2.drew ((blk w.heap.size).add 5) fun x8 =>
 ldStr w2.drew ((blk w.heap.size).add 5) fun x9 =>
 ifB (decide ((x9.size : Int) = 0))
 (False)
 ((0 ≤ (Int.tmod (IntKind.i64.wrap (p1 - (x1.size : Int))) (x9.size : Int)) ∧ (Int.tmod (IntKind.i64.wrap (p1 - (x1.size : Int))) (x9.size : Int)) < (x8.size : Int)) ∧
 R (.int .u8 (byteI x8 (Int.tmod (IntKind.i64.wrap (p1 - (x1.size : Int))) (x9.size : Int)))) w2.drew))
theorem grammar_form_rest_calls (p0 : (Int × ByteArray × Bool × Bool × ByteArray × ByteArray × Int × Int × Unit)) (p1 : Int) (R : Value → World → Prop) (w : World) (h : L_grammar_form_rest p0 p1 R w) : Calls Tryz.prog 225 #[(.agg #[(.int .u16 p0.1), (.string p0.2.1), (.bool p0.2.2.1), (.bool p0.2.2.2.1), (.string p0.2.2.2.2.1), (.string p0.2.2.2.2.2.1), (.int .i64 p0.2.2.2.2.2.2.1), (.int .u8 p0.2.2.2.2.2.2.2.1)]), (.int .i64 p1)] w (Ret R) :=
 lw_calls (fs := Tryz.fs) (an := a_grammar_form_rest) (args := [(.agg #[(.int .u16 p0.1), (.string p0.2.1), (.bool p0.2.2.1), (.bool p0.2.2.2.1), (.string p0.2.2.2.2.1), (.string p0.2.2.2.2.2.1), (.int .i64 p0.2.2.2.2.2.2.1), (.int .u8 p0.2.2.2.2.2.2.2.1)]), (.int .i64 p1)]) Tryz.fsOK Tryz.mixed Tryz.func225 (by kernel_rfl) (by kernel_rfl)
 (Eq.mpr (by kernel_rfl : lwFn Tryz.prog Tryz.fs Tryz.f225 a_grammar_form_rest [(.agg #[(.int .u16 p0.1), (.string p0.2.1), (.bool p0.2.2.1), (.bool p0.2.2.2.1), (.string p0.2.2.2.2.1), (.string p0.2.2.2.2.2.1), (.int .i64 p0.2.2.2.2.2.2.1), (.int .u8 p0.2.2.2.2.2.2.2.1)]), (.int .i64 p1)] w R = L_grammar_form_rest p0 p1 R w) h)

/-- intaglio.grammar.Letter -/
def a_grammar_Letter : Ann := (.seq none .nil (.seq none .nil (.seq none .nil .nil)))
def L_grammar_Letter (p0 : Int) (p1 : Int) (R : Value → World → Prop) (w : World) : Prop :=
 callR Tryz.prog 168 #[(.int .u16 p0)] w fun v1 w1 =>
 ∃ x2 : (Int × ByteArray × Bool × Bool × ByteArray × ByteArray × Int × Int × Unit), ∃ x3 : Bool, v1 = (.tuple #[(.agg #[(.int .u16 x2.1), (.string x2.2.1), (.bool x2.2.2.1), (.bool x2.2.2.2.1), (.string x2.2.2.2.2.1), (.string x2.2.2.2.2.2.1), (.int .i64 x2.2.2.2.2.2.2.1), (.int .u8 x2.2.2.2.2.2.2.2.1)]), (.bool x3)]) ∧
 Nw (w1.alloc (.cells #[(.int .u16 (0 : Int)), (.string (ByteArray.mk #[])), (.bool false), (.bool false), (.string (ByteArray.mk #[])), (.string (ByteArray.mk #[])), (.int .i64 (0 : Int)), (.int .u8 (0 : Int))] 178)) fun w2 =>
 Wr w2 (blk w1.heap.size) ∧
 Nw (w2.setCell (blk w1.heap.size) (.int .u16 x2.1)) fun w3 =>
 Wr w3 ((blk w1.heap.size).add 1) ∧
 Nw (w3.setCell ((blk w1.heap.size).add 1) (.string x2.2.1)) fun w4 =>
 Wr w4 ((blk w1.heap.size).add 2) ∧
 Nw (w4.setCell ((blk w1.heap.size).add 2) (.bool x2.2.2.1)) fun w5 =>
 Wr w5 ((blk w1.heap.size).add 3) ∧
 Nw (w5.setCell ((blk w1.heap.size).add 3) (.bool x2.2.2.2.1)) fun w6 =>
 Wr w6 ((blk w1.heap.size).add 4) ∧
 Nw (w6.setCell ((blk w1.heap.size).add 4) (.string x2.2.2.2.2.1)) fun w7 =>
 Wr w7 ((blk w1.heap.size).add 5) ∧
 Nw (w7.setCell ((blk w1.heap.size).add 5) (.string x2.2.2.2.2.2.1)) fun w8 =>
 Wr w8 ((blk w1.heap.size).add 6) ∧
 Nw (w8.setCell ((blk w1.heap.size).add 6) (.int .i64 x2.2.2.2.2.2.2.1)) fun w9 =>
 Wr w9 ((blk w1.heap.size).add 7) ∧
 Nw (w9.setCell ((blk w1.heap.size).add 7) (.int .u8 x2.2.2.2.2.2.2.2.1)) fun w10 =>
 ldI w10 ((blk w1.heap.size).add 0) .u16 fun x4 =>
 ldStr w10 ((blk w1.heap.size).add 1) fun x5 =>
 ldB w10 ((blk w1.heap.size).add 2) fun x6 =>
 ldB w10 ((blk w1.heap.size).add 3) fun x7 =>
 ldStr w10 ((blk w1.heap.size).add 4) fun x8 =>
 ldStr w10 ((blk w1.heap.size).add 5) fun x9 =>
 ldI w10 ((blk w1.heap.size).add 6) .i64 fun x10 =>
 ldI w10 ((blk w1.heap.size).add 7) .u8 fun x11 =>
 callR Tryz.prog 170 #[(.agg #[(.int .u16 x4), (.string x5), (.bool x6), (.bool x7), (.string x8), (.string x9), (.int .i64 x10), (.int .u8 x11)]), (.int .i64 p1)] w10 fun v12 w11 =>
 ∃ x13 : Int, v12 = (.int .u8 x13) ∧
 R (.int .u8 x13) w11
theorem grammar_Letter_calls (p0 : Int) (p1 : Int) (R : Value → World → Prop) (w : World) (h : L_grammar_Letter p0 p1 R w) : Calls Tryz.prog 246 #[(.int .u16 p0), (.int .i64 p1)] w (Ret R) :=
 lw_calls (fs := Tryz.fs) (an := a_grammar_Letter) (args := [(.int .u16 p0), (.int .i64 p1)]) Tryz.fsOK Tryz.mixed Tryz.func246 (by kernel_rfl) (by kernel_rfl)
 (Eq.mpr (by kernel_rfl : lwFn Tryz.prog Tryz.fs Tryz.f246 a_grammar_Letter [(.int .u16 p0), (.int .i64 p1)] w R = L_grammar_Letter p0 p1 R w) h)

/-- intaglio.grammar.first -/
def a_grammar_first : Ann := (.seq none .nil (.seq none (.seq none .nil (.one (.seq none .nil (.cond (.seq none .nil .nil) (.seq none .nil (.cond (.seq none .nil .nil) (.seq none .nil (.cond (.seq none .nil .nil) (.seq none .nil (.cond (.seq none .nil .nil) (.seq none .nil (.cond (.seq none .nil .nil) (.seq none .nil (.cond (.seq none .nil .nil) (.seq none .nil (.cond (.seq none .nil .nil) (.seq none .nil (.cond (.seq none .nil .nil) (.seq none .nil (.cond (.seq none .nil .nil) (.seq none .nil (.cond (.seq none .nil .nil) (.seq none .nil (.cond (.seq none .nil .nil) (.seq none .nil (.cond (.seq none .nil .nil) (.seq none .nil (.cond (.seq none .nil .nil) (.seq none .nil (.cond (.seq none .nil .nil) (.seq none .nil (.cond (.seq none .nil .nil) (.seq none .nil (.cond (.seq none .nil .nil) (.seq none .nil (.cond (.seq none .nil .nil) (.seq none .nil (.cond (.seq none .nil .nil) (.seq none .nil (.cond (.seq none .nil .nil) (.seq none .nil (.cond (.seq none .nil .nil) (.seq none .nil (.cond (.seq none .nil .nil) (.seq none .nil (.cond (.seq none .nil .nil) (.seq none .nil (.cond (.seq none .nil .nil) (.seq none .nil (.cond (.seq none .nil .nil) (.seq none .nil (.cond (.seq none .nil .nil) (.seq none .nil (.cond (.seq none .nil .nil) (.seq none .nil (.cond (.seq none .nil .nil) (.seq none .nil (.cond (.seq none .nil .nil) (.seq none .nil (.cond (.seq none .nil .nil) (.seq none .nil (.cond (.seq none .nil .nil) (.seq none .nil (.cond (.seq none .nil .nil) .nil)))))))))))))))))))))))))))))))))))))))))))))))))))))))))))))))) (.seq none .nil .nil)))
def L_grammar_first (p0 : Int) (R : Value → World → Prop) (w : World) : Prop :=
 ifB (p0 == (1 : Int))
 (R (.string (ByteArray.mk #[79, 112, 85, 110, 100, 101, 102, 32, 84, 82, 32, 32, 32, 32, 55])) w)
 (ifB (p0 == (3 : Int))
 (R (.string (ByteArray.mk #[79, 112, 83, 111, 117, 114, 99, 101, 32, 32, 108, 110, 32, 32, 32, 52])) w)
 (ifB (p0 == (5 : Int))
 (R (.string (ByteArray.mk #[79, 112, 78, 97, 109, 101, 32, 32, 105, 115, 32, 32, 32, 53])) w)
 (ifB (p0 == (6 : Int))
 (R (.string (ByteArray.mk #[79, 112, 77, 101, 109, 98, 101, 114, 78, 97, 109, 101, 32, 32, 105, 110, 115, 32, 32, 32, 53])) w)
 (ifB (p0 == (7 : Int))
 (R (.string (ByteArray.mk #[79, 112, 83, 116, 114, 105, 110, 103, 32, 82, 32, 115, 32, 32, 32, 52])) w)
 (ifB (p0 == (14 : Int))
 (R (.string (ByteArray.mk #[79, 112, 77, 101, 109, 111, 114, 121, 77, 111, 100, 101, 108, 32, 32, 97, 109, 32, 32, 32, 49])) w)
 (ifB (p0 == (15 : Int))
 (R (.string (ByteArray.mk #[79, 112, 69, 110, 116, 114, 121, 80, 111, 105, 110, 116, 32, 32, 101, 105, 115, 32, 105, 32, 32, 50])) w)
 (ifB (p0 == (16 : Int))
 (R (.string (ByteArray.mk #[79, 112, 69, 120, 101, 99, 117, 116, 105, 111, 110, 77, 111, 100, 101, 32, 32, 105, 120, 32, 32, 32, 51])) w)
 (ifB (p0 == (17 : Int))
 (R (.string (ByteArray.mk #[79, 112, 67, 97, 112, 97, 98, 105, 108, 105, 116, 121, 32, 32, 107, 32, 32, 32, 48])) w)
 (ifB (p0 == (19 : Int))
 (R (.string (ByteArray.mk #[79, 112, 84, 121, 112, 101, 86, 111, 105, 100, 32, 82, 32, 32, 32, 32, 55])) w)
 (ifB (p0 == (20 : Int))
 (R (.string (ByteArray.mk #[79, 112, 84, 121, 112, 101, 66, 111, 111, 108, 32, 82, 32, 32, 32, 32, 55])) w)
 (ifB (p0 == (21 : Int))
 (R (.string (ByteArray.mk #[79, 112, 84, 121, 112, 101, 73, 110, 116, 32, 82, 32, 110, 110, 32, 32, 32, 55])) w)
 (ifB (p0 == (23 : Int))
 (R (.string (ByteArray.mk #[79, 112, 84, 121, 112, 101, 86, 101, 99, 116, 111, 114, 32, 82, 32, 105, 110, 32, 32, 32, 55])) w)
 (ifB (p0 == (28 : Int))
 (R (.string (ByteArray.mk #[79, 112, 84, 121, 112, 101, 65, 114, 114, 97, 121, 32, 82, 32, 105, 105, 32, 32, 32, 55])) w)
 (ifB (p0 == (30 : Int))
 (R (.string (ByteArray.mk #[79, 112, 84, 121, 112, 101, 83, 116, 114, 117, 99, 116, 32, 82, 32, 32, 105, 32, 32, 55])) w)
 (ifB (p0 == (32 : Int))
 (R (.string (ByteArray.mk #[79, 112, 84, 121, 112, 101, 80, 111, 105, 110, 116, 101, 114, 32, 82, 32, 99, 105, 32, 32, 32, 55])) w)
 (ifB (p0 == (33 : Int))
 (R (.string (ByteArray.mk #[79, 112, 84, 121, 112, 101, 70, 117, 110, 99, 116, 105, 111, 110, 32, 82, 32, 105, 32, 105, 32, 32, 55])) w)
 (ifB (p0 == (41 : Int))
 (R (.string (ByteArray.mk #[79, 112, 67, 111, 110, 115, 116, 97, 110, 116, 84, 114, 117, 101, 32, 84, 82, 32, 32, 32, 32, 55])) w)
 (ifB (p0 == (42 : Int))
 (R (.string (ByteArray.mk #[79, 112, 67, 111, 110, 115, 116, 97, 110, 116, 70, 97, 108, 115, 101, 32, 84, 82, 32, 32, 32, 32, 55])) w)
 (ifB (p0 == (43 : Int))
 (R (.string (ByteArray.mk #[79, 112, 67, 111, 110, 115, 116, 97, 110, 116, 32, 84, 82, 32, 110, 32, 32, 32, 55])) w)
 (ifB (p0 == (44 : Int))
 (R (.string (ByteArray.mk #[79, 112, 67, 111, 110, 115, 116, 97, 110, 116, 67, 111, 109, 112, 111, 115, 105, 116, 101, 32, 84, 82, 32, 32, 105, 32, 32, 55])) w)
 (ifB (p0 == (46 : Int))
 (R (.string (ByteArray.mk #[79, 112, 67, 111, 110, 115, 116, 97, 110, 116, 78, 117, 108, 108, 32, 84, 82, 32, 32, 32, 32, 55])) w)
 (ifB (p0 == (54 : Int))
 (R (.string (ByteArray.mk #[79, 112, 70, 117, 110, 99, 116, 105, 111, 110, 32, 84, 82, 32, 102, 105, 32, 32, 32, 56])) w)
 (ifB (p0 == (55 : Int))
 (R (.string (ByteArray.mk #[79, 112, 70, 117, 110, 99, 116, 105, 111, 110, 80, 97, 114, 97, 109, 101, 116, 101, 114, 32, 84, 82, 32, 32, 32, 32, 56])) w)
 (ifB (p0 == (56 : Int))
 (R (.string (ByteArray.mk #[79, 112, 70, 117, 110, 99, 116, 105, 111, 110, 69, 110, 100, 32, 32, 32, 32, 32, 56])) w)
 (ifB (p0 == (57 : Int))
 (R (.string (ByteArray.mk #[79, 112, 70, 117, 110, 99, 116, 105, 111, 110, 67, 97, 108, 108, 32, 84, 82, 32, 105, 32, 105, 32, 32, 56])) w)
 (ifB (p0 == (59 : Int))
 (R (.string (ByteArray.mk #[79, 112, 86, 97, 114, 105, 97, 98, 108, 101, 32, 84, 82, 32, 99, 32, 105, 32, 49, 32, 55])) w)
 (ifB (p0 == (61 : Int))
 (R (.string (ByteArray.mk #[79, 112, 76, 111, 97, 100, 32, 84, 82, 32, 105, 32, 32, 32, 56])) w)
 (ifB (p0 == (62 : Int))
 (R (.string (ByteArray.mk #[79, 112, 83, 116, 111, 114, 101, 32, 32, 105, 105, 32, 32, 32, 56])) w)
 (ifB (p0 == (65 : Int))
 (R (.string (ByteArray.mk #[79, 112, 65, 99, 99, 101, 115, 115, 67, 104, 97, 105, 110, 32, 84, 82, 32, 105, 32, 105, 32, 32, 56])) w)
 (ifB (p0 == (71 : Int))
 (R (.string (ByteArray.mk #[79, 112, 68, 101, 99, 111, 114, 97, 116, 101, 32, 32, 105, 100, 32, 110, 32, 32, 54])) w)
 (R (.string (ByteArray.mk #[])) w)))))))))))))))))))))))))))))))
theorem grammar_first_calls (p0 : Int) (R : Value → World → Prop) (w : World) (h : L_grammar_first p0 R w) : Calls Tryz.prog 254 #[(.int .u16 p0)] w (Ret R) :=
 lw_calls (fs := Tryz.fs) (an := a_grammar_first) (args := [(.int .u16 p0)]) Tryz.fsOK Tryz.mixed Tryz.func254 (by kernel_rfl) (by kernel_rfl)
 (Eq.mpr (by kernel_rfl : lwFn Tryz.prog Tryz.fs Tryz.f254 a_grammar_first [(.int .u16 p0)] w R = L_grammar_first p0 R w) h)

/-- intaglio.grammar.second -/
def a_grammar_second : Ann := (.seq none .nil (.seq none (.seq none .nil (.one (.seq none .nil (.cond (.seq none .nil .nil) (.seq none .nil (.cond (.seq none .nil .nil) (.seq none .nil (.cond (.seq none .nil .nil) (.seq none .nil (.cond (.seq none .nil .nil) (.seq none .nil (.cond (.seq none .nil .nil) (.seq none .nil (.cond (.seq none .nil .nil) (.seq none .nil (.cond (.seq none .nil .nil) (.seq none .nil (.cond (.seq none .nil .nil) (.seq none .nil (.cond (.seq none .nil .nil) (.seq none .nil (.cond (.seq none .nil .nil) (.seq none .nil (.cond (.seq none .nil .nil) (.seq none .nil (.cond (.seq none .nil .nil) (.seq none .nil (.cond (.seq none .nil .nil) (.seq none .nil (.cond (.seq none .nil .nil) (.seq none .nil (.cond (.seq none .nil .nil) (.seq none .nil (.cond (.seq none .nil .nil) (.seq none .nil (.cond (.seq none .nil .nil) (.seq none .nil (.cond (.seq none .nil .nil) (.seq none .nil (.cond (.seq none .nil .nil) (.seq none .nil (.cond (.seq none .nil .nil) (.seq none .nil (.cond (.seq none .nil .nil) (.seq none .nil (.cond (.seq none .nil .nil) (.seq none .nil (.cond (.seq none .nil .nil) (.seq none .nil (.cond (.seq none .nil .nil) (.seq none .nil (.cond (.seq none .nil .nil) (.seq none .nil (.cond (.seq none .nil .nil) (.seq none .nil (.cond (.seq none .nil .nil) (.seq none .nil (.cond (.seq none .nil .nil) (.seq none .nil (.cond (.seq none .nil .nil) (.seq none .nil (.cond (.seq none .nil .nil) (.seq none .nil (.cond (.seq none .nil .nil) .nil)))))))))))))))))))))))))))))))))))))))))))))))))))))))))))))))) (.seq none .nil .nil)))
def L_grammar_second (p0 : Int) (R : Value → World → Prop) (w : World) : Prop :=
 ifB (p0 == (77 : Int))
 (R (.string (ByteArray.mk #[79, 112, 86, 101, 99, 116, 111, 114, 69, 120, 116, 114, 97, 99, 116, 68, 121, 110, 97, 109, 105, 99, 32, 84, 82, 32, 105, 105, 32, 32, 32, 56])) w)
 (ifB (p0 == (78 : Int))
 (R (.string (ByteArray.mk #[79, 112, 86, 101, 99, 116, 111, 114, 73, 110, 115, 101, 114, 116, 68, 121, 110, 97, 109, 105, 99, 32, 84, 82, 32, 105, 105, 105, 32, 32, 32, 56])) w)
 (ifB (p0 == (79 : Int))
 (R (.string (ByteArray.mk #[79, 112, 86, 101, 99, 116, 111, 114, 83, 104, 117, 102, 102, 108, 101, 32, 84, 82, 32, 105, 105, 32, 110, 32, 32, 56])) w)
 (ifB (p0 == (80 : Int))
 (R (.string (ByteArray.mk #[79, 112, 67, 111, 109, 112, 111, 115, 105, 116, 101, 67, 111, 110, 115, 116, 114, 117, 99, 116, 32, 84, 82, 32, 32, 105, 32, 32, 56])) w)
 (ifB (p0 == (81 : Int))
 (R (.string (ByteArray.mk #[79, 112, 67, 111, 109, 112, 111, 115, 105, 116, 101, 69, 120, 116, 114, 97, 99, 116, 32, 84, 82, 32, 105, 32, 110, 32, 32, 56])) w)
 (ifB (p0 == (82 : Int))
 (R (.string (ByteArray.mk #[79, 112, 67, 111, 109, 112, 111, 115, 105, 116, 101, 73, 110, 115, 101, 114, 116, 32, 84, 82, 32, 105, 105, 32, 110, 32, 32, 56])) w)
 (ifB (p0 == (83 : Int))
 (R (.string (ByteArray.mk #[79, 112, 67, 111, 112, 121, 79, 98, 106, 101, 99, 116, 32, 84, 82, 32, 105, 32, 32, 32, 56])) w)
 (ifB (p0 == (124 : Int))
 (R (.string (ByteArray.mk #[79, 112, 66, 105, 116, 99, 97, 115, 116, 32, 84, 82, 32, 105, 32, 32, 32, 56])) w)
 (ifB (p0 == (126 : Int))
 (R (.string (ByteArray.mk #[79, 112, 83, 78, 101, 103, 97, 116, 101, 32, 84, 82, 32, 105, 32, 32, 32, 56])) w)
 (ifB (p0 == (128 : Int))
 (R (.string (ByteArray.mk #[79, 112, 73, 65, 100, 100, 32, 84, 82, 32, 105, 105, 32, 32, 32, 56])) w)
 (ifB (p0 == (130 : Int))
 (R (.string (ByteArray.mk #[79, 112, 73, 83, 117, 98, 32, 84, 82, 32, 105, 105, 32, 32, 32, 56])) w)
 (ifB (p0 == (132 : Int))
 (R (.string (ByteArray.mk #[79, 112, 73, 77, 117, 108, 32, 84, 82, 32, 105, 105, 32, 32, 32, 56])) w)
 (ifB (p0 == (134 : Int))
 (R (.string (ByteArray.mk #[79, 112, 85, 68, 105, 118, 32, 84, 82, 32, 105, 105, 32, 32, 32, 56])) w)
 (ifB (p0 == (135 : Int))
 (R (.string (ByteArray.mk #[79, 112, 83, 68, 105, 118, 32, 84, 82, 32, 105, 105, 32, 32, 32, 56])) w)
 (ifB (p0 == (137 : Int))
 (R (.string (ByteArray.mk #[79, 112, 85, 77, 111, 100, 32, 84, 82, 32, 105, 105, 32, 32, 32, 56])) w)
 (ifB (p0 == (138 : Int))
 (R (.string (ByteArray.mk #[79, 112, 83, 82, 101, 109, 32, 84, 82, 32, 105, 105, 32, 32, 32, 56])) w)
 (ifB (p0 == (139 : Int))
 (R (.string (ByteArray.mk #[79, 112, 83, 77, 111, 100, 32, 84, 82, 32, 105, 105, 32, 32, 32, 56])) w)
 (ifB (p0 == (149 : Int))
 (R (.string (ByteArray.mk #[79, 112, 73, 65, 100, 100, 67, 97, 114, 114, 121, 32, 84, 82, 32, 105, 105, 32, 32, 32, 56])) w)
 (ifB (p0 == (150 : Int))
 (R (.string (ByteArray.mk #[79, 112, 73, 83, 117, 98, 66, 111, 114, 114, 111, 119, 32, 84, 82, 32, 105, 105, 32, 32, 32, 56])) w)
 (ifB (p0 == (151 : Int))
 (R (.string (ByteArray.mk #[79, 112, 85, 77, 117, 108, 69, 120, 116, 101, 110, 100, 101, 100, 32, 84, 82, 32, 105, 105, 32, 32, 32, 56])) w)
 (ifB (p0 == (152 : Int))
 (R (.string (ByteArray.mk #[79, 112, 83, 77, 117, 108, 69, 120, 116, 101, 110, 100, 101, 100, 32, 84, 82, 32, 105, 105, 32, 32, 32, 56])) w)
 (ifB (p0 == (154 : Int))
 (R (.string (ByteArray.mk #[79, 112, 65, 110, 121, 32, 84, 82, 32, 105, 32, 32, 32, 56])) w)
 (ifB (p0 == (155 : Int))
 (R (.string (ByteArray.mk #[79, 112, 65, 108, 108, 32, 84, 82, 32, 105, 32, 32, 32, 56])) w)
 (ifB (p0 == (164 : Int))
 (R (.string (ByteArray.mk #[79, 112, 76, 111, 103, 105, 99, 97, 108, 69, 113, 117, 97, 108, 32, 84, 82, 32, 105, 105, 32, 32, 32, 56])) w)
 (ifB (p0 == (165 : Int))
 (R (.string (ByteArray.mk #[79, 112, 76, 111, 103, 105, 99, 97, 108, 78, 111, 116, 69, 113, 117, 97, 108, 32, 84, 82, 32, 105, 105, 32, 32, 32, 56])) w)
 (ifB (p0 == (166 : Int))
 (R (.string (ByteArray.mk #[79, 112, 76, 111, 103, 105, 99, 97, 108, 79, 114, 32, 84, 82, 32, 105, 105, 32, 32, 32, 56])) w)
 (ifB (p0 == (167 : Int))
 (R (.string (ByteArray.mk #[79, 112, 76, 111, 103, 105, 99, 97, 108, 65, 110, 100, 32, 84, 82, 32, 105, 105, 32, 32, 32, 56])) w)
 (ifB (p0 == (168 : Int))
 (R (.string (ByteArray.mk #[79, 112, 76, 111, 103, 105, 99, 97, 108, 78, 111, 116, 32, 84, 82, 32, 105, 32, 32, 32, 56])) w)
 (ifB (p0 == (169 : Int))
 (R (.string (ByteArray.mk #[79, 112, 83, 101, 108, 101, 99, 116, 32, 84, 82, 32, 105, 105, 105, 32, 32, 32, 56])) w)
 (ifB (p0 == (170 : Int))
 (R (.string (ByteArray.mk #[79, 112, 73, 69, 113, 117, 97, 108, 32, 84, 82, 32, 105, 105, 32, 32, 32, 56])) w)
 (ifB (p0 == (171 : Int))
 (R (.string (ByteArray.mk #[79, 112, 73, 78, 111, 116, 69, 113, 117, 97, 108, 32, 84, 82, 32, 105, 105, 32, 32, 32, 56])) w)
 (R (.string (ByteArray.mk #[])) w)))))))))))))))))))))))))))))))
theorem grammar_second_calls (p0 : Int) (R : Value → World → Prop) (w : World) (h : L_grammar_second p0 R w) : Calls Tryz.prog 255 #[(.int .u16 p0)] w (Ret R) :=
 lw_calls (fs := Tryz.fs) (an := a_grammar_second) (args := [(.int .u16 p0)]) Tryz.fsOK Tryz.mixed Tryz.func255 (by kernel_rfl) (by kernel_rfl)
 (Eq.mpr (by kernel_rfl : lwFn Tryz.prog Tryz.fs Tryz.f255 a_grammar_second [(.int .u16 p0)] w R = L_grammar_second p0 R w) h)

/-- intaglio.grammar.third -/
def a_grammar_third : Ann := (.seq none .nil (.seq none (.seq none .nil (.one (.seq none .nil (.cond (.seq none .nil .nil) (.seq none .nil (.cond (.seq none .nil .nil) (.seq none .nil (.cond (.seq none .nil .nil) (.seq none .nil (.cond (.seq none .nil .nil) (.seq none .nil (.cond (.seq none .nil .nil) (.seq none .nil (.cond (.seq none .nil .nil) (.seq none .nil (.cond (.seq none .nil .nil) (.seq none .nil (.cond (.seq none .nil .nil) (.seq none .nil (.cond (.seq none .nil .nil) (.seq none .nil (.cond (.seq none .nil .nil) (.seq none .nil (.cond (.seq none .nil .nil) (.seq none .nil (.cond (.seq none .nil .nil) (.seq none .nil (.cond (.seq none .nil .nil) (.seq none .nil (.cond (.seq none .nil .nil) (.seq none .nil (.cond (.seq none .nil .nil) (.seq none .nil (.cond (.seq none .nil .nil) (.seq none .nil (.cond (.seq none .nil .nil) (.seq none .nil (.cond (.seq none .nil .nil) (.seq none .nil (.cond (.seq none .nil .nil) (.seq none .nil (.cond (.seq none .nil .nil) (.seq none .nil (.cond (.seq none .nil .nil) (.seq none .nil (.cond (.seq none .nil .nil) (.seq none .nil (.cond (.seq none .nil .nil) (.seq none .nil (.cond (.seq none .nil .nil) (.seq none .nil (.cond (.seq none .nil .nil) (.seq none .nil (.cond (.seq none .nil .nil) (.seq none .nil (.cond (.seq none .nil .nil) (.seq none .nil (.cond (.seq none .nil .nil) (.seq none .nil (.cond (.seq none .nil .nil) (.seq none .nil (.cond (.seq none .nil .nil) (.seq none .nil (.cond (.seq none .nil .nil) .nil)))))))))))))))))))))))))))))))))))))))))))))))))))))))))))))))) (.seq none .nil .nil)))
def L_grammar_third (p0 : Int) (R : Value → World → Prop) (w : World) : Prop :=
 ifB (p0 == (172 : Int))
 (R (.string (ByteArray.mk #[79, 112, 85, 71, 114, 101, 97, 116, 101, 114, 84, 104, 97, 110, 32, 84, 82, 32, 105, 105, 32, 32, 32, 56])) w)
 (ifB (p0 == (173 : Int))
 (R (.string (ByteArray.mk #[79, 112, 83, 71, 114, 101, 97, 116, 101, 114, 84, 104, 97, 110, 32, 84, 82, 32, 105, 105, 32, 32, 32, 56])) w)
 (ifB (p0 == (174 : Int))
 (R (.string (ByteArray.mk #[79, 112, 85, 71, 114, 101, 97, 116, 101, 114, 84, 104, 97, 110, 69, 113, 117, 97, 108, 32, 84, 82, 32, 105, 105, 32, 32, 32, 56])) w)
 (ifB (p0 == (175 : Int))
 (R (.string (ByteArray.mk #[79, 112, 83, 71, 114, 101, 97, 116, 101, 114, 84, 104, 97, 110, 69, 113, 117, 97, 108, 32, 84, 82, 32, 105, 105, 32, 32, 32, 56])) w)
 (ifB (p0 == (176 : Int))
 (R (.string (ByteArray.mk #[79, 112, 85, 76, 101, 115, 115, 84, 104, 97, 110, 32, 84, 82, 32, 105, 105, 32, 32, 32, 56])) w)
 (ifB (p0 == (177 : Int))
 (R (.string (ByteArray.mk #[79, 112, 83, 76, 101, 115, 115, 84, 104, 97, 110, 32, 84, 82, 32, 105, 105, 32, 32, 32, 56])) w)
 (ifB (p0 == (178 : Int))
 (R (.string (ByteArray.mk #[79, 112, 85, 76, 101, 115, 115, 84, 104, 97, 110, 69, 113, 117, 97, 108, 32, 84, 82, 32, 105, 105, 32, 32, 32, 56])) w)
 (ifB (p0 == (179 : Int))
 (R (.string (ByteArray.mk #[79, 112, 83, 76, 101, 115, 115, 84, 104, 97, 110, 69, 113, 117, 97, 108, 32, 84, 82, 32, 105, 105, 32, 32, 32, 56])) w)
 (ifB (p0 == (194 : Int))
 (R (.string (ByteArray.mk #[79, 112, 83, 104, 105, 102, 116, 82, 105, 103, 104, 116, 76, 111, 103, 105, 99, 97, 108, 32, 84, 82, 32, 105, 105, 32, 32, 32, 56])) w)
 (ifB (p0 == (195 : Int))
 (R (.string (ByteArray.mk #[79, 112, 83, 104, 105, 102, 116, 82, 105, 103, 104, 116, 65, 114, 105, 116, 104, 109, 101, 116, 105, 99, 32, 84, 82, 32, 105, 105, 32, 32, 32, 56])) w)
 (ifB (p0 == (196 : Int))
 (R (.string (ByteArray.mk #[79, 112, 83, 104, 105, 102, 116, 76, 101, 102, 116, 76, 111, 103, 105, 99, 97, 108, 32, 84, 82, 32, 105, 105, 32, 32, 32, 56])) w)
 (ifB (p0 == (197 : Int))
 (R (.string (ByteArray.mk #[79, 112, 66, 105, 116, 119, 105, 115, 101, 79, 114, 32, 84, 82, 32, 105, 105, 32, 32, 32, 56])) w)
 (ifB (p0 == (198 : Int))
 (R (.string (ByteArray.mk #[79, 112, 66, 105, 116, 119, 105, 115, 101, 88, 111, 114, 32, 84, 82, 32, 105, 105, 32, 32, 32, 56])) w)
 (ifB (p0 == (199 : Int))
 (R (.string (ByteArray.mk #[79, 112, 66, 105, 116, 119, 105, 115, 101, 65, 110, 100, 32, 84, 82, 32, 105, 105, 32, 32, 32, 56])) w)
 (ifB (p0 == (200 : Int))
 (R (.string (ByteArray.mk #[79, 112, 78, 111, 116, 32, 84, 82, 32, 105, 32, 32, 32, 56])) w)
 (ifB (p0 == (201 : Int))
 (R (.string (ByteArray.mk #[79, 112, 66, 105, 116, 70, 105, 101, 108, 100, 73, 110, 115, 101, 114, 116, 32, 84, 82, 32, 105, 105, 105, 105, 32, 32, 32, 56])) w)
 (ifB (p0 == (202 : Int))
 (R (.string (ByteArray.mk #[79, 112, 66, 105, 116, 70, 105, 101, 108, 100, 83, 69, 120, 116, 114, 97, 99, 116, 32, 84, 82, 32, 105, 105, 105, 32, 32, 32, 56])) w)
 (ifB (p0 == (203 : Int))
 (R (.string (ByteArray.mk #[79, 112, 66, 105, 116, 70, 105, 101, 108, 100, 85, 69, 120, 116, 114, 97, 99, 116, 32, 84, 82, 32, 105, 105, 105, 32, 32, 32, 56])) w)
 (ifB (p0 == (204 : Int))
 (R (.string (ByteArray.mk #[79, 112, 66, 105, 116, 82, 101, 118, 101, 114, 115, 101, 32, 84, 82, 32, 105, 32, 32, 32, 56])) w)
 (ifB (p0 == (205 : Int))
 (R (.string (ByteArray.mk #[79, 112, 66, 105, 116, 67, 111, 117, 110, 116, 32, 84, 82, 32, 105, 32, 32, 32, 56])) w)
 (ifB (p0 == (245 : Int))
 (R (.string (ByteArray.mk #[79, 112, 80, 104, 105, 32, 84, 82, 32, 32, 105, 105, 32, 32, 56])) w)
 (ifB (p0 == (246 : Int))
 (R (.string (ByteArray.mk #[79, 112, 76, 111, 111, 112, 77, 101, 114, 103, 101, 32, 32, 105, 105, 103, 32, 32, 32, 56])) w)
 (ifB (p0 == (247 : Int))
 (R (.string (ByteArray.mk #[79, 112, 83, 101, 108, 101, 99, 116, 105, 111, 110, 77, 101, 114, 103, 101, 32, 32, 105, 104, 32, 32, 32, 56])) w)
 (ifB (p0 == (248 : Int))
 (R (.string (ByteArray.mk #[79, 112, 76, 97, 98, 101, 108, 32, 82, 32, 32, 32, 32, 56])) w)
 (ifB (p0 == (249 : Int))
 (R (.string (ByteArray.mk #[79, 112, 66, 114, 97, 110, 99, 104, 32, 32, 105, 32, 32, 32, 56])) w)
 (ifB (p0 == (250 : Int))
 (R (.string (ByteArray.mk #[79, 112, 66, 114, 97, 110, 99, 104, 67, 111, 110, 100, 105, 116, 105, 111, 110, 97, 108, 32, 32, 105, 105, 105, 32, 32, 32, 56])) w)
 (ifB (p0 == (251 : Int))
 (R (.string (ByteArray.mk #[79, 112, 83, 119, 105, 116, 99, 104, 32, 32, 105, 105, 32, 110, 105, 32, 32, 56])) w)
 (ifB (p0 == (252 : Int))
 (R (.string (ByteArray.mk #[79, 112, 75, 105, 108, 108, 32, 32, 32, 32, 32, 56])) w)
 (ifB (p0 == (253 : Int))
 (R (.string (ByteArray.mk #[79, 112, 82, 101, 116, 117, 114, 110, 32, 32, 32, 32, 32, 56])) w)
 (ifB (p0 == (254 : Int))
 (R (.string (ByteArray.mk #[79, 112, 82, 101, 116, 117, 114, 110, 86, 97, 108, 117, 101, 32, 32, 105, 32, 32, 32, 56])) w)
 (ifB (p0 == (255 : Int))
 (R (.string (ByteArray.mk #[79, 112, 85, 110, 114, 101, 97, 99, 104, 97, 98, 108, 101, 32, 32, 32, 32, 32, 56])) w)
 (R (.string (ByteArray.mk #[])) w)))))))))))))))))))))))))))))))
theorem grammar_third_calls (p0 : Int) (R : Value → World → Prop) (w : World) (h : L_grammar_third p0 R w) : Calls Tryz.prog 256 #[(.int .u16 p0)] w (Ret R) :=
 lw_calls (fs := Tryz.fs) (an := a_grammar_third) (args := [(.int .u16 p0)]) Tryz.fsOK Tryz.mixed Tryz.func256 (by kernel_rfl) (by kernel_rfl)
 (Eq.mpr (by kernel_rfl : lwFn Tryz.prog Tryz.fs Tryz.f256 a_grammar_third [(.int .u16 p0)] w R = L_grammar_third p0 R w) h)

/-- intaglio.grammar.Enum -/
def a_grammar_Enum : Ann := (.seq none .nil (.seq none (.seq none .nil (.one (.loop ⟨[], [(10, (.b (.int .u32))), (11, (.b .str))]⟩ (.seq none (.seq none .nil .nil) (.one (.seq none .nil (.cond (.seq none .nil .nil) .nil))))))) (.seq none .nil .nil)))
def L_grammar_Enum (p0 : Int) (p1 : Int) (R : Value → World → Prop) (w : World) : Prop :=
 Nw (w.alloc (.cells #[(.int .u32 p1)] 22)) fun w1 =>
 Nw (w1.alloc (.cells #[(.string (ByteArray.mk #[]))] 9)) fun w2 =>
 Nw (w2.alloc (.cells #[(.bool false)] 4)) fun w3 =>
 callR Tryz.prog 276 #[(.int .u8 p0)] w3 fun v1 w4 =>
 ∃ x2 : Value, v1 = x2 ∧
 RangeW Tryz.prog Tryz.fs x2 w4 (T := Int × ByteArray × Unit) (fun s3 => [(.int .u32 s3.1), (.string s3.2.1)])
 (fun mk4 l5 s3 w5 S6 =>
 w5.heap[l5]? = some (mk4 .ready none) ∧
 Nw (w5.putObj l5 (mk4 .busy none)) fun w6 =>
 ldI w6 (blk w.heap.size) .u32 fun x8 =>
 ifB (s3.1 == x8)
 (Wr w6 (blk w1.heap.size) ∧
 Nw (w6.setCell (blk w1.heap.size) (.string s3.2.1)) fun w7 =>
 Wr w7 (blk w2.heap.size) ∧
 Nw (w7.setCell (blk w2.heap.size) (.bool true)) fun w8 =>
 w8.heap[l5]? = some (mk4 .busy none) ∧
 S6 (.bool false) (w8.putObj l5 (mk4 .done (some .ret))))
 (w6.heap[l5]? = some (mk4 .busy none) ∧
 S6 (.bool true) (w6.putObj l5 (mk4 .ready none))))
 (fun mk4 l5 d7 w9 =>
 (rangeOut mk4 l5 .ready none w9 fun w10 =>
 Wr w10 (blk w1.heap.size) ∧
 Nw (w10.setCell (blk w1.heap.size) (.string (ByteArray.mk #[]))) fun w11 =>
 Wr w11 (blk w2.heap.size) ∧
 Nw (w11.setCell (blk w2.heap.size) (.bool false)) fun w12 =>
 closeM (d7 :: []) w12 fun w13 =>
 ldStr w13 (blk w1.heap.size) fun x9 =>
 ldB w13 (blk w2.heap.size) fun x10 =>
 R (.tuple #[(.string x9), (.bool x10)]) w13) ∨
 (rangeOut mk4 l5 .done (some .ret) w9 fun w14 =>
 closeM (d7 :: []) w14 fun w15 =>
 ldStr w15 (blk w1.heap.size) fun x11 =>
 ldB w15 (blk w2.heap.size) fun x12 =>
 R (.tuple #[(.string x11), (.bool x12)]) w15))
theorem grammar_Enum_calls (p0 : Int) (p1 : Int) (R : Value → World → Prop) (w : World) (h : L_grammar_Enum p0 p1 R w) : Calls Tryz.prog 270 #[(.int .u8 p0), (.int .u32 p1)] w (Ret R) :=
 lwR_calls (fs := Tryz.fs) (an := a_grammar_Enum) (args := [(.int .u8 p0), (.int .u32 p1)]) Tryz.fsOK Tryz.mixed Tryz.func270 (by kernel_rfl) (by kernel_rfl)
 (Eq.mpr (by kernel_rfl : lwRFn Tryz.prog Tryz.fs Tryz.f270 a_grammar_Enum [(.int .u8 p0), (.int .u32 p1)] w R = L_grammar_Enum p0 p1 R w) h)

/-- intaglio.grammar.Enums -/
def a_grammar_Enums : Ann := (.seq none .nil (.seq none .nil .nil))
def L_grammar_Enums (p0 : Int) (R : Value → World → Prop) (w : World) : Prop :=
 Nw (w.alloc (.cells #[(.int .u8 p0)] 5)) fun w1 =>
 R (.func (.func 279) #[] #[(.pointer (some (blk w.heap.size)))]) w1
theorem grammar_Enums_calls (p0 : Int) (R : Value → World → Prop) (w : World) (h : L_grammar_Enums p0 R w) : Calls Tryz.prog 276 #[(.int .u8 p0)] w (Ret R) :=
 lw_calls (fs := Tryz.fs) (an := a_grammar_Enums) (args := [(.int .u8 p0)]) Tryz.fsOK Tryz.mixed Tryz.func276 (by kernel_rfl) (by kernel_rfl)
 (Eq.mpr (by kernel_rfl : lwFn Tryz.prog Tryz.fs Tryz.f276 a_grammar_Enums [(.int .u8 p0)] w R = L_grammar_Enums p0 R w) h)

/-- intaglio.grammar.Enums 1 -/
def a_grammar_Enums_1 : Ann := (.seq none .nil (.seq none .nil (.seq none .nil (.seq none .nil (.one (.loop ⟨[0, 11], [(3, (.b (.int .u32))), (5, (.b .str)), (6, (.b .bool))]⟩ (.seq none .nil (.seq none (.cond .nil .nil) (.one (.seq none .nil (.seq (some ⟨[0, 6, 11], [(3, (.b (.int .u32)))]⟩) (.one (.seq none .nil (.cond (.seq none .nil .nil) (.seq none .nil (.cond .nil (.seq none .nil (.seq none .nil (.cond .nil .nil)))))))) (.seq none .nil .nil))))))))))))
def L_grammar_Enums_1 (p0 : Value) (c0 : Addr) (R : Value → World → Prop) (w : World) : Prop :=
 ldI w c0 .u8 fun x1 =>
 callR Tryz.prog 223 #[(.int .u8 x1)] w fun v2 w1 =>
 ∃ x3 : ByteArray, v2 = (.string x3) ∧
 Nw (w1.alloc (.stringIter x3 0)) fun w2 =>
 LoopW (S := Int × ByteArray × Bool × Unit) (fun s4 w3 n5 =>
 nextW w1.heap.size w3 (fun i6 c7 w4 =>
 JoinW (S := Int × Unit) (fun m8 =>
 ifB (c7 != (32 : Int))
 (sumFits s4.2.1 (Utf8.encode c7) ∧
 n5 (s4.1, (s4.2.1 ++ (Utf8.encode c7)), s4.2.2.1, ()) w4)
 (ifB (!s4.2.2.1)
 (callR Tryz.prog 280 #[(.string s4.2.1)] w4 fun v10 w5 =>
 ∃ x11 : Int, v10 = (.int .u32 x11) ∧
 m8 (x11, ()) w5)
 (callV Tryz.prog Tryz.fs p0 [(.int .u32 s4.1), (.string s4.2.1)] w4 fun v12 w6 =>
 ∃ x13 : Bool, v12 = (.bool x13) ∧
 ifB (!x13)
 (R (.tuple #[]) w6)
 (m8 (s4.1, ()) w6))))
 (fun s9 w7 =>
 n5 (s9.1, (ByteArray.mk #[]), (!s4.2.2.1), ()) w7))
 (R (.tuple #[]) w3))
 ((0 : Int), (ByteArray.mk #[]), false, ()) w2
theorem grammar_Enums_1_calls (p0 : Value) (c0 : Addr) (R : Value → World → Prop) (w : World) (h : L_grammar_Enums_1 p0 c0 R w) : Calls Tryz.prog 279 #[p0, (.pointer (some c0))] w (Ret R) :=
 lw_calls (fs := Tryz.fs) (an := a_grammar_Enums_1) (args := [p0, (.pointer (some c0))]) Tryz.fsOK Tryz.mixed Tryz.func279 (by kernel_rfl) (by kernel_rfl)
 (Eq.mpr (by kernel_rfl : lwFn Tryz.prog Tryz.fs Tryz.f279 a_grammar_Enums_1 [p0, (.pointer (some c0))] w R = L_grammar_Enums_1 p0 c0 R w) h)

/-- intaglio.grammar.number -/
def a_grammar_number : Ann := (.seq none .nil (.seq none .nil (.seq none (.seq none .nil (.one (.loop ⟨[7], [(3, (.b (.int .u32)))]⟩ (.seq none .nil (.seq none (.cond .nil .nil) (.one (.seq none .nil .nil))))))) (.seq none .nil .nil))))
def L_grammar_number (p0 : ByteArray) (R : Value → World → Prop) (w : World) : Prop :=
 Nw (w.alloc (.stringIter p0 0)) fun w1 =>
 LoopW (S := Int × Unit) (fun s1 w2 n2 =>
 nextW w.heap.size w2 (fun i3 c4 w3 =>
 n2 ((IntKind.u32.wrap ((IntKind.u32.wrap ((10 : Int) * s1.1)) + (IntKind.u32.wrap (IntKind.i32.wrap (c4 - (48 : Int)))))), ()) w3)
 (R (.int .u32 s1.1) w2))
 ((0 : Int), ()) w1
theorem grammar_number_calls (p0 : ByteArray) (R : Value → World → Prop) (w : World) (h : L_grammar_number p0 R w) : Calls Tryz.prog 280 #[(.string p0)] w (Ret R) :=
 lw_calls (fs := Tryz.fs) (an := a_grammar_number) (args := [(.string p0)]) Tryz.fsOK Tryz.mixed Tryz.func280 (by kernel_rfl) (by kernel_rfl)
 (Eq.mpr (by kernel_rfl : lwFn Tryz.prog Tryz.fs Tryz.f280 a_grammar_number [(.string p0)] w R = L_grammar_number p0 R w) h)

end Go.Proofs
namespace Go.Gm
open Go.Gk

abbrev Bs := List UInt8
def bs (l : Bs) : ByteArray := ⟨l.toArray⟩
theorem bs_append (a b : Bs) : bs a ++ bs b = bs (a ++ b) := by
  apply ByteArray.ext
  simp [bs, ByteArray.data_append]
theorem bs_size (a : Bs) : (bs a).size = a.length := by simp [bs, ByteArray.size]
theorem bs_byte (a : Bs) (k : Nat) : byteI (bs a) (k : Int) = ((a.getD k 0).toNat : Int) := by
  unfold byteI bs
  rw [Int.toNat_natCast]
  simp [Array.getD_eq_getD_getElem?]
theorem toList_nil {a : Bs} : ((bs a).toList == (ByteArray.mk #[]).toList) = a.isEmpty := by
  rw [ByteArray.toList_eq, ByteArray.toList_eq]
  cases a with
  | nil => rfl
  | cons x r => rfl
theorem getD_lt {α : Type} {l : List α} {i : Nat} {d : α} (h : i < l.length) : l.getD i d = l[i] := by simp [List.getD, h]

def look {α : Type} : List (Int × α) → Int → Option α
  | [], _ => none
  | p :: r, n => if n = p.1 then some p.2 else look r n
def chain {α : Type} : List (Int × α) → Int → (α → Prop) → Prop → Prop
  | [], _, _, d => d
  | p :: r, n, f, d => ifB (n == p.1) (f p.2) (chain r n f d)
theorem chain_of {α : Type} {n : Int} {f : α → Prop} {d : Prop} : ∀ {tab : List (Int × α)}, (∀ x, look tab n = some x → f x) → (look tab n = none → d) → chain tab n f d
  | [], _, h2 => h2 rfl
  | p :: r, h1, h2 => ifB_beq (fun e => h1 p.2 (by simp [look, e])) (fun e => chain_of (fun x hx => h1 x (by simp [look, e, hx])) (fun hx => h2 (by simp [look, e, hx])))
theorem look_append {α : Type} (n : Int) : ∀ a b : List (Int × α), look (a ++ b) n = (look a n).or (look b n)
  | [], b => by simp [look]
  | p :: r, b => by
    simp only [List.cons_append, look]
    split
    · rfl
    · exact look_append n r b
theorem look_mem {α : Type} {n : Int} {x : α} : ∀ {a : List (Int × α)}, look a n = some x → (n, x) ∈ a
  | p :: r, h => by
    simp only [look] at h
    split at h
    · rename_i e
      cases h
      subst e
      exact List.mem_cons_self
    · exact List.mem_cons_of_mem _ (look_mem h)
theorem look_none {α : Type} {n : Int} : ∀ {a : List (Int × α)}, (∀ p ∈ a, p.1 ≠ n) → look a n = none
  | [], _ => rfl
  | p :: r, h => by
    rw [look, if_neg fun e => h p List.mem_cons_self e.symm]
    exact look_none fun q hq => h q (List.mem_cons_of_mem _ hq)
theorem look_map {α β : Type} (g : α → β) (n : Int) : ∀ a : List (Int × α), look (a.map fun p => (p.1, g p.2)) n = (look a n).map g
  | [] => rfl
  | p :: r => by
    simp only [List.map_cons, look]
    split
    · rfl
    · exact look_map g n r
/-- A form without its number: name, has a type, has a result, the letters that must stand and that may follow, how often, the part. -/
abbrev Fl := Bs × Bool × Bool × Bs × Bs × Nat × Nat
def tabA : List (Int × Bs) :=
  [(1, [79, 112, 85, 110, 100, 101, 102, 32, 84, 82, 32, 32, 32, 32, 55]),
   (3, [79, 112, 83, 111, 117, 114, 99, 101, 32, 32, 108, 110, 32, 32, 32, 52]),
   (5, [79, 112, 78, 97, 109, 101, 32, 32, 105, 115, 32, 32, 32, 53]),
   (6, [79, 112, 77, 101, 109, 98, 101, 114, 78, 97, 109, 101, 32, 32, 105, 110, 115, 32, 32, 32, 53]),
   (7, [79, 112, 83, 116, 114, 105, 110, 103, 32, 82, 32, 115, 32, 32, 32, 52]),
   (14, [79, 112, 77, 101, 109, 111, 114, 121, 77, 111, 100, 101, 108, 32, 32, 97, 109, 32, 32, 32, 49]),
   (15, [79, 112, 69, 110, 116, 114, 121, 80, 111, 105, 110, 116, 32, 32, 101, 105, 115, 32, 105, 32, 32, 50]),
   (16, [79, 112, 69, 120, 101, 99, 117, 116, 105, 111, 110, 77, 111, 100, 101, 32, 32, 105, 120, 32, 32, 32, 51]),
   (17, [79, 112, 67, 97, 112, 97, 98, 105, 108, 105, 116, 121, 32, 32, 107, 32, 32, 32, 48]),
   (19, [79, 112, 84, 121, 112, 101, 86, 111, 105, 100, 32, 82, 32, 32, 32, 32, 55]),
   (20, [79, 112, 84, 121, 112, 101, 66, 111, 111, 108, 32, 82, 32, 32, 32, 32, 55]),
   (21, [79, 112, 84, 121, 112, 101, 73, 110, 116, 32, 82, 32, 110, 110, 32, 32, 32, 55]),
   (23, [79, 112, 84, 121, 112, 101, 86, 101, 99, 116, 111, 114, 32, 82, 32, 105, 110, 32, 32, 32, 55]),
   (28, [79, 112, 84, 121, 112, 101, 65, 114, 114, 97, 121, 32, 82, 32, 105, 105, 32, 32, 32, 55]),
   (30, [79, 112, 84, 121, 112, 101, 83, 116, 114, 117, 99, 116, 32, 82, 32, 32, 105, 32, 32, 55]),
   (32, [79, 112, 84, 121, 112, 101, 80, 111, 105, 110, 116, 101, 114, 32, 82, 32, 99, 105, 32, 32, 32, 55]),
   (33, [79, 112, 84, 121, 112, 101, 70, 117, 110, 99, 116, 105, 111, 110, 32, 82, 32, 105, 32, 105, 32, 32, 55]),
   (41, [79, 112, 67, 111, 110, 115, 116, 97, 110, 116, 84, 114, 117, 101, 32, 84, 82, 32, 32, 32, 32, 55]),
   (42, [79, 112, 67, 111, 110, 115, 116, 97, 110, 116, 70, 97, 108, 115, 101, 32, 84, 82, 32, 32, 32, 32, 55]),
   (43, [79, 112, 67, 111, 110, 115, 116, 97, 110, 116, 32, 84, 82, 32, 110, 32, 32, 32, 55]),
   (44, [79, 112, 67, 111, 110, 115, 116, 97, 110, 116, 67, 111, 109, 112, 111, 115, 105, 116, 101, 32, 84, 82, 32, 32, 105, 32, 32, 55]),
   (46, [79, 112, 67, 111, 110, 115, 116, 97, 110, 116, 78, 117, 108, 108, 32, 84, 82, 32, 32, 32, 32, 55]),
   (54, [79, 112, 70, 117, 110, 99, 116, 105, 111, 110, 32, 84, 82, 32, 102, 105, 32, 32, 32, 56]),
   (55, [79, 112, 70, 117, 110, 99, 116, 105, 111, 110, 80, 97, 114, 97, 109, 101, 116, 101, 114, 32, 84, 82, 32, 32, 32, 32, 56]),
   (56, [79, 112, 70, 117, 110, 99, 116, 105, 111, 110, 69, 110, 100, 32, 32, 32, 32, 32, 56]),
   (57, [79, 112, 70, 117, 110, 99, 116, 105, 111, 110, 67, 97, 108, 108, 32, 84, 82, 32, 105, 32, 105, 32, 32, 56]),
   (59, [79, 112, 86, 97, 114, 105, 97, 98, 108, 101, 32, 84, 82, 32, 99, 32, 105, 32, 49, 32, 55]),
   (61, [79, 112, 76, 111, 97, 100, 32, 84, 82, 32, 105, 32, 32, 32, 56]),
   (62, [79, 112, 83, 116, 111, 114, 101, 32, 32, 105, 105, 32, 32, 32, 56]),
   (65, [79, 112, 65, 99, 99, 101, 115, 115, 67, 104, 97, 105, 110, 32, 84, 82, 32, 105, 32, 105, 32, 32, 56]),
   (71, [79, 112, 68, 101, 99, 111, 114, 97, 116, 101, 32, 32, 105, 100, 32, 110, 32, 32, 54])]
def tabB : List (Int × Bs) :=
  [(77, [79, 112, 86, 101, 99, 116, 111, 114, 69, 120, 116, 114, 97, 99, 116, 68, 121, 110, 97, 109, 105, 99, 32, 84, 82, 32, 105, 105, 32, 32, 32, 56]),
   (78, [79, 112, 86, 101, 99, 116, 111, 114, 73, 110, 115, 101, 114, 116, 68, 121, 110, 97, 109, 105, 99, 32, 84, 82, 32, 105, 105, 105, 32, 32, 32, 56]),
   (79, [79, 112, 86, 101, 99, 116, 111, 114, 83, 104, 117, 102, 102, 108, 101, 32, 84, 82, 32, 105, 105, 32, 110, 32, 32, 56]),
   (80, [79, 112, 67, 111, 109, 112, 111, 115, 105, 116, 101, 67, 111, 110, 115, 116, 114, 117, 99, 116, 32, 84, 82, 32, 32, 105, 32, 32, 56]),
   (81, [79, 112, 67, 111, 109, 112, 111, 115, 105, 116, 101, 69, 120, 116, 114, 97, 99, 116, 32, 84, 82, 32, 105, 32, 110, 32, 32, 56]),
   (82, [79, 112, 67, 111, 109, 112, 111, 115, 105, 116, 101, 73, 110, 115, 101, 114, 116, 32, 84, 82, 32, 105, 105, 32, 110, 32, 32, 56]),
   (83, [79, 112, 67, 111, 112, 121, 79, 98, 106, 101, 99, 116, 32, 84, 82, 32, 105, 32, 32, 32, 56]),
   (124, [79, 112, 66, 105, 116, 99, 97, 115, 116, 32, 84, 82, 32, 105, 32, 32, 32, 56]),
   (126, [79, 112, 83, 78, 101, 103, 97, 116, 101, 32, 84, 82, 32, 105, 32, 32, 32, 56]),
   (128, [79, 112, 73, 65, 100, 100, 32, 84, 82, 32, 105, 105, 32, 32, 32, 56]),
   (130, [79, 112, 73, 83, 117, 98, 32, 84, 82, 32, 105, 105, 32, 32, 32, 56]),
   (132, [79, 112, 73, 77, 117, 108, 32, 84, 82, 32, 105, 105, 32, 32, 32, 56]),
   (134, [79, 112, 85, 68, 105, 118, 32, 84, 82, 32, 105, 105, 32, 32, 32, 56]),
   (135, [79, 112, 83, 68, 105, 118, 32, 84, 82, 32, 105, 105, 32, 32, 32, 56]),
   (137, [79, 112, 85, 77, 111, 100, 32, 84, 82, 32, 105, 105, 32, 32, 32, 56]),
   (138, [79, 112, 83, 82, 101, 109, 32, 84, 82, 32, 105, 105, 32, 32, 32, 56]),
   (139, [79, 112, 83, 77, 111, 100, 32, 84, 82, 32, 105, 105, 32, 32, 32, 56]),
   (149, [79, 112, 73, 65, 100, 100, 67, 97, 114, 114, 121, 32, 84, 82, 32, 105, 105, 32, 32, 32, 56]),
   (150, [79, 112, 73, 83, 117, 98, 66, 111, 114, 114, 111, 119, 32, 84, 82, 32, 105, 105, 32, 32, 32, 56]),
   (151, [79, 112, 85, 77, 117, 108, 69, 120, 116, 101, 110, 100, 101, 100, 32, 84, 82, 32, 105, 105, 32, 32, 32, 56]),
   (152, [79, 112, 83, 77, 117, 108, 69, 120, 116, 101, 110, 100, 101, 100, 32, 84, 82, 32, 105, 105, 32, 32, 32, 56]),
   (154, [79, 112, 65, 110, 121, 32, 84, 82, 32, 105, 32, 32, 32, 56]),
   (155, [79, 112, 65, 108, 108, 32, 84, 82, 32, 105, 32, 32, 32, 56]),
   (164, [79, 112, 76, 111, 103, 105, 99, 97, 108, 69, 113, 117, 97, 108, 32, 84, 82, 32, 105, 105, 32, 32, 32, 56]),
   (165, [79, 112, 76, 111, 103, 105, 99, 97, 108, 78, 111, 116, 69, 113, 117, 97, 108, 32, 84, 82, 32, 105, 105, 32, 32, 32, 56]),
   (166, [79, 112, 76, 111, 103, 105, 99, 97, 108, 79, 114, 32, 84, 82, 32, 105, 105, 32, 32, 32, 56]),
   (167, [79, 112, 76, 111, 103, 105, 99, 97, 108, 65, 110, 100, 32, 84, 82, 32, 105, 105, 32, 32, 32, 56]),
   (168, [79, 112, 76, 111, 103, 105, 99, 97, 108, 78, 111, 116, 32, 84, 82, 32, 105, 32, 32, 32, 56]),
   (169, [79, 112, 83, 101, 108, 101, 99, 116, 32, 84, 82, 32, 105, 105, 105, 32, 32, 32, 56]),
   (170, [79, 112, 73, 69, 113, 117, 97, 108, 32, 84, 82, 32, 105, 105, 32, 32, 32, 56]),
   (171, [79, 112, 73, 78, 111, 116, 69, 113, 117, 97, 108, 32, 84, 82, 32, 105, 105, 32, 32, 32, 56])]
def tabC : List (Int × Bs) :=
  [(172, [79, 112, 85, 71, 114, 101, 97, 116, 101, 114, 84, 104, 97, 110, 32, 84, 82, 32, 105, 105, 32, 32, 32, 56]),
   (173, [79, 112, 83, 71, 114, 101, 97, 116, 101, 114, 84, 104, 97, 110, 32, 84, 82, 32, 105, 105, 32, 32, 32, 56]),
   (174, [79, 112, 85, 71, 114, 101, 97, 116, 101, 114, 84, 104, 97, 110, 69, 113, 117, 97, 108, 32, 84, 82, 32, 105, 105, 32, 32, 32, 56]),
   (175, [79, 112, 83, 71, 114, 101, 97, 116, 101, 114, 84, 104, 97, 110, 69, 113, 117, 97, 108, 32, 84, 82, 32, 105, 105, 32, 32, 32, 56]),
   (176, [79, 112, 85, 76, 101, 115, 115, 84, 104, 97, 110, 32, 84, 82, 32, 105, 105, 32, 32, 32, 56]),
   (177, [79, 112, 83, 76, 101, 115, 115, 84, 104, 97, 110, 32, 84, 82, 32, 105, 105, 32, 32, 32, 56]),
   (178, [79, 112, 85, 76, 101, 115, 115, 84, 104, 97, 110, 69, 113, 117, 97, 108, 32, 84, 82, 32, 105, 105, 32, 32, 32, 56]),
   (179, [79, 112, 83, 76, 101, 115, 115, 84, 104, 97, 110, 69, 113, 117, 97, 108, 32, 84, 82, 32, 105, 105, 32, 32, 32, 56]),
   (194, [79, 112, 83, 104, 105, 102, 116, 82, 105, 103, 104, 116, 76, 111, 103, 105, 99, 97, 108, 32, 84, 82, 32, 105, 105, 32, 32, 32, 56]),
   (195, [79, 112, 83, 104, 105, 102, 116, 82, 105, 103, 104, 116, 65, 114, 105, 116, 104, 109, 101, 116, 105, 99, 32, 84, 82, 32, 105, 105, 32, 32, 32, 56]),
   (196, [79, 112, 83, 104, 105, 102, 116, 76, 101, 102, 116, 76, 111, 103, 105, 99, 97, 108, 32, 84, 82, 32, 105, 105, 32, 32, 32, 56]),
   (197, [79, 112, 66, 105, 116, 119, 105, 115, 101, 79, 114, 32, 84, 82, 32, 105, 105, 32, 32, 32, 56]),
   (198, [79, 112, 66, 105, 116, 119, 105, 115, 101, 88, 111, 114, 32, 84, 82, 32, 105, 105, 32, 32, 32, 56]),
   (199, [79, 112, 66, 105, 116, 119, 105, 115, 101, 65, 110, 100, 32, 84, 82, 32, 105, 105, 32, 32, 32, 56]),
   (200, [79, 112, 78, 111, 116, 32, 84, 82, 32, 105, 32, 32, 32, 56]),
   (201, [79, 112, 66, 105, 116, 70, 105, 101, 108, 100, 73, 110, 115, 101, 114, 116, 32, 84, 82, 32, 105, 105, 105, 105, 32, 32, 32, 56]),
   (202, [79, 112, 66, 105, 116, 70, 105, 101, 108, 100, 83, 69, 120, 116, 114, 97, 99, 116, 32, 84, 82, 32, 105, 105, 105, 32, 32, 32, 56]),
   (203, [79, 112, 66, 105, 116, 70, 105, 101, 108, 100, 85, 69, 120, 116, 114, 97, 99, 116, 32, 84, 82, 32, 105, 105, 105, 32, 32, 32, 56]),
   (204, [79, 112, 66, 105, 116, 82, 101, 118, 101, 114, 115, 101, 32, 84, 82, 32, 105, 32, 32, 32, 56]),
   (205, [79, 112, 66, 105, 116, 67, 111, 117, 110, 116, 32, 84, 82, 32, 105, 32, 32, 32, 56]),
   (245, [79, 112, 80, 104, 105, 32, 84, 82, 32, 32, 105, 105, 32, 32, 56]),
   (246, [79, 112, 76, 111, 111, 112, 77, 101, 114, 103, 101, 32, 32, 105, 105, 103, 32, 32, 32, 56]),
   (247, [79, 112, 83, 101, 108, 101, 99, 116, 105, 111, 110, 77, 101, 114, 103, 101, 32, 32, 105, 104, 32, 32, 32, 56]),
   (248, [79, 112, 76, 97, 98, 101, 108, 32, 82, 32, 32, 32, 32, 56]),
   (249, [79, 112, 66, 114, 97, 110, 99, 104, 32, 32, 105, 32, 32, 32, 56]),
   (250, [79, 112, 66, 114, 97, 110, 99, 104, 67, 111, 110, 100, 105, 116, 105, 111, 110, 97, 108, 32, 32, 105, 105, 105, 32, 32, 32, 56]),
   (251, [79, 112, 83, 119, 105, 116, 99, 104, 32, 32, 105, 105, 32, 110, 105, 32, 32, 56]),
   (252, [79, 112, 75, 105, 108, 108, 32, 32, 32, 32, 32, 56]),
   (253, [79, 112, 82, 101, 116, 117, 114, 110, 32, 32, 32, 32, 32, 56]),
   (254, [79, 112, 82, 101, 116, 117, 114, 110, 86, 97, 108, 117, 101, 32, 32, 105, 32, 32, 32, 56]),
   (255, [79, 112, 85, 110, 114, 101, 97, 99, 104, 97, 98, 108, 101, 32, 32, 32, 32, 32, 56])]
def tabN : List (Int × Bs) :=
  [(107, [48, 32, 77, 97, 116, 114, 105, 120, 32, 49, 32, 83, 104, 97, 100, 101, 114, 32]),
   (97, [48, 32, 76, 111, 103, 105, 99, 97, 108, 32]),
   (109, [48, 32, 83, 105, 109, 112, 108, 101, 32, 49, 32, 71, 76, 83, 76, 52, 53, 48, 32]),
   (101, [48, 32, 86, 101, 114, 116, 101, 120, 32, 52, 32, 70, 114, 97, 103, 109, 101, 110, 116, 32]),
   (120, [55, 32, 79, 114, 105, 103, 105, 110, 85, 112, 112, 101, 114, 76, 101, 102, 116, 32]),
   (108, [48, 32, 85, 110, 107, 110, 111, 119, 110, 32, 49, 32, 69, 83, 83, 76, 32, 50, 32, 71, 76, 83, 76, 32]),
   (99, [49, 32, 73, 110, 112, 117, 116, 32, 51, 32, 79, 117, 116, 112, 117, 116, 32, 54, 32, 80, 114, 105, 118, 97, 116, 101, 32, 55, 32, 70, 117, 110, 99, 116, 105, 111, 110, 32]),
   (100, [48, 32, 82, 101, 108, 97, 120, 101, 100, 80, 114, 101, 99, 105, 115, 105, 111, 110, 32, 49, 49, 32, 66, 117, 105, 108, 116, 73, 110, 32, 49, 52, 32, 70, 108, 97, 116, 32, 51, 48, 32, 76, 111, 99, 97, 116, 105, 111, 110, 32]),
   (102, [48, 32, 78, 111, 110, 101, 32, 49, 32, 73, 110, 108, 105, 110, 101, 32, 50, 32, 68, 111, 110, 116, 73, 110, 108, 105, 110, 101, 32, 52, 32, 80, 117, 114, 101, 32, 56, 32, 67, 111, 110, 115, 116, 32]),
   (104, [48, 32, 78, 111, 110, 101, 32, 49, 32, 70, 108, 97, 116, 116, 101, 110, 32, 50, 32, 68, 111, 110, 116, 70, 108, 97, 116, 116, 101, 110, 32]),
   (103, [48, 32, 78, 111, 110, 101, 32, 49, 32, 85, 110, 114, 111, 108, 108, 32, 50, 32, 68, 111, 110, 116, 85, 110, 114, 111, 108, 108, 32])]
def tabR : List (Int × Fl) :=
  [(1, [79, 112, 85, 110, 100, 101, 102], true, true, [], [], 0, 7),
   (3, [79, 112, 83, 111, 117, 114, 99, 101], false, false, [108, 110], [], 0, 4),
   (5, [79, 112, 78, 97, 109, 101], false, false, [105, 115], [], 0, 5),
   (6, [79, 112, 77, 101, 109, 98, 101, 114, 78, 97, 109, 101], false, false, [105, 110, 115], [], 0, 5),
   (7, [79, 112, 83, 116, 114, 105, 110, 103], false, true, [115], [], 0, 4),
   (14, [79, 112, 77, 101, 109, 111, 114, 121, 77, 111, 100, 101, 108], false, false, [97, 109], [], 0, 1),
   (15, [79, 112, 69, 110, 116, 114, 121, 80, 111, 105, 110, 116], false, false, [101, 105, 115], [105], 0, 2),
   (16, [79, 112, 69, 120, 101, 99, 117, 116, 105, 111, 110, 77, 111, 100, 101], false, false, [105, 120], [], 0, 3),
   (17, [79, 112, 67, 97, 112, 97, 98, 105, 108, 105, 116, 121], false, false, [107], [], 0, 0),
   (19, [79, 112, 84, 121, 112, 101, 86, 111, 105, 100], false, true, [], [], 0, 7),
   (20, [79, 112, 84, 121, 112, 101, 66, 111, 111, 108], false, true, [], [], 0, 7),
   (21, [79, 112, 84, 121, 112, 101, 73, 110, 116], false, true, [110, 110], [], 0, 7),
   (23, [79, 112, 84, 121, 112, 101, 86, 101, 99, 116, 111, 114], false, true, [105, 110], [], 0, 7),
   (28, [79, 112, 84, 121, 112, 101, 65, 114, 114, 97, 121], false, true, [105, 105], [], 0, 7),
   (30, [79, 112, 84, 121, 112, 101, 83, 116, 114, 117, 99, 116], false, true, [], [105], 0, 7),
   (32, [79, 112, 84, 121, 112, 101, 80, 111, 105, 110, 116, 101, 114], false, true, [99, 105], [], 0, 7),
   (33, [79, 112, 84, 121, 112, 101, 70, 117, 110, 99, 116, 105, 111, 110], false, true, [105], [105], 0, 7),
   (41, [79, 112, 67, 111, 110, 115, 116, 97, 110, 116, 84, 114, 117, 101], true, true, [], [], 0, 7),
   (42, [79, 112, 67, 111, 110, 115, 116, 97, 110, 116, 70, 97, 108, 115, 101], true, true, [], [], 0, 7),
   (43, [79, 112, 67, 111, 110, 115, 116, 97, 110, 116], true, true, [110], [], 0, 7),
   (44, [79, 112, 67, 111, 110, 115, 116, 97, 110, 116, 67, 111, 109, 112, 111, 115, 105, 116, 101], true, true, [], [105], 0, 7),
   (46, [79, 112, 67, 111, 110, 115, 116, 97, 110, 116, 78, 117, 108, 108], true, true, [], [], 0, 7),
   (54, [79, 112, 70, 117, 110, 99, 116, 105, 111, 110], true, true, [102, 105], [], 0, 8),
   (55, [79, 112, 70, 117, 110, 99, 116, 105, 111, 110, 80, 97, 114, 97, 109, 101, 116, 101, 114], true, true, [], [], 0, 8),
   (56, [79, 112, 70, 117, 110, 99, 116, 105, 111, 110, 69, 110, 100], false, false, [], [], 0, 8),
   (57, [79, 112, 70, 117, 110, 99, 116, 105, 111, 110, 67, 97, 108, 108], true, true, [105], [105], 0, 8),
   (59, [79, 112, 86, 97, 114, 105, 97, 98, 108, 101], true, true, [99], [105], 1, 7),
   (61, [79, 112, 76, 111, 97, 100], true, true, [105], [], 0, 8),
   (62, [79, 112, 83, 116, 111, 114, 101], false, false, [105, 105], [], 0, 8),
   (65, [79, 112, 65, 99, 99, 101, 115, 115, 67, 104, 97, 105, 110], true, true, [105], [105], 0, 8),
   (71, [79, 112, 68, 101, 99, 111, 114, 97, 116, 101], false, false, [105, 100], [110], 0, 6),
   (77, [79, 112, 86, 101, 99, 116, 111, 114, 69, 120, 116, 114, 97, 99, 116, 68, 121, 110, 97, 109, 105, 99], true, true, [105, 105], [], 0, 8),
   (78, [79, 112, 86, 101, 99, 116, 111, 114, 73, 110, 115, 101, 114, 116, 68, 121, 110, 97, 109, 105, 99], true, true, [105, 105, 105], [], 0, 8),
   (79, [79, 112, 86, 101, 99, 116, 111, 114, 83, 104, 117, 102, 102, 108, 101], true, true, [105, 105], [110], 0, 8),
   (80, [79, 112, 67, 111, 109, 112, 111, 115, 105, 116, 101, 67, 111, 110, 115, 116, 114, 117, 99, 116], true, true, [], [105], 0, 8),
   (81, [79, 112, 67, 111, 109, 112, 111, 115, 105, 116, 101, 69, 120, 116, 114, 97, 99, 116], true, true, [105], [110], 0, 8),
   (82, [79, 112, 67, 111, 109, 112, 111, 115, 105, 116, 101, 73, 110, 115, 101, 114, 116], true, true, [105, 105], [110], 0, 8),
   (83, [79, 112, 67, 111, 112, 121, 79, 98, 106, 101, 99, 116], true, true, [105], [], 0, 8),
   (124, [79, 112, 66, 105, 116, 99, 97, 115, 116], true, true, [105], [], 0, 8),
   (126, [79, 112, 83, 78, 101, 103, 97, 116, 101], true, true, [105], [], 0, 8),
   (128, [79, 112, 73, 65, 100, 100], true, true, [105, 105], [], 0, 8),
   (130, [79, 112, 73, 83, 117, 98], true, true, [105, 105], [], 0, 8),
   (132, [79, 112, 73, 77, 117, 108], true, true, [105, 105], [], 0, 8),
   (134, [79, 112, 85, 68, 105, 118], true, true, [105, 105], [], 0, 8),
   (135, [79, 112, 83, 68, 105, 118], true, true, [105, 105], [], 0, 8),
   (137, [79, 112, 85, 77, 111, 100], true, true, [105, 105], [], 0, 8),
   (138, [79, 112, 83, 82, 101, 109], true, true, [105, 105], [], 0, 8),
   (139, [79, 112, 83, 77, 111, 100], true, true, [105, 105], [], 0, 8),
   (149, [79, 112, 73, 65, 100, 100, 67, 97, 114, 114, 121], true, true, [105, 105], [], 0, 8),
   (150, [79, 112, 73, 83, 117, 98, 66, 111, 114, 114, 111, 119], true, true, [105, 105], [], 0, 8),
   (151, [79, 112, 85, 77, 117, 108, 69, 120, 116, 101, 110, 100, 101, 100], true, true, [105, 105], [], 0, 8),
   (152, [79, 112, 83, 77, 117, 108, 69, 120, 116, 101, 110, 100, 101, 100], true, true, [105, 105], [], 0, 8),
   (154, [79, 112, 65, 110, 121], true, true, [105], [], 0, 8),
   (155, [79, 112, 65, 108, 108], true, true, [105], [], 0, 8),
   (164, [79, 112, 76, 111, 103, 105, 99, 97, 108, 69, 113, 117, 97, 108], true, true, [105, 105], [], 0, 8),
   (165, [79, 112, 76, 111, 103, 105, 99, 97, 108, 78, 111, 116, 69, 113, 117, 97, 108], true, true, [105, 105], [], 0, 8),
   (166, [79, 112, 76, 111, 103, 105, 99, 97, 108, 79, 114], true, true, [105, 105], [], 0, 8),
   (167, [79, 112, 76, 111, 103, 105, 99, 97, 108, 65, 110, 100], true, true, [105, 105], [], 0, 8),
   (168, [79, 112, 76, 111, 103, 105, 99, 97, 108, 78, 111, 116], true, true, [105], [], 0, 8),
   (169, [79, 112, 83, 101, 108, 101, 99, 116], true, true, [105, 105, 105], [], 0, 8),
   (170, [79, 112, 73, 69, 113, 117, 97, 108], true, true, [105, 105], [], 0, 8),
   (171, [79, 112, 73, 78, 111, 116, 69, 113, 117, 97, 108], true, true, [105, 105], [], 0, 8),
   (172, [79, 112, 85, 71, 114, 101, 97, 116, 101, 114, 84, 104, 97, 110], true, true, [105, 105], [], 0, 8),
   (173, [79, 112, 83, 71, 114, 101, 97, 116, 101, 114, 84, 104, 97, 110], true, true, [105, 105], [], 0, 8),
   (174, [79, 112, 85, 71, 114, 101, 97, 116, 101, 114, 84, 104, 97, 110, 69, 113, 117, 97, 108], true, true, [105, 105], [], 0, 8),
   (175, [79, 112, 83, 71, 114, 101, 97, 116, 101, 114, 84, 104, 97, 110, 69, 113, 117, 97, 108], true, true, [105, 105], [], 0, 8),
   (176, [79, 112, 85, 76, 101, 115, 115, 84, 104, 97, 110], true, true, [105, 105], [], 0, 8),
   (177, [79, 112, 83, 76, 101, 115, 115, 84, 104, 97, 110], true, true, [105, 105], [], 0, 8),
   (178, [79, 112, 85, 76, 101, 115, 115, 84, 104, 97, 110, 69, 113, 117, 97, 108], true, true, [105, 105], [], 0, 8),
   (179, [79, 112, 83, 76, 101, 115, 115, 84, 104, 97, 110, 69, 113, 117, 97, 108], true, true, [105, 105], [], 0, 8),
   (194, [79, 112, 83, 104, 105, 102, 116, 82, 105, 103, 104, 116, 76, 111, 103, 105, 99, 97, 108], true, true, [105, 105], [], 0, 8),
   (195, [79, 112, 83, 104, 105, 102, 116, 82, 105, 103, 104, 116, 65, 114, 105, 116, 104, 109, 101, 116, 105, 99], true, true, [105, 105], [], 0, 8),
   (196, [79, 112, 83, 104, 105, 102, 116, 76, 101, 102, 116, 76, 111, 103, 105, 99, 97, 108], true, true, [105, 105], [], 0, 8),
   (197, [79, 112, 66, 105, 116, 119, 105, 115, 101, 79, 114], true, true, [105, 105], [], 0, 8),
   (198, [79, 112, 66, 105, 116, 119, 105, 115, 101, 88, 111, 114], true, true, [105, 105], [], 0, 8),
   (199, [79, 112, 66, 105, 116, 119, 105, 115, 101, 65, 110, 100], true, true, [105, 105], [], 0, 8),
   (200, [79, 112, 78, 111, 116], true, true, [105], [], 0, 8),
   (201, [79, 112, 66, 105, 116, 70, 105, 101, 108, 100, 73, 110, 115, 101, 114, 116], true, true, [105, 105, 105, 105], [], 0, 8),
   (202, [79, 112, 66, 105, 116, 70, 105, 101, 108, 100, 83, 69, 120, 116, 114, 97, 99, 116], true, true, [105, 105, 105], [], 0, 8),
   (203, [79, 112, 66, 105, 116, 70, 105, 101, 108, 100, 85, 69, 120, 116, 114, 97, 99, 116], true, true, [105, 105, 105], [], 0, 8),
   (204, [79, 112, 66, 105, 116, 82, 101, 118, 101, 114, 115, 101], true, true, [105], [], 0, 8),
   (205, [79, 112, 66, 105, 116, 67, 111, 117, 110, 116], true, true, [105], [], 0, 8),
   (245, [79, 112, 80, 104, 105], true, true, [], [105, 105], 0, 8),
   (246, [79, 112, 76, 111, 111, 112, 77, 101, 114, 103, 101], false, false, [105, 105, 103], [], 0, 8),
   (247, [79, 112, 83, 101, 108, 101, 99, 116, 105, 111, 110, 77, 101, 114, 103, 101], false, false, [105, 104], [], 0, 8),
   (248, [79, 112, 76, 97, 98, 101, 108], false, true, [], [], 0, 8),
   (249, [79, 112, 66, 114, 97, 110, 99, 104], false, false, [105], [], 0, 8),
   (250, [79, 112, 66, 114, 97, 110, 99, 104, 67, 111, 110, 100, 105, 116, 105, 111, 110, 97, 108], false, false, [105, 105, 105], [], 0, 8),
   (251, [79, 112, 83, 119, 105, 116, 99, 104], false, false, [105, 105], [110, 105], 0, 8),
   (252, [79, 112, 75, 105, 108, 108], false, false, [], [], 0, 8),
   (253, [79, 112, 82, 101, 116, 117, 114, 110], false, false, [], [], 0, 8),
   (254, [79, 112, 82, 101, 116, 117, 114, 110, 86, 97, 108, 117, 101], false, false, [105], [], 0, 8),
   (255, [79, 112, 85, 110, 114, 101, 97, 99, 104, 97, 98, 108, 101], false, false, [], [], 0, 8)]
def tabM : List (Int × Int × Bs) :=
  [(107, 0, [77, 97, 116, 114, 105, 120]),
   (107, 1, [83, 104, 97, 100, 101, 114]),
   (97, 0, [76, 111, 103, 105, 99, 97, 108]),
   (109, 0, [83, 105, 109, 112, 108, 101]),
   (109, 1, [71, 76, 83, 76, 52, 53, 48]),
   (101, 0, [86, 101, 114, 116, 101, 120]),
   (101, 4, [70, 114, 97, 103, 109, 101, 110, 116]),
   (120, 7, [79, 114, 105, 103, 105, 110, 85, 112, 112, 101, 114, 76, 101, 102, 116]),
   (108, 0, [85, 110, 107, 110, 111, 119, 110]),
   (108, 1, [69, 83, 83, 76]),
   (108, 2, [71, 76, 83, 76]),
   (99, 1, [73, 110, 112, 117, 116]),
   (99, 3, [79, 117, 116, 112, 117, 116]),
   (99, 6, [80, 114, 105, 118, 97, 116, 101]),
   (99, 7, [70, 117, 110, 99, 116, 105, 111, 110]),
   (100, 0, [82, 101, 108, 97, 120, 101, 100, 80, 114, 101, 99, 105, 115, 105, 111, 110]),
   (100, 11, [66, 117, 105, 108, 116, 73, 110]),
   (100, 14, [70, 108, 97, 116]),
   (100, 30, [76, 111, 99, 97, 116, 105, 111, 110]),
   (102, 0, [78, 111, 110, 101]),
   (102, 1, [73, 110, 108, 105, 110, 101]),
   (102, 2, [68, 111, 110, 116, 73, 110, 108, 105, 110, 101]),
   (102, 4, [80, 117, 114, 101]),
   (102, 8, [67, 111, 110, 115, 116]),
   (104, 0, [78, 111, 110, 101]),
   (104, 1, [70, 108, 97, 116, 116, 101, 110]),
   (104, 2, [68, 111, 110, 116, 70, 108, 97, 116, 116, 101, 110]),
   (103, 0, [78, 111, 110, 101]),
   (103, 1, [85, 110, 114, 111, 108, 108]),
   (103, 2, [68, 111, 110, 116, 85, 110, 114, 111, 108, 108])]

def fldS (st : Nat × List Bs) (c : UInt8) : Nat × List Bs := if c = 32 then (st.1 + 1, st.2) else (st.1, st.2.modify st.1 (· ++ [c]))
def fldG (s : Bs) : Nat × List Bs := s.foldl fldS (0, [[], [], [], [], [], []])
def fld (s : Bs) (k : Nat) : Bs := (fldG s).2.getD k []
def parse (s : Bs) : Fl :=
  (fld s 0, (fld s 1).contains 84, (fld s 1).contains 82, fld s 2, fld s 3, (match fld s 4 with | [] => 0 | c :: _ => c.toNat - 48), (match fld s 5 with | [] => 0 | c :: _ => c.toNat - 48))
def okRow (s : Bs) : Bool :=
  s.all (· < 128) && (fld s 1).all (· < 128) && decide (s.count 32 ≤ 5) && decide (s.length ≤ 100) && !s.isEmpty && (match fld s 5 with | [] => false | c :: _ => decide (48 ≤ c.toNat)) &&
    (match fld s 4 with | [] => true | c :: _ => decide (48 ≤ c.toNat))
def tabAll : List (Int × Bs) := tabA ++ (tabB ++ tabC)
theorem rows_ok : tabAll.all (fun p => okRow p.2) = true := by decide +kernel
theorem tabs_same : (tabAll.map fun p => (p.1, parse p.2)) = tabR := by kernel_rfl
theorem keyA : tabA.all (fun p => decide (p.1 ≤ 71)) = true := by decide +kernel
theorem keyB : tabB.all (fun p => decide (71 < p.1) && decide (p.1 ≤ 171)) = true := by decide +kernel
theorem keyC : tabC.all (fun p => decide (171 < p.1)) = true := by decide +kernel
/-- An operation's row. -/
def rowP (op : Int) : Option Bs := look tabAll op
theorem rowP_A {op : Int} (h : op ≤ 71) : look tabA op = rowP op := by
  unfold rowP tabAll
  rw [look_append, look_append, look_none (a := tabB), look_none (a := tabC), Option.or_none, Option.or_none]
  · intro p hp; have := List.all_eq_true.1 keyC p hp; simp at this; omega
  · intro p hp; have := List.all_eq_true.1 keyB p hp; simp at this; omega
theorem rowP_B {op : Int} (h : ¬ op ≤ 71) (h' : op ≤ 171) : look tabB op = rowP op := by
  unfold rowP tabAll
  rw [look_append, look_append, look_none (a := tabA), look_none (a := tabC), Option.or_none, Option.none_or]
  · intro p hp; have := List.all_eq_true.1 keyC p hp; simp at this; omega
  · intro p hp; have := List.all_eq_true.1 keyA p hp; simp at this; omega
theorem rowP_C {op : Int} (h : ¬ op ≤ 71) (h' : ¬ op ≤ 171) : look tabC op = rowP op := by
  unfold rowP tabAll
  rw [look_append, look_append, look_none (a := tabA), look_none (a := tabB), Option.none_or, Option.none_or]
  · intro p hp; have := List.all_eq_true.1 keyB p hp; simp at this; omega
  · intro p hp; have := List.all_eq_true.1 keyA p hp; simp at this; omega
theorem rowP_ok {op : Int} {s : Bs} (h : rowP op = some s) : okRow s = true := List.all_eq_true.1 rows_ok _ (look_mem h)
/-- An operation's form. -/
def frm (op : Int) : Option Fl := look tabR op
theorem frm_row (op : Int) : frm op = (rowP op).map parse := by
  unfold frm rowP
  rw [← look_map, tabs_same]

theorem fldG_len (s : Bs) : (fldG s).2.length = 6 := by
  suffices h : ∀ (l : Bs) (st : Nat × List Bs), (l.foldl fldS st).2.length = st.2.length from h s _
  intro l
  induction l with
  | nil => intro st; rfl
  | cons c l ih =>
    intro st
    rw [List.foldl_cons, ih]
    unfold fldS
    split <;> simp
theorem fldG_at (s : Bs) : (fldG s).1 = s.count 32 := by
  suffices h : ∀ (l : Bs) (st : Nat × List Bs), (l.foldl fldS st).1 = st.1 + l.count 32 from (h s _).trans (Nat.zero_add _)
  intro l
  induction l with
  | nil => intro st; simp
  | cons c l ih =>
    intro st
    rw [List.foldl_cons, ih]
    unfold fldS
    split
    · rename_i e; subst e; simp; omega
    · rename_i e; rw [List.count_cons_of_ne e]
theorem fldG_size (s : Bs) : ∀ x ∈ (fldG s).2, x.length ≤ s.length := by
  suffices h : ∀ (l : Bs) (st : Nat × List Bs) (n : Nat), (∀ x ∈ st.2, x.length ≤ n) → ∀ x ∈ (l.foldl fldS st).2, x.length ≤ n + l.length by
    intro x hx
    have := h s (0, [[], [], [], [], [], []]) 0 (by simp) x hx
    omega
  intro l
  induction l with
  | nil => intro st n h x hx; exact h x hx
  | cons c l ih =>
    intro st n h x hx
    have := ih (fldS st c) (n + 1) (fun y hy => by
      unfold fldS at hy
      split at hy
      · have := h y hy; omega
      · obtain ⟨i, hi, e⟩ := List.mem_iff_getElem.1 hy
        rw [List.getElem_modify] at e
        rw [List.length_modify] at hi
        split at e
        · rw [← e]
          have := h _ (List.getElem_mem hi)
          simp
          omega
        · rw [← e]
          have := h _ (List.getElem_mem hi)
          omega) x hx
    simp only [List.length_cons]
    omega
theorem fldG_snoc (s : Bs) (c : UInt8) : fldG (s ++ [c]) = fldS (fldG s) c := by simp [fldG, List.foldl_append]

abbrev Fl.fixed (f : Fl) : Bs := f.2.2.2.1
abbrev Fl.rest (f : Fl) : Bs := f.2.2.2.2.1
abbrev Fl.most (f : Fl) : Nat := f.2.2.2.2.2.1
def lettersOk (f : Fl) : Bool := f.fixed.all (fun c => c != 0) && f.rest.all (fun c => c != 0) && decide (f.fixed.length ≤ 100) && decide (f.rest.length ≤ 100) && decide (f.most ≤ 100)
theorem letters_ok : tabR.all (fun p => lettersOk p.2) = true := by decide +kernel
/-- The letter of the argument k. -/
def letP (f : Fl) (k : Nat) : Nat :=
  if k < f.fixed.length then (f.fixed.getD k 0).toNat
  else if f.rest.length = 0 then 0
  else if 0 < f.most ∧ f.most * f.rest.length ≤ k - f.fixed.length then 0
  else (f.rest.getD ((k - f.fixed.length) % f.rest.length) 0).toNat
def kindP (c : Int) : Int :=
  if c = 105 then 1 else if c = 110 then 2 else if c = 115 then 3 else if (look tabN c).isSome then 4 else 0
theorem names_ne : tabN.all (fun p => !p.2.isEmpty) = true := by decide +kernel
theorem names_there : tabM.all (fun p => (look tabN p.1).isSome) = true := by decide +kernel
theorem kinds_ok : tabR.all (fun p => p.2.fixed.all (fun c => decide (kindP c.toNat ≠ 0)) && p.2.rest.all (fun c => decide (kindP c.toNat ≠ 0))) = true := by decide +kernel
theorem frm_letters {op : Int} {f : Fl} (h : frm op = some f) : lettersOk f = true := List.all_eq_true.1 letters_ok _ (look_mem h)
theorem letP_kind {op : Int} {f : Fl} (h : frm op = some f) {k : Nat} (hk : letP f k ≠ 0) : kindP (letP f k) ≠ 0 := by
  have h2 := List.all_eq_true.1 kinds_ok _ (look_mem h)
  rw [Bool.and_eq_true] at h2
  have h3 := List.all_eq_true.1 h2.1
  have h4 := List.all_eq_true.1 h2.2
  unfold letP at hk ⊢
  split
  · rename_i hlt
    rw [getD_lt hlt]
    exact of_decide_eq_true (h3 _ (List.getElem_mem hlt))
  · rename_i hlt
    rw [if_neg hlt] at hk
    split
    · rename_i e; rw [if_pos e] at hk; exact absurd rfl hk
    · rename_i e
      rw [if_neg e] at hk
      split
      · rename_i e2; rw [if_pos e2] at hk; exact absurd rfl hk
      · have : (k - f.fixed.length) % f.rest.length < f.rest.length := Nat.mod_lt _ (by omega)
        rw [getD_lt this]
        exact of_decide_eq_true (h4 _ (List.getElem_mem this))

/-- The argument k is of a kind that cannot stand there. -/
def bad (f : Fl) (ks : List Int) (k : Nat) : Bool := ks.getD k 0 == 0 || kindP (letP f k) != ks.getD k 0
def wrongLen (f : Fl) (n : Nat) : Bool := decide (n < f.fixed.length) || (decide (f.rest.length ≠ 0) && decide ((n - f.fixed.length) % f.rest.length ≠ 0))
def fitF (f : Fl) (ks : List Int) : Nat × Bool := match (List.range ks.length).find? (bad f ks) with
  | some k => (k, false)
  | none => if wrongLen f ks.length then (ks.length, false) else (0, true)
def fitP (op : Int) (ks : List Int) : Nat × Bool := match frm op with
  | none => (0, false)
  | some f => fitF f ks
theorem fitP_none {op : Int} {ks : List Int} (h : frm op = none) : fitP op ks = (0, false) := by unfold fitP; rw [h]
theorem fitP_some {op : Int} {ks : List Int} {f : Fl} (h : frm op = some f) : fitP op ks = fitF f ks := by unfold fitP; rw [h]
theorem find_first {p : Nat → Bool} {n k : Nat} (hk : k < n) (hp : p k = true) (h : ∀ j, j < k → p j = false) : (List.range n).find? p = some k := by
  rw [List.find?_range_eq_some]
  exact ⟨hp, by simpa using hk, fun j hj => by simp [h j hj]⟩
theorem fit_bad {f : Fl} {ks : List Int} {k : Nat} (hk : k < ks.length) (hp : bad f ks k = true) (h : ∀ j, j < k → bad f ks j = false) : fitF f ks = (k, false) := by
  unfold fitF
  rw [find_first hk hp h]
theorem fit_good {f : Fl} {ks : List Int} (h : ∀ j, j < ks.length → bad f ks j = false) : fitF f ks = if wrongLen f ks.length then (ks.length, false) else (0, true) := by
  unfold fitF
  have : (List.range ks.length).find? (bad f ks) = none := by
    rw [List.find?_eq_none]
    intro j hj
    rw [h j (List.mem_range.1 hj)]
    simp
  rw [this]

end Go.Gm
namespace Go.Proofs
open Go.Gk Go.RowKit Go.Gm

theorem decode_ascii {s : Bs} {k : Nat} (hk : k < s.length) (h : s[k] < 128) : Utf8.decode (bs s) k = (s[k].toNat, 1) := by
  have e : ((bs s).get! (k + 0)).toNat = s[k].toNat := by
    have : (bs s).get! (k + 0) = s[k] := by
      show (s.toArray)[k + 0]! = s[k]
      simp [hk]
    rw [this]
  have h' : s[k].toNat < 128 := h
  unfold Utf8.decode
  simp only [e]
  rw [if_pos h']
theorem encode_ascii {c : UInt8} (h : c < 128) : Utf8.encode (c.toNat : Int) = bs [c] := by
  have h' : c.toNat < 128 := h
  have hv : Utf8.valid (c.toNat : Int) = true := by
    unfold Utf8.valid
    have : (decide (0 ≤ (c.toNat : Int)) && decide ((c.toNat : Int) < 0xD800)) = true := by simp; omega
    rw [this]; rfl
  unfold Utf8.encode
  simp only [hv, if_true, Int.toNat_natCast]
  rw [if_pos (by omega)]
  show _ = bs [c]
  unfold bs
  simp
theorem getElem_iter {w : World} {r : Nat} {s : ByteArray} {p : Nat} (h : r < w.heap.size) : (setIter w r s p).heap[r]? = some (.stringIter s p) := by
  simp [setIter, h]
theorem map_modify {α β : Type} (f : α → β) (g : α → α) (l : List α) {i : Nat} (h : i < l.length) : (l.map f).set i (f (g l[i])) = (l.modify i g).map f := by
  apply List.ext_getElem
  · simp
  · intro j h1 h2
    simp only [List.getElem_set, List.getElem_map, List.getElem_modify]
    split
    · rename_i e; subst e; rfl
    · rfl

abbrev six (l : List Bs) : List Value := l.map fun x => .string (bs x)
theorem okRow_of {s : Bs} (h : okRow s = true) : (∀ c ∈ s, c < 128) ∧ (∀ c ∈ fld s 1, c < 128) ∧ s.count 32 ≤ 5 ∧ s.length ≤ 100 ∧ s ≠ [] ∧ (∃ c r, fld s 5 = c :: r ∧ 48 ≤ c.toNat) ∧ (∀ c r, fld s 4 = c :: r → 48 ≤ c.toNat) := by
  unfold okRow at h
  simp only [Bool.and_eq_true, decide_eq_true_eq, List.all_eq_true, Bool.not_eq_true', List.isEmpty_eq_false_iff] at h
  obtain ⟨⟨⟨⟨⟨⟨h1, h1'⟩, h2⟩, h3⟩, h4⟩, h5⟩, h6⟩ := h
  refine ⟨h1, h1', h2, h3, h4, ?_, ?_⟩
  · cases e : fld s 5 with
    | nil => rw [e] at h5; cases h5
    | cons c r => rw [e] at h5; exact ⟨c, r, rfl, of_decide_eq_true h5⟩
  · intro c r e
    rw [e] at h6
    exact of_decide_eq_true h6
theorem fields_spec {s : Bs} (hs : okRow s = true) {w : World} {R : Value → World → Prop}
    (hR : ∀ w', Below w.heap.size w w' → R (.agg #[.string (bs (fld s 0)), .string (bs (fld s 1)), .string (bs (fld s 2)), .string (bs (fld s 3)), .string (bs (fld s 4)), .string (bs (fld s 5))]) w') :
    callR Tryz.prog 222 #[.string (bs s)] w R := by
  obtain ⟨h128, -, h5, hlen, -⟩ := okRow_of hs
  refine callR.of (grammar_fields_calls (bs s) R w ?_) fun _ _ h => h
  refine Nw.gen fun w1 e1 => Nw.gen fun w2 e2 => Nw.gen fun w3 e3 => ?_
  have hA1 : Blk w1 w.heap.size 283 (six [[], [], [], [], [], []]) := by rw [e1]; exact Blk.new w _ _
  have z1 : w1.heap.size = w.heap.size + 1 := by rw [e1]; simp
  have b1 : Below w.heap.size w w1 := by rw [e1]; exact (Below.refl _ _).alloc (Nat.le_refl _) _
  have hA2 : Blk w2 w.heap.size 283 (six [[], [], [], [], [], []]) := by rw [e2]; exact hA1.alloc _
  have hB2 : Blk w2 w1.heap.size 283 (six [[], [], [], [], [], []]) := by rw [e2]; exact Blk.new w1 _ _
  have z2 : w2.heap.size = w.heap.size + 2 := by rw [e2]; simp [z1]
  have b2 : Below w.heap.size w w2 := by rw [e2]; exact b1.alloc (by omega) _
  have hA3 : Blk w3 w.heap.size 283 (six [[], [], [], [], [], []]) := by rw [e3]; exact hA2.alloc _
  have hB3 : Blk w3 w1.heap.size 283 (six [[], [], [], [], [], []]) := by rw [e3]; exact hB2.alloc _
  have hI3 : w3.heap[w2.heap.size]? = some (.stringIter (bs s) 0) := by
    rw [e3]
    show (w2.heap.push _)[w2.heap.size]? = _
    simp
  have z3 : w3.heap.size = w.heap.size + 3 := by rw [e3]; simp [z2]
  have b3 : Below w.heap.size w w3 := by rw [e3]; exact b2.alloc (by omega) _
  clear e1 e2 e3 hA1 hA2 hB2
  refine LoopW.ghost (fun j st w' => ∃ k, k ≤ s.length ∧ j = s.length - k ∧ st = (((fldG (s.take k)).1 : Int), ()) ∧ w'.heap.size = w.heap.size + 3 ∧ Below w.heap.size w w' ∧ w'.heap[w2.heap.size]? = some (.stringIter (bs s) k) ∧
    Blk w' w.heap.size 283 (six [[], [], [], [], [], []]) ∧ Blk w' w1.heap.size 283 (six (fldG (s.take k)).2)) s.length ⟨0, Nat.zero_le _, rfl, rfl, z3, b3, hI3, hA3, hB3⟩ ?_
  rintro _ _ w4 ⟨k, hk, rfl, rfl, hz, hb, hI, hA, hB⟩ next hnext
  have hat : (fldG (s.take k)).1 ≤ 5 := by
    rw [fldG_at]
    exact Nat.le_trans ((List.take_sublist k s).count_le _) h5
  refine ⟨bs s, k, hI, fun hlt => ?_, fun hge => ?_⟩
  · rw [bs_size] at hlt
    have hc128 := h128 _ (List.getElem_mem hlt)
    rw [decode_ascii hlt hc128]
    dsimp only
    have hc := Chg.iter w2.heap.size w4 (bs s) (k + 1)
    have hI5 := getElem_iter (w := w4) (s := bs s) (p := k + 1) (r := w2.heap.size) (by omega)
    generalize setIter w4 w2.heap.size (bs s) (k + 1) = w5 at hc hI5
    have hA5 := hc.blk hA (by omega)
    have hB5 := hc.blk hB (by omega)
    have hb5 := hc.below hb (by omega)
    have hz5 := hc.size.trans hz
    have htk : s.take (k + 1) = s.take k ++ [s[k]] := List.take_succ_eq_append_getElem hlt
    refine ifB_beq (fun e => ?_) (fun e => ?_)
    · have e : s[k] = 32 := by
        apply UInt8.toNat.inj
        have : (s[k].toNat : Int) = 32 := e
        show s[k].toNat = 32
        omega
      rw [wrap64_succ (by omega)]
      refine hnext (s.length - (k + 1)) _ _ (by omega) ⟨k + 1, hlt, rfl, ?_, hz5, hb5, hI5, hA5, ?_⟩
      · rw [htk, fldG_snoc, fldS, if_pos e]
      · rw [htk, fldG_snoc, fldS, if_pos e]; exact hB5
    · have e : s[k] ≠ 32 := by
        intro h
        apply e
        rw [h]
        rfl
      have h6 := fldG_len (s.take k)
      have hlt6 : (fldG (s.take k)).1 < (fldG (s.take k)).2.length := by omega
      refine ⟨⟨by omega, by omega⟩, ?_⟩
      rw [Int.toNat_natCast]
      refine hB5.rT (x := bs (fldG (s.take k)).2[(fldG (s.take k)).1]) (by simp [six, hlt6]) ⟨?_, ⟨by omega, by omega⟩, hB5.wr (by simpa [six] using hlt6), ?_⟩
      · rw [encode_ascii hc128]
        unfold sumFits
        rw [bs_size, bs_size]
        have := fldG_size (s.take k) _ (List.getElem_mem hlt6)
        rw [List.length_take] at this
        simp only [List.length_singleton]
        omega
      · rw [encode_ascii hc128, bs_append]
        refine hnext (s.length - (k + 1)) _ _ (by omega) ⟨k + 1, hlt, rfl, ?_, ?_, ?_, ?_, ?_, ?_⟩
        · rw [htk, fldG_snoc, fldS, if_neg e]
        · simpa [World.setCell] using hz5
        · exact (Chg.set _ _ _ _).below hb5 (by omega)
        · rw [(Chg.set _ _ _ _).block _ (by omega)]; exact hI5
        · exact (Chg.set _ _ _ _).blk hA5 (by omega)
        · have := hB5.set (fldG (s.take k)).1 (.string (bs ((fldG (s.take k)).2[(fldG (s.take k)).1] ++ [s[k]])))
          rw [htk, fldG_snoc, fldS, if_neg e]
          have e3 := map_modify (fun x => Value.string (bs x)) (· ++ [s[k]]) (fldG (s.take k)).2 hlt6
          show Blk _ _ _ (((fldG (s.take k)).2.modify (fldG (s.take k)).1 (· ++ [s[k]])).map fun x => Value.string (bs x))
          rw [← e3]
          exact this
  · rw [bs_size] at hge
    have : k = s.length := by omega
    subst this
    rw [List.take_length] at hB
    have hR' : ∀ w', Below w.heap.size w w' → R (.agg #[.string (bs ((fldG s).2.getD 0 [])), .string (bs ((fldG s).2.getD 1 [])), .string (bs ((fldG s).2.getD 2 [])), .string (bs ((fldG s).2.getD 3 [])), .string (bs ((fldG s).2.getD 4 [])), .string (bs ((fldG s).2.getD 5 []))]) w' := hR
    have h6 := fldG_len s
    generalize (fldG s).2 = l at hB h6 hR'
    match l, h6 with
    | [a0, a1, a2, a3, a4, a5], _ =>
      refine hB.rT (n := 0) rfl (hB.rT (n := 1) rfl (hB.rT (n := 2) rfl (hB.rT (n := 3) rfl (hB.rT (n := 4) rfl (hB.rT (n := 5) rfl ?_)))))
      refine stC_all (vs := six [a0, a1, a2, a3, a4, a5]) hA rfl fun w' h1 h2 => ?_
      refine h1.rT (n := 0) rfl (h1.rT (n := 1) rfl (h1.rT (n := 2) rfl (h1.rT (n := 3) rfl (h1.rT (n := 4) rfl (h1.rT (n := 5) rfl ?_)))))
      exact hR' w' (h2.below hb (Nat.le_refl _))

abbrev rowT (op : Int) : Bs := (rowP op).getD []
theorem first_E (op : Int) (R : Value → World → Prop) (w : World) : L_grammar_first op R w = chain tabA op (fun s => R (.string (bs s)) w) (R (.string (bs [])) w) := by kernel_rfl
theorem second_E (op : Int) (R : Value → World → Prop) (w : World) : L_grammar_second op R w = chain tabB op (fun s => R (.string (bs s)) w) (R (.string (bs [])) w) := by kernel_rfl
theorem third_E (op : Int) (R : Value → World → Prop) (w : World) : L_grammar_third op R w = chain tabC op (fun s => R (.string (bs s)) w) (R (.string (bs [])) w) := by kernel_rfl
theorem row_spec {op : Int} {w : World} {R : Value → World → Prop} (hR : R (.string (bs (rowT op))) w) : callR Tryz.prog 221 #[.int .u16 op] w R := by
  refine callR.of (grammar_row_calls op R w ?_) fun _ _ h => h
  unfold rowT at hR
  refine ifB_dec (fun h => ?_) (fun h => ifB_dec (fun h' => ?_) (fun h' => ?_))
  · rw [← rowP_A h] at hR
    refine callR.of (grammar_first_calls op _ w ?_) fun _ _ h => h
    rw [first_E]
    exact chain_of (fun x hx => ⟨_, rfl, by rw [hx] at hR; exact hR⟩) (fun hx => ⟨_, rfl, by rw [hx] at hR; exact hR⟩)
  · rw [← rowP_B h h'] at hR
    refine callR.of (grammar_second_calls op _ w ?_) fun _ _ h => h
    rw [second_E]
    exact chain_of (fun x hx => ⟨_, rfl, by rw [hx] at hR; exact hR⟩) (fun hx => ⟨_, rfl, by rw [hx] at hR; exact hR⟩)
  · rw [← rowP_C h h'] at hR
    refine callR.of (grammar_third_calls op _ w ?_) fun _ _ h => h
    rw [third_E]
    exact chain_of (fun x hx => ⟨_, rfl, by rw [hx] at hR; exact hR⟩) (fun hx => ⟨_, rfl, by rw [hx] at hR; exact hR⟩)

abbrev Fm := Int × ByteArray × Bool × Bool × ByteArray × ByteArray × Int × Int × Unit
abbrev fmV (f : Fm) : List Value := [.int .u16 f.1, .string f.2.1, .bool f.2.2.1, .bool f.2.2.2.1, .string f.2.2.2.2.1, .string f.2.2.2.2.2.1, .int .i64 f.2.2.2.2.2.2.1, .int .u8 f.2.2.2.2.2.2.2.1]
abbrev fmA (f : Fm) : Value := .agg #[.int .u16 f.1, .string f.2.1, .bool f.2.2.1, .bool f.2.2.2.1, .string f.2.2.2.2.1, .string f.2.2.2.2.2.1, .int .i64 f.2.2.2.2.2.2.1, .int .u8 f.2.2.2.2.2.2.2.1]
def fmO (op : Int) : Option Fl → Fm
  | none => (0, bs [], false, false, bs [], bs [], 0, 0, ())
  | some f => (op, bs f.1, f.2.1, f.2.2.1, bs f.fixed, bs f.rest, (f.most : Int), (f.2.2.2.2.2.2 : Int), ())
theorem Fm.load {w : World} {b : Nat} {T : TypeId} {f : Fm} (h : Blk w b T (fmV f)) {φ : Int → ByteArray → Bool → Bool → ByteArray → ByteArray → Int → Int → Prop}
    (hφ : φ f.1 f.2.1 f.2.2.1 f.2.2.2.1 f.2.2.2.2.1 f.2.2.2.2.2.1 f.2.2.2.2.2.2.1 f.2.2.2.2.2.2.2.1) :
    ldI w ((blk b).add 0) .u16 fun x1 => ldStr w ((blk b).add 1) fun x2 => ldB w ((blk b).add 2) fun x3 => ldB w ((blk b).add 3) fun x4 => ldStr w ((blk b).add 4) fun x5 => ldStr w ((blk b).add 5) fun x6 =>
      ldI w ((blk b).add 6) .i64 fun x7 => ldI w ((blk b).add 7) .u8 fun x8 => φ x1 x2 x3 x4 x5 x6 x7 x8 :=
  h.rI (n := 0) rfl (h.rT (n := 1) rfl (h.rB (n := 2) rfl (h.rB (n := 3) rfl (h.rT (n := 4) rfl (h.rT (n := 5) rfl (h.rI (n := 6) rfl (h.rI (n := 7) rfl hφ)))))))
theorem byte_sub {c : UInt8} {r : Bs} (h : 48 ≤ c.toNat) : IntKind.u8.wrap (byteI (bs (c :: r)) 0 - 48) = ((c.toNat - 48 : Nat) : Int) := by
  have e : byteI (bs (c :: r)) 0 = (c.toNat : Int) := bs_byte (c :: r) 0
  have := c.toNat_lt
  rw [e, IntKind.wrap_u8]
  omega

theorem gOf_spec {op : Int} {w : World} {R : Value → World → Prop} (hR : ∀ w', Below w.heap.size w w' → R (.tuple #[fmA (fmO op (frm op)), .bool (frm op).isSome]) w') :
    callR Tryz.prog 168 #[.int .u16 op] w R := by
  refine callR.of (grammar_Of_calls op R w ?_) fun _ _ h => h
  refine Nw.gen fun w1 e1 => ?_
  have hA1 : Blk w1 w.heap.size 178 (fmV (fmO op none)) := by rw [e1]; exact Blk.new w _ _
  have z1 : w1.heap.size = w.heap.size + 1 := by rw [e1]; simp
  have b1 : Below w.heap.size w w1 := by rw [e1]; exact (Below.refl _ _).alloc (Nat.le_refl _) _
  clear e1
  refine row_spec ⟨_, rfl, ?_⟩
  rw [toList_nil]
  rw [frm_row] at hR
  cases hrow : rowP op with
  | none =>
    rw [hrow] at hR
    refine ifB_true (by unfold rowT; rw [hrow]; rfl) ?_
    refine stC_all (vs := fmV (fmO op none)) hA1 rfl fun w2 h1 h2 => ?_
    exact Fm.load h1 (hR w2 (h2.below b1 (Nat.le_refl _)))
  | some s =>
    rw [hrow] at hR
    have hok := rowP_ok hrow
    obtain ⟨h128, h128', h5, hlen, hne, ⟨c5, r5, e5, g5⟩, g4⟩ := okRow_of hok
    have ert : rowT op = s := by unfold rowT; rw [hrow]; rfl
    rw [ert]
    refine ifB_false (by simpa using hne) ?_
    refine fields_spec hok fun w2 b2 => ?_
    have hA2 := hA1.below b2
    have b2' : Below w.heap.size w w2 := b1.trans (b2.mono (by omega))
    have z2 : w.heap.size < w2.heap.size := by have := b2.size; omega
    refine ⟨(bs (fld s 0), bs (fld s 1), bs (fld s 2), bs (fld s 3), bs (fld s 4), bs (fld s 5), ()), rfl, ?_⟩
    refine box_of (T := 283) (vs := six [fld s 0, fld s 1, fld s 2, fld s 3, fld s 4, fld s 5]) rfl fun w3 hB b3 z3 => ?_
    have hA3 := hA2.below b3
    have b3' : Below w.heap.size w w3 := b2'.trans (b3.mono (by omega))
    refine ⟨⟨by decide, by decide⟩, hB.drew.rT (n := 0) rfl ⟨⟨by decide, by decide⟩, hB.drew.rT (n := 2) rfl ⟨⟨by decide, by decide⟩, hB.drew.rT (n := 3) rfl ⟨⟨by decide, by decide⟩, hB.drew.rT (n := 5) rfl ⟨⟨by decide, ?_⟩, ?_⟩⟩⟩⟩⟩
    · rw [bs_size, e5]; simp
    refine Nw.gen fun w4 e4 => ?_
    have hC4 : Blk w4 w3.drew.heap.size 178 (fmV (fmO op none)) := by rw [e4]; exact Blk.new w3.drew _ _
    have hB4 : Blk w4 w2.heap.size 283 (six [fld s 0, fld s 1, fld s 2, fld s 3, fld s 4, fld s 5]) := by rw [e4]; exact hB.drew.alloc _
    have hA4 : Blk w4 w.heap.size 178 (fmV (fmO op none)) := by rw [e4]; exact hA3.drew.alloc _
    have b4 : Below w.heap.size w w4 := by rw [e4]; exact b3'.drew.alloc (by show w.heap.size ≤ w3.heap.size; omega) _
    have z4 : w4.heap.size = w3.heap.size + 1 := by rw [e4]; simp
    clear e4
    refine ⟨hB4.cell (n := 5) rfl, hB4.cell (n := 3) rfl, hB4.cell (n := 2) rfl, hB4.cell (n := 0) rfl, ?_⟩
    have zd : w3.drew.heap.size = w3.heap.size := rfl
    generalize w3.drew.heap.size = n4 at zd hC4
    rw [e5, byte_sub g5]
    refine stC_all (vs := [.int .u16 op, .string (bs (fld s 0)), .bool false, .bool false, .string (bs (fld s 2)), .string (bs (fld s 3)), .int .i64 0, .int .u8 ((c5.toNat - 48 : Nat) : Int)]) hC4 rfl fun w5 hC5 c5' => ?_
    have hB5 := c5'.blk hB4 (by omega)
    have hA5 := c5'.blk hA4 (by omega)
    have b5 := c5'.below b4 (by omega)
    have z5 := c5'.size
    refine ⟨⟨by decide, by decide⟩, hB5.rT (n := 1) rfl ?_⟩
    refine Nw.gen fun w6 e6 => ?_
    have hI6 : w6.heap[w5.heap.size]? = some (.stringIter (bs (fld s 1)) 0) := by
      rw [e6]
      show (w5.heap.push _)[w5.heap.size]? = _
      simp
    have hC6 := hC5.alloc (.stringIter (bs (fld s 1)) 0)
    have hB6 := hB5.alloc (.stringIter (bs (fld s 1)) 0)
    have hA6 := hA5.alloc (.stringIter (bs (fld s 1)) 0)
    have z6 : w6.heap.size = w5.heap.size + 1 := by rw [e6]; simp
    have b6 : Below w.heap.size w w6 := by rw [e6]; exact b5.alloc (by omega) _
    rw [← e6] at hC6 hB6 hA6
    clear e6
    refine LoopW.ghost (fun j (_ : Unit) w' => ∃ k, k ≤ (fld s 1).length ∧ j = (fld s 1).length - k ∧ w'.heap.size = w6.heap.size ∧ Below w.heap.size w w' ∧ w'.heap[w5.heap.size]? = some (.stringIter (bs (fld s 1)) k) ∧
      Blk w' w.heap.size 178 (fmV (fmO op none)) ∧ Blk w' w2.heap.size 283 (six [fld s 0, fld s 1, fld s 2, fld s 3, fld s 4, fld s 5]) ∧
      Blk w' n4 178 [.int .u16 op, .string (bs (fld s 0)), .bool (((fld s 1).take k).contains 84), .bool (((fld s 1).take k).contains 82), .string (bs (fld s 2)), .string (bs (fld s 3)), .int .i64 0, .int .u8 ((c5.toNat - 48 : Nat) : Int)])
      (fld s 1).length ⟨0, Nat.zero_le _, rfl, rfl, b6, hI6, hA6, hB6, hC6⟩ ?_
    rintro _ _ w7 ⟨k, hk, rfl, hz, hb, hI, hA, hB', hC⟩ next hnext
    refine ⟨bs (fld s 1), k, hI, fun hlt => ?_, fun hge => ?_⟩
    · rw [bs_size] at hlt
      have hc128 := h128' _ (List.getElem_mem hlt)
      rw [decode_ascii hlt hc128]
      dsimp only
      have hc := Chg.iter w5.heap.size w7 (bs (fld s 1)) (k + 1)
      have hI8 := getElem_iter (w := w7) (s := bs (fld s 1)) (p := k + 1) (r := w5.heap.size) (by omega)
      generalize setIter w7 w5.heap.size (bs (fld s 1)) (k + 1) = w8 at hc hI8
      have hA8 := hc.blk hA (by omega)
      have hB8 := hc.blk hB' (by omega)
      have hC8 := hc.blk hC (by omega)
      have hb8 := hc.below hb (by omega)
      have hz8 := hc.size.trans hz
      have htk : (fld s 1).take (k + 1) = (fld s 1).take k ++ [(fld s 1)[k]] := List.take_succ_eq_append_getElem hlt
      have hcon : ∀ (d : UInt8), ((fld s 1).take (k + 1)).contains d = (((fld s 1).take k).contains d || (((fld s 1)[k].toNat : Int) == ((d.toNat : Nat) : Int))) := by
        intro d
        rw [htk, List.contains_append]
        congr 1
        simp only [List.contains_cons, List.contains_nil, Bool.or_false]
        by_cases e : (fld s 1)[k] = d
        · rw [e]; simp
        · have e1 : (d == (fld s 1)[k]) = false := beq_eq_false_iff_ne.2 fun h => e h.symm
          have e2 : (((fld s 1)[k].toNat : Int) == ((d.toNat : Nat) : Int)) = false := beq_eq_false_iff_ne.2 fun h => e (UInt8.toNat.inj (by omega))
          rw [e1, e2]
      refine JoinW.cut (fun _ w9 => Chg n4 w8 w9 ∧ Blk w9 n4 178 [.int .u16 op, .string (bs (fld s 0)), .bool (((fld s 1).take (k + 1)).contains 84), .bool (((fld s 1).take k).contains 82), .string (bs (fld s 2)), .string (bs (fld s 3)), .int .i64 0, .int .u8 ((c5.toNat - 48 : Nat) : Int)]) ?_ ?_
      · refine hC8.rB (n := 2) rfl (ifB_bool (fun ht => ?_) (fun ht => ?_))
        · refine ⟨hC8.wr (n := 2) (by simp), Chg.set _ _ _ _, ?_⟩
          have := hC8.set 2 (.bool true)
          rw [hcon 84, ht]
          exact this
        · refine ⟨hC8.wr (n := 2) (by simp), Chg.set _ _ _ _, ?_⟩
          have := hC8.set 2 (.bool (((fld s 1)[k].toNat : Int) == 84))
          rw [hcon 84, ht, Bool.false_or]
          exact this
      · rintro _ w9 ⟨c9, hC9⟩
        have fin : ∀ w10, Chg n4 w9 w10 → Blk w10 n4 178 [.int .u16 op, .string (bs (fld s 0)), .bool (((fld s 1).take (k + 1)).contains 84), .bool (((fld s 1).take (k + 1)).contains 82), .string (bs (fld s 2)), .string (bs (fld s 3)), .int .i64 0, .int .u8 ((c5.toNat - 48 : Nat) : Int)] → next () w10 := by
          intro w10 c10 hC10
          have cc := c9.trans c10
          refine hnext ((fld s 1).length - (k + 1)) _ _ (by omega) ⟨k + 1, hlt, rfl, cc.size.trans hz8, cc.below hb8 (by omega), ?_, cc.blk hA8 (by omega), cc.blk hB8 (by omega), hC10⟩
          rw [cc.block _ (by omega)]
          exact hI8
        refine hC9.rB (n := 3) rfl (ifB_bool (fun ht => ?_) (fun ht => ?_))
        · refine ⟨hC9.wr (n := 3) (by simp), fin _ (Chg.set _ _ _ _) ?_⟩
          have := hC9.set 3 (.bool true)
          rw [hcon 82, ht]
          exact this
        · refine ⟨hC9.wr (n := 3) (by simp), fin _ (Chg.set _ _ _ _) ?_⟩
          have := hC9.set 3 (.bool (((fld s 1)[k].toNat : Int) == 82))
          rw [hcon 82, ht, Bool.false_or]
          exact this
    · rw [bs_size] at hge
      have hk : k = (fld s 1).length := by omega
      subst hk
      rw [List.take_length] at hC
      refine JoinW.cut (fun _ w9 => Chg n4 w7 w9 ∧ Blk w9 n4 178 (fmV (fmO op (some (parse s))))) ?_ ?_
      · refine ⟨⟨by decide, by decide⟩, hB'.rT (n := 4) rfl ?_⟩
        rw [toList_nil]
        cases e4 : fld s 4 with
        | nil =>
          refine ifB_false rfl ⟨Chg.refl _ _, ?_⟩
          have ep : parse s = (fld s 0, (fld s 1).contains 84, (fld s 1).contains 82, fld s 2, fld s 3, 0, c5.toNat - 48) := by
            unfold parse
            rw [e4, e5]
          rw [ep]
          exact hC
        | cons c4 r4 =>
          have g := g4 _ _ e4
          refine ifB_true rfl ⟨⟨by decide, by decide⟩, ?_⟩
          rw [e4] at hB'
          refine hB'.rT (n := 4) rfl ⟨⟨by decide, by rw [bs_size]; simp⟩, hC.wr (n := 6) (by simp), Chg.set _ _ _ _, ?_⟩
          rw [byte_sub g, wrap64_in (by omega) (by have := c4.toNat_lt; omega)]
          have ep : parse s = (fld s 0, (fld s 1).contains 84, (fld s 1).contains 82, fld s 2, fld s 3, c4.toNat - 48, c5.toNat - 48) := by
            unfold parse
            rw [e4, e5]
          rw [ep]
          exact hC.set 6 (.int .i64 ((c4.toNat - 48 : Nat) : Int))
      · rintro _ w9 ⟨c9, hC9⟩
        refine Fm.load hC9 ?_
        refine stC_all (vs := fmV (fmO op (some (parse s)))) (c9.blk hA (by omega)) rfl fun w10 h1 h2 => ?_
        exact Fm.load h1 (hR w10 (h2.below (c9.below hb (by omega)) (Nat.le_refl _)))

end Go.Proofs
namespace Go.Proofs
open Go.Gk Go.RowKit Go.Gm

def fl0 : Fl := ([], false, false, [], [], 0, 0)
def flOf (op : Int) : Fl := (frm op).getD fl0
theorem flOf_ok (op : Int) : lettersOk (flOf op) = true := by
  unfold flOf
  cases h : frm op with
  | none => decide +kernel
  | some f => exact frm_letters h
/-- The box f says the letters of g. -/
structure FmIs (f : Fm) (g : Fl) : Prop where
  fixed : f.2.2.2.2.1 = bs g.fixed
  rest : f.2.2.2.2.2.1 = bs g.rest
  most : f.2.2.2.2.2.2.1 = (g.most : Int)
theorem fmIs (op : Int) : FmIs (fmO op (frm op)) (flOf op) := by
  unfold flOf
  cases h : frm op with
  | none => exact ⟨rfl, rfl, rfl⟩
  | some f => exact ⟨rfl, rfl, rfl⟩
structure LOk (g : Fl) : Prop where
  fixed : ∀ c ∈ g.fixed, c ≠ 0
  rest : ∀ c ∈ g.rest, c ≠ 0
  fl : g.fixed.length ≤ 100
  rl : g.rest.length ≤ 100
  ml : g.most ≤ 100
theorem lOk {g : Fl} (h : lettersOk g = true) : LOk g := by
  unfold lettersOk at h
  simp only [Bool.and_eq_true, List.all_eq_true, bne_iff_ne, decide_eq_true_eq] at h
  obtain ⟨⟨⟨⟨h1, h2⟩, h3⟩, h4⟩, h5⟩ := h
  exact ⟨h1, h2, h3, h4, h5⟩
def fixP (g : Fl) (k : Nat) : Nat := if k < g.fixed.length then (g.fixed.getD k 0).toNat else 0
def restP (g : Fl) (k : Nat) : Nat :=
  if k < g.fixed.length then 0 else if g.rest.length = 0 then 0 else if 0 < g.most ∧ g.most * g.rest.length ≤ k - g.fixed.length then 0
  else (g.rest.getD ((k - g.fixed.length) % g.rest.length) 0).toNat
theorem letP_fix {g : Fl} {k : Nat} (h : fixP g k ≠ 0) : letP g k = fixP g k := by
  unfold fixP at h ⊢
  unfold letP
  split
  · rfl
  · rename_i h1; rw [if_neg h1] at h; exact absurd rfl h
theorem letP_rest {g : Fl} (hg : LOk g) {k : Nat} (h : fixP g k = 0) : letP g k = restP g k := by
  unfold fixP at h
  unfold restP letP
  split at h
  · rename_i h1
    rw [getD_lt h1] at h
    exact absurd (UInt8.toNat.inj (b := 0) h) (hg.fixed _ (List.getElem_mem h1))
  · rename_i h1
    rw [if_neg h1, if_neg h1]

section
variable {f : Fm} {g : Fl} {w : World} {R : Value → World → Prop}
theorem fixed_spec (hf : FmIs f g) {i : Nat} (hR : ∀ w', Below w.heap.size w w' → R (.int .u8 (fixP g i : Int)) w') :
    callR Tryz.prog 224 #[fmA f, .int .i64 (i : Int)] w R := by
  refine callR.of (grammar_form_fixed_calls f i R w ?_) fun _ _ h => h
  refine lay_of fun w1 hB b1 z1 => ?_
  have hB : Blk w1 w.heap.size 230 (fmV f) := hB
  have hf4 := hf.fixed
  refine JoinW.cut (fun _ w' => w' = w1 ∧ i < g.fixed.length) ?_ ?_
  · refine ifB_dec (fun h => absurd h (by omega)) (fun _ => ?_)
    refine hB.rT (n := 4) rfl ?_
    rw [hf4, bs_size]
    refine ifB_dec (fun h => ?_) (fun h => ⟨rfl, by omega⟩)
    have := hR w1 b1
    rwa [fixP, if_neg (by omega)] at this
  · rintro _ w' ⟨rfl, hlt⟩
    refine hB.rT (n := 4) rfl ?_
    rw [hf4, bs_size, bs_byte]
    refine ⟨⟨by omega, by omega⟩, ?_⟩
    have := hR w' b1
    rwa [fixP, if_pos hlt] at this
theorem rest_spec (hf : FmIs f g) (hg : LOk g) {i : Nat} (hi : i ≤ 9223372036854775807) (hR : ∀ w', Below w.heap.size w w' → R (.int .u8 (restP g i : Int)) w') :
    callR Tryz.prog 225 #[fmA f, .int .i64 (i : Int)] w R := by
  refine callR.of (grammar_form_rest_calls f i R w ?_) fun _ _ h => h
  refine lay_of fun w1 hB b1 z1 => ?_
  have hB : Blk w1 w.heap.size 230 (fmV f) := hB
  have h1 := hg.fl
  have h2 := hg.rl
  have h3 := hg.ml
  refine hB.rT (n := 4) rfl ?_
  have hf4 := hf.fixed
  have hf5 := hf.rest
  have hf6 := hf.most
  rw [hf4, bs_size, wrap64_in (by omega) (by omega)]
  have hmul : g.most * g.rest.length ≤ 10000 := Nat.le_trans (Nat.mul_le_mul h3 h2) (by omega)
  refine JoinW.cut (fun _ w' => w' = w1 ∧ g.fixed.length ≤ i ∧ g.rest.length ≠ 0 ∧ ¬ (0 < g.most ∧ g.most * g.rest.length ≤ i - g.fixed.length)) ?_ ?_
  · refine ifB_dec (fun h => ?_) (fun h => ?_)
    · have := hR w1 b1
      rwa [restP, if_pos (by omega)] at this
    · have hge : ¬ i < g.fixed.length := by omega
      refine hB.rT (n := 5) rfl ?_
      rw [hf5, toList_nil]
      refine ifB_bool (fun e => ?_) (fun e => ?_)
      · have := hR w1 b1
        rwa [restP, if_neg hge, if_pos (by rw [List.isEmpty_iff] at e; rw [e]; rfl)] at this
      · have hne : g.rest.length ≠ 0 := by
          intro h
          rw [List.eq_nil_of_length_eq_zero h] at e
          cases e
        refine hB.rI (n := 6) rfl ?_
        rw [hf6]
        refine ifB_dec (fun hm => ?_) (fun hm => ⟨rfl, by omega, hne, by omega⟩)
        refine hB.rI (n := 6) rfl (hB.rT (n := 5) rfl ?_)
        rw [hf6, hf5, bs_size, ← Int.natCast_mul, wrap64_in (by omega) (by omega)]
        refine ifB_dec (fun hc => ?_) (fun hc => ⟨rfl, by omega, hne, by omega⟩)
        have := hR w1 b1
        rwa [restP, if_neg hge, if_neg hne, if_pos ⟨by omega, by omega⟩] at this
  · rintro _ w' ⟨rfl, hge, hne, hno⟩
    refine hB.drew.rT (n := 5) rfl (hB.drew.rT (n := 5) rfl ?_)
    rw [hf5, bs_size]
    refine ifB_dec (fun h => absurd h (by omega)) (fun _ => ?_)
    have e : Int.tmod ((i : Int) - (g.fixed.length : Int)) (g.rest.length : Int) = (((i - g.fixed.length) % g.rest.length : Nat) : Int) := by
      rw [show (i : Int) - (g.fixed.length : Int) = ((i - g.fixed.length : Nat) : Int) by omega]
      exact Int.ofNat_tmod _ _ |>.symm
    have hlt : (i - g.fixed.length) % g.rest.length < g.rest.length := Nat.mod_lt _ (by omega)
    rw [e, bs_byte]
    refine ⟨⟨by omega, by omega⟩, ?_⟩
    have := hR w'.drew b1.drew
    rwa [restP, if_neg (by omega), if_neg hne, if_neg hno] at this
theorem letter_spec (hf : FmIs f g) (hg : LOk g) {i : Nat} (hi : i ≤ 9223372036854775807) (hR : ∀ w', Below w.heap.size w w' → R (.int .u8 (letP g i : Int)) w') :
    callR Tryz.prog 170 #[fmA f, .int .i64 (i : Int)] w R := by
  refine callR.of (grammar_form_letter_calls f i R w ?_) fun _ _ h => h
  refine lay_of fun w1 hB b1 z1 => ?_
  have hB : Blk w1 w.heap.size 230 (fmV f) := hB
  refine ifB_dec (fun h => absurd h (by omega)) (fun _ => ?_)
  refine Fm.load hB (Fm.load hB ?_)
  refine lay_of fun w2 hF b2 z2 => ?_
  have b2' := b1.on b2
  refine LoopW.count 2 (by omega) (fun k w' => Below w.heap.size w w' ∧ Below w2.heap.size w2 w' ∧ (0 < k → fixP g i = 0) ∧ (1 < k → restP g i = 0)) ⟨b2', Below.refl _ _, fun h => by omega, fun h => by omega⟩ ?_
  rintro k w3 hk ⟨hb, hb2, hk1, hk2⟩ next hnext
  have hF3 := hF.below hb2
  have z3 := hb.size
  refine ifB_dec (fun h => ?_) (fun h => ?_)
  · refine ⟨⟨by omega, by omega⟩, ?_⟩
    match k, h, hk1, hk2, hnext with
    | 0, _, _, _, hnext =>
      refine ⟨_, hF3.cell (n := 0) rfl, ?_⟩
      show callR Tryz.prog 224 #[fmA f, .int .i64 (i : Int)] w3 _
      refine fixed_spec hf fun w4 b4 => ⟨_, rfl, ?_⟩
      refine ifB_bne (fun e => ?_) (fun e => ?_)
      · have := hR w4 (hb.on b4)
        rwa [letP_fix (by omega)] at this
      · exact hnext w4 (by omega) ⟨hb.on b4, hb2.on b4, fun _ => by omega, fun h => by omega⟩
    | 1, _, hk1, _, hnext =>
      refine ⟨_, hF3.cell (n := 1) rfl, ?_⟩
      show callR Tryz.prog 225 #[fmA f, .int .i64 (i : Int)] w3 _
      refine rest_spec hf hg hi fun w4 b4 => ⟨_, rfl, ?_⟩
      have hf0 := hk1 (by omega)
      refine ifB_bne (fun e => ?_) (fun e => ?_)
      · have := hR w4 (hb.on b4)
        rwa [letP_rest hg hf0] at this
      · exact hnext w4 (by omega) ⟨hb.on b4, hb2.on b4, fun _ => hf0, fun _ => by omega⟩
    | k + 2, h, _, _, _ => dsimp only at h; omega
  · have hk : 1 < k := by dsimp only at h; omega
    have := hR w3 hb
    rwa [letP_rest hg (hk1 (by omega)), hk2 hk] at this
end

theorem names_E (c : Int) (R : Value → World → Prop) (w : World) : L_grammar_names c R w = chain tabN c (fun s => R (.string (bs s)) w) (R (.string (bs [])) w) := by kernel_rfl
theorem Kind_spec {c : Int} {w : World} {R : Value → World → Prop} (hR : R (.int .u8 (kindP c)) w) : callR Tryz.prog 169 #[.int .u8 c] w R := by
  refine callR.of (grammar_Kind_calls c R w ?_) fun _ _ h => h
  unfold kindP at hR
  refine ifB_beq (fun e => by rwa [if_pos e] at hR) (fun e => ?_)
  rw [if_neg e] at hR
  refine ifB_beq (fun e => by rwa [if_pos e] at hR) (fun e => ?_)
  rw [if_neg e] at hR
  refine ifB_beq (fun e => by rwa [if_pos e] at hR) (fun e => ?_)
  rw [if_neg e] at hR
  refine callR.of (grammar_names_calls c _ w ?_) fun _ _ h => h
  rw [names_E]
  refine chain_of (fun s hs => ⟨_, rfl, ?_⟩) (fun hs => ⟨_, rfl, ?_⟩)
  · rw [toList_nil]
    have := List.all_eq_true.1 names_ne _ (look_mem hs)
    rw [hs] at hR
    exact ifB_true this hR
  · rw [toList_nil]
    rw [hs] at hR
    exact ifB_false rfl hR

theorem Fits_spec {op : Int} {s : Sl} {ks : List Int} {w : World} {R : Value → World → Prop} (hs : IsS (Value.int .u8) w s ks)
    (hR : ∀ w', Below w.heap.size w w' → R (.tuple #[.int .i64 ((fitP op ks).1 : Int), .bool (fitP op ks).2]) w') :
    callR Tryz.prog 134 #[.int .u16 op, .slice s.a s.l s.c] w R := by
  refine callR.of (grammar_Fits_calls op s R w ?_) fun _ _ h => h
  have hg := lOk (flOf_ok op)
  have hlen := hs.len
  have hmax := hs.bound
  refine gOf_spec fun w1 b1 => ⟨fmO op (frm op), (frm op).isSome, rfl, ?_⟩
  refine box_of (T := 178) (vs := fmV (fmO op (frm op))) rfl fun w2 hB b2 z2 => ?_
  refine ifB_bool (fun hn => ?_) (fun hn => ?_)
  · have hfr : frm op = none := by
      cases h : frm op with
      | none => rfl
      | some g => rw [h] at hn; cases hn
    rw [fitP_none hfr] at hR
    exact hR w2 (b1.on b2)
  · obtain ⟨g, hfr⟩ : ∃ g, frm op = some g := by
      cases h : frm op with
      | none => rw [h] at hn; cases hn
      | some g => exact ⟨g, rfl⟩
    rw [fitP_some hfr] at hR
    have efl : flOf op = g := by unfold flOf; rw [hfr]; rfl
    have hfm := fmIs op
    rw [efl] at hfm hg
    generalize fmO op (frm op) = fm at hB hfm
    refine Fm.load hB ?_
    refine box8 rfl fun w3 hC b3 z3 => ?_
    have hC : Blk w3 w2.heap.size 230 (fmV fm) := hC
    have b3' := (b1.on b2).on b3
    refine LoopW.count s.l (by omega) (fun k w' => Below w.heap.size w w' ∧ Below w3.heap.size w3 w' ∧ ∀ j, j < k → bad g ks j = false) ⟨b3', Below.refl _ _, fun j hj => by omega⟩ ?_
    rintro k w4 hk ⟨hb, hb3, hj⟩ next hnext
    have hC4 := hC.below hb3
    have hs4 := hs.below hb
    refine ifB_dec (fun h => ?_) (fun h => ?_)
    · have hlt : k < ks.length := by dsimp only at h; omega
      have hbadE : bad g ks k = (ks[k] == 0 || kindP (letP g k) != ks[k]) := by unfold bad; rw [getD_lt hlt]
      refine JoinW.cut (fun _ w' => Below w4.heap.size w4 w' ∧ bad g ks k = false) ?_ ?_
      · refine hs4.addr hlt fun a _ hc => ⟨_, hc, ?_⟩
        refine ifB_beq (fun e => ?_) (fun e => ?_)
        · have := hR w4 hb
          rwa [fit_bad hlt (by rw [hbadE, e]; rfl) hj] at this
        · refine Fm.load hC4 ?_
          refine letter_spec hfm hg (by omega) fun w5 b5 => ⟨_, rfl, ?_⟩
          refine Kind_spec ⟨_, rfl, ?_⟩
          refine ifB_bne (fun e2 => ?_) (fun e2 => ?_)
          · have := hR w5 (hb.on b5)
            rwa [fit_bad hlt (by rw [hbadE, bne_iff_ne.2 e2, Bool.or_true]) hj] at this
          · refine ⟨b5, ?_⟩
            rw [hbadE, e2]
            simpa using e
      · rintro _ w5 ⟨b5, hbk⟩
        refine hnext w5 (by omega) ⟨hb.on b5, hb3.on b5, fun j hj' => ?_⟩
        by_cases e : j = k
        · subst e; exact hbk
        · exact hj j (by omega)
    · have hk : k = ks.length := by dsimp only at h; omega
      subst hk
      have hfit := fit_good hj
      have hR' := hR w4 hb
      rw [show fitF g ks = _ from hfit] at hR'
      have h1 := hg.fl
      refine hC4.rT (n := 4) rfl ?_
      rw [hfm.fixed, bs_size, wrap64_in (by omega) (by omega), hlen]
      refine ifB_dec (fun hn => ?_) (fun hn => ?_)
      · rwa [if_pos (by unfold wrongLen; rw [decide_eq_true (by omega), Bool.true_or])] at hR'
      · have hge : ¬ ks.length < g.fixed.length := by omega
        refine hC4.rT (n := 5) rfl ?_
        rw [hfm.rest, toList_nil]
        refine ifB_bool (fun e => ?_) (fun e => ?_)
        · have hne : g.rest.length ≠ 0 := by
            intro h
            rw [List.eq_nil_of_length_eq_zero h] at e
            cases e
          refine hC4.rT (n := 5) rfl ?_
          rw [hfm.rest, bs_size]
          refine ifB_dec (fun h => absurd h (by omega)) (fun _ => ?_)
          have e3 : Int.tmod ((ks.length : Int) - (g.fixed.length : Int)) (g.rest.length : Int) = (((ks.length - g.fixed.length) % g.rest.length : Nat) : Int) := by
            rw [show (ks.length : Int) - (g.fixed.length : Int) = ((ks.length - g.fixed.length : Nat) : Int) by omega]
            exact Int.ofNat_tmod _ _ |>.symm
          rw [e3]
          refine ifB_bne (fun e4 => ?_) (fun e4 => ?_)
          · rwa [if_pos (by unfold wrongLen; rw [decide_eq_false hge, decide_eq_true hne, decide_eq_true (by omega)]; rfl)] at hR'
          · rwa [if_neg (by unfold wrongLen; rw [decide_eq_false hge, decide_eq_true hne, decide_eq_false (by omega)]; decide)] at hR'
        · have hz : g.rest.length = 0 := by
            have : g.rest.isEmpty = true := by simpa using e
            rw [List.isEmpty_iff] at this
            rw [this]
            rfl
          rwa [if_neg (by unfold wrongLen; rw [decide_eq_false hge, decide_eq_false (show ¬ g.rest.length ≠ 0 by omega), Bool.false_and]; decide)] at hR'

end Go.Proofs
namespace Go.Proofs
open Go.Gk Go.RowKit Go.Gm

end Go.Proofs
namespace Go.Gm
open Go.Gk
/-- A number of digits, as the code reckons it. -/
def numS (n : Int) (c : UInt8) : Int := IntKind.u32.wrap (IntKind.u32.wrap (10 * n) + IntKind.u32.wrap (IntKind.i32.wrap ((c.toNat : Int) - 48)))
def numP (s : Bs) : Int := s.foldl numS 0
/-- Names and numbers, taken apart: the number, the word, whether it is the name's turn; what was found. -/
abbrev EnS := Int × Bs × Bool × List (Int × Bs)
def enS (st : EnS) (c : UInt8) : EnS :=
  if c = 32 then (if st.2.2.1 = true then (st.1, [], false, st.2.2.2 ++ [(st.1, st.2.1)]) else (numP st.2.1, [], true, st.2.2.2)) else (st.1, st.2.1 ++ [c], st.2.2.1, st.2.2.2)
def enG (s : Bs) : EnS := s.foldl enS (0, [], false, [])
def enL (c : Int) : List (Int × Bs) := (enG ((Gm.look tabN c).getD [])).2.2.2
theorem enG_snoc (s : Bs) (c : UInt8) : enG (s ++ [c]) = enS (enG s) c := by simp [enG, List.foldl_append]
theorem enS_pre (st : EnS) (c : UInt8) : st.2.2.2 <+: (enS st c).2.2.2 := by
  unfold enS
  split
  · split
    · exact List.prefix_append _ _
    · exact List.prefix_refl _
  · exact List.prefix_refl _
theorem foldl_pre (l : Bs) : ∀ st : EnS, st.2.2.2 <+: (l.foldl enS st).2.2.2 := by
  induction l with
  | nil => intro st; exact List.prefix_refl _
  | cons c l ih => intro st; exact (enS_pre st c).trans (ih _)
theorem enG_pre (s : Bs) (k : Nat) : (enG (s.take k)).2.2.2 <+: (enG s).2.2.2 := by
  have : enG s = (s.drop k).foldl enS (enG (s.take k)) := by
    unfold enG
    rw [← List.foldl_append, List.take_append_drop]
  rw [this]
  exact foldl_pre _ _
theorem enG_word (s : Bs) : (enG s).2.1.length ≤ s.length := by
  suffices h : ∀ (l : Bs) (st : EnS), (l.foldl enS st).2.1.length ≤ st.2.1.length + l.length by
    have := h s (0, [], false, [])
    unfold enG
    simpa using this
  intro l
  induction l with
  | nil => intro st; simp
  | cons c l ih =>
    intro st
    have h1 := ih (enS st c)
    have h2 : (enS st c).2.1.length ≤ st.2.1.length + 1 := by
      unfold enS
      split
      · split <;> simp
      · simp
    simp only [List.foldl_cons, List.length_cons]
    omega
theorem enG_ascii {s : Bs} (h : ∀ c ∈ s, c < 128) : ∀ c ∈ (enG s).2.1, c < 128 := by
  suffices g : ∀ (l : Bs) (st : EnS), (∀ c ∈ l, c < 128) → (∀ c ∈ st.2.1, c < 128) → ∀ c ∈ (l.foldl enS st).2.1, c < 128 from g s (0, [], false, []) h (by simp)
  intro l
  induction l with
  | nil => intro st _ h; exact h
  | cons c l ih =>
    intro st hl hs
    refine ih (enS st c) (fun d hd => hl d (List.mem_cons_of_mem _ hd)) ?_
    unfold enS
    split
    · split <;> simp
    · intro d hd
      rcases List.mem_append.1 hd with h | h
      · exact hs d h
      · rw [List.mem_singleton.1 h]; exact hl c List.mem_cons_self
theorem names_ascii : tabN.all (fun p => p.2.all (· < 128) && decide (p.2.length ≤ 200)) = true := by decide +kernel
theorem names_list : tabN.all (fun p => decide ((enG p.2).2.2.2 = (tabM.filter fun q => decide (q.1 = p.1)).map (·.2))) = true := by decide +kernel
/-- Is n an enumerant of the letter? -/
def enumP (c n : Int) : Bool := tabM.any fun q => decide (q.1 = c) && decide (q.2.1 = n)
theorem row_ascii (c : Int) : (∀ b ∈ (Gm.look tabN c).getD [], b < 128) ∧ ((Gm.look tabN c).getD []).length ≤ 200 := by
  cases h : Gm.look tabN c with
  | none => simp
  | some s =>
    have := List.all_eq_true.1 names_ascii _ (look_mem h)
    simp only [Bool.and_eq_true, List.all_eq_true, decide_eq_true_eq] at this
    exact this
theorem enum_iff (c n : Int) : enumP c n = true ↔ ∃ x ∈ enL c, x.1 = n := by
  unfold enumP enL
  rw [List.any_eq_true]
  cases h : Gm.look tabN c with
  | none =>
    constructor
    · rintro ⟨q, hq, e⟩
      rw [Bool.and_eq_true, decide_eq_true_eq] at e
      have := List.all_eq_true.1 names_there _ hq
      rw [e.1, h] at this
      cases this
    · rintro ⟨x, hx, _⟩
      cases hx
  | some s =>
    have := of_decide_eq_true (List.all_eq_true.1 names_list _ (look_mem h))
    simp only [Option.getD_some] at this ⊢
    rw [this]
    constructor
    · rintro ⟨q, hq, e⟩
      rw [Bool.and_eq_true, decide_eq_true_eq, decide_eq_true_eq] at e
      exact ⟨q.2, List.mem_map.2 ⟨q, List.mem_filter.2 ⟨hq, decide_eq_true e.1⟩, rfl⟩, e.2⟩
    · rintro ⟨x, hx, e⟩
      obtain ⟨q, hq, rfl⟩ := List.mem_map.1 hx
      obtain ⟨h1, h2⟩ := List.mem_filter.1 hq
      refine ⟨q, h1, ?_⟩
      rw [Bool.and_eq_true, decide_eq_true_eq]
      exact ⟨of_decide_eq_true h2, decide_eq_true e⟩
end Go.Gm
namespace Go.Proofs
open Go.Gk Go.RowKit Go.Gm

theorem put_self {w : World} {l : Nat} (h : l < w.heap.size) (o : Obj) : (w.putObj l o).heap[l]? = some o := by simp [World.putObj, h]
theorem number_spec {s : Bs} (h128 : ∀ c ∈ s, c < 128) {w : World} {R : Value → World → Prop} (hR : ∀ w', Below w.heap.size w w' → R (.int .u32 (numP s)) w') : callR Tryz.prog 280 #[.string (bs s)] w R := by
  refine callR.of (grammar_number_calls (bs s) R w ?_) fun _ _ h => h
  refine Nw.gen fun w1 e1 => ?_
  have hI1 : w1.heap[w.heap.size]? = some (.stringIter (bs s) 0) := by
    rw [e1]
    show (w.heap.push _)[w.heap.size]? = _
    simp
  have z1 : w1.heap.size = w.heap.size + 1 := by rw [e1]; simp
  have b1 : Below w.heap.size w w1 := by rw [e1]; exact (Below.refl _ _).alloc (Nat.le_refl _) _
  clear e1
  refine LoopW.ghost (fun j st w' => ∃ k, k ≤ s.length ∧ j = s.length - k ∧ st = (numP (s.take k), ()) ∧ w'.heap.size = w.heap.size + 1 ∧ Below w.heap.size w w' ∧ w'.heap[w.heap.size]? = some (.stringIter (bs s) k)) s.length ⟨0, Nat.zero_le _, rfl, rfl, z1, b1, hI1⟩ ?_
  rintro _ _ w2 ⟨k, hk, rfl, rfl, hz, hb, hI⟩ next hnext
  refine ⟨bs s, k, hI, fun hlt => ?_, fun hge => ?_⟩
  · rw [bs_size] at hlt
    rw [decode_ascii hlt (h128 _ (List.getElem_mem hlt))]
    dsimp only
    have hc := Chg.iter w.heap.size w2 (bs s) (k + 1)
    refine hnext (s.length - (k + 1)) _ _ (by omega) ⟨k + 1, hlt, rfl, ?_, hc.size.trans hz, hc.below hb (Nat.le_refl _), getElem_iter (by omega)⟩
    rw [List.take_succ_eq_append_getElem hlt]
    unfold numP
    rw [List.foldl_append]
    rfl
  · rw [bs_size] at hge
    have hk : k = s.length := by omega
    subst hk
    rw [List.take_length]
    exact hR w2 hb

/-- The walk over a letter's enumerants, with whatever yield. -/
theorem Enums1_spec {y : Value} {c : Int} {pb : Nat} {w : World} (hp : w.cell? (blk pb) = some (.int .u8 c)) (Inv : Nat → World → Prop) (S : World → Prop) (h0 : Inv 0 w) (hkeep : ∀ j w' w'', Inv j w' → w.heap.size ≤ w'.heap.size → Below w.heap.size w' w'' → Inv j w'')
    (hround : ∀ j (hj : j < (enL c).length) w', Inv j w' → callV Tryz.prog Tryz.fs y [.int .u32 (enL c)[j].1, .string (bs (enL c)[j].2)] w' fun v w'' => ((v = .bool true ∧ Inv (j + 1) w'') ∨ (v = .bool false ∧ S w'')) ∧ w''.heap.size = w'.heap.size ∧ ∀ b, w.heap.size ≤ b → w''.heap[b]? = w'.heap[b]?)
    (hend : ∀ w', Inv (enL c).length w' → S w') : Calls Tryz.prog 279 #[y, .pointer (some (blk pb))] w (Ret fun _ w' => S w') := by
  refine grammar_Enums_1_calls y (blk pb) _ w ⟨c, hp, ?_⟩
  refine callR.of (grammar_names_calls c _ w ?_) fun _ _ h => h
  rw [names_E]
  have hrow := row_ascii c
  have hL : enL c = (enG ((Gm.look tabN c).getD [])).2.2.2 := rfl
  suffices go : ∀ s : Bs, s = (Gm.look tabN c).getD [] → (∃ x : ByteArray, Value.string (bs s) = .string x ∧ _) from chain_of (fun x hx => go x (by rw [hx]; rfl)) (fun hx => go [] (by rw [hx]; rfl))
  intro s hs
  rw [← hs] at hrow hL
  obtain ⟨h128, hlen⟩ := hrow
  refine ⟨bs s, rfl, ?_⟩
  refine Nw.gen fun w1 e1 => ?_
  have hI1 : w1.heap[w.heap.size]? = some (.stringIter (bs s) 0) := by
    rw [e1]
    show (w.heap.push _)[w.heap.size]? = _
    simp
  have z1 : w1.heap.size = w.heap.size + 1 := by rw [e1]; simp
  have b1 : Below w.heap.size w w1 := by rw [e1]; exact (Below.refl _ _).alloc (Nat.le_refl _) _
  clear e1
  refine LoopW.ghost (fun j st w' => ∃ k, k ≤ s.length ∧ j = s.length - k ∧ st = ((enG (s.take k)).1, bs (enG (s.take k)).2.1, (enG (s.take k)).2.2.1, ()) ∧ w.heap.size < w'.heap.size ∧ Inv (enG (s.take k)).2.2.2.length w' ∧ w'.heap[w.heap.size]? = some (.stringIter (bs s) k))
    s.length ⟨0, Nat.zero_le _, rfl, rfl, by omega, hkeep 0 w w1 h0 (Nat.le_refl _) b1, hI1⟩ ?_
  rintro _ _ w2 ⟨k, hk, rfl, rfl, hz, hIn, hI⟩ next hnext
  refine ⟨bs s, k, hI, fun hlt => ?_, fun hge => ?_⟩
  · rw [bs_size] at hlt
    have hc128 := h128 _ (List.getElem_mem hlt)
    rw [decode_ascii hlt hc128]
    dsimp only
    have hc := Chg.iter w.heap.size w2 (bs s) (k + 1)
    have hI3 := getElem_iter (w := w2) (s := bs s) (p := k + 1) (r := w.heap.size) (by omega)
    generalize setIter w2 w.heap.size (bs s) (k + 1) = w3 at hc hI3
    have hIn3 := hkeep _ w2 w3 hIn (by omega) (hc.below (Below.refl _ _) (Nat.le_refl _))
    have hz3 := hc.size
    have htk : s.take (k + 1) = s.take k ++ [s[k]] := List.take_succ_eq_append_getElem hlt
    have hst : enG (s.take (k + 1)) = enS (enG (s.take k)) s[k] := by rw [htk, enG_snoc]
    have hpre := enG_pre s (k + 1)
    have hwl := enG_word (s.take k)
    rw [List.length_take] at hwl
    have hwa := enG_ascii (s := s.take k) (fun c hc => h128 c (List.mem_of_mem_take hc))
    rw [hst] at hpre
    have hnx : ∀ w', w.heap.size < w'.heap.size → Inv (enG (s.take (k + 1))).2.2.2.length w' → w'.heap[w.heap.size]? = some (.stringIter (bs s) (k + 1)) → next ((enG (s.take (k + 1))).1, bs (enG (s.take (k + 1))).2.1, (enG (s.take (k + 1))).2.2.1, ()) w' :=
      fun w' h1 h2 h3 => hnext (s.length - (k + 1)) _ _ (by omega) ⟨k + 1, hlt, rfl, rfl, h1, h2, h3⟩
    rw [hst] at hnx
    clear hnext
    generalize enG (s.take k) = st at hnx hpre hwl hwa hIn3 ⊢
    obtain ⟨n, word, nb, out⟩ := st
    dsimp only at hwl hwa hIn3 ⊢
    by_cases e : s[k] = 32
    · have e32 : ((s[k].toNat : Nat) : Int) = 32 := by rw [e]; rfl
      cases nb with
      | false =>
        have hS : enS (n, word, false, out) s[k] = (numP word, [], true, out) := by unfold enS; rw [if_pos e, if_neg (by simp)]
        rw [hS] at hnx
        refine JoinW.cut (fun st w' => st = (numP word, ()) ∧ w.heap.size < w'.heap.size ∧ Inv out.length w' ∧ w'.heap[w.heap.size]? = some (.stringIter (bs s) (k + 1))) ?_ ?_
        · refine ifB_bne (fun h => absurd e32 h) (fun _ => ifB_bool (fun _ => ?_) (fun h => by cases h))
          refine number_spec hwa fun w4 b4 => ⟨_, rfl, rfl, ?_, ?_, ?_⟩
          · have := b4.size
            omega
          · exact hkeep _ w3 w4 hIn3 (by omega) (b4.mono (by omega))
          · rw [b4.block _ (by omega)]; exact hI3
        · rintro ⟨m, _⟩ w' ⟨h1, h2, h3, h4⟩
          cases h1
          exact hnx w' h2 h3 h4
      | true =>
        have hS : enS (n, word, true, out) s[k] = (n, [], false, out ++ [(n, word)]) := by unfold enS; rw [if_pos e, if_pos rfl]
        rw [hS] at hnx hpre
        dsimp only at hpre hnx
        rw [← hL] at hpre
        have hj : out.length < (enL c).length := by
          have := hpre.length_le
          rw [List.length_append, List.length_singleton] at this
          omega
        have hjv : (enL c)[out.length] = (n, word) := by
          obtain ⟨t, ht⟩ := hpre
          have : (enL c)[out.length]? = some (n, word) := by
            rw [← ht]
            simp
          rw [List.getElem?_eq_getElem hj] at this
          exact Option.some.inj this
        refine JoinW.cut (fun st w' => st = (n, ()) ∧ w.heap.size < w'.heap.size ∧ Inv (out ++ [(n, word)]).length w' ∧ w'.heap[w.heap.size]? = some (.stringIter (bs s) (k + 1))) ?_ ?_
        · refine ifB_bne (fun h => absurd e32 h) (fun _ => ifB_bool (fun h => by cases h) (fun _ => ?_))
          have hr := hround out.length hj w3 hIn3
          rw [hjv] at hr
          refine callV.mono hr fun v w4 hv => ?_
          obtain ⟨hv, hsz, hold⟩ := hv
          rcases hv with ⟨rfl, hv⟩ | ⟨rfl, hv⟩
          · refine ⟨true, rfl, ifB_false rfl ⟨rfl, by omega, ?_, ?_⟩⟩
            · rw [List.length_append]; exact hv
            · rw [hold _ (Nat.le_refl _)]; exact hI3
          · exact ⟨false, rfl, ifB_true rfl hv⟩
        · rintro ⟨m, _⟩ w' ⟨h1, h2, h3, h4⟩
          cases h1
          exact hnx w' h2 h3 h4
    · have hS : enS (n, word, nb, out) s[k] = (n, word ++ [s[k]], nb, out) := by unfold enS; rw [if_neg e]
      rw [hS] at hnx
      refine JoinW.cut (fun _ _ => False) ?_ (fun _ _ h => h.elim)
      refine ifB_bne (fun _ => ?_) (fun h => absurd (UInt8.toNat.inj (b := 32) (by have : ((s[k].toNat : Nat) : Int) = 32 := h; show s[k].toNat = 32; omega)) e)
      rw [encode_ascii hc128, bs_append]
      refine ⟨?_, hnx w3 (by omega) hIn3 hI3⟩
      unfold sumFits
      rw [bs_size, bs_size, List.length_singleton]
      omega
  · rw [bs_size] at hge
    have hk : k = s.length := by omega
    subst hk
    rw [List.take_length, ← hL] at hIn
    exact hend w2 hIn

theorem Enum_spec {c n : Int} {w : World} {R : Value → World → Prop} (hR : ∀ s w', Below w.heap.size w w' → R (.tuple #[.string s, .bool (enumP c n)]) w') : callR Tryz.prog 270 #[.int .u8 c, .int .u32 n] w R := by
  refine callR.of (grammar_Enum_calls c n R w ?_) fun _ _ h => h
  refine lay_of fun w1 hN1 b1 z1 => ?_
  refine lay_of fun w2 hS2 b2 z2 => ?_
  refine lay_of fun w3 hO3 b3 z3 => ?_
  have hN3 := (hN1.below b2).below b3
  have hS3 := hS2.below b3
  have hb3 := (b1.on b2).on b3
  refine callR.of (grammar_Enums_calls c _ w3 ?_) fun _ _ h => h
  refine lay_of fun w4 hC4 b4 z4 => ⟨_, rfl, ?_⟩
  have hN4 : Blk w4 w.heap.size 22 [.int .u32 n] := hN3.below b4
  have hS4 : Blk w4 w1.heap.size 9 [.string (bs [])] := hS3.below b4
  have hO4 : Blk w4 w2.heap.size 4 [.bool false] := hO3.below b4
  have hb4 := hb3.on b4
  intro mk hy
  have hcf : Tryz.fs.contains 279 = true := by kernel_rfl
  unfold callF
  simp only [hcf]
  generalize hw5 : ((w4.alloc (.deferred (some []))).alloc (mk .ready none)) = w5
  have b5 : Below w4.heap.size w4 w5 := by rw [← hw5]; exact laid_below w4 _ _
  have z5 : w5.heap.size = w4.heap.size + 2 := by rw [← hw5]; exact laid_size w4 _ _
  have hd5 : w5.heap[w4.heap.size]? = some (.deferred (some [])) := by rw [← hw5]; exact laid_d w4 _ _
  have hl5 : w5.heap[w4.heap.size + 1]? = some (mk .ready none) := by rw [← hw5]; exact laid_l w4 _ _
  clear hw5
  have fin0 : ∀ (b : Bool) (s : ByteArray) w', Below w.heap.size w w' → Blk w' w1.heap.size 9 [.string s] → Blk w' w2.heap.size 4 [.bool b] → b = enumP c n → w'.heap[w4.heap.size]? = some (.deferred (some [])) →
      closeM [w4.heap.size] w' fun w13 => ldStr w13 (blk w1.heap.size) fun x9 => ldB w13 (blk w2.heap.size) fun x10 => R (.tuple #[(.string x9), (.bool x10)]) w13 := by
    intro b s w' h1 h2 h3 h4 h5
    refine closeM_one h5 ?_
    refine ⟨s, (h2.put (by omega) _).cell0 rfl, b, (h3.put (by omega) _).cell0 rfl, ?_⟩
    rw [h4]
    exact hR s _ (h1.putObj (by have := hb4.size; omega) _)
  refine Enums1_spec (y := .func (.yield (w4.heap.size + 1)) #[] #[]) ((hC4.below b5).cell0 rfl)
    (fun j w' => w'.heap[w4.heap.size + 1]? = some (mk .ready none) ∧ w'.heap[w4.heap.size]? = some (.deferred (some [])) ∧ Blk w' w.heap.size 22 [.int .u32 n] ∧ Blk w' w1.heap.size 9 [.string (bs [])] ∧ Blk w' w2.heap.size 4 [.bool false] ∧
      Below w.heap.size w w' ∧ ∀ i (hi : i < (enL c).length), i < j → (enL c)[i].1 ≠ n) _
    ⟨hl5, hd5, hN4.below b5, hS4.below b5, hO4.below b5, hb4.on b5, fun i hi h => by omega⟩ ?_ ?_ ?_
  · rintro j w' w'' ⟨h1, h2, h3, h4, h5, h6, h7⟩ hsz hbb
    refine ⟨(hbb.block _ (by omega)).trans h1, (hbb.block _ (by omega)).trans h2, h3.of_block (hbb.block _ (by omega)), h4.of_block (hbb.block _ (by omega)), h5.of_block (hbb.block _ (by omega)), h6.trans (hbb.mono (by omega)), h7⟩
  · rintro j hj w' ⟨h1, h2, h3, h4, h5, h6, h7⟩
    refine hy ((enL c)[j].1, bs (enL c)[j].2, ()) w' _ h1 ⟨h1, Nw.gen fun w6 e6 => ?_⟩
    have ho6 : ∀ b, b ≠ w4.heap.size + 1 → w6.heap[b]? = w'.heap[b]? := fun b hb => by rw [e6]; exact World.putObj_heap_other hb
    have z6 : w6.heap.size = w'.heap.size := by rw [e6]; simp
    have hlt' : w4.heap.size + 1 < w'.heap.size := (Array.getElem?_eq_some_iff.1 h1).1
    have hl6 : w6.heap[w4.heap.size + 1]? = some (mk .busy none) := by rw [e6]; simp [World.putObj, hlt']
    have h66 : Below w.heap.size w w6 := by rw [e6]; exact h6.putObj (by have := hb4.size; omega) _
    clear e6
    refine ⟨n, (h3.of_block (ho6 _ (by omega))).cell0 rfl, ?_⟩
    refine ifB_beq (fun e => ?_) (fun e => ?_)
    · have k4 := h4.of_block (ho6 _ (by omega))
      have k5 := h5.of_block (ho6 _ (by omega))
      refine ⟨k4.wr0 (by simp), Nw.gen fun w7 e7 => ?_⟩
      have c7 : Chg w1.heap.size w6 w7 := by rw [e7]; exact Chg.set w1.heap.size 0 w6 _
      have k4' : Blk w7 w1.heap.size 9 [.string (bs (enL c)[j].2)] := by rw [e7]; exact k4.set0 _
      clear e7
      have k5' := c7.blk k5 (by omega)
      refine ⟨k5'.wr0 (by simp), Nw.gen fun w8 e8 => ?_⟩
      have c8 : Chg w2.heap.size w7 w8 := by rw [e8]; exact Chg.set w2.heap.size 0 w7 _
      have k5'' : Blk w8 w2.heap.size 4 [.bool true] := by rw [e8]; exact k5'.set0 _
      clear e8
      have k4'' := c8.blk k4' (by omega)
      have hl8 : w8.heap[w4.heap.size + 1]? = some (mk .busy none) := by rw [c8.block _ (by omega), c7.block _ (by omega)]; exact hl6
      have b8 := c8.below (c7.below h66 (by have := b1.size; omega)) (by have := b1.size; have := b2.size; omega)
      refine ⟨hl8, .inr ⟨rfl, ?_⟩, ?_, ?_⟩
      · refine .inr ⟨?_, ?_⟩
        · exact put_self (by have := c8.size; have := c7.size; omega) _
        · refine fin0 true (bs (enL c)[j].2) _ ?_ ?_ ?_ ?_ ?_
          · exact (b8.putObj (by have := hb4.size; omega) _).putObj (by have := hb4.size; omega) _
          · exact (k4''.put (by omega) _).put (by omega) _
          · exact (k5''.put (by omega) _).put (by omega) _
          · exact ((enum_iff c n).2 ⟨_, List.getElem_mem hj, e⟩).symm
          · rw [World.putObj_heap_other (by omega), World.putObj_heap_other (by omega), c8.block _ (by omega), c7.block _ (by omega), ho6 _ (by omega)]
            exact h2
      · have := c8.size; have := c7.size
        simp [World.putObj]
        omega
      · intro b hb
        rw [World.putObj_heap_other (by omega), c8.block _ (by omega), c7.block _ (by omega), ho6 _ (by omega)]
    · refine ⟨hl6, .inl ⟨rfl, ?_, ?_, ?_, ?_, ?_, ?_, ?_⟩, ?_, ?_⟩
      · exact put_self (by omega) _
      · rw [World.putObj_heap_other (by omega), ho6 _ (by omega)]; exact h2
      · exact (h3.of_block (ho6 _ (by omega))).put (by omega) _
      · exact (h4.of_block (ho6 _ (by omega))).put (by omega) _
      · exact (h5.of_block (ho6 _ (by omega))).put (by omega) _
      · exact h66.putObj (by have := hb4.size; omega) _
      · intro i hi hij
        by_cases e' : i = j
        · subst e'; exact e
        · exact h7 i hi (by omega)
      · simp [World.putObj]; omega
      · intro b hb
        rw [World.putObj_heap_other (by omega), ho6 _ (by omega)]
  · rintro w' ⟨h1, h2, h3, h4, h5, h6, h7⟩
    have hlt' : w4.heap.size + 1 < w'.heap.size := (Array.getElem?_eq_some_iff.1 h1).1
    refine .inl ⟨h1, ?_⟩
    have k4 := h4.put (l := w4.heap.size + 1) (by omega) (mk .exhausted none)
    have k5 := h5.put (l := w4.heap.size + 1) (by omega) (mk .exhausted none)
    refine ⟨k4.wr0 (by simp), Nw.gen fun w7 e7 => ?_⟩
    have c7 : Chg w1.heap.size (w'.putObj (w4.heap.size + 1) (mk .exhausted none)) w7 := by rw [e7]; exact Chg.set w1.heap.size 0 _ _
    have k4' : Blk w7 w1.heap.size 9 [.string (bs [])] := by rw [e7]; exact k4.set0 _
    clear e7
    have k5' := c7.blk k5 (by omega)
    refine ⟨k5'.wr0 (by simp), Nw.gen fun w8 e8 => ?_⟩
    have c8 : Chg w2.heap.size w7 w8 := by rw [e8]; exact Chg.set w2.heap.size 0 w7 _
    have k5'' : Blk w8 w2.heap.size 4 [.bool false] := by rw [e8]; exact k5'.set0 _
    clear e8
    refine fin0 false (bs []) w8 ?_ (c8.blk k4' (by omega)) k5'' ?_ ?_
    · exact c8.below (c7.below (h6.putObj (by have := hb4.size; omega) _) (by have := b1.size; omega)) (by have := b1.size; have := b2.size; omega)
    · symm
      rw [Bool.eq_false_iff]
      intro h
      obtain ⟨x, hx, e⟩ := (enum_iff c n).1 h
      obtain ⟨i, hi, rfl⟩ := List.mem_iff_getElem.1 hx
      exact h7 i hi hi e
    · rw [c8.block _ (by omega), c7.block _ (by omega), World.putObj_heap_other (by omega)]
      exact h2

end Go.Proofs
namespace Go.Gm
open Go.Gk Go.Proofs

abbrev Fl.ty (f : Fl) : Bool := f.2.1
abbrev Fl.re (f : Fl) : Bool := f.2.2.1
def idP (must : Bool) (n bound e : Int) : Int := if must = (n != 0) then (if must = true ∧ bound ≤ n then 43 else 0) else e
def nul (s : ByteArray) : Bool := s.data.toList.contains 0
/-- What is wrong with an argument where the letter c is. -/
def wrongP (c : Int) (a : Ag) (bound : Int) : Int :=
  if c = 0 ∨ a.1 ≠ kindP c then 42
  else if (a.1 = 3 ∧ a.2.1 ≠ 0) ∨ (a.1 ≠ 3 ∧ a.2.2.size ≠ 0) then 42
  else if a.1 = 1 ∧ (a.2.1 = 0 ∨ bound ≤ a.2.1) then 43
  else if a.1 = 4 ∧ enumP c a.2.1 = false then 31
  else if nul a.2.2 = true then 13 else 0
abbrev ag0 : Ag := (0, 0, bs [])
def werr (g : Fl) (al : List Ag) (bound : Int) (j : Nat) : Int := wrongP (letP g j : Int) (al.getD j ag0) bound
def argK (g : Fl) (al : List Ag) (bound : Int) (k : Nat) : Int := match (List.range k).find? fun j => werr g al bound j != 0 with
  | some j => werr g al bound j
  | none => 0
/-- The first fault of the ids ahead and of the first k arguments. -/
def errK (g : Fl) (ty re : Int) (al : List Ag) (bound : Int) (k : Nat) : Int :=
  if idP g.ty ty bound 40 ≠ 0 then idP g.ty ty bound 40 else if idP g.re re bound 41 ≠ 0 then idP g.re re bound 41 else argK g al bound k
theorem argK_zero (g : Fl) (al : List Ag) (bound : Int) : argK g al bound 0 = 0 := rfl
theorem argK_succ (g : Fl) (al : List Ag) (bound : Int) (k : Nat) : argK g al bound (k + 1) = if argK g al bound k = 0 then werr g al bound k else argK g al bound k := by
  unfold argK
  rw [List.range_succ, List.find?_append]
  cases h : (List.range k).find? fun j => werr g al bound j != 0 with
  | some j =>
    have := List.find?_some h
    simp only [Option.some_or]
    rw [if_neg (by simpa using this)]
  | none =>
    simp only [Option.none_or, if_true]
    by_cases e : werr g al bound k = 0
    · simp [e]
    · simp [e]
theorem errK_succ (g : Fl) (ty re : Int) (al : List Ag) (bound : Int) (k : Nat) : errK g ty re al bound (k + 1) = if errK g ty re al bound k = 0 then werr g al bound k else errK g ty re al bound k := by
  unfold errK
  by_cases h1 : idP g.ty ty bound 40 = 0
  · by_cases h2 : idP g.re re bound 41 = 0
    · simp only [h1, h2, ne_eq, not_true_eq_false, if_false]
      exact argK_succ g al bound k
    · simp [h1, h2]
  · simp [h1]
theorem argK_all {g : Fl} {al : List Ag} {bound : Int} {k : Nat} (h : argK g al bound k = 0) : ∀ j, j < k → werr g al bound j = 0 := by
  intro j hj
  unfold argK at h
  split at h
  · rename_i i hi
    have := List.find?_some hi
    rw [h] at this
    simp at this
  · rename_i hn
    have := List.find?_eq_none.1 hn j (List.mem_range.2 hj)
    simpa using this
theorem errK_all {g : Fl} {ty re : Int} {al : List Ag} {bound : Int} {k : Nat} (h : errK g ty re al bound k = 0) : idP g.ty ty bound 40 = 0 ∧ idP g.re re bound 41 = 0 ∧ argK g al bound k = 0 := by
  unfold errK at h
  split at h
  · rename_i h1; exact absurd h h1
  · rename_i h1
    split at h
    · rename_i h2; exact absurd h h2
    · rename_i h2
      exact ⟨Decidable.not_not.1 h1, Decidable.not_not.1 h2, h⟩
def wholeP (g : Fl) (n : Nat) : Bool := if n < g.fixed.length then false else if g.rest.length = 0 then n == g.fixed.length else (n - g.fixed.length) % g.rest.length == 0
def cost (a : Ag) : Nat := if a.1 = 3 then a.2.2.size / 4 + 1 else 1
def costN (al : List Ag) (k : Nat) : Nat := ((al.take k).map cost).sum
/-- How many words an instruction takes. -/
def roomP (g : Fl) (al : List Ag) : Nat := 1 + (g.ty.toNat + g.re.toNat + costN al al.length)
def faultF (g : Fl) (ty re : Int) (al : List Ag) (bound : Int) : Int :=
  if errK g ty re al bound al.length ≠ 0 then errK g ty re al bound al.length else if wholeP g al.length = false then 42 else if 65535 < roomP g al then 25 else 0
def faultP (op ty re : Int) (al : List Ag) (bound : Int) : Int := match frm op with
  | none => 30
  | some g => faultF g ty re al bound
theorem faultP_none {op ty re : Int} {al : List Ag} {bound : Int} (h : frm op = none) : faultP op ty re al bound = 30 := by unfold faultP; rw [h]
theorem faultP_some {op ty re : Int} {al : List Ag} {bound : Int} {g : Fl} (h : frm op = some g) : faultP op ty re al bound = faultF g ty re al bound := by unfold faultP; rw [h]
theorem costN_succ {al : List Ag} {k : Nat} (hk : k < al.length) : costN al (k + 1) = costN al k + cost al[k] := by
  unfold costN
  rw [List.take_succ_eq_append_getElem hk, List.map_append, List.sum_append]
  simp

def textOk (g : Fl) : Bool := !(g.rest.contains 115) && (List.range g.fixed.length).all fun i => (List.range g.fixed.length).all fun j => !(g.fixed.getD i 0 == 115 && g.fixed.getD j 0 == 115) || i == j
theorem texts_ok : tabR.all (fun p => textOk p.2) = true := by decide +kernel
theorem kindP_three {c : Int} (h : kindP c = 3) : c = 115 := by
  unfold kindP at h
  split at h
  · cases h
  · split at h
    · cases h
    · split at h
      · assumption
      · split at h <;> cases h
theorem letP_text {op : Int} {g : Fl} (hg : frm op = some g) {k : Nat} (h : kindP (letP g k : Int) = 3) : k < g.fixed.length ∧ g.fixed.getD k 0 = 115 := by
  have hc := kindP_three h
  have ht := List.all_eq_true.1 texts_ok _ (look_mem (show Gm.look tabR op = some g from hg))
  simp only [textOk, Bool.and_eq_true, Bool.not_eq_true'] at ht
  unfold letP at hc
  split at hc
  · rename_i hlt
    exact ⟨hlt, UInt8.toNat.inj (show (g.fixed.getD k 0).toNat = 115 by omega)⟩
  · split at hc
    · cases hc
    · split at hc
      · cases hc
      · rename_i h1 h2 h3
        have hlt : (k - g.fixed.length) % g.rest.length < g.rest.length := Nat.mod_lt _ (by omega)
        rw [getD_lt hlt] at hc
        have : g.rest[(k - g.fixed.length) % g.rest.length] = 115 := UInt8.toNat.inj (show _ = 115 by omega)
        have hm := List.getElem_mem hlt
        rw [this] at hm
        have := List.contains_iff_mem.2 hm
        rw [ht.1] at this
        cases this
theorem text_once {op : Int} {g : Fl} (hg : frm op = some g) {i j : Nat} (hi : kindP (letP g i : Int) = 3) (hj : kindP (letP g j : Int) = 3) : i = j := by
  obtain ⟨h1, h2⟩ := letP_text hg hi
  obtain ⟨h3, h4⟩ := letP_text hg hj
  have ht := List.all_eq_true.1 texts_ok _ (look_mem (show Gm.look tabR op = some g from hg))
  simp only [textOk, Bool.and_eq_true] at ht
  have := List.all_eq_true.1 (List.all_eq_true.1 ht.2 i (List.mem_range.2 h1)) j (List.mem_range.2 h3)
  rw [h2, h4] at this
  simpa using this
def tx (al : List Ag) (k : Nat) : Nat := ((al.take k).map fun a => if a.1 = 3 then 1 else 0).sum
theorem tx_succ {al : List Ag} {k : Nat} (hk : k < al.length) : tx al (k + 1) = tx al k + (if al[k].1 = 3 then 1 else 0) := by
  unfold tx
  rw [List.take_succ_eq_append_getElem hk, List.map_append, List.sum_append]
  simp
theorem tx_zero {al : List Ag} : ∀ {k : Nat}, k ≤ al.length → (∀ j (hj : j < al.length), j < k → al[j].1 ≠ 3) → tx al k = 0
  | 0, _, _ => by simp [tx]
  | k + 1, hk, h => by
    rw [tx_succ (by omega), tx_zero (k := k) (by omega) (fun j hj hjk => h j hj (by omega)), if_neg (h k (by omega) (by omega))]
theorem wrong_kind {c : Int} {a : Ag} {bound : Int} (h : wrongP c a bound = 0) : c ≠ 0 ∧ a.1 = kindP c := by
  unfold wrongP at h
  split at h
  · cases h
  · rename_i h1
    constructor
    · intro e; exact h1 (.inl e)
    · exact Classical.byContradiction fun e => h1 (.inr e)
theorem tx_one {op : Int} {g : Fl} (hg : frm op = some g) {al : List Ag} {bound : Int} : ∀ {k : Nat}, k ≤ al.length → (∀ j, j < k → werr g al bound j = 0) → tx al k ≤ 1
  | 0, _, _ => by simp [tx]
  | k + 1, hk, h => by
    rw [tx_succ (by omega)]
    split
    · rename_i h3
      have hz : tx al k = 0 := by
        refine tx_zero (by omega) fun j hj hjk e => ?_
        have a1 := (wrong_kind (h j (by omega))).2
        have a2 := (wrong_kind (h k (by omega))).2
        rw [getD_lt hj] at a1
        rw [getD_lt (by omega)] at a2
        have := text_once hg (a1.symm.trans e) (a2.symm.trans h3)
        omega
      omega
    · have := tx_one hg (k := k) (by omega) fun j hj => h j (by omega)
      omega
theorem costN_le {al : List Ag} (hs : ∀ x ∈ al, x.2.2.size ≤ 9223372036854775807) : ∀ {k : Nat}, k ≤ al.length → costN al k ≤ k + 2305843009213693952 * tx al k
  | 0, _ => by simp [costN]
  | k + 1, hk => by
    have := costN_le hs (k := k) (by omega)
    rw [costN_succ (by omega), tx_succ (by omega)]
    have h1 := hs _ (List.getElem_mem (show k < al.length by omega))
    unfold cost
    split <;> omega
/-- What fits, where no argument is wrong. -/
theorem fit_whole {op : Int} {g : Fl} (hg : frm op = some g) {al : List Ag} {bound : Int} (h : ∀ j, j < al.length → werr g al bound j = 0) : (fitP op (al.map (·.1))).2 = wholeP g al.length := by
  have hb : ∀ j, j < (al.map (·.1)).length → bad g (al.map (·.1)) j = false := by
    intro j hj
    have hj' : j < al.length := by simpa using hj
    obtain ⟨h1, h2⟩ := wrong_kind (h j hj')
    rw [getD_lt hj'] at h2
    unfold bad
    rw [getD_lt hj, List.getElem_map, h2]
    have := letP_kind hg (k := j) (by omega)
    simp [this]
  rw [fitP_some hg, fit_good hb, List.length_map]
  have hz : g.rest.length = 0 → al.length ≤ g.fixed.length := by
    intro h0
    refine Classical.byContradiction fun hgt => ?_
    have := (wrong_kind (h g.fixed.length (by omega))).1
    apply this
    unfold letP
    rw [if_neg (by omega), if_pos h0]
    rfl
  unfold wholeP wrongLen
  by_cases h1 : al.length < g.fixed.length
  · rw [if_pos h1, decide_eq_true h1, Bool.true_or, if_pos rfl]
  · rw [if_neg h1, decide_eq_false h1, Bool.false_or]
    by_cases h2 : g.rest.length = 0
    · have h3 : al.length = g.fixed.length := by have := hz h2; omega
      rw [if_pos h2, decide_eq_false (by omega), Bool.false_and, h3]
      simp
    · rw [if_neg h2, decide_eq_true h2, Bool.true_and]
      by_cases h3 : (al.length - g.fixed.length) % g.rest.length = 0
      · rw [h3]; rfl
      · rw [decide_eq_true h3, if_pos rfl]
        exact (beq_eq_false_iff_ne.2 h3).symm

def faultI (p : PI) (bound : Int) : Int := faultP p.1 p.2.1 p.2.2.1 p.2.2.2 bound
def roomI (p : PI) : Nat := match frm p.1 with
  | none => 0
  | some g => roomP g p.2.2.2
def totP (pl : List PI) (k : Nat) : Nat := 5 + ((pl.take k).map roomI).sum
theorem totP_succ {pl : List PI} {k : Nat} (hk : k < pl.length) : totP pl (k + 1) = totP pl k + roomI pl[k] := by
  unfold totP
  rw [List.take_succ_eq_append_getElem hk, List.map_append, List.sum_append]
  simp
  omega
abbrev pi0 : PI := (0, 0, 0, [])
def badI (pl : List PI) (bound : Int) (k : Nat) : Bool := faultI (pl.getD k pi0) bound != 0 || decide (1048576 < totP pl (k + 1))
def shapeP (bound : Int) (pl : List PI) : Int × Nat :=
  if bound = 0 ∨ 65536 < bound then (24, 0) else match (List.range pl.length).find? (badI pl bound) with
    | some k => (if faultI (pl.getD k pi0) bound ≠ 0 then faultI (pl.getD k pi0) bound else 4, k)
    | none => (0, 0)
theorem shape_bound {bound : Int} {pl : List PI} (h : bound = 0 ∨ 65536 < bound) : shapeP bound pl = (24, 0) := by unfold shapeP; rw [if_pos h]
theorem shape_fault {bound : Int} {pl : List PI} (h : ¬ (bound = 0 ∨ 65536 < bound)) {k : Nat} (hk : k < pl.length) (hj : ∀ j, j < k → badI pl bound j = false) (hf : faultI pl[k] bound ≠ 0) : shapeP bound pl = (faultI pl[k] bound, k) := by
  unfold shapeP
  rw [if_neg h, find_first hk (by unfold badI; rw [getD_lt hk, bne_iff_ne.2 hf]; rfl) hj]
  simp only [getD_lt hk]
  rw [if_pos hf]
theorem shape_large {bound : Int} {pl : List PI} (h : ¬ (bound = 0 ∨ 65536 < bound)) {k : Nat} (hk : k < pl.length) (hj : ∀ j, j < k → badI pl bound j = false) (hf : faultI pl[k] bound = 0) (ht : 1048576 < totP pl (k + 1)) : shapeP bound pl = (4, k) := by
  unfold shapeP
  rw [if_neg h, find_first hk (by unfold badI; rw [decide_eq_true ht, Bool.or_true]) hj]
  simp only [getD_lt hk]
  rw [if_neg (by rw [hf]; simp)]
theorem shape_good {bound : Int} {pl : List PI} (h : ¬ (bound = 0 ∨ 65536 < bound)) (hj : ∀ j, j < pl.length → badI pl bound j = false) : shapeP bound pl = (0, 0) := by
  unfold shapeP
  rw [if_neg h]
  have : (List.range pl.length).find? (badI pl bound) = none := by
    rw [List.find?_eq_none]
    intro j hj'
    rw [hj j (List.mem_range.1 hj')]
    simp
  rw [this]
theorem badI_false {pl : List PI} {bound : Int} {k : Nat} (hk : k < pl.length) (hf : faultI pl[k] bound = 0) (ht : ¬ 1048576 < totP pl (k + 1)) : badI pl bound k = false := by
  unfold badI
  rw [getD_lt hk, hf, decide_eq_false ht]
  rfl
/-- Of a module of good shape. -/
theorem shape_ok {bound : Int} {pl : List PI} (h : (shapeP bound pl).1 = 0) : ¬ (bound = 0 ∨ 65536 < bound) ∧ ∀ k (hk : k < pl.length), faultI pl[k] bound = 0 := by
  unfold shapeP at h
  split at h
  · cases h
  · rename_i hb
    refine ⟨hb, fun k hk => ?_⟩
    split at h
    · rename_i j hj
      dsimp only at h
      split at h
      · rename_i hf; exact absurd h hf
      · cases h
    · rename_i hn
      have := List.find?_eq_none.1 hn k (List.mem_range.2 hk)
      unfold badI at this
      rw [getD_lt hk] at this
      simp only [Bool.or_eq_true, not_or, bne_iff_ne, ne_eq, Decidable.not_not] at this
      exact this.1
theorem bytes_empty (x : ByteArray) : (x.toList == (ByteArray.mk #[]).toList) = decide (x.size = 0) := by
  obtain ⟨a⟩ := x
  have := toList_nil (a := a.toList)
  unfold bs at this
  rw [Array.toArray_toList] at this
  rw [this]
  simp only [ByteArray.size]
  rw [Bool.eq_iff_iff, List.isEmpty_iff, decide_eq_true_iff]
  constructor
  · intro h; rw [← Array.length_toList, h]; rfl
  · intro h; exact List.eq_nil_of_length_eq_zero (by rw [Array.length_toList]; exact h)
end Go.Gm
namespace Go.Proofs
open Go.Gk Go.RowKit Go.Gm

def isVar (p : PI) : Bool := p.1 == 59 && (match p.2.2.2 with | [] => false | a :: _ => a.2.1 == 7)
def partO (op : Int) : Nat := match frm op with
  | some g => g.2.2.2.2.2.2
  | none => 0
def partP (p : PI) : Nat := if isVar p then 8 else partO p.1
theorem parts_ok : tabR.all (fun p => decide (p.2.2.2.2.2.2.2 ≤ 8)) = true := by decide +kernel
theorem partO_le (op : Int) : partO op ≤ 8 := by
  unfold partO
  cases h : frm op with
  | none => exact Nat.zero_le _
  | some g => exact of_decide_eq_true (List.all_eq_true.1 parts_ok _ (look_mem h))
theorem partP_le (p : PI) : partP p ≤ 8 := by
  unfold partP
  split
  · exact Nat.le_refl _
  · exact partO_le _
def endsP (op : Int) : Bool := decide (249 ≤ op ∧ op ≤ 255)
def kdP (p : PI) : Int :=
  if partP p ≠ 8 then 9 else if p.1 = 54 then 1 else if p.1 = 55 then 2 else if p.1 = 56 then 8 else if p.1 = 248 then 3 else if p.1 = 245 then 4
  else if p.1 = 59 then 5 else if p.1 = 246 then 6 else if p.1 = 247 then 6 else if endsP p.1 = true then 7 else 0
def opMay (op ah : Int) (fi : Bool) : Bool :=
  if op = 54 then ah == 0 || ah == 56
  else if op = 55 then ah == 54 || ah == 55
  else if op = 248 then ah == 54 || ah == 55 || endsP ah
  else if op = 56 then endsP ah
  else if ah = 0 ∨ ah = 54 ∨ ah = 55 ∨ ah = 56 ∨ endsP ah = true then false
  else if op = 245 then (ah == 248 || ah == 245) && !fi
  else if op = 59 then (ah == 248 || ah == 59) && fi
  else if ah = 246 then op == 249 || op == 250
  else if ah = 247 then op == 250 || op == 251
  else true
abbrev ix (pl : List PI) (k : Nat) : PI := pl.getD k pi0
def aheadP (pl : List PI) : Nat → Int
  | 0 => 0
  | n + 1 => if partP (ix pl n) = 8 then (ix pl n).1 else 0
def firstP (pl : List PI) : Nat → Bool
  | 0 => false
  | n + 1 => if (ix pl (n + 1)).1 = 248 then (ix pl n).1 == 54 || (ix pl n).1 == 55 else firstP pl n
def mdlP (pl : List PI) (n : Nat) : Bool := (List.range n).any fun k => partP (ix pl k) == 1
def overP (pl : List PI) (n : Nat) : Bool := (List.range n).any fun k => decide (partP (ix pl n) < partP (ix pl k))
def mayP (pl : List PI) (n : Nat) : Bool :=
  if overP pl n = true then false
  else if partP (ix pl n) = 1 then !mdlP pl n
  else if 1 < partP (ix pl n) ∧ mdlP pl n = false then false
  else if partP (ix pl n) < 8 then true
  else opMay (ix pl n).1 (aheadP pl n) (firstP pl (n - 1))
def openP (pl : List PI) : Bool := !mdlP pl pl.length || (decide (0 < pl.length) && partP (ix pl (pl.length - 1)) == 8 && (ix pl (pl.length - 1)).1 != 56)
def chkP (pl : List PI) : Int × Nat := match (List.range pl.length).find? (fun k => !mayP pl k) with
  | some k => (50, k)
  | none => if openP pl = true then (51, pl.length) else (0, 0)
def layP (bound : Int) (pl : List PI) : Int × Nat := if (shapeP bound pl).1 ≠ 0 then shapeP bound pl else chkP pl
def GoodL (pl : List PI) (n : Nat) : Prop := ∀ k, k < n → mayP pl k = true

theorem mdlP_iff {pl : List PI} {n : Nat} : mdlP pl n = true ↔ ∃ k, k < n ∧ partP (ix pl k) = 1 := by
  unfold mdlP
  simp [List.any_eq_true]
theorem mdlP_mono {pl : List PI} {n m : Nat} (h : mdlP pl n = true) (hnm : n ≤ m) : mdlP pl m = true := by
  obtain ⟨k, h1, h2⟩ := mdlP_iff.1 h
  exact mdlP_iff.2 ⟨k, by omega, h2⟩
theorem mdlP_none {pl : List PI} {n : Nat} (h : ∀ k, k < n → partP (ix pl k) ≠ 1) : mdlP pl n = false := by
  cases e : mdlP pl n
  · rfl
  · obtain ⟨k, h1, h2⟩ := mdlP_iff.1 e
    exact absurd h2 (h k h1)
theorem overP_iff {pl : List PI} {n : Nat} : overP pl n = true ↔ ∃ k, k < n ∧ partP (ix pl n) < partP (ix pl k) := by
  unfold overP
  simp [List.any_eq_true]
theorem may_over {pl : List PI} {n k : Nat} (hk : k < n) (h : partP (ix pl n) < partP (ix pl k)) : mayP pl n = false := by
  unfold mayP
  rw [if_pos (overP_iff.2 ⟨k, hk, h⟩)]
theorem not_over {pl : List PI} {n : Nat} (h : ∀ k, k < n → partP (ix pl k) ≤ partP (ix pl n)) : ¬ overP pl n = true := fun e => by
  obtain ⟨k, h1, h2⟩ := overP_iff.1 e
  have := h k h1
  omega
theorem may_low {pl : List PI} {n : Nat} (h : ∀ k, k < n → partP (ix pl k) ≤ partP (ix pl n)) (h1 : partP (ix pl n) = 1 → mdlP pl n = false) (h2 : 1 < partP (ix pl n) → mdlP pl n = true) (h8 : partP (ix pl n) < 8) :
    mayP pl n = true := by
  unfold mayP
  rw [if_neg (not_over h)]
  by_cases e : partP (ix pl n) = 1
  · rw [if_pos e, h1 e]
    rfl
  · rw [if_neg e, if_neg (fun ⟨g1, g2⟩ => by rw [h2 g1] at g2; cases g2), if_pos h8]
theorem may_nomodel {pl : List PI} {n : Nat} (h : mdlP pl n = false) (h1 : 1 < partP (ix pl n)) : mayP pl n = false := by
  unfold mayP
  by_cases e : overP pl n = true
  · rw [if_pos e]
  · rw [if_neg e, if_neg (by omega), if_pos ⟨h1, h⟩]
theorem may_again {pl : List PI} {n : Nat} (h : mdlP pl n = true) (h1 : partP (ix pl n) = 1) : mayP pl n = false := by
  unfold mayP
  by_cases e : overP pl n = true
  · rw [if_pos e]
  · rw [if_neg e, if_pos h1, h]
    rfl
theorem may_eight {pl : List PI} {n : Nat} (h : mdlP pl n = true) (h8 : partP (ix pl n) = 8) : mayP pl n = opMay (ix pl n).1 (aheadP pl n) (firstP pl (n - 1)) := by
  unfold mayP
  rw [if_neg (not_over fun k hk => by rw [h8]; exact partP_le _), if_neg (by omega), if_neg (fun ⟨_, g⟩ => by rw [h] at g; cases g), if_neg (by omega)]
theorem GoodL.step {pl : List PI} {n : Nat} (h : GoodL pl n) (hn : mayP pl n = true) : GoodL pl (n + 1) := fun k hk => by
  by_cases e : k = n
  · subst e; exact hn
  · exact h k (by omega)
theorem chk_bad {pl : List PI} {n : Nat} (hg : GoodL pl n) (hn : n < pl.length) (hm : mayP pl n = false) : chkP pl = (50, n) := by
  unfold chkP
  rw [find_first hn (by rw [hm]; rfl) fun j hj => by rw [hg j hj]; rfl]
theorem chk_end {pl : List PI} (hg : GoodL pl pl.length) : chkP pl = if openP pl = true then (51, pl.length) else (0, 0) := by
  unfold chkP
  have : (List.range pl.length).find? (fun k => !mayP pl k) = none := by
    rw [List.find?_eq_none]
    intro j hj
    rw [hg j (List.mem_range.1 hj)]
    simp
  rw [this]
/-- A place that is known to be the first at which a module stops standing in order. -/
def StopL (pl : List PI) (n : Nat) : Prop := n ≤ pl.length ∧ GoodL pl n ∧ (n < pl.length → mayP pl n = false) ∧ (n = pl.length → openP pl = true)
theorem StopL.chk {pl : List PI} {n : Nat} (h : StopL pl n) : chkP pl = (if n < pl.length then 50 else 51, n) := by
  obtain ⟨h1, h2, h3, h4⟩ := h
  by_cases e : n < pl.length
  · rw [if_pos e]
    exact chk_bad h2 e (h3 e)
  · have : n = pl.length := by omega
    subst this
    rw [if_neg e, chk_end h2, if_pos (h4 rfl)]
theorem open_nomodel {pl : List PI} (h : mdlP pl pl.length = false) : openP pl = true := by
  unfold openP
  rw [h]
  rfl

structure InvT (pl : List PI) (p n : Nat) : Prop where
  le : n ≤ pl.length
  good : GoodL pl n
  low : ∀ k, k < n → partP (ix pl k) < p
  mdl : 2 ≤ p → mdlP pl n = true
  stuck : n < pl.length → partP (ix pl n) < p → mayP pl n = false
theorem InvT.zero (pl : List PI) : InvT pl 0 0 := ⟨Nat.zero_le _, fun k hk => by omega, fun k hk => by omega, fun h => by omega, fun _ h => by omega⟩
/-- Within a part, from behind its beginning on. -/
structure InvP (pl : List PI) (p from' n : Nat) : Prop where
  le : n ≤ pl.length
  lo : from' ≤ n
  good : GoodL pl n
  own : ∀ k, from' ≤ k → k < n → partP (ix pl k) = p
  one : p = 1 → n = from'
theorem InvT.into {pl : List PI} {p n : Nat} (h : InvT pl p n) : InvP pl p n n := ⟨h.le, Nat.le_refl _, h.good, fun k h1 h2 => by omega, fun _ => rfl⟩
theorem InvP.may {pl : List PI} {p f n : Nat} (h : InvP pl p f n) (hT : InvT pl p f) (hp8 : p < 8) (hpart : partP (ix pl n) = p) : mayP pl n = true := by
  refine may_low (fun k hk => ?_) (fun e => ?_) (fun e => ?_) (by omega)
  · rw [hpart]
    by_cases hkf : k < f
    · exact Nat.le_of_lt (hT.low k hkf)
    · exact Nat.le_of_eq (h.own k (by omega) hk)
  · have hp1 : p = 1 := by omega
    have hnf := h.one hp1
    refine mdlP_none fun k hk => ?_
    have := hT.low k (by omega)
    omega
  · exact mdlP_mono (hT.mdl (by omega)) h.lo
theorem InvP.step {pl : List PI} {p f n : Nat} (h : InvP pl p f n) (hT : InvT pl p f) (hp8 : p < 8) (hn : n < pl.length) (hpart : partP (ix pl n) = p) (h1 : p ≠ 1) : InvP pl p f (n + 1) :=
  ⟨by omega, by have := h.lo; omega, h.good.step (h.may hT hp8 hpart), fun k k1 k2 => by
    by_cases e : k = n
    · subst e; exact hpart
    · exact h.own k k1 (by omega), fun e => absurd e h1⟩
/-- The part ends at n: nothing more of it, or its only one has been taken. -/
theorem InvP.out {pl : List PI} {p f n : Nat} (h : InvP pl p f n) (hT : InvT pl p f) (h1 : p ≠ 1) (hne : n < pl.length → partP (ix pl n) ≠ p) : InvT pl (p + 1) n :=
  ⟨h.le, h.good, fun k hk => by
    by_cases hkf : k < f
    · have := hT.low k hkf; omega
    · have := h.own k (by omega) hk; omega, fun h2 => mdlP_mono (hT.mdl (by omega)) h.lo, fun hn hlt => by
    by_cases e : n = f
    · subst e
      exact hT.stuck hn (by have := hne hn; omega)
    · refine may_over (k := n - 1) (by have := h.lo; omega) ?_
      rw [h.own (n - 1) (by have := h.lo; omega) (by have := h.lo; omega)]
      have := hne hn
      omega⟩
theorem InvT.model {pl : List PI} {n : Nat} (hT : InvT pl 1 n) (hn : n < pl.length) (hpart : partP (ix pl n) = 1) : InvT pl 2 (n + 1) := by
  have hm : mdlP pl (n + 1) = true := mdlP_iff.2 ⟨n, by omega, hpart⟩
  refine ⟨by omega, hT.good.step (hT.into.may hT (by omega) hpart), fun k hk => ?_, fun _ => hm, fun h1 h2 => ?_⟩
  · by_cases e : k = n
    · subst e; omega
    · have := hT.low k (by omega); omega
  · rcases Nat.lt_or_ge (partP (ix pl (n + 1))) 1 with h | h
    · exact may_over (k := n) (by omega) (by omega)
    · exact may_again hm (by omega)
theorem InvT.nomodel {pl : List PI} {n : Nat} (hT : InvT pl 1 n) (hne : n < pl.length → partP (ix pl n) ≠ 1) : StopL pl n := by
  have hm : mdlP pl n = false := mdlP_none fun k hk => by have := hT.low k hk; omega
  refine ⟨hT.le, hT.good, fun hn => ?_, fun e => ?_⟩
  · rcases Nat.lt_or_ge (partP (ix pl n)) 1 with h | h
    · exact hT.stuck hn h
    · exact may_nomodel hm (by have := hne hn; omega)
  · subst e
    exact open_nomodel hm

/-- Between functions. -/
structure InvO (pl : List PI) (n : Nat) : Prop where
  le : n ≤ pl.length
  good : GoodL pl n
  mdl : mdlP pl n = true
  ah : aheadP pl n = 0 ∨ aheadP pl n = 56
  stuck : n < pl.length → partP (ix pl n) ≠ 8 → mayP pl n = false
  shut : n = pl.length → openP pl = false
theorem ahead_succ {pl : List PI} {n : Nat} (h : partP (ix pl n) = 8) : aheadP pl (n + 1) = (ix pl n).1 := if_pos h
theorem InvT.fun {pl : List PI} {n : Nat} (h : InvT pl 8 n) : InvO pl n := by
  have h0 : aheadP pl n = 0 := by
    cases n with
    | zero => rfl
    | succ m => exact if_neg (by have := h.low m (by omega); omega)
  refine ⟨h.le, h.good, h.mdl (by omega), .inl h0, fun hn h8 => h.stuck hn (by have := partP_le (ix pl n); omega), fun e => ?_⟩
  subst e
  unfold openP
  rw [h.mdl (by omega)]
  cases hl : pl.length with
  | zero => rfl
  | succ m =>
    have := h.low m (by omega)
    rw [Nat.add_sub_cancel, beq_eq_false_iff_ne.2 (show partP (ix pl m) ≠ 8 by omega)]
    simp
/-- Within functions: the last one's operation is ah. -/
structure InvF (pl : List PI) (n : Nat) (ah : Int) : Prop where
  le : n ≤ pl.length
  good : GoodL pl n
  mdl : mdlP pl n = true
  pos : 0 < n
  part : partP (ix pl (n - 1)) = 8
  op : (ix pl (n - 1)).1 = ah
theorem InvF.ah {pl : List PI} {n : Nat} {ah : Int} (h : InvF pl n ah) : aheadP pl n = ah := by
  obtain ⟨m, rfl⟩ : ∃ m, n = m + 1 := ⟨n - 1, by have := h.pos; omega⟩
  have := ahead_succ (n := m) h.part
  rw [this]
  exact h.op
theorem InvF.step {pl : List PI} {n : Nat} {ah : Int} (h : InvF pl n ah) (hn : n < pl.length) (h8 : partP (ix pl n) = 8) (hm : opMay (ix pl n).1 ah (firstP pl (n - 1)) = true) : InvF pl (n + 1) (ix pl n).1 :=
  ⟨by omega, h.good.step (by rw [may_eight h.mdl h8, h.ah]; exact hm), mdlP_mono h.mdl (by omega), by omega, h8, rfl⟩
theorem InvF.bad {pl : List PI} {n : Nat} {ah : Int} (h : InvF pl n ah) (h56 : ah ≠ 56) (hb : n < pl.length → partP (ix pl n) = 8 → opMay (ix pl n).1 ah (firstP pl (n - 1)) = false) : StopL pl n := by
  refine ⟨h.le, h.good, fun hn => ?_, fun e => ?_⟩
  · by_cases h8 : partP (ix pl n) = 8
    · rw [may_eight h.mdl h8, h.ah]
      exact hb hn h8
    · refine may_over (k := n - 1) (by have := h.pos; omega) ?_
      rw [h.part]
      have := partP_le (ix pl n)
      omega
  · subst e
    unfold openP
    rw [h.part, h.op, h.mdl]
    have := h.pos
    simp [this, h56]
theorem InvF.end {pl : List PI} {n : Nat} (h : InvF pl n 56) : InvO pl n := by
  refine ⟨h.le, h.good, h.mdl, .inr h.ah, fun hn h8 => ?_, fun e => ?_⟩
  · refine may_over (k := n - 1) (by have := h.pos; omega) ?_
    rw [h.part]
    have := partP_le (ix pl n)
    omega
  · subst e
    unfold openP
    rw [h.part, h.op, h.mdl]
    simp
theorem InvO.begin {pl : List PI} {n : Nat} (h : InvO pl n) (hn : n < pl.length) (h8 : partP (ix pl n) = 8) (hop : (ix pl n).1 = 54) : InvF pl (n + 1) 54 := by
  refine ⟨by omega, h.good.step ?_, mdlP_mono h.mdl (by omega), by omega, h8, hop⟩
  rw [may_eight h.mdl h8, hop]
  rcases h.ah with e | e <;> rw [e] <;> rfl
theorem InvO.bad {pl : List PI} {n : Nat} (h : InvO pl n) (hn : n < pl.length) (hk : kdP (ix pl n) ≠ 1) : StopL pl n := by
  refine ⟨h.le, h.good, fun _ => ?_, fun e => by omega⟩
  by_cases h8 : partP (ix pl n) = 8
  · rw [may_eight h.mdl h8]
    have hop : (ix pl n).1 ≠ 54 := fun e => hk (by unfold kdP; rw [if_neg (fun hh => hh h8), if_pos e])
    have : aheadP pl n = 0 ∨ aheadP pl n = 54 ∨ aheadP pl n = 55 ∨ aheadP pl n = 56 ∨ endsP (aheadP pl n) = true := by rcases h.ah with e | e <;> simp [e]
    unfold opMay
    rw [if_neg hop]
    by_cases e1 : (ix pl n).1 = 55
    · rw [if_pos e1]; rcases h.ah with e | e <;> rw [e] <;> rfl
    · rw [if_neg e1]
      by_cases e2 : (ix pl n).1 = 248
      · rw [if_pos e2]; rcases h.ah with e | e <;> rw [e] <;> rfl
      · rw [if_neg e2]
        by_cases e3 : (ix pl n).1 = 56
        · rw [if_pos e3]; rcases h.ah with e | e <;> rw [e] <;> rfl
        · rw [if_neg e3, if_pos this]
  · exact h.stuck hn h8
end Go.Proofs

namespace Go.Proofs
open Go.Gk Go.RowKit Go.Gm

theorem kd_part {p : PI} (h : kdP p ≠ 9) : partP p = 8 := by
  unfold kdP at h
  by_cases e : partP p = 8
  · exact e
  · rw [if_pos e] at h; exact absurd rfl h
theorem kd_op {p : PI} (h8 : partP p = 8) : kdP p = (if p.1 = 54 then 1 else if p.1 = 55 then 2 else if p.1 = 56 then 8 else if p.1 = 248 then 3 else if p.1 = 245 then 4
  else if p.1 = 59 then 5 else if p.1 = 246 then 6 else if p.1 = 247 then 6 else if endsP p.1 = true then 7 else 0) := by
  unfold kdP
  rw [if_neg (fun g => g h8)]
theorem ends_iff {op : Int} : endsP op = true ↔ 249 ≤ op ∧ op ≤ 255 := by unfold endsP; exact decide_eq_true_iff
theorem ends_false {op : Int} : endsP op = false ↔ ¬ (249 ≤ op ∧ op ≤ 255) := by unfold endsP; exact decide_eq_false_iff_not
/-- The kinds by operations. -/
theorem kd_ops {p : PI} (h8 : partP p = 8) : (kdP p = 1 ↔ p.1 = 54) ∧ (kdP p = 2 ↔ p.1 = 55) ∧ (kdP p = 8 ↔ p.1 = 56) ∧ (kdP p = 3 ↔ p.1 = 248) ∧ (kdP p = 4 ↔ p.1 = 245) ∧ (kdP p = 5 ↔ p.1 = 59) ∧
    (kdP p = 6 ↔ p.1 = 246 ∨ p.1 = 247) ∧ (kdP p = 7 ↔ 249 ≤ p.1 ∧ p.1 ≤ 255) ∧ kdP p ≠ 9 := by
  rw [kd_op h8]
  simp only [ends_iff]
  repeat' split
  all_goals omega
def mayI (mg en : Int) : Bool := if en = 251 then mg == 247 else if en = 249 then mg == 246 else if en = 250 then true else false
structure BlkOp (ah : Int) : Prop where
  ne : ah ≠ 0 ∧ ah ≠ 54 ∧ ah ≠ 55 ∧ ah ≠ 56 ∧ ah ≠ 246 ∧ ah ≠ 247
  en : ¬ (249 ≤ ah ∧ ah ≤ 255)
theorem opMay_blk {op ah : Int} {F : Bool} (h : BlkOp ah) : opMay op ah F = (if op = 54 ∨ op = 55 ∨ op = 248 ∨ op = 56 then false else if op = 245 then (ah == 248 || ah == 245) && !F else if op = 59 then (ah == 248 || ah == 59) && F else true) := by
  obtain ⟨⟨h0, h1, h2, h3, h4, h5⟩, h6⟩ := h
  have h6' := ends_false.2 h6
  have no : ∀ {c : Int}, ah ≠ c → (ah == c) = false := fun h => beq_eq_false_iff_ne.2 h
  unfold opMay
  by_cases e1 : op = 54
  · rw [if_pos e1, if_pos (.inl e1), no h0, no h3]; rfl
  rw [if_neg e1]
  by_cases e2 : op = 55
  · rw [if_pos e2, if_pos (.inr (.inl e2)), no h1, no h2]; rfl
  rw [if_neg e2]
  by_cases e3 : op = 248
  · rw [if_pos e3, if_pos (.inr (.inr (.inl e3))), no h1, no h2, h6']; rfl
  rw [if_neg e3]
  by_cases e4 : op = 56
  · rw [if_pos e4, if_pos (.inr (.inr (.inr e4))), h6']
  rw [if_neg e4, if_neg (by rw [h6']; rintro (e | e | e | e | e) <;> first | exact absurd e (by assumption) | cases e), if_neg (c := op = 54 ∨ op = 55 ∨ op = 248 ∨ op = 56) (by omega), if_neg h4, if_neg h5]
theorem opMay_merge {op ah : Int} {F : Bool} (h : ah = 246 ∨ ah = 247) : opMay op ah F = mayI ah op := by
  have he : endsP ah = false := ends_false.2 (by omega)
  have no : ∀ {c : Int}, ah ≠ c → (ah == c) = false := fun h => beq_eq_false_iff_ne.2 h
  unfold opMay mayI
  by_cases e1 : op = 54
  · rw [if_pos e1, no (by omega), no (by omega)]; subst e1; rfl
  rw [if_neg e1]
  by_cases e2 : op = 55
  · rw [if_pos e2, no (by omega), no (by omega)]; subst e2; rfl
  rw [if_neg e2]
  by_cases e3 : op = 248
  · rw [if_pos e3, no (by omega), no (by omega), he]; subst e3; rfl
  rw [if_neg e3]
  by_cases e4 : op = 56
  · rw [if_pos e4, he]; subst e4; rfl
  rw [if_neg e4, if_neg (by rw [he]; rintro (e | e | e | e | e) <;> first | omega | cases e)]
  by_cases e5 : op = 245
  · rw [if_pos e5, no (by omega), no (by omega)]; subst e5; rfl
  rw [if_neg e5]
  by_cases e6 : op = 59
  · rw [if_pos e6, no (by omega), no (by omega)]; subst e6; rfl
  rw [if_neg e6]
  rcases h with h | h
  · rw [if_pos h]
    by_cases e7 : op = 249
    · subst e7; subst h; rfl
    by_cases e8 : op = 250
    · subst e8; subst h; rfl
    rw [if_neg e7, if_neg e8, beq_eq_false_iff_ne.2 e7, beq_eq_false_iff_ne.2 e8]
    by_cases e9 : op = 251
    · rw [if_pos e9, h]; rfl
    · rw [if_neg e9]; rfl
  · rw [if_neg (by omega), if_pos h]
    by_cases e7 : op = 251
    · subst e7; subst h; rfl
    by_cases e8 : op = 250
    · subst e8; subst h; rfl
    rw [if_neg e7, if_neg e8, beq_eq_false_iff_ne.2 e7, beq_eq_false_iff_ne.2 e8]
    by_cases e9 : op = 249
    · rw [if_pos e9, h]; rfl
    · rw [if_neg e9]; rfl

variable {pl : List PI} {n : Nat} {ah : Int} {F : Bool}
theorem first_step (hn : 0 < n) (h : (ix pl n).1 ≠ 248) : firstP pl n = firstP pl (n - 1) := by
  obtain ⟨m, rfl⟩ : ∃ m, n = m + 1 := ⟨n - 1, by omega⟩
  exact if_neg h
theorem InvF.param (h : InvF pl n ah) (ha : ah = 54 ∨ ah = 55) (hn : n < pl.length) (hk : kdP (ix pl n) = 2) : InvF pl (n + 1) 55 := by
  have h8 := kd_part (p := ix pl n) (by omega)
  have hop := ((kd_ops h8).2.1).1 hk
  have := h.step hn h8 (by rw [hop]; rcases ha with e | e <;> rw [e] <;> rfl)
  rwa [hop] at this
theorem InvF.noblock (h : InvF pl n ah) (ha : ah = 54 ∨ ah = 55) (h2 : n < pl.length → kdP (ix pl n) ≠ 2) (h3 : n < pl.length → kdP (ix pl n) ≠ 3) : StopL pl n := by
  refine h.bad (by omega) fun hn h8 => ?_
  have hk := kd_ops h8
  have h2 := h2 hn
  have h3 := h3 hn
  have e2 : (ix pl n).1 ≠ 55 := fun e => h2 (hk.2.1.2 e)
  have e3 : (ix pl n).1 ≠ 248 := fun e => h3 (hk.2.2.2.1.2 e)
  unfold opMay
  by_cases e1 : (ix pl n).1 = 54
  · rw [if_pos e1]; rcases ha with e | e <;> rw [e] <;> rfl
  rw [if_neg e1, if_neg e2, if_neg e3]
  by_cases e4 : (ix pl n).1 = 56
  · rw [if_pos e4]; rcases ha with e | e <;> rw [e] <;> rfl
  rw [if_neg e4, if_pos (by omega)]
theorem InvF.noend (h : InvF pl n ah) (ha : 249 ≤ ah ∧ ah ≤ 255) (h3 : n < pl.length → kdP (ix pl n) ≠ 3) (h8' : n < pl.length → kdP (ix pl n) ≠ 8) : StopL pl n := by
  refine h.bad (by omega) fun hn h8 => ?_
  have hk := kd_ops h8
  have h3 := h3 hn
  have h8' := h8' hn
  have e3 : (ix pl n).1 ≠ 248 := fun e => h3 (hk.2.2.2.1.2 e)
  have e4 : (ix pl n).1 ≠ 56 := fun e => h8' (hk.2.2.1.2 e)
  have no : ∀ {c : Int}, ah ≠ c → (ah == c) = false := fun h => beq_eq_false_iff_ne.2 h
  unfold opMay
  by_cases e1 : (ix pl n).1 = 54
  · rw [if_pos e1, no (by omega), no (by omega)]; rfl
  rw [if_neg e1]
  by_cases e2 : (ix pl n).1 = 55
  · rw [if_pos e2, no (by omega), no (by omega)]; rfl
  rw [if_neg e2, if_neg e3, if_neg e4, if_pos (.inr (.inr (.inr (.inr (ends_iff.2 ha)))))]
theorem InvF.shut (h : InvF pl n ah) (ha : 249 ≤ ah ∧ ah ≤ 255) (hn : n < pl.length) (hk : kdP (ix pl n) = 8) : InvF pl (n + 1) 56 := by
  have h8 := kd_part (p := ix pl n) (by omega)
  have hop := ((kd_ops h8).2.2.1).1 hk
  have := h.step hn h8 (by rw [hop]; exact ends_iff.2 ha)
  rwa [hop] at this
/-- Within a block, whose being the first says F. -/
structure InvB (pl : List PI) (n : Nat) (F : Bool) (ah : Int) : Prop where
  f : InvF pl n ah
  fi : firstP pl (n - 1) = F
  op : BlkOp ah
theorem InvF.label (h : InvF pl n ah) (ha : (ah = 54 ∨ ah = 55) ∨ (249 ≤ ah ∧ ah ≤ 255)) (hn : n < pl.length) (hk : kdP (ix pl n) = 3) : InvB pl (n + 1) (ah == 54 || ah == 55) 248 := by
  have h8 := kd_part (p := ix pl n) (by omega)
  have hop := ((kd_ops h8).2.2.2.1).1 hk
  have hs := h.step hn h8 (by
    rw [hop]
    rcases ha with (e | e) | e
    · rw [e]; rfl
    · rw [e]; rfl
    · unfold opMay
      rw [if_neg (by omega), if_neg (by omega), if_pos rfl, ends_iff.2 e, Bool.or_true])
  rw [hop] at hs
  refine ⟨hs, ?_, ⟨⟨by decide, by decide, by decide, by decide, by decide, by decide⟩, by decide⟩⟩
  rw [Nat.add_sub_cancel]
  obtain ⟨m, rfl⟩ : ∃ m, n = m + 1 := ⟨n - 1, by have := h.pos; omega⟩
  have : firstP pl (m + 1) = ((ix pl m).1 == 54 || (ix pl m).1 == 55) := if_pos hop
  rw [this]
  have hah : (ix pl m).1 = ah := h.op
  rw [hah]
theorem InvB.go (h : InvB pl n F ah) (hn : n < pl.length) (h8 : partP (ix pl n) = 8) (hm : opMay (ix pl n).1 ah F = true) : InvF pl (n + 1) (ix pl n).1 := h.f.step hn h8 (by rw [h.fi]; exact hm)
theorem InvB.next (h : InvB pl n F ah) (hn : n < pl.length) (h8 : partP (ix pl n) = 8) (hm : opMay (ix pl n).1 ah F = true) (hop : BlkOp (ix pl n).1) (h248 : (ix pl n).1 ≠ 248) : InvB pl (n + 1) F (ix pl n).1 :=
  ⟨h.go hn h8 hm, by rw [Nat.add_sub_cancel, first_step h.f.pos h248]; exact h.fi, hop⟩
theorem InvB.local (h : InvB pl n true ah) (ha : ah = 248 ∨ ah = 59) (hn : n < pl.length) (hk : kdP (ix pl n) = 5) : InvB pl (n + 1) true 59 := by
  have h8 := kd_part (p := ix pl n) (by omega)
  have hop := ((kd_ops h8).2.2.2.2.2.1).1 hk
  have := h.next hn h8 (by rw [opMay_blk h.op, hop]; rcases ha with e | e <;> rw [e] <;> rfl) (by rw [hop]; exact ⟨⟨by decide, by decide, by decide, by decide, by decide, by decide⟩, by decide⟩) (by omega)
  rwa [hop] at this
theorem InvB.phi (h : InvB pl n false ah) (ha : ah = 248 ∨ ah = 245) (hn : n < pl.length) (hk : kdP (ix pl n) = 4) : InvB pl (n + 1) false 245 := by
  have h8 := kd_part (p := ix pl n) (by omega)
  have hop := ((kd_ops h8).2.2.2.2.1).1 hk
  have := h.next hn h8 (by rw [opMay_blk h.op, hop]; rcases ha with e | e <;> rw [e] <;> rfl) (by rw [hop]; exact ⟨⟨by decide, by decide, by decide, by decide, by decide, by decide⟩, by decide⟩) (by omega)
  rwa [hop] at this
theorem op_ne {p : PI} (h8 : partP p = 8) : p.1 ≠ 0 := by
  intro e
  unfold partP at h8
  have hv : isVar p = false := by unfold isVar; rw [e]; rfl
  rw [hv, e] at h8
  exact absurd h8 (by decide +kernel)
theorem InvB.plain (h : InvB pl n F ah) (hn : n < pl.length) (hk : kdP (ix pl n) = 0) : InvB pl (n + 1) F (ix pl n).1 ∧ (ix pl n).1 ≠ 248 ∧ (ix pl n).1 ≠ 245 ∧ (ix pl n).1 ≠ 59 := by
  have h8 := kd_part (p := ix pl n) (by omega)
  have hk' := kd_ops h8
  rw [hk] at hk'
  obtain ⟨k1, k2, k3, k4, k5, k6, k7, k8, _⟩ := hk'
  have h0 := op_ne h8
  refine ⟨h.next hn h8 ?_ ⟨by omega, by omega⟩ (by omega), by omega, by omega, by omega⟩
  rw [opMay_blk h.op, if_neg (by omega), if_neg (by omega), if_neg (by omega)]
theorem InvB.merge (h : InvB pl n F ah) (hn : n < pl.length) (hk : kdP (ix pl n) = 6) : InvF pl (n + 1) (ix pl n).1 ∧ ((ix pl n).1 = 246 ∨ (ix pl n).1 = 247) := by
  have h8 := kd_part (p := ix pl n) (by omega)
  have hop := ((kd_ops h8).2.2.2.2.2.2.1).1 hk
  refine ⟨h.go hn h8 ?_, hop⟩
  rw [opMay_blk h.op, if_neg (by omega), if_neg (by omega), if_neg (by omega)]
theorem InvB.ender (h : InvB pl n F ah) (hn : n < pl.length) (hk : kdP (ix pl n) = 7) : InvF pl (n + 1) (ix pl n).1 ∧ 249 ≤ (ix pl n).1 ∧ (ix pl n).1 ≤ 255 := by
  have h8 := kd_part (p := ix pl n) (by omega)
  have hop := ((kd_ops h8).2.2.2.2.2.2.2.1).1 hk
  refine ⟨h.go hn h8 ?_, hop⟩
  rw [opMay_blk h.op, if_neg (by omega), if_neg (by omega), if_neg (by omega)]
theorem InvF.mender (h : InvF pl n ah) (ha : ah = 246 ∨ ah = 247) (hn : n < pl.length) (hk : kdP (ix pl n) = 7) (hm : mayI ah (ix pl n).1 = true) : InvF pl (n + 1) (ix pl n).1 ∧ 249 ≤ (ix pl n).1 ∧ (ix pl n).1 ≤ 255 := by
  have h8 := kd_part (p := ix pl n) (by omega)
  have hop := ((kd_ops h8).2.2.2.2.2.2.2.1).1 hk
  exact ⟨h.step hn h8 (by rw [opMay_merge ha]; exact hm), hop⟩
theorem InvF.mbad (h : InvF pl n ah) (ha : ah = 246 ∨ ah = 247) (hb : n < pl.length → kdP (ix pl n) = 7 → mayI ah (ix pl n).1 = false) : StopL pl n := by
  refine h.bad (by omega) fun hn h8 => ?_
  rw [opMay_merge ha]
  by_cases hk : kdP (ix pl n) = 7
  · exact hb hn hk
  · have h7 := (kd_ops h8).2.2.2.2.2.2.2.1
    unfold mayI
    rw [if_neg (by omega), if_neg (by omega), if_neg (by omega)]
theorem InvB.bad (h : InvB pl n F ah) (h0 : n < pl.length → kdP (ix pl n) ≠ 0 ∧ kdP (ix pl n) ≠ 6 ∧ kdP (ix pl n) ≠ 7) (h4 : n < pl.length → kdP (ix pl n) = 4 → F = false → ah ≠ 248 ∧ ah ≠ 245)
    (h5 : n < pl.length → kdP (ix pl n) = 5 → F = true → ah ≠ 248 ∧ ah ≠ 59) : StopL pl n := by
  refine h.f.bad (by have := h.op.ne; omega) fun hn h8 => ?_
  obtain ⟨q0, q6, q7⟩ := h0 hn
  have h4 := h4 hn
  have h5 := h5 hn
  have no : ∀ {c : Int}, ah ≠ c → (ah == c) = false := fun h => beq_eq_false_iff_ne.2 h
  rw [h.fi, opMay_blk h.op]
  obtain ⟨k1, k2, k3, k4, k5, k6, k7, k8, k9⟩ := kd_ops h8
  by_cases e : (ix pl n).1 = 54 ∨ (ix pl n).1 = 55 ∨ (ix pl n).1 = 248 ∨ (ix pl n).1 = 56
  · rw [if_pos e]
  rw [if_neg e]
  by_cases e4 : (ix pl n).1 = 245
  · rw [if_pos e4]
    cases F
    · obtain ⟨g1, g2⟩ := h4 (k5.2 e4) rfl
      rw [no g1, no g2]; rfl
    · simp
  rw [if_neg e4]
  by_cases e5 : (ix pl n).1 = 59
  · rw [if_pos e5]
    cases F
    · simp
    · obtain ⟨g1, g2⟩ := h5 (k6.2 e5) rfl
      rw [no g1, no g2]; rfl
  exfalso
  refine q0 ?_
  rw [kd_op h8, if_neg (by omega), if_neg (by omega), if_neg (by omega), if_neg (by omega), if_neg e4, if_neg e5, if_neg (by omega), if_neg (by omega), if_neg (fun g => by have := ends_iff.1 g; omega)]

structure FnL where
  id : Int
  at_ : Int
  en : Int
  ps : List Int
  bk : List (Int × Int × Int)
def modL {α : Type} (f : α → α) : List α → List α
  | [] => []
  | [x] => [f x]
  | x :: y :: r => x :: modL f (y :: r)
theorem modL_append {α : Type} (f : α → α) (x : α) : ∀ l : List α, modL f (l ++ [x]) = l ++ [f x]
  | [] => rfl
  | [y] => rfl
  | y :: z :: r => by
    have := modL_append f x (z :: r)
    simp only [List.cons_append, modL] at this ⊢
    rw [this]
def cutS (l : List FnL) (k : Nat) (p : PI) : List FnL :=
  if p.1 = 54 then l ++ [⟨p.2.2.1, k, 0, [], []⟩]
  else if p.1 = 55 then modL (fun f => { f with ps := f.ps ++ [(k : Int)] }) l
  else if p.1 = 56 then modL (fun f => { f with en := k }) l
  else if p.1 = 248 then modL (fun f => { f with bk := f.bk ++ [(p.2.2.1, (k : Int), 0)] }) l
  else if endsP p.1 = true then modL (fun f => { f with bk := modL (fun b => (b.1, b.2.1, (k : Int) + 1)) f.bk }) l
  else l
def cutF (pl : List PI) : Nat → List FnL
  | 0 => []
  | n + 1 => cutS (cutF pl n) n (ix pl n)
theorem parts8 : partO 54 = 8 ∧ partO 55 = 8 ∧ partO 56 = 8 ∧ partO 248 = 8 ∧ partO 249 = 8 ∧ partO 250 = 8 ∧ partO 251 = 8 ∧ partO 252 = 8 ∧ partO 253 = 8 ∧ partO 254 = 8 ∧ partO 255 = 8 := by decide +kernel
theorem cut_idle {p : PI} (h : partP p ≠ 8 ∨ kdP p = 0 ∨ kdP p = 4 ∨ kdP p = 5 ∨ kdP p = 6) (l : List FnL) (k : Nat) : cutS l k p = l := by
  have hno : ¬ (p.1 = 54 ∨ p.1 = 55 ∨ p.1 = 56 ∨ p.1 = 248 ∨ (249 ≤ p.1 ∧ p.1 ≤ 255)) := by
    intro hop
    have h8 : partP p = 8 := by
      unfold partP
      split
      · rfl
      · obtain ⟨q1, q2, q3, q4, q5, q6, q7, q8, q9, q10, q11⟩ := parts8
        have hc : p.1 = 54 ∨ p.1 = 55 ∨ p.1 = 56 ∨ p.1 = 248 ∨ p.1 = 249 ∨ p.1 = 250 ∨ p.1 = 251 ∨ p.1 = 252 ∨ p.1 = 253 ∨ p.1 = 254 ∨ p.1 = 255 := by omega
        rcases hc with e | e | e | e | e | e | e | e | e | e | e <;> rw [e] <;> assumption
    obtain ⟨k1, k2, k3, k4, k5, k6, k7, k8, k9⟩ := kd_ops h8
    rcases h with h | h | h | h | h
    · exact h h8
    all_goals omega
  unfold cutS
  rw [if_neg (by omega), if_neg (by omega), if_neg (by omega), if_neg (by omega), if_neg (fun e => hno (by have := ends_iff.1 e; omega))]

/-- ps has, by twos, the places of the parts below p, of the instructions below n. -/
def PartsTo (pl : List PI) (p n : Nat) (ps : List Int) : Prop :=
  ∀ q, q < p → 0 ≤ ps.getD (2 * q) 0 ∧ ps.getD (2 * q) 0 ≤ ps.getD (2 * q + 1) 0 ∧ ps.getD (2 * q + 1) 0 ≤ n ∧ ∀ i, i < n → ((ps.getD (2 * q) 0 ≤ (i : Int) ∧ (i : Int) < ps.getD (2 * q + 1) 0) ↔ partP (ix pl i) = q)
theorem getD_set2 {ps : List Int} {i j : Nat} {a b : Int} (hi : i + 1 < ps.length) : ((ps.set i a).set (i + 1) b).getD j 0 = if j = i then a else if j = i + 1 then b else ps.getD j 0 := by
  simp only [List.getD_eq_getElem?_getD]
  by_cases e : j = i + 1
  · subst e
    rw [List.getElem?_set_self (by simpa using hi), if_neg (by omega), if_pos rfl]
    rfl
  · rw [List.getElem?_set_ne (fun h => e h.symm)]
    by_cases e2 : j = i
    · subst e2
      rw [List.getElem?_set_self (by omega), if_pos rfl]
      rfl
    · rw [List.getElem?_set_ne (fun h => e2 h.symm), if_neg e2, if_neg e]
theorem PartsTo.step {p f n' : Nat} {ps : List Int} (h : PartsTo pl p f ps) (hps : ps.length = 20) (hp : p < 10) (hfn : f ≤ n') (hlow : ∀ k, k < f → partP (ix pl k) < p) (hown : ∀ k, f ≤ k → k < n' → partP (ix pl k) = p) :
    PartsTo pl (p + 1) n' ((ps.set (2 * p) f).set (2 * p + 1) n') := by
  intro q hq
  rw [getD_set2 (by omega), getD_set2 (by omega)]
  by_cases e : q = p
  · subst e
    rw [if_pos rfl, if_neg (by omega), if_pos rfl]
    refine ⟨by omega, by omega, by omega, fun i hi => ⟨fun hh => hown i (by omega) hi, fun hh => ⟨?_, by omega⟩⟩⟩
    rcases Nat.lt_or_ge i f with g | g
    · have := hlow i g; omega
    · omega
  · rw [if_neg (by omega), if_neg (by omega), if_neg (by omega), if_neg (by omega)]
    obtain ⟨h1, h2, h3, h4⟩ := h q (by omega)
    refine ⟨h1, h2, by omega, fun i hi => ?_⟩
    rcases Nat.lt_or_ge i f with g | g
    · exact h4 i g
    · have := hown i g hi
      constructor
      · intro hh; omega
      · intro hh; omega
theorem good_mono {n : Nat} (h : GoodL pl n) {i j : Nat} (hij : i < j) (hj : j < n) : partP (ix pl i) ≤ partP (ix pl j) := by
  rcases Nat.lt_or_ge (partP (ix pl j)) (partP (ix pl i)) with g | g
  · have := h j hj
    rw [may_over hij g] at this
    cases this
  · exact g
theorem PartsTo.all {n : Nat} {ps : List Int} (h : PartsTo pl 8 n ps) (hps : ps.length = 20) (hn : n ≤ pl.length) (hlow : ∀ k, k < n → partP (ix pl k) < 8) (hg : GoodL pl pl.length) (h8 : n < pl.length → partP (ix pl n) = 8) :
    PartsTo pl 10 pl.length ((((ps.set 16 n).set 17 pl.length).set 18 pl.length).set 19 pl.length) := by
  have hown : ∀ k, n ≤ k → k < pl.length → partP (ix pl k) = 8 := by
    intro k h1 h2
    by_cases e : k = n
    · subst e; exact h8 h2
    · have := good_mono hg (i := n) (j := k) (by omega) h2
      rw [h8 (by omega)] at this
      have := partP_le (ix pl k)
      omega
  have s8 := h.step (n' := pl.length) hps (by omega) hn hlow hown
  have := s8.step (n' := pl.length) (by simpa using hps) (by omega) (Nat.le_refl _) (fun k hk => by have := partP_le (ix pl k); omega) (fun k h1 h2 => by omega)
  exact this
theorem rows_ind {P : Nat → Int → Prop} {Q : Int → Prop} {k : Int} (step : ∀ m a, P m a → Q a → m < pl.length → kdP (ix pl m) = k → ∃ a', P (m + 1) a' ∧ Q a') {n' : Nat} (hle : n ≤ n') (hn' : n' ≤ pl.length)
    (hk : ∀ j, n ≤ j → j < n' → kdP (ix pl j) = k) {a : Int} (hP : P n a) (hQ : Q a) : ∃ a', P n' a' ∧ Q a' := by
  obtain ⟨d, rfl⟩ : ∃ d, n' = n + d := ⟨n' - n, by omega⟩
  clear hle
  induction d with
  | zero => exact ⟨a, hP, hQ⟩
  | succ d ih =>
    obtain ⟨a', h1, h2⟩ := ih (by omega) (fun j g1 g2 => hk j g1 (by omega))
    exact step (n + d) a' h1 h2 (by omega) (hk (n + d) (by omega) (by omega))
theorem InvF.params (h : InvF pl n ah) (ha : ah = 54 ∨ ah = 55) {n' : Nat} (hle : n ≤ n') (hn' : n' ≤ pl.length) (hk : ∀ j, n ≤ j → j < n' → kdP (ix pl j) = 2) : ∃ ah', InvF pl n' ah' ∧ (ah' = 54 ∨ ah' = 55) :=
  rows_ind (P := fun m a => InvF pl m a) (Q := fun a => a = 54 ∨ a = 55) (fun m a h1 h2 h3 h4 => ⟨55, h1.param h2 h3 h4, .inr rfl⟩) hle hn' hk h ha
theorem InvB.locals (h : InvB pl n true ah) (ha : ah = 248 ∨ ah = 59) {n' : Nat} (hle : n ≤ n') (hn' : n' ≤ pl.length) (hk : ∀ j, n ≤ j → j < n' → kdP (ix pl j) = 5) : ∃ ah', InvB pl n' true ah' ∧ (ah' = 248 ∨ ah' = 59) :=
  rows_ind (P := fun m a => InvB pl m true a) (Q := fun a => a = 248 ∨ a = 59) (fun m a h1 h2 h3 h4 => ⟨59, h1.local h2 h3 h4, .inr rfl⟩) hle hn' hk h ha
theorem InvB.phis (h : InvB pl n false ah) (ha : ah = 248 ∨ ah = 245) {n' : Nat} (hle : n ≤ n') (hn' : n' ≤ pl.length) (hk : ∀ j, n ≤ j → j < n' → kdP (ix pl j) = 4) : ∃ ah', InvB pl n' false ah' ∧ (ah' = 248 ∨ ah' = 245) :=
  rows_ind (P := fun m a => InvB pl m false a) (Q := fun a => a = 248 ∨ a = 245) (fun m a h1 h2 h3 h4 => ⟨245, h1.phi h2 h3 h4, .inr rfl⟩) hle hn' hk h ha
theorem InvB.plains (h : InvB pl n F ah) {n' : Nat} (hle : n ≤ n') (hn' : n' ≤ pl.length) (hk : ∀ j, n ≤ j → j < n' → kdP (ix pl j) = 0) : ∃ ah', InvB pl n' F ah' ∧ (n' = n ∨ (ah' ≠ 248 ∧ ah' ≠ 245 ∧ ah' ≠ 59)) := by
  by_cases e : n' = n
  · subst e
    exact ⟨ah, h, .inl rfl⟩
  · obtain ⟨m, rfl⟩ : ∃ m, n' = m + 1 := ⟨n' - 1, by omega⟩
    obtain ⟨a, h1, _⟩ := rows_ind (P := fun m a => InvB pl m F a) (Q := fun _ => True) (n := n) (n' := m) (fun m a h1 _ h3 h4 => ⟨_, (h1.plain h3 h4).1, trivial⟩) (by omega) (by omega) (fun j g1 g2 => hk j g1 (by omega)) h trivial
    obtain ⟨h2, h3⟩ := h1.plain (by omega) (hk m (by omega) (by omega))
    exact ⟨_, h2, .inr h3⟩
theorem cutF_idle {n' : Nat} (hle : n ≤ n') (hk : ∀ j, n ≤ j → j < n' → partP (ix pl j) ≠ 8 ∨ kdP (ix pl j) = 0 ∨ kdP (ix pl j) = 4 ∨ kdP (ix pl j) = 5 ∨ kdP (ix pl j) = 6) : cutF pl n' = cutF pl n := by
  obtain ⟨d, rfl⟩ : ∃ d, n' = n + d := ⟨n' - n, by omega⟩
  clear hle
  induction d with
  | zero => rfl
  | succ d ih =>
    show cutS (cutF pl (n + d)) (n + d) (ix pl (n + d)) = cutF pl n
    rw [cut_idle (hk (n + d) (by omega) (by omega)), ih fun j g1 g2 => hk j g1 (by omega)]
theorem cutF_fun {l : List FnL} (h : cutF pl n = l) (hk : kdP (ix pl n) = 1) : cutF pl (n + 1) = l ++ [⟨(ix pl n).2.2.1, n, 0, [], []⟩] := by
  have h8 := kd_part (p := ix pl n) (by omega)
  have hop := ((kd_ops h8).1).1 hk
  show cutS (cutF pl n) n (ix pl n) = _
  unfold cutS
  rw [if_pos hop, h]
theorem cutF_end {l : List FnL} {f : FnL} (h : cutF pl n = l ++ [f]) (hk : kdP (ix pl n) = 8) : cutF pl (n + 1) = l ++ [{ f with en := n }] := by
  have h8 := kd_part (p := ix pl n) (by omega)
  have hop := ((kd_ops h8).2.2.1).1 hk
  show cutS (cutF pl n) n (ix pl n) = _
  unfold cutS
  rw [if_neg (by omega), if_neg (by omega), if_pos hop, h, modL_append]
theorem cutF_label {l : List FnL} {f : FnL} (h : cutF pl n = l ++ [f]) (hk : kdP (ix pl n) = 3) : cutF pl (n + 1) = l ++ [{ f with bk := f.bk ++ [((ix pl n).2.2.1, (n : Int), 0)] }] := by
  have h8 := kd_part (p := ix pl n) (by omega)
  have hop := ((kd_ops h8).2.2.2.1).1 hk
  show cutS (cutF pl n) n (ix pl n) = _
  unfold cutS
  rw [if_neg (by omega), if_neg (by omega), if_neg (by omega), if_pos hop, h, modL_append]
theorem cutF_ender {l : List FnL} {f : FnL} {b : List (Int × Int × Int)} {i a t : Int} (h : cutF pl n = l ++ [{ f with bk := b ++ [(i, a, t)] }]) (hk : kdP (ix pl n) = 7) :
    cutF pl (n + 1) = l ++ [{ f with bk := b ++ [(i, a, (n : Int) + 1)] }] := by
  have h8 := kd_part (p := ix pl n) (by omega)
  have hop := ((kd_ops h8).2.2.2.2.2.2.2.1).1 hk
  show cutS (cutF pl n) n (ix pl n) = _
  unfold cutS
  rw [if_neg (by omega), if_neg (by omega), if_neg (by omega), if_neg (by omega), if_pos (ends_iff.2 hop), h, modL_append]
  dsimp only
  rw [modL_append]
theorem cutF_params {l : List FnL} {f : FnL} (h : cutF pl n = l ++ [f]) {n' : Nat} (hle : n ≤ n') (hk : ∀ j, n ≤ j → j < n' → kdP (ix pl j) = 2) :
    cutF pl n' = l ++ [{ f with ps := f.ps ++ (List.range (n' - n)).map fun i => ((n + i : Nat) : Int) }] := by
  obtain ⟨d, rfl⟩ : ∃ d, n' = n + d := ⟨n' - n, by omega⟩
  clear hle
  rw [Nat.add_sub_cancel_left]
  induction d with
  | zero => rw [List.range_zero, List.map_nil, List.append_nil]; exact h
  | succ d ih =>
    have hk2 := hk (n + d) (by omega) (by omega)
    have h8 := kd_part (p := ix pl (n + d)) (by omega)
    have hop := ((kd_ops h8).2.1).1 hk2
    show cutS (cutF pl (n + d)) (n + d) (ix pl (n + d)) = _
    unfold cutS
    rw [if_neg (by omega), if_pos hop, ih fun j g1 g2 => hk j g1 (by omega), modL_append, List.range_succ, List.map_append]
    simp [List.append_assoc]
/-- How a part ends. -/
structure OutP (pl : List PI) (p f n : Nat) : Prop where
  lo : f ≤ n
  le : n ≤ pl.length
  own : ∀ k, f ≤ k → k < n → partP (ix pl k) = p
  out : p ≠ 1 → InvT pl (p + 1) n
  one : p = 1 → (n = f ∧ (f < pl.length → partP (ix pl f) ≠ 1)) ∨ n = f + 1
theorem OutP.go {p f : Nat} (h : OutP pl p f n) (hT : InvT pl p f) (hne : p = 1 → n ≠ f) : InvT pl (p + 1) n := by
  by_cases e : p = 1
  · subst e
    rcases h.one rfl with ⟨g, _⟩ | g
    · exact absurd g (hne rfl)
    · subst g
      exact hT.model (by have := h.le; omega) (h.own f (Nat.le_refl _) (by omega))
  · exact h.out e
theorem OutP.stop {f : Nat} (h : OutP pl 1 f n) (hT : InvT pl 1 f) (he : n = f) : StopL pl n := by
  rcases h.one rfl with ⟨_, g⟩ | g
  · subst he
    exact hT.nomodel g
  · omega
end Go.Proofs
