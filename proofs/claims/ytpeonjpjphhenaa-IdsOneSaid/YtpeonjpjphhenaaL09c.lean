/-
 Printed by a program of the author: what each function comes to.
-/
import Derived.Test.YtpeonjpjphhenaaProg
import Derived.Test.YtpeonjpjphhenaaGkR
import Derived.Test.YtpeonjpjphhenaaLb
namespace Go.Proofs
open Go.Gk
set_option linter.unusedVariables false
set_option maxRecDepth 100000

/-- intaglio.ids.Check -/
def a_ids_Check : Ann := (.seq none .nil (.one (.seq none .nil (.seq none (.seq none .nil (.cond (.seq none .nil .nil) .nil)) (.seq none .nil (.seq none .nil (.seq none .nil (.seq none (.seq none .nil (.one (.loop ⟨[2, 5, 6, 29, 30], [(31, (.b (.int .i64)))]⟩ (.seq none .nil (.seq none (.cond .nil .nil) (.seq (some ⟨[2, 5, 6, 29, 30, 31], []⟩) (.one (.seq none .nil (.seq (some ⟨[2, 5, 6, 7, 8, 29, 30, 31], []⟩) (.seq none .nil (.cond (.seq none .nil .nil) .nil)) (.seq none .nil (.seq none (.seq none .nil (.one (.loop ⟨[2, 5, 6, 7, 29, 30, 31, 50, 51], [(9, (.b .bool)), (52, (.b (.int .i64)))]⟩ (.seq none .nil (.seq none (.cond .nil .nil) (.seq (some ⟨[2, 5, 6, 7, 29, 30, 31, 50, 51, 52], [(9, (.b .bool))]⟩) (.one (.seq none .nil (.seq none .nil (.seq none (.seq none .nil (.cond (.seq none .nil .nil) .nil)) .nil)))) .nil)))))) (.seq (some ⟨[2, 7], []⟩) (.seq none .nil (.cond .nil .nil)) (.seq none .nil .nil))))))) .nil)))))) (.seq none .nil .nil)))))))))
def L_ids_Check (p0 : (Int × Int × Sl × Unit)) (R : Value → World → Prop) (w : World) : Prop :=
 Nw (w.alloc (.cells #[(.int .u32 p0.1), (.int .u32 p0.2.1), (.slice p0.2.2.1.a p0.2.2.1.l p0.2.2.1.c)] 25)) fun w1 =>
 Nw (w1.alloc (.cells #[(.int .i64 (0 : Int)), (.int .i64 (0 : Int))] 29)) fun w2 =>
 ldI w2 ((blk w.heap.size).add 0) .u32 fun x1 =>
 ldI w2 ((blk w.heap.size).add 1) .u32 fun x2 =>
 ldS w2 ((blk w.heap.size).add 2) fun x3 =>
 callR Try.prog 37 #[(.agg #[(.int .u32 x1), (.int .u32 x2), (.slice x3.a x3.l x3.c)])] w2 fun v4 w3 =>
 ∃ x5 : (Int × Int × Int × Int × Int × Int × Int × Int × Int × Int × Int × Int × Int × Int × Int × Int × Int × Int × Int × Int × Unit), ∃ x6 : (Int × Int × Unit), v4 = (.tuple #[(.agg #[(.int .i64 x5.1), (.int .i64 x5.2.1), (.int .i64 x5.2.2.1), (.int .i64 x5.2.2.2.1), (.int .i64 x5.2.2.2.2.1), (.int .i64 x5.2.2.2.2.2.1), (.int .i64 x5.2.2.2.2.2.2.1), (.int .i64 x5.2.2.2.2.2.2.2.1), (.int .i64 x5.2.2.2.2.2.2.2.2.1), (.int .i64 x5.2.2.2.2.2.2.2.2.2.1), (.int .i64 x5.2.2.2.2.2.2.2.2.2.2.1), (.int .i64 x5.2.2.2.2.2.2.2.2.2.2.2.1), (.int .i64 x5.2.2.2.2.2.2.2.2.2.2.2.2.1), (.int .i64 x5.2.2.2.2.2.2.2.2.2.2.2.2.2.1), (.int .i64 x5.2.2.2.2.2.2.2.2.2.2.2.2.2.2.1), (.int .i64 x5.2.2.2.2.2.2.2.2.2.2.2.2.2.2.2.1), (.int .i64 x5.2.2.2.2.2.2.2.2.2.2.2.2.2.2.2.2.1), (.int .i64 x5.2.2.2.2.2.2.2.2.2.2.2.2.2.2.2.2.2.1), (.int .i64 x5.2.2.2.2.2.2.2.2.2.2.2.2.2.2.2.2.2.2.1), (.int .i64 x5.2.2.2.2.2.2.2.2.2.2.2.2.2.2.2.2.2.2.2.1)]), (.agg #[(.int .i64 x6.1), (.int .i64 x6.2.1)])]) ∧
 Nw (w3.alloc (.cells (List.toArray (List.replicate 20 (.int .i64 (0 : Int)))) 74)) fun w4 =>
 Nw (w4.alloc (.cells #[(.int .i64 (0 : Int)), (.int .i64 (0 : Int))] 29)) fun w5 =>
 Wr w5 (blk w3.heap.size) ∧
 Nw (w5.setCell (blk w3.heap.size) (.int .i64 x5.1)) fun w6 =>
 Wr w6 ((blk w3.heap.size).add 1) ∧
 Nw (w6.setCell ((blk w3.heap.size).add 1) (.int .i64 x5.2.1)) fun w7 =>
 Wr w7 ((blk w3.heap.size).add 2) ∧
 Nw (w7.setCell ((blk w3.heap.size).add 2) (.int .i64 x5.2.2.1)) fun w8 =>
 Wr w8 ((blk w3.heap.size).add 3) ∧
 Nw (w8.setCell ((blk w3.heap.size).add 3) (.int .i64 x5.2.2.2.1)) fun w9 =>
 Wr w9 ((blk w3.heap.size).add 4) ∧
 Nw (w9.setCell ((blk w3.heap.size).add 4) (.int .i64 x5.2.2.2.2.1)) fun w10 =>
 Wr w10 ((blk w3.heap.size).add 5) ∧
 Nw (w10.setCell ((blk w3.heap.size).add 5) (.int .i64 x5.2.2.2.2.2.1)) fun w11 =>
 Wr w11 ((blk w3.heap.size).add 6) ∧
 Nw (w11.setCell ((blk w3.heap.size).add 6) (.int .i64 x5.2.2.2.2.2.2.1)) fun w12 =>
 Wr w12 ((blk w3.heap.size).add 7) ∧
 Nw (w12.setCell ((blk w3.heap.size).add 7) (.int .i64 x5.2.2.2.2.2.2.2.1)) fun w13 =>
 Wr w13 ((blk w3.heap.size).add 8) ∧
 Nw (w13.setCell ((blk w3.heap.size).add 8) (.int .i64 x5.2.2.2.2.2.2.2.2.1)) fun w14 =>
 Wr w14 ((blk w3.heap.size).add 9) ∧
 Nw (w14.setCell ((blk w3.heap.size).add 9) (.int .i64 x5.2.2.2.2.2.2.2.2.2.1)) fun w15 =>
 Wr w15 ((blk w3.heap.size).add 10) ∧
 Nw (w15.setCell ((blk w3.heap.size).add 10) (.int .i64 x5.2.2.2.2.2.2.2.2.2.2.1)) fun w16 =>
 Wr w16 ((blk w3.heap.size).add 11) ∧
 Nw (w16.setCell ((blk w3.heap.size).add 11) (.int .i64 x5.2.2.2.2.2.2.2.2.2.2.2.1)) fun w17 =>
 Wr w17 ((blk w3.heap.size).add 12) ∧
 Nw (w17.setCell ((blk w3.heap.size).add 12) (.int .i64 x5.2.2.2.2.2.2.2.2.2.2.2.2.1)) fun w18 =>
 Wr w18 ((blk w3.heap.size).add 13) ∧
 Nw (w18.setCell ((blk w3.heap.size).add 13) (.int .i64 x5.2.2.2.2.2.2.2.2.2.2.2.2.2.1)) fun w19 =>
 Wr w19 ((blk w3.heap.size).add 14) ∧
 Nw (w19.setCell ((blk w3.heap.size).add 14) (.int .i64 x5.2.2.2.2.2.2.2.2.2.2.2.2.2.2.1)) fun w20 =>
 Wr w20 ((blk w3.heap.size).add 15) ∧
 Nw (w20.setCell ((blk w3.heap.size).add 15) (.int .i64 x5.2.2.2.2.2.2.2.2.2.2.2.2.2.2.2.1)) fun w21 =>
 Wr w21 ((blk w3.heap.size).add 16) ∧
 Nw (w21.setCell ((blk w3.heap.size).add 16) (.int .i64 x5.2.2.2.2.2.2.2.2.2.2.2.2.2.2.2.2.1)) fun w22 =>
 Wr w22 ((blk w3.heap.size).add 17) ∧
 Nw (w22.setCell ((blk w3.heap.size).add 17) (.int .i64 x5.2.2.2.2.2.2.2.2.2.2.2.2.2.2.2.2.2.1)) fun w23 =>
 Wr w23 ((blk w3.heap.size).add 18) ∧
 Nw (w23.setCell ((blk w3.heap.size).add 18) (.int .i64 x5.2.2.2.2.2.2.2.2.2.2.2.2.2.2.2.2.2.2.1)) fun w24 =>
 Wr w24 ((blk w3.heap.size).add 19) ∧
 Nw (w24.setCell ((blk w3.heap.size).add 19) (.int .i64 x5.2.2.2.2.2.2.2.2.2.2.2.2.2.2.2.2.2.2.2.1)) fun w25 =>
 Wr w25 (blk w4.heap.size) ∧
 Nw (w25.setCell (blk w4.heap.size) (.int .i64 x6.1)) fun w26 =>
 Wr w26 ((blk w4.heap.size).add 1) ∧
 Nw (w26.setCell ((blk w4.heap.size).add 1) (.int .i64 x6.2.1)) fun w27 =>
 ldI w27 (blk w4.heap.size) .i64 fun x7 =>
 ifB (x7 != (0 : Int))
 (ldI w27 ((blk w4.heap.size).add 0) .i64 fun x8 =>
 ldI w27 ((blk w4.heap.size).add 1) .i64 fun x9 =>
 Wr w27 (blk w1.heap.size) ∧
 Nw (w27.setCell (blk w1.heap.size) (.int .i64 x8)) fun w28 =>
 Wr w28 ((blk w1.heap.size).add 1) ∧
 Nw (w28.setCell ((blk w1.heap.size).add 1) (.int .i64 x9)) fun w29 =>
 ldI w29 ((blk w1.heap.size).add 0) .i64 fun x10 =>
 ldI w29 ((blk w1.heap.size).add 1) .i64 fun x11 =>
 R (.agg #[(.int .i64 x10), (.int .i64 x11)]) w29)
 (ldS w27 ((blk w.heap.size).add 2) fun x12 =>
 callR Try.prog 38 #[(.slice x12.a x12.l x12.c)] w27 fun v13 w30 =>
 ∃ x14 : Option Nat, v13 = (.map x14) ∧
 (0 ≤ (7 : Int) ∧ (7 : Int) < (10 : Int)) ∧
 ldI w30 (((blk w3.heap.size).add (7 * 2)).add 0) .i64 fun x15 =>
 ldI w30 (((blk w3.heap.size).add (7 * 2)).add 1) .i64 fun x16 =>
 Nw (w30.alloc (.cells #[(.int .i64 (0 : Int)), (.int .i64 (0 : Int))] 73)) fun w31 =>
 Wr w31 (blk w30.heap.size) ∧
 Nw (w31.setCell (blk w30.heap.size) (.int .i64 x15)) fun w32 =>
 Wr w32 ((blk w30.heap.size).add 1) ∧
 Nw (w32.setCell ((blk w30.heap.size).add 1) (.int .i64 x16)) fun w33 =>
 ldS w33 ((blk w.heap.size).add 2) fun x17 =>
 LoopW (S := Int × Unit) (fun s18 w34 n19 =>
 ifB (decide (s18.1 < (x17.l : Int)))
 (JoinW (S := Unit) (fun m20 =>
 (0 ≤ s18.1 ∧ s18.1 < (x17.l : Int)) ∧
 derefP x17.a fun a22 =>
 ldI w34 ((a22.add ((Int.toNat s18.1) * 4)).add 0) .u16 fun x23 =>
 ldI w34 ((a22.add ((Int.toNat s18.1) * 4)).add 1) .u32 fun x24 =>
 ldI w34 ((a22.add ((Int.toNat s18.1) * 4)).add 2) .u32 fun x25 =>
 ldS w34 ((a22.add ((Int.toNat s18.1) * 4)).add 3) fun x26 =>
 Nw (w34.alloc (.cells #[(.int .u16 (0 : Int)), (.int .u32 (0 : Int)), (.int .u32 (0 : Int)), (.slice none 0 0)] 45)) fun w35 =>
 Wr w35 (blk w34.heap.size) ∧
 Nw (w35.setCell (blk w34.heap.size) (.int .u16 x23)) fun w36 =>
 Wr w36 ((blk w34.heap.size).add 1) ∧
 Nw (w36.setCell ((blk w34.heap.size).add 1) (.int .u32 x24)) fun w37 =>
 Wr w37 ((blk w34.heap.size).add 2) ∧
 Nw (w37.setCell ((blk w34.heap.size).add 2) (.int .u32 x25)) fun w38 =>
 Wr w38 ((blk w34.heap.size).add 3) ∧
 Nw (w38.setCell ((blk w34.heap.size).add 3) (.slice x26.a x26.l x26.c)) fun w39 =>
 JoinW (S := Unit) (fun m27 =>
 ldI w39 ((blk w34.heap.size).add 2) .u32 fun x29 =>
 ifB (x29 != (0 : Int))
 (ldI w39 ((blk w34.heap.size).add 2) .u32 fun x30 =>
 lookV Try.prog 77 (.map x14) (.int .u32 x30) (BK.int .i64) w39 fun (x31 : Int) =>
 ifB (decide (x31 < s18.1))
 (Wr w39 (blk w1.heap.size) ∧
 Nw (w39.setCell (blk w1.heap.size) (.int .i64 (90 : Int))) fun w40 =>
 Wr w40 ((blk w1.heap.size).add 1) ∧
 Nw (w40.setCell ((blk w1.heap.size).add 1) (.int .i64 s18.1)) fun w41 =>
 ldI w41 ((blk w1.heap.size).add 0) .i64 fun x32 =>
 ldI w41 ((blk w1.heap.size).add 1) .i64 fun x33 =>
 R (.agg #[(.int .i64 x32), (.int .i64 x33)]) w41)
 (m27 (()) w39))
 (m27 (()) w39))
 (fun s28 w42 =>
 ldI w42 ((blk w34.heap.size).add 0) .u16 fun x34 =>
 ldI w42 ((blk w34.heap.size).add 1) .u32 fun x35 =>
 ldI w42 ((blk w34.heap.size).add 2) .u32 fun x36 =>
 ldS w42 ((blk w34.heap.size).add 3) fun x37 =>
 callR Try.prog 39 #[(.agg #[(.int .u16 x34), (.int .u32 x35), (.int .u32 x36), (.slice x37.a x37.l x37.c)])] w42 fun v38 w43 =>
 ∃ x39 : Sl, v38 = (.slice x39.a x39.l x39.c) ∧
 LoopW (S := Bool × Int × Unit) (fun s40 w44 n41 =>
 ifB (decide (s40.2.1 < (x39.l : Int)))
 (JoinW (S := Bool × Unit) (fun m42 =>
 (0 ≤ s40.2.1 ∧ s40.2.1 < (x39.l : Int)) ∧
 derefP x39.a fun a44 =>
 ldI w44 (a44.add (Int.toNat s40.2.1)) .u32 fun x45 =>
 lookOk Try.prog 77 (.map x14) (.int .u32 x45) (BK.int .i64) w44 fun (x46 : Int) (b47 : Bool) =>
 ifB (!b47)
 (Wr w44 (blk w1.heap.size) ∧
 Nw (w44.setCell (blk w1.heap.size) (.int .i64 (91 : Int))) fun w45 =>
 Wr w45 ((blk w1.heap.size).add 1) ∧
 Nw (w45.setCell ((blk w1.heap.size).add 1) (.int .i64 s18.1)) fun w46 =>
 ldI w46 ((blk w1.heap.size).add 0) .i64 fun x48 =>
 ldI w46 ((blk w1.heap.size).add 1) .i64 fun x49 =>
 R (.agg #[(.int .i64 x48), (.int .i64 x49)]) w46)
 (ifB s40.1
 (m42 (true, ()) w44)
 (m42 ((decide (x46 ≥ s18.1)), ()) w44)))
 (fun s43 w47 =>
 n41 (s43.1, (IntKind.i64.wrap (s40.2.1 + (1 : Int))), ()) w47))
 (JoinW (S := Unit) (fun m50 =>
 ifB (!s40.1)
 (m20 (()) w44)
 (ldI w44 (blk w30.heap.size) .i64 fun x52 =>
 ifB (decide (s18.1 < x52))
 (m20 (()) w44)
 (ldI w44 ((blk w30.heap.size).add 1) .i64 fun x53 =>
 ifB (decide (s18.1 ≥ x53))
 (m20 (()) w44)
 (m50 (()) w44))))
 (fun s51 w48 =>
 Wr w48 (blk w1.heap.size) ∧
 Nw (w48.setCell (blk w1.heap.size) (.int .i64 (92 : Int))) fun w49 =>
 Wr w49 ((blk w1.heap.size).add 1) ∧
 Nw (w49.setCell ((blk w1.heap.size).add 1) (.int .i64 s18.1)) fun w50 =>
 ldI w50 ((blk w1.heap.size).add 0) .i64 fun x54 =>
 ldI w50 ((blk w1.heap.size).add 1) .i64 fun x55 =>
 R (.agg #[(.int .i64 x54), (.int .i64 x55)]) w50)))
 (false, (0 : Int), ()) w43))
 (fun s21 w51 =>
 n19 ((IntKind.i64.wrap (s18.1 + (1 : Int))), ()) w51))
 (Wr w34 (blk w1.heap.size) ∧
 Nw (w34.setCell (blk w1.heap.size) (.int .i64 (0 : Int))) fun w52 =>
 Wr w52 ((blk w1.heap.size).add 1) ∧
 Nw (w52.setCell ((blk w1.heap.size).add 1) (.int .i64 (0 : Int))) fun w53 =>
 ldI w53 ((blk w1.heap.size).add 0) .i64 fun x56 =>
 ldI w53 ((blk w1.heap.size).add 1) .i64 fun x57 =>
 R (.agg #[(.int .i64 x56), (.int .i64 x57)]) w53))
 ((0 : Int), ()) w33)
theorem ids_Check_calls (p0 : (Int × Int × Sl × Unit)) (R : Value → World → Prop) (w : World) (h : L_ids_Check p0 R w) : Calls Try.prog 11 #[(.agg #[(.int .u32 p0.1), (.int .u32 p0.2.1), (.slice p0.2.2.1.a p0.2.2.1.l p0.2.2.1.c)])] w (Ret R) :=
 lw_calls (fs := Try.fs) (an := a_ids_Check) (args := [(.agg #[(.int .u32 p0.1), (.int .u32 p0.2.1), (.slice p0.2.2.1.a p0.2.2.1.l p0.2.2.1.c)])]) Try.fsOK Try.mixed Try.func11 (by kernel_rfl) (by kernel_rfl)
 (Eq.mpr (by kernel_rfl : lwFn Try.prog Try.fs Try.f11 a_ids_Check [(.agg #[(.int .u32 p0.1), (.int .u32 p0.2.1), (.slice p0.2.2.1.a p0.2.2.1.l p0.2.2.1.c)])] w R = L_ids_Check p0 R w) h)

/-- intaglio.intaglioref09.Check -/
def a_intaglioref09_Check : Ann := (.seq none .nil (.seq none .nil (.seq none (.seq none .nil (.cond (.seq none .nil .nil) .nil)) (.seq none (.seq none .nil (.one (.loop ⟨[1, 2], [(4, (.b (.int .i64)))]⟩ (.seq none (.seq none .nil (.cond .nil .nil)) (.seq none (.one (.seq none .nil (.seq none .nil (.cond (.seq none .nil .nil) .nil)))) .nil))))) (.seq none .nil .nil)))))
def L_intaglioref09_Check (p0 : (Int × Int × Sl × Unit)) (R : Value → World → Prop) (w : World) : Prop :=
 Nw (w.alloc (.cells #[(.int .u32 p0.1), (.int .u32 p0.2.1), (.slice p0.2.2.1.a p0.2.2.1.l p0.2.2.1.c)] 25)) fun w1 =>
 Nw (w1.alloc (.cells #[(.int .i64 (0 : Int)), (.int .i64 (0 : Int))] 29)) fun w2 =>
 ldI w2 ((blk w.heap.size).add 0) .u32 fun x1 =>
 ldI w2 ((blk w.heap.size).add 1) .u32 fun x2 =>
 ldS w2 ((blk w.heap.size).add 2) fun x3 =>
 callR Try.prog 40 #[(.agg #[(.int .u32 x1), (.int .u32 x2), (.slice x3.a x3.l x3.c)])] w2 fun v4 w3 =>
 ∃ x5 : (Int × Int × Unit), v4 = (.agg #[(.int .i64 x5.1), (.int .i64 x5.2.1)]) ∧
 Nw (w3.alloc (.cells #[(.int .i64 (0 : Int)), (.int .i64 (0 : Int))] 29)) fun w4 =>
 Wr w4 (blk w3.heap.size) ∧
 Nw (w4.setCell (blk w3.heap.size) (.int .i64 x5.1)) fun w5 =>
 Wr w5 ((blk w3.heap.size).add 1) ∧
 Nw (w5.setCell ((blk w3.heap.size).add 1) (.int .i64 x5.2.1)) fun w6 =>
 ldI w6 (blk w3.heap.size) .i64 fun x6 =>
 ifB (x6 != (0 : Int))
 (ldI w6 ((blk w3.heap.size).add 0) .i64 fun x7 =>
 ldI w6 ((blk w3.heap.size).add 1) .i64 fun x8 =>
 Wr w6 (blk w1.heap.size) ∧
 Nw (w6.setCell (blk w1.heap.size) (.int .i64 x7)) fun w7 =>
 Wr w7 ((blk w1.heap.size).add 1) ∧
 Nw (w7.setCell ((blk w1.heap.size).add 1) (.int .i64 x8)) fun w8 =>
 ldI w8 ((blk w1.heap.size).add 0) .i64 fun x9 =>
 ldI w8 ((blk w1.heap.size).add 1) .i64 fun x10 =>
 R (.agg #[(.int .i64 x9), (.int .i64 x10)]) w8)
 (LoopW (S := Int × Unit) (fun s11 w9 n12 =>
 ldS w9 ((blk w.heap.size).add 2) fun x13 =>
 ifB (decide (s11.1 < (x13.l : Int)))
 (ldS w9 ((blk w.heap.size).add 2) fun x14 =>
 callR Try.prog 41 #[(.slice x14.a x14.l x14.c), (.int .i64 s11.1)] w9 fun v15 w10 =>
 ∃ x16 : Int, v15 = (.int .i64 x16) ∧
 ifB (x16 != (0 : Int))
 (Wr w10 (blk w1.heap.size) ∧
 Nw (w10.setCell (blk w1.heap.size) (.int .i64 x16)) fun w11 =>
 Wr w11 ((blk w1.heap.size).add 1) ∧
 Nw (w11.setCell ((blk w1.heap.size).add 1) (.int .i64 s11.1)) fun w12 =>
 ldI w12 ((blk w1.heap.size).add 0) .i64 fun x17 =>
 ldI w12 ((blk w1.heap.size).add 1) .i64 fun x18 =>
 R (.agg #[(.int .i64 x17), (.int .i64 x18)]) w12)
 (n12 ((IntKind.i64.wrap (s11.1 + (1 : Int))), ()) w10))
 (Wr w9 (blk w1.heap.size) ∧
 Nw (w9.setCell (blk w1.heap.size) (.int .i64 (0 : Int))) fun w13 =>
 Wr w13 ((blk w1.heap.size).add 1) ∧
 Nw (w13.setCell ((blk w1.heap.size).add 1) (.int .i64 (0 : Int))) fun w14 =>
 ldI w14 ((blk w1.heap.size).add 0) .i64 fun x19 =>
 ldI w14 ((blk w1.heap.size).add 1) .i64 fun x20 =>
 R (.agg #[(.int .i64 x19), (.int .i64 x20)]) w14))
 ((0 : Int), ()) w6)
theorem intaglioref09_Check_calls (p0 : (Int × Int × Sl × Unit)) (R : Value → World → Prop) (w : World) (h : L_intaglioref09_Check p0 R w) : Calls Try.prog 12 #[(.agg #[(.int .u32 p0.1), (.int .u32 p0.2.1), (.slice p0.2.2.1.a p0.2.2.1.l p0.2.2.1.c)])] w (Ret R) :=
 lw_calls (fs := Try.fs) (an := a_intaglioref09_Check) (args := [(.agg #[(.int .u32 p0.1), (.int .u32 p0.2.1), (.slice p0.2.2.1.a p0.2.2.1.l p0.2.2.1.c)])]) Try.fsOK Try.mixed Try.func12 (by kernel_rfl) (by kernel_rfl)
 (Eq.mpr (by kernel_rfl : lwFn Try.prog Try.fs Try.f12 a_intaglioref09_Check [(.agg #[(.int .u32 p0.1), (.int .u32 p0.2.1), (.slice p0.2.2.1.a p0.2.2.1.l p0.2.2.1.c)])] w R = L_intaglioref09_Check p0 R w) h)

/-- intaglio.intagliokit.Module -/
def a_intagliokit_Module : Ann := (.seq none .nil (.seq (some ⟨[2, 3], []⟩) (.seq none .nil (.cond (.seq none .nil .nil) .nil)) (.seq none (.seq none .nil (.one (.loop ⟨[2, 3], [(5, (.b (.int .i64)))]⟩ (.seq none (.seq none .nil (.cond .nil .nil)) (.seq none (.one (.seq none .nil (.cond (.seq none .nil .nil) .nil))) .nil))))) (.seq none .nil .nil))))
def L_intagliokit_Module (p0 : (Int × Int × Sl × Unit)) (p1 : (Int × Int × Sl × Unit)) (R : Value → World → Prop) (w : World) : Prop :=
 Nw (w.alloc (.cells #[(.int .u32 p0.1), (.int .u32 p0.2.1), (.slice p0.2.2.1.a p0.2.2.1.l p0.2.2.1.c)] 25)) fun w1 =>
 Nw (w1.alloc (.cells #[(.int .u32 p1.1), (.int .u32 p1.2.1), (.slice p1.2.2.1.a p1.2.2.1.l p1.2.2.1.c)] 25)) fun w2 =>
 JoinW (S := Unit) (fun m1 =>
 ldI w2 (blk w.heap.size) .u32 fun x3 =>
 ldI w2 (blk w1.heap.size) .u32 fun x4 =>
 ifB (x3 != x4)
 (R (.bool false) w2)
 (ldI w2 ((blk w.heap.size).add 1) .u32 fun x5 =>
 ldI w2 ((blk w1.heap.size).add 1) .u32 fun x6 =>
 ifB (x5 != x6)
 (R (.bool false) w2)
 (ldS w2 ((blk w.heap.size).add 2) fun x7 =>
 ldS w2 ((blk w1.heap.size).add 2) fun x8 =>
 ifB ((x7.l : Int) != (x8.l : Int))
 (R (.bool false) w2)
 (m1 (()) w2))))
 (fun s2 w3 =>
 LoopW (S := Int × Unit) (fun s9 w4 n10 =>
 ldS w4 ((blk w.heap.size).add 2) fun x11 =>
 ifB (decide (s9.1 < (x11.l : Int)))
 (ldS w4.drew ((blk w.heap.size).add 2) fun x12 =>
 (0 ≤ s9.1 ∧ s9.1 < (x12.l : Int)) ∧
 derefP x12.a fun a13 =>
 ldI w4.drew ((a13.add ((Int.toNat s9.1) * 4)).add 0) .u16 fun x14 =>
 ldI w4.drew ((a13.add ((Int.toNat s9.1) * 4)).add 1) .u32 fun x15 =>
 ldI w4.drew ((a13.add ((Int.toNat s9.1) * 4)).add 2) .u32 fun x16 =>
 ldS w4.drew ((a13.add ((Int.toNat s9.1) * 4)).add 3) fun x17 =>
 ldS w4.drew ((blk w1.heap.size).add 2) fun x18 =>
 (0 ≤ s9.1 ∧ s9.1 < (x18.l : Int)) ∧
 derefP x18.a fun a19 =>
 ldI w4.drew ((a19.add ((Int.toNat s9.1) * 4)).add 0) .u16 fun x20 =>
 ldI w4.drew ((a19.add ((Int.toNat s9.1) * 4)).add 1) .u32 fun x21 =>
 ldI w4.drew ((a19.add ((Int.toNat s9.1) * 4)).add 2) .u32 fun x22 =>
 ldS w4.drew ((a19.add ((Int.toNat s9.1) * 4)).add 3) fun x23 =>
 callR Try.prog 42 #[(.agg #[(.int .u16 x14), (.int .u32 x15), (.int .u32 x16), (.slice x17.a x17.l x17.c)]), (.agg #[(.int .u16 x20), (.int .u32 x21), (.int .u32 x22), (.slice x23.a x23.l x23.c)])] w4.drew fun v24 w5 =>
 ∃ x25 : Bool, v24 = (.bool x25) ∧
 ifB (!x25)
 (R (.bool false) w5)
 (n10 ((IntKind.i64.wrap (s9.1 + (1 : Int))), ()) w5))
 (R (.bool true) w4))
 ((0 : Int), ()) w3)
theorem intagliokit_Module_calls (p0 : (Int × Int × Sl × Unit)) (p1 : (Int × Int × Sl × Unit)) (R : Value → World → Prop) (w : World) (h : L_intagliokit_Module p0 p1 R w) : Calls Try.prog 13 #[(.agg #[(.int .u32 p0.1), (.int .u32 p0.2.1), (.slice p0.2.2.1.a p0.2.2.1.l p0.2.2.1.c)]), (.agg #[(.int .u32 p1.1), (.int .u32 p1.2.1), (.slice p1.2.2.1.a p1.2.2.1.l p1.2.2.1.c)])] w (Ret R) :=
 lw_calls (fs := Try.fs) (an := a_intagliokit_Module) (args := [(.agg #[(.int .u32 p0.1), (.int .u32 p0.2.1), (.slice p0.2.2.1.a p0.2.2.1.l p0.2.2.1.c)]), (.agg #[(.int .u32 p1.1), (.int .u32 p1.2.1), (.slice p1.2.2.1.a p1.2.2.1.l p1.2.2.1.c)])]) Try.fsOK Try.mixed Try.func13 (by kernel_rfl) (by kernel_rfl)
 (Eq.mpr (by kernel_rfl : lwFn Try.prog Try.fs Try.f13 a_intagliokit_Module [(.agg #[(.int .u32 p0.1), (.int .u32 p0.2.1), (.slice p0.2.2.1.a p0.2.2.1.l p0.2.2.1.c)]), (.agg #[(.int .u32 p1.1), (.int .u32 p1.2.1), (.slice p1.2.2.1.a p1.2.2.1.l p1.2.2.1.c)])] w R = L_intagliokit_Module p0 p1 R w) h)

/-- intaglio.intaglioref09.Renumber -/
def a_intaglioref09_Renumber : Ann := (.seq none .nil (.seq none .nil (.seq none (.seq none .nil (.cond (.seq none .nil .nil) .nil)) (.seq none .nil (.seq none .nil (.seq none (.seq none .nil (.one (.loop ⟨[1, 2, 3, 4, 5], [(6, (.b (.int .u32))), (7, (.b (.int .i64)))]⟩ (.seq none (.seq none .nil (.cond .nil .nil)) (.seq (some ⟨[1, 2, 3, 4, 5, 7], [(6, (.b (.int .u32)))]⟩) (.one (.seq none .nil (.cond (.seq none .nil .nil) .nil))) .nil))))) (.seq none .nil (.seq none .nil (.seq none .nil .nil)))))))))
def L_intaglioref09_Renumber (p0 : (Int × Int × Sl × Unit)) (R : Value → World → Prop) (w : World) : Prop :=
 Nw (w.alloc (.cells #[(.int .u32 p0.1), (.int .u32 p0.2.1), (.slice p0.2.2.1.a p0.2.2.1.l p0.2.2.1.c)] 25)) fun w1 =>
 Nw (w1.alloc (.cells #[(.int .u32 (0 : Int)), (.int .u32 (0 : Int)), (.slice none 0 0)] 25)) fun w2 =>
 Nw (w2.alloc (.cells #[(.int .i64 (0 : Int)), (.int .i64 (0 : Int))] 29)) fun w3 =>
 ldI w3 ((blk w.heap.size).add 0) .u32 fun x1 =>
 ldI w3 ((blk w.heap.size).add 1) .u32 fun x2 =>
 ldS w3 ((blk w.heap.size).add 2) fun x3 =>
 callR Try.prog 12 #[(.agg #[(.int .u32 x1), (.int .u32 x2), (.slice x3.a x3.l x3.c)])] w3 fun v4 w4 =>
 ∃ x5 : (Int × Int × Unit), v4 = (.agg #[(.int .i64 x5.1), (.int .i64 x5.2.1)]) ∧
 Nw (w4.alloc (.cells #[(.int .i64 (0 : Int)), (.int .i64 (0 : Int))] 29)) fun w5 =>
 Wr w5 (blk w4.heap.size) ∧
 Nw (w5.setCell (blk w4.heap.size) (.int .i64 x5.1)) fun w6 =>
 Wr w6 ((blk w4.heap.size).add 1) ∧
 Nw (w6.setCell ((blk w4.heap.size).add 1) (.int .i64 x5.2.1)) fun w7 =>
 ldI w7 (blk w4.heap.size) .i64 fun x6 =>
 ifB (x6 != (0 : Int))
 (ldI w7.drew ((blk w4.heap.size).add 0) .i64 fun x7 =>
 ldI w7.drew ((blk w4.heap.size).add 1) .i64 fun x8 =>
 Wr w7.drew (blk w1.heap.size) ∧
 Nw (w7.drew.setCell (blk w1.heap.size) (.int .u32 (0 : Int))) fun w8 =>
 Wr w8 ((blk w1.heap.size).add 1) ∧
 Nw (w8.setCell ((blk w1.heap.size).add 1) (.int .u32 (0 : Int))) fun w9 =>
 Wr w9 ((blk w1.heap.size).add 2) ∧
 Nw (w9.setCell ((blk w1.heap.size).add 2) (.slice none 0 0)) fun w10 =>
 w10.cell? ((blk w4.heap.size).add 0) = some (.int .i64 x7) ∧
 w10.cell? ((blk w4.heap.size).add 1) = some (.int .i64 x8) ∧
 Wr w10 (blk w2.heap.size) ∧
 Nw (w10.setCell (blk w2.heap.size) (.int .i64 x7)) fun w11 =>
 Wr w11 ((blk w2.heap.size).add 1) ∧
 Nw (w11.setCell ((blk w2.heap.size).add 1) (.int .i64 x8)) fun w12 =>
 ldI w12 ((blk w1.heap.size).add 0) .u32 fun x9 =>
 ldI w12 ((blk w1.heap.size).add 1) .u32 fun x10 =>
 ldS w12 ((blk w1.heap.size).add 2) fun x11 =>
 ldI w12 ((blk w2.heap.size).add 0) .i64 fun x12 =>
 ldI w12 ((blk w2.heap.size).add 1) .i64 fun x13 =>
 R (.tuple #[(.agg #[(.int .u32 x9), (.int .u32 x10), (.slice x11.a x11.l x11.c)]), (.agg #[(.int .i64 x12), (.int .i64 x13)])]) w12)
 (ldI w7 ((blk w.heap.size).add 1) .u32 fun x14 =>
 (0 ≤ (IntKind.i64.wrap x14) ∧ (IntKind.i64.wrap x14) ≤ (IntKind.i64.wrap x14) ∧ (4 : Int) * (IntKind.i64.wrap x14) ≤ 281474976710656 ∧ (IntKind.i64.wrap x14) ≤ 9223372036854775807) ∧
 Nw (w7.alloc (.cells (madeCells #[(.int .u32 (0 : Int))] ((Int.toNat (IntKind.i64.wrap x14)) * 1)) 22)) fun w13 =>
 LoopW (S := Int × Int × Unit) (fun s15 w14 n16 =>
 ldS w14 ((blk w.heap.size).add 2) fun x17 =>
 ifB (decide (s15.2.1 < (x17.l : Int)))
 (JoinW (S := Int × Unit) (fun m18 =>
 ldS w14 ((blk w.heap.size).add 2) fun x20 =>
 (0 ≤ s15.2.1 ∧ s15.2.1 < (x20.l : Int)) ∧
 derefP x20.a fun a21 =>
 ldI w14 ((a21.add ((Int.toNat s15.2.1) * 4)).add 2) .u32 fun x22 =>
 ifB (x22 != (0 : Int))
 (ldS w14 ((blk w.heap.size).add 2) fun x23 =>
 (0 ≤ s15.2.1 ∧ s15.2.1 < (x23.l : Int)) ∧
 derefP x23.a fun a24 =>
 ldI w14 ((a24.add ((Int.toNat s15.2.1) * 4)).add 2) .u32 fun x25 =>
 (0 ≤ x25 ∧ x25 < ((Int.toNat (IntKind.i64.wrap x14)) : Int)) ∧
 Wr w14 ((blk w7.heap.size).add (Int.toNat x25)) ∧
 Nw (w14.setCell ((blk w7.heap.size).add (Int.toNat x25)) (.int .u32 (IntKind.u32.wrap (s15.1 + (1 : Int))))) fun w15 =>
 m18 ((IntKind.u32.wrap (s15.1 + (1 : Int))), ()) w15)
 (m18 (s15.1, ()) w14))
 (fun s19 w16 =>
 n16 (s19.1, (IntKind.i64.wrap (s15.2.1 + (1 : Int))), ()) w16))
 (ldI w14 ((blk w.heap.size).add 0) .u32 fun x26 =>
 ldI w14 ((blk w.heap.size).add 1) .u32 fun x27 =>
 ldS w14 ((blk w.heap.size).add 2) fun x28 =>
 callR Try.prog 43 #[(.agg #[(.int .u32 x26), (.int .u32 x27), (.slice x28.a x28.l x28.c)]), (.slice (some (blk w7.heap.size)) (Int.toNat (IntKind.i64.wrap x14)) (Int.toNat (IntKind.i64.wrap x14)))] w14 fun v29 w17 =>
 ∃ x30 : (Int × Int × Sl × Unit), v29 = (.agg #[(.int .u32 x30.1), (.int .u32 x30.2.1), (.slice x30.2.2.1.a x30.2.2.1.l x30.2.2.1.c)]) ∧
 Nw (w17.alloc (.cells #[(.int .u32 (0 : Int)), (.int .u32 (0 : Int)), (.slice none 0 0)] 25)) fun w18 =>
 Wr w18 (blk w17.heap.size) ∧
 Nw (w18.setCell (blk w17.heap.size) (.int .u32 x30.1)) fun w19 =>
 Wr w19 ((blk w17.heap.size).add 1) ∧
 Nw (w19.setCell ((blk w17.heap.size).add 1) (.int .u32 x30.2.1)) fun w20 =>
 Wr w20 ((blk w17.heap.size).add 2) ∧
 Nw (w20.setCell ((blk w17.heap.size).add 2) (.slice x30.2.2.1.a x30.2.2.1.l x30.2.2.1.c)) fun w21 =>
 Wr w21 ((blk w17.heap.size).add 1) ∧
 Nw (w21.setCell ((blk w17.heap.size).add 1) (.int .u32 (IntKind.u32.wrap (s15.1 + (1 : Int))))) fun w22 =>
 ldI w22.drew ((blk w17.heap.size).add 0) .u32 fun x31 =>
 ldI w22.drew ((blk w17.heap.size).add 1) .u32 fun x32 =>
 ldS w22.drew ((blk w17.heap.size).add 2) fun x33 =>
 ldI w22.drew ((blk w4.heap.size).add 0) .i64 fun x34 =>
 ldI w22.drew ((blk w4.heap.size).add 1) .i64 fun x35 =>
 Wr w22.drew (blk w1.heap.size) ∧
 Nw (w22.drew.setCell (blk w1.heap.size) (.int .u32 x31)) fun w23 =>
 Wr w23 ((blk w1.heap.size).add 1) ∧
 Nw (w23.setCell ((blk w1.heap.size).add 1) (.int .u32 x32)) fun w24 =>
 Wr w24 ((blk w1.heap.size).add 2) ∧
 Nw (w24.setCell ((blk w1.heap.size).add 2) (.slice x33.a x33.l x33.c)) fun w25 =>
 w25.cell? ((blk w4.heap.size).add 0) = some (.int .i64 x34) ∧
 w25.cell? ((blk w4.heap.size).add 1) = some (.int .i64 x35) ∧
 Wr w25 (blk w2.heap.size) ∧
 Nw (w25.setCell (blk w2.heap.size) (.int .i64 x34)) fun w26 =>
 Wr w26 ((blk w2.heap.size).add 1) ∧
 Nw (w26.setCell ((blk w2.heap.size).add 1) (.int .i64 x35)) fun w27 =>
 ldI w27 ((blk w1.heap.size).add 0) .u32 fun x36 =>
 ldI w27 ((blk w1.heap.size).add 1) .u32 fun x37 =>
 ldS w27 ((blk w1.heap.size).add 2) fun x38 =>
 ldI w27 ((blk w2.heap.size).add 0) .i64 fun x39 =>
 ldI w27 ((blk w2.heap.size).add 1) .i64 fun x40 =>
 R (.tuple #[(.agg #[(.int .u32 x36), (.int .u32 x37), (.slice x38.a x38.l x38.c)]), (.agg #[(.int .i64 x39), (.int .i64 x40)])]) w27))
 ((0 : Int), (0 : Int), ()) w13)
theorem intaglioref09_Renumber_calls (p0 : (Int × Int × Sl × Unit)) (R : Value → World → Prop) (w : World) (h : L_intaglioref09_Renumber p0 R w) : Calls Try.prog 14 #[(.agg #[(.int .u32 p0.1), (.int .u32 p0.2.1), (.slice p0.2.2.1.a p0.2.2.1.l p0.2.2.1.c)])] w (Ret R) :=
 lw_calls (fs := Try.fs) (an := a_intaglioref09_Renumber) (args := [(.agg #[(.int .u32 p0.1), (.int .u32 p0.2.1), (.slice p0.2.2.1.a p0.2.2.1.l p0.2.2.1.c)])]) Try.fsOK Try.mixed Try.func14 (by kernel_rfl) (by kernel_rfl)
 (Eq.mpr (by kernel_rfl : lwFn Try.prog Try.fs Try.f14 a_intaglioref09_Renumber [(.agg #[(.int .u32 p0.1), (.int .u32 p0.2.1), (.slice p0.2.2.1.a p0.2.2.1.l p0.2.2.1.c)])] w R = L_intaglioref09_Renumber p0 R w) h)

/-- intaglio.ids.Renumber -/
def a_ids_Renumber : Ann := (.seq none .nil (.seq none (.seq none .nil (.seq none .nil (.cond (.seq none .nil .nil) .nil))) (.seq none .nil (.seq none (.seq none .nil (.one (.loop ⟨[1, 2, 3, 5, 18, 19], [(20, (.b (.int .i64)))]⟩ (.seq none .nil (.seq none (.cond .nil .nil) (.seq (some ⟨[1, 2, 3, 5, 18, 19, 20], []⟩) (.one (.seq none .nil (.seq none .nil (.cond .nil .nil)))) .nil)))))) (.seq none .nil (.seq none .nil (.seq none .nil .nil)))))))
def L_ids_Renumber (p0 : (Int × Int × Sl × Unit)) (R : Value → World → Prop) (w : World) : Prop :=
 Nw (w.alloc (.cells #[(.int .u32 p0.1), (.int .u32 p0.2.1), (.slice p0.2.2.1.a p0.2.2.1.l p0.2.2.1.c)] 25)) fun w1 =>
 Nw (w1.alloc (.cells #[(.int .u32 (0 : Int)), (.int .u32 (0 : Int)), (.slice none 0 0)] 25)) fun w2 =>
 Nw (w2.alloc (.cells #[(.int .i64 (0 : Int)), (.int .i64 (0 : Int))] 29)) fun w3 =>
 ldI w3 ((blk w.heap.size).add 0) .u32 fun x1 =>
 ldI w3 ((blk w.heap.size).add 1) .u32 fun x2 =>
 ldS w3 ((blk w.heap.size).add 2) fun x3 =>
 callR Try.prog 11 #[(.agg #[(.int .u32 x1), (.int .u32 x2), (.slice x3.a x3.l x3.c)])] w3 fun v4 w4 =>
 ∃ x5 : (Int × Int × Unit), v4 = (.agg #[(.int .i64 x5.1), (.int .i64 x5.2.1)]) ∧
 Nw (w4.alloc (.cells #[(.int .i64 (0 : Int)), (.int .i64 (0 : Int))] 29)) fun w5 =>
 Wr w5 (blk w4.heap.size) ∧
 Nw (w5.setCell (blk w4.heap.size) (.int .i64 x5.1)) fun w6 =>
 Wr w6 ((blk w4.heap.size).add 1) ∧
 Nw (w6.setCell ((blk w4.heap.size).add 1) (.int .i64 x5.2.1)) fun w7 =>
 ldI w7 (blk w4.heap.size) .i64 fun x6 =>
 ifB (x6 != (0 : Int))
 (ldI w7.drew ((blk w4.heap.size).add 0) .i64 fun x7 =>
 ldI w7.drew ((blk w4.heap.size).add 1) .i64 fun x8 =>
 Wr w7.drew (blk w1.heap.size) ∧
 Nw (w7.drew.setCell (blk w1.heap.size) (.int .u32 (0 : Int))) fun w8 =>
 Wr w8 ((blk w1.heap.size).add 1) ∧
 Nw (w8.setCell ((blk w1.heap.size).add 1) (.int .u32 (0 : Int))) fun w9 =>
 Wr w9 ((blk w1.heap.size).add 2) ∧
 Nw (w9.setCell ((blk w1.heap.size).add 2) (.slice none 0 0)) fun w10 =>
 w10.cell? ((blk w4.heap.size).add 0) = some (.int .i64 x7) ∧
 w10.cell? ((blk w4.heap.size).add 1) = some (.int .i64 x8) ∧
 Wr w10 (blk w2.heap.size) ∧
 Nw (w10.setCell (blk w2.heap.size) (.int .i64 x7)) fun w11 =>
 Wr w11 ((blk w2.heap.size).add 1) ∧
 Nw (w11.setCell ((blk w2.heap.size).add 1) (.int .i64 x8)) fun w12 =>
 ldI w12 ((blk w1.heap.size).add 0) .u32 fun x9 =>
 ldI w12 ((blk w1.heap.size).add 1) .u32 fun x10 =>
 ldS w12 ((blk w1.heap.size).add 2) fun x11 =>
 ldI w12 ((blk w2.heap.size).add 0) .i64 fun x12 =>
 ldI w12 ((blk w2.heap.size).add 1) .i64 fun x13 =>
 R (.tuple #[(.agg #[(.int .u32 x9), (.int .u32 x10), (.slice x11.a x11.l x11.c)]), (.agg #[(.int .i64 x12), (.int .i64 x13)])]) w12)
 (Nw (w7.alloc (.map #[] 0)) fun w13 =>
 updW Try.prog 83 (.map (some w7.heap.size)) (.int .u32 (0 : Int)) (.int .u32 (0 : Int)) w13 fun w14 =>
 Nw (w14.alloc (.cells #[(.map none)] 83)) fun w15 =>
 Wr w15 (blk w14.heap.size) ∧
 Nw (w15.setCell (blk w14.heap.size) (.map (some w7.heap.size))) fun w16 =>
 ldS w16 ((blk w.heap.size).add 2) fun x14 =>
 LoopW (S := Int × Unit) (fun s15 w17 n16 =>
 ifB (decide (s15.1 < (x14.l : Int)))
 (JoinW (S := Unit) (fun m17 =>
 (0 ≤ s15.1 ∧ s15.1 < (x14.l : Int)) ∧
 derefP x14.a fun a19 =>
 ldI w17 ((a19.add ((Int.toNat s15.1) * 4)).add 0) .u16 fun x20 =>
 ldI w17 ((a19.add ((Int.toNat s15.1) * 4)).add 1) .u32 fun x21 =>
 ldI w17 ((a19.add ((Int.toNat s15.1) * 4)).add 2) .u32 fun x22 =>
 ldS w17 ((a19.add ((Int.toNat s15.1) * 4)).add 3) fun x23 =>
 Nw (w17.alloc (.cells #[(.int .u16 (0 : Int)), (.int .u32 (0 : Int)), (.int .u32 (0 : Int)), (.slice none 0 0)] 45)) fun w18 =>
 Wr w18 (blk w17.heap.size) ∧
 Nw (w18.setCell (blk w17.heap.size) (.int .u16 x20)) fun w19 =>
 Wr w19 ((blk w17.heap.size).add 1) ∧
 Nw (w19.setCell ((blk w17.heap.size).add 1) (.int .u32 x21)) fun w20 =>
 Wr w20 ((blk w17.heap.size).add 2) ∧
 Nw (w20.setCell ((blk w17.heap.size).add 2) (.int .u32 x22)) fun w21 =>
 Wr w21 ((blk w17.heap.size).add 3) ∧
 Nw (w21.setCell ((blk w17.heap.size).add 3) (.slice x23.a x23.l x23.c)) fun w22 =>
 ldI w22 ((blk w17.heap.size).add 2) .u32 fun x24 =>
 ifB (x24 != (0 : Int))
 (ldM w22 (blk w14.heap.size) fun x25 =>
 ldI w22 ((blk w17.heap.size).add 2) .u32 fun x26 =>
 ldM w22 (blk w14.heap.size) fun x27 =>
 lenW Try.prog 83 (.map x27) w22 fun x28 =>
 updW Try.prog 83 (.map x25) (.int .u32 x26) (.int .u32 (IntKind.u32.wrap x28)) w22 fun w23 =>
 m17 (()) w23)
 (m17 (()) w22))
 (fun s18 w24 =>
 n16 ((IntKind.i64.wrap (s15.1 + (1 : Int))), ()) w24))
 (ldI w17 ((blk w.heap.size).add 0) .u32 fun x29 =>
 ldI w17 ((blk w.heap.size).add 1) .u32 fun x30 =>
 ldS w17 ((blk w.heap.size).add 2) fun x31 =>
 callR Try.prog 44 #[(.agg #[(.int .u32 x29), (.int .u32 x30), (.slice x31.a x31.l x31.c)]), (.func (.func 45) #[] #[(.pointer (some (blk w14.heap.size)))])] w17 fun v32 w25 =>
 ∃ x33 : (Int × Int × Sl × Unit), v32 = (.agg #[(.int .u32 x33.1), (.int .u32 x33.2.1), (.slice x33.2.2.1.a x33.2.2.1.l x33.2.2.1.c)]) ∧
 Wr w25 (blk w.heap.size) ∧
 Nw (w25.setCell (blk w.heap.size) (.int .u32 x33.1)) fun w26 =>
 Wr w26 ((blk w.heap.size).add 1) ∧
 Nw (w26.setCell ((blk w.heap.size).add 1) (.int .u32 x33.2.1)) fun w27 =>
 Wr w27 ((blk w.heap.size).add 2) ∧
 Nw (w27.setCell ((blk w.heap.size).add 2) (.slice x33.2.2.1.a x33.2.2.1.l x33.2.2.1.c)) fun w28 =>
 ldM w28 (blk w14.heap.size) fun x34 =>
 lenW Try.prog 83 (.map x34) w28 fun x35 =>
 Wr w28 ((blk w.heap.size).add 1) ∧
 Nw (w28.setCell ((blk w.heap.size).add 1) (.int .u32 (IntKind.u32.wrap x35))) fun w29 =>
 ldI w29 ((blk w.heap.size).add 0) .u32 fun x36 =>
 ldI w29 ((blk w.heap.size).add 1) .u32 fun x37 =>
 ldS w29 ((blk w.heap.size).add 2) fun x38 =>
 Wr w29 (blk w1.heap.size) ∧
 Nw (w29.setCell (blk w1.heap.size) (.int .u32 x36)) fun w30 =>
 Wr w30 ((blk w1.heap.size).add 1) ∧
 Nw (w30.setCell ((blk w1.heap.size).add 1) (.int .u32 x37)) fun w31 =>
 Wr w31 ((blk w1.heap.size).add 2) ∧
 Nw (w31.setCell ((blk w1.heap.size).add 2) (.slice x38.a x38.l x38.c)) fun w32 =>
 Wr w32 (blk w2.heap.size) ∧
 Nw (w32.setCell (blk w2.heap.size) (.int .i64 (0 : Int))) fun w33 =>
 Wr w33 ((blk w2.heap.size).add 1) ∧
 Nw (w33.setCell ((blk w2.heap.size).add 1) (.int .i64 (0 : Int))) fun w34 =>
 ldI w34 ((blk w1.heap.size).add 0) .u32 fun x39 =>
 ldI w34 ((blk w1.heap.size).add 1) .u32 fun x40 =>
 ldS w34 ((blk w1.heap.size).add 2) fun x41 =>
 ldI w34 ((blk w2.heap.size).add 0) .i64 fun x42 =>
 ldI w34 ((blk w2.heap.size).add 1) .i64 fun x43 =>
 R (.tuple #[(.agg #[(.int .u32 x39), (.int .u32 x40), (.slice x41.a x41.l x41.c)]), (.agg #[(.int .i64 x42), (.int .i64 x43)])]) w34))
 ((0 : Int), ()) w16)
theorem ids_Renumber_calls (p0 : (Int × Int × Sl × Unit)) (R : Value → World → Prop) (w : World) (h : L_ids_Renumber p0 R w) : Calls Try.prog 15 #[(.agg #[(.int .u32 p0.1), (.int .u32 p0.2.1), (.slice p0.2.2.1.a p0.2.2.1.l p0.2.2.1.c)])] w (Ret R) :=
 lw_calls (fs := Try.fs) (an := a_ids_Renumber) (args := [(.agg #[(.int .u32 p0.1), (.int .u32 p0.2.1), (.slice p0.2.2.1.a p0.2.2.1.l p0.2.2.1.c)])]) Try.fsOK Try.mixed Try.func15 (by kernel_rfl) (by kernel_rfl)
 (Eq.mpr (by kernel_rfl : lwFn Try.prog Try.fs Try.f15 a_ids_Renumber [(.agg #[(.int .u32 p0.1), (.int .u32 p0.2.1), (.slice p0.2.2.1.a p0.2.2.1.l p0.2.2.1.c)])] w R = L_ids_Renumber p0 R w) h)

/-- intaglio.intagliokit.Spoil -/
def a_intagliokit_Spoil : Ann := (.seq none .nil (.seq none .nil (.one (.loop ⟨[1], [(2, (.b (.int .i64)))]⟩ (.seq none (.seq none .nil (.cond .nil .nil)) (.seq none (.one (.seq none (.seq none .nil (.one (.loop ⟨[1, 2], [(3, (.b (.int .i64)))]⟩ (.seq none (.seq none .nil (.cond .nil .nil)) (.seq none (.one .nil) .nil))))) .nil)) .nil))))))
def L_intagliokit_Spoil (p0 : (Int × Int × Sl × Unit)) (R : Value → World → Prop) (w : World) : Prop :=
 Nw (w.alloc (.cells #[(.int .u32 p0.1), (.int .u32 p0.2.1), (.slice p0.2.2.1.a p0.2.2.1.l p0.2.2.1.c)] 25)) fun w1 =>
 LoopW (S := Int × Unit) (fun s1 w2 n2 =>
 ldS w2 ((blk w.heap.size).add 2) fun x3 =>
 ifB (decide (s1.1 < (x3.l : Int)))
 (LoopW (S := Int × Unit) (fun s4 w3 n5 =>
 ldS w3 ((blk w.heap.size).add 2) fun x6 =>
 (0 ≤ s1.1 ∧ s1.1 < (x6.l : Int)) ∧
 derefP x6.a fun a7 =>
 ldS w3 ((a7.add ((Int.toNat s1.1) * 4)).add 3) fun x8 =>
 ifB (decide (s4.1 < (x8.l : Int)))
 (ldS w3 ((blk w.heap.size).add 2) fun x9 =>
 (0 ≤ s1.1 ∧ s1.1 < (x9.l : Int)) ∧
 derefP x9.a fun a10 =>
 ldS w3 ((a10.add ((Int.toNat s1.1) * 4)).add 3) fun x11 =>
 (0 ≤ s4.1 ∧ s4.1 < (x11.l : Int)) ∧
 derefP x11.a fun a12 =>
 Wr w3 (a12.add ((Int.toNat s4.1) * 3)) ∧
 Nw (w3.setCell (a12.add ((Int.toNat s4.1) * 3)) (.int .u8 (77 : Int))) fun w4 =>
 Wr w4 ((a12.add ((Int.toNat s4.1) * 3)).add 1) ∧
 Nw (w4.setCell ((a12.add ((Int.toNat s4.1) * 3)).add 1) (.int .u32 (777 : Int))) fun w5 =>
 Wr w5 ((a12.add ((Int.toNat s4.1) * 3)).add 2) ∧
 Nw (w5.setCell ((a12.add ((Int.toNat s4.1) * 3)).add 2) (.string (ByteArray.mk #[115, 112, 111, 105, 108, 116]))) fun w6 =>
 n5 ((IntKind.i64.wrap (s4.1 + (1 : Int))), ()) w6)
 (ldS w3 ((blk w.heap.size).add 2) fun x13 =>
 (0 ≤ s1.1 ∧ s1.1 < (x13.l : Int)) ∧
 derefP x13.a fun a14 =>
 Wr w3 (a14.add ((Int.toNat s1.1) * 4)) ∧
 Nw (w3.setCell (a14.add ((Int.toNat s1.1) * 4)) (.int .u16 (777 : Int))) fun w7 =>
 Wr w7 ((a14.add ((Int.toNat s1.1) * 4)).add 1) ∧
 Nw (w7.setCell ((a14.add ((Int.toNat s1.1) * 4)).add 1) (.int .u32 (77 : Int))) fun w8 =>
 Wr w8 ((a14.add ((Int.toNat s1.1) * 4)).add 2) ∧
 Nw (w8.setCell ((a14.add ((Int.toNat s1.1) * 4)).add 2) (.int .u32 (7777 : Int))) fun w9 =>
 Wr w9 ((a14.add ((Int.toNat s1.1) * 4)).add 3) ∧
 Nw (w9.setCell ((a14.add ((Int.toNat s1.1) * 4)).add 3) (.slice none 0 0)) fun w10 =>
 n2 ((IntKind.i64.wrap (s1.1 + (1 : Int))), ()) w10))
 ((0 : Int), ()) w2)
 (R (.tuple #[]) w2))
 ((0 : Int), ()) w1
theorem intagliokit_Spoil_calls (p0 : (Int × Int × Sl × Unit)) (R : Value → World → Prop) (w : World) (h : L_intagliokit_Spoil p0 R w) : Calls Try.prog 16 #[(.agg #[(.int .u32 p0.1), (.int .u32 p0.2.1), (.slice p0.2.2.1.a p0.2.2.1.l p0.2.2.1.c)])] w (Ret R) :=
 lw_calls (fs := Try.fs) (an := a_intagliokit_Spoil) (args := [(.agg #[(.int .u32 p0.1), (.int .u32 p0.2.1), (.slice p0.2.2.1.a p0.2.2.1.l p0.2.2.1.c)])]) Try.fsOK Try.mixed Try.func16 (by kernel_rfl) (by kernel_rfl)
 (Eq.mpr (by kernel_rfl : lwFn Try.prog Try.fs Try.f16 a_intagliokit_Spoil [(.agg #[(.int .u32 p0.1), (.int .u32 p0.2.1), (.slice p0.2.2.1.a p0.2.2.1.l p0.2.2.1.c)])] w R = L_intagliokit_Spoil p0 R w) h)

/-- intaglio.intaglioref09.Fault -/
def a_intaglioref09_Fault : Ann := (.seq none .nil (.seq none (.seq none .nil (.cond (.seq none .nil .nil) .nil)) (.seq none .nil (.seq none (.seq none .nil (.one (.loop ⟨[0, 1, 5], [(6, (.b (.int .i64)))]⟩ (.seq none (.seq none .nil (.cond .nil .nil)) (.seq none (.one (.seq none .nil (.cond (.seq none .nil .nil) .nil))) .nil))))) (.seq none (.seq none .nil (.one (.loop ⟨[0, 1, 5], [(7, (.b (.int .i64)))]⟩ (.seq none (.seq none .nil (.cond .nil .nil)) (.seq (some ⟨[0, 1, 5, 7], []⟩) (.one (.seq none .nil (.cond (.seq none .nil .nil) .nil))) .nil))))) (.seq none .nil .nil))))))
def L_intaglioref09_Fault (p0 : Sl) (p1 : Int) (R : Value → World → Prop) (w : World) : Prop :=
 (0 ≤ p1 ∧ p1 < (p0.l : Int)) ∧
 derefP p0.a fun a1 =>
 ldI w ((a1.add ((Int.toNat p1) * 4)).add 2) .u32 fun x2 =>
 callR Try.prog 70 #[(.slice p0.a p0.l p0.c), (.int .u32 x2), (.int .i64 p1)] w fun v3 w1 =>
 ∃ x4 : Int, v3 = (.int .i64 x4) ∧
 ifB (decide (x4 ≥ (0 : Int)))
 (R (.int .i64 (90 : Int)) w1)
 ((0 ≤ p1 ∧ p1 < (p0.l : Int)) ∧
 derefP p0.a fun a5 =>
 ldI w1 ((a5.add ((Int.toNat p1) * 4)).add 0) .u16 fun x6 =>
 ldI w1 ((a5.add ((Int.toNat p1) * 4)).add 1) .u32 fun x7 =>
 ldI w1 ((a5.add ((Int.toNat p1) * 4)).add 2) .u32 fun x8 =>
 ldS w1 ((a5.add ((Int.toNat p1) * 4)).add 3) fun x9 =>
 callR Try.prog 71 #[(.agg #[(.int .u16 x6), (.int .u32 x7), (.int .u32 x8), (.slice x9.a x9.l x9.c)])] w1 fun v10 w2 =>
 ∃ x11 : Sl, v10 = (.slice x11.a x11.l x11.c) ∧
 LoopW (S := Int × Unit) (fun s12 w3 n13 =>
 ifB (decide (s12.1 < (x11.l : Int)))
 ((0 ≤ s12.1 ∧ s12.1 < (x11.l : Int)) ∧
 derefP x11.a fun a14 =>
 ldI w3 (a14.add (Int.toNat s12.1)) .u32 fun x15 =>
 callR Try.prog 70 #[(.slice p0.a p0.l p0.c), (.int .u32 x15), (.int .i64 (p0.l : Int))] w3 fun v16 w4 =>
 ∃ x17 : Int, v16 = (.int .i64 x17) ∧
 ifB (decide (x17 < (0 : Int)))
 (R (.int .i64 (91 : Int)) w4)
 (n13 ((IntKind.i64.wrap (s12.1 + (1 : Int))), ()) w4))
 (LoopW (S := Int × Unit) (fun s18 w5 n19 =>
 ifB (decide (s18.1 < (x11.l : Int)))
 (JoinW (S := Unit) (fun m20 =>
 (0 ≤ p1 ∧ p1 < (p0.l : Int)) ∧
 derefP p0.a fun a22 =>
 ldI w5 ((a22.add ((Int.toNat p1) * 4)).add 0) .u16 fun x23 =>
 ldI w5 ((a22.add ((Int.toNat p1) * 4)).add 1) .u32 fun x24 =>
 ldI w5 ((a22.add ((Int.toNat p1) * 4)).add 2) .u32 fun x25 =>
 ldS w5 ((a22.add ((Int.toNat p1) * 4)).add 3) fun x26 =>
 callR Try.prog 69 #[(.agg #[(.int .u16 x23), (.int .u32 x24), (.int .u32 x25), (.slice x26.a x26.l x26.c)])] w5 fun v27 w6 =>
 ∃ x28 : Int, v27 = (.int .i64 x28) ∧
 ifB (x28 == (7 : Int))
 ((0 ≤ s18.1 ∧ s18.1 < (x11.l : Int)) ∧
 derefP x11.a fun a29 =>
 ldI w6 (a29.add (Int.toNat s18.1)) .u32 fun x30 =>
 callR Try.prog 70 #[(.slice p0.a p0.l p0.c), (.int .u32 x30), (.int .i64 p1)] w6 fun v31 w7 =>
 ∃ x32 : Int, v31 = (.int .i64 x32) ∧
 ifB (decide (x32 < (0 : Int)))
 (R (.int .i64 (92 : Int)) w7)
 (m20 (()) w7))
 (m20 (()) w6))
 (fun s21 w8 =>
 n19 ((IntKind.i64.wrap (s18.1 + (1 : Int))), ()) w8))
 (R (.int .i64 (0 : Int)) w5))
 ((0 : Int), ()) w3))
 ((0 : Int), ()) w2)
theorem intaglioref09_Fault_calls (p0 : Sl) (p1 : Int) (R : Value → World → Prop) (w : World) (h : L_intaglioref09_Fault p0 p1 R w) : Calls Try.prog 41 #[(.slice p0.a p0.l p0.c), (.int .i64 p1)] w (Ret R) :=
 lw_calls (fs := Try.fs) (an := a_intaglioref09_Fault) (args := [(.slice p0.a p0.l p0.c), (.int .i64 p1)]) Try.fsOK Try.mixed Try.func41 (by kernel_rfl) (by kernel_rfl)
 (Eq.mpr (by kernel_rfl : lwFn Try.prog Try.fs Try.f41 a_intaglioref09_Fault [(.slice p0.a p0.l p0.c), (.int .i64 p1)] w R = L_intaglioref09_Fault p0 p1 R w) h)

/-- intaglio.intaglioref09.Turn -/
def a_intaglioref09_Turn : Ann := (.seq none .nil (.seq none .nil (.seq none (.seq none .nil (.one (.loop ⟨[1, 2, 4, 5], [(6, (.b (.int .i64)))]⟩ (.seq none (.seq none .nil (.cond .nil .nil)) (.seq none (.one .nil) .nil))))) (.seq none .nil .nil))))
def L_intaglioref09_Turn (p0 : (Int × Int × Sl × Unit)) (p1 : Sl) (R : Value → World → Prop) (w : World) : Prop :=
 Nw (w.alloc (.cells #[(.int .u32 p0.1), (.int .u32 p0.2.1), (.slice p0.2.2.1.a p0.2.2.1.l p0.2.2.1.c)] 25)) fun w1 =>
 Nw (w1.alloc (.cells #[(.int .u32 (0 : Int)), (.int .u32 (0 : Int)), (.slice none 0 0)] 25)) fun w2 =>
 ldI w2 (blk w.heap.size) .u32 fun x1 =>
 ldI w2 ((blk w.heap.size).add 1) .u32 fun x2 =>
 Nw (w2.alloc (.cells #[(.int .u32 (0 : Int)), (.int .u32 (0 : Int)), (.slice none 0 0)] 25)) fun w3 =>
 Wr w3 (blk w2.heap.size) ∧
 Nw (w3.setCell (blk w2.heap.size) (.int .u32 x1)) fun w4 =>
 Wr w4 ((blk w2.heap.size).add 1) ∧
 Nw (w4.setCell ((blk w2.heap.size).add 1) (.int .u32 x2)) fun w5 =>
 Wr w5 ((blk w2.heap.size).add 2) ∧
 Nw (w5.setCell ((blk w2.heap.size).add 2) (.slice none 0 0)) fun w6 =>
 LoopW (S := Int × Unit) (fun s3 w7 n4 =>
 ldS w7 ((blk w.heap.size).add 2) fun x5 =>
 ifB (decide (s3.1 < (x5.l : Int)))
 (ldS w7.drew ((blk w2.heap.size).add 2) fun x6 =>
 ldS w7.drew ((blk w.heap.size).add 2) fun x7 =>
 (0 ≤ s3.1 ∧ s3.1 < (x7.l : Int)) ∧
 derefP x7.a fun a8 =>
 ldI w7.drew ((a8.add ((Int.toNat s3.1) * 4)).add 0) .u16 fun x9 =>
 ldI w7.drew ((a8.add ((Int.toNat s3.1) * 4)).add 1) .u32 fun x10 =>
 ldI w7.drew ((a8.add ((Int.toNat s3.1) * 4)).add 2) .u32 fun x11 =>
 ldS w7.drew ((a8.add ((Int.toNat s3.1) * 4)).add 3) fun x12 =>
 callR Try.prog 72 #[(.agg #[(.int .u16 x9), (.int .u32 x10), (.int .u32 x11), (.slice x12.a x12.l x12.c)]), (.slice p1.a p1.l p1.c)] w7.drew fun v13 w8 =>
 ∃ x14 : (Int × Int × Int × Sl × Unit), v13 = (.agg #[(.int .u16 x14.1), (.int .u32 x14.2.1), (.int .u32 x14.2.2.1), (.slice x14.2.2.2.1.a x14.2.2.2.1.l x14.2.2.2.1.c)]) ∧
 w8.cell? ((blk w2.heap.size).add 2) = some (.slice x6.a x6.l x6.c) ∧
 Nw (w8.alloc (.cells #[(.int .u16 x14.1), (.int .u32 x14.2.1), (.int .u32 x14.2.2.1), (.slice x14.2.2.2.1.a x14.2.2.2.1.l x14.2.2.2.1.c)] 45)) fun w9 =>
 w9.cell? ((blk w2.heap.size).add 2) = some (.slice x6.a x6.l x6.c) ∧
 appendS Try.prog 23 (.slice x6.a x6.l x6.c) (.slice (some (blk w8.heap.size)) 1 1) w9 fun r15 w10 =>
 Wr w10 ((blk w2.heap.size).add 2) ∧
 Nw (w10.setCell ((blk w2.heap.size).add 2) (.slice r15.a r15.l r15.c)) fun w11 =>
 n4 ((IntKind.i64.wrap (s3.1 + (1 : Int))), ()) w11)
 (ldI w7 ((blk w2.heap.size).add 0) .u32 fun x16 =>
 ldI w7 ((blk w2.heap.size).add 1) .u32 fun x17 =>
 ldS w7 ((blk w2.heap.size).add 2) fun x18 =>
 Wr w7 (blk w1.heap.size) ∧
 Nw (w7.setCell (blk w1.heap.size) (.int .u32 x16)) fun w12 =>
 Wr w12 ((blk w1.heap.size).add 1) ∧
 Nw (w12.setCell ((blk w1.heap.size).add 1) (.int .u32 x17)) fun w13 =>
 Wr w13 ((blk w1.heap.size).add 2) ∧
 Nw (w13.setCell ((blk w1.heap.size).add 2) (.slice x18.a x18.l x18.c)) fun w14 =>
 ldI w14 ((blk w1.heap.size).add 0) .u32 fun x19 =>
 ldI w14 ((blk w1.heap.size).add 1) .u32 fun x20 =>
 ldS w14 ((blk w1.heap.size).add 2) fun x21 =>
 R (.agg #[(.int .u32 x19), (.int .u32 x20), (.slice x21.a x21.l x21.c)]) w14))
 ((0 : Int), ()) w6
theorem intaglioref09_Turn_calls (p0 : (Int × Int × Sl × Unit)) (p1 : Sl) (R : Value → World → Prop) (w : World) (h : L_intaglioref09_Turn p0 p1 R w) : Calls Try.prog 43 #[(.agg #[(.int .u32 p0.1), (.int .u32 p0.2.1), (.slice p0.2.2.1.a p0.2.2.1.l p0.2.2.1.c)]), (.slice p1.a p1.l p1.c)] w (Ret R) :=
 lw_calls (fs := Try.fs) (an := a_intaglioref09_Turn) (args := [(.agg #[(.int .u32 p0.1), (.int .u32 p0.2.1), (.slice p0.2.2.1.a p0.2.2.1.l p0.2.2.1.c)]), (.slice p1.a p1.l p1.c)]) Try.fsOK Try.mixed Try.func43 (by kernel_rfl) (by kernel_rfl)
 (Eq.mpr (by kernel_rfl : lwFn Try.prog Try.fs Try.f43 a_intaglioref09_Turn [(.agg #[(.int .u32 p0.1), (.int .u32 p0.2.1), (.slice p0.2.2.1.a p0.2.2.1.l p0.2.2.1.c)]), (.slice p1.a p1.l p1.c)] w R = L_intaglioref09_Turn p0 p1 R w) h)

/-- intaglio.ids.turned -/
def a_ids_turned : Ann := (.seq none .nil (.seq none .nil (.seq none (.seq none .nil (.one (.loop ⟨[1, 2, 4, 15, 16], [(5, (.b .slice)), (17, (.b (.int .i64)))]⟩ (.seq none .nil (.seq none (.cond .nil .nil) (.seq none (.one (.seq none .nil (.seq none .nil (.seq none (.seq none .nil (.one (.loop ⟨[1, 2, 4, 5, 7, 15, 16, 17, 36, 37], [(38, (.b (.int .i64)))]⟩ (.seq none .nil (.seq none (.cond .nil .nil) (.seq (some ⟨[1, 2, 4, 5, 7, 15, 16, 17, 36, 37, 38], []⟩) (.one (.seq none .nil (.seq none .nil (.cond .nil .nil)))) .nil)))))) .nil)))) .nil)))))) (.seq none .nil (.seq none .nil .nil)))))
def L_ids_turned (p0 : (Int × Int × Sl × Unit)) (p1 : Value) (R : Value → World → Prop) (w : World) : Prop :=
 Nw (w.alloc (.cells #[(.int .u32 p0.1), (.int .u32 p0.2.1), (.slice p0.2.2.1.a p0.2.2.1.l p0.2.2.1.c)] 25)) fun w1 =>
 Nw (w1.alloc (.cells #[(.int .u32 (0 : Int)), (.int .u32 (0 : Int)), (.slice none 0 0)] 25)) fun w2 =>
 ldS w2 ((blk w.heap.size).add 2) fun x1 =>
 (0 ≤ (0 : Int) ∧ (0 : Int) ≤ (x1.l : Int) ∧ (40 : Int) * (x1.l : Int) ≤ 281474976710656 ∧ (x1.l : Int) ≤ 9223372036854775807) ∧
 Nw (w2.alloc (.cells (madeCells #[(.int .u16 (0 : Int)), (.int .u32 (0 : Int)), (.int .u32 (0 : Int)), (.slice none 0 0)] (x1.l * 4)) 45)) fun w3 =>
 ldS w3 ((blk w.heap.size).add 2) fun x2 =>
 LoopW (S := Sl × Int × Unit) (fun s3 w4 n4 =>
 ifB (decide (s3.2.1 < (x2.l : Int)))
 ((0 ≤ s3.2.1 ∧ s3.2.1 < (x2.l : Int)) ∧
 derefP x2.a fun a5 =>
 ldI w4 ((a5.add ((Int.toNat s3.2.1) * 4)).add 0) .u16 fun x6 =>
 ldI w4 ((a5.add ((Int.toNat s3.2.1) * 4)).add 1) .u32 fun x7 =>
 ldI w4 ((a5.add ((Int.toNat s3.2.1) * 4)).add 2) .u32 fun x8 =>
 ldS w4 ((a5.add ((Int.toNat s3.2.1) * 4)).add 3) fun x9 =>
 Nw (w4.alloc (.cells #[(.int .u16 (0 : Int)), (.int .u32 (0 : Int)), (.int .u32 (0 : Int)), (.slice none 0 0)] 45)) fun w5 =>
 Wr w5 (blk w4.heap.size) ∧
 Nw (w5.setCell (blk w4.heap.size) (.int .u16 x6)) fun w6 =>
 Wr w6 ((blk w4.heap.size).add 1) ∧
 Nw (w6.setCell ((blk w4.heap.size).add 1) (.int .u32 x7)) fun w7 =>
 Wr w7 ((blk w4.heap.size).add 2) ∧
 Nw (w7.setCell ((blk w4.heap.size).add 2) (.int .u32 x8)) fun w8 =>
 Wr w8 ((blk w4.heap.size).add 3) ∧
 Nw (w8.setCell ((blk w4.heap.size).add 3) (.slice x9.a x9.l x9.c)) fun w9 =>
 ldI w9.drew ((blk w4.heap.size).add 1) .u32 fun x10 =>
 ldI w9.drew ((blk w4.heap.size).add 2) .u32 fun x11 =>
 ldS w9.drew ((blk w4.heap.size).add 3) fun x12 =>
 callV Try.prog Try.fs p1 [(.int .u32 x10)] w9.drew fun v13 w10 =>
 ∃ x14 : Int, v13 = (.int .u32 x14) ∧
 w10.cell? ((blk w4.heap.size).add 3) = some (.slice x12.a x12.l x12.c) ∧
 w10.cell? ((blk w4.heap.size).add 2) = some (.int .u32 x11) ∧
 callV Try.prog Try.fs p1 [(.int .u32 x11)] w10 fun v15 w11 =>
 ∃ x16 : Int, v15 = (.int .u32 x16) ∧
 w11.cell? ((blk w4.heap.size).add 3) = some (.slice x12.a x12.l x12.c) ∧
 callR Try.prog 73 #[(.slice x12.a x12.l x12.c)] w11 fun v17 w12 =>
 ∃ x18 : Sl, v17 = (.slice x18.a x18.l x18.c) ∧
 Wr w12 ((blk w4.heap.size).add 1) ∧
 Nw (w12.setCell ((blk w4.heap.size).add 1) (.int .u32 x14)) fun w13 =>
 Wr w13 ((blk w4.heap.size).add 2) ∧
 Nw (w13.setCell ((blk w4.heap.size).add 2) (.int .u32 x16)) fun w14 =>
 Wr w14 ((blk w4.heap.size).add 3) ∧
 Nw (w14.setCell ((blk w4.heap.size).add 3) (.slice x18.a x18.l x18.c)) fun w15 =>
 ldS w15 ((blk w4.heap.size).add 3) fun x19 =>
 LoopW (S := Int × Unit) (fun s20 w16 n21 =>
 ifB (decide (s20.1 < (x19.l : Int)))
 (JoinW (S := Unit) (fun m22 =>
 (0 ≤ s20.1 ∧ s20.1 < (x19.l : Int)) ∧
 derefP x19.a fun a24 =>
 ldI w16 ((a24.add ((Int.toNat s20.1) * 3)).add 0) .u8 fun x25 =>
 ldI w16 ((a24.add ((Int.toNat s20.1) * 3)).add 1) .u32 fun x26 =>
 ldStr w16 ((a24.add ((Int.toNat s20.1) * 3)).add 2) fun x27 =>
 Nw (w16.alloc (.cells #[(.int .u8 (0 : Int)), (.int .u32 (0 : Int)), (.string (ByteArray.mk #[]))] 87)) fun w17 =>
 Wr w17 (blk w16.heap.size) ∧
 Nw (w17.setCell (blk w16.heap.size) (.int .u8 x25)) fun w18 =>
 Wr w18 ((blk w16.heap.size).add 1) ∧
 Nw (w18.setCell ((blk w16.heap.size).add 1) (.int .u32 x26)) fun w19 =>
 Wr w19 ((blk w16.heap.size).add 2) ∧
 Nw (w19.setCell ((blk w16.heap.size).add 2) (.string x27)) fun w20 =>
 ldI w20 (blk w16.heap.size) .u8 fun x28 =>
 ifB (x28 == (1 : Int))
 (ldS w20.drew ((blk w4.heap.size).add 3) fun x29 =>
 ldI w20.drew ((blk w16.heap.size).add 1) .u32 fun x30 =>
 callV Try.prog Try.fs p1 [(.int .u32 x30)] w20.drew fun v31 w21 =>
 ∃ x32 : Int, v31 = (.int .u32 x32) ∧
 w21.cell? ((blk w4.heap.size).add 3) = some (.slice x29.a x29.l x29.c) ∧
 (0 ≤ s20.1 ∧ s20.1 < (x29.l : Int)) ∧
 derefP x29.a fun a33 =>
 Wr w21 ((a33.add ((Int.toNat s20.1) * 3)).add 1) ∧
 Nw (w21.setCell ((a33.add ((Int.toNat s20.1) * 3)).add 1) (.int .u32 x32)) fun w22 =>
 m22 (()) w22)
 (m22 (()) w20))
 (fun s23 w23 =>
 n21 ((IntKind.i64.wrap (s20.1 + (1 : Int))), ()) w23))
 (ldI w16 ((blk w4.heap.size).add 0) .u16 fun x34 =>
 ldI w16 ((blk w4.heap.size).add 1) .u32 fun x35 =>
 ldI w16 ((blk w4.heap.size).add 2) .u32 fun x36 =>
 ldS w16 ((blk w4.heap.size).add 3) fun x37 =>
 Nw (w16.alloc (.cells #[(.int .u16 x34), (.int .u32 x35), (.int .u32 x36), (.slice x37.a x37.l x37.c)] 45)) fun w24 =>
 appendS Try.prog 23 (.slice s3.1.a s3.1.l s3.1.c) (.slice (some (blk w16.heap.size)) 1 1) w24 fun r38 w25 =>
 n4 (r38, (IntKind.i64.wrap (s3.2.1 + (1 : Int))), ()) w25))
 ((0 : Int), ()) w15)
 (Wr w4 ((blk w.heap.size).add 2) ∧
 Nw (w4.setCell ((blk w.heap.size).add 2) (.slice s3.1.a s3.1.l s3.1.c)) fun w26 =>
 ldI w26 ((blk w.heap.size).add 0) .u32 fun x39 =>
 ldI w26 ((blk w.heap.size).add 1) .u32 fun x40 =>
 ldS w26 ((blk w.heap.size).add 2) fun x41 =>
 Wr w26 (blk w1.heap.size) ∧
 Nw (w26.setCell (blk w1.heap.size) (.int .u32 x39)) fun w27 =>
 Wr w27 ((blk w1.heap.size).add 1) ∧
 Nw (w27.setCell ((blk w1.heap.size).add 1) (.int .u32 x40)) fun w28 =>
 Wr w28 ((blk w1.heap.size).add 2) ∧
 Nw (w28.setCell ((blk w1.heap.size).add 2) (.slice x41.a x41.l x41.c)) fun w29 =>
 ldI w29 ((blk w1.heap.size).add 0) .u32 fun x42 =>
 ldI w29 ((blk w1.heap.size).add 1) .u32 fun x43 =>
 ldS w29 ((blk w1.heap.size).add 2) fun x44 =>
 R (.agg #[(.int .u32 x42), (.int .u32 x43), (.slice x44.a x44.l x44.c)]) w29))
 ((Sl.mk (some (blk w2.heap.size)) 0 x1.l), (0 : Int), ()) w3
theorem ids_turned_calls (p0 : (Int × Int × Sl × Unit)) (p1 : Value) (R : Value → World → Prop) (w : World) (h : L_ids_turned p0 p1 R w) : Calls Try.prog 44 #[(.agg #[(.int .u32 p0.1), (.int .u32 p0.2.1), (.slice p0.2.2.1.a p0.2.2.1.l p0.2.2.1.c)]), p1] w (Ret R) :=
 lw_calls (fs := Try.fs) (an := a_ids_turned) (args := [(.agg #[(.int .u32 p0.1), (.int .u32 p0.2.1), (.slice p0.2.2.1.a p0.2.2.1.l p0.2.2.1.c)]), p1]) Try.fsOK Try.mixed Try.func44 (by kernel_rfl) (by kernel_rfl)
 (Eq.mpr (by kernel_rfl : lwFn Try.prog Try.fs Try.f44 a_ids_turned [(.agg #[(.int .u32 p0.1), (.int .u32 p0.2.1), (.slice p0.2.2.1.a p0.2.2.1.l p0.2.2.1.c)]), p1] w R = L_ids_turned p0 p1 R w) h)

/-- intaglio.ids.Renumber 1 -/
def a_ids_Renumber_1 : Ann := (.seq none .nil (.seq none .nil .nil))
def L_ids_Renumber_1 (p0 : Int) (c0 : Addr) (R : Value → World → Prop) (w : World) : Prop :=
 ldM w c0 fun x1 =>
 lookV Try.prog 83 (.map x1) (.int .u32 p0) (BK.int .u32) w fun (x2 : Int) =>
 R (.int .u32 x2) w
theorem ids_Renumber_1_calls (p0 : Int) (c0 : Addr) (R : Value → World → Prop) (w : World) (h : L_ids_Renumber_1 p0 c0 R w) : Calls Try.prog 45 #[(.int .u32 p0), (.pointer (some c0))] w (Ret R) :=
 lw_calls (fs := Try.fs) (an := a_ids_Renumber_1) (args := [(.int .u32 p0), (.pointer (some c0))]) Try.fsOK Try.mixed Try.func45 (by kernel_rfl) (by kernel_rfl)
 (Eq.mpr (by kernel_rfl : lwFn Try.prog Try.fs Try.f45 a_ids_Renumber_1 [(.int .u32 p0), (.pointer (some c0))] w R = L_ids_Renumber_1 p0 c0 R w) h)

/-- intaglio.intaglioref09.Turned -/
def a_intaglioref09_Turned : Ann := (.seq none .nil (.seq none .nil (.seq none (.seq none .nil (.one (.loop ⟨[1, 2, 4, 5], [(6, (.b (.int .i64)))]⟩ (.seq none (.seq none .nil (.cond .nil .nil)) (.seq none (.one (.seq none .nil (.seq (some ⟨[1, 2, 4, 5, 6, 7], []⟩) (.seq none .nil (.cond .nil .nil)) .nil))) .nil))))) (.seq none .nil .nil))))
def L_intaglioref09_Turned (p0 : (Int × Int × Int × Sl × Unit)) (p1 : Sl) (R : Value → World → Prop) (w : World) : Prop :=
 Nw (w.alloc (.cells #[(.int .u16 p0.1), (.int .u32 p0.2.1), (.int .u32 p0.2.2.1), (.slice p0.2.2.2.1.a p0.2.2.2.1.l p0.2.2.2.1.c)] 45)) fun w1 =>
 Nw (w1.alloc (.cells #[(.int .u16 (0 : Int)), (.int .u32 (0 : Int)), (.int .u32 (0 : Int)), (.slice none 0 0)] 45)) fun w2 =>
 ldI w2.drew (blk w.heap.size) .u16 fun x1 =>
 ldI w2.drew ((blk w.heap.size).add 1) .u32 fun x2 =>
 (0 ≤ x2 ∧ x2 < (p1.l : Int)) ∧
 derefP p1.a fun a3 =>
 ldI w2.drew (a3.add (Int.toNat x2)) .u32 fun x4 =>
 ldI w2.drew ((blk w.heap.size).add 2) .u32 fun x5 =>
 (0 ≤ x5 ∧ x5 < (p1.l : Int)) ∧
 derefP p1.a fun a6 =>
 ldI w2.drew (a6.add (Int.toNat x5)) .u32 fun x7 =>
 Nw (w2.drew.alloc (.cells #[(.int .u16 (0 : Int)), (.int .u32 (0 : Int)), (.int .u32 (0 : Int)), (.slice none 0 0)] 45)) fun w3 =>
 w3.cell? (a6.add (Int.toNat x5)) = some (.int .u32 x7) ∧
 w3.cell? ((blk w.heap.size).add 2) = some (.int .u32 x5) ∧
 w3.cell? (a3.add (Int.toNat x2)) = some (.int .u32 x4) ∧
 w3.cell? ((blk w.heap.size).add 1) = some (.int .u32 x2) ∧
 w3.cell? (blk w.heap.size) = some (.int .u16 x1) ∧
 Wr w3 (blk w2.drew.heap.size) ∧
 Nw (w3.setCell (blk w2.drew.heap.size) (.int .u16 x1)) fun w4 =>
 Wr w4 ((blk w2.drew.heap.size).add 1) ∧
 Nw (w4.setCell ((blk w2.drew.heap.size).add 1) (.int .u32 x4)) fun w5 =>
 Wr w5 ((blk w2.drew.heap.size).add 2) ∧
 Nw (w5.setCell ((blk w2.drew.heap.size).add 2) (.int .u32 x7)) fun w6 =>
 Wr w6 ((blk w2.drew.heap.size).add 3) ∧
 Nw (w6.setCell ((blk w2.drew.heap.size).add 3) (.slice none 0 0)) fun w7 =>
 LoopW (S := Int × Unit) (fun s8 w8 n9 =>
 ldS w8 ((blk w.heap.size).add 3) fun x10 =>
 ifB (decide (s8.1 < (x10.l : Int)))
 (ldS w8 ((blk w.heap.size).add 3) fun x11 =>
 (0 ≤ s8.1 ∧ s8.1 < (x11.l : Int)) ∧
 derefP x11.a fun a12 =>
 ldI w8 ((a12.add ((Int.toNat s8.1) * 3)).add 0) .u8 fun x13 =>
 ldI w8 ((a12.add ((Int.toNat s8.1) * 3)).add 1) .u32 fun x14 =>
 ldStr w8 ((a12.add ((Int.toNat s8.1) * 3)).add 2) fun x15 =>
 Nw (w8.alloc (.cells #[(.int .u8 (0 : Int)), (.int .u32 (0 : Int)), (.string (ByteArray.mk #[]))] 87)) fun w9 =>
 Wr w9 (blk w8.heap.size) ∧
 Nw (w9.setCell (blk w8.heap.size) (.int .u8 x13)) fun w10 =>
 Wr w10 ((blk w8.heap.size).add 1) ∧
 Nw (w10.setCell ((blk w8.heap.size).add 1) (.int .u32 x14)) fun w11 =>
 Wr w11 ((blk w8.heap.size).add 2) ∧
 Nw (w11.setCell ((blk w8.heap.size).add 2) (.string x15)) fun w12 =>
 JoinW (S := Unit) (fun m16 =>
 ldI w12 (blk w8.heap.size) .u8 fun x18 =>
 ifB (x18 == (1 : Int))
 (ldI w12 ((blk w8.heap.size).add 1) .u32 fun x19 =>
 (0 ≤ x19 ∧ x19 < (p1.l : Int)) ∧
 derefP p1.a fun a20 =>
 ldI w12 (a20.add (Int.toNat x19)) .u32 fun x21 =>
 Wr w12 ((blk w8.heap.size).add 1) ∧
 Nw (w12.setCell ((blk w8.heap.size).add 1) (.int .u32 x21)) fun w13 =>
 m16 (()) w13)
 (m16 (()) w12))
 (fun s17 w14 =>
 ldS w14 ((blk w2.drew.heap.size).add 3) fun x22 =>
 ldI w14 ((blk w8.heap.size).add 0) .u8 fun x23 =>
 ldI w14 ((blk w8.heap.size).add 1) .u32 fun x24 =>
 ldStr w14 ((blk w8.heap.size).add 2) fun x25 =>
 Nw (w14.alloc (.cells #[(.int .u8 x23), (.int .u32 x24), (.string x25)] 87)) fun w15 =>
 appendS Try.prog 43 (.slice x22.a x22.l x22.c) (.slice (some (blk w14.heap.size)) 1 1) w15 fun r26 w16 =>
 Wr w16 ((blk w2.drew.heap.size).add 3) ∧
 Nw (w16.setCell ((blk w2.drew.heap.size).add 3) (.slice r26.a r26.l r26.c)) fun w17 =>
 n9 ((IntKind.i64.wrap (s8.1 + (1 : Int))), ()) w17))
 (ldI w8 ((blk w2.drew.heap.size).add 0) .u16 fun x27 =>
 ldI w8 ((blk w2.drew.heap.size).add 1) .u32 fun x28 =>
 ldI w8 ((blk w2.drew.heap.size).add 2) .u32 fun x29 =>
 ldS w8 ((blk w2.drew.heap.size).add 3) fun x30 =>
 Wr w8 (blk w1.heap.size) ∧
 Nw (w8.setCell (blk w1.heap.size) (.int .u16 x27)) fun w18 =>
 Wr w18 ((blk w1.heap.size).add 1) ∧
 Nw (w18.setCell ((blk w1.heap.size).add 1) (.int .u32 x28)) fun w19 =>
 Wr w19 ((blk w1.heap.size).add 2) ∧
 Nw (w19.setCell ((blk w1.heap.size).add 2) (.int .u32 x29)) fun w20 =>
 Wr w20 ((blk w1.heap.size).add 3) ∧
 Nw (w20.setCell ((blk w1.heap.size).add 3) (.slice x30.a x30.l x30.c)) fun w21 =>
 ldI w21 ((blk w1.heap.size).add 0) .u16 fun x31 =>
 ldI w21 ((blk w1.heap.size).add 1) .u32 fun x32 =>
 ldI w21 ((blk w1.heap.size).add 2) .u32 fun x33 =>
 ldS w21 ((blk w1.heap.size).add 3) fun x34 =>
 R (.agg #[(.int .u16 x31), (.int .u32 x32), (.int .u32 x33), (.slice x34.a x34.l x34.c)]) w21))
 ((0 : Int), ()) w7
theorem intaglioref09_Turned_calls (p0 : (Int × Int × Int × Sl × Unit)) (p1 : Sl) (R : Value → World → Prop) (w : World) (h : L_intaglioref09_Turned p0 p1 R w) : Calls Try.prog 72 #[(.agg #[(.int .u16 p0.1), (.int .u32 p0.2.1), (.int .u32 p0.2.2.1), (.slice p0.2.2.2.1.a p0.2.2.2.1.l p0.2.2.2.1.c)]), (.slice p1.a p1.l p1.c)] w (Ret R) :=
 lw_calls (fs := Try.fs) (an := a_intaglioref09_Turned) (args := [(.agg #[(.int .u16 p0.1), (.int .u32 p0.2.1), (.int .u32 p0.2.2.1), (.slice p0.2.2.2.1.a p0.2.2.2.1.l p0.2.2.2.1.c)]), (.slice p1.a p1.l p1.c)]) Try.fsOK Try.mixed Try.func72 (by kernel_rfl) (by kernel_rfl)
 (Eq.mpr (by kernel_rfl : lwFn Try.prog Try.fs Try.f72 a_intaglioref09_Turned [(.agg #[(.int .u16 p0.1), (.int .u32 p0.2.1), (.int .u32 p0.2.2.1), (.slice p0.2.2.2.1.a p0.2.2.2.1.l p0.2.2.2.1.c)]), (.slice p1.a p1.l p1.c)] w R = L_intaglioref09_Turned p0 p1 R w) h)

/-- slices.Clone[[]intaglio.api.Arg,intaglio.api.Arg] -/
def a_slices_Clone_sapi_Arg_api_Arg : Ann := (.seq none .nil (.seq none (.seq none .nil (.cond (.seq none .nil .nil) .nil)) (.seq none .nil .nil)))
def L_slices_Clone_sapi_Arg_api_Arg (p0 : Sl) (R : Value → World → Prop) (w : World) : Prop :=
 ifB (Option.isNone p0.a)
 (R (.slice none 0 0) w)
 (Nw (w.alloc (.cells #[] 87)) fun w1 =>
 appendS Try.prog 43 (.slice (some (blk w.heap.size)) 0 0) (.slice p0.a p0.l p0.c) w1 fun r1 w2 =>
 R (.slice r1.a r1.l r1.c) w2)
theorem slices_Clone_sapi_Arg_api_Arg_calls (p0 : Sl) (R : Value → World → Prop) (w : World) (h : L_slices_Clone_sapi_Arg_api_Arg p0 R w) : Calls Try.prog 73 #[(.slice p0.a p0.l p0.c)] w (Ret R) :=
 lw_calls (fs := Try.fs) (an := a_slices_Clone_sapi_Arg_api_Arg) (args := [(.slice p0.a p0.l p0.c)]) Try.fsOK Try.mixed Try.func73 (by kernel_rfl) (by kernel_rfl)
 (Eq.mpr (by kernel_rfl : lwFn Try.prog Try.fs Try.f73 a_slices_Clone_sapi_Arg_api_Arg [(.slice p0.a p0.l p0.c)] w R = L_slices_Clone_sapi_Arg_api_Arg p0 R w) h)

end Go.Proofs
