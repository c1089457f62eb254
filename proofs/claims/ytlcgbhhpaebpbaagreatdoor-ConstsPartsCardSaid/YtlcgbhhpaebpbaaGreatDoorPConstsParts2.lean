/-
  Part 2 of what ConstsParts is proved by: functions walked, and what they come to.
-/
import Derived.Test.YtlcgbhhpaebpbaaGreatDoorProg
import Derived.Laws.Strings
import Derived.MapKept
import Derived.Test.YtlcgbhhpaebpbaaGreatDoorPConstsParts1
namespace Go.Proofs
open Go.Gk
set_option linter.unusedVariables false
set_option maxRecDepth 100000

/-- intaglio.ids.Check -/
def a_ids_Check : Ann := (.seq none .nil (.one (.seq none .nil (.seq none (.seq none .nil (.cond (.seq none .nil .nil) .nil)) (.seq none .nil (.seq none .nil (.seq none .nil (.seq none (.seq none .nil (.one (.loop ⟨[2, 5, 6, 29, 30], [(31, (.b (.int .i64)))]⟩ (.seq none .nil (.seq none (.cond .nil .nil) (.seq (some ⟨[2, 5, 6, 29, 30, 31], []⟩) (.one (.seq none .nil (.seq (some ⟨[2, 5, 6, 7, 8, 29, 30, 31], []⟩) (.seq none .nil (.cond (.seq none .nil .nil) .nil)) (.seq none .nil (.seq none (.seq none .nil (.one (.loop ⟨[2, 5, 6, 7, 29, 30, 31, 50, 51], [(9, (.b .bool)), (52, (.b (.int .i64)))]⟩ (.seq none .nil (.seq none (.cond .nil .nil) (.seq (some ⟨[2, 5, 6, 7, 29, 30, 31, 50, 51, 52], [(9, (.b .bool))]⟩) (.one (.seq none .nil (.seq none .nil (.seq none (.seq none .nil (.cond (.seq none .nil .nil) .nil)) .nil)))) .nil)))))) (.seq (some ⟨[2, 7], []⟩) (.seq none .nil (.cond .nil .nil)) (.seq none .nil .nil))))))) .nil)))))) (.seq none .nil .nil)))))))))
def L_ids_Check (p0 : (Int × Int × Sl × Unit)) (R : Value → World → Prop) (w : World) : Prop :=
 Nw (w.alloc (.cells #[(.int .u32 p0.1), (.int .u32 p0.2.1), (.slice p0.2.2.1.a p0.2.2.1.l p0.2.2.1.c)] 25)) fun w1 =>
 Nw (w1.alloc (.cells #[(.int .i64 (0 : Int)), (.int .i64 (0 : Int))] 44)) fun w2 =>
 ldI w2 ((blk w.heap.size).add 0) .u32 fun x1 =>
 ldI w2 ((blk w.heap.size).add 1) .u32 fun x2 =>
 ldS w2 ((blk w.heap.size).add 2) fun x3 =>
 callR Tryz.prog 64 #[(.agg #[(.int .u32 x1), (.int .u32 x2), (.slice x3.a x3.l x3.c)])] w2 fun v4 w3 =>
 ∃ x5 : (Int × Int × Int × Int × Int × Int × Int × Int × Int × Int × Int × Int × Int × Int × Int × Int × Int × Int × Int × Int × Unit), ∃ x6 : (Int × Int × Unit), v4 = (.tuple #[(.agg #[(.int .i64 x5.1), (.int .i64 x5.2.1), (.int .i64 x5.2.2.1), (.int .i64 x5.2.2.2.1), (.int .i64 x5.2.2.2.2.1), (.int .i64 x5.2.2.2.2.2.1), (.int .i64 x5.2.2.2.2.2.2.1), (.int .i64 x5.2.2.2.2.2.2.2.1), (.int .i64 x5.2.2.2.2.2.2.2.2.1), (.int .i64 x5.2.2.2.2.2.2.2.2.2.1), (.int .i64 x5.2.2.2.2.2.2.2.2.2.2.1), (.int .i64 x5.2.2.2.2.2.2.2.2.2.2.2.1), (.int .i64 x5.2.2.2.2.2.2.2.2.2.2.2.2.1), (.int .i64 x5.2.2.2.2.2.2.2.2.2.2.2.2.2.1), (.int .i64 x5.2.2.2.2.2.2.2.2.2.2.2.2.2.2.1), (.int .i64 x5.2.2.2.2.2.2.2.2.2.2.2.2.2.2.2.1), (.int .i64 x5.2.2.2.2.2.2.2.2.2.2.2.2.2.2.2.2.1), (.int .i64 x5.2.2.2.2.2.2.2.2.2.2.2.2.2.2.2.2.2.1), (.int .i64 x5.2.2.2.2.2.2.2.2.2.2.2.2.2.2.2.2.2.2.1), (.int .i64 x5.2.2.2.2.2.2.2.2.2.2.2.2.2.2.2.2.2.2.2.1)]), (.agg #[(.int .i64 x6.1), (.int .i64 x6.2.1)])]) ∧
 Nw (w3.alloc (.cells (List.toArray (List.replicate 20 (.int .i64 (0 : Int)))) 117)) fun w4 =>
 Nw (w4.alloc (.cells #[(.int .i64 (0 : Int)), (.int .i64 (0 : Int))] 44)) fun w5 =>
 Wr w5 (blk w3.heap.size) ∧
 Nw (w5.setCell (blk w3.heap.size) (.int .i64 x5.1)) fun w6 =>
 Wr w6 ((blk w3.heap.size).add 1) ∧
 Nw (w6.setCell ((blk w3.heap.size).add 1) (.int .i64 x5.2.1)) fun w7 =>
 Wr w7 ((blk w3.heap.size).add 2) ∧
 Nw (w7.setCell ((blk w3.heap.size).add 2) (.int .i64 x5.2.2.1)) fun w8 =>
 Wr w8 ((blk w3.heap.size).add 3) ∧
 Nw (w8.setCell ((blk w3.heap.size).add 3) (.int .i64 x5.2.2.2.1)) fun w9 =>
 Wr w9 ((blk w3.heap.size).add 4) ∧
 Nw (w9.setCell ((blk w3.heap.size).add 4) (.int .i64 x5.2.2.2.2.1)) fun w10 =>
 Wr w10 ((blk w3.heap.size).add 5) ∧
 Nw (w10.setCell ((blk w3.heap.size).add 5) (.int .i64 x5.2.2.2.2.2.1)) fun w11 =>
 Wr w11 ((blk w3.heap.size).add 6) ∧
 Nw (w11.setCell ((blk w3.heap.size).add 6) (.int .i64 x5.2.2.2.2.2.2.1)) fun w12 =>
 Wr w12 ((blk w3.heap.size).add 7) ∧
 Nw (w12.setCell ((blk w3.heap.size).add 7) (.int .i64 x5.2.2.2.2.2.2.2.1)) fun w13 =>
 Wr w13 ((blk w3.heap.size).add 8) ∧
 Nw (w13.setCell ((blk w3.heap.size).add 8) (.int .i64 x5.2.2.2.2.2.2.2.2.1)) fun w14 =>
 Wr w14 ((blk w3.heap.size).add 9) ∧
 Nw (w14.setCell ((blk w3.heap.size).add 9) (.int .i64 x5.2.2.2.2.2.2.2.2.2.1)) fun w15 =>
 Wr w15 ((blk w3.heap.size).add 10) ∧
 Nw (w15.setCell ((blk w3.heap.size).add 10) (.int .i64 x5.2.2.2.2.2.2.2.2.2.2.1)) fun w16 =>
 Wr w16 ((blk w3.heap.size).add 11) ∧
 Nw (w16.setCell ((blk w3.heap.size).add 11) (.int .i64 x5.2.2.2.2.2.2.2.2.2.2.2.1)) fun w17 =>
 Wr w17 ((blk w3.heap.size).add 12) ∧
 Nw (w17.setCell ((blk w3.heap.size).add 12) (.int .i64 x5.2.2.2.2.2.2.2.2.2.2.2.2.1)) fun w18 =>
 Wr w18 ((blk w3.heap.size).add 13) ∧
 Nw (w18.setCell ((blk w3.heap.size).add 13) (.int .i64 x5.2.2.2.2.2.2.2.2.2.2.2.2.2.1)) fun w19 =>
 Wr w19 ((blk w3.heap.size).add 14) ∧
 Nw (w19.setCell ((blk w3.heap.size).add 14) (.int .i64 x5.2.2.2.2.2.2.2.2.2.2.2.2.2.2.1)) fun w20 =>
 Wr w20 ((blk w3.heap.size).add 15) ∧
 Nw (w20.setCell ((blk w3.heap.size).add 15) (.int .i64 x5.2.2.2.2.2.2.2.2.2.2.2.2.2.2.2.1)) fun w21 =>
 Wr w21 ((blk w3.heap.size).add 16) ∧
 Nw (w21.setCell ((blk w3.heap.size).add 16) (.int .i64 x5.2.2.2.2.2.2.2.2.2.2.2.2.2.2.2.2.1)) fun w22 =>
 Wr w22 ((blk w3.heap.size).add 17) ∧
 Nw (w22.setCell ((blk w3.heap.size).add 17) (.int .i64 x5.2.2.2.2.2.2.2.2.2.2.2.2.2.2.2.2.2.1)) fun w23 =>
 Wr w23 ((blk w3.heap.size).add 18) ∧
 Nw (w23.setCell ((blk w3.heap.size).add 18) (.int .i64 x5.2.2.2.2.2.2.2.2.2.2.2.2.2.2.2.2.2.2.1)) fun w24 =>
 Wr w24 ((blk w3.heap.size).add 19) ∧
 Nw (w24.setCell ((blk w3.heap.size).add 19) (.int .i64 x5.2.2.2.2.2.2.2.2.2.2.2.2.2.2.2.2.2.2.2.1)) fun w25 =>
 Wr w25 (blk w4.heap.size) ∧
 Nw (w25.setCell (blk w4.heap.size) (.int .i64 x6.1)) fun w26 =>
 Wr w26 ((blk w4.heap.size).add 1) ∧
 Nw (w26.setCell ((blk w4.heap.size).add 1) (.int .i64 x6.2.1)) fun w27 =>
 ldI w27 (blk w4.heap.size) .i64 fun x7 =>
 ifB (x7 != (0 : Int))
 (ldI w27 ((blk w4.heap.size).add 0) .i64 fun x8 =>
 ldI w27 ((blk w4.heap.size).add 1) .i64 fun x9 =>
 Wr w27 (blk w1.heap.size) ∧
 Nw (w27.setCell (blk w1.heap.size) (.int .i64 x8)) fun w28 =>
 Wr w28 ((blk w1.heap.size).add 1) ∧
 Nw (w28.setCell ((blk w1.heap.size).add 1) (.int .i64 x9)) fun w29 =>
 ldI w29 ((blk w1.heap.size).add 0) .i64 fun x10 =>
 ldI w29 ((blk w1.heap.size).add 1) .i64 fun x11 =>
 R (.agg #[(.int .i64 x10), (.int .i64 x11)]) w29)
 (ldS w27 ((blk w.heap.size).add 2) fun x12 =>
 callR Tryz.prog 122 #[(.slice x12.a x12.l x12.c)] w27 fun v13 w30 =>
 ∃ x14 : Option Nat, v13 = (.map x14) ∧
 (0 ≤ (7 : Int) ∧ (7 : Int) < (10 : Int)) ∧
 ldI w30 (((blk w3.heap.size).add (7 * 2)).add 0) .i64 fun x15 =>
 ldI w30 (((blk w3.heap.size).add (7 * 2)).add 1) .i64 fun x16 =>
 Nw (w30.alloc (.cells #[(.int .i64 (0 : Int)), (.int .i64 (0 : Int))] 116)) fun w31 =>
 Wr w31 (blk w30.heap.size) ∧
 Nw (w31.setCell (blk w30.heap.size) (.int .i64 x15)) fun w32 =>
 Wr w32 ((blk w30.heap.size).add 1) ∧
 Nw (w32.setCell ((blk w30.heap.size).add 1) (.int .i64 x16)) fun w33 =>
 ldS w33 ((blk w.heap.size).add 2) fun x17 =>
 LoopW (S := Int × Unit) (fun s18 w34 n19 =>
 ifB (decide (s18.1 < (x17.l : Int)))
 (JoinW (S := Unit) (fun m20 =>
 (0 ≤ s18.1 ∧ s18.1 < (x17.l : Int)) ∧
 derefP x17.a fun a22 =>
 ldI w34 ((a22.add ((Int.toNat s18.1) * 4)).add 0) .u16 fun x23 =>
 ldI w34 ((a22.add ((Int.toNat s18.1) * 4)).add 1) .u32 fun x24 =>
 ldI w34 ((a22.add ((Int.toNat s18.1) * 4)).add 2) .u32 fun x25 =>
 ldS w34 ((a22.add ((Int.toNat s18.1) * 4)).add 3) fun x26 =>
 Nw (w34.alloc (.cells #[(.int .u16 (0 : Int)), (.int .u32 (0 : Int)), (.int .u32 (0 : Int)), (.slice none 0 0)] 52)) fun w35 =>
 Wr w35 (blk w34.heap.size) ∧
 Nw (w35.setCell (blk w34.heap.size) (.int .u16 x23)) fun w36 =>
 Wr w36 ((blk w34.heap.size).add 1) ∧
 Nw (w36.setCell ((blk w34.heap.size).add 1) (.int .u32 x24)) fun w37 =>
 Wr w37 ((blk w34.heap.size).add 2) ∧
 Nw (w37.setCell ((blk w34.heap.size).add 2) (.int .u32 x25)) fun w38 =>
 Wr w38 ((blk w34.heap.size).add 3) ∧
 Nw (w38.setCell ((blk w34.heap.size).add 3) (.slice x26.a x26.l x26.c)) fun w39 =>
 JoinW (S := Unit) (fun m27 =>
 ldI w39 ((blk w34.heap.size).add 2) .u32 fun x29 =>
 ifB (x29 != (0 : Int))
 (ldI w39 ((blk w34.heap.size).add 2) .u32 fun x30 =>
 lookV Tryz.prog 150 (.map x14) (.int .u32 x30) (BK.int .i64) w39 fun (x31 : Int) =>
 ifB (decide (x31 < s18.1))
 (Wr w39 (blk w1.heap.size) ∧
 Nw (w39.setCell (blk w1.heap.size) (.int .i64 (90 : Int))) fun w40 =>
 Wr w40 ((blk w1.heap.size).add 1) ∧
 Nw (w40.setCell ((blk w1.heap.size).add 1) (.int .i64 s18.1)) fun w41 =>
 ldI w41 ((blk w1.heap.size).add 0) .i64 fun x32 =>
 ldI w41 ((blk w1.heap.size).add 1) .i64 fun x33 =>
 R (.agg #[(.int .i64 x32), (.int .i64 x33)]) w41)
 (m27 (()) w39))
 (m27 (()) w39))
 (fun s28 w42 =>
 ldI w42 ((blk w34.heap.size).add 0) .u16 fun x34 =>
 ldI w42 ((blk w34.heap.size).add 1) .u32 fun x35 =>
 ldI w42 ((blk w34.heap.size).add 2) .u32 fun x36 =>
 ldS w42 ((blk w34.heap.size).add 3) fun x37 =>
 callR Tryz.prog 123 #[(.agg #[(.int .u16 x34), (.int .u32 x35), (.int .u32 x36), (.slice x37.a x37.l x37.c)])] w42 fun v38 w43 =>
 ∃ x39 : Sl, v38 = (.slice x39.a x39.l x39.c) ∧
 LoopW (S := Bool × Int × Unit) (fun s40 w44 n41 =>
 ifB (decide (s40.2.1 < (x39.l : Int)))
 (JoinW (S := Bool × Unit) (fun m42 =>
 (0 ≤ s40.2.1 ∧ s40.2.1 < (x39.l : Int)) ∧
 derefP x39.a fun a44 =>
 ldI w44 (a44.add (Int.toNat s40.2.1)) .u32 fun x45 =>
 lookOk Tryz.prog 150 (.map x14) (.int .u32 x45) (BK.int .i64) w44 fun (x46 : Int) (b47 : Bool) =>
 ifB (!b47)
 (Wr w44 (blk w1.heap.size) ∧
 Nw (w44.setCell (blk w1.heap.size) (.int .i64 (91 : Int))) fun w45 =>
 Wr w45 ((blk w1.heap.size).add 1) ∧
 Nw (w45.setCell ((blk w1.heap.size).add 1) (.int .i64 s18.1)) fun w46 =>
 ldI w46 ((blk w1.heap.size).add 0) .i64 fun x48 =>
 ldI w46 ((blk w1.heap.size).add 1) .i64 fun x49 =>
 R (.agg #[(.int .i64 x48), (.int .i64 x49)]) w46)
 (ifB s40.1
 (m42 (true, ()) w44)
 (m42 ((decide (x46 ≥ s18.1)), ()) w44)))
 (fun s43 w47 =>
 n41 (s43.1, (IntKind.i64.wrap (s40.2.1 + (1 : Int))), ()) w47))
 (JoinW (S := Unit) (fun m50 =>
 ifB (!s40.1)
 (m20 (()) w44)
 (ldI w44 (blk w30.heap.size) .i64 fun x52 =>
 ifB (decide (s18.1 < x52))
 (m20 (()) w44)
 (ldI w44 ((blk w30.heap.size).add 1) .i64 fun x53 =>
 ifB (decide (s18.1 ≥ x53))
 (m20 (()) w44)
 (m50 (()) w44))))
 (fun s51 w48 =>
 Wr w48 (blk w1.heap.size) ∧
 Nw (w48.setCell (blk w1.heap.size) (.int .i64 (92 : Int))) fun w49 =>
 Wr w49 ((blk w1.heap.size).add 1) ∧
 Nw (w49.setCell ((blk w1.heap.size).add 1) (.int .i64 s18.1)) fun w50 =>
 ldI w50 ((blk w1.heap.size).add 0) .i64 fun x54 =>
 ldI w50 ((blk w1.heap.size).add 1) .i64 fun x55 =>
 R (.agg #[(.int .i64 x54), (.int .i64 x55)]) w50)))
 (false, (0 : Int), ()) w43))
 (fun s21 w51 =>
 n19 ((IntKind.i64.wrap (s18.1 + (1 : Int))), ()) w51))
 (Wr w34 (blk w1.heap.size) ∧
 Nw (w34.setCell (blk w1.heap.size) (.int .i64 (0 : Int))) fun w52 =>
 Wr w52 ((blk w1.heap.size).add 1) ∧
 Nw (w52.setCell ((blk w1.heap.size).add 1) (.int .i64 (0 : Int))) fun w53 =>
 ldI w53 ((blk w1.heap.size).add 0) .i64 fun x56 =>
 ldI w53 ((blk w1.heap.size).add 1) .i64 fun x57 =>
 R (.agg #[(.int .i64 x56), (.int .i64 x57)]) w53))
 ((0 : Int), ()) w33)
theorem ids_Check_calls (p0 : (Int × Int × Sl × Unit)) (R : Value → World → Prop) (w : World) (h : L_ids_Check p0 R w) : Calls Tryz.prog 84 #[(.agg #[(.int .u32 p0.1), (.int .u32 p0.2.1), (.slice p0.2.2.1.a p0.2.2.1.l p0.2.2.1.c)])] w (Ret R) :=
 lw_calls (fs := Tryz.fs) (an := a_ids_Check) (args := [(.agg #[(.int .u32 p0.1), (.int .u32 p0.2.1), (.slice p0.2.2.1.a p0.2.2.1.l p0.2.2.1.c)])]) Tryz.fsOK Tryz.mixed Tryz.func84 (by kernel_rfl) (by kernel_rfl)
 (Eq.mpr (by kernel_rfl : lwFn Tryz.prog Tryz.fs Tryz.f84 a_ids_Check [(.agg #[(.int .u32 p0.1), (.int .u32 p0.2.1), (.slice p0.2.2.1.a p0.2.2.1.l p0.2.2.1.c)])] w R = L_ids_Check p0 R w) h)

end Go.Proofs
namespace Go.Proofs
open Go.Gk
set_option linter.unusedVariables false
set_option maxRecDepth 100000

/-- intaglio.ids.makers -/
def a_ids_makers : Ann := (.seq none .nil (.seq none .nil (.seq none (.seq none .nil (.one (.loop ⟨[], [(9, (.b (.int .i64))), (10, (.agg [(.int .u16), (.int .u32), (.int .u32), .slice]))]⟩ (.seq none (.seq none .nil .nil) (.one (.seq none .nil (.cond .nil .nil))))))) (.seq none .nil .nil))))
def L_ids_makers (p0 : Sl) (R : Value → World → Prop) (w : World) : Prop :=
 Nw (w.alloc (.map #[] 0)) fun w1 =>
 Nw (w1.alloc (.cells #[(.map none)] 150)) fun w2 =>
 Wr w2 (blk w1.heap.size) ∧
 Nw (w2.setCell (blk w1.heap.size) (.map (some w.heap.size))) fun w3 =>
 callR Tryz.prog 168 #[(.slice p0.a p0.l p0.c)] w3 fun v1 w4 =>
 ∃ x2 : Value, v1 = x2 ∧
 RangeW Tryz.prog Tryz.fs x2 w4 (T := Int × (Int × Int × Int × Sl × Unit) × Unit) (fun s3 => [(.int .i64 s3.1), (.agg #[(.int .u16 s3.2.1.1), (.int .u32 s3.2.1.2.1), (.int .u32 s3.2.1.2.2.1), (.slice s3.2.1.2.2.2.1.a s3.2.1.2.2.2.1.l s3.2.1.2.2.2.1.c)])])
 (fun mk4 l5 s3 w5 S6 =>
 Nw (w5.alloc (.cells #[(.int .u16 (0 : Int)), (.int .u32 (0 : Int)), (.int .u32 (0 : Int)), (.slice none 0 0)] 52)) fun w6 =>
 Wr w6 (blk w5.heap.size) ∧
 Nw (w6.setCell (blk w5.heap.size) (.int .u16 s3.2.1.1)) fun w7 =>
 Wr w7 ((blk w5.heap.size).add 1) ∧
 Nw (w7.setCell ((blk w5.heap.size).add 1) (.int .u32 s3.2.1.2.1)) fun w8 =>
 Wr w8 ((blk w5.heap.size).add 2) ∧
 Nw (w8.setCell ((blk w5.heap.size).add 2) (.int .u32 s3.2.1.2.2.1)) fun w9 =>
 Wr w9 ((blk w5.heap.size).add 3) ∧
 Nw (w9.setCell ((blk w5.heap.size).add 3) (.slice s3.2.1.2.2.2.1.a s3.2.1.2.2.2.1.l s3.2.1.2.2.2.1.c)) fun w10 =>
 w10.heap[l5]? = some (mk4 .ready none) ∧
 Nw (w10.putObj l5 (mk4 .busy none)) fun w11 =>
 ldI w11 ((blk w5.heap.size).add 2) .u32 fun x8 =>
 ifB (x8 != (0 : Int))
 (ldM w11 (blk w1.heap.size) fun x9 =>
 ldI w11 ((blk w5.heap.size).add 2) .u32 fun x10 =>
 updW Tryz.prog 150 (.map x9) (.int .u32 x10) (.int .i64 s3.1) w11 fun w12 =>
 w12.heap[l5]? = some (mk4 .busy none) ∧
 S6 (.bool true) (w12.putObj l5 (mk4 .ready none)))
 (w11.heap[l5]? = some (mk4 .busy none) ∧
 S6 (.bool true) (w11.putObj l5 (mk4 .ready none))))
 (fun mk4 l5 d7 w13 =>
 rangeOut mk4 l5 .ready none w13 fun w14 =>
 ldM w14 (blk w1.heap.size) fun x11 =>
 closeM (d7 :: []) w14 fun w15 =>
 R (.map x11) w15)
theorem ids_makers_calls (p0 : Sl) (R : Value → World → Prop) (w : World) (h : L_ids_makers p0 R w) : Calls Tryz.prog 122 #[(.slice p0.a p0.l p0.c)] w (Ret R) :=
 lwR_calls (fs := Tryz.fs) (an := a_ids_makers) (args := [(.slice p0.a p0.l p0.c)]) Tryz.fsOK Tryz.mixed Tryz.func122 (by kernel_rfl) (by kernel_rfl)
 (Eq.mpr (by kernel_rfl : lwRFn Tryz.prog Tryz.fs Tryz.f122 a_ids_makers [(.slice p0.a p0.l p0.c)] w R = L_ids_makers p0 R w) h)

/-- slices.Backward[[]intaglio.api.Inst,intaglio.api.Inst] -/
def a_slices_Backward_sapi_Inst_api_Inst : Ann := (.seq none .nil (.seq none .nil .nil))
def L_slices_Backward_sapi_Inst_api_Inst (p0 : Sl) (R : Value → World → Prop) (w : World) : Prop :=
 Nw (w.alloc (.cells #[(.slice p0.a p0.l p0.c)] 23)) fun w1 =>
 R (.func (.func 217) #[] #[(.pointer (some (blk w.heap.size)))]) w1
theorem slices_Backward_sapi_Inst_api_Inst_calls (p0 : Sl) (R : Value → World → Prop) (w : World) (h : L_slices_Backward_sapi_Inst_api_Inst p0 R w) : Calls Tryz.prog 168 #[(.slice p0.a p0.l p0.c)] w (Ret R) :=
 lw_calls (fs := Tryz.fs) (an := a_slices_Backward_sapi_Inst_api_Inst) (args := [(.slice p0.a p0.l p0.c)]) Tryz.fsOK Tryz.mixed Tryz.func168 (by kernel_rfl) (by kernel_rfl)
 (Eq.mpr (by kernel_rfl : lwFn Tryz.prog Tryz.fs Tryz.f168 a_slices_Backward_sapi_Inst_api_Inst [(.slice p0.a p0.l p0.c)] w R = L_slices_Backward_sapi_Inst_api_Inst p0 R w) h)

/-- slices.Backward[[]intaglio.api.Inst,intaglio.api.Inst] 1 -/
def a_slices_Backward_sapi_Inst_api_Inst__1 : Ann := (.seq none .nil (.one (.loop ⟨[0, 1], [(3, (.b (.int .i64)))]⟩ (.seq none (.seq none .nil (.cond .nil .nil)) (.seq none (.one (.seq none .nil (.cond .nil .nil))) .nil)))))
def L_slices_Backward_sapi_Inst_api_Inst__1 (p0 : Value) (c0 : Addr) (R : Value → World → Prop) (w : World) : Prop :=
 ldS w c0 fun x1 =>
 LoopW (S := Int × Unit) (fun s2 w1 n3 =>
 ifB (decide (s2.1 ≥ (0 : Int)))
 (ldS w1 c0 fun x4 =>
 (0 ≤ s2.1 ∧ s2.1 < (x4.l : Int)) ∧
 derefP x4.a fun a5 =>
 ldI w1 ((a5.add ((Int.toNat s2.1) * 4)).add 0) .u16 fun x6 =>
 ldI w1 ((a5.add ((Int.toNat s2.1) * 4)).add 1) .u32 fun x7 =>
 ldI w1 ((a5.add ((Int.toNat s2.1) * 4)).add 2) .u32 fun x8 =>
 ldS w1 ((a5.add ((Int.toNat s2.1) * 4)).add 3) fun x9 =>
 callV Tryz.prog Tryz.fs p0 [(.int .i64 s2.1), (.agg #[(.int .u16 x6), (.int .u32 x7), (.int .u32 x8), (.slice x9.a x9.l x9.c)])] w1 fun v10 w2 =>
 ∃ x11 : Bool, v10 = (.bool x11) ∧
 ifB (!x11)
 (R (.tuple #[]) w2)
 (n3 ((IntKind.i64.wrap (s2.1 - (1 : Int))), ()) w2))
 (R (.tuple #[]) w1))
 ((IntKind.i64.wrap ((x1.l : Int) - (1 : Int))), ()) w
theorem slices_Backward_sapi_Inst_api_Inst__1_calls (p0 : Value) (c0 : Addr) (R : Value → World → Prop) (w : World) (h : L_slices_Backward_sapi_Inst_api_Inst__1 p0 c0 R w) : Calls Tryz.prog 217 #[p0, (.pointer (some c0))] w (Ret R) :=
 lw_calls (fs := Tryz.fs) (an := a_slices_Backward_sapi_Inst_api_Inst__1) (args := [p0, (.pointer (some c0))]) Tryz.fsOK Tryz.mixed Tryz.func217 (by kernel_rfl) (by kernel_rfl)
 (Eq.mpr (by kernel_rfl : lwFn Tryz.prog Tryz.fs Tryz.f217 a_slices_Backward_sapi_Inst_api_Inst__1 [p0, (.pointer (some c0))] w R = L_slices_Backward_sapi_Inst_api_Inst__1 p0 c0 R w) h)

end Go.Proofs
namespace Go.Proofs
open Go.Gk
set_option linter.unusedVariables false
set_option maxRecDepth 100000

end Go.Proofs
namespace Go.Proofs
open Go.Gk
set_option linter.unusedVariables false
set_option maxRecDepth 100000

/-- intaglio.intagliokit.CopyModule -/
def a_intagliokit_CopyModule : Ann := (.seq none .nil (.seq none .nil (.seq none (.seq none .nil (.one (.loop ⟨[1, 2, 3], [(4, (.b (.int .i64)))]⟩ (.seq none (.seq none .nil (.cond .nil .nil)) (.seq none (.one .nil) .nil))))) (.seq none .nil (.seq none .nil .nil)))))
def L_intagliokit_CopyModule (p0 : (Int × Int × Sl × Unit)) (R : Value → World → Prop) (w : World) : Prop :=
 Nw (w.alloc (.cells #[(.int .u32 p0.1), (.int .u32 p0.2.1), (.slice p0.2.2.1.a p0.2.2.1.l p0.2.2.1.c)] 25)) fun w1 =>
 Nw (w1.alloc (.cells #[(.int .u32 (0 : Int)), (.int .u32 (0 : Int)), (.slice none 0 0)] 25)) fun w2 =>
 ldS w2 ((blk w.heap.size).add 2) fun x1 =>
 (0 ≤ (x1.l : Int) ∧ (x1.l : Int) ≤ (x1.l : Int) ∧ (40 : Int) * (x1.l : Int) ≤ 281474976710656 ∧ (x1.l : Int) ≤ 9223372036854775807) ∧
 Nw (w2.alloc (.cells (madeCells #[(.int .u16 (0 : Int)), (.int .u32 (0 : Int)), (.int .u32 (0 : Int)), (.slice none 0 0)] (x1.l * 4)) 52)) fun w3 =>
 LoopW (S := Int × Unit) (fun s2 w4 n3 =>
 ldS w4 ((blk w.heap.size).add 2) fun x4 =>
 ifB (decide (s2.1 < (x4.l : Int)))
 (ldS w4 ((blk w.heap.size).add 2) fun x5 =>
 (0 ≤ s2.1 ∧ s2.1 < (x5.l : Int)) ∧
 derefP x5.a fun a6 =>
 ldI w4 ((a6.add ((Int.toNat s2.1) * 4)).add 0) .u16 fun x7 =>
 ldI w4 ((a6.add ((Int.toNat s2.1) * 4)).add 1) .u32 fun x8 =>
 ldI w4 ((a6.add ((Int.toNat s2.1) * 4)).add 2) .u32 fun x9 =>
 ldS w4 ((a6.add ((Int.toNat s2.1) * 4)).add 3) fun x10 =>
 callR Tryz.prog 68 #[(.agg #[(.int .u16 x7), (.int .u32 x8), (.int .u32 x9), (.slice x10.a x10.l x10.c)])] w4 fun v11 w5 =>
 ∃ x12 : (Int × Int × Int × Sl × Unit), v11 = (.agg #[(.int .u16 x12.1), (.int .u32 x12.2.1), (.int .u32 x12.2.2.1), (.slice x12.2.2.2.1.a x12.2.2.2.1.l x12.2.2.2.1.c)]) ∧
 (0 ≤ s2.1 ∧ s2.1 < (x1.l : Int)) ∧
 Wr w5 ((blk w2.heap.size).add ((Int.toNat s2.1) * 4)) ∧
 Nw (w5.setCell ((blk w2.heap.size).add ((Int.toNat s2.1) * 4)) (.int .u16 x12.1)) fun w6 =>
 Wr w6 (((blk w2.heap.size).add ((Int.toNat s2.1) * 4)).add 1) ∧
 Nw (w6.setCell (((blk w2.heap.size).add ((Int.toNat s2.1) * 4)).add 1) (.int .u32 x12.2.1)) fun w7 =>
 Wr w7 (((blk w2.heap.size).add ((Int.toNat s2.1) * 4)).add 2) ∧
 Nw (w7.setCell (((blk w2.heap.size).add ((Int.toNat s2.1) * 4)).add 2) (.int .u32 x12.2.2.1)) fun w8 =>
 Wr w8 (((blk w2.heap.size).add ((Int.toNat s2.1) * 4)).add 3) ∧
 Nw (w8.setCell (((blk w2.heap.size).add ((Int.toNat s2.1) * 4)).add 3) (.slice x12.2.2.2.1.a x12.2.2.2.1.l x12.2.2.2.1.c)) fun w9 =>
 n3 ((IntKind.i64.wrap (s2.1 + (1 : Int))), ()) w9)
 (Wr w4 ((blk w.heap.size).add 2) ∧
 Nw (w4.setCell ((blk w.heap.size).add 2) (.slice (some (blk w2.heap.size)) x1.l x1.l)) fun w10 =>
 ldI w10 ((blk w.heap.size).add 0) .u32 fun x13 =>
 ldI w10 ((blk w.heap.size).add 1) .u32 fun x14 =>
 ldS w10 ((blk w.heap.size).add 2) fun x15 =>
 Wr w10 (blk w1.heap.size) ∧
 Nw (w10.setCell (blk w1.heap.size) (.int .u32 x13)) fun w11 =>
 Wr w11 ((blk w1.heap.size).add 1) ∧
 Nw (w11.setCell ((blk w1.heap.size).add 1) (.int .u32 x14)) fun w12 =>
 Wr w12 ((blk w1.heap.size).add 2) ∧
 Nw (w12.setCell ((blk w1.heap.size).add 2) (.slice x15.a x15.l x15.c)) fun w13 =>
 ldI w13 ((blk w1.heap.size).add 0) .u32 fun x16 =>
 ldI w13 ((blk w1.heap.size).add 1) .u32 fun x17 =>
 ldS w13 ((blk w1.heap.size).add 2) fun x18 =>
 R (.agg #[(.int .u32 x16), (.int .u32 x17), (.slice x18.a x18.l x18.c)]) w13))
 ((0 : Int), ()) w3
theorem intagliokit_CopyModule_calls (p0 : (Int × Int × Sl × Unit)) (R : Value → World → Prop) (w : World) (h : L_intagliokit_CopyModule p0 R w) : Calls Tryz.prog 29 #[(.agg #[(.int .u32 p0.1), (.int .u32 p0.2.1), (.slice p0.2.2.1.a p0.2.2.1.l p0.2.2.1.c)])] w (Ret R) :=
 lw_calls (fs := Tryz.fs) (an := a_intagliokit_CopyModule) (args := [(.agg #[(.int .u32 p0.1), (.int .u32 p0.2.1), (.slice p0.2.2.1.a p0.2.2.1.l p0.2.2.1.c)])]) Tryz.fsOK Tryz.mixed Tryz.func29 (by kernel_rfl) (by kernel_rfl)
 (Eq.mpr (by kernel_rfl : lwFn Tryz.prog Tryz.fs Tryz.f29 a_intagliokit_CopyModule [(.agg #[(.int .u32 p0.1), (.int .u32 p0.2.1), (.slice p0.2.2.1.a p0.2.2.1.l p0.2.2.1.c)])] w R = L_intagliokit_CopyModule p0 R w) h)

end Go.Proofs
namespace Go.Proofs
open Go.Gk
set_option linter.unusedVariables false
set_option maxRecDepth 100000

/-- intaglio.code.Shape -/
def a_code_Shape : Ann := (.seq none .nil (.seq none .nil (.seq none .nil .nil)))
def L_code_Shape (p0 : (Int × Int × Sl × Unit)) (R : Value → World → Prop) (w : World) : Prop :=
 Nw (w.alloc (.cells #[(.int .u32 p0.1), (.int .u32 p0.2.1), (.slice p0.2.2.1.a p0.2.2.1.l p0.2.2.1.c)] 25)) fun w1 =>
 Nw (w1.alloc (.cells #[(.int .i64 (0 : Int)), (.int .i64 (0 : Int))] 44)) fun w2 =>
 ldI w2 ((blk w.heap.size).add 0) .u32 fun x1 =>
 ldI w2 ((blk w.heap.size).add 1) .u32 fun x2 =>
 ldS w2 ((blk w.heap.size).add 2) fun x3 =>
 callR Tryz.prog 108 #[(.agg #[(.int .u32 x1), (.int .u32 x2), (.slice x3.a x3.l x3.c)])] w2 fun v4 w3 =>
 ∃ x5 : Sl, ∃ x6 : (Int × Int × Unit), v4 = (.tuple #[(.slice x5.a x5.l x5.c), (.agg #[(.int .i64 x6.1), (.int .i64 x6.2.1)])]) ∧
 Nw (w3.alloc (.cells #[(.int .i64 (0 : Int)), (.int .i64 (0 : Int))] 44)) fun w4 =>
 Wr w4 (blk w3.heap.size) ∧
 Nw (w4.setCell (blk w3.heap.size) (.int .i64 x6.1)) fun w5 =>
 Wr w5 ((blk w3.heap.size).add 1) ∧
 Nw (w5.setCell ((blk w3.heap.size).add 1) (.int .i64 x6.2.1)) fun w6 =>
 ldI w6 ((blk w3.heap.size).add 0) .i64 fun x7 =>
 ldI w6 ((blk w3.heap.size).add 1) .i64 fun x8 =>
 Wr w6 (blk w1.heap.size) ∧
 Nw (w6.setCell (blk w1.heap.size) (.int .i64 x7)) fun w7 =>
 Wr w7 ((blk w1.heap.size).add 1) ∧
 Nw (w7.setCell ((blk w1.heap.size).add 1) (.int .i64 x8)) fun w8 =>
 ldI w8 ((blk w1.heap.size).add 0) .i64 fun x9 =>
 ldI w8 ((blk w1.heap.size).add 1) .i64 fun x10 =>
 R (.agg #[(.int .i64 x9), (.int .i64 x10)]) w8
theorem code_Shape_calls (p0 : (Int × Int × Sl × Unit)) (R : Value → World → Prop) (w : World) (h : L_code_Shape p0 R w) : Calls Tryz.prog 73 #[(.agg #[(.int .u32 p0.1), (.int .u32 p0.2.1), (.slice p0.2.2.1.a p0.2.2.1.l p0.2.2.1.c)])] w (Ret R) :=
 lw_calls (fs := Tryz.fs) (an := a_code_Shape) (args := [(.agg #[(.int .u32 p0.1), (.int .u32 p0.2.1), (.slice p0.2.2.1.a p0.2.2.1.l p0.2.2.1.c)])]) Tryz.fsOK Tryz.mixed Tryz.func73 (by kernel_rfl) (by kernel_rfl)
 (Eq.mpr (by kernel_rfl : lwFn Tryz.prog Tryz.fs Tryz.f73 a_code_Shape [(.agg #[(.int .u32 p0.1), (.int .u32 p0.2.1), (.slice p0.2.2.1.a p0.2.2.1.l p0.2.2.1.c)])] w R = L_code_Shape p0 R w) h)

/-- intaglio.code.raws -/
def a_code_raws : Ann := (.seq none .nil (.seq (some ⟨[1, 3], []⟩) (.seq none .nil (.cond (.seq none .nil .nil) .nil)) (.seq none .nil (.seq none .nil (.seq none .nil (.seq none (.seq none .nil (.one (.loop ⟨[1, 3, 27, 28], [(4, (.b (.int .i64))), (6, (.b .slice)), (29, (.b (.int .i64)))]⟩ (.seq none .nil (.seq none (.cond .nil .nil) (.seq none (.one (.seq none .nil (.seq none .nil (.seq none .nil (.seq none (.one (.seq none .nil (.cond (.seq none .nil .nil) (.seq none .nil (.cond (.seq none .nil .nil) .nil))))) .nil))))) .nil)))))) (.seq none .nil .nil)))))))
def L_code_raws (p0 : (Int × Int × Sl × Unit)) (R : Value → World → Prop) (w : World) : Prop :=
 Nw (w.alloc (.cells #[(.int .u32 p0.1), (.int .u32 p0.2.1), (.slice p0.2.2.1.a p0.2.2.1.l p0.2.2.1.c)] 25)) fun w1 =>
 Nw (w1.alloc (.cells #[(.int .i64 (0 : Int)), (.int .i64 (0 : Int))] 44)) fun w2 =>
 JoinW (S := Unit) (fun m1 =>
 ldI w2 ((blk w.heap.size).add 1) .u32 fun x3 =>
 ifB (x3 == (0 : Int))
 (Wr w2 (blk w1.heap.size) ∧
 Nw (w2.setCell (blk w1.heap.size) (.int .i64 (24 : Int))) fun w3 =>
 Wr w3 ((blk w1.heap.size).add 1) ∧
 Nw (w3.setCell ((blk w1.heap.size).add 1) (.int .i64 (0 : Int))) fun w4 =>
 ldI w4 ((blk w1.heap.size).add 0) .i64 fun x4 =>
 ldI w4 ((blk w1.heap.size).add 1) .i64 fun x5 =>
 R (.tuple #[(.slice none 0 0), (.agg #[(.int .i64 x4), (.int .i64 x5)])]) w4)
 (ldI w2 ((blk w.heap.size).add 1) .u32 fun x6 =>
 ifB (decide (x6 > (65536 : Int)))
 (Wr w2 (blk w1.heap.size) ∧
 Nw (w2.setCell (blk w1.heap.size) (.int .i64 (24 : Int))) fun w5 =>
 Wr w5 ((blk w1.heap.size).add 1) ∧
 Nw (w5.setCell ((blk w1.heap.size).add 1) (.int .i64 (0 : Int))) fun w6 =>
 ldI w6 ((blk w1.heap.size).add 0) .i64 fun x7 =>
 ldI w6 ((blk w1.heap.size).add 1) .i64 fun x8 =>
 R (.tuple #[(.slice none 0 0), (.agg #[(.int .i64 x7), (.int .i64 x8)])]) w6)
 (m1 (()) w2)))
 (fun s2 w7 =>
 callR Tryz.prog 152 #[(.slice none 0 0)] w7 fun v9 w8 =>
 ∃ x10 : Int, ∃ x11 : Int, v9 = (.tuple #[(.int .i64 x10), (.int .i64 x11)]) ∧
 ldS w8 ((blk w.heap.size).add 2) fun x12 =>
 LoopW (S := Int × Sl × Int × Unit) (fun s13 w9 n14 =>
 ifB (decide (s13.2.2.1 < (x12.l : Int)))
 ((0 ≤ s13.2.2.1 ∧ s13.2.2.1 < (x12.l : Int)) ∧
 derefP x12.a fun a15 =>
 ldI w9 ((a15.add ((Int.toNat s13.2.2.1) * 4)).add 0) .u16 fun x16 =>
 ldI w9 ((a15.add ((Int.toNat s13.2.2.1) * 4)).add 1) .u32 fun x17 =>
 ldI w9 ((a15.add ((Int.toNat s13.2.2.1) * 4)).add 2) .u32 fun x18 =>
 ldS w9 ((a15.add ((Int.toNat s13.2.2.1) * 4)).add 3) fun x19 =>
 Nw (w9.alloc (.cells #[(.int .u16 (0 : Int)), (.int .u32 (0 : Int)), (.int .u32 (0 : Int)), (.slice none 0 0)] 52)) fun w10 =>
 Wr w10 (blk w9.heap.size) ∧
 Nw (w10.setCell (blk w9.heap.size) (.int .u16 x16)) fun w11 =>
 Wr w11 ((blk w9.heap.size).add 1) ∧
 Nw (w11.setCell ((blk w9.heap.size).add 1) (.int .u32 x17)) fun w12 =>
 Wr w12 ((blk w9.heap.size).add 2) ∧
 Nw (w12.setCell ((blk w9.heap.size).add 2) (.int .u32 x18)) fun w13 =>
 Wr w13 ((blk w9.heap.size).add 3) ∧
 Nw (w13.setCell ((blk w9.heap.size).add 3) (.slice x19.a x19.l x19.c)) fun w14 =>
 ldI w14 ((blk w9.heap.size).add 0) .u16 fun x20 =>
 ldI w14 ((blk w9.heap.size).add 1) .u32 fun x21 =>
 ldI w14 ((blk w9.heap.size).add 2) .u32 fun x22 =>
 ldS w14 ((blk w9.heap.size).add 3) fun x23 =>
 ldI w14 ((blk w.heap.size).add 1) .u32 fun x24 =>
 callR Tryz.prog 153 #[(.agg #[(.int .u16 x20), (.int .u32 x21), (.int .u32 x22), (.slice x23.a x23.l x23.c)]), (.int .u32 x24)] w14 fun v25 w15 =>
 ∃ x26 : (Int × Sl × Unit), ∃ x27 : Int, v25 = (.tuple #[(.agg #[(.int .u16 x26.1), (.slice x26.2.1.a x26.2.1.l x26.2.1.c)]), (.int .i64 x27)]) ∧
 Nw (w15.alloc (.cells #[(.int .u16 (0 : Int)), (.slice none 0 0)] 245)) fun w16 =>
 Wr w16 (blk w15.heap.size) ∧
 Nw (w16.setCell (blk w15.heap.size) (.int .u16 x26.1)) fun w17 =>
 Wr w17 ((blk w15.heap.size).add 1) ∧
 Nw (w17.setCell ((blk w15.heap.size).add 1) (.slice x26.2.1.a x26.2.1.l x26.2.1.c)) fun w18 =>
 ldS w18 ((blk w15.heap.size).add 1) fun x28 =>
 ifB (x27 != (0 : Int))
 (Wr w18 (blk w1.heap.size) ∧
 Nw (w18.setCell (blk w1.heap.size) (.int .i64 x27)) fun w19 =>
 Wr w19 ((blk w1.heap.size).add 1) ∧
 Nw (w19.setCell ((blk w1.heap.size).add 1) (.int .i64 s13.2.2.1)) fun w20 =>
 ldI w20 ((blk w1.heap.size).add 0) .i64 fun x29 =>
 ldI w20 ((blk w1.heap.size).add 1) .i64 fun x30 =>
 R (.tuple #[(.slice none 0 0), (.agg #[(.int .i64 x29), (.int .i64 x30)])]) w20)
 (ifB (decide ((IntKind.i64.wrap (s13.1 - (IntKind.i64.wrap ((1 : Int) + (x28.l : Int))))) < (0 : Int)))
 (Wr w18 (blk w1.heap.size) ∧
 Nw (w18.setCell (blk w1.heap.size) (.int .i64 (4 : Int))) fun w21 =>
 Wr w21 ((blk w1.heap.size).add 1) ∧
 Nw (w21.setCell ((blk w1.heap.size).add 1) (.int .i64 s13.2.2.1)) fun w22 =>
 ldI w22 ((blk w1.heap.size).add 0) .i64 fun x31 =>
 ldI w22 ((blk w1.heap.size).add 1) .i64 fun x32 =>
 R (.tuple #[(.slice none 0 0), (.agg #[(.int .i64 x31), (.int .i64 x32)])]) w22)
 (ldI w18 ((blk w15.heap.size).add 0) .u16 fun x33 =>
 ldS w18 ((blk w15.heap.size).add 1) fun x34 =>
 Nw (w18.alloc (.cells #[(.int .u16 x33), (.slice x34.a x34.l x34.c)] 245)) fun w23 =>
 appendS Tryz.prog 199 (.slice s13.2.1.a s13.2.1.l s13.2.1.c) (.slice (some (blk w18.heap.size)) 1 1) w23 fun r35 w24 =>
 n14 ((IntKind.i64.wrap (s13.1 - (IntKind.i64.wrap ((1 : Int) + (x28.l : Int))))), r35, (IntKind.i64.wrap (s13.2.2.1 + (1 : Int))), ()) w24)))
 (Wr w9 (blk w1.heap.size) ∧
 Nw (w9.setCell (blk w1.heap.size) (.int .i64 (0 : Int))) fun w25 =>
 Wr w25 ((blk w1.heap.size).add 1) ∧
 Nw (w25.setCell ((blk w1.heap.size).add 1) (.int .i64 (0 : Int))) fun w26 =>
 ldI w26 ((blk w1.heap.size).add 0) .i64 fun x36 =>
 ldI w26 ((blk w1.heap.size).add 1) .i64 fun x37 =>
 R (.tuple #[(.slice s13.2.1.a s13.2.1.l s13.2.1.c), (.agg #[(.int .i64 x36), (.int .i64 x37)])]) w26))
 ((IntKind.i64.wrap ((1048576 : Int) - x10)), (Sl.mk none 0 0), (0 : Int), ()) w8)
theorem code_raws_calls (p0 : (Int × Int × Sl × Unit)) (R : Value → World → Prop) (w : World) (h : L_code_raws p0 R w) : Calls Tryz.prog 108 #[(.agg #[(.int .u32 p0.1), (.int .u32 p0.2.1), (.slice p0.2.2.1.a p0.2.2.1.l p0.2.2.1.c)])] w (Ret R) :=
 lw_calls (fs := Tryz.fs) (an := a_code_raws) (args := [(.agg #[(.int .u32 p0.1), (.int .u32 p0.2.1), (.slice p0.2.2.1.a p0.2.2.1.l p0.2.2.1.c)])]) Tryz.fsOK Tryz.mixed Tryz.func108 (by kernel_rfl) (by kernel_rfl)
 (Eq.mpr (by kernel_rfl : lwFn Tryz.prog Tryz.fs Tryz.f108 a_code_raws [(.agg #[(.int .u32 p0.1), (.int .u32 p0.2.1), (.slice p0.2.2.1.a p0.2.2.1.l p0.2.2.1.c)])] w R = L_code_raws p0 R w) h)

/-- intaglio.code.Ids -/
def a_code_Ids : Ann := (.seq none .nil (.seq none .nil (.seq (some ⟨[1], [(3, (.b .slice))]⟩) (.seq none .nil (.cond .nil .nil)) (.seq none (.seq none .nil (.one (.loop ⟨[15, 16], [(3, (.b .slice)), (17, (.b (.int .i64)))]⟩ (.seq none .nil (.seq none (.cond .nil .nil) (.seq (some ⟨[15, 16, 17], [(3, (.b .slice))]⟩) (.one (.seq none .nil (.seq none .nil (.cond .nil .nil)))) .nil)))))) (.seq none .nil .nil)))))
def L_code_Ids (p0 : (Int × Int × Int × Sl × Unit)) (R : Value → World → Prop) (w : World) : Prop :=
 Nw (w.alloc (.cells #[(.int .u16 p0.1), (.int .u32 p0.2.1), (.int .u32 p0.2.2.1), (.slice p0.2.2.2.1.a p0.2.2.2.1.l p0.2.2.2.1.c)] 52)) fun w1 =>
 JoinW (S := Sl × Unit) (fun m1 =>
 ldI w1 ((blk w.heap.size).add 1) .u32 fun x3 =>
 ifB (x3 != (0 : Int))
 (ldI w1 ((blk w.heap.size).add 1) .u32 fun x4 =>
 Nw (w1.alloc (.cells #[(.int .u32 x4)] 22)) fun w2 =>
 appendS Tryz.prog 30 (.slice none 0 0) (.slice (some (blk w1.heap.size)) 1 1) w2 fun r5 w3 =>
 m1 (r5, ()) w3)
 (m1 ((Sl.mk none 0 0), ()) w1))
 (fun s2 w4 =>
 ldS w4 ((blk w.heap.size).add 3) fun x6 =>
 LoopW (S := Sl × Int × Unit) (fun s7 w5 n8 =>
 ifB (decide (s7.2.1 < (x6.l : Int)))
 (JoinW (S := Sl × Unit) (fun m9 =>
 (0 ≤ s7.2.1 ∧ s7.2.1 < (x6.l : Int)) ∧
 derefP x6.a fun a11 =>
 ldI w5 ((a11.add ((Int.toNat s7.2.1) * 3)).add 0) .u8 fun x12 =>
 ldI w5 ((a11.add ((Int.toNat s7.2.1) * 3)).add 1) .u32 fun x13 =>
 ldStr w5 ((a11.add ((Int.toNat s7.2.1) * 3)).add 2) fun x14 =>
 Nw (w5.alloc (.cells #[(.int .u8 (0 : Int)), (.int .u32 (0 : Int)), (.string (ByteArray.mk #[]))] 55)) fun w6 =>
 Wr w6 (blk w5.heap.size) ∧
 Nw (w6.setCell (blk w5.heap.size) (.int .u8 x12)) fun w7 =>
 Wr w7 ((blk w5.heap.size).add 1) ∧
 Nw (w7.setCell ((blk w5.heap.size).add 1) (.int .u32 x13)) fun w8 =>
 Wr w8 ((blk w5.heap.size).add 2) ∧
 Nw (w8.setCell ((blk w5.heap.size).add 2) (.string x14)) fun w9 =>
 ldI w9 (blk w5.heap.size) .u8 fun x15 =>
 ifB (x15 == (1 : Int))
 (ldI w9 ((blk w5.heap.size).add 1) .u32 fun x16 =>
 Nw (w9.alloc (.cells #[(.int .u32 x16)] 22)) fun w10 =>
 appendS Tryz.prog 30 (.slice s7.1.a s7.1.l s7.1.c) (.slice (some (blk w9.heap.size)) 1 1) w10 fun r17 w11 =>
 m9 (r17, ()) w11)
 (m9 (s7.1, ()) w9))
 (fun s10 w12 =>
 n8 (s10.1, (IntKind.i64.wrap (s7.2.1 + (1 : Int))), ()) w12))
 (R (.slice s7.1.a s7.1.l s7.1.c) w5))
 (s2.1, (0 : Int), ()) w4)
theorem code_Ids_calls (p0 : (Int × Int × Int × Sl × Unit)) (R : Value → World → Prop) (w : World) (h : L_code_Ids p0 R w) : Calls Tryz.prog 123 #[(.agg #[(.int .u16 p0.1), (.int .u32 p0.2.1), (.int .u32 p0.2.2.1), (.slice p0.2.2.2.1.a p0.2.2.2.1.l p0.2.2.2.1.c)])] w (Ret R) :=
 lw_calls (fs := Tryz.fs) (an := a_code_Ids) (args := [(.agg #[(.int .u16 p0.1), (.int .u32 p0.2.1), (.int .u32 p0.2.2.1), (.slice p0.2.2.2.1.a p0.2.2.2.1.l p0.2.2.2.1.c)])]) Tryz.fsOK Tryz.mixed Tryz.func123 (by kernel_rfl) (by kernel_rfl)
 (Eq.mpr (by kernel_rfl : lwFn Tryz.prog Tryz.fs Tryz.f123 a_code_Ids [(.agg #[(.int .u16 p0.1), (.int .u32 p0.2.1), (.int .u32 p0.2.2.1), (.slice p0.2.2.2.1.a p0.2.2.2.1.l p0.2.2.2.1.c)])] w R = L_code_Ids p0 R w) h)

/-- intaglio.frame.Size -/
def a_frame_Size : Ann := (.seq none .nil (.seq none .nil (.seq none .nil .nil)))
def L_frame_Size (p0 : Sl) (R : Value → World → Prop) (w : World) : Prop :=
 callR Tryz.prog 186 #[(.slice p0.a p0.l p0.c)] w fun v1 w1 =>
 ∃ x2 : Int, ∃ x3 : (Int × Int × Unit), v1 = (.tuple #[(.int .i64 x2), (.agg #[(.int .i64 x3.1), (.int .i64 x3.2.1)])]) ∧
 Nw (w1.alloc (.cells #[(.int .i64 (0 : Int)), (.int .i64 (0 : Int))] 44)) fun w2 =>
 Wr w2 (blk w1.heap.size) ∧
 Nw (w2.setCell (blk w1.heap.size) (.int .i64 x3.1)) fun w3 =>
 Wr w3 ((blk w1.heap.size).add 1) ∧
 Nw (w3.setCell ((blk w1.heap.size).add 1) (.int .i64 x3.2.1)) fun w4 =>
 ldI w4.drew (blk w1.heap.size) .i64 fun x4 =>
 R (.tuple #[(.int .i64 x2), (.int .i64 x4)]) w4.drew
theorem frame_Size_calls (p0 : Sl) (R : Value → World → Prop) (w : World) (h : L_frame_Size p0 R w) : Calls Tryz.prog 152 #[(.slice p0.a p0.l p0.c)] w (Ret R) :=
 lw_calls (fs := Tryz.fs) (an := a_frame_Size) (args := [(.slice p0.a p0.l p0.c)]) Tryz.fsOK Tryz.mixed Tryz.func152 (by kernel_rfl) (by kernel_rfl)
 (Eq.mpr (by kernel_rfl : lwFn Tryz.prog Tryz.fs Tryz.f152 a_frame_Size [(.slice p0.a p0.l p0.c)] w R = L_frame_Size p0 R w) h)

/-- intaglio.code.Raw -/
def a_code_Raw : Ann := (.seq none .nil (.seq none .nil (.seq none (.seq none .nil (.cond (.seq none .nil .nil) .nil)) (.seq none .nil (.seq none .nil (.seq (some ⟨[2, 4, 6, 8], [(9, (.b (.int .i64)))]⟩) (.seq none .nil (.cond .nil .nil)) (.seq none .nil (.seq none (.seq none .nil (.one (.loop ⟨[2, 4, 6, 8, 10, 43, 44], [(9, (.b (.int .i64))), (45, (.b (.int .i64)))]⟩ (.seq none .nil (.seq none (.cond .nil .nil) (.seq (some ⟨[2, 4, 6, 8, 10, 43, 44, 45], [(9, (.b (.int .i64)))]⟩) (.one (.seq none .nil (.seq none .nil (.cond .nil .nil)))) .nil)))))) (.seq (some ⟨[2, 4, 8], [(9, (.b (.int .i64)))]⟩) (.seq none .nil (.cond .nil .nil)) (.seq (some ⟨[2, 4, 8], [(9, (.b (.int .i64)))]⟩) (.seq none .nil (.cond .nil .nil)) (.seq none (.seq none .nil (.cond (.seq none .nil .nil) .nil)) (.seq none .nil .nil))))))))))))
def L_code_Raw (p0 : (Int × Int × Int × Sl × Unit)) (p1 : Int) (R : Value → World → Prop) (w : World) : Prop :=
 Nw (w.alloc (.cells #[(.int .u16 p0.1), (.int .u32 p0.2.1), (.int .u32 p0.2.2.1), (.slice p0.2.2.2.1.a p0.2.2.2.1.l p0.2.2.2.1.c)] 52)) fun w1 =>
 Nw (w1.alloc (.cells #[(.int .u16 (0 : Int)), (.slice none 0 0)] 245)) fun w2 =>
 ldI w2 (blk w.heap.size) .u16 fun x1 =>
 callR Tryz.prog 187 #[(.int .u16 x1)] w2 fun v2 w3 =>
 ∃ x3 : (Int × ByteArray × Bool × Bool × ByteArray × ByteArray × Int × Int × Unit), ∃ x4 : Bool, v2 = (.tuple #[(.agg #[(.int .u16 x3.1), (.string x3.2.1), (.bool x3.2.2.1), (.bool x3.2.2.2.1), (.string x3.2.2.2.2.1), (.string x3.2.2.2.2.2.1), (.int .i64 x3.2.2.2.2.2.2.1), (.int .u8 x3.2.2.2.2.2.2.2.1)]), (.bool x4)]) ∧
 Nw (w3.alloc (.cells #[(.int .u16 (0 : Int)), (.string (ByteArray.mk #[])), (.bool false), (.bool false), (.string (ByteArray.mk #[])), (.string (ByteArray.mk #[])), (.int .i64 (0 : Int)), (.int .u8 (0 : Int))] 172)) fun w4 =>
 Wr w4 (blk w3.heap.size) ∧
 Nw (w4.setCell (blk w3.heap.size) (.int .u16 x3.1)) fun w5 =>
 Wr w5 ((blk w3.heap.size).add 1) ∧
 Nw (w5.setCell ((blk w3.heap.size).add 1) (.string x3.2.1)) fun w6 =>
 Wr w6 ((blk w3.heap.size).add 2) ∧
 Nw (w6.setCell ((blk w3.heap.size).add 2) (.bool x3.2.2.1)) fun w7 =>
 Wr w7 ((blk w3.heap.size).add 3) ∧
 Nw (w7.setCell ((blk w3.heap.size).add 3) (.bool x3.2.2.2.1)) fun w8 =>
 Wr w8 ((blk w3.heap.size).add 4) ∧
 Nw (w8.setCell ((blk w3.heap.size).add 4) (.string x3.2.2.2.2.1)) fun w9 =>
 Wr w9 ((blk w3.heap.size).add 5) ∧
 Nw (w9.setCell ((blk w3.heap.size).add 5) (.string x3.2.2.2.2.2.1)) fun w10 =>
 Wr w10 ((blk w3.heap.size).add 6) ∧
 Nw (w10.setCell ((blk w3.heap.size).add 6) (.int .i64 x3.2.2.2.2.2.2.1)) fun w11 =>
 Wr w11 ((blk w3.heap.size).add 7) ∧
 Nw (w11.setCell ((blk w3.heap.size).add 7) (.int .u8 x3.2.2.2.2.2.2.2.1)) fun w12 =>
 ifB (!x4)
 (Wr w12 (blk w1.heap.size) ∧
 Nw (w12.setCell (blk w1.heap.size) (.int .u16 (0 : Int))) fun w13 =>
 Wr w13 ((blk w1.heap.size).add 1) ∧
 Nw (w13.setCell ((blk w1.heap.size).add 1) (.slice none 0 0)) fun w14 =>
 ldI w14 ((blk w1.heap.size).add 0) .u16 fun x5 =>
 ldS w14 ((blk w1.heap.size).add 1) fun x6 =>
 R (.tuple #[(.agg #[(.int .u16 x5), (.slice x6.a x6.l x6.c)]), (.int .i64 (30 : Int))]) w14)
 (ldI w12 ((blk w3.heap.size).add 0) .u16 fun x7 =>
 ldStr w12 ((blk w3.heap.size).add 1) fun x8 =>
 ldB w12 ((blk w3.heap.size).add 2) fun x9 =>
 ldB w12 ((blk w3.heap.size).add 3) fun x10 =>
 ldStr w12 ((blk w3.heap.size).add 4) fun x11 =>
 ldStr w12 ((blk w3.heap.size).add 5) fun x12 =>
 ldI w12 ((blk w3.heap.size).add 6) .i64 fun x13 =>
 ldI w12 ((blk w3.heap.size).add 7) .u8 fun x14 =>
 Nw (w12.alloc (.cells #[(.int .u16 x7), (.string x8), (.bool x9), (.bool x10), (.string x11), (.string x12), (.int .i64 x13), (.int .u8 x14), (.int .u32 p1), (.slice none 0 0), (.int .i64 (0 : Int))] 274)) fun w15 =>
 ldB w15 ((blk w3.heap.size).add 2) fun x15 =>
 ldI w15 ((blk w.heap.size).add 1) .u32 fun x16 =>
 callR Tryz.prog 188 #[(.pointer (some (blk w12.heap.size))), (.bool x15), (.int .u32 x16), (.int .i64 (40 : Int))] w15 fun v17 w16 =>
 ∃ x18 : Int, v17 = (.int .i64 x18) ∧
 JoinW (S := Int × Unit) (fun m19 =>
 ifB (x18 == (0 : Int))
 (ldB w16 ((blk w3.heap.size).add 3) fun x21 =>
 ldI w16 ((blk w.heap.size).add 2) .u32 fun x22 =>
 callR Tryz.prog 188 #[(.pointer (some (blk w12.heap.size))), (.bool x21), (.int .u32 x22), (.int .i64 (41 : Int))] w16 fun v23 w17 =>
 ∃ x24 : Int, v23 = (.int .i64 x24) ∧
 m19 (x24, ()) w17)
 (m19 (x18, ()) w16))
 (fun s20 w18 =>
 ldS w18 ((blk w.heap.size).add 3) fun x25 =>
 LoopW (S := Int × Int × Unit) (fun s26 w19 n27 =>
 ifB (decide (s26.2.1 < (x25.l : Int)))
 (JoinW (S := Int × Unit) (fun m28 =>
 (0 ≤ s26.2.1 ∧ s26.2.1 < (x25.l : Int)) ∧
 derefP x25.a fun a30 =>
 ldI w19 ((a30.add ((Int.toNat s26.2.1) * 3)).add 0) .u8 fun x31 =>
 ldI w19 ((a30.add ((Int.toNat s26.2.1) * 3)).add 1) .u32 fun x32 =>
 ldStr w19 ((a30.add ((Int.toNat s26.2.1) * 3)).add 2) fun x33 =>
 Nw (w19.alloc (.cells #[(.int .u8 (0 : Int)), (.int .u32 (0 : Int)), (.string (ByteArray.mk #[]))] 55)) fun w20 =>
 Wr w20 (blk w19.heap.size) ∧
 Nw (w20.setCell (blk w19.heap.size) (.int .u8 x31)) fun w21 =>
 Wr w21 ((blk w19.heap.size).add 1) ∧
 Nw (w21.setCell ((blk w19.heap.size).add 1) (.int .u32 x32)) fun w22 =>
 Wr w22 ((blk w19.heap.size).add 2) ∧
 Nw (w22.setCell ((blk w19.heap.size).add 2) (.string x33)) fun w23 =>
 ifB (s26.1 == (0 : Int))
 (ldI w23 ((blk w19.heap.size).add 0) .u8 fun x34 =>
 ldI w23 ((blk w19.heap.size).add 1) .u32 fun x35 =>
 ldStr w23 ((blk w19.heap.size).add 2) fun x36 =>
 callR Tryz.prog 189 #[(.pointer (some (blk w12.heap.size))), (.int .i64 s26.2.1), (.agg #[(.int .u8 x34), (.int .u32 x35), (.string x36)])] w23 fun v37 w24 =>
 ∃ x38 : Int, v37 = (.int .i64 x38) ∧
 m28 (x38, ()) w24)
 (m28 (s26.1, ()) w23))
 (fun s29 w25 =>
 n27 (s29.1, (IntKind.i64.wrap (s26.2.1 + (1 : Int))), ()) w25))
 (JoinW (S := Int × Unit) (fun m39 =>
 ifB (s26.1 == (0 : Int))
 (ldI w19 ((blk w3.heap.size).add 0) .u16 fun x41 =>
 ldStr w19 ((blk w3.heap.size).add 1) fun x42 =>
 ldB w19 ((blk w3.heap.size).add 2) fun x43 =>
 ldB w19 ((blk w3.heap.size).add 3) fun x44 =>
 ldStr w19 ((blk w3.heap.size).add 4) fun x45 =>
 ldStr w19 ((blk w3.heap.size).add 5) fun x46 =>
 ldI w19 ((blk w3.heap.size).add 6) .i64 fun x47 =>
 ldI w19 ((blk w3.heap.size).add 7) .u8 fun x48 =>
 ldS w19 ((blk w.heap.size).add 3) fun x49 =>
 callR Tryz.prog 190 #[(.agg #[(.int .u16 x41), (.string x42), (.bool x43), (.bool x44), (.string x45), (.string x46), (.int .i64 x47), (.int .u8 x48)]), (.slice x49.a x49.l x49.c)] w19 fun v50 w26 =>
 ∃ x51 : Int, v50 = (.int .i64 x51) ∧
 m39 (x51, ()) w26)
 (m39 (s26.1, ()) w19))
 (fun s40 w27 =>
 JoinW (S := Int × Unit) (fun m52 =>
 ifB (s40.1 == (0 : Int))
 (ldI w27 ((blk w12.heap.size).add 10) .i64 fun x54 =>
 ifB (decide (x54 ≥ (65535 : Int)))
 (m52 ((25 : Int), ()) w27)
 (m52 (s40.1, ()) w27))
 (m52 (s40.1, ()) w27))
 (fun s53 w28 =>
 ifB (s53.1 != (0 : Int))
 (Wr w28 (blk w1.heap.size) ∧
 Nw (w28.setCell (blk w1.heap.size) (.int .u16 (0 : Int))) fun w29 =>
 Wr w29 ((blk w1.heap.size).add 1) ∧
 Nw (w29.setCell ((blk w1.heap.size).add 1) (.slice none 0 0)) fun w30 =>
 ldI w30 ((blk w1.heap.size).add 0) .u16 fun x55 =>
 ldS w30 ((blk w1.heap.size).add 1) fun x56 =>
 R (.tuple #[(.agg #[(.int .u16 x55), (.slice x56.a x56.l x56.c)]), (.int .i64 s53.1)]) w30)
 (ldI w28.drew (blk w.heap.size) .u16 fun x57 =>
 ldS w28.drew ((blk w12.heap.size).add 9) fun x58 =>
 Wr w28.drew (blk w1.heap.size) ∧
 Nw (w28.drew.setCell (blk w1.heap.size) (.int .u16 x57)) fun w31 =>
 Wr w31 ((blk w1.heap.size).add 1) ∧
 Nw (w31.setCell ((blk w1.heap.size).add 1) (.slice x58.a x58.l x58.c)) fun w32 =>
 ldI w32 ((blk w1.heap.size).add 0) .u16 fun x59 =>
 ldS w32 ((blk w1.heap.size).add 1) fun x60 =>
 R (.tuple #[(.agg #[(.int .u16 x59), (.slice x60.a x60.l x60.c)]), (.int .i64 (0 : Int))]) w32)))))
 (s20.1, (0 : Int), ()) w18))
theorem code_Raw_calls (p0 : (Int × Int × Int × Sl × Unit)) (p1 : Int) (R : Value → World → Prop) (w : World) (h : L_code_Raw p0 p1 R w) : Calls Tryz.prog 153 #[(.agg #[(.int .u16 p0.1), (.int .u32 p0.2.1), (.int .u32 p0.2.2.1), (.slice p0.2.2.2.1.a p0.2.2.2.1.l p0.2.2.2.1.c)]), (.int .u32 p1)] w (Ret R) :=
 lw_calls (fs := Tryz.fs) (an := a_code_Raw) (args := [(.agg #[(.int .u16 p0.1), (.int .u32 p0.2.1), (.int .u32 p0.2.2.1), (.slice p0.2.2.2.1.a p0.2.2.2.1.l p0.2.2.2.1.c)]), (.int .u32 p1)]) Tryz.fsOK Tryz.mixed Tryz.func153 (by kernel_rfl) (by kernel_rfl)
 (Eq.mpr (by kernel_rfl : lwFn Tryz.prog Tryz.fs Tryz.f153 a_code_Raw [(.agg #[(.int .u16 p0.1), (.int .u32 p0.2.1), (.int .u32 p0.2.2.1), (.slice p0.2.2.2.1.a p0.2.2.2.1.l p0.2.2.2.1.c)]), (.int .u32 p1)] w R = L_code_Raw p0 p1 R w) h)

/-- intaglio.frame.counted -/
def a_frame_counted : Ann := (.seq none .nil (.seq none .nil (.seq none (.seq none .nil (.one (.loop ⟨[3, 7, 8], [(4, (.b (.int .i64))), (9, (.b (.int .i64)))]⟩ (.seq none .nil (.seq none (.cond .nil .nil) (.seq none (.one (.seq none .nil (.seq none .nil (.one (.seq none .nil (.cond (.seq none .nil .nil) (.seq none .nil (.cond (.seq none .nil .nil) .nil)))))))) .nil)))))) (.seq none .nil .nil))))
def L_frame_counted (p0 : Sl) (R : Value → World → Prop) (w : World) : Prop :=
 Nw (w.alloc (.cells #[(.int .i64 (0 : Int)), (.int .i64 (0 : Int))] 44)) fun w1 =>
 LoopW (S := Int × Int × Unit) (fun s1 w2 n2 =>
 ifB (decide (s1.2.1 < (p0.l : Int)))
 ((0 ≤ s1.2.1 ∧ s1.2.1 < (p0.l : Int)) ∧
 derefP p0.a fun a3 =>
 ldI w2 ((a3.add ((Int.toNat s1.2.1) * 2)).add 0) .u16 fun x4 =>
 ldS w2 ((a3.add ((Int.toNat s1.2.1) * 2)).add 1) fun x5 =>
 Nw (w2.alloc (.cells #[(.int .u16 (0 : Int)), (.slice none 0 0)] 245)) fun w3 =>
 Wr w3 (blk w2.heap.size) ∧
 Nw (w3.setCell (blk w2.heap.size) (.int .u16 x4)) fun w4 =>
 Wr w4 ((blk w2.heap.size).add 1) ∧
 Nw (w4.setCell ((blk w2.heap.size).add 1) (.slice x5.a x5.l x5.c)) fun w5 =>
 ldS w5 ((blk w2.heap.size).add 1) fun x6 =>
 ldS w5 ((blk w2.heap.size).add 1) fun x7 =>
 ifB (decide ((x7.l : Int) ≥ (65535 : Int)))
 (Wr w5 (blk w.heap.size) ∧
 Nw (w5.setCell (blk w.heap.size) (.int .i64 (25 : Int))) fun w6 =>
 Wr w6 ((blk w.heap.size).add 1) ∧
 Nw (w6.setCell ((blk w.heap.size).add 1) (.int .i64 s1.2.1)) fun w7 =>
 ldI w7 ((blk w.heap.size).add 0) .i64 fun x8 =>
 ldI w7 ((blk w.heap.size).add 1) .i64 fun x9 =>
 R (.tuple #[(.int .i64 (0 : Int)), (.agg #[(.int .i64 x8), (.int .i64 x9)])]) w7)
 (ifB (decide ((IntKind.i64.wrap (s1.1 + (IntKind.i64.wrap ((1 : Int) + (x6.l : Int))))) > (1048576 : Int)))
 (Wr w5 (blk w.heap.size) ∧
 Nw (w5.setCell (blk w.heap.size) (.int .i64 (4 : Int))) fun w8 =>
 Wr w8 ((blk w.heap.size).add 1) ∧
 Nw (w8.setCell ((blk w.heap.size).add 1) (.int .i64 s1.2.1)) fun w9 =>
 ldI w9 ((blk w.heap.size).add 0) .i64 fun x10 =>
 ldI w9 ((blk w.heap.size).add 1) .i64 fun x11 =>
 R (.tuple #[(.int .i64 (0 : Int)), (.agg #[(.int .i64 x10), (.int .i64 x11)])]) w9)
 (n2 ((IntKind.i64.wrap (s1.1 + (IntKind.i64.wrap ((1 : Int) + (x6.l : Int))))), (IntKind.i64.wrap (s1.2.1 + (1 : Int))), ()) w5)))
 (Wr w2 (blk w.heap.size) ∧
 Nw (w2.setCell (blk w.heap.size) (.int .i64 (0 : Int))) fun w10 =>
 Wr w10 ((blk w.heap.size).add 1) ∧
 Nw (w10.setCell ((blk w.heap.size).add 1) (.int .i64 (0 : Int))) fun w11 =>
 ldI w11 ((blk w.heap.size).add 0) .i64 fun x12 =>
 ldI w11 ((blk w.heap.size).add 1) .i64 fun x13 =>
 R (.tuple #[(.int .i64 s1.1), (.agg #[(.int .i64 x12), (.int .i64 x13)])]) w11))
 ((5 : Int), (0 : Int), ()) w1
theorem frame_counted_calls (p0 : Sl) (R : Value → World → Prop) (w : World) (h : L_frame_counted p0 R w) : Calls Tryz.prog 186 #[(.slice p0.a p0.l p0.c)] w (Ret R) :=
 lw_calls (fs := Tryz.fs) (an := a_frame_counted) (args := [(.slice p0.a p0.l p0.c)]) Tryz.fsOK Tryz.mixed Tryz.func186 (by kernel_rfl) (by kernel_rfl)
 (Eq.mpr (by kernel_rfl : lwFn Tryz.prog Tryz.fs Tryz.f186 a_frame_counted [(.slice p0.a p0.l p0.c)] w R = L_frame_counted p0 R w) h)

/-- (*intaglio.code.writer).head -/
def a_code_writer_head : Ann := (.seq none .nil (.seq none (.one (.seq none .nil (.cond (.seq none .nil .nil) (.seq none .nil (.cond (.seq none .nil .nil) .nil))))) (.seq none .nil (.seq none .nil .nil))))
def L_code_writer_head (p0 : Option Addr) (p1 : Bool) (p2 : Int) (p3 : Int) (R : Value → World → Prop) (w : World) : Prop :=
 ifB (!(p1 == (p2 != (0 : Int))))
 (R (.int .i64 p3) w)
 (ifB (!p1)
 (R (.int .i64 (0 : Int)) w)
 (callR Tryz.prog 242 #[(.pointer p0), (.int .u32 p2)] w fun v1 w1 =>
 v1 = (.tuple #[]) ∧
 derefP p0 fun a2 =>
 ldI w1 (a2.add 8) .u32 fun x3 =>
 callR Tryz.prog 243 #[(.int .u32 p2), (.int .u32 x3)] w1 fun v4 w2 =>
 ∃ x5 : Int, v4 = (.int .i64 x5) ∧
 R (.int .i64 x5) w2))
theorem code_writer_head_calls (p0 : Option Addr) (p1 : Bool) (p2 : Int) (p3 : Int) (R : Value → World → Prop) (w : World) (h : L_code_writer_head p0 p1 p2 p3 R w) : Calls Tryz.prog 188 #[(.pointer p0), (.bool p1), (.int .u32 p2), (.int .i64 p3)] w (Ret R) :=
 lw_calls (fs := Tryz.fs) (an := a_code_writer_head) (args := [(.pointer p0), (.bool p1), (.int .u32 p2), (.int .i64 p3)]) Tryz.fsOK Tryz.mixed Tryz.func188 (by kernel_rfl) (by kernel_rfl)
 (Eq.mpr (by kernel_rfl : lwFn Tryz.prog Tryz.fs Tryz.f188 a_code_writer_head [(.pointer p0), (.bool p1), (.int .u32 p2), (.int .i64 p3)] w R = L_code_writer_head p0 p1 p2 p3 R w) h)

/-- (*intaglio.code.writer).arg -/
def a_code_writer_arg : Ann := (.seq none .nil (.seq none .nil (.seq none .nil (.seq (some ⟨[0, 5, 7], []⟩) (.one (.seq none .nil (.cond (.seq none .nil .nil) (.seq none .nil (.cond (.seq none .nil .nil) .nil))))) (.seq none .nil (.seq none (.seq none .nil (.one (.seq none .nil (.cond (.seq none .nil .nil) (.seq none .nil (.cond (.seq none .nil .nil) .nil)))))) (.seq none .nil .nil)))))))
def L_code_writer_arg (p0 : Option Addr) (p1 : Int) (p2 : (Int × Int × ByteArray × Unit)) (R : Value → World → Prop) (w : World) : Prop :=
 Nw (w.alloc (.cells #[(.int .u8 p2.1), (.int .u32 p2.2.1), (.string p2.2.2.1)] 55)) fun w1 =>
 derefP p0 fun a1 =>
 ldI w1 a1 .u16 fun x2 =>
 callR Tryz.prog 244 #[(.int .u16 x2), (.int .i64 p1)] w1 fun v3 w2 =>
 ∃ x4 : Int, v3 = (.int .u8 x4) ∧
 ldI w2 (blk w.heap.size) .u8 fun x5 =>
 JoinW (S := Unit) (fun m6 =>
 ifB (x4 == (0 : Int))
 (R (.int .i64 (42 : Int)) w2.drew)
 (ldI w2.drew (blk w.heap.size) .u8 fun x8 =>
 callR Tryz.prog 245 #[(.int .u8 x4)] w2.drew fun v9 w3 =>
 ∃ x10 : Int, v9 = (.int .u8 x10) ∧
 w3.cell? (blk w.heap.size) = some (.int .u8 x8) ∧
 ifB (x8 != x10)
 (R (.int .i64 (42 : Int)) w3)
 (ifB (x5 == (3 : Int))
 (ldI w3 ((blk w.heap.size).add 1) .u32 fun x11 =>
 ifB (x11 != (0 : Int))
 (R (.int .i64 (42 : Int)) w3)
 (ifB (!(x5 == (3 : Int)))
 (ldStr w3 ((blk w.heap.size).add 2) fun x12 =>
 ifB (!(x12.toList == (ByteArray.mk #[]).toList))
 (R (.int .i64 (42 : Int)) w3)
 (ifB (x5 == (3 : Int))
 (ldStr w3 ((blk w.heap.size).add 2) fun x13 =>
 callR Tryz.prog 246 #[(.pointer p0), (.string x13)] w3 fun v14 w4 =>
 ∃ x15 : Int, v14 = (.int .i64 x15) ∧
 R (.int .i64 x15) w4)
 (m6 (()) w3)))
 (ifB (x5 == (3 : Int))
 (ldStr w3 ((blk w.heap.size).add 2) fun x16 =>
 callR Tryz.prog 246 #[(.pointer p0), (.string x16)] w3 fun v17 w5 =>
 ∃ x18 : Int, v17 = (.int .i64 x18) ∧
 R (.int .i64 x18) w5)
 (m6 (()) w3))))
 (ifB (!(x5 == (3 : Int)))
 (ldStr w3 ((blk w.heap.size).add 2) fun x19 =>
 ifB (!(x19.toList == (ByteArray.mk #[]).toList))
 (R (.int .i64 (42 : Int)) w3)
 (ifB (x5 == (3 : Int))
 (ldStr w3 ((blk w.heap.size).add 2) fun x20 =>
 callR Tryz.prog 246 #[(.pointer p0), (.string x20)] w3 fun v21 w6 =>
 ∃ x22 : Int, v21 = (.int .i64 x22) ∧
 R (.int .i64 x22) w6)
 (m6 (()) w3)))
 (ifB (x5 == (3 : Int))
 (ldStr w3 ((blk w.heap.size).add 2) fun x23 =>
 callR Tryz.prog 246 #[(.pointer p0), (.string x23)] w3 fun v24 w7 =>
 ∃ x25 : Int, v24 = (.int .i64 x25) ∧
 R (.int .i64 x25) w7)
 (m6 (()) w3))))))
 (fun s7 w8 =>
 ldI w8 ((blk w.heap.size).add 1) .u32 fun x26 =>
 callR Tryz.prog 242 #[(.pointer p0), (.int .u32 x26)] w8 fun v27 w9 =>
 v27 = (.tuple #[]) ∧
 ldI w9 (blk w.heap.size) .u8 fun x28 =>
 ifB (x28 == (1 : Int))
 (ldI w9.drew ((blk w.heap.size).add 1) .u32 fun x29 =>
 derefP p0 fun a30 =>
 ldI w9.drew (a30.add 8) .u32 fun x31 =>
 callR Tryz.prog 243 #[(.int .u32 x29), (.int .u32 x31)] w9.drew fun v32 w10 =>
 ∃ x33 : Int, v32 = (.int .i64 x33) ∧
 R (.int .i64 x33) w10)
 (ifB (x28 == (4 : Int))
 (ldI w9 ((blk w.heap.size).add 1) .u32 fun x34 =>
 callR Tryz.prog 247 #[(.int .u8 x4), (.int .u32 x34)] w9 fun v35 w11 =>
 ∃ x36 : Int, v35 = (.int .i64 x36) ∧
 R (.int .i64 x36) w11)
 (R (.int .i64 (0 : Int)) w9)))
theorem code_writer_arg_calls (p0 : Option Addr) (p1 : Int) (p2 : (Int × Int × ByteArray × Unit)) (R : Value → World → Prop) (w : World) (h : L_code_writer_arg p0 p1 p2 R w) : Calls Tryz.prog 189 #[(.pointer p0), (.int .i64 p1), (.agg #[(.int .u8 p2.1), (.int .u32 p2.2.1), (.string p2.2.2.1)])] w (Ret R) :=
 lw_calls (fs := Tryz.fs) (an := a_code_writer_arg) (args := [(.pointer p0), (.int .i64 p1), (.agg #[(.int .u8 p2.1), (.int .u32 p2.2.1), (.string p2.2.2.1)])]) Tryz.fsOK Tryz.mixed Tryz.func189 (by kernel_rfl) (by kernel_rfl)
 (Eq.mpr (by kernel_rfl : lwFn Tryz.prog Tryz.fs Tryz.f189 a_code_writer_arg [(.pointer p0), (.int .i64 p1), (.agg #[(.int .u8 p2.1), (.int .u32 p2.2.1), (.string p2.2.2.1)])] w R = L_code_writer_arg p0 p1 p2 R w) h)

/-- intaglio.code.whole -/
def a_code_whole : Ann := (.seq none .nil (.seq none .nil (.seq none (.seq none .nil (.one (.loop ⟨[2, 10, 11], [(5, (.b .slice)), (12, (.b (.int .i64)))]⟩ (.seq none .nil (.seq none (.cond .nil .nil) (.seq none (.one (.seq none .nil .nil)) .nil)))))) (.seq none (.seq none .nil (.seq none .nil (.cond (.seq none .nil .nil) .nil))) (.seq none .nil .nil)))))
def L_code_whole (p0 : (Int × ByteArray × Bool × Bool × ByteArray × ByteArray × Int × Int × Unit)) (p1 : Sl) (R : Value → World → Prop) (w : World) : Prop :=
 Nw (w.alloc (.cells #[(.int .u16 p0.1), (.string p0.2.1), (.bool p0.2.2.1), (.bool p0.2.2.2.1), (.string p0.2.2.2.2.1), (.string p0.2.2.2.2.2.1), (.int .i64 p0.2.2.2.2.2.2.1), (.int .u8 p0.2.2.2.2.2.2.2.1)] 172)) fun w1 =>
 LoopW (S := Sl × Int × Unit) (fun s1 w2 n2 =>
 ifB (decide (s1.2.1 < (p1.l : Int)))
 ((0 ≤ s1.2.1 ∧ s1.2.1 < (p1.l : Int)) ∧
 derefP p1.a fun a3 =>
 ldI w2 ((a3.add ((Int.toNat s1.2.1) * 3)).add 0) .u8 fun x4 =>
 ldI w2 ((a3.add ((Int.toNat s1.2.1) * 3)).add 1) .u32 fun x5 =>
 ldStr w2 ((a3.add ((Int.toNat s1.2.1) * 3)).add 2) fun x6 =>
 Nw (w2.alloc (.cells #[(.int .u8 (0 : Int)), (.int .u32 (0 : Int)), (.string (ByteArray.mk #[]))] 55)) fun w3 =>
 Wr w3 (blk w2.heap.size) ∧
 Nw (w3.setCell (blk w2.heap.size) (.int .u8 x4)) fun w4 =>
 Wr w4 ((blk w2.heap.size).add 1) ∧
 Nw (w4.setCell ((blk w2.heap.size).add 1) (.int .u32 x5)) fun w5 =>
 Wr w5 ((blk w2.heap.size).add 2) ∧
 Nw (w5.setCell ((blk w2.heap.size).add 2) (.string x6)) fun w6 =>
 ldI w6 (blk w2.heap.size) .u8 fun x7 =>
 Nw (w6.alloc (.cells #[(.int .u8 x7)] 5)) fun w7 =>
 appendS Tryz.prog 268 (.slice s1.1.a s1.1.l s1.1.c) (.slice (some (blk w6.heap.size)) 1 1) w7 fun r8 w8 =>
 n2 (r8, (IntKind.i64.wrap (s1.2.1 + (1 : Int))), ()) w8)
 (ldI w2 (blk w.heap.size) .u16 fun x9 =>
 callR Tryz.prog 248 #[(.int .u16 x9), (.slice s1.1.a s1.1.l s1.1.c)] w2 fun v10 w9 =>
 ∃ x11 : Int, ∃ x12 : Bool, v10 = (.tuple #[(.int .i64 x11), (.bool x12)]) ∧
 ifB (!x12)
 (R (.int .i64 (42 : Int)) w9)
 (R (.int .i64 (0 : Int)) w9)))
 ((Sl.mk none 0 0), (0 : Int), ()) w1
theorem code_whole_calls (p0 : (Int × ByteArray × Bool × Bool × ByteArray × ByteArray × Int × Int × Unit)) (p1 : Sl) (R : Value → World → Prop) (w : World) (h : L_code_whole p0 p1 R w) : Calls Tryz.prog 190 #[(.agg #[(.int .u16 p0.1), (.string p0.2.1), (.bool p0.2.2.1), (.bool p0.2.2.2.1), (.string p0.2.2.2.2.1), (.string p0.2.2.2.2.2.1), (.int .i64 p0.2.2.2.2.2.2.1), (.int .u8 p0.2.2.2.2.2.2.2.1)]), (.slice p1.a p1.l p1.c)] w (Ret R) :=
 lw_calls (fs := Tryz.fs) (an := a_code_whole) (args := [(.agg #[(.int .u16 p0.1), (.string p0.2.1), (.bool p0.2.2.1), (.bool p0.2.2.2.1), (.string p0.2.2.2.2.1), (.string p0.2.2.2.2.2.1), (.int .i64 p0.2.2.2.2.2.2.1), (.int .u8 p0.2.2.2.2.2.2.2.1)]), (.slice p1.a p1.l p1.c)]) Tryz.fsOK Tryz.mixed Tryz.func190 (by kernel_rfl) (by kernel_rfl)
 (Eq.mpr (by kernel_rfl : lwFn Tryz.prog Tryz.fs Tryz.f190 a_code_whole [(.agg #[(.int .u16 p0.1), (.string p0.2.1), (.bool p0.2.2.1), (.bool p0.2.2.2.1), (.string p0.2.2.2.2.1), (.string p0.2.2.2.2.2.1), (.int .i64 p0.2.2.2.2.2.2.1), (.int .u8 p0.2.2.2.2.2.2.2.1)]), (.slice p1.a p1.l p1.c)] w R = L_code_whole p0 p1 R w) h)

/-- (*intaglio.code.writer).put -/
def a_code_writer_put : Ann := (.seq none .nil .nil)
def L_code_writer_put (p0 : Option Addr) (p1 : Int) (R : Value → World → Prop) (w : World) : Prop :=
 derefP p0 fun a1 =>
 ldS w (a1.add 9) fun x2 =>
 Nw (w.alloc (.cells #[(.int .u32 p1)] 22)) fun w1 =>
 appendS Tryz.prog 30 (.slice x2.a x2.l x2.c) (.slice (some (blk w.heap.size)) 1 1) w1 fun r3 w2 =>
 derefP p0 fun a4 =>
 Wr w2 (a4.add 9) ∧
 Nw (w2.setCell (a4.add 9) (.slice r3.a r3.l r3.c)) fun w3 =>
 derefP p0 fun a5 =>
 ldI w3 (a5.add 10) .i64 fun x6 =>
 derefP p0 fun a7 =>
 Wr w3 (a7.add 10) ∧
 Nw (w3.setCell (a7.add 10) (.int .i64 (IntKind.i64.wrap (x6 + (1 : Int))))) fun w4 =>
 R (.tuple #[]) w4
theorem code_writer_put_calls (p0 : Option Addr) (p1 : Int) (R : Value → World → Prop) (w : World) (h : L_code_writer_put p0 p1 R w) : Calls Tryz.prog 242 #[(.pointer p0), (.int .u32 p1)] w (Ret R) :=
 lw_calls (fs := Tryz.fs) (an := a_code_writer_put) (args := [(.pointer p0), (.int .u32 p1)]) Tryz.fsOK Tryz.mixed Tryz.func242 (by kernel_rfl) (by kernel_rfl)
 (Eq.mpr (by kernel_rfl : lwFn Tryz.prog Tryz.fs Tryz.f242 a_code_writer_put [(.pointer p0), (.int .u32 p1)] w R = L_code_writer_put p0 p1 R w) h)

/-- intaglio.code.id -/
def a_code_id : Ann := (.seq none .nil (.seq none (.seq none .nil (.cond (.seq none .nil .nil) .nil)) (.seq none .nil .nil)))
def L_code_id (p0 : Int) (p1 : Int) (R : Value → World → Prop) (w : World) : Prop :=
 ifB (p0 == (0 : Int))
 (R (.int .i64 (43 : Int)) w)
 (ifB (decide (p0 ≥ p1))
 (R (.int .i64 (43 : Int)) w)
 (R (.int .i64 (0 : Int)) w))
theorem code_id_calls (p0 : Int) (p1 : Int) (R : Value → World → Prop) (w : World) (h : L_code_id p0 p1 R w) : Calls Tryz.prog 243 #[(.int .u32 p0), (.int .u32 p1)] w (Ret R) :=
 lw_calls (fs := Tryz.fs) (an := a_code_id) (args := [(.int .u32 p0), (.int .u32 p1)]) Tryz.fsOK Tryz.mixed Tryz.func243 (by kernel_rfl) (by kernel_rfl)
 (Eq.mpr (by kernel_rfl : lwFn Tryz.prog Tryz.fs Tryz.f243 a_code_id [(.int .u32 p0), (.int .u32 p1)] w R = L_code_id p0 p1 R w) h)

/-- (*intaglio.code.writer).text -/
def a_code_writer_text : Ann := (.seq none .nil (.seq none (.seq none .nil (.cond (.seq none .nil .nil) .nil)) (.seq none .nil (.seq none (.seq none .nil (.cond (.seq none .nil (.seq none .nil .nil)) .nil)) (.seq none .nil (.seq none .nil (.seq none .nil .nil)))))))
def L_code_writer_text (p0 : Option Addr) (p1 : ByteArray) (R : Value → World → Prop) (w : World) : Prop :=
 callR Tryz.prog 283 #[(.string p1), (.int .u8 (0 : Int))] w fun v1 w1 =>
 ∃ x2 : Int, v1 = (.int .i64 x2) ∧
 ifB (decide (x2 ≥ (0 : Int)))
 (R (.int .i64 (13 : Int)) w1)
 (callR Tryz.prog 284 #[(.string p1)] w1 fun v3 w2 =>
 ∃ x4 : Sl, ∃ x5 : Int, v3 = (.tuple #[(.slice x4.a x4.l x4.c), (.int .i64 x5)]) ∧
 ifB (x5 != (0 : Int))
 (derefP p0 fun a6 =>
 ldI w2.drew (a6.add 10) .i64 fun x7 =>
 callR Tryz.prog 285 #[(.string p1)] w2.drew fun v8 w3 =>
 ∃ x9 : Int, v8 = (.int .i64 x9) ∧
 w3.cell? (a6.add 10) = some (.int .i64 x7) ∧
 derefP p0 fun a10 =>
 Wr w3 (a10.add 10) ∧
 Nw (w3.setCell (a10.add 10) (.int .i64 (IntKind.i64.wrap (x7 + x9)))) fun w4 =>
 R (.int .i64 (0 : Int)) w4)
 (derefP p0 fun a11 =>
 ldS w2 (a11.add 9) fun x12 =>
 appendS Tryz.prog 30 (.slice x12.a x12.l x12.c) (.slice x4.a x4.l x4.c) w2 fun r13 w5 =>
 derefP p0 fun a14 =>
 Wr w5 (a14.add 9) ∧
 Nw (w5.setCell (a14.add 9) (.slice r13.a r13.l r13.c)) fun w6 =>
 derefP p0 fun a15 =>
 ldI w6 (a15.add 10) .i64 fun x16 =>
 derefP p0 fun a17 =>
 Wr w6 (a17.add 10) ∧
 Nw (w6.setCell (a17.add 10) (.int .i64 (IntKind.i64.wrap (x16 + (x4.l : Int))))) fun w7 =>
 R (.int .i64 (0 : Int)) w7))
theorem code_writer_text_calls (p0 : Option Addr) (p1 : ByteArray) (R : Value → World → Prop) (w : World) (h : L_code_writer_text p0 p1 R w) : Calls Tryz.prog 246 #[(.pointer p0), (.string p1)] w (Ret R) :=
 lw_calls (fs := Tryz.fs) (an := a_code_writer_text) (args := [(.pointer p0), (.string p1)]) Tryz.fsOK Tryz.mixed Tryz.func246 (by kernel_rfl) (by kernel_rfl)
 (Eq.mpr (by kernel_rfl : lwFn Tryz.prog Tryz.fs Tryz.f246 a_code_writer_text [(.pointer p0), (.string p1)] w R = L_code_writer_text p0 p1 R w) h)

/-- intaglio.code.named -/
def a_code_named : Ann := (.seq none .nil (.seq none (.seq none .nil (.seq none .nil (.cond (.seq none .nil .nil) .nil))) (.seq none .nil .nil)))
def L_code_named (p0 : Int) (p1 : Int) (R : Value → World → Prop) (w : World) : Prop :=
 callR Tryz.prog 286 #[(.int .u8 p0), (.int .u32 p1)] w fun v1 w1 =>
 ∃ x2 : ByteArray, ∃ x3 : Bool, v1 = (.tuple #[(.string x2), (.bool x3)]) ∧
 ifB (!x3)
 (R (.int .i64 (31 : Int)) w1)
 (R (.int .i64 (0 : Int)) w1)
theorem code_named_calls (p0 : Int) (p1 : Int) (R : Value → World → Prop) (w : World) (h : L_code_named p0 p1 R w) : Calls Tryz.prog 247 #[(.int .u8 p0), (.int .u32 p1)] w (Ret R) :=
 lw_calls (fs := Tryz.fs) (an := a_code_named) (args := [(.int .u8 p0), (.int .u32 p1)]) Tryz.fsOK Tryz.mixed Tryz.func247 (by kernel_rfl) (by kernel_rfl)
 (Eq.mpr (by kernel_rfl : lwFn Tryz.prog Tryz.fs Tryz.f247 a_code_named [(.int .u8 p0), (.int .u32 p1)] w R = L_code_named p0 p1 R w) h)

/-- strings.IndexByte -/
def a_strings_IndexByte : Ann := (.seq none .nil (.seq none .nil .nil))
def L_strings_IndexByte (p0 : ByteArray) (p1 : Int) (R : Value → World → Prop) (w : World) : Prop :=
 callR Tryz.prog 302 #[(.string p0), (.int .u8 p1)] w fun v1 w1 =>
 ∃ x2 : Int, v1 = (.int .i64 x2) ∧
 R (.int .i64 x2) w1
theorem strings_IndexByte_calls (p0 : ByteArray) (p1 : Int) (R : Value → World → Prop) (w : World) (h : L_strings_IndexByte p0 p1 R w) : Calls Tryz.prog 283 #[(.string p0), (.int .u8 p1)] w (Ret R) :=
 lw_calls (fs := Tryz.fs) (an := a_strings_IndexByte) (args := [(.string p0), (.int .u8 p1)]) Tryz.fsOK Tryz.mixed Tryz.func283 (by kernel_rfl) (by kernel_rfl)
 (Eq.mpr (by kernel_rfl : lwFn Tryz.prog Tryz.fs Tryz.f283 a_strings_IndexByte [(.string p0), (.int .u8 p1)] w R = L_strings_IndexByte p0 p1 R w) h)

/-- intaglio.words.OfText -/
def a_words_OfText : Ann := (.seq none .nil (.seq none (.seq none .nil (.one (.loop ⟨[0, 8], [(9, (.b (.int .i64)))]⟩ (.seq none .nil (.seq none (.cond .nil .nil) (.seq none (.one (.seq none .nil (.seq none .nil (.cond (.seq none .nil .nil) .nil)))) .nil)))))) (.seq none (.seq none .nil (.cond (.seq none .nil .nil) .nil)) (.seq none .nil (.seq none (.seq none .nil (.one (.loop ⟨[0, 5, 24], [(25, (.b (.int .i64)))]⟩ (.seq none .nil (.seq none (.cond .nil .nil) (.seq none (.one (.seq none .nil .nil)) .nil)))))) (.seq none .nil .nil))))))
def L_words_OfText (p0 : ByteArray) (R : Value → World → Prop) (w : World) : Prop :=
 LoopW (S := Int × Unit) (fun s1 w1 n2 =>
 ifB (decide (s1.1 < (p0.size : Int)))
 ((0 ≤ s1.1 ∧ s1.1 < (p0.size : Int)) ∧
 ifB ((byteI p0 s1.1) == (0 : Int))
 (R (.tuple #[(.slice none 0 0), (.int .i64 (13 : Int))]) w1)
 (n2 ((IntKind.i64.wrap (s1.1 + (1 : Int))), ()) w1))
 (callR Tryz.prog 285 #[(.string p0)] w1 fun v3 w2 =>
 ∃ x4 : Int, v3 = (.int .i64 x4) ∧
 ifB (decide (x4 > (65535 : Int)))
 (R (.tuple #[(.slice none 0 0), (.int .i64 (4 : Int))]) w2)
 (callR Tryz.prog 285 #[(.string p0)] w2 fun v5 w3 =>
 ∃ x6 : Int, v5 = (.int .i64 x6) ∧
 (0 ≤ x6 ∧ x6 ≤ x6 ∧ (4 : Int) * x6 ≤ 281474976710656 ∧ x6 ≤ 9223372036854775807) ∧
 Nw (w3.alloc (.cells (madeCells #[(.int .u32 (0 : Int))] ((Int.toNat x6) * 1)) 22)) fun w4 =>
 LoopW (S := Int × Unit) (fun s7 w5 n8 =>
 ifB (decide (s7.1 < (p0.size : Int)))
 ((0 ≤ (IntKind.i64.wrap (Int.tdiv s7.1 (4 : Int))) ∧ (IntKind.i64.wrap (Int.tdiv s7.1 (4 : Int))) < ((Int.toNat x6) : Int)) ∧
 ldI w5.drew ((blk w3.heap.size).add (Int.toNat (IntKind.i64.wrap (Int.tdiv s7.1 (4 : Int))))) .u32 fun x9 =>
 (0 ≤ s7.1 ∧ s7.1 < (p0.size : Int)) ∧
 ifB (decide ((IntKind.i64.wrap ((8 : Int) * (Int.tmod s7.1 (4 : Int)))) < 0))
 (False)
 ((0 ≤ (IntKind.i64.wrap (Int.tdiv s7.1 (4 : Int))) ∧ (IntKind.i64.wrap (Int.tdiv s7.1 (4 : Int))) < ((Int.toNat x6) : Int)) ∧
 Wr w5.drew ((blk w3.heap.size).add (Int.toNat (IntKind.i64.wrap (Int.tdiv s7.1 (4 : Int))))) ∧
 Nw (w5.drew.setCell ((blk w3.heap.size).add (Int.toNat (IntKind.i64.wrap (Int.tdiv s7.1 (4 : Int))))) (.int .u32 (IntKind.u32.wrap (BitVec.toNat (BitVec.ofInt (IntKind.bits .u32) x9 ||| BitVec.ofInt (IntKind.bits .u32) (IntKind.u32.wrap ((IntKind.u32.wrap (byteI p0 s7.1)) * 2 ^ (min (Int.toNat (IntKind.i64.wrap ((8 : Int) * (Int.tmod s7.1 (4 : Int))))) (IntKind.bits .u32))))) : Int)))) fun w6 =>
 n8 ((IntKind.i64.wrap (s7.1 + (1 : Int))), ()) w6))
 (R (.tuple #[(.slice (some (blk w3.heap.size)) (Int.toNat x6) (Int.toNat x6)), (.int .i64 (0 : Int))]) w5))
 ((0 : Int), ()) w4)))
 ((0 : Int), ()) w
theorem words_OfText_calls (p0 : ByteArray) (R : Value → World → Prop) (w : World) (h : L_words_OfText p0 R w) : Calls Tryz.prog 284 #[(.string p0)] w (Ret R) :=
 lw_calls (fs := Tryz.fs) (an := a_words_OfText) (args := [(.string p0)]) Tryz.fsOK Tryz.mixed Tryz.func284 (by kernel_rfl) (by kernel_rfl)
 (Eq.mpr (by kernel_rfl : lwFn Tryz.prog Tryz.fs Tryz.f284 a_words_OfText [(.string p0)] w R = L_words_OfText p0 R w) h)

/-- intaglio.words.Room -/
def a_words_Room : Ann := (.seq none .nil (.seq none .nil .nil))
def L_words_Room (p0 : ByteArray) (R : Value → World → Prop) (w : World) : Prop :=
 R (.int .i64 (IntKind.i64.wrap ((IntKind.i64.wrap (Int.tdiv (p0.size : Int) (4 : Int))) + (1 : Int)))) w
theorem words_Room_calls (p0 : ByteArray) (R : Value → World → Prop) (w : World) (h : L_words_Room p0 R w) : Calls Tryz.prog 285 #[(.string p0)] w (Ret R) :=
 lw_calls (fs := Tryz.fs) (an := a_words_Room) (args := [(.string p0)]) Tryz.fsOK Tryz.mixed Tryz.func285 (by kernel_rfl) (by kernel_rfl)
 (Eq.mpr (by kernel_rfl : lwFn Tryz.prog Tryz.fs Tryz.f285 a_words_Room [(.string p0)] w R = L_words_Room p0 R w) h)

/-- internal.stringslite.IndexByte -/
def a_internal_stringslite_IndexByte : Ann := (.seq none .nil (.seq none .nil .nil))
def L_internal_stringslite_IndexByte (p0 : ByteArray) (p1 : Int) (R : Value → World → Prop) (w : World) : Prop :=
 extR Tryz.prog 309 #[(.string p0), (.int .u8 p1)] w fun v1 w1 =>
 ∃ x2 : Int, v1 = (.int .i64 x2) ∧
 R (.int .i64 x2) w1
theorem internal_stringslite_IndexByte_calls (p0 : ByteArray) (p1 : Int) (R : Value → World → Prop) (w : World) (h : L_internal_stringslite_IndexByte p0 p1 R w) : Calls Tryz.prog 302 #[(.string p0), (.int .u8 p1)] w (Ret R) :=
 lw_calls (fs := Tryz.fs) (an := a_internal_stringslite_IndexByte) (args := [(.string p0), (.int .u8 p1)]) Tryz.fsOK Tryz.mixed Tryz.func302 (by kernel_rfl) (by kernel_rfl)
 (Eq.mpr (by kernel_rfl : lwFn Tryz.prog Tryz.fs Tryz.f302 a_internal_stringslite_IndexByte [(.string p0), (.int .u8 p1)] w R = L_internal_stringslite_IndexByte p0 p1 R w) h)

end Go.Proofs
namespace Go.Proofs
open Go.Gk
set_option linter.unusedVariables false
set_option maxRecDepth 100000

end Go.Proofs
namespace Go.Proofs
open Go.Gk
set_option linter.unusedVariables false
set_option maxRecDepth 100000

/-- intaglio.grammar.Of -/
def a_grammar_Of : Ann := (.seq none .nil (.seq none .nil (.seq none (.seq none .nil (.cond (.seq none .nil .nil) .nil)) (.seq none .nil (.seq none .nil (.seq none (.seq none .nil (.one (.loop ⟨[2, 5, 6, 30], []⟩ (.seq none .nil (.seq none (.cond .nil .nil) (.one (.seq none .nil (.seq (some ⟨[2, 5, 6, 8, 30], []⟩) .nil .nil)))))))) (.seq (some ⟨[2, 6], []⟩) (.seq none .nil (.cond .nil .nil)) (.seq none .nil .nil))))))))
def L_grammar_Of (p0 : Int) (R : Value → World → Prop) (w : World) : Prop :=
 Nw (w.alloc (.cells #[(.int .u16 (0 : Int)), (.string (ByteArray.mk #[])), (.bool false), (.bool false), (.string (ByteArray.mk #[])), (.string (ByteArray.mk #[])), (.int .i64 (0 : Int)), (.int .u8 (0 : Int))] 172)) fun w1 =>
 callR Tryz.prog 240 #[(.int .u16 p0)] w1 fun v1 w2 =>
 ∃ x2 : ByteArray, v1 = (.string x2) ∧
 ifB (x2.toList == (ByteArray.mk #[]).toList)
 (Wr w2 (blk w.heap.size) ∧
 Nw (w2.setCell (blk w.heap.size) (.int .u16 (0 : Int))) fun w3 =>
 Wr w3 ((blk w.heap.size).add 1) ∧
 Nw (w3.setCell ((blk w.heap.size).add 1) (.string (ByteArray.mk #[]))) fun w4 =>
 Wr w4 ((blk w.heap.size).add 2) ∧
 Nw (w4.setCell ((blk w.heap.size).add 2) (.bool false)) fun w5 =>
 Wr w5 ((blk w.heap.size).add 3) ∧
 Nw (w5.setCell ((blk w.heap.size).add 3) (.bool false)) fun w6 =>
 Wr w6 ((blk w.heap.size).add 4) ∧
 Nw (w6.setCell ((blk w.heap.size).add 4) (.string (ByteArray.mk #[]))) fun w7 =>
 Wr w7 ((blk w.heap.size).add 5) ∧
 Nw (w7.setCell ((blk w.heap.size).add 5) (.string (ByteArray.mk #[]))) fun w8 =>
 Wr w8 ((blk w.heap.size).add 6) ∧
 Nw (w8.setCell ((blk w.heap.size).add 6) (.int .i64 (0 : Int))) fun w9 =>
 Wr w9 ((blk w.heap.size).add 7) ∧
 Nw (w9.setCell ((blk w.heap.size).add 7) (.int .u8 (0 : Int))) fun w10 =>
 ldI w10 ((blk w.heap.size).add 0) .u16 fun x3 =>
 ldStr w10 ((blk w.heap.size).add 1) fun x4 =>
 ldB w10 ((blk w.heap.size).add 2) fun x5 =>
 ldB w10 ((blk w.heap.size).add 3) fun x6 =>
 ldStr w10 ((blk w.heap.size).add 4) fun x7 =>
 ldStr w10 ((blk w.heap.size).add 5) fun x8 =>
 ldI w10 ((blk w.heap.size).add 6) .i64 fun x9 =>
 ldI w10 ((blk w.heap.size).add 7) .u8 fun x10 =>
 R (.tuple #[(.agg #[(.int .u16 x3), (.string x4), (.bool x5), (.bool x6), (.string x7), (.string x8), (.int .i64 x9), (.int .u8 x10)]), (.bool false)]) w10)
 (callR Tryz.prog 241 #[(.string x2)] w2 fun v11 w11 =>
 ∃ x12 : (ByteArray × ByteArray × ByteArray × ByteArray × ByteArray × ByteArray × Unit), v11 = (.agg #[(.string x12.1), (.string x12.2.1), (.string x12.2.2.1), (.string x12.2.2.2.1), (.string x12.2.2.2.2.1), (.string x12.2.2.2.2.2.1)]) ∧
 Nw (w11.alloc (.cells #[(.string (ByteArray.mk #[])), (.string (ByteArray.mk #[])), (.string (ByteArray.mk #[])), (.string (ByteArray.mk #[])), (.string (ByteArray.mk #[])), (.string (ByteArray.mk #[]))] 320)) fun w12 =>
 Wr w12 (blk w11.heap.size) ∧
 Nw (w12.setCell (blk w11.heap.size) (.string x12.1)) fun w13 =>
 Wr w13 ((blk w11.heap.size).add 1) ∧
 Nw (w13.setCell ((blk w11.heap.size).add 1) (.string x12.2.1)) fun w14 =>
 Wr w14 ((blk w11.heap.size).add 2) ∧
 Nw (w14.setCell ((blk w11.heap.size).add 2) (.string x12.2.2.1)) fun w15 =>
 Wr w15 ((blk w11.heap.size).add 3) ∧
 Nw (w15.setCell ((blk w11.heap.size).add 3) (.string x12.2.2.2.1)) fun w16 =>
 Wr w16 ((blk w11.heap.size).add 4) ∧
 Nw (w16.setCell ((blk w11.heap.size).add 4) (.string x12.2.2.2.2.1)) fun w17 =>
 Wr w17 ((blk w11.heap.size).add 5) ∧
 Nw (w17.setCell ((blk w11.heap.size).add 5) (.string x12.2.2.2.2.2.1)) fun w18 =>
 (0 ≤ (0 : Int) ∧ (0 : Int) < (6 : Int)) ∧
 ldStr w18.drew ((blk w11.heap.size).add 0) fun x13 =>
 (0 ≤ (2 : Int) ∧ (2 : Int) < (6 : Int)) ∧
 ldStr w18.drew ((blk w11.heap.size).add 2) fun x14 =>
 (0 ≤ (3 : Int) ∧ (3 : Int) < (6 : Int)) ∧
 ldStr w18.drew ((blk w11.heap.size).add 3) fun x15 =>
 (0 ≤ (5 : Int) ∧ (5 : Int) < (6 : Int)) ∧
 ldStr w18.drew ((blk w11.heap.size).add 5) fun x16 =>
 (0 ≤ (0 : Int) ∧ (0 : Int) < (x16.size : Int)) ∧
 Nw (w18.drew.alloc (.cells #[(.int .u16 (0 : Int)), (.string (ByteArray.mk #[])), (.bool false), (.bool false), (.string (ByteArray.mk #[])), (.string (ByteArray.mk #[])), (.int .i64 (0 : Int)), (.int .u8 (0 : Int))] 172)) fun w19 =>
 w19.cell? ((blk w11.heap.size).add 5) = some (.string x16) ∧
 w19.cell? ((blk w11.heap.size).add 3) = some (.string x15) ∧
 w19.cell? ((blk w11.heap.size).add 2) = some (.string x14) ∧
 w19.cell? ((blk w11.heap.size).add 0) = some (.string x13) ∧
 Wr w19 (blk w18.drew.heap.size) ∧
 Nw (w19.setCell (blk w18.drew.heap.size) (.int .u16 p0)) fun w20 =>
 Wr w20 ((blk w18.drew.heap.size).add 1) ∧
 Nw (w20.setCell ((blk w18.drew.heap.size).add 1) (.string x13)) fun w21 =>
 Wr w21 ((blk w18.drew.heap.size).add 2) ∧
 Nw (w21.setCell ((blk w18.drew.heap.size).add 2) (.bool false)) fun w22 =>
 Wr w22 ((blk w18.drew.heap.size).add 3) ∧
 Nw (w22.setCell ((blk w18.drew.heap.size).add 3) (.bool false)) fun w23 =>
 Wr w23 ((blk w18.drew.heap.size).add 4) ∧
 Nw (w23.setCell ((blk w18.drew.heap.size).add 4) (.string x14)) fun w24 =>
 Wr w24 ((blk w18.drew.heap.size).add 5) ∧
 Nw (w24.setCell ((blk w18.drew.heap.size).add 5) (.string x15)) fun w25 =>
 Wr w25 ((blk w18.drew.heap.size).add 6) ∧
 Nw (w25.setCell ((blk w18.drew.heap.size).add 6) (.int .i64 (0 : Int))) fun w26 =>
 Wr w26 ((blk w18.drew.heap.size).add 7) ∧
 Nw (w26.setCell ((blk w18.drew.heap.size).add 7) (.int .u8 (IntKind.u8.wrap ((byteI x16 (0 : Int)) - (48 : Int))))) fun w27 =>
 (0 ≤ (1 : Int) ∧ (1 : Int) < (6 : Int)) ∧
 ldStr w27 ((blk w11.heap.size).add 1) fun x17 =>
 Nw (w27.alloc (.stringIter x17 0)) fun w28 =>
 LoopW (S := Unit) (fun s18 w29 n19 =>
 nextW w27.heap.size w29 (fun i20 c21 w30 =>
 JoinW (S := Unit) (fun m22 =>
 ldB w30 ((blk w18.drew.heap.size).add 2) fun x24 =>
 ifB x24
 (Wr w30 ((blk w18.drew.heap.size).add 2) ∧
 Nw (w30.setCell ((blk w18.drew.heap.size).add 2) (.bool true)) fun w31 =>
 m22 (()) w31)
 (Wr w30 ((blk w18.drew.heap.size).add 2) ∧
 Nw (w30.setCell ((blk w18.drew.heap.size).add 2) (.bool (c21 == (84 : Int)))) fun w32 =>
 m22 (()) w32))
 (fun s23 w33 =>
 ldB w33 ((blk w18.drew.heap.size).add 3) fun x25 =>
 ifB x25
 (Wr w33 ((blk w18.drew.heap.size).add 3) ∧
 Nw (w33.setCell ((blk w18.drew.heap.size).add 3) (.bool true)) fun w34 =>
 n19 (()) w34)
 (Wr w33 ((blk w18.drew.heap.size).add 3) ∧
 Nw (w33.setCell ((blk w18.drew.heap.size).add 3) (.bool (c21 == (82 : Int)))) fun w35 =>
 n19 (()) w35)))
 (JoinW (S := Unit) (fun m26 =>
 (0 ≤ (4 : Int) ∧ (4 : Int) < (6 : Int)) ∧
 ldStr w29 ((blk w11.heap.size).add 4) fun x28 =>
 ifB (!(x28.toList == (ByteArray.mk #[]).toList))
 ((0 ≤ (4 : Int) ∧ (4 : Int) < (6 : Int)) ∧
 ldStr w29 ((blk w11.heap.size).add 4) fun x29 =>
 (0 ≤ (0 : Int) ∧ (0 : Int) < (x29.size : Int)) ∧
 Wr w29 ((blk w18.drew.heap.size).add 6) ∧
 Nw (w29.setCell ((blk w18.drew.heap.size).add 6) (.int .i64 (IntKind.i64.wrap (IntKind.u8.wrap ((byteI x29 (0 : Int)) - (48 : Int)))))) fun w36 =>
 m26 (()) w36)
 (m26 (()) w29))
 (fun s27 w37 =>
 ldI w37 ((blk w18.drew.heap.size).add 0) .u16 fun x30 =>
 ldStr w37 ((blk w18.drew.heap.size).add 1) fun x31 =>
 ldB w37 ((blk w18.drew.heap.size).add 2) fun x32 =>
 ldB w37 ((blk w18.drew.heap.size).add 3) fun x33 =>
 ldStr w37 ((blk w18.drew.heap.size).add 4) fun x34 =>
 ldStr w37 ((blk w18.drew.heap.size).add 5) fun x35 =>
 ldI w37 ((blk w18.drew.heap.size).add 6) .i64 fun x36 =>
 ldI w37 ((blk w18.drew.heap.size).add 7) .u8 fun x37 =>
 Wr w37 (blk w.heap.size) ∧
 Nw (w37.setCell (blk w.heap.size) (.int .u16 x30)) fun w38 =>
 Wr w38 ((blk w.heap.size).add 1) ∧
 Nw (w38.setCell ((blk w.heap.size).add 1) (.string x31)) fun w39 =>
 Wr w39 ((blk w.heap.size).add 2) ∧
 Nw (w39.setCell ((blk w.heap.size).add 2) (.bool x32)) fun w40 =>
 Wr w40 ((blk w.heap.size).add 3) ∧
 Nw (w40.setCell ((blk w.heap.size).add 3) (.bool x33)) fun w41 =>
 Wr w41 ((blk w.heap.size).add 4) ∧
 Nw (w41.setCell ((blk w.heap.size).add 4) (.string x34)) fun w42 =>
 Wr w42 ((blk w.heap.size).add 5) ∧
 Nw (w42.setCell ((blk w.heap.size).add 5) (.string x35)) fun w43 =>
 Wr w43 ((blk w.heap.size).add 6) ∧
 Nw (w43.setCell ((blk w.heap.size).add 6) (.int .i64 x36)) fun w44 =>
 Wr w44 ((blk w.heap.size).add 7) ∧
 Nw (w44.setCell ((blk w.heap.size).add 7) (.int .u8 x37)) fun w45 =>
 ldI w45 ((blk w.heap.size).add 0) .u16 fun x38 =>
 ldStr w45 ((blk w.heap.size).add 1) fun x39 =>
 ldB w45 ((blk w.heap.size).add 2) fun x40 =>
 ldB w45 ((blk w.heap.size).add 3) fun x41 =>
 ldStr w45 ((blk w.heap.size).add 4) fun x42 =>
 ldStr w45 ((blk w.heap.size).add 5) fun x43 =>
 ldI w45 ((blk w.heap.size).add 6) .i64 fun x44 =>
 ldI w45 ((blk w.heap.size).add 7) .u8 fun x45 =>
 R (.tuple #[(.agg #[(.int .u16 x38), (.string x39), (.bool x40), (.bool x41), (.string x42), (.string x43), (.int .i64 x44), (.int .u8 x45)]), (.bool true)]) w45)))
 (()) w28)
theorem grammar_Of_calls (p0 : Int) (R : Value → World → Prop) (w : World) (h : L_grammar_Of p0 R w) : Calls Tryz.prog 187 #[(.int .u16 p0)] w (Ret R) :=
 lw_calls (fs := Tryz.fs) (an := a_grammar_Of) (args := [(.int .u16 p0)]) Tryz.fsOK Tryz.mixed Tryz.func187 (by kernel_rfl) (by kernel_rfl)
 (Eq.mpr (by kernel_rfl : lwFn Tryz.prog Tryz.fs Tryz.f187 a_grammar_Of [(.int .u16 p0)] w R = L_grammar_Of p0 R w) h)

/-- intaglio.grammar.row -/
def a_grammar_row : Ann := (.seq none .nil (.seq none (.one (.seq none .nil (.cond (.seq none .nil .nil) (.seq none .nil (.cond (.seq none .nil .nil) .nil))))) (.seq none .nil .nil)))
def L_grammar_row (p0 : Int) (R : Value → World → Prop) (w : World) : Prop :=
 ifB (decide (p0 ≤ (71 : Int)))
 (callR Tryz.prog 278 #[(.int .u16 p0)] w fun v1 w1 =>
 ∃ x2 : ByteArray, v1 = (.string x2) ∧
 R (.string x2) w1)
 (ifB (decide (p0 ≤ (171 : Int)))
 (callR Tryz.prog 279 #[(.int .u16 p0)] w fun v3 w2 =>
 ∃ x4 : ByteArray, v3 = (.string x4) ∧
 R (.string x4) w2)
 (callR Tryz.prog 280 #[(.int .u16 p0)] w fun v5 w3 =>
 ∃ x6 : ByteArray, v5 = (.string x6) ∧
 R (.string x6) w3))
theorem grammar_row_calls (p0 : Int) (R : Value → World → Prop) (w : World) (h : L_grammar_row p0 R w) : Calls Tryz.prog 240 #[(.int .u16 p0)] w (Ret R) :=
 lw_calls (fs := Tryz.fs) (an := a_grammar_row) (args := [(.int .u16 p0)]) Tryz.fsOK Tryz.mixed Tryz.func240 (by kernel_rfl) (by kernel_rfl)
 (Eq.mpr (by kernel_rfl : lwFn Tryz.prog Tryz.fs Tryz.f240 a_grammar_row [(.int .u16 p0)] w R = L_grammar_row p0 R w) h)

/-- intaglio.grammar.fields -/
def a_grammar_fields : Ann := (.seq none .nil (.seq none .nil (.seq none .nil (.seq none (.seq none .nil (.one (.loop ⟨[2, 3, 8], [(4, (.b (.int .i64)))]⟩ (.seq none .nil (.seq none (.cond .nil .nil) (.one (.seq none .nil (.seq none .nil (.cond .nil .nil))))))))) (.seq none .nil .nil)))))
def L_grammar_fields (p0 : ByteArray) (R : Value → World → Prop) (w : World) : Prop :=
 Nw (w.alloc (.cells #[(.string (ByteArray.mk #[])), (.string (ByteArray.mk #[])), (.string (ByteArray.mk #[])), (.string (ByteArray.mk #[])), (.string (ByteArray.mk #[])), (.string (ByteArray.mk #[]))] 320)) fun w1 =>
 Nw (w1.alloc (.cells #[(.string (ByteArray.mk #[])), (.string (ByteArray.mk #[])), (.string (ByteArray.mk #[])), (.string (ByteArray.mk #[])), (.string (ByteArray.mk #[])), (.string (ByteArray.mk #[]))] 320)) fun w2 =>
 Nw (w2.alloc (.stringIter p0 0)) fun w3 =>
 LoopW (S := Int × Unit) (fun s1 w4 n2 =>
 nextW w2.heap.size w4 (fun i3 c4 w5 =>
 ifB (c4 == (32 : Int))
 (n2 ((IntKind.i64.wrap (s1.1 + (1 : Int))), ()) w5)
 ((0 ≤ s1.1 ∧ s1.1 < (6 : Int)) ∧
 ldStr w5 ((blk w1.heap.size).add (Int.toNat s1.1)) fun x5 =>
 sumFits x5 (Utf8.encode c4) ∧
 (0 ≤ s1.1 ∧ s1.1 < (6 : Int)) ∧
 Wr w5 ((blk w1.heap.size).add (Int.toNat s1.1)) ∧
 Nw (w5.setCell ((blk w1.heap.size).add (Int.toNat s1.1)) (.string (x5 ++ (Utf8.encode c4)))) fun w6 =>
 n2 (s1.1, ()) w6))
 (ldStr w4 ((blk w1.heap.size).add 0) fun x6 =>
 ldStr w4 ((blk w1.heap.size).add 1) fun x7 =>
 ldStr w4 ((blk w1.heap.size).add 2) fun x8 =>
 ldStr w4 ((blk w1.heap.size).add 3) fun x9 =>
 ldStr w4 ((blk w1.heap.size).add 4) fun x10 =>
 ldStr w4 ((blk w1.heap.size).add 5) fun x11 =>
 Wr w4 (blk w.heap.size) ∧
 Nw (w4.setCell (blk w.heap.size) (.string x6)) fun w7 =>
 Wr w7 ((blk w.heap.size).add 1) ∧
 Nw (w7.setCell ((blk w.heap.size).add 1) (.string x7)) fun w8 =>
 Wr w8 ((blk w.heap.size).add 2) ∧
 Nw (w8.setCell ((blk w.heap.size).add 2) (.string x8)) fun w9 =>
 Wr w9 ((blk w.heap.size).add 3) ∧
 Nw (w9.setCell ((blk w.heap.size).add 3) (.string x9)) fun w10 =>
 Wr w10 ((blk w.heap.size).add 4) ∧
 Nw (w10.setCell ((blk w.heap.size).add 4) (.string x10)) fun w11 =>
 Wr w11 ((blk w.heap.size).add 5) ∧
 Nw (w11.setCell ((blk w.heap.size).add 5) (.string x11)) fun w12 =>
 ldStr w12 ((blk w.heap.size).add 0) fun x12 =>
 ldStr w12 ((blk w.heap.size).add 1) fun x13 =>
 ldStr w12 ((blk w.heap.size).add 2) fun x14 =>
 ldStr w12 ((blk w.heap.size).add 3) fun x15 =>
 ldStr w12 ((blk w.heap.size).add 4) fun x16 =>
 ldStr w12 ((blk w.heap.size).add 5) fun x17 =>
 R (.agg #[(.string x12), (.string x13), (.string x14), (.string x15), (.string x16), (.string x17)]) w12))
 ((0 : Int), ()) w3
theorem grammar_fields_calls (p0 : ByteArray) (R : Value → World → Prop) (w : World) (h : L_grammar_fields p0 R w) : Calls Tryz.prog 241 #[(.string p0)] w (Ret R) :=
 lw_calls (fs := Tryz.fs) (an := a_grammar_fields) (args := [(.string p0)]) Tryz.fsOK Tryz.mixed Tryz.func241 (by kernel_rfl) (by kernel_rfl)
 (Eq.mpr (by kernel_rfl : lwFn Tryz.prog Tryz.fs Tryz.f241 a_grammar_fields [(.string p0)] w R = L_grammar_fields p0 R w) h)

/-- intaglio.grammar.Letter -/
def a_grammar_Letter : Ann := (.seq none .nil (.seq none .nil (.seq none .nil .nil)))
def L_grammar_Letter (p0 : Int) (p1 : Int) (R : Value → World → Prop) (w : World) : Prop :=
 callR Tryz.prog 187 #[(.int .u16 p0)] w fun v1 w1 =>
 ∃ x2 : (Int × ByteArray × Bool × Bool × ByteArray × ByteArray × Int × Int × Unit), ∃ x3 : Bool, v1 = (.tuple #[(.agg #[(.int .u16 x2.1), (.string x2.2.1), (.bool x2.2.2.1), (.bool x2.2.2.2.1), (.string x2.2.2.2.2.1), (.string x2.2.2.2.2.2.1), (.int .i64 x2.2.2.2.2.2.2.1), (.int .u8 x2.2.2.2.2.2.2.2.1)]), (.bool x3)]) ∧
 Nw (w1.alloc (.cells #[(.int .u16 (0 : Int)), (.string (ByteArray.mk #[])), (.bool false), (.bool false), (.string (ByteArray.mk #[])), (.string (ByteArray.mk #[])), (.int .i64 (0 : Int)), (.int .u8 (0 : Int))] 172)) fun w2 =>
 Wr w2 (blk w1.heap.size) ∧
 Nw (w2.setCell (blk w1.heap.size) (.int .u16 x2.1)) fun w3 =>
 Wr w3 ((blk w1.heap.size).add 1) ∧
 Nw (w3.setCell ((blk w1.heap.size).add 1) (.string x2.2.1)) fun w4 =>
 Wr w4 ((blk w1.heap.size).add 2) ∧
 Nw (w4.setCell ((blk w1.heap.size).add 2) (.bool x2.2.2.1)) fun w5 =>
 Wr w5 ((blk w1.heap.size).add 3) ∧
 Nw (w5.setCell ((blk w1.heap.size).add 3) (.bool x2.2.2.2.1)) fun w6 =>
 Wr w6 ((blk w1.heap.size).add 4) ∧
 Nw (w6.setCell ((blk w1.heap.size).add 4) (.string x2.2.2.2.2.1)) fun w7 =>
 Wr w7 ((blk w1.heap.size).add 5) ∧
 Nw (w7.setCell ((blk w1.heap.size).add 5) (.string x2.2.2.2.2.2.1)) fun w8 =>
 Wr w8 ((blk w1.heap.size).add 6) ∧
 Nw (w8.setCell ((blk w1.heap.size).add 6) (.int .i64 x2.2.2.2.2.2.2.1)) fun w9 =>
 Wr w9 ((blk w1.heap.size).add 7) ∧
 Nw (w9.setCell ((blk w1.heap.size).add 7) (.int .u8 x2.2.2.2.2.2.2.2.1)) fun w10 =>
 ldI w10 ((blk w1.heap.size).add 0) .u16 fun x4 =>
 ldStr w10 ((blk w1.heap.size).add 1) fun x5 =>
 ldB w10 ((blk w1.heap.size).add 2) fun x6 =>
 ldB w10 ((blk w1.heap.size).add 3) fun x7 =>
 ldStr w10 ((blk w1.heap.size).add 4) fun x8 =>
 ldStr w10 ((blk w1.heap.size).add 5) fun x9 =>
 ldI w10 ((blk w1.heap.size).add 6) .i64 fun x10 =>
 ldI w10 ((blk w1.heap.size).add 7) .u8 fun x11 =>
 callR Tryz.prog 281 #[(.agg #[(.int .u16 x4), (.string x5), (.bool x6), (.bool x7), (.string x8), (.string x9), (.int .i64 x10), (.int .u8 x11)]), (.int .i64 p1)] w10 fun v12 w11 =>
 ∃ x13 : Int, v12 = (.int .u8 x13) ∧
 R (.int .u8 x13) w11
theorem grammar_Letter_calls (p0 : Int) (p1 : Int) (R : Value → World → Prop) (w : World) (h : L_grammar_Letter p0 p1 R w) : Calls Tryz.prog 244 #[(.int .u16 p0), (.int .i64 p1)] w (Ret R) :=
 lw_calls (fs := Tryz.fs) (an := a_grammar_Letter) (args := [(.int .u16 p0), (.int .i64 p1)]) Tryz.fsOK Tryz.mixed Tryz.func244 (by kernel_rfl) (by kernel_rfl)
 (Eq.mpr (by kernel_rfl : lwFn Tryz.prog Tryz.fs Tryz.f244 a_grammar_Letter [(.int .u16 p0), (.int .i64 p1)] w R = L_grammar_Letter p0 p1 R w) h)

/-- intaglio.grammar.Kind -/
def a_grammar_Kind : Ann := (.seq none .nil (.seq none (.seq none .nil (.one (.seq none .nil (.cond (.seq none .nil .nil) (.seq none .nil (.cond (.seq none .nil .nil) (.seq none .nil (.cond (.seq none .nil .nil) .nil)))))))) (.seq none (.seq none .nil (.cond (.seq none .nil .nil) .nil)) (.seq none .nil .nil))))
def L_grammar_Kind (p0 : Int) (R : Value → World → Prop) (w : World) : Prop :=
 ifB (p0 == (105 : Int))
 (R (.int .u8 (1 : Int)) w)
 (ifB (p0 == (110 : Int))
 (R (.int .u8 (2 : Int)) w)
 (ifB (p0 == (115 : Int))
 (R (.int .u8 (3 : Int)) w)
 (callR Tryz.prog 282 #[(.int .u8 p0)] w fun v1 w1 =>
 ∃ x2 : ByteArray, v1 = (.string x2) ∧
 ifB (!(x2.toList == (ByteArray.mk #[]).toList))
 (R (.int .u8 (4 : Int)) w1)
 (R (.int .u8 (0 : Int)) w1))))
theorem grammar_Kind_calls (p0 : Int) (R : Value → World → Prop) (w : World) (h : L_grammar_Kind p0 R w) : Calls Tryz.prog 245 #[(.int .u8 p0)] w (Ret R) :=
 lw_calls (fs := Tryz.fs) (an := a_grammar_Kind) (args := [(.int .u8 p0)]) Tryz.fsOK Tryz.mixed Tryz.func245 (by kernel_rfl) (by kernel_rfl)
 (Eq.mpr (by kernel_rfl : lwFn Tryz.prog Tryz.fs Tryz.f245 a_grammar_Kind [(.int .u8 p0)] w R = L_grammar_Kind p0 R w) h)

/-- intaglio.grammar.Fits -/
def a_grammar_Fits : Ann := (.seq none .nil (.seq none .nil (.seq none (.seq none .nil (.cond (.seq none .nil .nil) .nil)) (.seq none .nil (.seq none (.seq none .nil (.one (.loop ⟨[1, 8, 21, 22], [(23, (.b (.int .i64)))]⟩ (.seq none .nil (.seq none (.cond .nil .nil) (.seq (some ⟨[1, 8, 21, 22, 23], []⟩) (.one (.seq none .nil (.seq none .nil (.cond (.seq none .nil .nil) .nil)))) .nil)))))) (.seq none .nil (.seq none (.seq none .nil (.cond (.seq none .nil .nil) .nil)) (.seq none .nil .nil))))))))
def L_grammar_Fits (p0 : Int) (p1 : Sl) (R : Value → World → Prop) (w : World) : Prop :=
 callR Tryz.prog 187 #[(.int .u16 p0)] w fun v1 w1 =>
 ∃ x2 : (Int × ByteArray × Bool × Bool × ByteArray × ByteArray × Int × Int × Unit), ∃ x3 : Bool, v1 = (.tuple #[(.agg #[(.int .u16 x2.1), (.string x2.2.1), (.bool x2.2.2.1), (.bool x2.2.2.2.1), (.string x2.2.2.2.2.1), (.string x2.2.2.2.2.2.1), (.int .i64 x2.2.2.2.2.2.2.1), (.int .u8 x2.2.2.2.2.2.2.2.1)]), (.bool x3)]) ∧
 Nw (w1.alloc (.cells #[(.int .u16 (0 : Int)), (.string (ByteArray.mk #[])), (.bool false), (.bool false), (.string (ByteArray.mk #[])), (.string (ByteArray.mk #[])), (.int .i64 (0 : Int)), (.int .u8 (0 : Int))] 172)) fun w2 =>
 Wr w2 (blk w1.heap.size) ∧
 Nw (w2.setCell (blk w1.heap.size) (.int .u16 x2.1)) fun w3 =>
 Wr w3 ((blk w1.heap.size).add 1) ∧
 Nw (w3.setCell ((blk w1.heap.size).add 1) (.string x2.2.1)) fun w4 =>
 Wr w4 ((blk w1.heap.size).add 2) ∧
 Nw (w4.setCell ((blk w1.heap.size).add 2) (.bool x2.2.2.1)) fun w5 =>
 Wr w5 ((blk w1.heap.size).add 3) ∧
 Nw (w5.setCell ((blk w1.heap.size).add 3) (.bool x2.2.2.2.1)) fun w6 =>
 Wr w6 ((blk w1.heap.size).add 4) ∧
 Nw (w6.setCell ((blk w1.heap.size).add 4) (.string x2.2.2.2.2.1)) fun w7 =>
 Wr w7 ((blk w1.heap.size).add 5) ∧
 Nw (w7.setCell ((blk w1.heap.size).add 5) (.string x2.2.2.2.2.2.1)) fun w8 =>
 Wr w8 ((blk w1.heap.size).add 6) ∧
 Nw (w8.setCell ((blk w1.heap.size).add 6) (.int .i64 x2.2.2.2.2.2.2.1)) fun w9 =>
 Wr w9 ((blk w1.heap.size).add 7) ∧
 Nw (w9.setCell ((blk w1.heap.size).add 7) (.int .u8 x2.2.2.2.2.2.2.2.1)) fun w10 =>
 ifB (!x3)
 (R (.tuple #[(.int .i64 (0 : Int)), (.bool false)]) w10)
 (ldI w10 ((blk w1.heap.size).add 0) .u16 fun x4 =>
 ldStr w10 ((blk w1.heap.size).add 1) fun x5 =>
 ldB w10 ((blk w1.heap.size).add 2) fun x6 =>
 ldB w10 ((blk w1.heap.size).add 3) fun x7 =>
 ldStr w10 ((blk w1.heap.size).add 4) fun x8 =>
 ldStr w10 ((blk w1.heap.size).add 5) fun x9 =>
 ldI w10 ((blk w1.heap.size).add 6) .i64 fun x10 =>
 ldI w10 ((blk w1.heap.size).add 7) .u8 fun x11 =>
 Nw (w10.alloc (.cells #[(.int .u16 (0 : Int)), (.string (ByteArray.mk #[])), (.bool false), (.bool false), (.string (ByteArray.mk #[])), (.string (ByteArray.mk #[])), (.int .i64 (0 : Int)), (.int .u8 (0 : Int))] 356)) fun w11 =>
 Wr w11 (blk w10.heap.size) ∧
 Nw (w11.setCell (blk w10.heap.size) (.int .u16 x4)) fun w12 =>
 Wr w12 ((blk w10.heap.size).add 1) ∧
 Nw (w12.setCell ((blk w10.heap.size).add 1) (.string x5)) fun w13 =>
 Wr w13 ((blk w10.heap.size).add 2) ∧
 Nw (w13.setCell ((blk w10.heap.size).add 2) (.bool x6)) fun w14 =>
 Wr w14 ((blk w10.heap.size).add 3) ∧
 Nw (w14.setCell ((blk w10.heap.size).add 3) (.bool x7)) fun w15 =>
 Wr w15 ((blk w10.heap.size).add 4) ∧
 Nw (w15.setCell ((blk w10.heap.size).add 4) (.string x8)) fun w16 =>
 Wr w16 ((blk w10.heap.size).add 5) ∧
 Nw (w16.setCell ((blk w10.heap.size).add 5) (.string x9)) fun w17 =>
 Wr w17 ((blk w10.heap.size).add 6) ∧
 Nw (w17.setCell ((blk w10.heap.size).add 6) (.int .i64 x10)) fun w18 =>
 Wr w18 ((blk w10.heap.size).add 7) ∧
 Nw (w18.setCell ((blk w10.heap.size).add 7) (.int .u8 x11)) fun w19 =>
 LoopW (S := Int × Unit) (fun s12 w20 n13 =>
 ifB (decide (s12.1 < (p1.l : Int)))
 (JoinW (S := Unit) (fun m14 =>
 (0 ≤ s12.1 ∧ s12.1 < (p1.l : Int)) ∧
 derefP p1.a fun a16 =>
 ldI w20 (a16.add (Int.toNat s12.1)) .u8 fun x17 =>
 ifB (x17 == (0 : Int))
 (R (.tuple #[(.int .i64 s12.1), (.bool false)]) w20)
 (ldI w20 ((blk w10.heap.size).add 0) .u16 fun x18 =>
 ldStr w20 ((blk w10.heap.size).add 1) fun x19 =>
 ldB w20 ((blk w10.heap.size).add 2) fun x20 =>
 ldB w20 ((blk w10.heap.size).add 3) fun x21 =>
 ldStr w20 ((blk w10.heap.size).add 4) fun x22 =>
 ldStr w20 ((blk w10.heap.size).add 5) fun x23 =>
 ldI w20 ((blk w10.heap.size).add 6) .i64 fun x24 =>
 ldI w20 ((blk w10.heap.size).add 7) .u8 fun x25 =>
 callR Tryz.prog 281 #[(.agg #[(.int .u16 x18), (.string x19), (.bool x20), (.bool x21), (.string x22), (.string x23), (.int .i64 x24), (.int .u8 x25)]), (.int .i64 s12.1)] w20 fun v26 w21 =>
 ∃ x27 : Int, v26 = (.int .u8 x27) ∧
 callR Tryz.prog 245 #[(.int .u8 x27)] w21 fun v28 w22 =>
 ∃ x29 : Int, v28 = (.int .u8 x29) ∧
 ifB (x29 != x17)
 (R (.tuple #[(.int .i64 s12.1), (.bool false)]) w22)
 (m14 (()) w22)))
 (fun s15 w23 =>
 n13 ((IntKind.i64.wrap (s12.1 + (1 : Int))), ()) w23))
 (ldStr w20 ((blk w10.heap.size).add 4) fun x30 =>
 ifB (decide ((IntKind.i64.wrap ((p1.l : Int) - (x30.size : Int))) < (0 : Int)))
 (R (.tuple #[(.int .i64 (p1.l : Int)), (.bool false)]) w20)
 (ldStr w20 ((blk w10.heap.size).add 5) fun x31 =>
 ifB (!(x31.toList == (ByteArray.mk #[]).toList))
 (ldStr w20 ((blk w10.heap.size).add 5) fun x32 =>
 ifB (decide ((x32.size : Int) = 0))
 (False)
 (ifB ((Int.tmod (IntKind.i64.wrap ((p1.l : Int) - (x30.size : Int))) (x32.size : Int)) != (0 : Int))
 (R (.tuple #[(.int .i64 (p1.l : Int)), (.bool false)]) w20)
 (R (.tuple #[(.int .i64 (0 : Int)), (.bool true)]) w20)))
 (R (.tuple #[(.int .i64 (0 : Int)), (.bool true)]) w20))))
 ((0 : Int), ()) w19)
theorem grammar_Fits_calls (p0 : Int) (p1 : Sl) (R : Value → World → Prop) (w : World) (h : L_grammar_Fits p0 p1 R w) : Calls Tryz.prog 248 #[(.int .u16 p0), (.slice p1.a p1.l p1.c)] w (Ret R) :=
 lw_calls (fs := Tryz.fs) (an := a_grammar_Fits) (args := [(.int .u16 p0), (.slice p1.a p1.l p1.c)]) Tryz.fsOK Tryz.mixed Tryz.func248 (by kernel_rfl) (by kernel_rfl)
 (Eq.mpr (by kernel_rfl : lwFn Tryz.prog Tryz.fs Tryz.f248 a_grammar_Fits [(.int .u16 p0), (.slice p1.a p1.l p1.c)] w R = L_grammar_Fits p0 p1 R w) h)

/-- intaglio.grammar.first -/
def a_grammar_first : Ann := (.seq none .nil (.seq none (.seq none .nil (.one (.seq none .nil (.cond (.seq none .nil .nil) (.seq none .nil (.cond (.seq none .nil .nil) (.seq none .nil (.cond (.seq none .nil .nil) (.seq none .nil (.cond (.seq none .nil .nil) (.seq none .nil (.cond (.seq none .nil .nil) (.seq none .nil (.cond (.seq none .nil .nil) (.seq none .nil (.cond (.seq none .nil .nil) (.seq none .nil (.cond (.seq none .nil .nil) (.seq none .nil (.cond (.seq none .nil .nil) (.seq none .nil (.cond (.seq none .nil .nil) (.seq none .nil (.cond (.seq none .nil .nil) (.seq none .nil (.cond (.seq none .nil .nil) (.seq none .nil (.cond (.seq none .nil .nil) (.seq none .nil (.cond (.seq none .nil .nil) (.seq none .nil (.cond (.seq none .nil .nil) (.seq none .nil (.cond (.seq none .nil .nil) (.seq none .nil (.cond (.seq none .nil .nil) (.seq none .nil (.cond (.seq none .nil .nil) (.seq none .nil (.cond (.seq none .nil .nil) (.seq none .nil (.cond (.seq none .nil .nil) (.seq none .nil (.cond (.seq none .nil .nil) (.seq none .nil (.cond (.seq none .nil .nil) (.seq none .nil (.cond (.seq none .nil .nil) (.seq none .nil (.cond (.seq none .nil .nil) (.seq none .nil (.cond (.seq none .nil .nil) (.seq none .nil (.cond (.seq none .nil .nil) (.seq none .nil (.cond (.seq none .nil .nil) (.seq none .nil (.cond (.seq none .nil .nil) (.seq none .nil (.cond (.seq none .nil .nil) (.seq none .nil (.cond (.seq none .nil .nil) (.seq none .nil (.cond (.seq none .nil .nil) .nil)))))))))))))))))))))))))))))))))))))))))))))))))))))))))))))))) (.seq none .nil .nil)))
def L_grammar_first (p0 : Int) (R : Value → World → Prop) (w : World) : Prop :=
 ifB (p0 == (1 : Int))
 (R (.string (ByteArray.mk #[79, 112, 85, 110, 100, 101, 102, 32, 84, 82, 32, 32, 32, 32, 55])) w)
 (ifB (p0 == (3 : Int))
 (R (.string (ByteArray.mk #[79, 112, 83, 111, 117, 114, 99, 101, 32, 32, 108, 110, 32, 32, 32, 52])) w)
 (ifB (p0 == (5 : Int))
 (R (.string (ByteArray.mk #[79, 112, 78, 97, 109, 101, 32, 32, 105, 115, 32, 32, 32, 53])) w)
 (ifB (p0 == (6 : Int))
 (R (.string (ByteArray.mk #[79, 112, 77, 101, 109, 98, 101, 114, 78, 97, 109, 101, 32, 32, 105, 110, 115, 32, 32, 32, 53])) w)
 (ifB (p0 == (7 : Int))
 (R (.string (ByteArray.mk #[79, 112, 83, 116, 114, 105, 110, 103, 32, 82, 32, 115, 32, 32, 32, 52])) w)
 (ifB (p0 == (14 : Int))
 (R (.string (ByteArray.mk #[79, 112, 77, 101, 109, 111, 114, 121, 77, 111, 100, 101, 108, 32, 32, 97, 109, 32, 32, 32, 49])) w)
 (ifB (p0 == (15 : Int))
 (R (.string (ByteArray.mk #[79, 112, 69, 110, 116, 114, 121, 80, 111, 105, 110, 116, 32, 32, 101, 105, 115, 32, 105, 32, 32, 50])) w)
 (ifB (p0 == (16 : Int))
 (R (.string (ByteArray.mk #[79, 112, 69, 120, 101, 99, 117, 116, 105, 111, 110, 77, 111, 100, 101, 32, 32, 105, 120, 32, 32, 32, 51])) w)
 (ifB (p0 == (17 : Int))
 (R (.string (ByteArray.mk #[79, 112, 67, 97, 112, 97, 98, 105, 108, 105, 116, 121, 32, 32, 107, 32, 32, 32, 48])) w)
 (ifB (p0 == (19 : Int))
 (R (.string (ByteArray.mk #[79, 112, 84, 121, 112, 101, 86, 111, 105, 100, 32, 82, 32, 32, 32, 32, 55])) w)
 (ifB (p0 == (20 : Int))
 (R (.string (ByteArray.mk #[79, 112, 84, 121, 112, 101, 66, 111, 111, 108, 32, 82, 32, 32, 32, 32, 55])) w)
 (ifB (p0 == (21 : Int))
 (R (.string (ByteArray.mk #[79, 112, 84, 121, 112, 101, 73, 110, 116, 32, 82, 32, 110, 110, 32, 32, 32, 55])) w)
 (ifB (p0 == (23 : Int))
 (R (.string (ByteArray.mk #[79, 112, 84, 121, 112, 101, 86, 101, 99, 116, 111, 114, 32, 82, 32, 105, 110, 32, 32, 32, 55])) w)
 (ifB (p0 == (28 : Int))
 (R (.string (ByteArray.mk #[79, 112, 84, 121, 112, 101, 65, 114, 114, 97, 121, 32, 82, 32, 105, 105, 32, 32, 32, 55])) w)
 (ifB (p0 == (30 : Int))
 (R (.string (ByteArray.mk #[79, 112, 84, 121, 112, 101, 83, 116, 114, 117, 99, 116, 32, 82, 32, 32, 105, 32, 32, 55])) w)
 (ifB (p0 == (32 : Int))
 (R (.string (ByteArray.mk #[79, 112, 84, 121, 112, 101, 80, 111, 105, 110, 116, 101, 114, 32, 82, 32, 99, 105, 32, 32, 32, 55])) w)
 (ifB (p0 == (33 : Int))
 (R (.string (ByteArray.mk #[79, 112, 84, 121, 112, 101, 70, 117, 110, 99, 116, 105, 111, 110, 32, 82, 32, 105, 32, 105, 32, 32, 55])) w)
 (ifB (p0 == (41 : Int))
 (R (.string (ByteArray.mk #[79, 112, 67, 111, 110, 115, 116, 97, 110, 116, 84, 114, 117, 101, 32, 84, 82, 32, 32, 32, 32, 55])) w)
 (ifB (p0 == (42 : Int))
 (R (.string (ByteArray.mk #[79, 112, 67, 111, 110, 115, 116, 97, 110, 116, 70, 97, 108, 115, 101, 32, 84, 82, 32, 32, 32, 32, 55])) w)
 (ifB (p0 == (43 : Int))
 (R (.string (ByteArray.mk #[79, 112, 67, 111, 110, 115, 116, 97, 110, 116, 32, 84, 82, 32, 110, 32, 32, 32, 55])) w)
 (ifB (p0 == (44 : Int))
 (R (.string (ByteArray.mk #[79, 112, 67, 111, 110, 115, 116, 97, 110, 116, 67, 111, 109, 112, 111, 115, 105, 116, 101, 32, 84, 82, 32, 32, 105, 32, 32, 55])) w)
 (ifB (p0 == (46 : Int))
 (R (.string (ByteArray.mk #[79, 112, 67, 111, 110, 115, 116, 97, 110, 116, 78, 117, 108, 108, 32, 84, 82, 32, 32, 32, 32, 55])) w)
 (ifB (p0 == (54 : Int))
 (R (.string (ByteArray.mk #[79, 112, 70, 117, 110, 99, 116, 105, 111, 110, 32, 84, 82, 32, 102, 105, 32, 32, 32, 56])) w)
 (ifB (p0 == (55 : Int))
 (R (.string (ByteArray.mk #[79, 112, 70, 117, 110, 99, 116, 105, 111, 110, 80, 97, 114, 97, 109, 101, 116, 101, 114, 32, 84, 82, 32, 32, 32, 32, 56])) w)
 (ifB (p0 == (56 : Int))
 (R (.string (ByteArray.mk #[79, 112, 70, 117, 110, 99, 116, 105, 111, 110, 69, 110, 100, 32, 32, 32, 32, 32, 56])) w)
 (ifB (p0 == (57 : Int))
 (R (.string (ByteArray.mk #[79, 112, 70, 117, 110, 99, 116, 105, 111, 110, 67, 97, 108, 108, 32, 84, 82, 32, 105, 32, 105, 32, 32, 56])) w)
 (ifB (p0 == (59 : Int))
 (R (.string (ByteArray.mk #[79, 112, 86, 97, 114, 105, 97, 98, 108, 101, 32, 84, 82, 32, 99, 32, 105, 32, 49, 32, 55])) w)
 (ifB (p0 == (61 : Int))
 (R (.string (ByteArray.mk #[79, 112, 76, 111, 97, 100, 32, 84, 82, 32, 105, 32, 32, 32, 56])) w)
 (ifB (p0 == (62 : Int))
 (R (.string (ByteArray.mk #[79, 112, 83, 116, 111, 114, 101, 32, 32, 105, 105, 32, 32, 32, 56])) w)
 (ifB (p0 == (65 : Int))
 (R (.string (ByteArray.mk #[79, 112, 65, 99, 99, 101, 115, 115, 67, 104, 97, 105, 110, 32, 84, 82, 32, 105, 32, 105, 32, 32, 56])) w)
 (ifB (p0 == (71 : Int))
 (R (.string (ByteArray.mk #[79, 112, 68, 101, 99, 111, 114, 97, 116, 101, 32, 32, 105, 100, 32, 110, 32, 32, 54])) w)
 (R (.string (ByteArray.mk #[])) w)))))))))))))))))))))))))))))))
theorem grammar_first_calls (p0 : Int) (R : Value → World → Prop) (w : World) (h : L_grammar_first p0 R w) : Calls Tryz.prog 278 #[(.int .u16 p0)] w (Ret R) :=
 lw_calls (fs := Tryz.fs) (an := a_grammar_first) (args := [(.int .u16 p0)]) Tryz.fsOK Tryz.mixed Tryz.func278 (by kernel_rfl) (by kernel_rfl)
 (Eq.mpr (by kernel_rfl : lwFn Tryz.prog Tryz.fs Tryz.f278 a_grammar_first [(.int .u16 p0)] w R = L_grammar_first p0 R w) h)

/-- intaglio.grammar.second -/
def a_grammar_second : Ann := (.seq none .nil (.seq none (.seq none .nil (.one (.seq none .nil (.cond (.seq none .nil .nil) (.seq none .nil (.cond (.seq none .nil .nil) (.seq none .nil (.cond (.seq none .nil .nil) (.seq none .nil (.cond (.seq none .nil .nil) (.seq none .nil (.cond (.seq none .nil .nil) (.seq none .nil (.cond (.seq none .nil .nil) (.seq none .nil (.cond (.seq none .nil .nil) (.seq none .nil (.cond (.seq none .nil .nil) (.seq none .nil (.cond (.seq none .nil .nil) (.seq none .nil (.cond (.seq none .nil .nil) (.seq none .nil (.cond (.seq none .nil .nil) (.seq none .nil (.cond (.seq none .nil .nil) (.seq none .nil (.cond (.seq none .nil .nil) (.seq none .nil (.cond (.seq none .nil .nil) (.seq none .nil (.cond (.seq none .nil .nil) (.seq none .nil (.cond (.seq none .nil .nil) (.seq none .nil (.cond (.seq none .nil .nil) (.seq none .nil (.cond (.seq none .nil .nil) (.seq none .nil (.cond (.seq none .nil .nil) (.seq none .nil (.cond (.seq none .nil .nil) (.seq none .nil (.cond (.seq none .nil .nil) (.seq none .nil (.cond (.seq none .nil .nil) (.seq none .nil (.cond (.seq none .nil .nil) (.seq none .nil (.cond (.seq none .nil .nil) (.seq none .nil (.cond (.seq none .nil .nil) (.seq none .nil (.cond (.seq none .nil .nil) (.seq none .nil (.cond (.seq none .nil .nil) (.seq none .nil (.cond (.seq none .nil .nil) (.seq none .nil (.cond (.seq none .nil .nil) (.seq none .nil (.cond (.seq none .nil .nil) (.seq none .nil (.cond (.seq none .nil .nil) .nil)))))))))))))))))))))))))))))))))))))))))))))))))))))))))))))))) (.seq none .nil .nil)))
def L_grammar_second (p0 : Int) (R : Value → World → Prop) (w : World) : Prop :=
 ifB (p0 == (77 : Int))
 (R (.string (ByteArray.mk #[79, 112, 86, 101, 99, 116, 111, 114, 69, 120, 116, 114, 97, 99, 116, 68, 121, 110, 97, 109, 105, 99, 32, 84, 82, 32, 105, 105, 32, 32, 32, 56])) w)
 (ifB (p0 == (78 : Int))
 (R (.string (ByteArray.mk #[79, 112, 86, 101, 99, 116, 111, 114, 73, 110, 115, 101, 114, 116, 68, 121, 110, 97, 109, 105, 99, 32, 84, 82, 32, 105, 105, 105, 32, 32, 32, 56])) w)
 (ifB (p0 == (79 : Int))
 (R (.string (ByteArray.mk #[79, 112, 86, 101, 99, 116, 111, 114, 83, 104, 117, 102, 102, 108, 101, 32, 84, 82, 32, 105, 105, 32, 110, 32, 32, 56])) w)
 (ifB (p0 == (80 : Int))
 (R (.string (ByteArray.mk #[79, 112, 67, 111, 109, 112, 111, 115, 105, 116, 101, 67, 111, 110, 115, 116, 114, 117, 99, 116, 32, 84, 82, 32, 32, 105, 32, 32, 56])) w)
 (ifB (p0 == (81 : Int))
 (R (.string (ByteArray.mk #[79, 112, 67, 111, 109, 112, 111, 115, 105, 116, 101, 69, 120, 116, 114, 97, 99, 116, 32, 84, 82, 32, 105, 32, 110, 32, 32, 56])) w)
 (ifB (p0 == (82 : Int))
 (R (.string (ByteArray.mk #[79, 112, 67, 111, 109, 112, 111, 115, 105, 116, 101, 73, 110, 115, 101, 114, 116, 32, 84, 82, 32, 105, 105, 32, 110, 32, 32, 56])) w)
 (ifB (p0 == (83 : Int))
 (R (.string (ByteArray.mk #[79, 112, 67, 111, 112, 121, 79, 98, 106, 101, 99, 116, 32, 84, 82, 32, 105, 32, 32, 32, 56])) w)
 (ifB (p0 == (124 : Int))
 (R (.string (ByteArray.mk #[79, 112, 66, 105, 116, 99, 97, 115, 116, 32, 84, 82, 32, 105, 32, 32, 32, 56])) w)
 (ifB (p0 == (126 : Int))
 (R (.string (ByteArray.mk #[79, 112, 83, 78, 101, 103, 97, 116, 101, 32, 84, 82, 32, 105, 32, 32, 32, 56])) w)
 (ifB (p0 == (128 : Int))
 (R (.string (ByteArray.mk #[79, 112, 73, 65, 100, 100, 32, 84, 82, 32, 105, 105, 32, 32, 32, 56])) w)
 (ifB (p0 == (130 : Int))
 (R (.string (ByteArray.mk #[79, 112, 73, 83, 117, 98, 32, 84, 82, 32, 105, 105, 32, 32, 32, 56])) w)
 (ifB (p0 == (132 : Int))
 (R (.string (ByteArray.mk #[79, 112, 73, 77, 117, 108, 32, 84, 82, 32, 105, 105, 32, 32, 32, 56])) w)
 (ifB (p0 == (134 : Int))
 (R (.string (ByteArray.mk #[79, 112, 85, 68, 105, 118, 32, 84, 82, 32, 105, 105, 32, 32, 32, 56])) w)
 (ifB (p0 == (135 : Int))
 (R (.string (ByteArray.mk #[79, 112, 83, 68, 105, 118, 32, 84, 82, 32, 105, 105, 32, 32, 32, 56])) w)
 (ifB (p0 == (137 : Int))
 (R (.string (ByteArray.mk #[79, 112, 85, 77, 111, 100, 32, 84, 82, 32, 105, 105, 32, 32, 32, 56])) w)
 (ifB (p0 == (138 : Int))
 (R (.string (ByteArray.mk #[79, 112, 83, 82, 101, 109, 32, 84, 82, 32, 105, 105, 32, 32, 32, 56])) w)
 (ifB (p0 == (139 : Int))
 (R (.string (ByteArray.mk #[79, 112, 83, 77, 111, 100, 32, 84, 82, 32, 105, 105, 32, 32, 32, 56])) w)
 (ifB (p0 == (149 : Int))
 (R (.string (ByteArray.mk #[79, 112, 73, 65, 100, 100, 67, 97, 114, 114, 121, 32, 84, 82, 32, 105, 105, 32, 32, 32, 56])) w)
 (ifB (p0 == (150 : Int))
 (R (.string (ByteArray.mk #[79, 112, 73, 83, 117, 98, 66, 111, 114, 114, 111, 119, 32, 84, 82, 32, 105, 105, 32, 32, 32, 56])) w)
 (ifB (p0 == (151 : Int))
 (R (.string (ByteArray.mk #[79, 112, 85, 77, 117, 108, 69, 120, 116, 101, 110, 100, 101, 100, 32, 84, 82, 32, 105, 105, 32, 32, 32, 56])) w)
 (ifB (p0 == (152 : Int))
 (R (.string (ByteArray.mk #[79, 112, 83, 77, 117, 108, 69, 120, 116, 101, 110, 100, 101, 100, 32, 84, 82, 32, 105, 105, 32, 32, 32, 56])) w)
 (ifB (p0 == (154 : Int))
 (R (.string (ByteArray.mk #[79, 112, 65, 110, 121, 32, 84, 82, 32, 105, 32, 32, 32, 56])) w)
 (ifB (p0 == (155 : Int))
 (R (.string (ByteArray.mk #[79, 112, 65, 108, 108, 32, 84, 82, 32, 105, 32, 32, 32, 56])) w)
 (ifB (p0 == (164 : Int))
 (R (.string (ByteArray.mk #[79, 112, 76, 111, 103, 105, 99, 97, 108, 69, 113, 117, 97, 108, 32, 84, 82, 32, 105, 105, 32, 32, 32, 56])) w)
 (ifB (p0 == (165 : Int))
 (R (.string (ByteArray.mk #[79, 112, 76, 111, 103, 105, 99, 97, 108, 78, 111, 116, 69, 113, 117, 97, 108, 32, 84, 82, 32, 105, 105, 32, 32, 32, 56])) w)
 (ifB (p0 == (166 : Int))
 (R (.string (ByteArray.mk #[79, 112, 76, 111, 103, 105, 99, 97, 108, 79, 114, 32, 84, 82, 32, 105, 105, 32, 32, 32, 56])) w)
 (ifB (p0 == (167 : Int))
 (R (.string (ByteArray.mk #[79, 112, 76, 111, 103, 105, 99, 97, 108, 65, 110, 100, 32, 84, 82, 32, 105, 105, 32, 32, 32, 56])) w)
 (ifB (p0 == (168 : Int))
 (R (.string (ByteArray.mk #[79, 112, 76, 111, 103, 105, 99, 97, 108, 78, 111, 116, 32, 84, 82, 32, 105, 32, 32, 32, 56])) w)
 (ifB (p0 == (169 : Int))
 (R (.string (ByteArray.mk #[79, 112, 83, 101, 108, 101, 99, 116, 32, 84, 82, 32, 105, 105, 105, 32, 32, 32, 56])) w)
 (ifB (p0 == (170 : Int))
 (R (.string (ByteArray.mk #[79, 112, 73, 69, 113, 117, 97, 108, 32, 84, 82, 32, 105, 105, 32, 32, 32, 56])) w)
 (ifB (p0 == (171 : Int))
 (R (.string (ByteArray.mk #[79, 112, 73, 78, 111, 116, 69, 113, 117, 97, 108, 32, 84, 82, 32, 105, 105, 32, 32, 32, 56])) w)
 (R (.string (ByteArray.mk #[])) w)))))))))))))))))))))))))))))))
theorem grammar_second_calls (p0 : Int) (R : Value → World → Prop) (w : World) (h : L_grammar_second p0 R w) : Calls Tryz.prog 279 #[(.int .u16 p0)] w (Ret R) :=
 lw_calls (fs := Tryz.fs) (an := a_grammar_second) (args := [(.int .u16 p0)]) Tryz.fsOK Tryz.mixed Tryz.func279 (by kernel_rfl) (by kernel_rfl)
 (Eq.mpr (by kernel_rfl : lwFn Tryz.prog Tryz.fs Tryz.f279 a_grammar_second [(.int .u16 p0)] w R = L_grammar_second p0 R w) h)

/-- intaglio.grammar.third -/
def a_grammar_third : Ann := (.seq none .nil (.seq none (.seq none .nil (.one (.seq none .nil (.cond (.seq none .nil .nil) (.seq none .nil (.cond (.seq none .nil .nil) (.seq none .nil (.cond (.seq none .nil .nil) (.seq none .nil (.cond (.seq none .nil .nil) (.seq none .nil (.cond (.seq none .nil .nil) (.seq none .nil (.cond (.seq none .nil .nil) (.seq none .nil (.cond (.seq none .nil .nil) (.seq none .nil (.cond (.seq none .nil .nil) (.seq none .nil (.cond (.seq none .nil .nil) (.seq none .nil (.cond (.seq none .nil .nil) (.seq none .nil (.cond (.seq none .nil .nil) (.seq none .nil (.cond (.seq none .nil .nil) (.seq none .nil (.cond (.seq none .nil .nil) (.seq none .nil (.cond (.seq none .nil .nil) (.seq none .nil (.cond (.seq none .nil .nil) (.seq none .nil (.cond (.seq none .nil .nil) (.seq none .nil (.cond (.seq none .nil .nil) (.seq none .nil (.cond (.seq none .nil .nil) (.seq none .nil (.cond (.seq none .nil .nil) (.seq none .nil (.cond (.seq none .nil .nil) (.seq none .nil (.cond (.seq none .nil .nil) (.seq none .nil (.cond (.seq none .nil .nil) (.seq none .nil (.cond (.seq none .nil .nil) (.seq none .nil (.cond (.seq none .nil .nil) (.seq none .nil (.cond (.seq none .nil .nil) (.seq none .nil (.cond (.seq none .nil .nil) (.seq none .nil (.cond (.seq none .nil .nil) (.seq none .nil (.cond (.seq none .nil .nil) (.seq none .nil (.cond (.seq none .nil .nil) (.seq none .nil (.cond (.seq none .nil .nil) (.seq none .nil (.cond (.seq none .nil .nil) .nil)))))))))))))))))))))))))))))))))))))))))))))))))))))))))))))))) (.seq none .nil .nil)))
def L_grammar_third (p0 : Int) (R : Value → World → Prop) (w : World) : Prop :=
 ifB (p0 == (172 : Int))
 (R (.string (ByteArray.mk #[79, 112, 85, 71, 114, 101, 97, 116, 101, 114, 84, 104, 97, 110, 32, 84, 82, 32, 105, 105, 32, 32, 32, 56])) w)
 (ifB (p0 == (173 : Int))
 (R (.string (ByteArray.mk #[79, 112, 83, 71, 114, 101, 97, 116, 101, 114, 84, 104, 97, 110, 32, 84, 82, 32, 105, 105, 32, 32, 32, 56])) w)
 (ifB (p0 == (174 : Int))
 (R (.string (ByteArray.mk #[79, 112, 85, 71, 114, 101, 97, 116, 101, 114, 84, 104, 97, 110, 69, 113, 117, 97, 108, 32, 84, 82, 32, 105, 105, 32, 32, 32, 56])) w)
 (ifB (p0 == (175 : Int))
 (R (.string (ByteArray.mk #[79, 112, 83, 71, 114, 101, 97, 116, 101, 114, 84, 104, 97, 110, 69, 113, 117, 97, 108, 32, 84, 82, 32, 105, 105, 32, 32, 32, 56])) w)
 (ifB (p0 == (176 : Int))
 (R (.string (ByteArray.mk #[79, 112, 85, 76, 101, 115, 115, 84, 104, 97, 110, 32, 84, 82, 32, 105, 105, 32, 32, 32, 56])) w)
 (ifB (p0 == (177 : Int))
 (R (.string (ByteArray.mk #[79, 112, 83, 76, 101, 115, 115, 84, 104, 97, 110, 32, 84, 82, 32, 105, 105, 32, 32, 32, 56])) w)
 (ifB (p0 == (178 : Int))
 (R (.string (ByteArray.mk #[79, 112, 85, 76, 101, 115, 115, 84, 104, 97, 110, 69, 113, 117, 97, 108, 32, 84, 82, 32, 105, 105, 32, 32, 32, 56])) w)
 (ifB (p0 == (179 : Int))
 (R (.string (ByteArray.mk #[79, 112, 83, 76, 101, 115, 115, 84, 104, 97, 110, 69, 113, 117, 97, 108, 32, 84, 82, 32, 105, 105, 32, 32, 32, 56])) w)
 (ifB (p0 == (194 : Int))
 (R (.string (ByteArray.mk #[79, 112, 83, 104, 105, 102, 116, 82, 105, 103, 104, 116, 76, 111, 103, 105, 99, 97, 108, 32, 84, 82, 32, 105, 105, 32, 32, 32, 56])) w)
 (ifB (p0 == (195 : Int))
 (R (.string (ByteArray.mk #[79, 112, 83, 104, 105, 102, 116, 82, 105, 103, 104, 116, 65, 114, 105, 116, 104, 109, 101, 116, 105, 99, 32, 84, 82, 32, 105, 105, 32, 32, 32, 56])) w)
 (ifB (p0 == (196 : Int))
 (R (.string (ByteArray.mk #[79, 112, 83, 104, 105, 102, 116, 76, 101, 102, 116, 76, 111, 103, 105, 99, 97, 108, 32, 84, 82, 32, 105, 105, 32, 32, 32, 56])) w)
 (ifB (p0 == (197 : Int))
 (R (.string (ByteArray.mk #[79, 112, 66, 105, 116, 119, 105, 115, 101, 79, 114, 32, 84, 82, 32, 105, 105, 32, 32, 32, 56])) w)
 (ifB (p0 == (198 : Int))
 (R (.string (ByteArray.mk #[79, 112, 66, 105, 116, 119, 105, 115, 101, 88, 111, 114, 32, 84, 82, 32, 105, 105, 32, 32, 32, 56])) w)
 (ifB (p0 == (199 : Int))
 (R (.string (ByteArray.mk #[79, 112, 66, 105, 116, 119, 105, 115, 101, 65, 110, 100, 32, 84, 82, 32, 105, 105, 32, 32, 32, 56])) w)
 (ifB (p0 == (200 : Int))
 (R (.string (ByteArray.mk #[79, 112, 78, 111, 116, 32, 84, 82, 32, 105, 32, 32, 32, 56])) w)
 (ifB (p0 == (201 : Int))
 (R (.string (ByteArray.mk #[79, 112, 66, 105, 116, 70, 105, 101, 108, 100, 73, 110, 115, 101, 114, 116, 32, 84, 82, 32, 105, 105, 105, 105, 32, 32, 32, 56])) w)
 (ifB (p0 == (202 : Int))
 (R (.string (ByteArray.mk #[79, 112, 66, 105, 116, 70, 105, 101, 108, 100, 83, 69, 120, 116, 114, 97, 99, 116, 32, 84, 82, 32, 105, 105, 105, 32, 32, 32, 56])) w)
 (ifB (p0 == (203 : Int))
 (R (.string (ByteArray.mk #[79, 112, 66, 105, 116, 70, 105, 101, 108, 100, 85, 69, 120, 116, 114, 97, 99, 116, 32, 84, 82, 32, 105, 105, 105, 32, 32, 32, 56])) w)
 (ifB (p0 == (204 : Int))
 (R (.string (ByteArray.mk #[79, 112, 66, 105, 116, 82, 101, 118, 101, 114, 115, 101, 32, 84, 82, 32, 105, 32, 32, 32, 56])) w)
 (ifB (p0 == (205 : Int))
 (R (.string (ByteArray.mk #[79, 112, 66, 105, 116, 67, 111, 117, 110, 116, 32, 84, 82, 32, 105, 32, 32, 32, 56])) w)
 (ifB (p0 == (245 : Int))
 (R (.string (ByteArray.mk #[79, 112, 80, 104, 105, 32, 84, 82, 32, 32, 105, 105, 32, 32, 56])) w)
 (ifB (p0 == (246 : Int))
 (R (.string (ByteArray.mk #[79, 112, 76, 111, 111, 112, 77, 101, 114, 103, 101, 32, 32, 105, 105, 103, 32, 32, 32, 56])) w)
 (ifB (p0 == (247 : Int))
 (R (.string (ByteArray.mk #[79, 112, 83, 101, 108, 101, 99, 116, 105, 111, 110, 77, 101, 114, 103, 101, 32, 32, 105, 104, 32, 32, 32, 56])) w)
 (ifB (p0 == (248 : Int))
 (R (.string (ByteArray.mk #[79, 112, 76, 97, 98, 101, 108, 32, 82, 32, 32, 32, 32, 56])) w)
 (ifB (p0 == (249 : Int))
 (R (.string (ByteArray.mk #[79, 112, 66, 114, 97, 110, 99, 104, 32, 32, 105, 32, 32, 32, 56])) w)
 (ifB (p0 == (250 : Int))
 (R (.string (ByteArray.mk #[79, 112, 66, 114, 97, 110, 99, 104, 67, 111, 110, 100, 105, 116, 105, 111, 110, 97, 108, 32, 32, 105, 105, 105, 32, 32, 32, 56])) w)
 (ifB (p0 == (251 : Int))
 (R (.string (ByteArray.mk #[79, 112, 83, 119, 105, 116, 99, 104, 32, 32, 105, 105, 32, 110, 105, 32, 32, 56])) w)
 (ifB (p0 == (252 : Int))
 (R (.string (ByteArray.mk #[79, 112, 75, 105, 108, 108, 32, 32, 32, 32, 32, 56])) w)
 (ifB (p0 == (253 : Int))
 (R (.string (ByteArray.mk #[79, 112, 82, 101, 116, 117, 114, 110, 32, 32, 32, 32, 32, 56])) w)
 (ifB (p0 == (254 : Int))
 (R (.string (ByteArray.mk #[79, 112, 82, 101, 116, 117, 114, 110, 86, 97, 108, 117, 101, 32, 32, 105, 32, 32, 32, 56])) w)
 (ifB (p0 == (255 : Int))
 (R (.string (ByteArray.mk #[79, 112, 85, 110, 114, 101, 97, 99, 104, 97, 98, 108, 101, 32, 32, 32, 32, 32, 56])) w)
 (R (.string (ByteArray.mk #[])) w)))))))))))))))))))))))))))))))
theorem grammar_third_calls (p0 : Int) (R : Value → World → Prop) (w : World) (h : L_grammar_third p0 R w) : Calls Tryz.prog 280 #[(.int .u16 p0)] w (Ret R) :=
 lw_calls (fs := Tryz.fs) (an := a_grammar_third) (args := [(.int .u16 p0)]) Tryz.fsOK Tryz.mixed Tryz.func280 (by kernel_rfl) (by kernel_rfl)
 (Eq.mpr (by kernel_rfl : lwFn Tryz.prog Tryz.fs Tryz.f280 a_grammar_third [(.int .u16 p0)] w R = L_grammar_third p0 R w) h)

/-- (intaglio.grammar.form).letter -/
def a_grammar_form_letter : Ann := (.seq none .nil (.seq none (.seq none .nil (.cond (.seq none .nil .nil) .nil)) (.seq none (.seq none .nil (.one (.loop ⟨[1, 14, 15], [(16, (.b (.int .i64)))]⟩ (.seq none .nil (.seq none (.cond .nil .nil) (.seq none (.one (.seq none .nil (.seq none .nil (.seq none .nil (.cond (.seq none .nil .nil) .nil))))) .nil)))))) (.seq none .nil .nil))))
def L_grammar_form_letter (p0 : (Int × ByteArray × Bool × Bool × ByteArray × ByteArray × Int × Int × Unit)) (p1 : Int) (R : Value → World → Prop) (w : World) : Prop :=
 Nw (w.alloc (.cells #[(.int .u16 p0.1), (.string p0.2.1), (.bool p0.2.2.1), (.bool p0.2.2.2.1), (.string p0.2.2.2.2.1), (.string p0.2.2.2.2.2.1), (.int .i64 p0.2.2.2.2.2.2.1), (.int .u8 p0.2.2.2.2.2.2.2.1)] 356)) fun w1 =>
 ifB (decide (p1 < (0 : Int)))
 (R (.int .u8 (0 : Int)) w1)
 (ldI w1 ((blk w.heap.size).add 0) .u16 fun x1 =>
 ldStr w1 ((blk w.heap.size).add 1) fun x2 =>
 ldB w1 ((blk w.heap.size).add 2) fun x3 =>
 ldB w1 ((blk w.heap.size).add 3) fun x4 =>
 ldStr w1 ((blk w.heap.size).add 4) fun x5 =>
 ldStr w1 ((blk w.heap.size).add 5) fun x6 =>
 ldI w1 ((blk w.heap.size).add 6) .i64 fun x7 =>
 ldI w1 ((blk w.heap.size).add 7) .u8 fun x8 =>
 ldI w1 ((blk w.heap.size).add 0) .u16 fun x9 =>
 ldStr w1 ((blk w.heap.size).add 1) fun x10 =>
 ldB w1 ((blk w.heap.size).add 2) fun x11 =>
 ldB w1 ((blk w.heap.size).add 3) fun x12 =>
 ldStr w1 ((blk w.heap.size).add 4) fun x13 =>
 ldStr w1 ((blk w.heap.size).add 5) fun x14 =>
 ldI w1 ((blk w.heap.size).add 6) .i64 fun x15 =>
 ldI w1 ((blk w.heap.size).add 7) .u8 fun x16 =>
 Nw (w1.alloc (.cells #[(.func (.func 300) #[(.agg #[(.int .u16 x1), (.string x2), (.bool x3), (.bool x4), (.string x5), (.string x6), (.int .i64 x7), (.int .u8 x8)])] #[]), (.func (.func 301) #[(.agg #[(.int .u16 x9), (.string x10), (.bool x11), (.bool x12), (.string x13), (.string x14), (.int .i64 x15), (.int .u8 x16)])] #[])] 357)) fun w2 =>
 LoopW (S := Int × Unit) (fun s17 w3 n18 =>
 ifB (decide (s17.1 < (2 : Int)))
 ((0 ≤ s17.1 ∧ s17.1 < (2 : Int)) ∧
 ldR w3 ((blk w1.heap.size).add (Int.toNat s17.1)) fun x19 =>
 callV Tryz.prog Tryz.fs x19 [(.int .i64 p1)] w3 fun v20 w4 =>
 ∃ x21 : Int, v20 = (.int .u8 x21) ∧
 ifB (x21 != (0 : Int))
 (R (.int .u8 x21) w4)
 (n18 ((IntKind.i64.wrap (s17.1 + (1 : Int))), ()) w4))
 (R (.int .u8 (0 : Int)) w3))
 ((0 : Int), ()) w2)
theorem grammar_form_letter_calls (p0 : (Int × ByteArray × Bool × Bool × ByteArray × ByteArray × Int × Int × Unit)) (p1 : Int) (R : Value → World → Prop) (w : World) (h : L_grammar_form_letter p0 p1 R w) : Calls Tryz.prog 281 #[(.agg #[(.int .u16 p0.1), (.string p0.2.1), (.bool p0.2.2.1), (.bool p0.2.2.2.1), (.string p0.2.2.2.2.1), (.string p0.2.2.2.2.2.1), (.int .i64 p0.2.2.2.2.2.2.1), (.int .u8 p0.2.2.2.2.2.2.2.1)]), (.int .i64 p1)] w (Ret R) :=
 lw_calls (fs := Tryz.fs) (an := a_grammar_form_letter) (args := [(.agg #[(.int .u16 p0.1), (.string p0.2.1), (.bool p0.2.2.1), (.bool p0.2.2.2.1), (.string p0.2.2.2.2.1), (.string p0.2.2.2.2.2.1), (.int .i64 p0.2.2.2.2.2.2.1), (.int .u8 p0.2.2.2.2.2.2.2.1)]), (.int .i64 p1)]) Tryz.fsOK Tryz.mixed Tryz.func281 (by kernel_rfl) (by kernel_rfl)
 (Eq.mpr (by kernel_rfl : lwFn Tryz.prog Tryz.fs Tryz.f281 a_grammar_form_letter [(.agg #[(.int .u16 p0.1), (.string p0.2.1), (.bool p0.2.2.1), (.bool p0.2.2.2.1), (.string p0.2.2.2.2.1), (.string p0.2.2.2.2.2.1), (.int .i64 p0.2.2.2.2.2.2.1), (.int .u8 p0.2.2.2.2.2.2.2.1)]), (.int .i64 p1)] w R = L_grammar_form_letter p0 p1 R w) h)

/-- intaglio.grammar.names -/
def a_grammar_names : Ann := (.seq none .nil (.seq none (.seq none .nil (.one (.seq none .nil (.cond (.seq none .nil .nil) (.seq none .nil (.cond (.seq none .nil .nil) (.seq none .nil (.cond (.seq none .nil .nil) (.seq none .nil (.cond (.seq none .nil .nil) (.seq none .nil (.cond (.seq none .nil .nil) (.seq none .nil (.cond (.seq none .nil .nil) (.seq none .nil (.cond (.seq none .nil .nil) (.seq none .nil (.cond (.seq none .nil .nil) (.seq none .nil (.cond (.seq none .nil .nil) (.seq none .nil (.cond (.seq none .nil .nil) (.seq none .nil (.cond (.seq none .nil .nil) .nil)))))))))))))))))))))))) (.seq none .nil .nil)))
def L_grammar_names (p0 : Int) (R : Value → World → Prop) (w : World) : Prop :=
 ifB (p0 == (107 : Int))
 (R (.string (ByteArray.mk #[48, 32, 77, 97, 116, 114, 105, 120, 32, 49, 32, 83, 104, 97, 100, 101, 114, 32])) w)
 (ifB (p0 == (97 : Int))
 (R (.string (ByteArray.mk #[48, 32, 76, 111, 103, 105, 99, 97, 108, 32])) w)
 (ifB (p0 == (109 : Int))
 (R (.string (ByteArray.mk #[48, 32, 83, 105, 109, 112, 108, 101, 32, 49, 32, 71, 76, 83, 76, 52, 53, 48, 32])) w)
 (ifB (p0 == (101 : Int))
 (R (.string (ByteArray.mk #[48, 32, 86, 101, 114, 116, 101, 120, 32, 52, 32, 70, 114, 97, 103, 109, 101, 110, 116, 32])) w)
 (ifB (p0 == (120 : Int))
 (R (.string (ByteArray.mk #[55, 32, 79, 114, 105, 103, 105, 110, 85, 112, 112, 101, 114, 76, 101, 102, 116, 32])) w)
 (ifB (p0 == (108 : Int))
 (R (.string (ByteArray.mk #[48, 32, 85, 110, 107, 110, 111, 119, 110, 32, 49, 32, 69, 83, 83, 76, 32, 50, 32, 71, 76, 83, 76, 32])) w)
 (ifB (p0 == (99 : Int))
 (R (.string (ByteArray.mk #[49, 32, 73, 110, 112, 117, 116, 32, 51, 32, 79, 117, 116, 112, 117, 116, 32, 54, 32, 80, 114, 105, 118, 97, 116, 101, 32, 55, 32, 70, 117, 110, 99, 116, 105, 111, 110, 32])) w)
 (ifB (p0 == (100 : Int))
 (R (.string (ByteArray.mk #[48, 32, 82, 101, 108, 97, 120, 101, 100, 80, 114, 101, 99, 105, 115, 105, 111, 110, 32, 49, 49, 32, 66, 117, 105, 108, 116, 73, 110, 32, 49, 52, 32, 70, 108, 97, 116, 32, 51, 48, 32, 76, 111, 99, 97, 116, 105, 111, 110, 32])) w)
 (ifB (p0 == (102 : Int))
 (R (.string (ByteArray.mk #[48, 32, 78, 111, 110, 101, 32, 49, 32, 73, 110, 108, 105, 110, 101, 32, 50, 32, 68, 111, 110, 116, 73, 110, 108, 105, 110, 101, 32, 52, 32, 80, 117, 114, 101, 32, 56, 32, 67, 111, 110, 115, 116, 32])) w)
 (ifB (p0 == (104 : Int))
 (R (.string (ByteArray.mk #[48, 32, 78, 111, 110, 101, 32, 49, 32, 70, 108, 97, 116, 116, 101, 110, 32, 50, 32, 68, 111, 110, 116, 70, 108, 97, 116, 116, 101, 110, 32])) w)
 (ifB (p0 == (103 : Int))
 (R (.string (ByteArray.mk #[48, 32, 78, 111, 110, 101, 32, 49, 32, 85, 110, 114, 111, 108, 108, 32, 50, 32, 68, 111, 110, 116, 85, 110, 114, 111, 108, 108, 32])) w)
 (R (.string (ByteArray.mk #[])) w)))))))))))
theorem grammar_names_calls (p0 : Int) (R : Value → World → Prop) (w : World) (h : L_grammar_names p0 R w) : Calls Tryz.prog 282 #[(.int .u8 p0)] w (Ret R) :=
 lw_calls (fs := Tryz.fs) (an := a_grammar_names) (args := [(.int .u8 p0)]) Tryz.fsOK Tryz.mixed Tryz.func282 (by kernel_rfl) (by kernel_rfl)
 (Eq.mpr (by kernel_rfl : lwFn Tryz.prog Tryz.fs Tryz.f282 a_grammar_names [(.int .u8 p0)] w R = L_grammar_names p0 R w) h)

/-- intaglio.grammar.Enum -/
def a_grammar_Enum : Ann := (.seq none .nil (.seq none (.seq none .nil (.one (.loop ⟨[], [(10, (.b (.int .u32))), (11, (.b .str))]⟩ (.seq none (.seq none .nil .nil) (.one (.seq none .nil (.cond (.seq none .nil .nil) .nil))))))) (.seq none .nil .nil)))
def L_grammar_Enum (p0 : Int) (p1 : Int) (R : Value → World → Prop) (w : World) : Prop :=
 Nw (w.alloc (.cells #[(.int .u32 p1)] 22)) fun w1 =>
 Nw (w1.alloc (.cells #[(.string (ByteArray.mk #[]))] 9)) fun w2 =>
 Nw (w2.alloc (.cells #[(.bool false)] 4)) fun w3 =>
 callR Tryz.prog 303 #[(.int .u8 p0)] w3 fun v1 w4 =>
 ∃ x2 : Value, v1 = x2 ∧
 RangeW Tryz.prog Tryz.fs x2 w4 (T := Int × ByteArray × Unit) (fun s3 => [(.int .u32 s3.1), (.string s3.2.1)])
 (fun mk4 l5 s3 w5 S6 =>
 w5.heap[l5]? = some (mk4 .ready none) ∧
 Nw (w5.putObj l5 (mk4 .busy none)) fun w6 =>
 ldI w6 (blk w.heap.size) .u32 fun x8 =>
 ifB (s3.1 == x8)
 (Wr w6 (blk w1.heap.size) ∧
 Nw (w6.setCell (blk w1.heap.size) (.string s3.2.1)) fun w7 =>
 Wr w7 (blk w2.heap.size) ∧
 Nw (w7.setCell (blk w2.heap.size) (.bool true)) fun w8 =>
 w8.heap[l5]? = some (mk4 .busy none) ∧
 S6 (.bool false) (w8.putObj l5 (mk4 .done (some .ret))))
 (w6.heap[l5]? = some (mk4 .busy none) ∧
 S6 (.bool true) (w6.putObj l5 (mk4 .ready none))))
 (fun mk4 l5 d7 w9 =>
 (rangeOut mk4 l5 .ready none w9 fun w10 =>
 Wr w10 (blk w1.heap.size) ∧
 Nw (w10.setCell (blk w1.heap.size) (.string (ByteArray.mk #[]))) fun w11 =>
 Wr w11 (blk w2.heap.size) ∧
 Nw (w11.setCell (blk w2.heap.size) (.bool false)) fun w12 =>
 closeM (d7 :: []) w12 fun w13 =>
 ldStr w13 (blk w1.heap.size) fun x9 =>
 ldB w13 (blk w2.heap.size) fun x10 =>
 R (.tuple #[(.string x9), (.bool x10)]) w13) ∨
 (rangeOut mk4 l5 .done (some .ret) w9 fun w14 =>
 closeM (d7 :: []) w14 fun w15 =>
 ldStr w15 (blk w1.heap.size) fun x11 =>
 ldB w15 (blk w2.heap.size) fun x12 =>
 R (.tuple #[(.string x11), (.bool x12)]) w15))
theorem grammar_Enum_calls (p0 : Int) (p1 : Int) (R : Value → World → Prop) (w : World) (h : L_grammar_Enum p0 p1 R w) : Calls Tryz.prog 286 #[(.int .u8 p0), (.int .u32 p1)] w (Ret R) :=
 lwR_calls (fs := Tryz.fs) (an := a_grammar_Enum) (args := [(.int .u8 p0), (.int .u32 p1)]) Tryz.fsOK Tryz.mixed Tryz.func286 (by kernel_rfl) (by kernel_rfl)
 (Eq.mpr (by kernel_rfl : lwRFn Tryz.prog Tryz.fs Tryz.f286 a_grammar_Enum [(.int .u8 p0), (.int .u32 p1)] w R = L_grammar_Enum p0 p1 R w) h)

/-- (intaglio.grammar.form).fixed -/
def a_grammar_form_fixed : Ann := (.seq none .nil (.seq (some ⟨[1, 2], []⟩) (.seq none .nil (.cond (.seq none .nil .nil) .nil)) (.seq none .nil .nil)))
def L_grammar_form_fixed (p0 : (Int × ByteArray × Bool × Bool × ByteArray × ByteArray × Int × Int × Unit)) (p1 : Int) (R : Value → World → Prop) (w : World) : Prop :=
 Nw (w.alloc (.cells #[(.int .u16 p0.1), (.string p0.2.1), (.bool p0.2.2.1), (.bool p0.2.2.2.1), (.string p0.2.2.2.2.1), (.string p0.2.2.2.2.2.1), (.int .i64 p0.2.2.2.2.2.2.1), (.int .u8 p0.2.2.2.2.2.2.2.1)] 356)) fun w1 =>
 JoinW (S := Unit) (fun m1 =>
 ifB (decide (p1 < (0 : Int)))
 (R (.int .u8 (0 : Int)) w1)
 (ldStr w1 ((blk w.heap.size).add 4) fun x3 =>
 ifB (decide (p1 ≥ (x3.size : Int)))
 (R (.int .u8 (0 : Int)) w1)
 (m1 (()) w1)))
 (fun s2 w2 =>
 ldStr w2 ((blk w.heap.size).add 4) fun x4 =>
 (0 ≤ p1 ∧ p1 < (x4.size : Int)) ∧
 R (.int .u8 (byteI x4 p1)) w2)
theorem grammar_form_fixed_calls (p0 : (Int × ByteArray × Bool × Bool × ByteArray × ByteArray × Int × Int × Unit)) (p1 : Int) (R : Value → World → Prop) (w : World) (h : L_grammar_form_fixed p0 p1 R w) : Calls Tryz.prog 300 #[(.agg #[(.int .u16 p0.1), (.string p0.2.1), (.bool p0.2.2.1), (.bool p0.2.2.2.1), (.string p0.2.2.2.2.1), (.string p0.2.2.2.2.2.1), (.int .i64 p0.2.2.2.2.2.2.1), (.int .u8 p0.2.2.2.2.2.2.2.1)]), (.int .i64 p1)] w (Ret R) :=
 lw_calls (fs := Tryz.fs) (an := a_grammar_form_fixed) (args := [(.agg #[(.int .u16 p0.1), (.string p0.2.1), (.bool p0.2.2.1), (.bool p0.2.2.2.1), (.string p0.2.2.2.2.1), (.string p0.2.2.2.2.2.1), (.int .i64 p0.2.2.2.2.2.2.1), (.int .u8 p0.2.2.2.2.2.2.2.1)]), (.int .i64 p1)]) Tryz.fsOK Tryz.mixed Tryz.func300 (by kernel_rfl) (by kernel_rfl)
 (Eq.mpr (by kernel_rfl : lwFn Tryz.prog Tryz.fs Tryz.f300 a_grammar_form_fixed [(.agg #[(.int .u16 p0.1), (.string p0.2.1), (.bool p0.2.2.1), (.bool p0.2.2.2.1), (.string p0.2.2.2.2.1), (.string p0.2.2.2.2.2.1), (.int .i64 p0.2.2.2.2.2.2.1), (.int .u8 p0.2.2.2.2.2.2.2.1)]), (.int .i64 p1)] w R = L_grammar_form_fixed p0 p1 R w) h)

/-- (intaglio.grammar.form).rest -/
def a_grammar_form_rest : Ann := (.seq none .nil (.seq none .nil (.seq (some ⟨[1, 2], []⟩) (.seq none .nil (.cond (.seq none .nil .nil) .nil)) (.seq none .nil .nil))))
def L_grammar_form_rest (p0 : (Int × ByteArray × Bool × Bool × ByteArray × ByteArray × Int × Int × Unit)) (p1 : Int) (R : Value → World → Prop) (w : World) : Prop :=
 Nw (w.alloc (.cells #[(.int .u16 p0.1), (.string p0.2.1), (.bool p0.2.2.1), (.bool p0.2.2.2.1), (.string p0.2.2.2.2.1), (.string p0.2.2.2.2.2.1), (.int .i64 p0.2.2.2.2.2.2.1), (.int .u8 p0.2.2.2.2.2.2.2.1)] 356)) fun w1 =>
 ldStr w1 ((blk w.heap.size).add 4) fun x1 =>
 JoinW (S := Unit) (fun m2 =>
 ifB (decide ((IntKind.i64.wrap (p1 - (x1.size : Int))) < (0 : Int)))
 (R (.int .u8 (0 : Int)) w1)
 (ldStr w1 ((blk w.heap.size).add 5) fun x4 =>
 ifB (x4.toList == (ByteArray.mk #[]).toList)
 (R (.int .u8 (0 : Int)) w1)
 (ldI w1 ((blk w.heap.size).add 6) .i64 fun x5 =>
 ifB (decide (x5 > (0 : Int)))
 (ldI w1 ((blk w.heap.size).add 6) .i64 fun x6 =>
 ldStr w1 ((blk w.heap.size).add 5) fun x7 =>
 ifB (decide ((IntKind.i64.wrap (p1 - (x1.size : Int))) ≥ (IntKind.i64.wrap (x6 * (x7.size : Int)))))
 (R (.int .u8 (0 : Int)) w1)
 (m2 (()) w1))
 (m2 (()) w1))))
 (fun s3 w2 =>
 ldStr w2.drew ((blk w.heap.size).add 5) fun x8 =>
 ldStr w2.drew ((blk w.heap.size).add 5) fun x9 =>
 ifB (decide ((x9.size : Int) = 0))
 (False)
 ((0 ≤ (Int.tmod (IntKind.i64.wrap (p1 - (x1.size : Int))) (x9.size : Int)) ∧ (Int.tmod (IntKind.i64.wrap (p1 - (x1.size : Int))) (x9.size : Int)) < (x8.size : Int)) ∧
 R (.int .u8 (byteI x8 (Int.tmod (IntKind.i64.wrap (p1 - (x1.size : Int))) (x9.size : Int)))) w2.drew))
theorem grammar_form_rest_calls (p0 : (Int × ByteArray × Bool × Bool × ByteArray × ByteArray × Int × Int × Unit)) (p1 : Int) (R : Value → World → Prop) (w : World) (h : L_grammar_form_rest p0 p1 R w) : Calls Tryz.prog 301 #[(.agg #[(.int .u16 p0.1), (.string p0.2.1), (.bool p0.2.2.1), (.bool p0.2.2.2.1), (.string p0.2.2.2.2.1), (.string p0.2.2.2.2.2.1), (.int .i64 p0.2.2.2.2.2.2.1), (.int .u8 p0.2.2.2.2.2.2.2.1)]), (.int .i64 p1)] w (Ret R) :=
 lw_calls (fs := Tryz.fs) (an := a_grammar_form_rest) (args := [(.agg #[(.int .u16 p0.1), (.string p0.2.1), (.bool p0.2.2.1), (.bool p0.2.2.2.1), (.string p0.2.2.2.2.1), (.string p0.2.2.2.2.2.1), (.int .i64 p0.2.2.2.2.2.2.1), (.int .u8 p0.2.2.2.2.2.2.2.1)]), (.int .i64 p1)]) Tryz.fsOK Tryz.mixed Tryz.func301 (by kernel_rfl) (by kernel_rfl)
 (Eq.mpr (by kernel_rfl : lwFn Tryz.prog Tryz.fs Tryz.f301 a_grammar_form_rest [(.agg #[(.int .u16 p0.1), (.string p0.2.1), (.bool p0.2.2.1), (.bool p0.2.2.2.1), (.string p0.2.2.2.2.1), (.string p0.2.2.2.2.2.1), (.int .i64 p0.2.2.2.2.2.2.1), (.int .u8 p0.2.2.2.2.2.2.2.1)]), (.int .i64 p1)] w R = L_grammar_form_rest p0 p1 R w) h)

/-- intaglio.grammar.Enums -/
def a_grammar_Enums : Ann := (.seq none .nil (.seq none .nil .nil))
def L_grammar_Enums (p0 : Int) (R : Value → World → Prop) (w : World) : Prop :=
 Nw (w.alloc (.cells #[(.int .u8 p0)] 5)) fun w1 =>
 R (.func (.func 310) #[] #[(.pointer (some (blk w.heap.size)))]) w1
theorem grammar_Enums_calls (p0 : Int) (R : Value → World → Prop) (w : World) (h : L_grammar_Enums p0 R w) : Calls Tryz.prog 303 #[(.int .u8 p0)] w (Ret R) :=
 lw_calls (fs := Tryz.fs) (an := a_grammar_Enums) (args := [(.int .u8 p0)]) Tryz.fsOK Tryz.mixed Tryz.func303 (by kernel_rfl) (by kernel_rfl)
 (Eq.mpr (by kernel_rfl : lwFn Tryz.prog Tryz.fs Tryz.f303 a_grammar_Enums [(.int .u8 p0)] w R = L_grammar_Enums p0 R w) h)

/-- intaglio.grammar.Enums 1 -/
def a_grammar_Enums_1 : Ann := (.seq none .nil (.seq none .nil (.seq none .nil (.seq none .nil (.one (.loop ⟨[0, 11], [(3, (.b (.int .u32))), (5, (.b .str)), (6, (.b .bool))]⟩ (.seq none .nil (.seq none (.cond .nil .nil) (.one (.seq none .nil (.seq (some ⟨[0, 6, 11], [(3, (.b (.int .u32)))]⟩) (.one (.seq none .nil (.cond (.seq none .nil .nil) (.seq none .nil (.cond .nil (.seq none .nil (.seq none .nil (.cond .nil .nil)))))))) (.seq none .nil .nil))))))))))))
def L_grammar_Enums_1 (p0 : Value) (c0 : Addr) (R : Value → World → Prop) (w : World) : Prop :=
 ldI w c0 .u8 fun x1 =>
 callR Tryz.prog 282 #[(.int .u8 x1)] w fun v2 w1 =>
 ∃ x3 : ByteArray, v2 = (.string x3) ∧
 Nw (w1.alloc (.stringIter x3 0)) fun w2 =>
 LoopW (S := Int × ByteArray × Bool × Unit) (fun s4 w3 n5 =>
 nextW w1.heap.size w3 (fun i6 c7 w4 =>
 JoinW (S := Int × Unit) (fun m8 =>
 ifB (c7 != (32 : Int))
 (sumFits s4.2.1 (Utf8.encode c7) ∧
 n5 (s4.1, (s4.2.1 ++ (Utf8.encode c7)), s4.2.2.1, ()) w4)
 (ifB (!s4.2.2.1)
 (callR Tryz.prog 311 #[(.string s4.2.1)] w4 fun v10 w5 =>
 ∃ x11 : Int, v10 = (.int .u32 x11) ∧
 m8 (x11, ()) w5)
 (callV Tryz.prog Tryz.fs p0 [(.int .u32 s4.1), (.string s4.2.1)] w4 fun v12 w6 =>
 ∃ x13 : Bool, v12 = (.bool x13) ∧
 ifB (!x13)
 (R (.tuple #[]) w6)
 (m8 (s4.1, ()) w6))))
 (fun s9 w7 =>
 n5 (s9.1, (ByteArray.mk #[]), (!s4.2.2.1), ()) w7))
 (R (.tuple #[]) w3))
 ((0 : Int), (ByteArray.mk #[]), false, ()) w2
theorem grammar_Enums_1_calls (p0 : Value) (c0 : Addr) (R : Value → World → Prop) (w : World) (h : L_grammar_Enums_1 p0 c0 R w) : Calls Tryz.prog 310 #[p0, (.pointer (some c0))] w (Ret R) :=
 lw_calls (fs := Tryz.fs) (an := a_grammar_Enums_1) (args := [p0, (.pointer (some c0))]) Tryz.fsOK Tryz.mixed Tryz.func310 (by kernel_rfl) (by kernel_rfl)
 (Eq.mpr (by kernel_rfl : lwFn Tryz.prog Tryz.fs Tryz.f310 a_grammar_Enums_1 [p0, (.pointer (some c0))] w R = L_grammar_Enums_1 p0 c0 R w) h)

/-- intaglio.grammar.number -/
def a_grammar_number : Ann := (.seq none .nil (.seq none .nil (.seq none (.seq none .nil (.one (.loop ⟨[7], [(3, (.b (.int .u32)))]⟩ (.seq none .nil (.seq none (.cond .nil .nil) (.one (.seq none .nil .nil))))))) (.seq none .nil .nil))))
def L_grammar_number (p0 : ByteArray) (R : Value → World → Prop) (w : World) : Prop :=
 Nw (w.alloc (.stringIter p0 0)) fun w1 =>
 LoopW (S := Int × Unit) (fun s1 w2 n2 =>
 nextW w.heap.size w2 (fun i3 c4 w3 =>
 n2 ((IntKind.u32.wrap ((IntKind.u32.wrap ((10 : Int) * s1.1)) + (IntKind.u32.wrap (IntKind.i32.wrap (c4 - (48 : Int)))))), ()) w3)
 (R (.int .u32 s1.1) w2))
 ((0 : Int), ()) w1
theorem grammar_number_calls (p0 : ByteArray) (R : Value → World → Prop) (w : World) (h : L_grammar_number p0 R w) : Calls Tryz.prog 311 #[(.string p0)] w (Ret R) :=
 lw_calls (fs := Tryz.fs) (an := a_grammar_number) (args := [(.string p0)]) Tryz.fsOK Tryz.mixed Tryz.func311 (by kernel_rfl) (by kernel_rfl)
 (Eq.mpr (by kernel_rfl : lwFn Tryz.prog Tryz.fs Tryz.f311 a_grammar_number [(.string p0)] w R = L_grammar_number p0 R w) h)

end Go.Proofs
namespace Go.Gm
open Go.Gk

abbrev Bs := List UInt8
def bs (l : Bs) : ByteArray := ⟨l.toArray⟩
theorem bs_append (a b : Bs) : bs a ++ bs b = bs (a ++ b) := by
  apply ByteArray.ext
  simp [bs, ByteArray.data_append]
theorem bs_size (a : Bs) : (bs a).size = a.length := by simp [bs, ByteArray.size]
theorem bs_byte (a : Bs) (k : Nat) : byteI (bs a) (k : Int) = ((a.getD k 0).toNat : Int) := by
  unfold byteI bs
  rw [Int.toNat_natCast]
  simp [Array.getD_eq_getD_getElem?]
theorem toList_nil {a : Bs} : ((bs a).toList == (ByteArray.mk #[]).toList) = a.isEmpty := by
  rw [ByteArray.toList_eq, ByteArray.toList_eq]
  cases a with
  | nil => rfl
  | cons x r => rfl
theorem getD_lt {α : Type} {l : List α} {i : Nat} {d : α} (h : i < l.length) : l.getD i d = l[i] := by simp [List.getD, h]

def look {α : Type} : List (Int × α) → Int → Option α
  | [], _ => none
  | p :: r, n => if n = p.1 then some p.2 else look r n
def chain {α : Type} : List (Int × α) → Int → (α → Prop) → Prop → Prop
  | [], _, _, d => d
  | p :: r, n, f, d => ifB (n == p.1) (f p.2) (chain r n f d)
theorem chain_of {α : Type} {n : Int} {f : α → Prop} {d : Prop} : ∀ {tab : List (Int × α)}, (∀ x, look tab n = some x → f x) → (look tab n = none → d) → chain tab n f d
  | [], _, h2 => h2 rfl
  | p :: r, h1, h2 => ifB_beq (fun e => h1 p.2 (by simp [look, e])) (fun e => chain_of (fun x hx => h1 x (by simp [look, e, hx])) (fun hx => h2 (by simp [look, e, hx])))
theorem look_append {α : Type} (n : Int) : ∀ a b : List (Int × α), look (a ++ b) n = (look a n).or (look b n)
  | [], b => by simp [look]
  | p :: r, b => by
    simp only [List.cons_append, look]
    split
    · rfl
    · exact look_append n r b
theorem look_mem {α : Type} {n : Int} {x : α} : ∀ {a : List (Int × α)}, look a n = some x → (n, x) ∈ a
  | p :: r, h => by
    simp only [look] at h
    split at h
    · rename_i e
      cases h
      subst e
      exact List.mem_cons_self
    · exact List.mem_cons_of_mem _ (look_mem h)
theorem look_none {α : Type} {n : Int} : ∀ {a : List (Int × α)}, (∀ p ∈ a, p.1 ≠ n) → look a n = none
  | [], _ => rfl
  | p :: r, h => by
    rw [look, if_neg fun e => h p List.mem_cons_self e.symm]
    exact look_none fun q hq => h q (List.mem_cons_of_mem _ hq)
theorem look_map {α β : Type} (g : α → β) (n : Int) : ∀ a : List (Int × α), look (a.map fun p => (p.1, g p.2)) n = (look a n).map g
  | [] => rfl
  | p :: r => by
    simp only [List.map_cons, look]
    split
    · rfl
    · exact look_map g n r
/-- A form without its number: name, has a type, has a result, the letters that must stand and that may follow, how often, the part. -/
abbrev Fl := Bs × Bool × Bool × Bs × Bs × Nat × Nat
def tabA : List (Int × Bs) :=
  [(1, [79, 112, 85, 110, 100, 101, 102, 32, 84, 82, 32, 32, 32, 32, 55]),
   (3, [79, 112, 83, 111, 117, 114, 99, 101, 32, 32, 108, 110, 32, 32, 32, 52]),
   (5, [79, 112, 78, 97, 109, 101, 32, 32, 105, 115, 32, 32, 32, 53]),
   (6, [79, 112, 77, 101, 109, 98, 101, 114, 78, 97, 109, 101, 32, 32, 105, 110, 115, 32, 32, 32, 53]),
   (7, [79, 112, 83, 116, 114, 105, 110, 103, 32, 82, 32, 115, 32, 32, 32, 52]),
   (14, [79, 112, 77, 101, 109, 111, 114, 121, 77, 111, 100, 101, 108, 32, 32, 97, 109, 32, 32, 32, 49]),
   (15, [79, 112, 69, 110, 116, 114, 121, 80, 111, 105, 110, 116, 32, 32, 101, 105, 115, 32, 105, 32, 32, 50]),
   (16, [79, 112, 69, 120, 101, 99, 117, 116, 105, 111, 110, 77, 111, 100, 101, 32, 32, 105, 120, 32, 32, 32, 51]),
   (17, [79, 112, 67, 97, 112, 97, 98, 105, 108, 105, 116, 121, 32, 32, 107, 32, 32, 32, 48]),
   (19, [79, 112, 84, 121, 112, 101, 86, 111, 105, 100, 32, 82, 32, 32, 32, 32, 55]),
   (20, [79, 112, 84, 121, 112, 101, 66, 111, 111, 108, 32, 82, 32, 32, 32, 32, 55]),
   (21, [79, 112, 84, 121, 112, 101, 73, 110, 116, 32, 82, 32, 110, 110, 32, 32, 32, 55]),
   (23, [79, 112, 84, 121, 112, 101, 86, 101, 99, 116, 111, 114, 32, 82, 32, 105, 110, 32, 32, 32, 55]),
   (28, [79, 112, 84, 121, 112, 101, 65, 114, 114, 97, 121, 32, 82, 32, 105, 105, 32, 32, 32, 55]),
   (30, [79, 112, 84, 121, 112, 101, 83, 116, 114, 117, 99, 116, 32, 82, 32, 32, 105, 32, 32, 55]),
   (32, [79, 112, 84, 121, 112, 101, 80, 111, 105, 110, 116, 101, 114, 32, 82, 32, 99, 105, 32, 32, 32, 55]),
   (33, [79, 112, 84, 121, 112, 101, 70, 117, 110, 99, 116, 105, 111, 110, 32, 82, 32, 105, 32, 105, 32, 32, 55]),
   (41, [79, 112, 67, 111, 110, 115, 116, 97, 110, 116, 84, 114, 117, 101, 32, 84, 82, 32, 32, 32, 32, 55]),
   (42, [79, 112, 67, 111, 110, 115, 116, 97, 110, 116, 70, 97, 108, 115, 101, 32, 84, 82, 32, 32, 32, 32, 55]),
   (43, [79, 112, 67, 111, 110, 115, 116, 97, 110, 116, 32, 84, 82, 32, 110, 32, 32, 32, 55]),
   (44, [79, 112, 67, 111, 110, 115, 116, 97, 110, 116, 67, 111, 109, 112, 111, 115, 105, 116, 101, 32, 84, 82, 32, 32, 105, 32, 32, 55]),
   (46, [79, 112, 67, 111, 110, 115, 116, 97, 110, 116, 78, 117, 108, 108, 32, 84, 82, 32, 32, 32, 32, 55]),
   (54, [79, 112, 70, 117, 110, 99, 116, 105, 111, 110, 32, 84, 82, 32, 102, 105, 32, 32, 32, 56]),
   (55, [79, 112, 70, 117, 110, 99, 116, 105, 111, 110, 80, 97, 114, 97, 109, 101, 116, 101, 114, 32, 84, 82, 32, 32, 32, 32, 56]),
   (56, [79, 112, 70, 117, 110, 99, 116, 105, 111, 110, 69, 110, 100, 32, 32, 32, 32, 32, 56]),
   (57, [79, 112, 70, 117, 110, 99, 116, 105, 111, 110, 67, 97, 108, 108, 32, 84, 82, 32, 105, 32, 105, 32, 32, 56]),
   (59, [79, 112, 86, 97, 114, 105, 97, 98, 108, 101, 32, 84, 82, 32, 99, 32, 105, 32, 49, 32, 55]),
   (61, [79, 112, 76, 111, 97, 100, 32, 84, 82, 32, 105, 32, 32, 32, 56]),
   (62, [79, 112, 83, 116, 111, 114, 101, 32, 32, 105, 105, 32, 32, 32, 56]),
   (65, [79, 112, 65, 99, 99, 101, 115, 115, 67, 104, 97, 105, 110, 32, 84, 82, 32, 105, 32, 105, 32, 32, 56]),
   (71, [79, 112, 68, 101, 99, 111, 114, 97, 116, 101, 32, 32, 105, 100, 32, 110, 32, 32, 54])]
def tabB : List (Int × Bs) :=
  [(77, [79, 112, 86, 101, 99, 116, 111, 114, 69, 120, 116, 114, 97, 99, 116, 68, 121, 110, 97, 109, 105, 99, 32, 84, 82, 32, 105, 105, 32, 32, 32, 56]),
   (78, [79, 112, 86, 101, 99, 116, 111, 114, 73, 110, 115, 101, 114, 116, 68, 121, 110, 97, 109, 105, 99, 32, 84, 82, 32, 105, 105, 105, 32, 32, 32, 56]),
   (79, [79, 112, 86, 101, 99, 116, 111, 114, 83, 104, 117, 102, 102, 108, 101, 32, 84, 82, 32, 105, 105, 32, 110, 32, 32, 56]),
   (80, [79, 112, 67, 111, 109, 112, 111, 115, 105, 116, 101, 67, 111, 110, 115, 116, 114, 117, 99, 116, 32, 84, 82, 32, 32, 105, 32, 32, 56]),
   (81, [79, 112, 67, 111, 109, 112, 111, 115, 105, 116, 101, 69, 120, 116, 114, 97, 99, 116, 32, 84, 82, 32, 105, 32, 110, 32, 32, 56]),
   (82, [79, 112, 67, 111, 109, 112, 111, 115, 105, 116, 101, 73, 110, 115, 101, 114, 116, 32, 84, 82, 32, 105, 105, 32, 110, 32, 32, 56]),
   (83, [79, 112, 67, 111, 112, 121, 79, 98, 106, 101, 99, 116, 32, 84, 82, 32, 105, 32, 32, 32, 56]),
   (124, [79, 112, 66, 105, 116, 99, 97, 115, 116, 32, 84, 82, 32, 105, 32, 32, 32, 56]),
   (126, [79, 112, 83, 78, 101, 103, 97, 116, 101, 32, 84, 82, 32, 105, 32, 32, 32, 56]),
   (128, [79, 112, 73, 65, 100, 100, 32, 84, 82, 32, 105, 105, 32, 32, 32, 56]),
   (130, [79, 112, 73, 83, 117, 98, 32, 84, 82, 32, 105, 105, 32, 32, 32, 56]),
   (132, [79, 112, 73, 77, 117, 108, 32, 84, 82, 32, 105, 105, 32, 32, 32, 56]),
   (134, [79, 112, 85, 68, 105, 118, 32, 84, 82, 32, 105, 105, 32, 32, 32, 56]),
   (135, [79, 112, 83, 68, 105, 118, 32, 84, 82, 32, 105, 105, 32, 32, 32, 56]),
   (137, [79, 112, 85, 77, 111, 100, 32, 84, 82, 32, 105, 105, 32, 32, 32, 56]),
   (138, [79, 112, 83, 82, 101, 109, 32, 84, 82, 32, 105, 105, 32, 32, 32, 56]),
   (139, [79, 112, 83, 77, 111, 100, 32, 84, 82, 32, 105, 105, 32, 32, 32, 56]),
   (149, [79, 112, 73, 65, 100, 100, 67, 97, 114, 114, 121, 32, 84, 82, 32, 105, 105, 32, 32, 32, 56]),
   (150, [79, 112, 73, 83, 117, 98, 66, 111, 114, 114, 111, 119, 32, 84, 82, 32, 105, 105, 32, 32, 32, 56]),
   (151, [79, 112, 85, 77, 117, 108, 69, 120, 116, 101, 110, 100, 101, 100, 32, 84, 82, 32, 105, 105, 32, 32, 32, 56]),
   (152, [79, 112, 83, 77, 117, 108, 69, 120, 116, 101, 110, 100, 101, 100, 32, 84, 82, 32, 105, 105, 32, 32, 32, 56]),
   (154, [79, 112, 65, 110, 121, 32, 84, 82, 32, 105, 32, 32, 32, 56]),
   (155, [79, 112, 65, 108, 108, 32, 84, 82, 32, 105, 32, 32, 32, 56]),
   (164, [79, 112, 76, 111, 103, 105, 99, 97, 108, 69, 113, 117, 97, 108, 32, 84, 82, 32, 105, 105, 32, 32, 32, 56]),
   (165, [79, 112, 76, 111, 103, 105, 99, 97, 108, 78, 111, 116, 69, 113, 117, 97, 108, 32, 84, 82, 32, 105, 105, 32, 32, 32, 56]),
   (166, [79, 112, 76, 111, 103, 105, 99, 97, 108, 79, 114, 32, 84, 82, 32, 105, 105, 32, 32, 32, 56]),
   (167, [79, 112, 76, 111, 103, 105, 99, 97, 108, 65, 110, 100, 32, 84, 82, 32, 105, 105, 32, 32, 32, 56]),
   (168, [79, 112, 76, 111, 103, 105, 99, 97, 108, 78, 111, 116, 32, 84, 82, 32, 105, 32, 32, 32, 56]),
   (169, [79, 112, 83, 101, 108, 101, 99, 116, 32, 84, 82, 32, 105, 105, 105, 32, 32, 32, 56]),
   (170, [79, 112, 73, 69, 113, 117, 97, 108, 32, 84, 82, 32, 105, 105, 32, 32, 32, 56]),
   (171, [79, 112, 73, 78, 111, 116, 69, 113, 117, 97, 108, 32, 84, 82, 32, 105, 105, 32, 32, 32, 56])]
def tabC : List (Int × Bs) :=
  [(172, [79, 112, 85, 71, 114, 101, 97, 116, 101, 114, 84, 104, 97, 110, 32, 84, 82, 32, 105, 105, 32, 32, 32, 56]),
   (173, [79, 112, 83, 71, 114, 101, 97, 116, 101, 114, 84, 104, 97, 110, 32, 84, 82, 32, 105, 105, 32, 32, 32, 56]),
   (174, [79, 112, 85, 71, 114, 101, 97, 116, 101, 114, 84, 104, 97, 110, 69, 113, 117, 97, 108, 32, 84, 82, 32, 105, 105, 32, 32, 32, 56]),
   (175, [79, 112, 83, 71, 114, 101, 97, 116, 101, 114, 84, 104, 97, 110, 69, 113, 117, 97, 108, 32, 84, 82, 32, 105, 105, 32, 32, 32, 56]),
   (176, [79, 112, 85, 76, 101, 115, 115, 84, 104, 97, 110, 32, 84, 82, 32, 105, 105, 32, 32, 32, 56]),
   (177, [79, 112, 83, 76, 101, 115, 115, 84, 104, 97, 110, 32, 84, 82, 32, 105, 105, 32, 32, 32, 56]),
   (178, [79, 112, 85, 76, 101, 115, 115, 84, 104, 97, 110, 69, 113, 117, 97, 108, 32, 84, 82, 32, 105, 105, 32, 32, 32, 56]),
   (179, [79, 112, 83, 76, 101, 115, 115, 84, 104, 97, 110, 69, 113, 117, 97, 108, 32, 84, 82, 32, 105, 105, 32, 32, 32, 56]),
   (194, [79, 112, 83, 104, 105, 102, 116, 82, 105, 103, 104, 116, 76, 111, 103, 105, 99, 97, 108, 32, 84, 82, 32, 105, 105, 32, 32, 32, 56]),
   (195, [79, 112, 83, 104, 105, 102, 116, 82, 105, 103, 104, 116, 65, 114, 105, 116, 104, 109, 101, 116, 105, 99, 32, 84, 82, 32, 105, 105, 32, 32, 32, 56]),
   (196, [79, 112, 83, 104, 105, 102, 116, 76, 101, 102, 116, 76, 111, 103, 105, 99, 97, 108, 32, 84, 82, 32, 105, 105, 32, 32, 32, 56]),
   (197, [79, 112, 66, 105, 116, 119, 105, 115, 101, 79, 114, 32, 84, 82, 32, 105, 105, 32, 32, 32, 56]),
   (198, [79, 112, 66, 105, 116, 119, 105, 115, 101, 88, 111, 114, 32, 84, 82, 32, 105, 105, 32, 32, 32, 56]),
   (199, [79, 112, 66, 105, 116, 119, 105, 115, 101, 65, 110, 100, 32, 84, 82, 32, 105, 105, 32, 32, 32, 56]),
   (200, [79, 112, 78, 111, 116, 32, 84, 82, 32, 105, 32, 32, 32, 56]),
   (201, [79, 112, 66, 105, 116, 70, 105, 101, 108, 100, 73, 110, 115, 101, 114, 116, 32, 84, 82, 32, 105, 105, 105, 105, 32, 32, 32, 56]),
   (202, [79, 112, 66, 105, 116, 70, 105, 101, 108, 100, 83, 69, 120, 116, 114, 97, 99, 116, 32, 84, 82, 32, 105, 105, 105, 32, 32, 32, 56]),
   (203, [79, 112, 66, 105, 116, 70, 105, 101, 108, 100, 85, 69, 120, 116, 114, 97, 99, 116, 32, 84, 82, 32, 105, 105, 105, 32, 32, 32, 56]),
   (204, [79, 112, 66, 105, 116, 82, 101, 118, 101, 114, 115, 101, 32, 84, 82, 32, 105, 32, 32, 32, 56]),
   (205, [79, 112, 66, 105, 116, 67, 111, 117, 110, 116, 32, 84, 82, 32, 105, 32, 32, 32, 56]),
   (245, [79, 112, 80, 104, 105, 32, 84, 82, 32, 32, 105, 105, 32, 32, 56]),
   (246, [79, 112, 76, 111, 111, 112, 77, 101, 114, 103, 101, 32, 32, 105, 105, 103, 32, 32, 32, 56]),
   (247, [79, 112, 83, 101, 108, 101, 99, 116, 105, 111, 110, 77, 101, 114, 103, 101, 32, 32, 105, 104, 32, 32, 32, 56]),
   (248, [79, 112, 76, 97, 98, 101, 108, 32, 82, 32, 32, 32, 32, 56]),
   (249, [79, 112, 66, 114, 97, 110, 99, 104, 32, 32, 105, 32, 32, 32, 56]),
   (250, [79, 112, 66, 114, 97, 110, 99, 104, 67, 111, 110, 100, 105, 116, 105, 111, 110, 97, 108, 32, 32, 105, 105, 105, 32, 32, 32, 56]),
   (251, [79, 112, 83, 119, 105, 116, 99, 104, 32, 32, 105, 105, 32, 110, 105, 32, 32, 56]),
   (252, [79, 112, 75, 105, 108, 108, 32, 32, 32, 32, 32, 56]),
   (253, [79, 112, 82, 101, 116, 117, 114, 110, 32, 32, 32, 32, 32, 56]),
   (254, [79, 112, 82, 101, 116, 117, 114, 110, 86, 97, 108, 117, 101, 32, 32, 105, 32, 32, 32, 56]),
   (255, [79, 112, 85, 110, 114, 101, 97, 99, 104, 97, 98, 108, 101, 32, 32, 32, 32, 32, 56])]
def tabN : List (Int × Bs) :=
  [(107, [48, 32, 77, 97, 116, 114, 105, 120, 32, 49, 32, 83, 104, 97, 100, 101, 114, 32]),
   (97, [48, 32, 76, 111, 103, 105, 99, 97, 108, 32]),
   (109, [48, 32, 83, 105, 109, 112, 108, 101, 32, 49, 32, 71, 76, 83, 76, 52, 53, 48, 32]),
   (101, [48, 32, 86, 101, 114, 116, 101, 120, 32, 52, 32, 70, 114, 97, 103, 109, 101, 110, 116, 32]),
   (120, [55, 32, 79, 114, 105, 103, 105, 110, 85, 112, 112, 101, 114, 76, 101, 102, 116, 32]),
   (108, [48, 32, 85, 110, 107, 110, 111, 119, 110, 32, 49, 32, 69, 83, 83, 76, 32, 50, 32, 71, 76, 83, 76, 32]),
   (99, [49, 32, 73, 110, 112, 117, 116, 32, 51, 32, 79, 117, 116, 112, 117, 116, 32, 54, 32, 80, 114, 105, 118, 97, 116, 101, 32, 55, 32, 70, 117, 110, 99, 116, 105, 111, 110, 32]),
   (100, [48, 32, 82, 101, 108, 97, 120, 101, 100, 80, 114, 101, 99, 105, 115, 105, 111, 110, 32, 49, 49, 32, 66, 117, 105, 108, 116, 73, 110, 32, 49, 52, 32, 70, 108, 97, 116, 32, 51, 48, 32, 76, 111, 99, 97, 116, 105, 111, 110, 32]),
   (102, [48, 32, 78, 111, 110, 101, 32, 49, 32, 73, 110, 108, 105, 110, 101, 32, 50, 32, 68, 111, 110, 116, 73, 110, 108, 105, 110, 101, 32, 52, 32, 80, 117, 114, 101, 32, 56, 32, 67, 111, 110, 115, 116, 32]),
   (104, [48, 32, 78, 111, 110, 101, 32, 49, 32, 70, 108, 97, 116, 116, 101, 110, 32, 50, 32, 68, 111, 110, 116, 70, 108, 97, 116, 116, 101, 110, 32]),
   (103, [48, 32, 78, 111, 110, 101, 32, 49, 32, 85, 110, 114, 111, 108, 108, 32, 50, 32, 68, 111, 110, 116, 85, 110, 114, 111, 108, 108, 32])]
def tabR : List (Int × Fl) :=
  [(1, [79, 112, 85, 110, 100, 101, 102], true, true, [], [], 0, 7),
   (3, [79, 112, 83, 111, 117, 114, 99, 101], false, false, [108, 110], [], 0, 4),
   (5, [79, 112, 78, 97, 109, 101], false, false, [105, 115], [], 0, 5),
   (6, [79, 112, 77, 101, 109, 98, 101, 114, 78, 97, 109, 101], false, false, [105, 110, 115], [], 0, 5),
   (7, [79, 112, 83, 116, 114, 105, 110, 103], false, true, [115], [], 0, 4),
   (14, [79, 112, 77, 101, 109, 111, 114, 121, 77, 111, 100, 101, 108], false, false, [97, 109], [], 0, 1),
   (15, [79, 112, 69, 110, 116, 114, 121, 80, 111, 105, 110, 116], false, false, [101, 105, 115], [105], 0, 2),
   (16, [79, 112, 69, 120, 101, 99, 117, 116, 105, 111, 110, 77, 111, 100, 101], false, false, [105, 120], [], 0, 3),
   (17, [79, 112, 67, 97, 112, 97, 98, 105, 108, 105, 116, 121], false, false, [107], [], 0, 0),
   (19, [79, 112, 84, 121, 112, 101, 86, 111, 105, 100], false, true, [], [], 0, 7),
   (20, [79, 112, 84, 121, 112, 101, 66, 111, 111, 108], false, true, [], [], 0, 7),
   (21, [79, 112, 84, 121, 112, 101, 73, 110, 116], false, true, [110, 110], [], 0, 7),
   (23, [79, 112, 84, 121, 112, 101, 86, 101, 99, 116, 111, 114], false, true, [105, 110], [], 0, 7),
   (28, [79, 112, 84, 121, 112, 101, 65, 114, 114, 97, 121], false, true, [105, 105], [], 0, 7),
   (30, [79, 112, 84, 121, 112, 101, 83, 116, 114, 117, 99, 116], false, true, [], [105], 0, 7),
   (32, [79, 112, 84, 121, 112, 101, 80, 111, 105, 110, 116, 101, 114], false, true, [99, 105], [], 0, 7),
   (33, [79, 112, 84, 121, 112, 101, 70, 117, 110, 99, 116, 105, 111, 110], false, true, [105], [105], 0, 7),
   (41, [79, 112, 67, 111, 110, 115, 116, 97, 110, 116, 84, 114, 117, 101], true, true, [], [], 0, 7),
   (42, [79, 112, 67, 111, 110, 115, 116, 97, 110, 116, 70, 97, 108, 115, 101], true, true, [], [], 0, 7),
   (43, [79, 112, 67, 111, 110, 115, 116, 97, 110, 116], true, true, [110], [], 0, 7),
   (44, [79, 112, 67, 111, 110, 115, 116, 97, 110, 116, 67, 111, 109, 112, 111, 115, 105, 116, 101], true, true, [], [105], 0, 7),
   (46, [79, 112, 67, 111, 110, 115, 116, 97, 110, 116, 78, 117, 108, 108], true, true, [], [], 0, 7),
   (54, [79, 112, 70, 117, 110, 99, 116, 105, 111, 110], true, true, [102, 105], [], 0, 8),
   (55, [79, 112, 70, 117, 110, 99, 116, 105, 111, 110, 80, 97, 114, 97, 109, 101, 116, 101, 114], true, true, [], [], 0, 8),
   (56, [79, 112, 70, 117, 110, 99, 116, 105, 111, 110, 69, 110, 100], false, false, [], [], 0, 8),
   (57, [79, 112, 70, 117, 110, 99, 116, 105, 111, 110, 67, 97, 108, 108], true, true, [105], [105], 0, 8),
   (59, [79, 112, 86, 97, 114, 105, 97, 98, 108, 101], true, true, [99], [105], 1, 7),
   (61, [79, 112, 76, 111, 97, 100], true, true, [105], [], 0, 8),
   (62, [79, 112, 83, 116, 111, 114, 101], false, false, [105, 105], [], 0, 8),
   (65, [79, 112, 65, 99, 99, 101, 115, 115, 67, 104, 97, 105, 110], true, true, [105], [105], 0, 8),
   (71, [79, 112, 68, 101, 99, 111, 114, 97, 116, 101], false, false, [105, 100], [110], 0, 6),
   (77, [79, 112, 86, 101, 99, 116, 111, 114, 69, 120, 116, 114, 97, 99, 116, 68, 121, 110, 97, 109, 105, 99], true, true, [105, 105], [], 0, 8),
   (78, [79, 112, 86, 101, 99, 116, 111, 114, 73, 110, 115, 101, 114, 116, 68, 121, 110, 97, 109, 105, 99], true, true, [105, 105, 105], [], 0, 8),
   (79, [79, 112, 86, 101, 99, 116, 111, 114, 83, 104, 117, 102, 102, 108, 101], true, true, [105, 105], [110], 0, 8),
   (80, [79, 112, 67, 111, 109, 112, 111, 115, 105, 116, 101, 67, 111, 110, 115, 116, 114, 117, 99, 116], true, true, [], [105], 0, 8),
   (81, [79, 112, 67, 111, 109, 112, 111, 115, 105, 116, 101, 69, 120, 116, 114, 97, 99, 116], true, true, [105], [110], 0, 8),
   (82, [79, 112, 67, 111, 109, 112, 111, 115, 105, 116, 101, 73, 110, 115, 101, 114, 116], true, true, [105, 105], [110], 0, 8),
   (83, [79, 112, 67, 111, 112, 121, 79, 98, 106, 101, 99, 116], true, true, [105], [], 0, 8),
   (124, [79, 112, 66, 105, 116, 99, 97, 115, 116], true, true, [105], [], 0, 8),
   (126, [79, 112, 83, 78, 101, 103, 97, 116, 101], true, true, [105], [], 0, 8),
   (128, [79, 112, 73, 65, 100, 100], true, true, [105, 105], [], 0, 8),
   (130, [79, 112, 73, 83, 117, 98], true, true, [105, 105], [], 0, 8),
   (132, [79, 112, 73, 77, 117, 108], true, true, [105, 105], [], 0, 8),
   (134, [79, 112, 85, 68, 105, 118], true, true, [105, 105], [], 0, 8),
   (135, [79, 112, 83, 68, 105, 118], true, true, [105, 105], [], 0, 8),
   (137, [79, 112, 85, 77, 111, 100], true, true, [105, 105], [], 0, 8),
   (138, [79, 112, 83, 82, 101, 109], true, true, [105, 105], [], 0, 8),
   (139, [79, 112, 83, 77, 111, 100], true, true, [105, 105], [], 0, 8),
   (149, [79, 112, 73, 65, 100, 100, 67, 97, 114, 114, 121], true, true, [105, 105], [], 0, 8),
   (150, [79, 112, 73, 83, 117, 98, 66, 111, 114, 114, 111, 119], true, true, [105, 105], [], 0, 8),
   (151, [79, 112, 85, 77, 117, 108, 69, 120, 116, 101, 110, 100, 101, 100], true, true, [105, 105], [], 0, 8),
   (152, [79, 112, 83, 77, 117, 108, 69, 120, 116, 101, 110, 100, 101, 100], true, true, [105, 105], [], 0, 8),
   (154, [79, 112, 65, 110, 121], true, true, [105], [], 0, 8),
   (155, [79, 112, 65, 108, 108], true, true, [105], [], 0, 8),
   (164, [79, 112, 76, 111, 103, 105, 99, 97, 108, 69, 113, 117, 97, 108], true, true, [105, 105], [], 0, 8),
   (165, [79, 112, 76, 111, 103, 105, 99, 97, 108, 78, 111, 116, 69, 113, 117, 97, 108], true, true, [105, 105], [], 0, 8),
   (166, [79, 112, 76, 111, 103, 105, 99, 97, 108, 79, 114], true, true, [105, 105], [], 0, 8),
   (167, [79, 112, 76, 111, 103, 105, 99, 97, 108, 65, 110, 100], true, true, [105, 105], [], 0, 8),
   (168, [79, 112, 76, 111, 103, 105, 99, 97, 108, 78, 111, 116], true, true, [105], [], 0, 8),
   (169, [79, 112, 83, 101, 108, 101, 99, 116], true, true, [105, 105, 105], [], 0, 8),
   (170, [79, 112, 73, 69, 113, 117, 97, 108], true, true, [105, 105], [], 0, 8),
   (171, [79, 112, 73, 78, 111, 116, 69, 113, 117, 97, 108], true, true, [105, 105], [], 0, 8),
   (172, [79, 112, 85, 71, 114, 101, 97, 116, 101, 114, 84, 104, 97, 110], true, true, [105, 105], [], 0, 8),
   (173, [79, 112, 83, 71, 114, 101, 97, 116, 101, 114, 84, 104, 97, 110], true, true, [105, 105], [], 0, 8),
   (174, [79, 112, 85, 71, 114, 101, 97, 116, 101, 114, 84, 104, 97, 110, 69, 113, 117, 97, 108], true, true, [105, 105], [], 0, 8),
   (175, [79, 112, 83, 71, 114, 101, 97, 116, 101, 114, 84, 104, 97, 110, 69, 113, 117, 97, 108], true, true, [105, 105], [], 0, 8),
   (176, [79, 112, 85, 76, 101, 115, 115, 84, 104, 97, 110], true, true, [105, 105], [], 0, 8),
   (177, [79, 112, 83, 76, 101, 115, 115, 84, 104, 97, 110], true, true, [105, 105], [], 0, 8),
   (178, [79, 112, 85, 76, 101, 115, 115, 84, 104, 97, 110, 69, 113, 117, 97, 108], true, true, [105, 105], [], 0, 8),
   (179, [79, 112, 83, 76, 101, 115, 115, 84, 104, 97, 110, 69, 113, 117, 97, 108], true, true, [105, 105], [], 0, 8),
   (194, [79, 112, 83, 104, 105, 102, 116, 82, 105, 103, 104, 116, 76, 111, 103, 105, 99, 97, 108], true, true, [105, 105], [], 0, 8),
   (195, [79, 112, 83, 104, 105, 102, 116, 82, 105, 103, 104, 116, 65, 114, 105, 116, 104, 109, 101, 116, 105, 99], true, true, [105, 105], [], 0, 8),
   (196, [79, 112, 83, 104, 105, 102, 116, 76, 101, 102, 116, 76, 111, 103, 105, 99, 97, 108], true, true, [105, 105], [], 0, 8),
   (197, [79, 112, 66, 105, 116, 119, 105, 115, 101, 79, 114], true, true, [105, 105], [], 0, 8),
   (198, [79, 112, 66, 105, 116, 119, 105, 115, 101, 88, 111, 114], true, true, [105, 105], [], 0, 8),
   (199, [79, 112, 66, 105, 116, 119, 105, 115, 101, 65, 110, 100], true, true, [105, 105], [], 0, 8),
   (200, [79, 112, 78, 111, 116], true, true, [105], [], 0, 8),
   (201, [79, 112, 66, 105, 116, 70, 105, 101, 108, 100, 73, 110, 115, 101, 114, 116], true, true, [105, 105, 105, 105], [], 0, 8),
   (202, [79, 112, 66, 105, 116, 70, 105, 101, 108, 100, 83, 69, 120, 116, 114, 97, 99, 116], true, true, [105, 105, 105], [], 0, 8),
   (203, [79, 112, 66, 105, 116, 70, 105, 101, 108, 100, 85, 69, 120, 116, 114, 97, 99, 116], true, true, [105, 105, 105], [], 0, 8),
   (204, [79, 112, 66, 105, 116, 82, 101, 118, 101, 114, 115, 101], true, true, [105], [], 0, 8),
   (205, [79, 112, 66, 105, 116, 67, 111, 117, 110, 116], true, true, [105], [], 0, 8),
   (245, [79, 112, 80, 104, 105], true, true, [], [105, 105], 0, 8),
   (246, [79, 112, 76, 111, 111, 112, 77, 101, 114, 103, 101], false, false, [105, 105, 103], [], 0, 8),
   (247, [79, 112, 83, 101, 108, 101, 99, 116, 105, 111, 110, 77, 101, 114, 103, 101], false, false, [105, 104], [], 0, 8),
   (248, [79, 112, 76, 97, 98, 101, 108], false, true, [], [], 0, 8),
   (249, [79, 112, 66, 114, 97, 110, 99, 104], false, false, [105], [], 0, 8),
   (250, [79, 112, 66, 114, 97, 110, 99, 104, 67, 111, 110, 100, 105, 116, 105, 111, 110, 97, 108], false, false, [105, 105, 105], [], 0, 8),
   (251, [79, 112, 83, 119, 105, 116, 99, 104], false, false, [105, 105], [110, 105], 0, 8),
   (252, [79, 112, 75, 105, 108, 108], false, false, [], [], 0, 8),
   (253, [79, 112, 82, 101, 116, 117, 114, 110], false, false, [], [], 0, 8),
   (254, [79, 112, 82, 101, 116, 117, 114, 110, 86, 97, 108, 117, 101], false, false, [105], [], 0, 8),
   (255, [79, 112, 85, 110, 114, 101, 97, 99, 104, 97, 98, 108, 101], false, false, [], [], 0, 8)]
def tabM : List (Int × Int × Bs) :=
  [(107, 0, [77, 97, 116, 114, 105, 120]),
   (107, 1, [83, 104, 97, 100, 101, 114]),
   (97, 0, [76, 111, 103, 105, 99, 97, 108]),
   (109, 0, [83, 105, 109, 112, 108, 101]),
   (109, 1, [71, 76, 83, 76, 52, 53, 48]),
   (101, 0, [86, 101, 114, 116, 101, 120]),
   (101, 4, [70, 114, 97, 103, 109, 101, 110, 116]),
   (120, 7, [79, 114, 105, 103, 105, 110, 85, 112, 112, 101, 114, 76, 101, 102, 116]),
   (108, 0, [85, 110, 107, 110, 111, 119, 110]),
   (108, 1, [69, 83, 83, 76]),
   (108, 2, [71, 76, 83, 76]),
   (99, 1, [73, 110, 112, 117, 116]),
   (99, 3, [79, 117, 116, 112, 117, 116]),
   (99, 6, [80, 114, 105, 118, 97, 116, 101]),
   (99, 7, [70, 117, 110, 99, 116, 105, 111, 110]),
   (100, 0, [82, 101, 108, 97, 120, 101, 100, 80, 114, 101, 99, 105, 115, 105, 111, 110]),
   (100, 11, [66, 117, 105, 108, 116, 73, 110]),
   (100, 14, [70, 108, 97, 116]),
   (100, 30, [76, 111, 99, 97, 116, 105, 111, 110]),
   (102, 0, [78, 111, 110, 101]),
   (102, 1, [73, 110, 108, 105, 110, 101]),
   (102, 2, [68, 111, 110, 116, 73, 110, 108, 105, 110, 101]),
   (102, 4, [80, 117, 114, 101]),
   (102, 8, [67, 111, 110, 115, 116]),
   (104, 0, [78, 111, 110, 101]),
   (104, 1, [70, 108, 97, 116, 116, 101, 110]),
   (104, 2, [68, 111, 110, 116, 70, 108, 97, 116, 116, 101, 110]),
   (103, 0, [78, 111, 110, 101]),
   (103, 1, [85, 110, 114, 111, 108, 108]),
   (103, 2, [68, 111, 110, 116, 85, 110, 114, 111, 108, 108])]

def fldS (st : Nat × List Bs) (c : UInt8) : Nat × List Bs := if c = 32 then (st.1 + 1, st.2) else (st.1, st.2.modify st.1 (· ++ [c]))
def fldG (s : Bs) : Nat × List Bs := s.foldl fldS (0, [[], [], [], [], [], []])
def fld (s : Bs) (k : Nat) : Bs := (fldG s).2.getD k []
def parse (s : Bs) : Fl :=
  (fld s 0, (fld s 1).contains 84, (fld s 1).contains 82, fld s 2, fld s 3, (match fld s 4 with | [] => 0 | c :: _ => c.toNat - 48), (match fld s 5 with | [] => 0 | c :: _ => c.toNat - 48))
def okRow (s : Bs) : Bool :=
  s.all (· < 128) && (fld s 1).all (· < 128) && decide (s.count 32 ≤ 5) && decide (s.length ≤ 100) && !s.isEmpty && (match fld s 5 with | [] => false | c :: _ => decide (48 ≤ c.toNat)) &&
    (match fld s 4 with | [] => true | c :: _ => decide (48 ≤ c.toNat))
def tabAll : List (Int × Bs) := tabA ++ (tabB ++ tabC)
theorem rows_ok : tabAll.all (fun p => okRow p.2) = true := by decide +kernel
theorem tabs_same : (tabAll.map fun p => (p.1, parse p.2)) = tabR := by kernel_rfl
theorem keyA : tabA.all (fun p => decide (p.1 ≤ 71)) = true := by decide +kernel
theorem keyB : tabB.all (fun p => decide (71 < p.1) && decide (p.1 ≤ 171)) = true := by decide +kernel
theorem keyC : tabC.all (fun p => decide (171 < p.1)) = true := by decide +kernel
/-- An operation's row. -/
def rowP (op : Int) : Option Bs := look tabAll op
theorem rowP_A {op : Int} (h : op ≤ 71) : look tabA op = rowP op := by
  unfold rowP tabAll
  rw [look_append, look_append, look_none (a := tabB), look_none (a := tabC), Option.or_none, Option.or_none]
  · intro p hp; have := List.all_eq_true.1 keyC p hp; simp at this; omega
  · intro p hp; have := List.all_eq_true.1 keyB p hp; simp at this; omega
theorem rowP_B {op : Int} (h : ¬ op ≤ 71) (h' : op ≤ 171) : look tabB op = rowP op := by
  unfold rowP tabAll
  rw [look_append, look_append, look_none (a := tabA), look_none (a := tabC), Option.or_none, Option.none_or]
  · intro p hp; have := List.all_eq_true.1 keyC p hp; simp at this; omega
  · intro p hp; have := List.all_eq_true.1 keyA p hp; simp at this; omega
theorem rowP_C {op : Int} (h : ¬ op ≤ 71) (h' : ¬ op ≤ 171) : look tabC op = rowP op := by
  unfold rowP tabAll
  rw [look_append, look_append, look_none (a := tabA), look_none (a := tabB), Option.none_or, Option.none_or]
  · intro p hp; have := List.all_eq_true.1 keyB p hp; simp at this; omega
  · intro p hp; have := List.all_eq_true.1 keyA p hp; simp at this; omega
theorem rowP_ok {op : Int} {s : Bs} (h : rowP op = some s) : okRow s = true := List.all_eq_true.1 rows_ok _ (look_mem h)
/-- An operation's form. -/
def frm (op : Int) : Option Fl := look tabR op
theorem frm_row (op : Int) : frm op = (rowP op).map parse := by
  unfold frm rowP
  rw [← look_map, tabs_same]

theorem fldG_len (s : Bs) : (fldG s).2.length = 6 := by
  suffices h : ∀ (l : Bs) (st : Nat × List Bs), (l.foldl fldS st).2.length = st.2.length from h s _
  intro l
  induction l with
  | nil => intro st; rfl
  | cons c l ih =>
    intro st
    rw [List.foldl_cons, ih]
    unfold fldS
    split <;> simp
theorem fldG_at (s : Bs) : (fldG s).1 = s.count 32 := by
  suffices h : ∀ (l : Bs) (st : Nat × List Bs), (l.foldl fldS st).1 = st.1 + l.count 32 from (h s _).trans (Nat.zero_add _)
  intro l
  induction l with
  | nil => intro st; simp
  | cons c l ih =>
    intro st
    rw [List.foldl_cons, ih]
    unfold fldS
    split
    · rename_i e; subst e; simp; omega
    · rename_i e; rw [List.count_cons_of_ne e]
theorem fldG_size (s : Bs) : ∀ x ∈ (fldG s).2, x.length ≤ s.length := by
  suffices h : ∀ (l : Bs) (st : Nat × List Bs) (n : Nat), (∀ x ∈ st.2, x.length ≤ n) → ∀ x ∈ (l.foldl fldS st).2, x.length ≤ n + l.length by
    intro x hx
    have := h s (0, [[], [], [], [], [], []]) 0 (by simp) x hx
    omega
  intro l
  induction l with
  | nil => intro st n h x hx; exact h x hx
  | cons c l ih =>
    intro st n h x hx
    have := ih (fldS st c) (n + 1) (fun y hy => by
      unfold fldS at hy
      split at hy
      · have := h y hy; omega
      · obtain ⟨i, hi, e⟩ := List.mem_iff_getElem.1 hy
        rw [List.getElem_modify] at e
        rw [List.length_modify] at hi
        split at e
        · rw [← e]
          have := h _ (List.getElem_mem hi)
          simp
          omega
        · rw [← e]
          have := h _ (List.getElem_mem hi)
          omega) x hx
    simp only [List.length_cons]
    omega
theorem fldG_snoc (s : Bs) (c : UInt8) : fldG (s ++ [c]) = fldS (fldG s) c := by simp [fldG, List.foldl_append]

abbrev Fl.fixed (f : Fl) : Bs := f.2.2.2.1
abbrev Fl.rest (f : Fl) : Bs := f.2.2.2.2.1
abbrev Fl.most (f : Fl) : Nat := f.2.2.2.2.2.1
def lettersOk (f : Fl) : Bool := f.fixed.all (fun c => c != 0) && f.rest.all (fun c => c != 0) && decide (f.fixed.length ≤ 100) && decide (f.rest.length ≤ 100) && decide (f.most ≤ 100)
theorem letters_ok : tabR.all (fun p => lettersOk p.2) = true := by decide +kernel
/-- The letter of the argument k. -/
def letP (f : Fl) (k : Nat) : Nat :=
  if k < f.fixed.length then (f.fixed.getD k 0).toNat
  else if f.rest.length = 0 then 0
  else if 0 < f.most ∧ f.most * f.rest.length ≤ k - f.fixed.length then 0
  else (f.rest.getD ((k - f.fixed.length) % f.rest.length) 0).toNat
def kindP (c : Int) : Int :=
  if c = 105 then 1 else if c = 110 then 2 else if c = 115 then 3 else if (look tabN c).isSome then 4 else 0
theorem names_ne : tabN.all (fun p => !p.2.isEmpty) = true := by decide +kernel
theorem names_there : tabM.all (fun p => (look tabN p.1).isSome) = true := by decide +kernel
theorem kinds_ok : tabR.all (fun p => p.2.fixed.all (fun c => decide (kindP c.toNat ≠ 0)) && p.2.rest.all (fun c => decide (kindP c.toNat ≠ 0))) = true := by decide +kernel
theorem frm_letters {op : Int} {f : Fl} (h : frm op = some f) : lettersOk f = true := List.all_eq_true.1 letters_ok _ (look_mem h)
theorem letP_kind {op : Int} {f : Fl} (h : frm op = some f) {k : Nat} (hk : letP f k ≠ 0) : kindP (letP f k) ≠ 0 := by
  have h2 := List.all_eq_true.1 kinds_ok _ (look_mem h)
  rw [Bool.and_eq_true] at h2
  have h3 := List.all_eq_true.1 h2.1
  have h4 := List.all_eq_true.1 h2.2
  unfold letP at hk ⊢
  split
  · rename_i hlt
    rw [getD_lt hlt]
    exact of_decide_eq_true (h3 _ (List.getElem_mem hlt))
  · rename_i hlt
    rw [if_neg hlt] at hk
    split
    · rename_i e; rw [if_pos e] at hk; exact absurd rfl hk
    · rename_i e
      rw [if_neg e] at hk
      split
      · rename_i e2; rw [if_pos e2] at hk; exact absurd rfl hk
      · have : (k - f.fixed.length) % f.rest.length < f.rest.length := Nat.mod_lt _ (by omega)
        rw [getD_lt this]
        exact of_decide_eq_true (h4 _ (List.getElem_mem this))

/-- The argument k is of a kind that cannot stand there. -/
def bad (f : Fl) (ks : List Int) (k : Nat) : Bool := ks.getD k 0 == 0 || kindP (letP f k) != ks.getD k 0
def wrongLen (f : Fl) (n : Nat) : Bool := decide (n < f.fixed.length) || (decide (f.rest.length ≠ 0) && decide ((n - f.fixed.length) % f.rest.length ≠ 0))
def fitF (f : Fl) (ks : List Int) : Nat × Bool := match (List.range ks.length).find? (bad f ks) with
  | some k => (k, false)
  | none => if wrongLen f ks.length then (ks.length, false) else (0, true)
def fitP (op : Int) (ks : List Int) : Nat × Bool := match frm op with
  | none => (0, false)
  | some f => fitF f ks
theorem fitP_none {op : Int} {ks : List Int} (h : frm op = none) : fitP op ks = (0, false) := by unfold fitP; rw [h]
theorem fitP_some {op : Int} {ks : List Int} {f : Fl} (h : frm op = some f) : fitP op ks = fitF f ks := by unfold fitP; rw [h]
theorem find_first {p : Nat → Bool} {n k : Nat} (hk : k < n) (hp : p k = true) (h : ∀ j, j < k → p j = false) : (List.range n).find? p = some k := by
  rw [List.find?_range_eq_some]
  exact ⟨hp, by simpa using hk, fun j hj => by simp [h j hj]⟩
theorem fit_bad {f : Fl} {ks : List Int} {k : Nat} (hk : k < ks.length) (hp : bad f ks k = true) (h : ∀ j, j < k → bad f ks j = false) : fitF f ks = (k, false) := by
  unfold fitF
  rw [find_first hk hp h]
theorem fit_good {f : Fl} {ks : List Int} (h : ∀ j, j < ks.length → bad f ks j = false) : fitF f ks = if wrongLen f ks.length then (ks.length, false) else (0, true) := by
  unfold fitF
  have : (List.range ks.length).find? (bad f ks) = none := by
    rw [List.find?_eq_none]
    intro j hj
    rw [h j (List.mem_range.1 hj)]
    simp
  rw [this]

end Go.Gm
namespace Go.Proofs
open Go.Gk Go.RowKit Go.Gm

theorem decode_ascii {s : Bs} {k : Nat} (hk : k < s.length) (h : s[k] < 128) : Utf8.decode (bs s) k = (s[k].toNat, 1) := by
  have e : ((bs s).get! (k + 0)).toNat = s[k].toNat := by
    have : (bs s).get! (k + 0) = s[k] := by
      show (s.toArray)[k + 0]! = s[k]
      simp [hk]
    rw [this]
  have h' : s[k].toNat < 128 := h
  unfold Utf8.decode
  simp only [e]
  rw [if_pos h']
theorem encode_ascii {c : UInt8} (h : c < 128) : Utf8.encode (c.toNat : Int) = bs [c] := by
  have h' : c.toNat < 128 := h
  have hv : Utf8.valid (c.toNat : Int) = true := by
    unfold Utf8.valid
    have : (decide (0 ≤ (c.toNat : Int)) && decide ((c.toNat : Int) < 0xD800)) = true := by simp; omega
    rw [this]; rfl
  unfold Utf8.encode
  simp only [hv, if_true, Int.toNat_natCast]
  rw [if_pos (by omega)]
  show _ = bs [c]
  unfold bs
  simp
theorem getElem_iter {w : World} {r : Nat} {s : ByteArray} {p : Nat} (h : r < w.heap.size) : (setIter w r s p).heap[r]? = some (.stringIter s p) := by
  simp [setIter, h]
theorem map_modify {α β : Type} (f : α → β) (g : α → α) (l : List α) {i : Nat} (h : i < l.length) : (l.map f).set i (f (g l[i])) = (l.modify i g).map f := by
  apply List.ext_getElem
  · simp
  · intro j h1 h2
    simp only [List.getElem_set, List.getElem_map, List.getElem_modify]
    split
    · rename_i e; subst e; rfl
    · rfl

abbrev six (l : List Bs) : List Value := l.map fun x => .string (bs x)
theorem okRow_of {s : Bs} (h : okRow s = true) : (∀ c ∈ s, c < 128) ∧ (∀ c ∈ fld s 1, c < 128) ∧ s.count 32 ≤ 5 ∧ s.length ≤ 100 ∧ s ≠ [] ∧ (∃ c r, fld s 5 = c :: r ∧ 48 ≤ c.toNat) ∧ (∀ c r, fld s 4 = c :: r → 48 ≤ c.toNat) := by
  unfold okRow at h
  simp only [Bool.and_eq_true, decide_eq_true_eq, List.all_eq_true, Bool.not_eq_true', List.isEmpty_eq_false_iff] at h
  obtain ⟨⟨⟨⟨⟨⟨h1, h1'⟩, h2⟩, h3⟩, h4⟩, h5⟩, h6⟩ := h
  refine ⟨h1, h1', h2, h3, h4, ?_, ?_⟩
  · cases e : fld s 5 with
    | nil => rw [e] at h5; cases h5
    | cons c r => rw [e] at h5; exact ⟨c, r, rfl, of_decide_eq_true h5⟩
  · intro c r e
    rw [e] at h6
    exact of_decide_eq_true h6
theorem fields_spec {s : Bs} (hs : okRow s = true) {w : World} {R : Value → World → Prop}
    (hR : ∀ w', Below w.heap.size w w' → R (.agg #[.string (bs (fld s 0)), .string (bs (fld s 1)), .string (bs (fld s 2)), .string (bs (fld s 3)), .string (bs (fld s 4)), .string (bs (fld s 5))]) w') :
    callR Tryz.prog 241 #[.string (bs s)] w R := by
  obtain ⟨h128, -, h5, hlen, -⟩ := okRow_of hs
  refine callR.of (grammar_fields_calls (bs s) R w ?_) fun _ _ h => h
  refine Nw.gen fun w1 e1 => Nw.gen fun w2 e2 => Nw.gen fun w3 e3 => ?_
  have hA1 : Blk w1 w.heap.size 320 (six [[], [], [], [], [], []]) := by rw [e1]; exact Blk.new w _ _
  have z1 : w1.heap.size = w.heap.size + 1 := by rw [e1]; simp
  have b1 : Below w.heap.size w w1 := by rw [e1]; exact (Below.refl _ _).alloc (Nat.le_refl _) _
  have hA2 : Blk w2 w.heap.size 320 (six [[], [], [], [], [], []]) := by rw [e2]; exact hA1.alloc _
  have hB2 : Blk w2 w1.heap.size 320 (six [[], [], [], [], [], []]) := by rw [e2]; exact Blk.new w1 _ _
  have z2 : w2.heap.size = w.heap.size + 2 := by rw [e2]; simp [z1]
  have b2 : Below w.heap.size w w2 := by rw [e2]; exact b1.alloc (by omega) _
  have hA3 : Blk w3 w.heap.size 320 (six [[], [], [], [], [], []]) := by rw [e3]; exact hA2.alloc _
  have hB3 : Blk w3 w1.heap.size 320 (six [[], [], [], [], [], []]) := by rw [e3]; exact hB2.alloc _
  have hI3 : w3.heap[w2.heap.size]? = some (.stringIter (bs s) 0) := by
    rw [e3]
    show (w2.heap.push _)[w2.heap.size]? = _
    simp
  have z3 : w3.heap.size = w.heap.size + 3 := by rw [e3]; simp [z2]
  have b3 : Below w.heap.size w w3 := by rw [e3]; exact b2.alloc (by omega) _
  clear e1 e2 e3 hA1 hA2 hB2
  refine LoopW.ghost (fun j st w' => ∃ k, k ≤ s.length ∧ j = s.length - k ∧ st = (((fldG (s.take k)).1 : Int), ()) ∧ w'.heap.size = w.heap.size + 3 ∧ Below w.heap.size w w' ∧ w'.heap[w2.heap.size]? = some (.stringIter (bs s) k) ∧
    Blk w' w.heap.size 320 (six [[], [], [], [], [], []]) ∧ Blk w' w1.heap.size 320 (six (fldG (s.take k)).2)) s.length ⟨0, Nat.zero_le _, rfl, rfl, z3, b3, hI3, hA3, hB3⟩ ?_
  rintro _ _ w4 ⟨k, hk, rfl, rfl, hz, hb, hI, hA, hB⟩ next hnext
  have hat : (fldG (s.take k)).1 ≤ 5 := by
    rw [fldG_at]
    exact Nat.le_trans ((List.take_sublist k s).count_le _) h5
  refine ⟨bs s, k, hI, fun hlt => ?_, fun hge => ?_⟩
  · rw [bs_size] at hlt
    have hc128 := h128 _ (List.getElem_mem hlt)
    rw [decode_ascii hlt hc128]
    dsimp only
    have hc := Chg.iter w2.heap.size w4 (bs s) (k + 1)
    have hI5 := getElem_iter (w := w4) (s := bs s) (p := k + 1) (r := w2.heap.size) (by omega)
    generalize setIter w4 w2.heap.size (bs s) (k + 1) = w5 at hc hI5
    have hA5 := hc.blk hA (by omega)
    have hB5 := hc.blk hB (by omega)
    have hb5 := hc.below hb (by omega)
    have hz5 := hc.size.trans hz
    have htk : s.take (k + 1) = s.take k ++ [s[k]] := List.take_succ_eq_append_getElem hlt
    refine ifB_beq (fun e => ?_) (fun e => ?_)
    · have e : s[k] = 32 := by
        apply UInt8.toNat.inj
        have : (s[k].toNat : Int) = 32 := e
        show s[k].toNat = 32
        omega
      rw [wrap64_succ (by omega)]
      refine hnext (s.length - (k + 1)) _ _ (by omega) ⟨k + 1, hlt, rfl, ?_, hz5, hb5, hI5, hA5, ?_⟩
      · rw [htk, fldG_snoc, fldS, if_pos e]
      · rw [htk, fldG_snoc, fldS, if_pos e]; exact hB5
    · have e : s[k] ≠ 32 := by
        intro h
        apply e
        rw [h]
        rfl
      have h6 := fldG_len (s.take k)
      have hlt6 : (fldG (s.take k)).1 < (fldG (s.take k)).2.length := by omega
      refine ⟨⟨by omega, by omega⟩, ?_⟩
      rw [Int.toNat_natCast]
      refine hB5.rT (x := bs (fldG (s.take k)).2[(fldG (s.take k)).1]) (by simp [six, hlt6]) ⟨?_, ⟨by omega, by omega⟩, hB5.wr (by simpa [six] using hlt6), ?_⟩
      · rw [encode_ascii hc128]
        unfold sumFits
        rw [bs_size, bs_size]
        have := fldG_size (s.take k) _ (List.getElem_mem hlt6)
        rw [List.length_take] at this
        simp only [List.length_singleton]
        omega
      · rw [encode_ascii hc128, bs_append]
        refine hnext (s.length - (k + 1)) _ _ (by omega) ⟨k + 1, hlt, rfl, ?_, ?_, ?_, ?_, ?_, ?_⟩
        · rw [htk, fldG_snoc, fldS, if_neg e]
        · simpa [World.setCell] using hz5
        · exact (Chg.set _ _ _ _).below hb5 (by omega)
        · rw [(Chg.set _ _ _ _).block _ (by omega)]; exact hI5
        · exact (Chg.set _ _ _ _).blk hA5 (by omega)
        · have := hB5.set (fldG (s.take k)).1 (.string (bs ((fldG (s.take k)).2[(fldG (s.take k)).1] ++ [s[k]])))
          rw [htk, fldG_snoc, fldS, if_neg e]
          have e3 := map_modify (fun x => Value.string (bs x)) (· ++ [s[k]]) (fldG (s.take k)).2 hlt6
          show Blk _ _ _ (((fldG (s.take k)).2.modify (fldG (s.take k)).1 (· ++ [s[k]])).map fun x => Value.string (bs x))
          rw [← e3]
          exact this
  · rw [bs_size] at hge
    have : k = s.length := by omega
    subst this
    rw [List.take_length] at hB
    have hR' : ∀ w', Below w.heap.size w w' → R (.agg #[.string (bs ((fldG s).2.getD 0 [])), .string (bs ((fldG s).2.getD 1 [])), .string (bs ((fldG s).2.getD 2 [])), .string (bs ((fldG s).2.getD 3 [])), .string (bs ((fldG s).2.getD 4 [])), .string (bs ((fldG s).2.getD 5 []))]) w' := hR
    have h6 := fldG_len s
    generalize (fldG s).2 = l at hB h6 hR'
    match l, h6 with
    | [a0, a1, a2, a3, a4, a5], _ =>
      refine hB.rT (n := 0) rfl (hB.rT (n := 1) rfl (hB.rT (n := 2) rfl (hB.rT (n := 3) rfl (hB.rT (n := 4) rfl (hB.rT (n := 5) rfl ?_)))))
      refine stC_all (vs := six [a0, a1, a2, a3, a4, a5]) hA rfl fun w' h1 h2 => ?_
      refine h1.rT (n := 0) rfl (h1.rT (n := 1) rfl (h1.rT (n := 2) rfl (h1.rT (n := 3) rfl (h1.rT (n := 4) rfl (h1.rT (n := 5) rfl ?_)))))
      exact hR' w' (h2.below hb (Nat.le_refl _))

abbrev rowT (op : Int) : Bs := (rowP op).getD []
theorem first_E (op : Int) (R : Value → World → Prop) (w : World) : L_grammar_first op R w = chain tabA op (fun s => R (.string (bs s)) w) (R (.string (bs [])) w) := by kernel_rfl
theorem second_E (op : Int) (R : Value → World → Prop) (w : World) : L_grammar_second op R w = chain tabB op (fun s => R (.string (bs s)) w) (R (.string (bs [])) w) := by kernel_rfl
theorem third_E (op : Int) (R : Value → World → Prop) (w : World) : L_grammar_third op R w = chain tabC op (fun s => R (.string (bs s)) w) (R (.string (bs [])) w) := by kernel_rfl
theorem row_spec {op : Int} {w : World} {R : Value → World → Prop} (hR : R (.string (bs (rowT op))) w) : callR Tryz.prog 240 #[.int .u16 op] w R := by
  refine callR.of (grammar_row_calls op R w ?_) fun _ _ h => h
  unfold rowT at hR
  refine ifB_dec (fun h => ?_) (fun h => ifB_dec (fun h' => ?_) (fun h' => ?_))
  · rw [← rowP_A h] at hR
    refine callR.of (grammar_first_calls op _ w ?_) fun _ _ h => h
    rw [first_E]
    exact chain_of (fun x hx => ⟨_, rfl, by rw [hx] at hR; exact hR⟩) (fun hx => ⟨_, rfl, by rw [hx] at hR; exact hR⟩)
  · rw [← rowP_B h h'] at hR
    refine callR.of (grammar_second_calls op _ w ?_) fun _ _ h => h
    rw [second_E]
    exact chain_of (fun x hx => ⟨_, rfl, by rw [hx] at hR; exact hR⟩) (fun hx => ⟨_, rfl, by rw [hx] at hR; exact hR⟩)
  · rw [← rowP_C h h'] at hR
    refine callR.of (grammar_third_calls op _ w ?_) fun _ _ h => h
    rw [third_E]
    exact chain_of (fun x hx => ⟨_, rfl, by rw [hx] at hR; exact hR⟩) (fun hx => ⟨_, rfl, by rw [hx] at hR; exact hR⟩)

abbrev Fm := Int × ByteArray × Bool × Bool × ByteArray × ByteArray × Int × Int × Unit
abbrev fmV (f : Fm) : List Value := [.int .u16 f.1, .string f.2.1, .bool f.2.2.1, .bool f.2.2.2.1, .string f.2.2.2.2.1, .string f.2.2.2.2.2.1, .int .i64 f.2.2.2.2.2.2.1, .int .u8 f.2.2.2.2.2.2.2.1]
abbrev fmA (f : Fm) : Value := .agg #[.int .u16 f.1, .string f.2.1, .bool f.2.2.1, .bool f.2.2.2.1, .string f.2.2.2.2.1, .string f.2.2.2.2.2.1, .int .i64 f.2.2.2.2.2.2.1, .int .u8 f.2.2.2.2.2.2.2.1]
def fmO (op : Int) : Option Fl → Fm
  | none => (0, bs [], false, false, bs [], bs [], 0, 0, ())
  | some f => (op, bs f.1, f.2.1, f.2.2.1, bs f.fixed, bs f.rest, (f.most : Int), (f.2.2.2.2.2.2 : Int), ())
theorem Fm.load {w : World} {b : Nat} {T : TypeId} {f : Fm} (h : Blk w b T (fmV f)) {φ : Int → ByteArray → Bool → Bool → ByteArray → ByteArray → Int → Int → Prop}
    (hφ : φ f.1 f.2.1 f.2.2.1 f.2.2.2.1 f.2.2.2.2.1 f.2.2.2.2.2.1 f.2.2.2.2.2.2.1 f.2.2.2.2.2.2.2.1) :
    ldI w ((blk b).add 0) .u16 fun x1 => ldStr w ((blk b).add 1) fun x2 => ldB w ((blk b).add 2) fun x3 => ldB w ((blk b).add 3) fun x4 => ldStr w ((blk b).add 4) fun x5 => ldStr w ((blk b).add 5) fun x6 =>
      ldI w ((blk b).add 6) .i64 fun x7 => ldI w ((blk b).add 7) .u8 fun x8 => φ x1 x2 x3 x4 x5 x6 x7 x8 :=
  h.rI (n := 0) rfl (h.rT (n := 1) rfl (h.rB (n := 2) rfl (h.rB (n := 3) rfl (h.rT (n := 4) rfl (h.rT (n := 5) rfl (h.rI (n := 6) rfl (h.rI (n := 7) rfl hφ)))))))
theorem byte_sub {c : UInt8} {r : Bs} (h : 48 ≤ c.toNat) : IntKind.u8.wrap (byteI (bs (c :: r)) 0 - 48) = ((c.toNat - 48 : Nat) : Int) := by
  have e : byteI (bs (c :: r)) 0 = (c.toNat : Int) := bs_byte (c :: r) 0
  have := c.toNat_lt
  rw [e, IntKind.wrap_u8]
  omega

theorem gOf_spec {op : Int} {w : World} {R : Value → World → Prop} (hR : ∀ w', Below w.heap.size w w' → R (.tuple #[fmA (fmO op (frm op)), .bool (frm op).isSome]) w') :
    callR Tryz.prog 187 #[.int .u16 op] w R := by
  refine callR.of (grammar_Of_calls op R w ?_) fun _ _ h => h
  refine Nw.gen fun w1 e1 => ?_
  have hA1 : Blk w1 w.heap.size 172 (fmV (fmO op none)) := by rw [e1]; exact Blk.new w _ _
  have z1 : w1.heap.size = w.heap.size + 1 := by rw [e1]; simp
  have b1 : Below w.heap.size w w1 := by rw [e1]; exact (Below.refl _ _).alloc (Nat.le_refl _) _
  clear e1
  refine row_spec ⟨_, rfl, ?_⟩
  rw [toList_nil]
  rw [frm_row] at hR
  cases hrow : rowP op with
  | none =>
    rw [hrow] at hR
    refine ifB_true (by unfold rowT; rw [hrow]; rfl) ?_
    refine stC_all (vs := fmV (fmO op none)) hA1 rfl fun w2 h1 h2 => ?_
    exact Fm.load h1 (hR w2 (h2.below b1 (Nat.le_refl _)))
  | some s =>
    rw [hrow] at hR
    have hok := rowP_ok hrow
    obtain ⟨h128, h128', h5, hlen, hne, ⟨c5, r5, e5, g5⟩, g4⟩ := okRow_of hok
    have ert : rowT op = s := by unfold rowT; rw [hrow]; rfl
    rw [ert]
    refine ifB_false (by simpa using hne) ?_
    refine fields_spec hok fun w2 b2 => ?_
    have hA2 := hA1.below b2
    have b2' : Below w.heap.size w w2 := b1.trans (b2.mono (by omega))
    have z2 : w.heap.size < w2.heap.size := by have := b2.size; omega
    refine ⟨(bs (fld s 0), bs (fld s 1), bs (fld s 2), bs (fld s 3), bs (fld s 4), bs (fld s 5), ()), rfl, ?_⟩
    refine box_of (T := 320) (vs := six [fld s 0, fld s 1, fld s 2, fld s 3, fld s 4, fld s 5]) rfl fun w3 hB b3 z3 => ?_
    have hA3 := hA2.below b3
    have b3' : Below w.heap.size w w3 := b2'.trans (b3.mono (by omega))
    refine ⟨⟨by decide, by decide⟩, hB.drew.rT (n := 0) rfl ⟨⟨by decide, by decide⟩, hB.drew.rT (n := 2) rfl ⟨⟨by decide, by decide⟩, hB.drew.rT (n := 3) rfl ⟨⟨by decide, by decide⟩, hB.drew.rT (n := 5) rfl ⟨⟨by decide, ?_⟩, ?_⟩⟩⟩⟩⟩
    · rw [bs_size, e5]; simp
    refine Nw.gen fun w4 e4 => ?_
    have hC4 : Blk w4 w3.drew.heap.size 172 (fmV (fmO op none)) := by rw [e4]; exact Blk.new w3.drew _ _
    have hB4 : Blk w4 w2.heap.size 320 (six [fld s 0, fld s 1, fld s 2, fld s 3, fld s 4, fld s 5]) := by rw [e4]; exact hB.drew.alloc _
    have hA4 : Blk w4 w.heap.size 172 (fmV (fmO op none)) := by rw [e4]; exact hA3.drew.alloc _
    have b4 : Below w.heap.size w w4 := by rw [e4]; exact b3'.drew.alloc (by show w.heap.size ≤ w3.heap.size; omega) _
    have z4 : w4.heap.size = w3.heap.size + 1 := by rw [e4]; simp
    clear e4
    refine ⟨hB4.cell (n := 5) rfl, hB4.cell (n := 3) rfl, hB4.cell (n := 2) rfl, hB4.cell (n := 0) rfl, ?_⟩
    have zd : w3.drew.heap.size = w3.heap.size := rfl
    generalize w3.drew.heap.size = n4 at zd hC4
    rw [e5, byte_sub g5]
    refine stC_all (vs := [.int .u16 op, .string (bs (fld s 0)), .bool false, .bool false, .string (bs (fld s 2)), .string (bs (fld s 3)), .int .i64 0, .int .u8 ((c5.toNat - 48 : Nat) : Int)]) hC4 rfl fun w5 hC5 c5' => ?_
    have hB5 := c5'.blk hB4 (by omega)
    have hA5 := c5'.blk hA4 (by omega)
    have b5 := c5'.below b4 (by omega)
    have z5 := c5'.size
    refine ⟨⟨by decide, by decide⟩, hB5.rT (n := 1) rfl ?_⟩
    refine Nw.gen fun w6 e6 => ?_
    have hI6 : w6.heap[w5.heap.size]? = some (.stringIter (bs (fld s 1)) 0) := by
      rw [e6]
      show (w5.heap.push _)[w5.heap.size]? = _
      simp
    have hC6 := hC5.alloc (.stringIter (bs (fld s 1)) 0)
    have hB6 := hB5.alloc (.stringIter (bs (fld s 1)) 0)
    have hA6 := hA5.alloc (.stringIter (bs (fld s 1)) 0)
    have z6 : w6.heap.size = w5.heap.size + 1 := by rw [e6]; simp
    have b6 : Below w.heap.size w w6 := by rw [e6]; exact b5.alloc (by omega) _
    rw [← e6] at hC6 hB6 hA6
    clear e6
    refine LoopW.ghost (fun j (_ : Unit) w' => ∃ k, k ≤ (fld s 1).length ∧ j = (fld s 1).length - k ∧ w'.heap.size = w6.heap.size ∧ Below w.heap.size w w' ∧ w'.heap[w5.heap.size]? = some (.stringIter (bs (fld s 1)) k) ∧
      Blk w' w.heap.size 172 (fmV (fmO op none)) ∧ Blk w' w2.heap.size 320 (six [fld s 0, fld s 1, fld s 2, fld s 3, fld s 4, fld s 5]) ∧
      Blk w' n4 172 [.int .u16 op, .string (bs (fld s 0)), .bool (((fld s 1).take k).contains 84), .bool (((fld s 1).take k).contains 82), .string (bs (fld s 2)), .string (bs (fld s 3)), .int .i64 0, .int .u8 ((c5.toNat - 48 : Nat) : Int)])
      (fld s 1).length ⟨0, Nat.zero_le _, rfl, rfl, b6, hI6, hA6, hB6, hC6⟩ ?_
    rintro _ _ w7 ⟨k, hk, rfl, hz, hb, hI, hA, hB', hC⟩ next hnext
    refine ⟨bs (fld s 1), k, hI, fun hlt => ?_, fun hge => ?_⟩
    · rw [bs_size] at hlt
      have hc128 := h128' _ (List.getElem_mem hlt)
      rw [decode_ascii hlt hc128]
      dsimp only
      have hc := Chg.iter w5.heap.size w7 (bs (fld s 1)) (k + 1)
      have hI8 := getElem_iter (w := w7) (s := bs (fld s 1)) (p := k + 1) (r := w5.heap.size) (by omega)
      generalize setIter w7 w5.heap.size (bs (fld s 1)) (k + 1) = w8 at hc hI8
      have hA8 := hc.blk hA (by omega)
      have hB8 := hc.blk hB' (by omega)
      have hC8 := hc.blk hC (by omega)
      have hb8 := hc.below hb (by omega)
      have hz8 := hc.size.trans hz
      have htk : (fld s 1).take (k + 1) = (fld s 1).take k ++ [(fld s 1)[k]] := List.take_succ_eq_append_getElem hlt
      have hcon : ∀ (d : UInt8), ((fld s 1).take (k + 1)).contains d = (((fld s 1).take k).contains d || (((fld s 1)[k].toNat : Int) == ((d.toNat : Nat) : Int))) := by
        intro d
        rw [htk, List.contains_append]
        congr 1
        simp only [List.contains_cons, List.contains_nil, Bool.or_false]
        by_cases e : (fld s 1)[k] = d
        · rw [e]; simp
        · have e1 : (d == (fld s 1)[k]) = false := beq_eq_false_iff_ne.2 fun h => e h.symm
          have e2 : (((fld s 1)[k].toNat : Int) == ((d.toNat : Nat) : Int)) = false := beq_eq_false_iff_ne.2 fun h => e (UInt8.toNat.inj (by omega))
          rw [e1, e2]
      refine JoinW.cut (fun _ w9 => Chg n4 w8 w9 ∧ Blk w9 n4 172 [.int .u16 op, .string (bs (fld s 0)), .bool (((fld s 1).take (k + 1)).contains 84), .bool (((fld s 1).take k).contains 82), .string (bs (fld s 2)), .string (bs (fld s 3)), .int .i64 0, .int .u8 ((c5.toNat - 48 : Nat) : Int)]) ?_ ?_
      · refine hC8.rB (n := 2) rfl (ifB_bool (fun ht => ?_) (fun ht => ?_))
        · refine ⟨hC8.wr (n := 2) (by simp), Chg.set _ _ _ _, ?_⟩
          have := hC8.set 2 (.bool true)
          rw [hcon 84, ht]
          exact this
        · refine ⟨hC8.wr (n := 2) (by simp), Chg.set _ _ _ _, ?_⟩
          have := hC8.set 2 (.bool (((fld s 1)[k].toNat : Int) == 84))
          rw [hcon 84, ht, Bool.false_or]
          exact this
      · rintro _ w9 ⟨c9, hC9⟩
        have fin : ∀ w10, Chg n4 w9 w10 → Blk w10 n4 172 [.int .u16 op, .string (bs (fld s 0)), .bool (((fld s 1).take (k + 1)).contains 84), .bool (((fld s 1).take (k + 1)).contains 82), .string (bs (fld s 2)), .string (bs (fld s 3)), .int .i64 0, .int .u8 ((c5.toNat - 48 : Nat) : Int)] → next () w10 := by
          intro w10 c10 hC10
          have cc := c9.trans c10
          refine hnext ((fld s 1).length - (k + 1)) _ _ (by omega) ⟨k + 1, hlt, rfl, cc.size.trans hz8, cc.below hb8 (by omega), ?_, cc.blk hA8 (by omega), cc.blk hB8 (by omega), hC10⟩
          rw [cc.block _ (by omega)]
          exact hI8
        refine hC9.rB (n := 3) rfl (ifB_bool (fun ht => ?_) (fun ht => ?_))
        · refine ⟨hC9.wr (n := 3) (by simp), fin _ (Chg.set _ _ _ _) ?_⟩
          have := hC9.set 3 (.bool true)
          rw [hcon 82, ht]
          exact this
        · refine ⟨hC9.wr (n := 3) (by simp), fin _ (Chg.set _ _ _ _) ?_⟩
          have := hC9.set 3 (.bool (((fld s 1)[k].toNat : Int) == 82))
          rw [hcon 82, ht, Bool.false_or]
          exact this
    · rw [bs_size] at hge
      have hk : k = (fld s 1).length := by omega
      subst hk
      rw [List.take_length] at hC
      refine JoinW.cut (fun _ w9 => Chg n4 w7 w9 ∧ Blk w9 n4 172 (fmV (fmO op (some (parse s))))) ?_ ?_
      · refine ⟨⟨by decide, by decide⟩, hB'.rT (n := 4) rfl ?_⟩
        rw [toList_nil]
        cases e4 : fld s 4 with
        | nil =>
          refine ifB_false rfl ⟨Chg.refl _ _, ?_⟩
          have ep : parse s = (fld s 0, (fld s 1).contains 84, (fld s 1).contains 82, fld s 2, fld s 3, 0, c5.toNat - 48) := by
            unfold parse
            rw [e4, e5]
          rw [ep]
          exact hC
        | cons c4 r4 =>
          have g := g4 _ _ e4
          refine ifB_true rfl ⟨⟨by decide, by decide⟩, ?_⟩
          rw [e4] at hB'
          refine hB'.rT (n := 4) rfl ⟨⟨by decide, by rw [bs_size]; simp⟩, hC.wr (n := 6) (by simp), Chg.set _ _ _ _, ?_⟩
          rw [byte_sub g, wrap64_in (by omega) (by have := c4.toNat_lt; omega)]
          have ep : parse s = (fld s 0, (fld s 1).contains 84, (fld s 1).contains 82, fld s 2, fld s 3, c4.toNat - 48, c5.toNat - 48) := by
            unfold parse
            rw [e4, e5]
          rw [ep]
          exact hC.set 6 (.int .i64 ((c4.toNat - 48 : Nat) : Int))
      · rintro _ w9 ⟨c9, hC9⟩
        refine Fm.load hC9 ?_
        refine stC_all (vs := fmV (fmO op (some (parse s)))) (c9.blk hA (by omega)) rfl fun w10 h1 h2 => ?_
        exact Fm.load h1 (hR w10 (h2.below (c9.below hb (by omega)) (Nat.le_refl _)))

end Go.Proofs
namespace Go.Proofs
open Go.Gk Go.RowKit Go.Gm

def fl0 : Fl := ([], false, false, [], [], 0, 0)
def flOf (op : Int) : Fl := (frm op).getD fl0
theorem flOf_ok (op : Int) : lettersOk (flOf op) = true := by
  unfold flOf
  cases h : frm op with
  | none => decide +kernel
  | some f => exact frm_letters h
/-- The box f says the letters of g. -/
structure FmIs (f : Fm) (g : Fl) : Prop where
  fixed : f.2.2.2.2.1 = bs g.fixed
  rest : f.2.2.2.2.2.1 = bs g.rest
  most : f.2.2.2.2.2.2.1 = (g.most : Int)
theorem fmIs (op : Int) : FmIs (fmO op (frm op)) (flOf op) := by
  unfold flOf
  cases h : frm op with
  | none => exact ⟨rfl, rfl, rfl⟩
  | some f => exact ⟨rfl, rfl, rfl⟩
structure LOk (g : Fl) : Prop where
  fixed : ∀ c ∈ g.fixed, c ≠ 0
  rest : ∀ c ∈ g.rest, c ≠ 0
  fl : g.fixed.length ≤ 100
  rl : g.rest.length ≤ 100
  ml : g.most ≤ 100
theorem lOk {g : Fl} (h : lettersOk g = true) : LOk g := by
  unfold lettersOk at h
  simp only [Bool.and_eq_true, List.all_eq_true, bne_iff_ne, decide_eq_true_eq] at h
  obtain ⟨⟨⟨⟨h1, h2⟩, h3⟩, h4⟩, h5⟩ := h
  exact ⟨h1, h2, h3, h4, h5⟩
def fixP (g : Fl) (k : Nat) : Nat := if k < g.fixed.length then (g.fixed.getD k 0).toNat else 0
def restP (g : Fl) (k : Nat) : Nat :=
  if k < g.fixed.length then 0 else if g.rest.length = 0 then 0 else if 0 < g.most ∧ g.most * g.rest.length ≤ k - g.fixed.length then 0
  else (g.rest.getD ((k - g.fixed.length) % g.rest.length) 0).toNat
theorem letP_fix {g : Fl} {k : Nat} (h : fixP g k ≠ 0) : letP g k = fixP g k := by
  unfold fixP at h ⊢
  unfold letP
  split
  · rfl
  · rename_i h1; rw [if_neg h1] at h; exact absurd rfl h
theorem letP_rest {g : Fl} (hg : LOk g) {k : Nat} (h : fixP g k = 0) : letP g k = restP g k := by
  unfold fixP at h
  unfold restP letP
  split at h
  · rename_i h1
    rw [getD_lt h1] at h
    exact absurd (UInt8.toNat.inj (b := 0) h) (hg.fixed _ (List.getElem_mem h1))
  · rename_i h1
    rw [if_neg h1, if_neg h1]

section
variable {f : Fm} {g : Fl} {w : World} {R : Value → World → Prop}
theorem fixed_spec (hf : FmIs f g) {i : Nat} (hR : ∀ w', Below w.heap.size w w' → R (.int .u8 (fixP g i : Int)) w') :
    callR Tryz.prog 300 #[fmA f, .int .i64 (i : Int)] w R := by
  refine callR.of (grammar_form_fixed_calls f i R w ?_) fun _ _ h => h
  refine lay_of fun w1 hB b1 z1 => ?_
  have hB : Blk w1 w.heap.size 356 (fmV f) := hB
  have hf4 := hf.fixed
  refine JoinW.cut (fun _ w' => w' = w1 ∧ i < g.fixed.length) ?_ ?_
  · refine ifB_dec (fun h => absurd h (by omega)) (fun _ => ?_)
    refine hB.rT (n := 4) rfl ?_
    rw [hf4, bs_size]
    refine ifB_dec (fun h => ?_) (fun h => ⟨rfl, by omega⟩)
    have := hR w1 b1
    rwa [fixP, if_neg (by omega)] at this
  · rintro _ w' ⟨rfl, hlt⟩
    refine hB.rT (n := 4) rfl ?_
    rw [hf4, bs_size, bs_byte]
    refine ⟨⟨by omega, by omega⟩, ?_⟩
    have := hR w' b1
    rwa [fixP, if_pos hlt] at this
theorem rest_spec (hf : FmIs f g) (hg : LOk g) {i : Nat} (hi : i ≤ 9223372036854775807) (hR : ∀ w', Below w.heap.size w w' → R (.int .u8 (restP g i : Int)) w') :
    callR Tryz.prog 301 #[fmA f, .int .i64 (i : Int)] w R := by
  refine callR.of (grammar_form_rest_calls f i R w ?_) fun _ _ h => h
  refine lay_of fun w1 hB b1 z1 => ?_
  have hB : Blk w1 w.heap.size 356 (fmV f) := hB
  have h1 := hg.fl
  have h2 := hg.rl
  have h3 := hg.ml
  refine hB.rT (n := 4) rfl ?_
  have hf4 := hf.fixed
  have hf5 := hf.rest
  have hf6 := hf.most
  rw [hf4, bs_size, wrap64_in (by omega) (by omega)]
  have hmul : g.most * g.rest.length ≤ 10000 := Nat.le_trans (Nat.mul_le_mul h3 h2) (by omega)
  refine JoinW.cut (fun _ w' => w' = w1 ∧ g.fixed.length ≤ i ∧ g.rest.length ≠ 0 ∧ ¬ (0 < g.most ∧ g.most * g.rest.length ≤ i - g.fixed.length)) ?_ ?_
  · refine ifB_dec (fun h => ?_) (fun h => ?_)
    · have := hR w1 b1
      rwa [restP, if_pos (by omega)] at this
    · have hge : ¬ i < g.fixed.length := by omega
      refine hB.rT (n := 5) rfl ?_
      rw [hf5, toList_nil]
      refine ifB_bool (fun e => ?_) (fun e => ?_)
      · have := hR w1 b1
        rwa [restP, if_neg hge, if_pos (by rw [List.isEmpty_iff] at e; rw [e]; rfl)] at this
      · have hne : g.rest.length ≠ 0 := by
          intro h
          rw [List.eq_nil_of_length_eq_zero h] at e
          cases e
        refine hB.rI (n := 6) rfl ?_
        rw [hf6]
        refine ifB_dec (fun hm => ?_) (fun hm => ⟨rfl, by omega, hne, by omega⟩)
        refine hB.rI (n := 6) rfl (hB.rT (n := 5) rfl ?_)
        rw [hf6, hf5, bs_size, ← Int.natCast_mul, wrap64_in (by omega) (by omega)]
        refine ifB_dec (fun hc => ?_) (fun hc => ⟨rfl, by omega, hne, by omega⟩)
        have := hR w1 b1
        rwa [restP, if_neg hge, if_neg hne, if_pos ⟨by omega, by omega⟩] at this
  · rintro _ w' ⟨rfl, hge, hne, hno⟩
    refine hB.drew.rT (n := 5) rfl (hB.drew.rT (n := 5) rfl ?_)
    rw [hf5, bs_size]
    refine ifB_dec (fun h => absurd h (by omega)) (fun _ => ?_)
    have e : Int.tmod ((i : Int) - (g.fixed.length : Int)) (g.rest.length : Int) = (((i - g.fixed.length) % g.rest.length : Nat) : Int) := by
      rw [show (i : Int) - (g.fixed.length : Int) = ((i - g.fixed.length : Nat) : Int) by omega]
      exact Int.ofNat_tmod _ _ |>.symm
    have hlt : (i - g.fixed.length) % g.rest.length < g.rest.length := Nat.mod_lt _ (by omega)
    rw [e, bs_byte]
    refine ⟨⟨by omega, by omega⟩, ?_⟩
    have := hR w'.drew b1.drew
    rwa [restP, if_neg (by omega), if_neg hne, if_neg hno] at this
theorem letter_spec (hf : FmIs f g) (hg : LOk g) {i : Nat} (hi : i ≤ 9223372036854775807) (hR : ∀ w', Below w.heap.size w w' → R (.int .u8 (letP g i : Int)) w') :
    callR Tryz.prog 281 #[fmA f, .int .i64 (i : Int)] w R := by
  refine callR.of (grammar_form_letter_calls f i R w ?_) fun _ _ h => h
  refine lay_of fun w1 hB b1 z1 => ?_
  have hB : Blk w1 w.heap.size 356 (fmV f) := hB
  refine ifB_dec (fun h => absurd h (by omega)) (fun _ => ?_)
  refine Fm.load hB (Fm.load hB ?_)
  refine lay_of fun w2 hF b2 z2 => ?_
  have b2' := b1.on b2
  refine LoopW.count 2 (by omega) (fun k w' => Below w.heap.size w w' ∧ Below w2.heap.size w2 w' ∧ (0 < k → fixP g i = 0) ∧ (1 < k → restP g i = 0)) ⟨b2', Below.refl _ _, fun h => by omega, fun h => by omega⟩ ?_
  rintro k w3 hk ⟨hb, hb2, hk1, hk2⟩ next hnext
  have hF3 := hF.below hb2
  have z3 := hb.size
  refine ifB_dec (fun h => ?_) (fun h => ?_)
  · refine ⟨⟨by omega, by omega⟩, ?_⟩
    match k, h, hk1, hk2, hnext with
    | 0, _, _, _, hnext =>
      refine ⟨_, hF3.cell (n := 0) rfl, ?_⟩
      show callR Tryz.prog 300 #[fmA f, .int .i64 (i : Int)] w3 _
      refine fixed_spec hf fun w4 b4 => ⟨_, rfl, ?_⟩
      refine ifB_bne (fun e => ?_) (fun e => ?_)
      · have := hR w4 (hb.on b4)
        rwa [letP_fix (by omega)] at this
      · exact hnext w4 (by omega) ⟨hb.on b4, hb2.on b4, fun _ => by omega, fun h => by omega⟩
    | 1, _, hk1, _, hnext =>
      refine ⟨_, hF3.cell (n := 1) rfl, ?_⟩
      show callR Tryz.prog 301 #[fmA f, .int .i64 (i : Int)] w3 _
      refine rest_spec hf hg hi fun w4 b4 => ⟨_, rfl, ?_⟩
      have hf0 := hk1 (by omega)
      refine ifB_bne (fun e => ?_) (fun e => ?_)
      · have := hR w4 (hb.on b4)
        rwa [letP_rest hg hf0] at this
      · exact hnext w4 (by omega) ⟨hb.on b4, hb2.on b4, fun _ => hf0, fun _ => by omega⟩
    | k + 2, h, _, _, _ => dsimp only at h; omega
  · have hk : 1 < k := by dsimp only at h; omega
    have := hR w3 hb
    rwa [letP_rest hg (hk1 (by omega)), hk2 hk] at this
end

theorem names_E (c : Int) (R : Value → World → Prop) (w : World) : L_grammar_names c R w = chain tabN c (fun s => R (.string (bs s)) w) (R (.string (bs [])) w) := by kernel_rfl
theorem Kind_spec {c : Int} {w : World} {R : Value → World → Prop} (hR : R (.int .u8 (kindP c)) w) : callR Tryz.prog 245 #[.int .u8 c] w R := by
  refine callR.of (grammar_Kind_calls c R w ?_) fun _ _ h => h
  unfold kindP at hR
  refine ifB_beq (fun e => by rwa [if_pos e] at hR) (fun e => ?_)
  rw [if_neg e] at hR
  refine ifB_beq (fun e => by rwa [if_pos e] at hR) (fun e => ?_)
  rw [if_neg e] at hR
  refine ifB_beq (fun e => by rwa [if_pos e] at hR) (fun e => ?_)
  rw [if_neg e] at hR
  refine callR.of (grammar_names_calls c _ w ?_) fun _ _ h => h
  rw [names_E]
  refine chain_of (fun s hs => ⟨_, rfl, ?_⟩) (fun hs => ⟨_, rfl, ?_⟩)
  · rw [toList_nil]
    have := List.all_eq_true.1 names_ne _ (look_mem hs)
    rw [hs] at hR
    exact ifB_true this hR
  · rw [toList_nil]
    rw [hs] at hR
    exact ifB_false rfl hR

theorem Fits_spec {op : Int} {s : Sl} {ks : List Int} {w : World} {R : Value → World → Prop} (hs : IsS (Value.int .u8) w s ks)
    (hR : ∀ w', Below w.heap.size w w' → R (.tuple #[.int .i64 ((fitP op ks).1 : Int), .bool (fitP op ks).2]) w') :
    callR Tryz.prog 248 #[.int .u16 op, .slice s.a s.l s.c] w R := by
  refine callR.of (grammar_Fits_calls op s R w ?_) fun _ _ h => h
  have hg := lOk (flOf_ok op)
  have hlen := hs.len
  have hmax := hs.bound
  refine gOf_spec fun w1 b1 => ⟨fmO op (frm op), (frm op).isSome, rfl, ?_⟩
  refine box_of (T := 172) (vs := fmV (fmO op (frm op))) rfl fun w2 hB b2 z2 => ?_
  refine ifB_bool (fun hn => ?_) (fun hn => ?_)
  · have hfr : frm op = none := by
      cases h : frm op with
      | none => rfl
      | some g => rw [h] at hn; cases hn
    rw [fitP_none hfr] at hR
    exact hR w2 (b1.on b2)
  · obtain ⟨g, hfr⟩ : ∃ g, frm op = some g := by
      cases h : frm op with
      | none => rw [h] at hn; cases hn
      | some g => exact ⟨g, rfl⟩
    rw [fitP_some hfr] at hR
    have efl : flOf op = g := by unfold flOf; rw [hfr]; rfl
    have hfm := fmIs op
    rw [efl] at hfm hg
    generalize fmO op (frm op) = fm at hB hfm
    refine Fm.load hB ?_
    refine box8 rfl fun w3 hC b3 z3 => ?_
    have hC : Blk w3 w2.heap.size 356 (fmV fm) := hC
    have b3' := (b1.on b2).on b3
    refine LoopW.count s.l (by omega) (fun k w' => Below w.heap.size w w' ∧ Below w3.heap.size w3 w' ∧ ∀ j, j < k → bad g ks j = false) ⟨b3', Below.refl _ _, fun j hj => by omega⟩ ?_
    rintro k w4 hk ⟨hb, hb3, hj⟩ next hnext
    have hC4 := hC.below hb3
    have hs4 := hs.below hb
    refine ifB_dec (fun h => ?_) (fun h => ?_)
    · have hlt : k < ks.length := by dsimp only at h; omega
      have hbadE : bad g ks k = (ks[k] == 0 || kindP (letP g k) != ks[k]) := by unfold bad; rw [getD_lt hlt]
      refine JoinW.cut (fun _ w' => Below w4.heap.size w4 w' ∧ bad g ks k = false) ?_ ?_
      · refine hs4.addr hlt fun a _ hc => ⟨_, hc, ?_⟩
        refine ifB_beq (fun e => ?_) (fun e => ?_)
        · have := hR w4 hb
          rwa [fit_bad hlt (by rw [hbadE, e]; rfl) hj] at this
        · refine Fm.load hC4 ?_
          refine letter_spec hfm hg (by omega) fun w5 b5 => ⟨_, rfl, ?_⟩
          refine Kind_spec ⟨_, rfl, ?_⟩
          refine ifB_bne (fun e2 => ?_) (fun e2 => ?_)
          · have := hR w5 (hb.on b5)
            rwa [fit_bad hlt (by rw [hbadE, bne_iff_ne.2 e2, Bool.or_true]) hj] at this
          · refine ⟨b5, ?_⟩
            rw [hbadE, e2]
            simpa using e
      · rintro _ w5 ⟨b5, hbk⟩
        refine hnext w5 (by omega) ⟨hb.on b5, hb3.on b5, fun j hj' => ?_⟩
        by_cases e : j = k
        · subst e; exact hbk
        · exact hj j (by omega)
    · have hk : k = ks.length := by dsimp only at h; omega
      subst hk
      have hfit := fit_good hj
      have hR' := hR w4 hb
      rw [show fitF g ks = _ from hfit] at hR'
      have h1 := hg.fl
      refine hC4.rT (n := 4) rfl ?_
      rw [hfm.fixed, bs_size, wrap64_in (by omega) (by omega), hlen]
      refine ifB_dec (fun hn => ?_) (fun hn => ?_)
      · rwa [if_pos (by unfold wrongLen; rw [decide_eq_true (by omega), Bool.true_or])] at hR'
      · have hge : ¬ ks.length < g.fixed.length := by omega
        refine hC4.rT (n := 5) rfl ?_
        rw [hfm.rest, toList_nil]
        refine ifB_bool (fun e => ?_) (fun e => ?_)
        · have hne : g.rest.length ≠ 0 := by
            intro h
            rw [List.eq_nil_of_length_eq_zero h] at e
            cases e
          refine hC4.rT (n := 5) rfl ?_
          rw [hfm.rest, bs_size]
          refine ifB_dec (fun h => absurd h (by omega)) (fun _ => ?_)
          have e3 : Int.tmod ((ks.length : Int) - (g.fixed.length : Int)) (g.rest.length : Int) = (((ks.length - g.fixed.length) % g.rest.length : Nat) : Int) := by
            rw [show (ks.length : Int) - (g.fixed.length : Int) = ((ks.length - g.fixed.length : Nat) : Int) by omega]
            exact Int.ofNat_tmod _ _ |>.symm
          rw [e3]
          refine ifB_bne (fun e4 => ?_) (fun e4 => ?_)
          · rwa [if_pos (by unfold wrongLen; rw [decide_eq_false hge, decide_eq_true hne, decide_eq_true (by omega)]; rfl)] at hR'
          · rwa [if_neg (by unfold wrongLen; rw [decide_eq_false hge, decide_eq_true hne, decide_eq_false (by omega)]; decide)] at hR'
        · have hz : g.rest.length = 0 := by
            have : g.rest.isEmpty = true := by simpa using e
            rw [List.isEmpty_iff] at this
            rw [this]
            rfl
          rwa [if_neg (by unfold wrongLen; rw [decide_eq_false hge, decide_eq_false (show ¬ g.rest.length ≠ 0 by omega), Bool.false_and]; decide)] at hR'

end Go.Proofs
namespace Go.Proofs
open Go.Gk Go.RowKit Go.Gm

end Go.Proofs
namespace Go.Gk
open Go.RowKit
theorem Blk.put {w : World} {b : Nat} {T : TypeId} {cs : List Value} (h : Blk w b T cs) {l : Nat} (hl : b ≠ l) (o : Obj) : Blk (w.putObj l o) b T cs := h.of_block (World.putObj_heap_other hl)
theorem _root_.Go.RowKit.Below.putObj {B : Nat} {w w' : World} (h : Below B w w') {b : Nat} (hb : B ≤ b) (o : Obj) : Below B w (w'.putObj b o) :=
  ⟨h.os, h.tape, h.output, by simpa using h.size, fun k hk => (World.putObj_heap_other (by omega)).trans (h.block k hk)⟩
/-- The two blocks that a range lays. -/
theorem laid_below (w : World) (o o' : Obj) : Below w.heap.size w ((w.alloc o).alloc o') := (((Below.refl _ _).alloc (Nat.le_refl _) o).alloc (by simp) o')
theorem laid_size (w : World) (o o' : Obj) : ((w.alloc o).alloc o').heap.size = w.heap.size + 2 := by simp
theorem laid_d (w : World) (o o' : Obj) : ((w.alloc o).alloc o').heap[w.heap.size]? = some o := (alloc_old (w.alloc o) o' (by simp)).trans (World.alloc_heap_new w o)
theorem laid_l (w : World) (o o' : Obj) : ((w.alloc o).alloc o').heap[w.heap.size + 1]? = some o' := by
  have := World.alloc_heap_new (w.alloc o) o'
  simpa using this
theorem closeM_one {d : Nat} {w : World} {k : World → Prop} (h : w.heap[d]? = some (.deferred (some []))) (hk : k (w.putObj d (.deferred none))) : closeM [d] w k := ⟨h, hk⟩
theorem callV.mono {P : Program} {fs : List Nat} {f : Value} {args : List Value} {w : World} {S T : Value → World → Prop} (h : callV P fs f args w S) (hk : ∀ v w', S v w' → T v w') : callV P fs f args w T := by
  revert h
  unfold callV
  split
  · split
    · exact fun h => callR.mono h hk
    · rintro ⟨v, w', h1, h2⟩
      exact ⟨v, w', h1, hk _ _ h2⟩
  · rintro ⟨r, h1, h2, h3⟩
    exact ⟨r, h1, h2, RoundIn.mono h3 fun e w' he => by cases e <;> first | exact hk _ _ he | exact he.elim⟩
  · exact id
end Go.Gk

namespace Go.Gk
open Go.RowKit Go.MapKept
variable {P : Program}

/-- What is at a key, and a key set. -/
def lookL : List (Int × Int) → Int → Option Int
  | [], _ => none
  | p :: r, k => if k = p.1 then some p.2 else lookL r k
def setL : List (Int × Int) → Int → Int → List (Int × Int)
  | [], k, v => [(k, v)]
  | p :: r, k, v => if k = p.1 then (k, v) :: r else p :: setL r k v
theorem lookL_set (k v k' : Int) : ∀ L, lookL (setL L k v) k' = if k' = k then some v else lookL L k'
  | [] => by simp only [setL, lookL]
  | p :: r => by
    have ih := lookL_set k v k' r
    simp only [setL]
    split
    · rename_i e
      simp only [lookL]
      split
      · rfl
      · rename_i e'
        rw [if_neg (by rw [← e]; exact e')]
    · rename_i e
      simp only [lookL]
      split
      · rename_i e'
        rw [if_neg (by rw [e']; exact fun h => e h.symm)]
      · exact ih
/-- The map at block r has the entries L, in this order. -/
def IsMp (w : World) (r : Nat) (κ : IntKind) (L : List (Int × Int)) : Prop :=
  ∃ es clock, w.heap[r]? = some (.map es clock) ∧ es.toList.map (fun e => (e.key, e.val)) = (L.map fun p => (Value.int .u32 p.1, Value.int κ p.2)) ∧ (∀ x ∈ es.toList, x.born < clock) ∧ (es.toList.map (·.born)).Nodup
theorem IsMp.lt {w : World} {r : Nat} {κ : IntKind} {L : List (Int × Int)} (h : IsMp w r κ L) : r < w.heap.size := by
  obtain ⟨es, c, h, _⟩ := h
  exact (Array.getElem?_eq_some_iff.1 h).1
theorem IsMp.of_block {w w' : World} {r : Nat} {κ : IntKind} {L : List (Int × Int)} (h : IsMp w r κ L) (hb : w'.heap[r]? = w.heap[r]?) : IsMp w' r κ L := by
  obtain ⟨es, c, h, h2⟩ := h
  exact ⟨es, c, hb.trans h, h2⟩
theorem IsMp.below {w w' : World} {r : Nat} {κ : IntKind} {L : List (Int × Int)} (h : IsMp w r κ L) (hb : Below w.heap.size w w') : IsMp w' r κ L := h.of_block (hb.block r h.lt)
theorem IsMp.new (w : World) (κ : IntKind) : IsMp (w.alloc (.map #[] 0)) w.heap.size κ [] := ⟨#[], 0, by show (w.heap.push _)[w.heap.size]? = _; simp, rfl, (by simp), by simp⟩
theorem findNow_of (κ : IntKind) (k : Int) : ∀ (es : List MapEntry) (L : List (Int × Int)) (i : Nat), es.map (fun e => (e.key, e.val)) = (L.map fun p => (Value.int .u32 p.1, Value.int κ p.2)) →
    ∃ o, Instr.findNow (.int .u32) (.int .u32 k) es i = some o ∧ (match o with
      | none => lookL L k = none
      | some (j, v) => ∃ m x, j = i + m ∧ m < es.length ∧ v = .int κ x ∧ lookL L k = some x ∧ ∃ e, es[m]? = some e ∧ e.key = .int .u32 k ∧ ∀ v', (es.modify m fun e => { e with key := .int .u32 k, val := .int κ v' }).map (fun e => (e.key, e.val)) = (setL L k v').map fun p => (Value.int .u32 p.1, Value.int κ p.2))
  | [], [], i, _ => ⟨none, rfl, rfl⟩
  | [], _ :: _, _, h => by simp at h
  | _ :: _, [], _, h => by simp at h
  | e :: es, p :: L, i, h => by
    simp only [List.map_cons, List.cons.injEq, Prod.mk.injEq] at h
    obtain ⟨⟨h1, h2⟩, h3⟩ := h
    unfold Instr.findNow
    rw [h1]
    simp only [Instr.sameNow, if_true]
    by_cases hk : k = p.1
    · rw [show (k == p.1) = true from beq_iff_eq.2 hk]
      refine ⟨some (i, e.val), rfl, 0, p.2, rfl, by simp, h2, by simp [lookL, hk], e, rfl, by rw [h1, hk], fun v' => ?_⟩
      simp [setL, hk, h3]
    · rw [show (k == p.1) = false from beq_eq_false_iff_ne.2 hk]
      obtain ⟨o, ho, hm⟩ := findNow_of κ k es L (i + 1) h3
      refine ⟨o, ho, ?_⟩
      cases o with
      | none => simpa [lookL, hk] using hm
      | some q =>
        obtain ⟨j, v⟩ := q
        obtain ⟨m, x, g1, g2, g3, g4, e', g5, g6, g7⟩ := hm
        refine ⟨m + 1, x, by omega, by simp; omega, g3, by simpa [lookL, hk] using g4, e', by simpa using g5, g6, fun v' => ?_⟩
        have := g7 v'
        simp [setL, hk, h1, h2, this]

theorem run_lookNow {t kt et : TypeId} (ht : P.underlying t = some (.map kt et)) (hk : P.underlying kt = some (.int .u32)) {κ : IntKind} (hz : ∃ i, P.info? et = some i ∧ i.zero = some (.int κ 0)) {w : World} {r : Nat} {L : List (Int × Int)} (h : IsMp w r κ L) (k : Int) (ok : Bool) :
    (Instr.lookup t (.map (some r)) (.int .u32 k) ok).run P w = .ok (if ok then .tuple #[.int κ ((lookL L k).getD 0), .bool (lookL L k).isSome] else .int κ ((lookL L k).getD 0)) w := by
  obtain ⟨es, c, hb, hes, _⟩ := h
  obtain ⟨i, hi, hzi⟩ := hz
  obtain ⟨o, ho, hm⟩ := findNow_of κ k es.toList L 0 hes
  unfold Instr.lookup
  have hck : ∀ e, (Instr.checkKey e 10000 kt (.int .u32 k)).run P w = .ok () w := fun e => run_checkKey (d := .int .u32) hk (by simp [IsKey]) e 9999
  have hg : (getObj r).run P w = .ok (.map es c) w := Go.MapKept.run_getObj_map hb
  simp only [Sem.run_bind, run_underlying ht, Result.andThen_ok, hg, Sem.run_pure, hck, run_findKey hk ho]
  cases o with
  | none =>
    have hzr : (zeroValue et).run P w = .ok (.int κ 0) w := by simp [zeroValue, typeInfo, hi, hzi, Result.andThen]
    have hm : lookL L k = none := hm
    simp only [Sem.run_bind, hzr, Result.andThen_ok, Sem.run_pure, hm, Option.getD_none, Option.isSome_none]
  | some q =>
    obtain ⟨j, v⟩ := q
    obtain ⟨m, x, g1, g2, g3, g4, _⟩ := hm
    simp only [Sem.run_bind, Sem.run_pure, Result.andThen_ok, g3, g4, Option.getD_some, Option.isSome_some]
theorem lookOk_of {t kt et : TypeId} (ht : P.underlying t = some (.map kt et)) (hk : P.underlying kt = some (.int .u32)) {κ : IntKind} (hz : ∃ i, P.info? et = some i ∧ i.zero = some (.int κ 0)) {w : World} {r : Nat} {L : List (Int × Int)} (h : IsMp w r κ L) {k : Int} {φ : Int → Bool → Prop}
    (hφ : φ ((lookL L k).getD 0) (lookL L k).isSome) : lookOk P t (.map (some r)) (.int .u32 k) (BK.int κ) w φ := ⟨(lookL L k).getD 0, (lookL L k).isSome, run_lookNow ht hk hz h k true, hφ⟩
theorem lookV_of {t kt et : TypeId} (ht : P.underlying t = some (.map kt et)) (hk : P.underlying kt = some (.int .u32)) {κ : IntKind} (hz : ∃ i, P.info? et = some i ∧ i.zero = some (.int κ 0)) {w : World} {r : Nat} {L : List (Int × Int)} (h : IsMp w r κ L) {k : Int} {φ : Int → Prop}
    (hφ : φ ((lookL L k).getD 0)) : lookV P t (.map (some r)) (.int .u32 k) (BK.int κ) w φ := ⟨(lookL L k).getD 0, run_lookNow ht hk hz h k false, hφ⟩
theorem updW_of {t kt et : TypeId} (ht : P.underlying t = some (.map kt et)) (hk : P.underlying kt = some (.int .u32)) {κ : IntKind} {w : World} {r : Nat} {L : List (Int × Int)} (h : IsMp w r κ L) {k v : Int} {K : World → Prop}
    (hK : ∀ w', IsMp w' r κ (setL L k v) → Go.Proofs.Chg r w w' → K w') : updW P t (.map (some r)) (.int .u32 k) (.int κ v) w K := by
  have hlt := h.lt
  obtain ⟨es, c, hb, hes, hstamp, hnd⟩ := h
  obtain ⟨o, ho, hm⟩ := findNow_of κ k es.toList L 0 hes
  have hck : ∀ e, (Instr.checkKey e 10000 kt (.int .u32 k)).run P w = .ok () w := fun e => run_checkKey (d := .int .u32) hk (by simp [IsKey]) e 9999
  have hg : (getObj r).run P w = .ok (.map es c) w := Go.MapKept.run_getObj_map hb
  have chg : ∀ ob : Obj, Go.Proofs.Chg r w { w with heap := w.heap.setIfInBounds r ob } := fun ob => ⟨rfl, rfl, rfl, by simp, fun i hi => by simp [Array.getElem?_setIfInBounds_ne (Ne.symm hi)]⟩
  unfold updW Instr.mapUpdate
  simp only [Sem.run_bind, run_underlying ht, Result.andThen_ok, hg, Sem.run_pure, hck, run_findKey hk ho]
  cases o with
  | none =>
    simp only [run_setObj_map _ hb]
    refine ⟨_, rfl, hK _ ⟨_, _, (heap_set hb).1, ?_, fun x hx => ?_, ?_⟩ (chg _)⟩
    rotate_left
    · rw [Array.toList_push] at hx
      rcases List.mem_append.1 hx with hx | hx
      · exact Nat.lt_succ_of_lt (hstamp x hx)
      · rw [List.mem_singleton.1 hx]
        exact Nat.lt_succ_self c
    · rw [Array.toList_push, List.map_append]
      refine List.nodup_append.2 ⟨hnd, by simp, ?_⟩
      intro a ha b hb e
      obtain ⟨x, hx, rfl⟩ := List.mem_map.1 ha
      simp only [List.map_cons, List.map_nil, List.mem_singleton] at hb
      have := hstamp x hx
      omega
    simp only [Array.toList_push, List.map_append, hes, List.map_cons, List.map_nil]
    have : ∀ L : List (Int × Int), lookL L k = none → setL L k v = L ++ [(k, v)] := by
      intro L
      induction L with
      | nil => intro _; rfl
      | cons p r ih =>
        intro hn
        simp only [lookL] at hn
        split at hn
        · cases hn
        · rename_i e
          simp only [setL]
          rw [if_neg e, ih hn]
          rfl
    rw [this L hm]
    simp
  | some q =>
    obtain ⟨j, v0⟩ := q
    obtain ⟨m, x, g1, g2, g3, g4, e, g5, g6, g7⟩ := hm
    have hj : j = m := by omega
    subst hj
    have hst : (Instr.keyThatStays (((es[j]?).map (·.key)).getD (.int .u32 k)) (.int .u32 k)).run P w = .ok (.int .u32 k) w := by
      have : ((es[j]?).map (·.key)).getD (.int .u32 k) = .int .u32 k := by
        rw [← Array.getElem?_toList, g5]
        exact g6
      rw [this]
      unfold Instr.keyThatStays
      rw [if_pos (by simp [Instr.sameBits])]
      rfl
    simp only [Sem.run_bind, hst, Result.andThen_ok, run_setObj_map _ hb]
    have hbn : (es.modify j fun e => { e with key := .int .u32 k, val := .int κ v }).toList.map (·.born) = es.toList.map (·.born) := by
      rw [Array.toList_modify]
      apply List.ext_getElem
      · simp
      · intro n q1 q2
        simp only [List.getElem_map, List.getElem_modify]
        split <;> rfl
    refine ⟨_, rfl, hK _ ⟨_, _, (heap_set hb).1, ?_, fun x hx => ?_, by rw [hbn]; exact hnd⟩ (chg _)⟩
    rotate_left
    · have : x.born ∈ es.toList.map (·.born) := by rw [← hbn]; exact List.mem_map.2 ⟨x, hx, rfl⟩
      obtain ⟨y, hy, e⟩ := List.mem_map.1 this
      rw [← e]
      exact hstamp y hy
    have := g7 v
    rw [← this]
    congr 1
    rw [Array.toList_modify]

end Go.Gk
namespace Go.Gm
open Go.Gk
/-- A number of digits, as the code reckons it. -/
def numS (n : Int) (c : UInt8) : Int := IntKind.u32.wrap (IntKind.u32.wrap (10 * n) + IntKind.u32.wrap (IntKind.i32.wrap ((c.toNat : Int) - 48)))
def numP (s : Bs) : Int := s.foldl numS 0
/-- Names and numbers, taken apart: the number, the word, whether it is the name's turn; what was found. -/
abbrev EnS := Int × Bs × Bool × List (Int × Bs)
def enS (st : EnS) (c : UInt8) : EnS :=
  if c = 32 then (if st.2.2.1 = true then (st.1, [], false, st.2.2.2 ++ [(st.1, st.2.1)]) else (numP st.2.1, [], true, st.2.2.2)) else (st.1, st.2.1 ++ [c], st.2.2.1, st.2.2.2)
def enG (s : Bs) : EnS := s.foldl enS (0, [], false, [])
def enL (c : Int) : List (Int × Bs) := (enG ((Gm.look tabN c).getD [])).2.2.2
theorem enG_snoc (s : Bs) (c : UInt8) : enG (s ++ [c]) = enS (enG s) c := by simp [enG, List.foldl_append]
theorem enS_pre (st : EnS) (c : UInt8) : st.2.2.2 <+: (enS st c).2.2.2 := by
  unfold enS
  split
  · split
    · exact List.prefix_append _ _
    · exact List.prefix_refl _
  · exact List.prefix_refl _
theorem foldl_pre (l : Bs) : ∀ st : EnS, st.2.2.2 <+: (l.foldl enS st).2.2.2 := by
  induction l with
  | nil => intro st; exact List.prefix_refl _
  | cons c l ih => intro st; exact (enS_pre st c).trans (ih _)
theorem enG_pre (s : Bs) (k : Nat) : (enG (s.take k)).2.2.2 <+: (enG s).2.2.2 := by
  have : enG s = (s.drop k).foldl enS (enG (s.take k)) := by
    unfold enG
    rw [← List.foldl_append, List.take_append_drop]
  rw [this]
  exact foldl_pre _ _
theorem enG_word (s : Bs) : (enG s).2.1.length ≤ s.length := by
  suffices h : ∀ (l : Bs) (st : EnS), (l.foldl enS st).2.1.length ≤ st.2.1.length + l.length by
    have := h s (0, [], false, [])
    unfold enG
    simpa using this
  intro l
  induction l with
  | nil => intro st; simp
  | cons c l ih =>
    intro st
    have h1 := ih (enS st c)
    have h2 : (enS st c).2.1.length ≤ st.2.1.length + 1 := by
      unfold enS
      split
      · split <;> simp
      · simp
    simp only [List.foldl_cons, List.length_cons]
    omega
theorem enG_ascii {s : Bs} (h : ∀ c ∈ s, c < 128) : ∀ c ∈ (enG s).2.1, c < 128 := by
  suffices g : ∀ (l : Bs) (st : EnS), (∀ c ∈ l, c < 128) → (∀ c ∈ st.2.1, c < 128) → ∀ c ∈ (l.foldl enS st).2.1, c < 128 from g s (0, [], false, []) h (by simp)
  intro l
  induction l with
  | nil => intro st _ h; exact h
  | cons c l ih =>
    intro st hl hs
    refine ih (enS st c) (fun d hd => hl d (List.mem_cons_of_mem _ hd)) ?_
    unfold enS
    split
    · split <;> simp
    · intro d hd
      rcases List.mem_append.1 hd with h | h
      · exact hs d h
      · rw [List.mem_singleton.1 h]; exact hl c List.mem_cons_self
theorem names_ascii : tabN.all (fun p => p.2.all (· < 128) && decide (p.2.length ≤ 200)) = true := by decide +kernel
theorem names_list : tabN.all (fun p => decide ((enG p.2).2.2.2 = (tabM.filter fun q => decide (q.1 = p.1)).map (·.2))) = true := by decide +kernel
/-- Is n an enumerant of the letter? -/
def enumP (c n : Int) : Bool := tabM.any fun q => decide (q.1 = c) && decide (q.2.1 = n)
theorem row_ascii (c : Int) : (∀ b ∈ (Gm.look tabN c).getD [], b < 128) ∧ ((Gm.look tabN c).getD []).length ≤ 200 := by
  cases h : Gm.look tabN c with
  | none => simp
  | some s =>
    have := List.all_eq_true.1 names_ascii _ (look_mem h)
    simp only [Bool.and_eq_true, List.all_eq_true, decide_eq_true_eq] at this
    exact this
theorem enum_iff (c n : Int) : enumP c n = true ↔ ∃ x ∈ enL c, x.1 = n := by
  unfold enumP enL
  rw [List.any_eq_true]
  cases h : Gm.look tabN c with
  | none =>
    constructor
    · rintro ⟨q, hq, e⟩
      rw [Bool.and_eq_true, decide_eq_true_eq] at e
      have := List.all_eq_true.1 names_there _ hq
      rw [e.1, h] at this
      cases this
    · rintro ⟨x, hx, _⟩
      cases hx
  | some s =>
    have := of_decide_eq_true (List.all_eq_true.1 names_list _ (look_mem h))
    simp only [Option.getD_some] at this ⊢
    rw [this]
    constructor
    · rintro ⟨q, hq, e⟩
      rw [Bool.and_eq_true, decide_eq_true_eq, decide_eq_true_eq] at e
      exact ⟨q.2, List.mem_map.2 ⟨q, List.mem_filter.2 ⟨hq, decide_eq_true e.1⟩, rfl⟩, e.2⟩
    · rintro ⟨x, hx, e⟩
      obtain ⟨q, hq, rfl⟩ := List.mem_map.1 hx
      obtain ⟨h1, h2⟩ := List.mem_filter.1 hq
      refine ⟨q, h1, ?_⟩
      rw [Bool.and_eq_true, decide_eq_true_eq]
      exact ⟨of_decide_eq_true h2, decide_eq_true e⟩
end Go.Gm
namespace Go.Proofs
open Go.Gk Go.RowKit Go.Gm

theorem put_self {w : World} {l : Nat} (h : l < w.heap.size) (o : Obj) : (w.putObj l o).heap[l]? = some o := by simp [World.putObj, h]
theorem number_spec {s : Bs} (h128 : ∀ c ∈ s, c < 128) {w : World} {R : Value → World → Prop} (hR : ∀ w', Below w.heap.size w w' → R (.int .u32 (numP s)) w') : callR Tryz.prog 311 #[.string (bs s)] w R := by
  refine callR.of (grammar_number_calls (bs s) R w ?_) fun _ _ h => h
  refine Nw.gen fun w1 e1 => ?_
  have hI1 : w1.heap[w.heap.size]? = some (.stringIter (bs s) 0) := by
    rw [e1]
    show (w.heap.push _)[w.heap.size]? = _
    simp
  have z1 : w1.heap.size = w.heap.size + 1 := by rw [e1]; simp
  have b1 : Below w.heap.size w w1 := by rw [e1]; exact (Below.refl _ _).alloc (Nat.le_refl _) _
  clear e1
  refine LoopW.ghost (fun j st w' => ∃ k, k ≤ s.length ∧ j = s.length - k ∧ st = (numP (s.take k), ()) ∧ w'.heap.size = w.heap.size + 1 ∧ Below w.heap.size w w' ∧ w'.heap[w.heap.size]? = some (.stringIter (bs s) k)) s.length ⟨0, Nat.zero_le _, rfl, rfl, z1, b1, hI1⟩ ?_
  rintro _ _ w2 ⟨k, hk, rfl, rfl, hz, hb, hI⟩ next hnext
  refine ⟨bs s, k, hI, fun hlt => ?_, fun hge => ?_⟩
  · rw [bs_size] at hlt
    rw [decode_ascii hlt (h128 _ (List.getElem_mem hlt))]
    dsimp only
    have hc := Chg.iter w.heap.size w2 (bs s) (k + 1)
    refine hnext (s.length - (k + 1)) _ _ (by omega) ⟨k + 1, hlt, rfl, ?_, hc.size.trans hz, hc.below hb (Nat.le_refl _), getElem_iter (by omega)⟩
    rw [List.take_succ_eq_append_getElem hlt]
    unfold numP
    rw [List.foldl_append]
    rfl
  · rw [bs_size] at hge
    have hk : k = s.length := by omega
    subst hk
    rw [List.take_length]
    exact hR w2 hb

/-- The walk over a letter's enumerants, with whatever yield. -/
theorem Enums1_spec {y : Value} {c : Int} {pb : Nat} {w : World} (hp : w.cell? (blk pb) = some (.int .u8 c)) (Inv : Nat → World → Prop) (S : World → Prop) (h0 : Inv 0 w) (hkeep : ∀ j w' w'', Inv j w' → w.heap.size ≤ w'.heap.size → Below w.heap.size w' w'' → Inv j w'')
    (hround : ∀ j (hj : j < (enL c).length) w', Inv j w' → callV Tryz.prog Tryz.fs y [.int .u32 (enL c)[j].1, .string (bs (enL c)[j].2)] w' fun v w'' => ((v = .bool true ∧ Inv (j + 1) w'') ∨ (v = .bool false ∧ S w'')) ∧ w''.heap.size = w'.heap.size ∧ ∀ b, w.heap.size ≤ b → w''.heap[b]? = w'.heap[b]?)
    (hend : ∀ w', Inv (enL c).length w' → S w') : Calls Tryz.prog 310 #[y, .pointer (some (blk pb))] w (Ret fun _ w' => S w') := by
  refine grammar_Enums_1_calls y (blk pb) _ w ⟨c, hp, ?_⟩
  refine callR.of (grammar_names_calls c _ w ?_) fun _ _ h => h
  rw [names_E]
  have hrow := row_ascii c
  have hL : enL c = (enG ((Gm.look tabN c).getD [])).2.2.2 := rfl
  suffices go : ∀ s : Bs, s = (Gm.look tabN c).getD [] → (∃ x : ByteArray, Value.string (bs s) = .string x ∧ _) from chain_of (fun x hx => go x (by rw [hx]; rfl)) (fun hx => go [] (by rw [hx]; rfl))
  intro s hs
  rw [← hs] at hrow hL
  obtain ⟨h128, hlen⟩ := hrow
  refine ⟨bs s, rfl, ?_⟩
  refine Nw.gen fun w1 e1 => ?_
  have hI1 : w1.heap[w.heap.size]? = some (.stringIter (bs s) 0) := by
    rw [e1]
    show (w.heap.push _)[w.heap.size]? = _
    simp
  have z1 : w1.heap.size = w.heap.size + 1 := by rw [e1]; simp
  have b1 : Below w.heap.size w w1 := by rw [e1]; exact (Below.refl _ _).alloc (Nat.le_refl _) _
  clear e1
  refine LoopW.ghost (fun j st w' => ∃ k, k ≤ s.length ∧ j = s.length - k ∧ st = ((enG (s.take k)).1, bs (enG (s.take k)).2.1, (enG (s.take k)).2.2.1, ()) ∧ w.heap.size < w'.heap.size ∧ Inv (enG (s.take k)).2.2.2.length w' ∧ w'.heap[w.heap.size]? = some (.stringIter (bs s) k))
    s.length ⟨0, Nat.zero_le _, rfl, rfl, by omega, hkeep 0 w w1 h0 (Nat.le_refl _) b1, hI1⟩ ?_
  rintro _ _ w2 ⟨k, hk, rfl, rfl, hz, hIn, hI⟩ next hnext
  refine ⟨bs s, k, hI, fun hlt => ?_, fun hge => ?_⟩
  · rw [bs_size] at hlt
    have hc128 := h128 _ (List.getElem_mem hlt)
    rw [decode_ascii hlt hc128]
    dsimp only
    have hc := Chg.iter w.heap.size w2 (bs s) (k + 1)
    have hI3 := getElem_iter (w := w2) (s := bs s) (p := k + 1) (r := w.heap.size) (by omega)
    generalize setIter w2 w.heap.size (bs s) (k + 1) = w3 at hc hI3
    have hIn3 := hkeep _ w2 w3 hIn (by omega) (hc.below (Below.refl _ _) (Nat.le_refl _))
    have hz3 := hc.size
    have htk : s.take (k + 1) = s.take k ++ [s[k]] := List.take_succ_eq_append_getElem hlt
    have hst : enG (s.take (k + 1)) = enS (enG (s.take k)) s[k] := by rw [htk, enG_snoc]
    have hpre := enG_pre s (k + 1)
    have hwl := enG_word (s.take k)
    rw [List.length_take] at hwl
    have hwa := enG_ascii (s := s.take k) (fun c hc => h128 c (List.mem_of_mem_take hc))
    rw [hst] at hpre
    have hnx : ∀ w', w.heap.size < w'.heap.size → Inv (enG (s.take (k + 1))).2.2.2.length w' → w'.heap[w.heap.size]? = some (.stringIter (bs s) (k + 1)) → next ((enG (s.take (k + 1))).1, bs (enG (s.take (k + 1))).2.1, (enG (s.take (k + 1))).2.2.1, ()) w' :=
      fun w' h1 h2 h3 => hnext (s.length - (k + 1)) _ _ (by omega) ⟨k + 1, hlt, rfl, rfl, h1, h2, h3⟩
    rw [hst] at hnx
    clear hnext
    generalize enG (s.take k) = st at hnx hpre hwl hwa hIn3 ⊢
    obtain ⟨n, word, nb, out⟩ := st
    dsimp only at hwl hwa hIn3 ⊢
    by_cases e : s[k] = 32
    · have e32 : ((s[k].toNat : Nat) : Int) = 32 := by rw [e]; rfl
      cases nb with
      | false =>
        have hS : enS (n, word, false, out) s[k] = (numP word, [], true, out) := by unfold enS; rw [if_pos e, if_neg (by simp)]
        rw [hS] at hnx
        refine JoinW.cut (fun st w' => st = (numP word, ()) ∧ w.heap.size < w'.heap.size ∧ Inv out.length w' ∧ w'.heap[w.heap.size]? = some (.stringIter (bs s) (k + 1))) ?_ ?_
        · refine ifB_bne (fun h => absurd e32 h) (fun _ => ifB_bool (fun _ => ?_) (fun h => by cases h))
          refine number_spec hwa fun w4 b4 => ⟨_, rfl, rfl, ?_, ?_, ?_⟩
          · have := b4.size
            omega
          · exact hkeep _ w3 w4 hIn3 (by omega) (b4.mono (by omega))
          · rw [b4.block _ (by omega)]; exact hI3
        · rintro ⟨m, _⟩ w' ⟨h1, h2, h3, h4⟩
          cases h1
          exact hnx w' h2 h3 h4
      | true =>
        have hS : enS (n, word, true, out) s[k] = (n, [], false, out ++ [(n, word)]) := by unfold enS; rw [if_pos e, if_pos rfl]
        rw [hS] at hnx hpre
        dsimp only at hpre hnx
        rw [← hL] at hpre
        have hj : out.length < (enL c).length := by
          have := hpre.length_le
          rw [List.length_append, List.length_singleton] at this
          omega
        have hjv : (enL c)[out.length] = (n, word) := by
          obtain ⟨t, ht⟩ := hpre
          have : (enL c)[out.length]? = some (n, word) := by
            rw [← ht]
            simp
          rw [List.getElem?_eq_getElem hj] at this
          exact Option.some.inj this
        refine JoinW.cut (fun st w' => st = (n, ()) ∧ w.heap.size < w'.heap.size ∧ Inv (out ++ [(n, word)]).length w' ∧ w'.heap[w.heap.size]? = some (.stringIter (bs s) (k + 1))) ?_ ?_
        · refine ifB_bne (fun h => absurd e32 h) (fun _ => ifB_bool (fun h => by cases h) (fun _ => ?_))
          have hr := hround out.length hj w3 hIn3
          rw [hjv] at hr
          refine callV.mono hr fun v w4 hv => ?_
          obtain ⟨hv, hsz, hold⟩ := hv
          rcases hv with ⟨rfl, hv⟩ | ⟨rfl, hv⟩
          · refine ⟨true, rfl, ifB_false rfl ⟨rfl, by omega, ?_, ?_⟩⟩
            · rw [List.length_append]; exact hv
            · rw [hold _ (Nat.le_refl _)]; exact hI3
          · exact ⟨false, rfl, ifB_true rfl hv⟩
        · rintro ⟨m, _⟩ w' ⟨h1, h2, h3, h4⟩
          cases h1
          exact hnx w' h2 h3 h4
    · have hS : enS (n, word, nb, out) s[k] = (n, word ++ [s[k]], nb, out) := by unfold enS; rw [if_neg e]
      rw [hS] at hnx
      refine JoinW.cut (fun _ _ => False) ?_ (fun _ _ h => h.elim)
      refine ifB_bne (fun _ => ?_) (fun h => absurd (UInt8.toNat.inj (b := 32) (by have : ((s[k].toNat : Nat) : Int) = 32 := h; show s[k].toNat = 32; omega)) e)
      rw [encode_ascii hc128, bs_append]
      refine ⟨?_, hnx w3 (by omega) hIn3 hI3⟩
      unfold sumFits
      rw [bs_size, bs_size, List.length_singleton]
      omega
  · rw [bs_size] at hge
    have hk : k = s.length := by omega
    subst hk
    rw [List.take_length, ← hL] at hIn
    exact hend w2 hIn

theorem Enum_spec {c n : Int} {w : World} {R : Value → World → Prop} (hR : ∀ s w', Below w.heap.size w w' → R (.tuple #[.string s, .bool (enumP c n)]) w') : callR Tryz.prog 286 #[.int .u8 c, .int .u32 n] w R := by
  refine callR.of (grammar_Enum_calls c n R w ?_) fun _ _ h => h
  refine lay_of fun w1 hN1 b1 z1 => ?_
  refine lay_of fun w2 hS2 b2 z2 => ?_
  refine lay_of fun w3 hO3 b3 z3 => ?_
  have hN3 := (hN1.below b2).below b3
  have hS3 := hS2.below b3
  have hb3 := (b1.on b2).on b3
  refine callR.of (grammar_Enums_calls c _ w3 ?_) fun _ _ h => h
  refine lay_of fun w4 hC4 b4 z4 => ⟨_, rfl, ?_⟩
  have hN4 : Blk w4 w.heap.size 22 [.int .u32 n] := hN3.below b4
  have hS4 : Blk w4 w1.heap.size 9 [.string (bs [])] := hS3.below b4
  have hO4 : Blk w4 w2.heap.size 4 [.bool false] := hO3.below b4
  have hb4 := hb3.on b4
  intro mk hy
  have hcf : Tryz.fs.contains 310 = true := by kernel_rfl
  unfold callF
  simp only [hcf]
  generalize hw5 : ((w4.alloc (.deferred (some []))).alloc (mk .ready none)) = w5
  have b5 : Below w4.heap.size w4 w5 := by rw [← hw5]; exact laid_below w4 _ _
  have z5 : w5.heap.size = w4.heap.size + 2 := by rw [← hw5]; exact laid_size w4 _ _
  have hd5 : w5.heap[w4.heap.size]? = some (.deferred (some [])) := by rw [← hw5]; exact laid_d w4 _ _
  have hl5 : w5.heap[w4.heap.size + 1]? = some (mk .ready none) := by rw [← hw5]; exact laid_l w4 _ _
  clear hw5
  have fin0 : ∀ (b : Bool) (s : ByteArray) w', Below w.heap.size w w' → Blk w' w1.heap.size 9 [.string s] → Blk w' w2.heap.size 4 [.bool b] → b = enumP c n → w'.heap[w4.heap.size]? = some (.deferred (some [])) →
      closeM [w4.heap.size] w' fun w13 => ldStr w13 (blk w1.heap.size) fun x9 => ldB w13 (blk w2.heap.size) fun x10 => R (.tuple #[(.string x9), (.bool x10)]) w13 := by
    intro b s w' h1 h2 h3 h4 h5
    refine closeM_one h5 ?_
    refine ⟨s, (h2.put (by omega) _).cell0 rfl, b, (h3.put (by omega) _).cell0 rfl, ?_⟩
    rw [h4]
    exact hR s _ (h1.putObj (by have := hb4.size; omega) _)
  refine Enums1_spec (y := .func (.yield (w4.heap.size + 1)) #[] #[]) ((hC4.below b5).cell0 rfl)
    (fun j w' => w'.heap[w4.heap.size + 1]? = some (mk .ready none) ∧ w'.heap[w4.heap.size]? = some (.deferred (some [])) ∧ Blk w' w.heap.size 22 [.int .u32 n] ∧ Blk w' w1.heap.size 9 [.string (bs [])] ∧ Blk w' w2.heap.size 4 [.bool false] ∧
      Below w.heap.size w w' ∧ ∀ i (hi : i < (enL c).length), i < j → (enL c)[i].1 ≠ n) _
    ⟨hl5, hd5, hN4.below b5, hS4.below b5, hO4.below b5, hb4.on b5, fun i hi h => by omega⟩ ?_ ?_ ?_
  · rintro j w' w'' ⟨h1, h2, h3, h4, h5, h6, h7⟩ hsz hbb
    refine ⟨(hbb.block _ (by omega)).trans h1, (hbb.block _ (by omega)).trans h2, h3.of_block (hbb.block _ (by omega)), h4.of_block (hbb.block _ (by omega)), h5.of_block (hbb.block _ (by omega)), h6.trans (hbb.mono (by omega)), h7⟩
  · rintro j hj w' ⟨h1, h2, h3, h4, h5, h6, h7⟩
    refine hy ((enL c)[j].1, bs (enL c)[j].2, ()) w' _ h1 ⟨h1, Nw.gen fun w6 e6 => ?_⟩
    have ho6 : ∀ b, b ≠ w4.heap.size + 1 → w6.heap[b]? = w'.heap[b]? := fun b hb => by rw [e6]; exact World.putObj_heap_other hb
    have z6 : w6.heap.size = w'.heap.size := by rw [e6]; simp
    have hlt' : w4.heap.size + 1 < w'.heap.size := (Array.getElem?_eq_some_iff.1 h1).1
    have hl6 : w6.heap[w4.heap.size + 1]? = some (mk .busy none) := by rw [e6]; simp [World.putObj, hlt']
    have h66 : Below w.heap.size w w6 := by rw [e6]; exact h6.putObj (by have := hb4.size; omega) _
    clear e6
    refine ⟨n, (h3.of_block (ho6 _ (by omega))).cell0 rfl, ?_⟩
    refine ifB_beq (fun e => ?_) (fun e => ?_)
    · have k4 := h4.of_block (ho6 _ (by omega))
      have k5 := h5.of_block (ho6 _ (by omega))
      refine ⟨k4.wr0 (by simp), Nw.gen fun w7 e7 => ?_⟩
      have c7 : Chg w1.heap.size w6 w7 := by rw [e7]; exact Chg.set w1.heap.size 0 w6 _
      have k4' : Blk w7 w1.heap.size 9 [.string (bs (enL c)[j].2)] := by rw [e7]; exact k4.set0 _
      clear e7
      have k5' := c7.blk k5 (by omega)
      refine ⟨k5'.wr0 (by simp), Nw.gen fun w8 e8 => ?_⟩
      have c8 : Chg w2.heap.size w7 w8 := by rw [e8]; exact Chg.set w2.heap.size 0 w7 _
      have k5'' : Blk w8 w2.heap.size 4 [.bool true] := by rw [e8]; exact k5'.set0 _
      clear e8
      have k4'' := c8.blk k4' (by omega)
      have hl8 : w8.heap[w4.heap.size + 1]? = some (mk .busy none) := by rw [c8.block _ (by omega), c7.block _ (by omega)]; exact hl6
      have b8 := c8.below (c7.below h66 (by have := b1.size; omega)) (by have := b1.size; have := b2.size; omega)
      refine ⟨hl8, .inr ⟨rfl, ?_⟩, ?_, ?_⟩
      · refine .inr ⟨?_, ?_⟩
        · exact put_self (by have := c8.size; have := c7.size; omega) _
        · refine fin0 true (bs (enL c)[j].2) _ ?_ ?_ ?_ ?_ ?_
          · exact (b8.putObj (by have := hb4.size; omega) _).putObj (by have := hb4.size; omega) _
          · exact (k4''.put (by omega) _).put (by omega) _
          · exact (k5''.put (by omega) _).put (by omega) _
          · exact ((enum_iff c n).2 ⟨_, List.getElem_mem hj, e⟩).symm
          · rw [World.putObj_heap_other (by omega), World.putObj_heap_other (by omega), c8.block _ (by omega), c7.block _ (by omega), ho6 _ (by omega)]
            exact h2
      · have := c8.size; have := c7.size
        simp [World.putObj]
        omega
      · intro b hb
        rw [World.putObj_heap_other (by omega), c8.block _ (by omega), c7.block _ (by omega), ho6 _ (by omega)]
    · refine ⟨hl6, .inl ⟨rfl, ?_, ?_, ?_, ?_, ?_, ?_, ?_⟩, ?_, ?_⟩
      · exact put_self (by omega) _
      · rw [World.putObj_heap_other (by omega), ho6 _ (by omega)]; exact h2
      · exact (h3.of_block (ho6 _ (by omega))).put (by omega) _
      · exact (h4.of_block (ho6 _ (by omega))).put (by omega) _
      · exact (h5.of_block (ho6 _ (by omega))).put (by omega) _
      · exact h66.putObj (by have := hb4.size; omega) _
      · intro i hi hij
        by_cases e' : i = j
        · subst e'; exact e
        · exact h7 i hi (by omega)
      · simp [World.putObj]; omega
      · intro b hb
        rw [World.putObj_heap_other (by omega), ho6 _ (by omega)]
  · rintro w' ⟨h1, h2, h3, h4, h5, h6, h7⟩
    have hlt' : w4.heap.size + 1 < w'.heap.size := (Array.getElem?_eq_some_iff.1 h1).1
    refine .inl ⟨h1, ?_⟩
    have k4 := h4.put (l := w4.heap.size + 1) (by omega) (mk .exhausted none)
    have k5 := h5.put (l := w4.heap.size + 1) (by omega) (mk .exhausted none)
    refine ⟨k4.wr0 (by simp), Nw.gen fun w7 e7 => ?_⟩
    have c7 : Chg w1.heap.size (w'.putObj (w4.heap.size + 1) (mk .exhausted none)) w7 := by rw [e7]; exact Chg.set w1.heap.size 0 _ _
    have k4' : Blk w7 w1.heap.size 9 [.string (bs [])] := by rw [e7]; exact k4.set0 _
    clear e7
    have k5' := c7.blk k5 (by omega)
    refine ⟨k5'.wr0 (by simp), Nw.gen fun w8 e8 => ?_⟩
    have c8 : Chg w2.heap.size w7 w8 := by rw [e8]; exact Chg.set w2.heap.size 0 w7 _
    have k5'' : Blk w8 w2.heap.size 4 [.bool false] := by rw [e8]; exact k5'.set0 _
    clear e8
    refine fin0 false (bs []) w8 ?_ (c8.blk k4' (by omega)) k5'' ?_ ?_
    · exact c8.below (c7.below (h6.putObj (by have := hb4.size; omega) _) (by have := b1.size; omega)) (by have := b1.size; have := b2.size; omega)
    · symm
      rw [Bool.eq_false_iff]
      intro h
      obtain ⟨x, hx, e⟩ := (enum_iff c n).1 h
      obtain ⟨i, hi, rfl⟩ := List.mem_iff_getElem.1 hx
      exact h7 i hi hi e
    · rw [c8.block _ (by omega), c7.block _ (by omega), World.putObj_heap_other (by omega)]
      exact h2

end Go.Proofs
