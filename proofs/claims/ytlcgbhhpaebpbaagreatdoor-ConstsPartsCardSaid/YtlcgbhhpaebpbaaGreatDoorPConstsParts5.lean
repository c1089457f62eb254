/-
  Part 5 of what ConstsParts is proved by: functions walked, and what they come to.
-/
import Derived.Test.YtlcgbhhpaebpbaaGreatDoorProg
import Derived.Test.YtlcgbhhpaebpbaaGreatDoorPConstsParts4
namespace Go.Proofs
open Go.Gk
set_option linter.unusedVariables false
set_option maxRecDepth 100000

/-- (*intaglio.types.Table).Size -/
def a_types_Table_Size : Ann := (.seq none .nil (.seq none .nil .nil))
def L_types_Table_Size (p0 : Option Addr) (p1 : Int) (R : Value → World → Prop) (w : World) : Prop :=
 callR Tryz.prog 69 #[(.pointer p0), (.int .u32 p1)] w fun v1 w1 =>
 ∃ x2 : (Int × Int × Int × Bool × Int × Int × Int × Sl × Unit), v1 = (.agg #[(.int .u8 x2.1), (.int .i64 x2.2.1), (.int .i64 x2.2.2.1), (.bool x2.2.2.2.1), (.int .u32 x2.2.2.2.2.1), (.int .u32 x2.2.2.2.2.2.1), (.int .i64 x2.2.2.2.2.2.2.1), (.slice x2.2.2.2.2.2.2.2.1.a x2.2.2.2.2.2.2.2.1.l x2.2.2.2.2.2.2.2.1.c)]) ∧
 R (.int .i64 x2.2.1) w1
theorem types_Table_Size_calls (p0 : Option Addr) (p1 : Int) (R : Value → World → Prop) (w : World) (h : L_types_Table_Size p0 p1 R w) : Calls Tryz.prog 30 #[(.pointer p0), (.int .u32 p1)] w (Ret R) :=
 lw_calls (fs := Tryz.fs) (an := a_types_Table_Size) (args := [(.pointer p0), (.int .u32 p1)]) Tryz.fsOK Tryz.mixed Tryz.func30 (by kernel_rfl) (by kernel_rfl)
 (Eq.mpr (by kernel_rfl : lwFn Tryz.prog Tryz.fs Tryz.f30 a_types_Table_Size [(.pointer p0), (.int .u32 p1)] w R = L_types_Table_Size p0 p1 R w) h)

/-- intaglio.types.New -/
def a_types_New : Ann := (.seq none .nil (.seq none (.seq none .nil (.seq none .nil (.cond (.seq none .nil .nil) .nil))) (.seq none .nil (.seq none (.seq none .nil (.one (.loop ⟨[3, 5, 25, 26], [(27, (.b (.int .i64)))]⟩ (.seq none .nil (.seq none (.cond .nil .nil) (.seq none (.one (.seq none .nil (.seq none .nil (.seq (some ⟨[3, 5, 6, 7, 8, 9, 25, 26, 27], [(10, (.b (.int .i64)))]⟩) (.seq none .nil (.cond .nil .nil)) (.seq none (.seq none .nil (.cond (.seq none .nil .nil) .nil)) (.seq (some ⟨[3, 5, 7, 25, 26, 27], []⟩) (.seq none .nil (.cond (.seq none .nil .nil) .nil)) .nil)))))) .nil)))))) (.seq none .nil .nil)))))
def L_types_New (p0 : (Int × Int × Sl × Unit)) (R : Value → World → Prop) (w : World) : Prop :=
 Nw (w.alloc (.cells #[(.int .u32 p0.1), (.int .u32 p0.2.1), (.slice p0.2.2.1.a p0.2.2.1.l p0.2.2.1.c)] 25)) fun w1 =>
 Nw (w1.alloc (.cells #[(.int .i64 (0 : Int)), (.int .i64 (0 : Int))] 44)) fun w2 =>
 ldI w2 ((blk w.heap.size).add 0) .u32 fun x1 =>
 ldI w2 ((blk w.heap.size).add 1) .u32 fun x2 =>
 ldS w2 ((blk w.heap.size).add 2) fun x3 =>
 callR Tryz.prog 84 #[(.agg #[(.int .u32 x1), (.int .u32 x2), (.slice x3.a x3.l x3.c)])] w2 fun v4 w3 =>
 ∃ x5 : (Int × Int × Unit), v4 = (.agg #[(.int .i64 x5.1), (.int .i64 x5.2.1)]) ∧
 Nw (w3.alloc (.cells #[(.int .i64 (0 : Int)), (.int .i64 (0 : Int))] 44)) fun w4 =>
 Wr w4 (blk w3.heap.size) ∧
 Nw (w4.setCell (blk w3.heap.size) (.int .i64 x5.1)) fun w5 =>
 Wr w5 ((blk w3.heap.size).add 1) ∧
 Nw (w5.setCell ((blk w3.heap.size).add 1) (.int .i64 x5.2.1)) fun w6 =>
 ldI w6 (blk w3.heap.size) .i64 fun x6 =>
 ifB (x6 != (0 : Int))
 (ldI w6.drew ((blk w3.heap.size).add 0) .i64 fun x7 =>
 ldI w6.drew ((blk w3.heap.size).add 1) .i64 fun x8 =>
 Wr w6.drew (blk w1.heap.size) ∧
 Nw (w6.drew.setCell (blk w1.heap.size) (.int .i64 x7)) fun w7 =>
 Wr w7 ((blk w1.heap.size).add 1) ∧
 Nw (w7.setCell ((blk w1.heap.size).add 1) (.int .i64 x8)) fun w8 =>
 ldI w8 ((blk w1.heap.size).add 0) .i64 fun x9 =>
 ldI w8 ((blk w1.heap.size).add 1) .i64 fun x10 =>
 R (.tuple #[(.pointer none), (.agg #[(.int .i64 x9), (.int .i64 x10)])]) w8)
 (Nw (w6.alloc (.map #[] 0)) fun w9 =>
 Nw (w9.alloc (.cells #[(.map (some w6.heap.size)), (.slice none 0 0)] 182)) fun w10 =>
 Nw (w10.alloc (.map #[] 0)) fun w11 =>
 Nw (w11.alloc (.map #[] 0)) fun w12 =>
 Nw (w12.alloc (.cells #[(.pointer (some (blk w9.heap.size))), (.map (some w10.heap.size)), (.map (some w11.heap.size))] 186)) fun w13 =>
 ldS w13 ((blk w.heap.size).add 2) fun x11 =>
 LoopW (S := Int × Unit) (fun s12 w14 n13 =>
 ifB (decide (s12.1 < (x11.l : Int)))
 ((0 ≤ s12.1 ∧ s12.1 < (x11.l : Int)) ∧
 derefP x11.a fun a14 =>
 ldI w14 ((a14.add ((Int.toNat s12.1) * 4)).add 0) .u16 fun x15 =>
 ldI w14 ((a14.add ((Int.toNat s12.1) * 4)).add 1) .u32 fun x16 =>
 ldI w14 ((a14.add ((Int.toNat s12.1) * 4)).add 2) .u32 fun x17 =>
 ldS w14 ((a14.add ((Int.toNat s12.1) * 4)).add 3) fun x18 =>
 Nw (w14.alloc (.cells #[(.int .u16 (0 : Int)), (.int .u32 (0 : Int)), (.int .u32 (0 : Int)), (.slice none 0 0)] 52)) fun w15 =>
 Wr w15 (blk w14.heap.size) ∧
 Nw (w15.setCell (blk w14.heap.size) (.int .u16 x15)) fun w16 =>
 Wr w16 ((blk w14.heap.size).add 1) ∧
 Nw (w16.setCell ((blk w14.heap.size).add 1) (.int .u32 x16)) fun w17 =>
 Wr w17 ((blk w14.heap.size).add 2) ∧
 Nw (w17.setCell ((blk w14.heap.size).add 2) (.int .u32 x17)) fun w18 =>
 Wr w18 ((blk w14.heap.size).add 3) ∧
 Nw (w18.setCell ((blk w14.heap.size).add 3) (.slice x18.a x18.l x18.c)) fun w19 =>
 ldI w19 ((blk w14.heap.size).add 0) .u16 fun x19 =>
 ldI w19 ((blk w14.heap.size).add 1) .u32 fun x20 =>
 ldI w19 ((blk w14.heap.size).add 2) .u32 fun x21 =>
 ldS w19 ((blk w14.heap.size).add 3) fun x22 =>
 callR Tryz.prog 100 #[(.pointer (some (blk w12.heap.size))), (.agg #[(.int .u16 x19), (.int .u32 x20), (.int .u32 x21), (.slice x22.a x22.l x22.c)])] w19 fun v23 w20 =>
 ∃ x24 : (Int × Int × Int × Bool × Int × Int × Int × Sl × Unit), ∃ x25 : Bool, ∃ x26 : Int, v23 = (.tuple #[(.agg #[(.int .u8 x24.1), (.int .i64 x24.2.1), (.int .i64 x24.2.2.1), (.bool x24.2.2.2.1), (.int .u32 x24.2.2.2.2.1), (.int .u32 x24.2.2.2.2.2.1), (.int .i64 x24.2.2.2.2.2.2.1), (.slice x24.2.2.2.2.2.2.2.1.a x24.2.2.2.2.2.2.2.1.l x24.2.2.2.2.2.2.2.1.c)]), (.bool x25), (.int .i64 x26)]) ∧
 Nw (w20.alloc (.cells #[(.int .u8 (0 : Int)), (.int .i64 (0 : Int)), (.int .i64 (0 : Int)), (.bool false), (.int .u32 (0 : Int)), (.int .u32 (0 : Int)), (.int .i64 (0 : Int)), (.slice none 0 0)] 127)) fun w21 =>
 Wr w21 (blk w20.heap.size) ∧
 Nw (w21.setCell (blk w20.heap.size) (.int .u8 x24.1)) fun w22 =>
 Wr w22 ((blk w20.heap.size).add 1) ∧
 Nw (w22.setCell ((blk w20.heap.size).add 1) (.int .i64 x24.2.1)) fun w23 =>
 Wr w23 ((blk w20.heap.size).add 2) ∧
 Nw (w23.setCell ((blk w20.heap.size).add 2) (.int .i64 x24.2.2.1)) fun w24 =>
 Wr w24 ((blk w20.heap.size).add 3) ∧
 Nw (w24.setCell ((blk w20.heap.size).add 3) (.bool x24.2.2.2.1)) fun w25 =>
 Wr w25 ((blk w20.heap.size).add 4) ∧
 Nw (w25.setCell ((blk w20.heap.size).add 4) (.int .u32 x24.2.2.2.2.1)) fun w26 =>
 Wr w26 ((blk w20.heap.size).add 5) ∧
 Nw (w26.setCell ((blk w20.heap.size).add 5) (.int .u32 x24.2.2.2.2.2.1)) fun w27 =>
 Wr w27 ((blk w20.heap.size).add 6) ∧
 Nw (w27.setCell ((blk w20.heap.size).add 6) (.int .i64 x24.2.2.2.2.2.2.1)) fun w28 =>
 Wr w28 ((blk w20.heap.size).add 7) ∧
 Nw (w28.setCell ((blk w20.heap.size).add 7) (.slice x24.2.2.2.2.2.2.2.1.a x24.2.2.2.2.2.2.2.1.l x24.2.2.2.2.2.2.2.1.c)) fun w29 =>
 JoinW (S := Int × Unit) (fun m27 =>
 ifB x25
 (ifB (x26 == (0 : Int))
 (ldI w29 ((blk w14.heap.size).add 0) .u16 fun x29 =>
 ldI w29 ((blk w14.heap.size).add 1) .u32 fun x30 =>
 ldI w29 ((blk w14.heap.size).add 2) .u32 fun x31 =>
 ldS w29 ((blk w14.heap.size).add 3) fun x32 =>
 callR Tryz.prog 101 #[(.pointer (some (blk w12.heap.size))), (.agg #[(.int .u16 x29), (.int .u32 x30), (.int .u32 x31), (.slice x32.a x32.l x32.c)])] w29 fun v33 w30 =>
 ∃ x34 : Bool, v33 = (.bool x34) ∧
 ifB x34
 (m27 ((101 : Int), ()) w30)
 (m27 (x26, ()) w30))
 (m27 (x26, ()) w29))
 (m27 (x26, ()) w29))
 (fun s28 w31 =>
 ifB (s28.1 != (0 : Int))
 (Wr w31 (blk w1.heap.size) ∧
 Nw (w31.setCell (blk w1.heap.size) (.int .i64 s28.1)) fun w32 =>
 Wr w32 ((blk w1.heap.size).add 1) ∧
 Nw (w32.setCell ((blk w1.heap.size).add 1) (.int .i64 s12.1)) fun w33 =>
 ldI w33 ((blk w1.heap.size).add 0) .i64 fun x35 =>
 ldI w33 ((blk w1.heap.size).add 1) .i64 fun x36 =>
 R (.tuple #[(.pointer none), (.agg #[(.int .i64 x35), (.int .i64 x36)])]) w33)
 (JoinW (S := Unit) (fun m37 =>
 ifB x25
 (ldP w31.drew (blk w12.heap.size) fun x39 =>
 derefP x39 fun a40 =>
 ldM w31.drew a40 fun x41 =>
 ldI w31.drew ((blk w14.heap.size).add 2) .u32 fun x42 =>
 ldI w31.drew ((blk w20.heap.size).add 0) .u8 fun x43 =>
 ldI w31.drew ((blk w20.heap.size).add 1) .i64 fun x44 =>
 ldI w31.drew ((blk w20.heap.size).add 2) .i64 fun x45 =>
 ldB w31.drew ((blk w20.heap.size).add 3) fun x46 =>
 ldI w31.drew ((blk w20.heap.size).add 4) .u32 fun x47 =>
 ldI w31.drew ((blk w20.heap.size).add 5) .u32 fun x48 =>
 ldI w31.drew ((blk w20.heap.size).add 6) .i64 fun x49 =>
 ldS w31.drew ((blk w20.heap.size).add 7) fun x50 =>
 updW Tryz.prog 180 (.map x41) (.int .u32 x42) (.agg #[(.int .u8 x43), (.int .i64 x44), (.int .i64 x45), (.bool x46), (.int .u32 x47), (.int .u32 x48), (.int .i64 x49), (.slice x50.a x50.l x50.c)]) w31.drew fun w34 =>
 ldP w34.drew (blk w12.heap.size) fun x51 =>
 ldP w34.drew (blk w12.heap.size) fun x52 =>
 derefP x52 fun a53 =>
 ldS w34.drew (a53.add 1) fun x54 =>
 ldI w34.drew ((blk w14.heap.size).add 2) .u32 fun x55 =>
 Nw (w34.drew.alloc (.cells #[(.int .u32 x55)] 22)) fun w35 =>
 w35.cell? (a53.add 1) = some (.slice x54.a x54.l x54.c) ∧
 w35.cell? (blk w12.heap.size) = some (.pointer x52) ∧
 w35.cell? (blk w12.heap.size) = some (.pointer x51) ∧
 appendS Tryz.prog 30 (.slice x54.a x54.l x54.c) (.slice (some (blk w34.drew.heap.size)) 1 1) w35 fun r56 w36 =>
 w36.cell? (blk w12.heap.size) = some (.pointer x51) ∧
 derefP x51 fun a57 =>
 Wr w36 (a57.add 1) ∧
 Nw (w36.setCell (a57.add 1) (.slice r56.a r56.l r56.c)) fun w37 =>
 m37 (()) w37)
 (m37 (()) w31))
 (fun s38 w38 =>
 ldM w38.drew ((blk w12.heap.size).add 1) fun x58 =>
 ldI w38.drew ((blk w14.heap.size).add 2) .u32 fun x59 =>
 ldI w38.drew ((blk w14.heap.size).add 0) .u16 fun x60 =>
 ldI w38.drew ((blk w14.heap.size).add 1) .u32 fun x61 =>
 ldI w38.drew ((blk w14.heap.size).add 2) .u32 fun x62 =>
 ldS w38.drew ((blk w14.heap.size).add 3) fun x63 =>
 updW Tryz.prog 183 (.map x58) (.int .u32 x59) (.agg #[(.int .u16 x60), (.int .u32 x61), (.int .u32 x62), (.slice x63.a x63.l x63.c)]) w38.drew fun w39 =>
 n13 ((IntKind.i64.wrap (s12.1 + (1 : Int))), ()) w39))))
 (ldP w14 (blk w12.heap.size) fun x64 =>
 Wr w14 (blk w1.heap.size) ∧
 Nw (w14.setCell (blk w1.heap.size) (.int .i64 (0 : Int))) fun w40 =>
 Wr w40 ((blk w1.heap.size).add 1) ∧
 Nw (w40.setCell ((blk w1.heap.size).add 1) (.int .i64 (0 : Int))) fun w41 =>
 ldI w41 ((blk w1.heap.size).add 0) .i64 fun x65 =>
 ldI w41 ((blk w1.heap.size).add 1) .i64 fun x66 =>
 R (.tuple #[(.pointer x64), (.agg #[(.int .i64 x65), (.int .i64 x66)])]) w41))
 ((0 : Int), ()) w13)
theorem types_New_calls (p0 : (Int × Int × Sl × Unit)) (R : Value → World → Prop) (w : World) (h : L_types_New p0 R w) : Calls Tryz.prog 63 #[(.agg #[(.int .u32 p0.1), (.int .u32 p0.2.1), (.slice p0.2.2.1.a p0.2.2.1.l p0.2.2.1.c)])] w (Ret R) :=
 lw_calls (fs := Tryz.fs) (an := a_types_New) (args := [(.agg #[(.int .u32 p0.1), (.int .u32 p0.2.1), (.slice p0.2.2.1.a p0.2.2.1.l p0.2.2.1.c)])]) Tryz.fsOK Tryz.mixed Tryz.func63 (by kernel_rfl) (by kernel_rfl)
 (Eq.mpr (by kernel_rfl : lwFn Tryz.prog Tryz.fs Tryz.f63 a_types_New [(.agg #[(.int .u32 p0.1), (.int .u32 p0.2.1), (.slice p0.2.2.1.a p0.2.2.1.l p0.2.2.1.c)])] w R = L_types_New p0 R w) h)

/-- (*intaglio.types.Table).at -/
def a_types_Table_at : Ann := (.seq none .nil (.seq none (.seq none .nil (.cond (.seq none .nil .nil) .nil)) (.seq none .nil .nil)))
def L_types_Table_at (p0 : Option Addr) (p1 : Int) (R : Value → World → Prop) (w : World) : Prop :=
 Nw (w.alloc (.cells #[(.int .u8 (0 : Int)), (.int .i64 (0 : Int)), (.int .i64 (0 : Int)), (.bool false), (.int .u32 (0 : Int)), (.int .u32 (0 : Int)), (.int .i64 (0 : Int)), (.slice none 0 0)] 127)) fun w1 =>
 ifB (Option.isNone p0)
 (Wr w1 (blk w.heap.size) ∧
 Nw (w1.setCell (blk w.heap.size) (.int .u8 (0 : Int))) fun w2 =>
 Wr w2 ((blk w.heap.size).add 1) ∧
 Nw (w2.setCell ((blk w.heap.size).add 1) (.int .i64 (0 : Int))) fun w3 =>
 Wr w3 ((blk w.heap.size).add 2) ∧
 Nw (w3.setCell ((blk w.heap.size).add 2) (.int .i64 (0 : Int))) fun w4 =>
 Wr w4 ((blk w.heap.size).add 3) ∧
 Nw (w4.setCell ((blk w.heap.size).add 3) (.bool false)) fun w5 =>
 Wr w5 ((blk w.heap.size).add 4) ∧
 Nw (w5.setCell ((blk w.heap.size).add 4) (.int .u32 (0 : Int))) fun w6 =>
 Wr w6 ((blk w.heap.size).add 5) ∧
 Nw (w6.setCell ((blk w.heap.size).add 5) (.int .u32 (0 : Int))) fun w7 =>
 Wr w7 ((blk w.heap.size).add 6) ∧
 Nw (w7.setCell ((blk w.heap.size).add 6) (.int .i64 (0 : Int))) fun w8 =>
 Wr w8 ((blk w.heap.size).add 7) ∧
 Nw (w8.setCell ((blk w.heap.size).add 7) (.slice none 0 0)) fun w9 =>
 ldI w9 ((blk w.heap.size).add 0) .u8 fun x1 =>
 ldI w9 ((blk w.heap.size).add 1) .i64 fun x2 =>
 ldI w9 ((blk w.heap.size).add 2) .i64 fun x3 =>
 ldB w9 ((blk w.heap.size).add 3) fun x4 =>
 ldI w9 ((blk w.heap.size).add 4) .u32 fun x5 =>
 ldI w9 ((blk w.heap.size).add 5) .u32 fun x6 =>
 ldI w9 ((blk w.heap.size).add 6) .i64 fun x7 =>
 ldS w9 ((blk w.heap.size).add 7) fun x8 =>
 R (.agg #[(.int .u8 x1), (.int .i64 x2), (.int .i64 x3), (.bool x4), (.int .u32 x5), (.int .u32 x6), (.int .i64 x7), (.slice x8.a x8.l x8.c)]) w9)
 (derefP p0 fun a9 =>
 ldM w1 a9 fun x10 =>
 lookVK Tryz.prog 180 (.map x10) (.int .u32 p1) [(.int .u8), (.int .i64), (.int .i64), .bool, (.int .u32), (.int .u32), (.int .i64), .slice] w1 fun (x11 : (Int × Int × Int × Bool × Int × Int × Int × Sl × Unit)) =>
 Wr w1 (blk w.heap.size) ∧
 Nw (w1.setCell (blk w.heap.size) (.int .u8 x11.1)) fun w10 =>
 Wr w10 ((blk w.heap.size).add 1) ∧
 Nw (w10.setCell ((blk w.heap.size).add 1) (.int .i64 x11.2.1)) fun w11 =>
 Wr w11 ((blk w.heap.size).add 2) ∧
 Nw (w11.setCell ((blk w.heap.size).add 2) (.int .i64 x11.2.2.1)) fun w12 =>
 Wr w12 ((blk w.heap.size).add 3) ∧
 Nw (w12.setCell ((blk w.heap.size).add 3) (.bool x11.2.2.2.1)) fun w13 =>
 Wr w13 ((blk w.heap.size).add 4) ∧
 Nw (w13.setCell ((blk w.heap.size).add 4) (.int .u32 x11.2.2.2.2.1)) fun w14 =>
 Wr w14 ((blk w.heap.size).add 5) ∧
 Nw (w14.setCell ((blk w.heap.size).add 5) (.int .u32 x11.2.2.2.2.2.1)) fun w15 =>
 Wr w15 ((blk w.heap.size).add 6) ∧
 Nw (w15.setCell ((blk w.heap.size).add 6) (.int .i64 x11.2.2.2.2.2.2.1)) fun w16 =>
 Wr w16 ((blk w.heap.size).add 7) ∧
 Nw (w16.setCell ((blk w.heap.size).add 7) (.slice x11.2.2.2.2.2.2.2.1.a x11.2.2.2.2.2.2.2.1.l x11.2.2.2.2.2.2.2.1.c)) fun w17 =>
 ldI w17 ((blk w.heap.size).add 0) .u8 fun x12 =>
 ldI w17 ((blk w.heap.size).add 1) .i64 fun x13 =>
 ldI w17 ((blk w.heap.size).add 2) .i64 fun x14 =>
 ldB w17 ((blk w.heap.size).add 3) fun x15 =>
 ldI w17 ((blk w.heap.size).add 4) .u32 fun x16 =>
 ldI w17 ((blk w.heap.size).add 5) .u32 fun x17 =>
 ldI w17 ((blk w.heap.size).add 6) .i64 fun x18 =>
 ldS w17 ((blk w.heap.size).add 7) fun x19 =>
 R (.agg #[(.int .u8 x12), (.int .i64 x13), (.int .i64 x14), (.bool x15), (.int .u32 x16), (.int .u32 x17), (.int .i64 x18), (.slice x19.a x19.l x19.c)]) w17)
theorem types_Table_at_calls (p0 : Option Addr) (p1 : Int) (R : Value → World → Prop) (w : World) (h : L_types_Table_at p0 p1 R w) : Calls Tryz.prog 69 #[(.pointer p0), (.int .u32 p1)] w (Ret R) :=
 lw_calls (fs := Tryz.fs) (an := a_types_Table_at) (args := [(.pointer p0), (.int .u32 p1)]) Tryz.fsOK Tryz.mixed Tryz.func69 (by kernel_rfl) (by kernel_rfl)
 (Eq.mpr (by kernel_rfl : lwFn Tryz.prog Tryz.fs Tryz.f69 a_types_Table_at [(.pointer p0), (.int .u32 p1)] w R = L_types_Table_at p0 p1 R w) h)

/-- (*intaglio.types.maker).one -/
def a_types_maker_one : Ann := (.seq none .nil (.seq none .nil (.seq none (.seq none .nil (.one (.loop ⟨[0, 3, 4, 13, 14], [(7, (.b .slice)), (15, (.b (.int .i64)))]⟩ (.seq none .nil (.seq none (.cond .nil .nil) (.seq none (.one (.seq none .nil .nil)) .nil)))))) (.seq none .nil (.seq none .nil (.seq (some ⟨[4, 10], [(11, (.b (.int .i64)))]⟩) (.seq none .nil (.one (.seq none .nil (.cond .nil (.seq none .nil (.cond .nil (.seq none .nil (.cond (.seq (some ⟨[4, 7, 10], [(11, (.b (.int .i64)))]⟩) (.seq none .nil (.cond .nil .nil)) .nil) (.seq none .nil (.cond .nil (.seq none .nil (.cond .nil (.seq none .nil (.cond .nil (.seq none .nil (.cond (.seq (some ⟨[4, 7, 10], [(11, (.b (.int .i64)))]⟩) (.seq none .nil (.cond .nil .nil)) .nil) (.seq none .nil (.cond .nil (.seq none .nil .nil))))))))))))))))))) (.seq none .nil .nil)))))))
def L_types_maker_one (p0 : Option Addr) (p1 : (Int × Int × Int × Sl × Unit)) (R : Value → World → Prop) (w : World) : Prop :=
 Nw (w.alloc (.cells #[(.int .u16 p1.1), (.int .u32 p1.2.1), (.int .u32 p1.2.2.1), (.slice p1.2.2.2.1.a p1.2.2.2.1.l p1.2.2.2.1.c)] 52)) fun w1 =>
 Nw (w1.alloc (.cells #[(.int .u8 (0 : Int)), (.int .i64 (0 : Int)), (.int .i64 (0 : Int)), (.bool false), (.int .u32 (0 : Int)), (.int .u32 (0 : Int)), (.int .i64 (0 : Int)), (.slice none 0 0)] 127)) fun w2 =>
 ldS w2 ((blk w.heap.size).add 3) fun x1 =>
 LoopW (S := Sl × Int × Unit) (fun s2 w3 n3 =>
 ifB (decide (s2.2.1 < (x1.l : Int)))
 ((0 ≤ s2.2.1 ∧ s2.2.1 < (x1.l : Int)) ∧
 derefP x1.a fun a4 =>
 ldI w3 ((a4.add ((Int.toNat s2.2.1) * 3)).add 0) .u8 fun x5 =>
 ldI w3 ((a4.add ((Int.toNat s2.2.1) * 3)).add 1) .u32 fun x6 =>
 ldStr w3 ((a4.add ((Int.toNat s2.2.1) * 3)).add 2) fun x7 =>
 Nw (w3.alloc (.cells #[(.int .u8 (0 : Int)), (.int .u32 (0 : Int)), (.string (ByteArray.mk #[]))] 55)) fun w4 =>
 Wr w4 (blk w3.heap.size) ∧
 Nw (w4.setCell (blk w3.heap.size) (.int .u8 x5)) fun w5 =>
 Wr w5 ((blk w3.heap.size).add 1) ∧
 Nw (w5.setCell ((blk w3.heap.size).add 1) (.int .u32 x6)) fun w6 =>
 Wr w6 ((blk w3.heap.size).add 2) ∧
 Nw (w6.setCell ((blk w3.heap.size).add 2) (.string x7)) fun w7 =>
 ldI w7 ((blk w3.heap.size).add 1) .u32 fun x8 =>
 Nw (w7.alloc (.cells #[(.int .u32 x8)] 22)) fun w8 =>
 appendS Tryz.prog 30 (.slice s2.1.a s2.1.l s2.1.c) (.slice (some (blk w7.heap.size)) 1 1) w8 fun r9 w9 =>
 n3 (r9, (IntKind.i64.wrap (s2.2.1 + (1 : Int))), ()) w9)
 (Nw (w3.alloc (.cells #[(.int .u8 (0 : Int)), (.int .i64 (0 : Int)), (.int .i64 (0 : Int)), (.bool false), (.int .u32 (0 : Int)), (.int .u32 (0 : Int)), (.int .i64 (0 : Int)), (.slice none 0 0)] 127)) fun w10 =>
 JoinW (S := Int × Unit) (fun m10 =>
 ldI w10 (blk w.heap.size) .u16 fun x12 =>
 ifB (x12 == (19 : Int))
 (Wr w10 (blk w3.heap.size) ∧
 Nw (w10.setCell (blk w3.heap.size) (.int .u8 (1 : Int))) fun w11 =>
 m10 ((0 : Int), ()) w11)
 (ifB (x12 == (20 : Int))
 (Wr w10 (blk w3.heap.size) ∧
 Nw (w10.setCell (blk w3.heap.size) (.int .u8 (2 : Int))) fun w12 =>
 Wr w12 ((blk w3.heap.size).add 1) ∧
 Nw (w12.setCell ((blk w3.heap.size).add 1) (.int .i64 (1 : Int))) fun w13 =>
 Wr w13 ((blk w3.heap.size).add 2) ∧
 Nw (w13.setCell ((blk w3.heap.size).add 2) (.int .i64 (1 : Int))) fun w14 =>
 m10 ((0 : Int), ()) w14)
 (ifB (x12 == (21 : Int))
 (JoinW (S := Int × Unit) (fun m13 =>
 (0 ≤ (0 : Int) ∧ (0 : Int) < (s2.1.l : Int)) ∧
 derefP s2.1.a fun a15 =>
 ldI w10 (a15.add 0) .u32 fun x16 =>
 ifB (x16 != (32 : Int))
 (m13 ((102 : Int), ()) w10)
 ((0 ≤ (1 : Int) ∧ (1 : Int) < (s2.1.l : Int)) ∧
 derefP s2.1.a fun a17 =>
 ldI w10 (a17.add 1) .u32 fun x18 =>
 ifB (decide (x18 > (1 : Int)))
 (m13 ((102 : Int), ()) w10)
 (m13 ((0 : Int), ()) w10)))
 (fun s14 w15 =>
 (0 ≤ (1 : Int) ∧ (1 : Int) < (s2.1.l : Int)) ∧
 derefP s2.1.a fun a19 =>
 ldI w15 (a19.add 1) .u32 fun x20 =>
 Wr w15 (blk w3.heap.size) ∧
 Nw (w15.setCell (blk w3.heap.size) (.int .u8 (3 : Int))) fun w16 =>
 Wr w16 ((blk w3.heap.size).add 1) ∧
 Nw (w16.setCell ((blk w3.heap.size).add 1) (.int .i64 (1 : Int))) fun w17 =>
 Wr w17 ((blk w3.heap.size).add 2) ∧
 Nw (w17.setCell ((blk w3.heap.size).add 2) (.int .i64 (1 : Int))) fun w18 =>
 Wr w18 ((blk w3.heap.size).add 3) ∧
 Nw (w18.setCell ((blk w3.heap.size).add 3) (.bool (x20 == (1 : Int)))) fun w19 =>
 Wr w19 ((blk w3.heap.size).add 4) ∧
 Nw (w19.setCell ((blk w3.heap.size).add 4) (.int .u32 (0 : Int))) fun w20 =>
 Wr w20 ((blk w3.heap.size).add 5) ∧
 Nw (w20.setCell ((blk w3.heap.size).add 5) (.int .u32 (0 : Int))) fun w21 =>
 Wr w21 ((blk w3.heap.size).add 6) ∧
 Nw (w21.setCell ((blk w3.heap.size).add 6) (.int .i64 (0 : Int))) fun w22 =>
 Wr w22 ((blk w3.heap.size).add 7) ∧
 Nw (w22.setCell ((blk w3.heap.size).add 7) (.slice none 0 0)) fun w23 =>
 m10 (s14.1, ()) w23))
 (ifB (x12 == (23 : Int))
 (derefP p0 fun a21 =>
 ldP w10.drew a21 fun x22 =>
 (0 ≤ (0 : Int) ∧ (0 : Int) < (s2.1.l : Int)) ∧
 derefP s2.1.a fun a23 =>
 ldI w10.drew (a23.add 0) .u32 fun x24 =>
 (0 ≤ (1 : Int) ∧ (1 : Int) < (s2.1.l : Int)) ∧
 derefP s2.1.a fun a25 =>
 ldI w10.drew (a25.add 1) .u32 fun x26 =>
 callR Tryz.prog 139 #[(.pointer x22), (.int .u32 x24), (.int .u32 x26)] w10.drew fun v27 w24 =>
 ∃ x28 : (Int × Int × Int × Bool × Int × Int × Int × Sl × Unit), ∃ x29 : Int, v27 = (.tuple #[(.agg #[(.int .u8 x28.1), (.int .i64 x28.2.1), (.int .i64 x28.2.2.1), (.bool x28.2.2.2.1), (.int .u32 x28.2.2.2.2.1), (.int .u32 x28.2.2.2.2.2.1), (.int .i64 x28.2.2.2.2.2.2.1), (.slice x28.2.2.2.2.2.2.2.1.a x28.2.2.2.2.2.2.2.1.l x28.2.2.2.2.2.2.2.1.c)]), (.int .i64 x29)]) ∧
 Wr w24 (blk w3.heap.size) ∧
 Nw (w24.setCell (blk w3.heap.size) (.int .u8 x28.1)) fun w25 =>
 Wr w25 ((blk w3.heap.size).add 1) ∧
 Nw (w25.setCell ((blk w3.heap.size).add 1) (.int .i64 x28.2.1)) fun w26 =>
 Wr w26 ((blk w3.heap.size).add 2) ∧
 Nw (w26.setCell ((blk w3.heap.size).add 2) (.int .i64 x28.2.2.1)) fun w27 =>
 Wr w27 ((blk w3.heap.size).add 3) ∧
 Nw (w27.setCell ((blk w3.heap.size).add 3) (.bool x28.2.2.2.1)) fun w28 =>
 Wr w28 ((blk w3.heap.size).add 4) ∧
 Nw (w28.setCell ((blk w3.heap.size).add 4) (.int .u32 x28.2.2.2.2.1)) fun w29 =>
 Wr w29 ((blk w3.heap.size).add 5) ∧
 Nw (w29.setCell ((blk w3.heap.size).add 5) (.int .u32 x28.2.2.2.2.2.1)) fun w30 =>
 Wr w30 ((blk w3.heap.size).add 6) ∧
 Nw (w30.setCell ((blk w3.heap.size).add 6) (.int .i64 x28.2.2.2.2.2.2.1)) fun w31 =>
 Wr w31 ((blk w3.heap.size).add 7) ∧
 Nw (w31.setCell ((blk w3.heap.size).add 7) (.slice x28.2.2.2.2.2.2.2.1.a x28.2.2.2.2.2.2.2.1.l x28.2.2.2.2.2.2.2.1.c)) fun w32 =>
 m10 (x29, ()) w32)
 (ifB (x12 == (28 : Int))
 ((0 ≤ (0 : Int) ∧ (0 : Int) < (s2.1.l : Int)) ∧
 derefP s2.1.a fun a30 =>
 ldI w10.drew (a30.add 0) .u32 fun x31 =>
 (0 ≤ (1 : Int) ∧ (1 : Int) < (s2.1.l : Int)) ∧
 derefP s2.1.a fun a32 =>
 ldI w10.drew (a32.add 1) .u32 fun x33 =>
 callR Tryz.prog 140 #[(.pointer p0), (.int .u32 x31), (.int .u32 x33)] w10.drew fun v34 w33 =>
 ∃ x35 : (Int × Int × Int × Bool × Int × Int × Int × Sl × Unit), ∃ x36 : Int, v34 = (.tuple #[(.agg #[(.int .u8 x35.1), (.int .i64 x35.2.1), (.int .i64 x35.2.2.1), (.bool x35.2.2.2.1), (.int .u32 x35.2.2.2.2.1), (.int .u32 x35.2.2.2.2.2.1), (.int .i64 x35.2.2.2.2.2.2.1), (.slice x35.2.2.2.2.2.2.2.1.a x35.2.2.2.2.2.2.2.1.l x35.2.2.2.2.2.2.2.1.c)]), (.int .i64 x36)]) ∧
 Wr w33 (blk w3.heap.size) ∧
 Nw (w33.setCell (blk w3.heap.size) (.int .u8 x35.1)) fun w34 =>
 Wr w34 ((blk w3.heap.size).add 1) ∧
 Nw (w34.setCell ((blk w3.heap.size).add 1) (.int .i64 x35.2.1)) fun w35 =>
 Wr w35 ((blk w3.heap.size).add 2) ∧
 Nw (w35.setCell ((blk w3.heap.size).add 2) (.int .i64 x35.2.2.1)) fun w36 =>
 Wr w36 ((blk w3.heap.size).add 3) ∧
 Nw (w36.setCell ((blk w3.heap.size).add 3) (.bool x35.2.2.2.1)) fun w37 =>
 Wr w37 ((blk w3.heap.size).add 4) ∧
 Nw (w37.setCell ((blk w3.heap.size).add 4) (.int .u32 x35.2.2.2.2.1)) fun w38 =>
 Wr w38 ((blk w3.heap.size).add 5) ∧
 Nw (w38.setCell ((blk w3.heap.size).add 5) (.int .u32 x35.2.2.2.2.2.1)) fun w39 =>
 Wr w39 ((blk w3.heap.size).add 6) ∧
 Nw (w39.setCell ((blk w3.heap.size).add 6) (.int .i64 x35.2.2.2.2.2.2.1)) fun w40 =>
 Wr w40 ((blk w3.heap.size).add 7) ∧
 Nw (w40.setCell ((blk w3.heap.size).add 7) (.slice x35.2.2.2.2.2.2.2.1.a x35.2.2.2.2.2.2.2.1.l x35.2.2.2.2.2.2.2.1.c)) fun w41 =>
 m10 (x36, ()) w41)
 (ifB (x12 == (30 : Int))
 (derefP p0 fun a37 =>
 ldP w10 a37 fun x38 =>
 callR Tryz.prog 141 #[(.pointer x38), (.slice s2.1.a s2.1.l s2.1.c)] w10 fun v39 w42 =>
 ∃ x40 : (Int × Int × Int × Bool × Int × Int × Int × Sl × Unit), ∃ x41 : Int, v39 = (.tuple #[(.agg #[(.int .u8 x40.1), (.int .i64 x40.2.1), (.int .i64 x40.2.2.1), (.bool x40.2.2.2.1), (.int .u32 x40.2.2.2.2.1), (.int .u32 x40.2.2.2.2.2.1), (.int .i64 x40.2.2.2.2.2.2.1), (.slice x40.2.2.2.2.2.2.2.1.a x40.2.2.2.2.2.2.2.1.l x40.2.2.2.2.2.2.2.1.c)]), (.int .i64 x41)]) ∧
 Wr w42 (blk w3.heap.size) ∧
 Nw (w42.setCell (blk w3.heap.size) (.int .u8 x40.1)) fun w43 =>
 Wr w43 ((blk w3.heap.size).add 1) ∧
 Nw (w43.setCell ((blk w3.heap.size).add 1) (.int .i64 x40.2.1)) fun w44 =>
 Wr w44 ((blk w3.heap.size).add 2) ∧
 Nw (w44.setCell ((blk w3.heap.size).add 2) (.int .i64 x40.2.2.1)) fun w45 =>
 Wr w45 ((blk w3.heap.size).add 3) ∧
 Nw (w45.setCell ((blk w3.heap.size).add 3) (.bool x40.2.2.2.1)) fun w46 =>
 Wr w46 ((blk w3.heap.size).add 4) ∧
 Nw (w46.setCell ((blk w3.heap.size).add 4) (.int .u32 x40.2.2.2.2.1)) fun w47 =>
 Wr w47 ((blk w3.heap.size).add 5) ∧
 Nw (w47.setCell ((blk w3.heap.size).add 5) (.int .u32 x40.2.2.2.2.2.1)) fun w48 =>
 Wr w48 ((blk w3.heap.size).add 6) ∧
 Nw (w48.setCell ((blk w3.heap.size).add 6) (.int .i64 x40.2.2.2.2.2.2.1)) fun w49 =>
 Wr w49 ((blk w3.heap.size).add 7) ∧
 Nw (w49.setCell ((blk w3.heap.size).add 7) (.slice x40.2.2.2.2.2.2.2.1.a x40.2.2.2.2.2.2.2.1.l x40.2.2.2.2.2.2.2.1.c)) fun w50 =>
 m10 (x41, ()) w50)
 (ifB (x12 == (32 : Int))
 (JoinW (S := Int × Unit) (fun m42 =>
 derefP p0 fun a44 =>
 ldP w10.drew a44 fun x45 =>
 (0 ≤ (1 : Int) ∧ (1 : Int) < (s2.1.l : Int)) ∧
 derefP s2.1.a fun a46 =>
 ldI w10.drew (a46.add 1) .u32 fun x47 =>
 callR Tryz.prog 142 #[(.pointer x45), (.int .u32 x47)] w10.drew fun v48 w51 =>
 ∃ x49 : Bool, v48 = (.bool x49) ∧
 ifB (!x49)
 (m42 ((100 : Int), ()) w51)
 (m42 ((0 : Int), ()) w51))
 (fun s43 w52 =>
 (0 ≤ (0 : Int) ∧ (0 : Int) < (s2.1.l : Int)) ∧
 derefP s2.1.a fun a50 =>
 ldI w52.drew (a50.add 0) .u32 fun x51 =>
 (0 ≤ (1 : Int) ∧ (1 : Int) ≤ (s2.1.l : Int) ∧ (s2.1.l : Int) ≤ (s2.1.c : Int)) ∧
 Wr w52.drew (blk w3.heap.size) ∧
 Nw (w52.drew.setCell (blk w3.heap.size) (.int .u8 (7 : Int))) fun w53 =>
 Wr w53 ((blk w3.heap.size).add 1) ∧
 Nw (w53.setCell ((blk w3.heap.size).add 1) (.int .i64 (0 : Int))) fun w54 =>
 Wr w54 ((blk w3.heap.size).add 2) ∧
 Nw (w54.setCell ((blk w3.heap.size).add 2) (.int .i64 (0 : Int))) fun w55 =>
 Wr w55 ((blk w3.heap.size).add 3) ∧
 Nw (w55.setCell ((blk w3.heap.size).add 3) (.bool false)) fun w56 =>
 Wr w56 ((blk w3.heap.size).add 4) ∧
 Nw (w56.setCell ((blk w3.heap.size).add 4) (.int .u32 x51)) fun w57 =>
 Wr w57 ((blk w3.heap.size).add 5) ∧
 Nw (w57.setCell ((blk w3.heap.size).add 5) (.int .u32 (0 : Int))) fun w58 =>
 Wr w58 ((blk w3.heap.size).add 6) ∧
 Nw (w58.setCell ((blk w3.heap.size).add 6) (.int .i64 (0 : Int))) fun w59 =>
 Wr w59 ((blk w3.heap.size).add 7) ∧
 Nw (w59.setCell ((blk w3.heap.size).add 7) (.slice (if s2.1.c = 1 then s2.1.a else Option.map (fun a => a.add 1) s2.1.a) (s2.1.l - 1) (s2.1.c - 1))) fun w60 =>
 m10 (s43.1, ()) w60))
 (ifB (x12 == (33 : Int))
 (derefP p0 fun a52 =>
 ldP w10 a52 fun x53 =>
 callR Tryz.prog 143 #[(.pointer x53), (.slice s2.1.a s2.1.l s2.1.c)] w10 fun v54 w61 =>
 ∃ x55 : (Int × Int × Int × Bool × Int × Int × Int × Sl × Unit), ∃ x56 : Int, v54 = (.tuple #[(.agg #[(.int .u8 x55.1), (.int .i64 x55.2.1), (.int .i64 x55.2.2.1), (.bool x55.2.2.2.1), (.int .u32 x55.2.2.2.2.1), (.int .u32 x55.2.2.2.2.2.1), (.int .i64 x55.2.2.2.2.2.2.1), (.slice x55.2.2.2.2.2.2.2.1.a x55.2.2.2.2.2.2.2.1.l x55.2.2.2.2.2.2.2.1.c)]), (.int .i64 x56)]) ∧
 Wr w61 (blk w3.heap.size) ∧
 Nw (w61.setCell (blk w3.heap.size) (.int .u8 x55.1)) fun w62 =>
 Wr w62 ((blk w3.heap.size).add 1) ∧
 Nw (w62.setCell ((blk w3.heap.size).add 1) (.int .i64 x55.2.1)) fun w63 =>
 Wr w63 ((blk w3.heap.size).add 2) ∧
 Nw (w63.setCell ((blk w3.heap.size).add 2) (.int .i64 x55.2.2.1)) fun w64 =>
 Wr w64 ((blk w3.heap.size).add 3) ∧
 Nw (w64.setCell ((blk w3.heap.size).add 3) (.bool x55.2.2.2.1)) fun w65 =>
 Wr w65 ((blk w3.heap.size).add 4) ∧
 Nw (w65.setCell ((blk w3.heap.size).add 4) (.int .u32 x55.2.2.2.2.1)) fun w66 =>
 Wr w66 ((blk w3.heap.size).add 5) ∧
 Nw (w66.setCell ((blk w3.heap.size).add 5) (.int .u32 x55.2.2.2.2.2.1)) fun w67 =>
 Wr w67 ((blk w3.heap.size).add 6) ∧
 Nw (w67.setCell ((blk w3.heap.size).add 6) (.int .i64 x55.2.2.2.2.2.2.1)) fun w68 =>
 Wr w68 ((blk w3.heap.size).add 7) ∧
 Nw (w68.setCell ((blk w3.heap.size).add 7) (.slice x55.2.2.2.2.2.2.2.1.a x55.2.2.2.2.2.2.2.1.l x55.2.2.2.2.2.2.2.1.c)) fun w69 =>
 m10 (x56, ()) w69)
 (Wr w10 (blk w1.heap.size) ∧
 Nw (w10.setCell (blk w1.heap.size) (.int .u8 (0 : Int))) fun w70 =>
 Wr w70 ((blk w1.heap.size).add 1) ∧
 Nw (w70.setCell ((blk w1.heap.size).add 1) (.int .i64 (0 : Int))) fun w71 =>
 Wr w71 ((blk w1.heap.size).add 2) ∧
 Nw (w71.setCell ((blk w1.heap.size).add 2) (.int .i64 (0 : Int))) fun w72 =>
 Wr w72 ((blk w1.heap.size).add 3) ∧
 Nw (w72.setCell ((blk w1.heap.size).add 3) (.bool false)) fun w73 =>
 Wr w73 ((blk w1.heap.size).add 4) ∧
 Nw (w73.setCell ((blk w1.heap.size).add 4) (.int .u32 (0 : Int))) fun w74 =>
 Wr w74 ((blk w1.heap.size).add 5) ∧
 Nw (w74.setCell ((blk w1.heap.size).add 5) (.int .u32 (0 : Int))) fun w75 =>
 Wr w75 ((blk w1.heap.size).add 6) ∧
 Nw (w75.setCell ((blk w1.heap.size).add 6) (.int .i64 (0 : Int))) fun w76 =>
 Wr w76 ((blk w1.heap.size).add 7) ∧
 Nw (w76.setCell ((blk w1.heap.size).add 7) (.slice none 0 0)) fun w77 =>
 ldI w77 ((blk w1.heap.size).add 0) .u8 fun x57 =>
 ldI w77 ((blk w1.heap.size).add 1) .i64 fun x58 =>
 ldI w77 ((blk w1.heap.size).add 2) .i64 fun x59 =>
 ldB w77 ((blk w1.heap.size).add 3) fun x60 =>
 ldI w77 ((blk w1.heap.size).add 4) .u32 fun x61 =>
 ldI w77 ((blk w1.heap.size).add 5) .u32 fun x62 =>
 ldI w77 ((blk w1.heap.size).add 6) .i64 fun x63 =>
 ldS w77 ((blk w1.heap.size).add 7) fun x64 =>
 R (.tuple #[(.agg #[(.int .u8 x57), (.int .i64 x58), (.int .i64 x59), (.bool x60), (.int .u32 x61), (.int .u32 x62), (.int .i64 x63), (.slice x64.a x64.l x64.c)]), (.bool false), (.int .i64 (0 : Int))]) w77)))))))))
 (fun s11 w78 =>
 ldI w78 ((blk w3.heap.size).add 0) .u8 fun x65 =>
 ldI w78 ((blk w3.heap.size).add 1) .i64 fun x66 =>
 ldI w78 ((blk w3.heap.size).add 2) .i64 fun x67 =>
 ldB w78 ((blk w3.heap.size).add 3) fun x68 =>
 ldI w78 ((blk w3.heap.size).add 4) .u32 fun x69 =>
 ldI w78 ((blk w3.heap.size).add 5) .u32 fun x70 =>
 ldI w78 ((blk w3.heap.size).add 6) .i64 fun x71 =>
 ldS w78 ((blk w3.heap.size).add 7) fun x72 =>
 Wr w78 (blk w1.heap.size) ∧
 Nw (w78.setCell (blk w1.heap.size) (.int .u8 x65)) fun w79 =>
 Wr w79 ((blk w1.heap.size).add 1) ∧
 Nw (w79.setCell ((blk w1.heap.size).add 1) (.int .i64 x66)) fun w80 =>
 Wr w80 ((blk w1.heap.size).add 2) ∧
 Nw (w80.setCell ((blk w1.heap.size).add 2) (.int .i64 x67)) fun w81 =>
 Wr w81 ((blk w1.heap.size).add 3) ∧
 Nw (w81.setCell ((blk w1.heap.size).add 3) (.bool x68)) fun w82 =>
 Wr w82 ((blk w1.heap.size).add 4) ∧
 Nw (w82.setCell ((blk w1.heap.size).add 4) (.int .u32 x69)) fun w83 =>
 Wr w83 ((blk w1.heap.size).add 5) ∧
 Nw (w83.setCell ((blk w1.heap.size).add 5) (.int .u32 x70)) fun w84 =>
 Wr w84 ((blk w1.heap.size).add 6) ∧
 Nw (w84.setCell ((blk w1.heap.size).add 6) (.int .i64 x71)) fun w85 =>
 Wr w85 ((blk w1.heap.size).add 7) ∧
 Nw (w85.setCell ((blk w1.heap.size).add 7) (.slice x72.a x72.l x72.c)) fun w86 =>
 ldI w86 ((blk w1.heap.size).add 0) .u8 fun x73 =>
 ldI w86 ((blk w1.heap.size).add 1) .i64 fun x74 =>
 ldI w86 ((blk w1.heap.size).add 2) .i64 fun x75 =>
 ldB w86 ((blk w1.heap.size).add 3) fun x76 =>
 ldI w86 ((blk w1.heap.size).add 4) .u32 fun x77 =>
 ldI w86 ((blk w1.heap.size).add 5) .u32 fun x78 =>
 ldI w86 ((blk w1.heap.size).add 6) .i64 fun x79 =>
 ldS w86 ((blk w1.heap.size).add 7) fun x80 =>
 R (.tuple #[(.agg #[(.int .u8 x73), (.int .i64 x74), (.int .i64 x75), (.bool x76), (.int .u32 x77), (.int .u32 x78), (.int .i64 x79), (.slice x80.a x80.l x80.c)]), (.bool true), (.int .i64 s11.1)]) w86)))
 ((Sl.mk none 0 0), (0 : Int), ()) w2
theorem types_maker_one_calls (p0 : Option Addr) (p1 : (Int × Int × Int × Sl × Unit)) (R : Value → World → Prop) (w : World) (h : L_types_maker_one p0 p1 R w) : Calls Tryz.prog 100 #[(.pointer p0), (.agg #[(.int .u16 p1.1), (.int .u32 p1.2.1), (.int .u32 p1.2.2.1), (.slice p1.2.2.2.1.a p1.2.2.2.1.l p1.2.2.2.1.c)])] w (Ret R) :=
 lw_calls (fs := Tryz.fs) (an := a_types_maker_one) (args := [(.pointer p0), (.agg #[(.int .u16 p1.1), (.int .u32 p1.2.1), (.int .u32 p1.2.2.1), (.slice p1.2.2.2.1.a p1.2.2.2.1.l p1.2.2.2.1.c)])]) Tryz.fsOK Tryz.mixed Tryz.func100 (by kernel_rfl) (by kernel_rfl)
 (Eq.mpr (by kernel_rfl : lwFn Tryz.prog Tryz.fs Tryz.f100 a_types_maker_one [(.pointer p0), (.agg #[(.int .u16 p1.1), (.int .u32 p1.2.1), (.int .u32 p1.2.2.1), (.slice p1.2.2.2.1.a p1.2.2.2.1.l p1.2.2.2.1.c)])] w R = L_types_maker_one p0 p1 R w) h)

/-- (*intaglio.types.maker).again -/
def a_types_maker_again : Ann := (.seq none .nil (.seq (some ⟨[0, 3], []⟩) (.seq none .nil (.cond (.seq none .nil .nil) .nil)) (.seq none .nil (.seq none (.seq none .nil (.one (.loop ⟨[0, 21, 22], [(5, (.b .str)), (23, (.b (.int .i64)))]⟩ (.seq none .nil (.seq none (.cond .nil .nil) (.seq none (.one (.seq none .nil .nil)) .nil)))))) (.seq none .nil (.seq none .nil .nil))))))
def L_types_maker_again (p0 : Option Addr) (p1 : (Int × Int × Int × Sl × Unit)) (R : Value → World → Prop) (w : World) : Prop :=
 Nw (w.alloc (.cells #[(.int .u16 p1.1), (.int .u32 p1.2.1), (.int .u32 p1.2.2.1), (.slice p1.2.2.2.1.a p1.2.2.2.1.l p1.2.2.2.1.c)] 52)) fun w1 =>
 JoinW (S := Unit) (fun m1 =>
 ldI w1 (blk w.heap.size) .u16 fun x3 =>
 ifB (x3 == (28 : Int))
 (R (.bool false) w1)
 (ldI w1 (blk w.heap.size) .u16 fun x4 =>
 ifB (x4 == (30 : Int))
 (R (.bool false) w1)
 (m1 (()) w1)))
 (fun s2 w2 =>
 ldI w2 (blk w.heap.size) .u16 fun x5 =>
 callR Tryz.prog 144 #[(.int .i64 (IntKind.i64.wrap x5))] w2 fun v6 w3 =>
 ∃ x7 : ByteArray, v6 = (.string x7) ∧
 ldS w3 ((blk w.heap.size).add 3) fun x8 =>
 LoopW (S := ByteArray × Int × Unit) (fun s9 w4 n10 =>
 ifB (decide (s9.2.1 < (x8.l : Int)))
 ((0 ≤ s9.2.1 ∧ s9.2.1 < (x8.l : Int)) ∧
 derefP x8.a fun a11 =>
 ldI w4 ((a11.add ((Int.toNat s9.2.1) * 3)).add 0) .u8 fun x12 =>
 ldI w4 ((a11.add ((Int.toNat s9.2.1) * 3)).add 1) .u32 fun x13 =>
 ldStr w4 ((a11.add ((Int.toNat s9.2.1) * 3)).add 2) fun x14 =>
 Nw (w4.alloc (.cells #[(.int .u8 (0 : Int)), (.int .u32 (0 : Int)), (.string (ByteArray.mk #[]))] 55)) fun w5 =>
 Wr w5 (blk w4.heap.size) ∧
 Nw (w5.setCell (blk w4.heap.size) (.int .u8 x12)) fun w6 =>
 Wr w6 ((blk w4.heap.size).add 1) ∧
 Nw (w6.setCell ((blk w4.heap.size).add 1) (.int .u32 x13)) fun w7 =>
 Wr w7 ((blk w4.heap.size).add 2) ∧
 Nw (w7.setCell ((blk w4.heap.size).add 2) (.string x14)) fun w8 =>
 ldI w8 ((blk w4.heap.size).add 1) .u32 fun x15 =>
 callR Tryz.prog 144 #[(.int .i64 (IntKind.i64.wrap x15))] w8 fun v16 w9 =>
 ∃ x17 : ByteArray, v16 = (.string x17) ∧
 sumFits (ByteArray.mk #[32]) x17 ∧
 sumFits s9.1 ((ByteArray.mk #[32]) ++ x17) ∧
 n10 ((s9.1 ++ ((ByteArray.mk #[32]) ++ x17)), (IntKind.i64.wrap (s9.2.1 + (1 : Int))), ()) w9)
 (derefP p0 fun a18 =>
 ldM w4 (a18.add 2) fun x19 =>
 lookV Tryz.prog 184 (.map x19) (.string s9.1) (BK.int .i64) w4 fun (x20 : Int) =>
 updW Tryz.prog 184 (.map x19) (.string s9.1) (.int .i64 (IntKind.i64.wrap (x20 + (1 : Int)))) w4 fun w10 =>
 derefP p0 fun a21 =>
 ldM w10 (a21.add 2) fun x22 =>
 lookV Tryz.prog 184 (.map x22) (.string s9.1) (BK.int .i64) w10 fun (x23 : Int) =>
 R (.bool (decide (x23 > (1 : Int)))) w10))
 (x7, (0 : Int), ()) w3)
theorem types_maker_again_calls (p0 : Option Addr) (p1 : (Int × Int × Int × Sl × Unit)) (R : Value → World → Prop) (w : World) (h : L_types_maker_again p0 p1 R w) : Calls Tryz.prog 101 #[(.pointer p0), (.agg #[(.int .u16 p1.1), (.int .u32 p1.2.1), (.int .u32 p1.2.2.1), (.slice p1.2.2.2.1.a p1.2.2.2.1.l p1.2.2.2.1.c)])] w (Ret R) :=
 lw_calls (fs := Tryz.fs) (an := a_types_maker_again) (args := [(.pointer p0), (.agg #[(.int .u16 p1.1), (.int .u32 p1.2.1), (.int .u32 p1.2.2.1), (.slice p1.2.2.2.1.a p1.2.2.2.1.l p1.2.2.2.1.c)])]) Tryz.fsOK Tryz.mixed Tryz.func101 (by kernel_rfl) (by kernel_rfl)
 (Eq.mpr (by kernel_rfl : lwFn Tryz.prog Tryz.fs Tryz.f101 a_types_maker_again [(.pointer p0), (.agg #[(.int .u16 p1.1), (.int .u32 p1.2.1), (.int .u32 p1.2.2.1), (.slice p1.2.2.2.1.a p1.2.2.2.1.l p1.2.2.2.1.c)])] w R = L_types_maker_again p0 p1 R w) h)

/-- (*intaglio.types.Table).vector -/
def a_types_Table_vector : Ann := (.seq none .nil (.seq none .nil (.seq (some ⟨[1, 2, 6, 8], []⟩) (.one (.seq none .nil (.cond (.seq none .nil .nil) (.seq none .nil (.cond (.seq none .nil .nil) .nil))))) (.seq none .nil .nil))))
def L_types_Table_vector (p0 : Option Addr) (p1 : Int) (p2 : Int) (R : Value → World → Prop) (w : World) : Prop :=
 Nw (w.alloc (.cells #[(.int .u8 (0 : Int)), (.int .i64 (0 : Int)), (.int .i64 (0 : Int)), (.bool false), (.int .u32 (0 : Int)), (.int .u32 (0 : Int)), (.int .i64 (0 : Int)), (.slice none 0 0)] 127)) fun w1 =>
 derefP p0 fun a1 =>
 ldM w1 a1 fun x2 =>
 lookVK Tryz.prog 180 (.map x2) (.int .u32 p1) [(.int .u8), (.int .i64), (.int .i64), .bool, (.int .u32), (.int .u32), (.int .i64), .slice] w1 fun (x3 : (Int × Int × Int × Bool × Int × Int × Int × Sl × Unit)) =>
 Nw (w1.alloc (.cells #[(.int .u8 (0 : Int)), (.int .i64 (0 : Int)), (.int .i64 (0 : Int)), (.bool false), (.int .u32 (0 : Int)), (.int .u32 (0 : Int)), (.int .i64 (0 : Int)), (.slice none 0 0)] 127)) fun w2 =>
 Wr w2 (blk w1.heap.size) ∧
 Nw (w2.setCell (blk w1.heap.size) (.int .u8 x3.1)) fun w3 =>
 Wr w3 ((blk w1.heap.size).add 1) ∧
 Nw (w3.setCell ((blk w1.heap.size).add 1) (.int .i64 x3.2.1)) fun w4 =>
 Wr w4 ((blk w1.heap.size).add 2) ∧
 Nw (w4.setCell ((blk w1.heap.size).add 2) (.int .i64 x3.2.2.1)) fun w5 =>
 Wr w5 ((blk w1.heap.size).add 3) ∧
 Nw (w5.setCell ((blk w1.heap.size).add 3) (.bool x3.2.2.2.1)) fun w6 =>
 Wr w6 ((blk w1.heap.size).add 4) ∧
 Nw (w6.setCell ((blk w1.heap.size).add 4) (.int .u32 x3.2.2.2.2.1)) fun w7 =>
 Wr w7 ((blk w1.heap.size).add 5) ∧
 Nw (w7.setCell ((blk w1.heap.size).add 5) (.int .u32 x3.2.2.2.2.2.1)) fun w8 =>
 Wr w8 ((blk w1.heap.size).add 6) ∧
 Nw (w8.setCell ((blk w1.heap.size).add 6) (.int .i64 x3.2.2.2.2.2.2.1)) fun w9 =>
 Wr w9 ((blk w1.heap.size).add 7) ∧
 Nw (w9.setCell ((blk w1.heap.size).add 7) (.slice x3.2.2.2.2.2.2.2.1.a x3.2.2.2.2.2.2.2.1.l x3.2.2.2.2.2.2.2.1.c)) fun w10 =>
 JoinW (S := Unit) (fun m4 =>
 ldI w10 (blk w1.heap.size) .u8 fun x6 =>
 ifB (x6 != (2 : Int))
 (ldI w10 (blk w1.heap.size) .u8 fun x7 =>
 ifB (x7 != (3 : Int))
 (Wr w10 (blk w.heap.size) ∧
 Nw (w10.setCell (blk w.heap.size) (.int .u8 (0 : Int))) fun w11 =>
 Wr w11 ((blk w.heap.size).add 1) ∧
 Nw (w11.setCell ((blk w.heap.size).add 1) (.int .i64 (0 : Int))) fun w12 =>
 Wr w12 ((blk w.heap.size).add 2) ∧
 Nw (w12.setCell ((blk w.heap.size).add 2) (.int .i64 (0 : Int))) fun w13 =>
 Wr w13 ((blk w.heap.size).add 3) ∧
 Nw (w13.setCell ((blk w.heap.size).add 3) (.bool false)) fun w14 =>
 Wr w14 ((blk w.heap.size).add 4) ∧
 Nw (w14.setCell ((blk w.heap.size).add 4) (.int .u32 (0 : Int))) fun w15 =>
 Wr w15 ((blk w.heap.size).add 5) ∧
 Nw (w15.setCell ((blk w.heap.size).add 5) (.int .u32 (0 : Int))) fun w16 =>
 Wr w16 ((blk w.heap.size).add 6) ∧
 Nw (w16.setCell ((blk w.heap.size).add 6) (.int .i64 (0 : Int))) fun w17 =>
 Wr w17 ((blk w.heap.size).add 7) ∧
 Nw (w17.setCell ((blk w.heap.size).add 7) (.slice none 0 0)) fun w18 =>
 ldI w18 ((blk w.heap.size).add 0) .u8 fun x8 =>
 ldI w18 ((blk w.heap.size).add 1) .i64 fun x9 =>
 ldI w18 ((blk w.heap.size).add 2) .i64 fun x10 =>
 ldB w18 ((blk w.heap.size).add 3) fun x11 =>
 ldI w18 ((blk w.heap.size).add 4) .u32 fun x12 =>
 ldI w18 ((blk w.heap.size).add 5) .u32 fun x13 =>
 ldI w18 ((blk w.heap.size).add 6) .i64 fun x14 =>
 ldS w18 ((blk w.heap.size).add 7) fun x15 =>
 R (.tuple #[(.agg #[(.int .u8 x8), (.int .i64 x9), (.int .i64 x10), (.bool x11), (.int .u32 x12), (.int .u32 x13), (.int .i64 x14), (.slice x15.a x15.l x15.c)]), (.int .i64 (100 : Int))]) w18)
 (ifB (decide (p2 < (2 : Int)))
 (Wr w10 (blk w.heap.size) ∧
 Nw (w10.setCell (blk w.heap.size) (.int .u8 (0 : Int))) fun w19 =>
 Wr w19 ((blk w.heap.size).add 1) ∧
 Nw (w19.setCell ((blk w.heap.size).add 1) (.int .i64 (0 : Int))) fun w20 =>
 Wr w20 ((blk w.heap.size).add 2) ∧
 Nw (w20.setCell ((blk w.heap.size).add 2) (.int .i64 (0 : Int))) fun w21 =>
 Wr w21 ((blk w.heap.size).add 3) ∧
 Nw (w21.setCell ((blk w.heap.size).add 3) (.bool false)) fun w22 =>
 Wr w22 ((blk w.heap.size).add 4) ∧
 Nw (w22.setCell ((blk w.heap.size).add 4) (.int .u32 (0 : Int))) fun w23 =>
 Wr w23 ((blk w.heap.size).add 5) ∧
 Nw (w23.setCell ((blk w.heap.size).add 5) (.int .u32 (0 : Int))) fun w24 =>
 Wr w24 ((blk w.heap.size).add 6) ∧
 Nw (w24.setCell ((blk w.heap.size).add 6) (.int .i64 (0 : Int))) fun w25 =>
 Wr w25 ((blk w.heap.size).add 7) ∧
 Nw (w25.setCell ((blk w.heap.size).add 7) (.slice none 0 0)) fun w26 =>
 ldI w26 ((blk w.heap.size).add 0) .u8 fun x16 =>
 ldI w26 ((blk w.heap.size).add 1) .i64 fun x17 =>
 ldI w26 ((blk w.heap.size).add 2) .i64 fun x18 =>
 ldB w26 ((blk w.heap.size).add 3) fun x19 =>
 ldI w26 ((blk w.heap.size).add 4) .u32 fun x20 =>
 ldI w26 ((blk w.heap.size).add 5) .u32 fun x21 =>
 ldI w26 ((blk w.heap.size).add 6) .i64 fun x22 =>
 ldS w26 ((blk w.heap.size).add 7) fun x23 =>
 R (.tuple #[(.agg #[(.int .u8 x16), (.int .i64 x17), (.int .i64 x18), (.bool x19), (.int .u32 x20), (.int .u32 x21), (.int .i64 x22), (.slice x23.a x23.l x23.c)]), (.int .i64 (102 : Int))]) w26)
 (ifB (decide (p2 > (4 : Int)))
 (Wr w10 (blk w.heap.size) ∧
 Nw (w10.setCell (blk w.heap.size) (.int .u8 (0 : Int))) fun w27 =>
 Wr w27 ((blk w.heap.size).add 1) ∧
 Nw (w27.setCell ((blk w.heap.size).add 1) (.int .i64 (0 : Int))) fun w28 =>
 Wr w28 ((blk w.heap.size).add 2) ∧
 Nw (w28.setCell ((blk w.heap.size).add 2) (.int .i64 (0 : Int))) fun w29 =>
 Wr w29 ((blk w.heap.size).add 3) ∧
 Nw (w29.setCell ((blk w.heap.size).add 3) (.bool false)) fun w30 =>
 Wr w30 ((blk w.heap.size).add 4) ∧
 Nw (w30.setCell ((blk w.heap.size).add 4) (.int .u32 (0 : Int))) fun w31 =>
 Wr w31 ((blk w.heap.size).add 5) ∧
 Nw (w31.setCell ((blk w.heap.size).add 5) (.int .u32 (0 : Int))) fun w32 =>
 Wr w32 ((blk w.heap.size).add 6) ∧
 Nw (w32.setCell ((blk w.heap.size).add 6) (.int .i64 (0 : Int))) fun w33 =>
 Wr w33 ((blk w.heap.size).add 7) ∧
 Nw (w33.setCell ((blk w.heap.size).add 7) (.slice none 0 0)) fun w34 =>
 ldI w34 ((blk w.heap.size).add 0) .u8 fun x24 =>
 ldI w34 ((blk w.heap.size).add 1) .i64 fun x25 =>
 ldI w34 ((blk w.heap.size).add 2) .i64 fun x26 =>
 ldB w34 ((blk w.heap.size).add 3) fun x27 =>
 ldI w34 ((blk w.heap.size).add 4) .u32 fun x28 =>
 ldI w34 ((blk w.heap.size).add 5) .u32 fun x29 =>
 ldI w34 ((blk w.heap.size).add 6) .i64 fun x30 =>
 ldS w34 ((blk w.heap.size).add 7) fun x31 =>
 R (.tuple #[(.agg #[(.int .u8 x24), (.int .i64 x25), (.int .i64 x26), (.bool x27), (.int .u32 x28), (.int .u32 x29), (.int .i64 x30), (.slice x31.a x31.l x31.c)]), (.int .i64 (102 : Int))]) w34)
 (m4 (()) w10))))
 (ifB (decide (p2 < (2 : Int)))
 (Wr w10 (blk w.heap.size) ∧
 Nw (w10.setCell (blk w.heap.size) (.int .u8 (0 : Int))) fun w35 =>
 Wr w35 ((blk w.heap.size).add 1) ∧
 Nw (w35.setCell ((blk w.heap.size).add 1) (.int .i64 (0 : Int))) fun w36 =>
 Wr w36 ((blk w.heap.size).add 2) ∧
 Nw (w36.setCell ((blk w.heap.size).add 2) (.int .i64 (0 : Int))) fun w37 =>
 Wr w37 ((blk w.heap.size).add 3) ∧
 Nw (w37.setCell ((blk w.heap.size).add 3) (.bool false)) fun w38 =>
 Wr w38 ((blk w.heap.size).add 4) ∧
 Nw (w38.setCell ((blk w.heap.size).add 4) (.int .u32 (0 : Int))) fun w39 =>
 Wr w39 ((blk w.heap.size).add 5) ∧
 Nw (w39.setCell ((blk w.heap.size).add 5) (.int .u32 (0 : Int))) fun w40 =>
 Wr w40 ((blk w.heap.size).add 6) ∧
 Nw (w40.setCell ((blk w.heap.size).add 6) (.int .i64 (0 : Int))) fun w41 =>
 Wr w41 ((blk w.heap.size).add 7) ∧
 Nw (w41.setCell ((blk w.heap.size).add 7) (.slice none 0 0)) fun w42 =>
 ldI w42 ((blk w.heap.size).add 0) .u8 fun x32 =>
 ldI w42 ((blk w.heap.size).add 1) .i64 fun x33 =>
 ldI w42 ((blk w.heap.size).add 2) .i64 fun x34 =>
 ldB w42 ((blk w.heap.size).add 3) fun x35 =>
 ldI w42 ((blk w.heap.size).add 4) .u32 fun x36 =>
 ldI w42 ((blk w.heap.size).add 5) .u32 fun x37 =>
 ldI w42 ((blk w.heap.size).add 6) .i64 fun x38 =>
 ldS w42 ((blk w.heap.size).add 7) fun x39 =>
 R (.tuple #[(.agg #[(.int .u8 x32), (.int .i64 x33), (.int .i64 x34), (.bool x35), (.int .u32 x36), (.int .u32 x37), (.int .i64 x38), (.slice x39.a x39.l x39.c)]), (.int .i64 (102 : Int))]) w42)
 (ifB (decide (p2 > (4 : Int)))
 (Wr w10 (blk w.heap.size) ∧
 Nw (w10.setCell (blk w.heap.size) (.int .u8 (0 : Int))) fun w43 =>
 Wr w43 ((blk w.heap.size).add 1) ∧
 Nw (w43.setCell ((blk w.heap.size).add 1) (.int .i64 (0 : Int))) fun w44 =>
 Wr w44 ((blk w.heap.size).add 2) ∧
 Nw (w44.setCell ((blk w.heap.size).add 2) (.int .i64 (0 : Int))) fun w45 =>
 Wr w45 ((blk w.heap.size).add 3) ∧
 Nw (w45.setCell ((blk w.heap.size).add 3) (.bool false)) fun w46 =>
 Wr w46 ((blk w.heap.size).add 4) ∧
 Nw (w46.setCell ((blk w.heap.size).add 4) (.int .u32 (0 : Int))) fun w47 =>
 Wr w47 ((blk w.heap.size).add 5) ∧
 Nw (w47.setCell ((blk w.heap.size).add 5) (.int .u32 (0 : Int))) fun w48 =>
 Wr w48 ((blk w.heap.size).add 6) ∧
 Nw (w48.setCell ((blk w.heap.size).add 6) (.int .i64 (0 : Int))) fun w49 =>
 Wr w49 ((blk w.heap.size).add 7) ∧
 Nw (w49.setCell ((blk w.heap.size).add 7) (.slice none 0 0)) fun w50 =>
 ldI w50 ((blk w.heap.size).add 0) .u8 fun x40 =>
 ldI w50 ((blk w.heap.size).add 1) .i64 fun x41 =>
 ldI w50 ((blk w.heap.size).add 2) .i64 fun x42 =>
 ldB w50 ((blk w.heap.size).add 3) fun x43 =>
 ldI w50 ((blk w.heap.size).add 4) .u32 fun x44 =>
 ldI w50 ((blk w.heap.size).add 5) .u32 fun x45 =>
 ldI w50 ((blk w.heap.size).add 6) .i64 fun x46 =>
 ldS w50 ((blk w.heap.size).add 7) fun x47 =>
 R (.tuple #[(.agg #[(.int .u8 x40), (.int .i64 x41), (.int .i64 x42), (.bool x43), (.int .u32 x44), (.int .u32 x45), (.int .i64 x46), (.slice x47.a x47.l x47.c)]), (.int .i64 (102 : Int))]) w50)
 (m4 (()) w10))))
 (fun s5 w51 =>
 ldI w51 ((blk w1.heap.size).add 2) .i64 fun x48 =>
 callR Tryz.prog 178 #[(.agg #[(.int .u8 (4 : Int)), (.int .i64 (0 : Int)), (.int .i64 (0 : Int)), (.bool false), (.int .u32 (0 : Int)), (.int .u32 p1), (.int .i64 (IntKind.i64.wrap p2)), (.slice none 0 0)]), (.int .i64 (IntKind.i64.wrap p2)), (.int .i64 x48)] w51 fun v49 w52 =>
 ∃ x50 : (Int × Int × Int × Bool × Int × Int × Int × Sl × Unit), ∃ x51 : Int, v49 = (.tuple #[(.agg #[(.int .u8 x50.1), (.int .i64 x50.2.1), (.int .i64 x50.2.2.1), (.bool x50.2.2.2.1), (.int .u32 x50.2.2.2.2.1), (.int .u32 x50.2.2.2.2.2.1), (.int .i64 x50.2.2.2.2.2.2.1), (.slice x50.2.2.2.2.2.2.2.1.a x50.2.2.2.2.2.2.2.1.l x50.2.2.2.2.2.2.2.1.c)]), (.int .i64 x51)]) ∧
 Wr w52 (blk w.heap.size) ∧
 Nw (w52.setCell (blk w.heap.size) (.int .u8 x50.1)) fun w53 =>
 Wr w53 ((blk w.heap.size).add 1) ∧
 Nw (w53.setCell ((blk w.heap.size).add 1) (.int .i64 x50.2.1)) fun w54 =>
 Wr w54 ((blk w.heap.size).add 2) ∧
 Nw (w54.setCell ((blk w.heap.size).add 2) (.int .i64 x50.2.2.1)) fun w55 =>
 Wr w55 ((blk w.heap.size).add 3) ∧
 Nw (w55.setCell ((blk w.heap.size).add 3) (.bool x50.2.2.2.1)) fun w56 =>
 Wr w56 ((blk w.heap.size).add 4) ∧
 Nw (w56.setCell ((blk w.heap.size).add 4) (.int .u32 x50.2.2.2.2.1)) fun w57 =>
 Wr w57 ((blk w.heap.size).add 5) ∧
 Nw (w57.setCell ((blk w.heap.size).add 5) (.int .u32 x50.2.2.2.2.2.1)) fun w58 =>
 Wr w58 ((blk w.heap.size).add 6) ∧
 Nw (w58.setCell ((blk w.heap.size).add 6) (.int .i64 x50.2.2.2.2.2.2.1)) fun w59 =>
 Wr w59 ((blk w.heap.size).add 7) ∧
 Nw (w59.setCell ((blk w.heap.size).add 7) (.slice x50.2.2.2.2.2.2.2.1.a x50.2.2.2.2.2.2.2.1.l x50.2.2.2.2.2.2.2.1.c)) fun w60 =>
 ldI w60 ((blk w.heap.size).add 0) .u8 fun x52 =>
 ldI w60 ((blk w.heap.size).add 1) .i64 fun x53 =>
 ldI w60 ((blk w.heap.size).add 2) .i64 fun x54 =>
 ldB w60 ((blk w.heap.size).add 3) fun x55 =>
 ldI w60 ((blk w.heap.size).add 4) .u32 fun x56 =>
 ldI w60 ((blk w.heap.size).add 5) .u32 fun x57 =>
 ldI w60 ((blk w.heap.size).add 6) .i64 fun x58 =>
 ldS w60 ((blk w.heap.size).add 7) fun x59 =>
 R (.tuple #[(.agg #[(.int .u8 x52), (.int .i64 x53), (.int .i64 x54), (.bool x55), (.int .u32 x56), (.int .u32 x57), (.int .i64 x58), (.slice x59.a x59.l x59.c)]), (.int .i64 x51)]) w60)
theorem types_Table_vector_calls (p0 : Option Addr) (p1 : Int) (p2 : Int) (R : Value → World → Prop) (w : World) (h : L_types_Table_vector p0 p1 p2 R w) : Calls Tryz.prog 139 #[(.pointer p0), (.int .u32 p1), (.int .u32 p2)] w (Ret R) :=
 lw_calls (fs := Tryz.fs) (an := a_types_Table_vector) (args := [(.pointer p0), (.int .u32 p1), (.int .u32 p2)]) Tryz.fsOK Tryz.mixed Tryz.func139 (by kernel_rfl) (by kernel_rfl)
 (Eq.mpr (by kernel_rfl : lwFn Tryz.prog Tryz.fs Tryz.f139 a_types_Table_vector [(.pointer p0), (.int .u32 p1), (.int .u32 p2)] w R = L_types_Table_vector p0 p1 p2 R w) h)

/-- (*intaglio.types.maker).array -/
def a_types_maker_array : Ann := (.seq none .nil (.seq none .nil (.seq none (.seq none .nil (.cond (.seq none .nil .nil) .nil)) (.seq none .nil (.seq (some ⟨[1, 6, 8, 9], []⟩) (.seq none .nil (.cond (.seq none .nil .nil) .nil)) (.seq none .nil (.seq none .nil .nil)))))))
def L_types_maker_array (p0 : Option Addr) (p1 : Int) (p2 : Int) (R : Value → World → Prop) (w : World) : Prop :=
 Nw (w.alloc (.cells #[(.int .u8 (0 : Int)), (.int .i64 (0 : Int)), (.int .i64 (0 : Int)), (.bool false), (.int .u32 (0 : Int)), (.int .u32 (0 : Int)), (.int .i64 (0 : Int)), (.slice none 0 0)] 127)) fun w1 =>
 derefP p0 fun a1 =>
 ldP w1 a1 fun x2 =>
 derefP x2 fun a3 =>
 ldM w1 a3 fun x4 =>
 lookVK Tryz.prog 180 (.map x4) (.int .u32 p1) [(.int .u8), (.int .i64), (.int .i64), .bool, (.int .u32), (.int .u32), (.int .i64), .slice] w1 fun (x5 : (Int × Int × Int × Bool × Int × Int × Int × Sl × Unit)) =>
 Nw (w1.alloc (.cells #[(.int .u8 (0 : Int)), (.int .i64 (0 : Int)), (.int .i64 (0 : Int)), (.bool false), (.int .u32 (0 : Int)), (.int .u32 (0 : Int)), (.int .i64 (0 : Int)), (.slice none 0 0)] 127)) fun w2 =>
 Wr w2 (blk w1.heap.size) ∧
 Nw (w2.setCell (blk w1.heap.size) (.int .u8 x5.1)) fun w3 =>
 Wr w3 ((blk w1.heap.size).add 1) ∧
 Nw (w3.setCell ((blk w1.heap.size).add 1) (.int .i64 x5.2.1)) fun w4 =>
 Wr w4 ((blk w1.heap.size).add 2) ∧
 Nw (w4.setCell ((blk w1.heap.size).add 2) (.int .i64 x5.2.2.1)) fun w5 =>
 Wr w5 ((blk w1.heap.size).add 3) ∧
 Nw (w5.setCell ((blk w1.heap.size).add 3) (.bool x5.2.2.2.1)) fun w6 =>
 Wr w6 ((blk w1.heap.size).add 4) ∧
 Nw (w6.setCell ((blk w1.heap.size).add 4) (.int .u32 x5.2.2.2.2.1)) fun w7 =>
 Wr w7 ((blk w1.heap.size).add 5) ∧
 Nw (w7.setCell ((blk w1.heap.size).add 5) (.int .u32 x5.2.2.2.2.2.1)) fun w8 =>
 Wr w8 ((blk w1.heap.size).add 6) ∧
 Nw (w8.setCell ((blk w1.heap.size).add 6) (.int .i64 x5.2.2.2.2.2.2.1)) fun w9 =>
 Wr w9 ((blk w1.heap.size).add 7) ∧
 Nw (w9.setCell ((blk w1.heap.size).add 7) (.slice x5.2.2.2.2.2.2.2.1.a x5.2.2.2.2.2.2.2.1.l x5.2.2.2.2.2.2.2.1.c)) fun w10 =>
 ldI w10 ((blk w1.heap.size).add 1) .i64 fun x6 =>
 ifB (x6 == (0 : Int))
 (Wr w10 (blk w.heap.size) ∧
 Nw (w10.setCell (blk w.heap.size) (.int .u8 (0 : Int))) fun w11 =>
 Wr w11 ((blk w.heap.size).add 1) ∧
 Nw (w11.setCell ((blk w.heap.size).add 1) (.int .i64 (0 : Int))) fun w12 =>
 Wr w12 ((blk w.heap.size).add 2) ∧
 Nw (w12.setCell ((blk w.heap.size).add 2) (.int .i64 (0 : Int))) fun w13 =>
 Wr w13 ((blk w.heap.size).add 3) ∧
 Nw (w13.setCell ((blk w.heap.size).add 3) (.bool false)) fun w14 =>
 Wr w14 ((blk w.heap.size).add 4) ∧
 Nw (w14.setCell ((blk w.heap.size).add 4) (.int .u32 (0 : Int))) fun w15 =>
 Wr w15 ((blk w.heap.size).add 5) ∧
 Nw (w15.setCell ((blk w.heap.size).add 5) (.int .u32 (0 : Int))) fun w16 =>
 Wr w16 ((blk w.heap.size).add 6) ∧
 Nw (w16.setCell ((blk w.heap.size).add 6) (.int .i64 (0 : Int))) fun w17 =>
 Wr w17 ((blk w.heap.size).add 7) ∧
 Nw (w17.setCell ((blk w.heap.size).add 7) (.slice none 0 0)) fun w18 =>
 ldI w18 ((blk w.heap.size).add 0) .u8 fun x7 =>
 ldI w18 ((blk w.heap.size).add 1) .i64 fun x8 =>
 ldI w18 ((blk w.heap.size).add 2) .i64 fun x9 =>
 ldB w18 ((blk w.heap.size).add 3) fun x10 =>
 ldI w18 ((blk w.heap.size).add 4) .u32 fun x11 =>
 ldI w18 ((blk w.heap.size).add 5) .u32 fun x12 =>
 ldI w18 ((blk w.heap.size).add 6) .i64 fun x13 =>
 ldS w18 ((blk w.heap.size).add 7) fun x14 =>
 R (.tuple #[(.agg #[(.int .u8 x7), (.int .i64 x8), (.int .i64 x9), (.bool x10), (.int .u32 x11), (.int .u32 x12), (.int .i64 x13), (.slice x14.a x14.l x14.c)]), (.int .i64 (100 : Int))]) w18)
 (derefP p0 fun a15 =>
 ldM w10 (a15.add 1) fun x16 =>
 lookVK Tryz.prog 183 (.map x16) (.int .u32 p2) [(.int .u16), (.int .u32), (.int .u32), .slice] w10 fun (x17 : (Int × Int × Int × Sl × Unit)) =>
 Nw (w10.alloc (.cells #[(.int .u16 (0 : Int)), (.int .u32 (0 : Int)), (.int .u32 (0 : Int)), (.slice none 0 0)] 52)) fun w19 =>
 Wr w19 (blk w10.heap.size) ∧
 Nw (w19.setCell (blk w10.heap.size) (.int .u16 x17.1)) fun w20 =>
 Wr w20 ((blk w10.heap.size).add 1) ∧
 Nw (w20.setCell ((blk w10.heap.size).add 1) (.int .u32 x17.2.1)) fun w21 =>
 Wr w21 ((blk w10.heap.size).add 2) ∧
 Nw (w21.setCell ((blk w10.heap.size).add 2) (.int .u32 x17.2.2.1)) fun w22 =>
 Wr w22 ((blk w10.heap.size).add 3) ∧
 Nw (w22.setCell ((blk w10.heap.size).add 3) (.slice x17.2.2.2.1.a x17.2.2.2.1.l x17.2.2.2.1.c)) fun w23 =>
 JoinW (S := Unit) (fun m18 =>
 ldI w23.drew (blk w10.heap.size) .u16 fun x20 =>
 ifB (x20 != (43 : Int))
 (Wr w23.drew (blk w.heap.size) ∧
 Nw (w23.drew.setCell (blk w.heap.size) (.int .u8 (0 : Int))) fun w24 =>
 Wr w24 ((blk w.heap.size).add 1) ∧
 Nw (w24.setCell ((blk w.heap.size).add 1) (.int .i64 (0 : Int))) fun w25 =>
 Wr w25 ((blk w.heap.size).add 2) ∧
 Nw (w25.setCell ((blk w.heap.size).add 2) (.int .i64 (0 : Int))) fun w26 =>
 Wr w26 ((blk w.heap.size).add 3) ∧
 Nw (w26.setCell ((blk w.heap.size).add 3) (.bool false)) fun w27 =>
 Wr w27 ((blk w.heap.size).add 4) ∧
 Nw (w27.setCell ((blk w.heap.size).add 4) (.int .u32 (0 : Int))) fun w28 =>
 Wr w28 ((blk w.heap.size).add 5) ∧
 Nw (w28.setCell ((blk w.heap.size).add 5) (.int .u32 (0 : Int))) fun w29 =>
 Wr w29 ((blk w.heap.size).add 6) ∧
 Nw (w29.setCell ((blk w.heap.size).add 6) (.int .i64 (0 : Int))) fun w30 =>
 Wr w30 ((blk w.heap.size).add 7) ∧
 Nw (w30.setCell ((blk w.heap.size).add 7) (.slice none 0 0)) fun w31 =>
 ldI w31 ((blk w.heap.size).add 0) .u8 fun x21 =>
 ldI w31 ((blk w.heap.size).add 1) .i64 fun x22 =>
 ldI w31 ((blk w.heap.size).add 2) .i64 fun x23 =>
 ldB w31 ((blk w.heap.size).add 3) fun x24 =>
 ldI w31 ((blk w.heap.size).add 4) .u32 fun x25 =>
 ldI w31 ((blk w.heap.size).add 5) .u32 fun x26 =>
 ldI w31 ((blk w.heap.size).add 6) .i64 fun x27 =>
 ldS w31 ((blk w.heap.size).add 7) fun x28 =>
 R (.tuple #[(.agg #[(.int .u8 x21), (.int .i64 x22), (.int .i64 x23), (.bool x24), (.int .u32 x25), (.int .u32 x26), (.int .i64 x27), (.slice x28.a x28.l x28.c)]), (.int .i64 (102 : Int))]) w31)
 (derefP p0 fun a29 =>
 ldP w23.drew a29 fun x30 =>
 derefP x30 fun a31 =>
 ldM w23.drew a31 fun x32 =>
 ldI w23.drew ((blk w10.heap.size).add 1) .u32 fun x33 =>
 lookVK Tryz.prog 180 (.map x32) (.int .u32 x33) [(.int .u8), (.int .i64), (.int .i64), .bool, (.int .u32), (.int .u32), (.int .i64), .slice] w23.drew fun (x34 : (Int × Int × Int × Bool × Int × Int × Int × Sl × Unit)) =>
 ifB (x34.1 != (3 : Int))
 (Wr w23.drew (blk w.heap.size) ∧
 Nw (w23.drew.setCell (blk w.heap.size) (.int .u8 (0 : Int))) fun w32 =>
 Wr w32 ((blk w.heap.size).add 1) ∧
 Nw (w32.setCell ((blk w.heap.size).add 1) (.int .i64 (0 : Int))) fun w33 =>
 Wr w33 ((blk w.heap.size).add 2) ∧
 Nw (w33.setCell ((blk w.heap.size).add 2) (.int .i64 (0 : Int))) fun w34 =>
 Wr w34 ((blk w.heap.size).add 3) ∧
 Nw (w34.setCell ((blk w.heap.size).add 3) (.bool false)) fun w35 =>
 Wr w35 ((blk w.heap.size).add 4) ∧
 Nw (w35.setCell ((blk w.heap.size).add 4) (.int .u32 (0 : Int))) fun w36 =>
 Wr w36 ((blk w.heap.size).add 5) ∧
 Nw (w36.setCell ((blk w.heap.size).add 5) (.int .u32 (0 : Int))) fun w37 =>
 Wr w37 ((blk w.heap.size).add 6) ∧
 Nw (w37.setCell ((blk w.heap.size).add 6) (.int .i64 (0 : Int))) fun w38 =>
 Wr w38 ((blk w.heap.size).add 7) ∧
 Nw (w38.setCell ((blk w.heap.size).add 7) (.slice none 0 0)) fun w39 =>
 ldI w39 ((blk w.heap.size).add 0) .u8 fun x35 =>
 ldI w39 ((blk w.heap.size).add 1) .i64 fun x36 =>
 ldI w39 ((blk w.heap.size).add 2) .i64 fun x37 =>
 ldB w39 ((blk w.heap.size).add 3) fun x38 =>
 ldI w39 ((blk w.heap.size).add 4) .u32 fun x39 =>
 ldI w39 ((blk w.heap.size).add 5) .u32 fun x40 =>
 ldI w39 ((blk w.heap.size).add 6) .i64 fun x41 =>
 ldS w39 ((blk w.heap.size).add 7) fun x42 =>
 R (.tuple #[(.agg #[(.int .u8 x35), (.int .i64 x36), (.int .i64 x37), (.bool x38), (.int .u32 x39), (.int .u32 x40), (.int .i64 x41), (.slice x42.a x42.l x42.c)]), (.int .i64 (102 : Int))]) w39)
 (ldS w23.drew ((blk w10.heap.size).add 3) fun x43 =>
 (0 ≤ (0 : Int) ∧ (0 : Int) < (x43.l : Int)) ∧
 derefP x43.a fun a44 =>
 ldI w23.drew ((a44.add (0 * 3)).add 1) .u32 fun x45 =>
 ifB (decide (x45 < (1 : Int)))
 (Wr w23.drew (blk w.heap.size) ∧
 Nw (w23.drew.setCell (blk w.heap.size) (.int .u8 (0 : Int))) fun w40 =>
 Wr w40 ((blk w.heap.size).add 1) ∧
 Nw (w40.setCell ((blk w.heap.size).add 1) (.int .i64 (0 : Int))) fun w41 =>
 Wr w41 ((blk w.heap.size).add 2) ∧
 Nw (w41.setCell ((blk w.heap.size).add 2) (.int .i64 (0 : Int))) fun w42 =>
 Wr w42 ((blk w.heap.size).add 3) ∧
 Nw (w42.setCell ((blk w.heap.size).add 3) (.bool false)) fun w43 =>
 Wr w43 ((blk w.heap.size).add 4) ∧
 Nw (w43.setCell ((blk w.heap.size).add 4) (.int .u32 (0 : Int))) fun w44 =>
 Wr w44 ((blk w.heap.size).add 5) ∧
 Nw (w44.setCell ((blk w.heap.size).add 5) (.int .u32 (0 : Int))) fun w45 =>
 Wr w45 ((blk w.heap.size).add 6) ∧
 Nw (w45.setCell ((blk w.heap.size).add 6) (.int .i64 (0 : Int))) fun w46 =>
 Wr w46 ((blk w.heap.size).add 7) ∧
 Nw (w46.setCell ((blk w.heap.size).add 7) (.slice none 0 0)) fun w47 =>
 ldI w47 ((blk w.heap.size).add 0) .u8 fun x46 =>
 ldI w47 ((blk w.heap.size).add 1) .i64 fun x47 =>
 ldI w47 ((blk w.heap.size).add 2) .i64 fun x48 =>
 ldB w47 ((blk w.heap.size).add 3) fun x49 =>
 ldI w47 ((blk w.heap.size).add 4) .u32 fun x50 =>
 ldI w47 ((blk w.heap.size).add 5) .u32 fun x51 =>
 ldI w47 ((blk w.heap.size).add 6) .i64 fun x52 =>
 ldS w47 ((blk w.heap.size).add 7) fun x53 =>
 R (.tuple #[(.agg #[(.int .u8 x46), (.int .i64 x47), (.int .i64 x48), (.bool x49), (.int .u32 x50), (.int .u32 x51), (.int .i64 x52), (.slice x53.a x53.l x53.c)]), (.int .i64 (102 : Int))]) w47)
 (ldS w23.drew ((blk w10.heap.size).add 3) fun x54 =>
 (0 ≤ (0 : Int) ∧ (0 : Int) < (x54.l : Int)) ∧
 derefP x54.a fun a55 =>
 ldI w23.drew ((a55.add (0 * 3)).add 1) .u32 fun x56 =>
 ifB (decide (x56 > (4096 : Int)))
 (Wr w23.drew (blk w.heap.size) ∧
 Nw (w23.drew.setCell (blk w.heap.size) (.int .u8 (0 : Int))) fun w48 =>
 Wr w48 ((blk w.heap.size).add 1) ∧
 Nw (w48.setCell ((blk w.heap.size).add 1) (.int .i64 (0 : Int))) fun w49 =>
 Wr w49 ((blk w.heap.size).add 2) ∧
 Nw (w49.setCell ((blk w.heap.size).add 2) (.int .i64 (0 : Int))) fun w50 =>
 Wr w50 ((blk w.heap.size).add 3) ∧
 Nw (w50.setCell ((blk w.heap.size).add 3) (.bool false)) fun w51 =>
 Wr w51 ((blk w.heap.size).add 4) ∧
 Nw (w51.setCell ((blk w.heap.size).add 4) (.int .u32 (0 : Int))) fun w52 =>
 Wr w52 ((blk w.heap.size).add 5) ∧
 Nw (w52.setCell ((blk w.heap.size).add 5) (.int .u32 (0 : Int))) fun w53 =>
 Wr w53 ((blk w.heap.size).add 6) ∧
 Nw (w53.setCell ((blk w.heap.size).add 6) (.int .i64 (0 : Int))) fun w54 =>
 Wr w54 ((blk w.heap.size).add 7) ∧
 Nw (w54.setCell ((blk w.heap.size).add 7) (.slice none 0 0)) fun w55 =>
 ldI w55 ((blk w.heap.size).add 0) .u8 fun x57 =>
 ldI w55 ((blk w.heap.size).add 1) .i64 fun x58 =>
 ldI w55 ((blk w.heap.size).add 2) .i64 fun x59 =>
 ldB w55 ((blk w.heap.size).add 3) fun x60 =>
 ldI w55 ((blk w.heap.size).add 4) .u32 fun x61 =>
 ldI w55 ((blk w.heap.size).add 5) .u32 fun x62 =>
 ldI w55 ((blk w.heap.size).add 6) .i64 fun x63 =>
 ldS w55 ((blk w.heap.size).add 7) fun x64 =>
 R (.tuple #[(.agg #[(.int .u8 x57), (.int .i64 x58), (.int .i64 x59), (.bool x60), (.int .u32 x61), (.int .u32 x62), (.int .i64 x63), (.slice x64.a x64.l x64.c)]), (.int .i64 (102 : Int))]) w55)
 (m18 (()) w23.drew)))))
 (fun s19 w56 =>
 ldS w56 ((blk w10.heap.size).add 3) fun x65 =>
 (0 ≤ (0 : Int) ∧ (0 : Int) < (x65.l : Int)) ∧
 derefP x65.a fun a66 =>
 ldI w56 ((a66.add (0 * 3)).add 1) .u32 fun x67 =>
 ldI w56 ((blk w1.heap.size).add 1) .i64 fun x68 =>
 ldI w56 ((blk w1.heap.size).add 2) .i64 fun x69 =>
 callR Tryz.prog 178 #[(.agg #[(.int .u8 (5 : Int)), (.int .i64 (0 : Int)), (.int .i64 (0 : Int)), (.bool false), (.int .u32 (0 : Int)), (.int .u32 p1), (.int .i64 (IntKind.i64.wrap x67)), (.slice none 0 0)]), (.int .i64 (IntKind.i64.wrap ((IntKind.i64.wrap x67) * x68))), (.int .i64 x69)] w56 fun v70 w57 =>
 ∃ x71 : (Int × Int × Int × Bool × Int × Int × Int × Sl × Unit), ∃ x72 : Int, v70 = (.tuple #[(.agg #[(.int .u8 x71.1), (.int .i64 x71.2.1), (.int .i64 x71.2.2.1), (.bool x71.2.2.2.1), (.int .u32 x71.2.2.2.2.1), (.int .u32 x71.2.2.2.2.2.1), (.int .i64 x71.2.2.2.2.2.2.1), (.slice x71.2.2.2.2.2.2.2.1.a x71.2.2.2.2.2.2.2.1.l x71.2.2.2.2.2.2.2.1.c)]), (.int .i64 x72)]) ∧
 Wr w57 (blk w.heap.size) ∧
 Nw (w57.setCell (blk w.heap.size) (.int .u8 x71.1)) fun w58 =>
 Wr w58 ((blk w.heap.size).add 1) ∧
 Nw (w58.setCell ((blk w.heap.size).add 1) (.int .i64 x71.2.1)) fun w59 =>
 Wr w59 ((blk w.heap.size).add 2) ∧
 Nw (w59.setCell ((blk w.heap.size).add 2) (.int .i64 x71.2.2.1)) fun w60 =>
 Wr w60 ((blk w.heap.size).add 3) ∧
 Nw (w60.setCell ((blk w.heap.size).add 3) (.bool x71.2.2.2.1)) fun w61 =>
 Wr w61 ((blk w.heap.size).add 4) ∧
 Nw (w61.setCell ((blk w.heap.size).add 4) (.int .u32 x71.2.2.2.2.1)) fun w62 =>
 Wr w62 ((blk w.heap.size).add 5) ∧
 Nw (w62.setCell ((blk w.heap.size).add 5) (.int .u32 x71.2.2.2.2.2.1)) fun w63 =>
 Wr w63 ((blk w.heap.size).add 6) ∧
 Nw (w63.setCell ((blk w.heap.size).add 6) (.int .i64 x71.2.2.2.2.2.2.1)) fun w64 =>
 Wr w64 ((blk w.heap.size).add 7) ∧
 Nw (w64.setCell ((blk w.heap.size).add 7) (.slice x71.2.2.2.2.2.2.2.1.a x71.2.2.2.2.2.2.2.1.l x71.2.2.2.2.2.2.2.1.c)) fun w65 =>
 ldI w65 ((blk w.heap.size).add 0) .u8 fun x73 =>
 ldI w65 ((blk w.heap.size).add 1) .i64 fun x74 =>
 ldI w65 ((blk w.heap.size).add 2) .i64 fun x75 =>
 ldB w65 ((blk w.heap.size).add 3) fun x76 =>
 ldI w65 ((blk w.heap.size).add 4) .u32 fun x77 =>
 ldI w65 ((blk w.heap.size).add 5) .u32 fun x78 =>
 ldI w65 ((blk w.heap.size).add 6) .i64 fun x79 =>
 ldS w65 ((blk w.heap.size).add 7) fun x80 =>
 R (.tuple #[(.agg #[(.int .u8 x73), (.int .i64 x74), (.int .i64 x75), (.bool x76), (.int .u32 x77), (.int .u32 x78), (.int .i64 x79), (.slice x80.a x80.l x80.c)]), (.int .i64 x72)]) w65))
theorem types_maker_array_calls (p0 : Option Addr) (p1 : Int) (p2 : Int) (R : Value → World → Prop) (w : World) (h : L_types_maker_array p0 p1 p2 R w) : Calls Tryz.prog 140 #[(.pointer p0), (.int .u32 p1), (.int .u32 p2)] w (Ret R) :=
 lw_calls (fs := Tryz.fs) (an := a_types_maker_array) (args := [(.pointer p0), (.int .u32 p1), (.int .u32 p2)]) Tryz.fsOK Tryz.mixed Tryz.func140 (by kernel_rfl) (by kernel_rfl)
 (Eq.mpr (by kernel_rfl : lwFn Tryz.prog Tryz.fs Tryz.f140 a_types_maker_array [(.pointer p0), (.int .u32 p1), (.int .u32 p2)] w R = L_types_maker_array p0 p1 p2 R w) h)

/-- (*intaglio.types.Table).members -/
def a_types_Table_members : Ann := (.seq none .nil (.seq (some ⟨[0, 1, 4], []⟩) (.seq none .nil (.cond (.seq none .nil .nil) .nil)) (.seq none .nil (.seq none (.seq none .nil (.one (.loop ⟨[0, 1, 4, 19, 20], [(6, (.b (.int .i64))), (7, (.b (.int .i64))), (21, (.b (.int .i64)))]⟩ (.seq none .nil (.seq none (.cond .nil .nil) (.seq none (.one (.seq none .nil (.seq none (.seq none .nil (.cond (.seq none .nil .nil) .nil)) (.seq none .nil .nil)))) .nil)))))) (.seq none .nil .nil)))))
def L_types_Table_members (p0 : Option Addr) (p1 : Sl) (R : Value → World → Prop) (w : World) : Prop :=
 Nw (w.alloc (.cells #[(.int .u8 (0 : Int)), (.int .i64 (0 : Int)), (.int .i64 (0 : Int)), (.bool false), (.int .u32 (0 : Int)), (.int .u32 (0 : Int)), (.int .i64 (0 : Int)), (.slice none 0 0)] 127)) fun w1 =>
 JoinW (S := Unit) (fun m1 =>
 ifB (decide ((p1.l : Int) < (1 : Int)))
 (Wr w1 (blk w.heap.size) ∧
 Nw (w1.setCell (blk w.heap.size) (.int .u8 (0 : Int))) fun w2 =>
 Wr w2 ((blk w.heap.size).add 1) ∧
 Nw (w2.setCell ((blk w.heap.size).add 1) (.int .i64 (0 : Int))) fun w3 =>
 Wr w3 ((blk w.heap.size).add 2) ∧
 Nw (w3.setCell ((blk w.heap.size).add 2) (.int .i64 (0 : Int))) fun w4 =>
 Wr w4 ((blk w.heap.size).add 3) ∧
 Nw (w4.setCell ((blk w.heap.size).add 3) (.bool false)) fun w5 =>
 Wr w5 ((blk w.heap.size).add 4) ∧
 Nw (w5.setCell ((blk w.heap.size).add 4) (.int .u32 (0 : Int))) fun w6 =>
 Wr w6 ((blk w.heap.size).add 5) ∧
 Nw (w6.setCell ((blk w.heap.size).add 5) (.int .u32 (0 : Int))) fun w7 =>
 Wr w7 ((blk w.heap.size).add 6) ∧
 Nw (w7.setCell ((blk w.heap.size).add 6) (.int .i64 (0 : Int))) fun w8 =>
 Wr w8 ((blk w.heap.size).add 7) ∧
 Nw (w8.setCell ((blk w.heap.size).add 7) (.slice none 0 0)) fun w9 =>
 ldI w9 ((blk w.heap.size).add 0) .u8 fun x3 =>
 ldI w9 ((blk w.heap.size).add 1) .i64 fun x4 =>
 ldI w9 ((blk w.heap.size).add 2) .i64 fun x5 =>
 ldB w9 ((blk w.heap.size).add 3) fun x6 =>
 ldI w9 ((blk w.heap.size).add 4) .u32 fun x7 =>
 ldI w9 ((blk w.heap.size).add 5) .u32 fun x8 =>
 ldI w9 ((blk w.heap.size).add 6) .i64 fun x9 =>
 ldS w9 ((blk w.heap.size).add 7) fun x10 =>
 R (.tuple #[(.agg #[(.int .u8 x3), (.int .i64 x4), (.int .i64 x5), (.bool x6), (.int .u32 x7), (.int .u32 x8), (.int .i64 x9), (.slice x10.a x10.l x10.c)]), (.int .i64 (102 : Int))]) w9)
 (ifB (decide ((p1.l : Int) > (256 : Int)))
 (Wr w1 (blk w.heap.size) ∧
 Nw (w1.setCell (blk w.heap.size) (.int .u8 (0 : Int))) fun w10 =>
 Wr w10 ((blk w.heap.size).add 1) ∧
 Nw (w10.setCell ((blk w.heap.size).add 1) (.int .i64 (0 : Int))) fun w11 =>
 Wr w11 ((blk w.heap.size).add 2) ∧
 Nw (w11.setCell ((blk w.heap.size).add 2) (.int .i64 (0 : Int))) fun w12 =>
 Wr w12 ((blk w.heap.size).add 3) ∧
 Nw (w12.setCell ((blk w.heap.size).add 3) (.bool false)) fun w13 =>
 Wr w13 ((blk w.heap.size).add 4) ∧
 Nw (w13.setCell ((blk w.heap.size).add 4) (.int .u32 (0 : Int))) fun w14 =>
 Wr w14 ((blk w.heap.size).add 5) ∧
 Nw (w14.setCell ((blk w.heap.size).add 5) (.int .u32 (0 : Int))) fun w15 =>
 Wr w15 ((blk w.heap.size).add 6) ∧
 Nw (w15.setCell ((blk w.heap.size).add 6) (.int .i64 (0 : Int))) fun w16 =>
 Wr w16 ((blk w.heap.size).add 7) ∧
 Nw (w16.setCell ((blk w.heap.size).add 7) (.slice none 0 0)) fun w17 =>
 ldI w17 ((blk w.heap.size).add 0) .u8 fun x11 =>
 ldI w17 ((blk w.heap.size).add 1) .i64 fun x12 =>
 ldI w17 ((blk w.heap.size).add 2) .i64 fun x13 =>
 ldB w17 ((blk w.heap.size).add 3) fun x14 =>
 ldI w17 ((blk w.heap.size).add 4) .u32 fun x15 =>
 ldI w17 ((blk w.heap.size).add 5) .u32 fun x16 =>
 ldI w17 ((blk w.heap.size).add 6) .i64 fun x17 =>
 ldS w17 ((blk w.heap.size).add 7) fun x18 =>
 R (.tuple #[(.agg #[(.int .u8 x11), (.int .i64 x12), (.int .i64 x13), (.bool x14), (.int .u32 x15), (.int .u32 x16), (.int .i64 x17), (.slice x18.a x18.l x18.c)]), (.int .i64 (102 : Int))]) w17)
 (m1 (()) w1)))
 (fun s2 w18 =>
 LoopW (S := Int × Int × Int × Unit) (fun s19 w19 n20 =>
 ifB (decide (s19.2.2.1 < (p1.l : Int)))
 ((0 ≤ s19.2.2.1 ∧ s19.2.2.1 < (p1.l : Int)) ∧
 derefP p1.a fun a21 =>
 ldI w19 (a21.add (Int.toNat s19.2.2.1)) .u32 fun x22 =>
 callR Tryz.prog 142 #[(.pointer p0), (.int .u32 x22)] w19 fun v23 w20 =>
 ∃ x24 : Bool, v23 = (.bool x24) ∧
 ifB (!x24)
 (Wr w20 (blk w.heap.size) ∧
 Nw (w20.setCell (blk w.heap.size) (.int .u8 (0 : Int))) fun w21 =>
 Wr w21 ((blk w.heap.size).add 1) ∧
 Nw (w21.setCell ((blk w.heap.size).add 1) (.int .i64 (0 : Int))) fun w22 =>
 Wr w22 ((blk w.heap.size).add 2) ∧
 Nw (w22.setCell ((blk w.heap.size).add 2) (.int .i64 (0 : Int))) fun w23 =>
 Wr w23 ((blk w.heap.size).add 3) ∧
 Nw (w23.setCell ((blk w.heap.size).add 3) (.bool false)) fun w24 =>
 Wr w24 ((blk w.heap.size).add 4) ∧
 Nw (w24.setCell ((blk w.heap.size).add 4) (.int .u32 (0 : Int))) fun w25 =>
 Wr w25 ((blk w.heap.size).add 5) ∧
 Nw (w25.setCell ((blk w.heap.size).add 5) (.int .u32 (0 : Int))) fun w26 =>
 Wr w26 ((blk w.heap.size).add 6) ∧
 Nw (w26.setCell ((blk w.heap.size).add 6) (.int .i64 (0 : Int))) fun w27 =>
 Wr w27 ((blk w.heap.size).add 7) ∧
 Nw (w27.setCell ((blk w.heap.size).add 7) (.slice none 0 0)) fun w28 =>
 ldI w28 ((blk w.heap.size).add 0) .u8 fun x25 =>
 ldI w28 ((blk w.heap.size).add 1) .i64 fun x26 =>
 ldI w28 ((blk w.heap.size).add 2) .i64 fun x27 =>
 ldB w28 ((blk w.heap.size).add 3) fun x28 =>
 ldI w28 ((blk w.heap.size).add 4) .u32 fun x29 =>
 ldI w28 ((blk w.heap.size).add 5) .u32 fun x30 =>
 ldI w28 ((blk w.heap.size).add 6) .i64 fun x31 =>
 ldS w28 ((blk w.heap.size).add 7) fun x32 =>
 R (.tuple #[(.agg #[(.int .u8 x25), (.int .i64 x26), (.int .i64 x27), (.bool x28), (.int .u32 x29), (.int .u32 x30), (.int .i64 x31), (.slice x32.a x32.l x32.c)]), (.int .i64 (100 : Int))]) w28)
 (derefP p0 fun a33 =>
 ldM w20 a33 fun x34 =>
 lookVK Tryz.prog 180 (.map x34) (.int .u32 x22) [(.int .u8), (.int .i64), (.int .i64), .bool, (.int .u32), (.int .u32), (.int .i64), .slice] w20 fun (x35 : (Int × Int × Int × Bool × Int × Int × Int × Sl × Unit)) =>
 derefP p0 fun a36 =>
 ldM w20 a36 fun x37 =>
 lookVK Tryz.prog 180 (.map x37) (.int .u32 x22) [(.int .u8), (.int .i64), (.int .i64), .bool, (.int .u32), (.int .u32), (.int .i64), .slice] w20 fun (x38 : (Int × Int × Int × Bool × Int × Int × Int × Sl × Unit)) =>
 n20 ((IntKind.i64.wrap (s19.1 + x35.2.1)), (if x38.2.2.1 > s19.2.1 then x38.2.2.1 else s19.2.1), (IntKind.i64.wrap (s19.2.2.1 + (1 : Int))), ()) w20))
 (callR Tryz.prog 178 #[(.agg #[(.int .u8 (6 : Int)), (.int .i64 (0 : Int)), (.int .i64 (0 : Int)), (.bool false), (.int .u32 (0 : Int)), (.int .u32 (0 : Int)), (.int .i64 (0 : Int)), (.slice p1.a p1.l p1.c)]), (.int .i64 s19.1), (.int .i64 s19.2.1)] w19 fun v39 w29 =>
 ∃ x40 : (Int × Int × Int × Bool × Int × Int × Int × Sl × Unit), ∃ x41 : Int, v39 = (.tuple #[(.agg #[(.int .u8 x40.1), (.int .i64 x40.2.1), (.int .i64 x40.2.2.1), (.bool x40.2.2.2.1), (.int .u32 x40.2.2.2.2.1), (.int .u32 x40.2.2.2.2.2.1), (.int .i64 x40.2.2.2.2.2.2.1), (.slice x40.2.2.2.2.2.2.2.1.a x40.2.2.2.2.2.2.2.1.l x40.2.2.2.2.2.2.2.1.c)]), (.int .i64 x41)]) ∧
 Wr w29 (blk w.heap.size) ∧
 Nw (w29.setCell (blk w.heap.size) (.int .u8 x40.1)) fun w30 =>
 Wr w30 ((blk w.heap.size).add 1) ∧
 Nw (w30.setCell ((blk w.heap.size).add 1) (.int .i64 x40.2.1)) fun w31 =>
 Wr w31 ((blk w.heap.size).add 2) ∧
 Nw (w31.setCell ((blk w.heap.size).add 2) (.int .i64 x40.2.2.1)) fun w32 =>
 Wr w32 ((blk w.heap.size).add 3) ∧
 Nw (w32.setCell ((blk w.heap.size).add 3) (.bool x40.2.2.2.1)) fun w33 =>
 Wr w33 ((blk w.heap.size).add 4) ∧
 Nw (w33.setCell ((blk w.heap.size).add 4) (.int .u32 x40.2.2.2.2.1)) fun w34 =>
 Wr w34 ((blk w.heap.size).add 5) ∧
 Nw (w34.setCell ((blk w.heap.size).add 5) (.int .u32 x40.2.2.2.2.2.1)) fun w35 =>
 Wr w35 ((blk w.heap.size).add 6) ∧
 Nw (w35.setCell ((blk w.heap.size).add 6) (.int .i64 x40.2.2.2.2.2.2.1)) fun w36 =>
 Wr w36 ((blk w.heap.size).add 7) ∧
 Nw (w36.setCell ((blk w.heap.size).add 7) (.slice x40.2.2.2.2.2.2.2.1.a x40.2.2.2.2.2.2.2.1.l x40.2.2.2.2.2.2.2.1.c)) fun w37 =>
 ldI w37 ((blk w.heap.size).add 0) .u8 fun x42 =>
 ldI w37 ((blk w.heap.size).add 1) .i64 fun x43 =>
 ldI w37 ((blk w.heap.size).add 2) .i64 fun x44 =>
 ldB w37 ((blk w.heap.size).add 3) fun x45 =>
 ldI w37 ((blk w.heap.size).add 4) .u32 fun x46 =>
 ldI w37 ((blk w.heap.size).add 5) .u32 fun x47 =>
 ldI w37 ((blk w.heap.size).add 6) .i64 fun x48 =>
 ldS w37 ((blk w.heap.size).add 7) fun x49 =>
 R (.tuple #[(.agg #[(.int .u8 x42), (.int .i64 x43), (.int .i64 x44), (.bool x45), (.int .u32 x46), (.int .u32 x47), (.int .i64 x48), (.slice x49.a x49.l x49.c)]), (.int .i64 x41)]) w37))
 ((0 : Int), (0 : Int), (0 : Int), ()) w18)
theorem types_Table_members_calls (p0 : Option Addr) (p1 : Sl) (R : Value → World → Prop) (w : World) (h : L_types_Table_members p0 p1 R w) : Calls Tryz.prog 141 #[(.pointer p0), (.slice p1.a p1.l p1.c)] w (Ret R) :=
 lw_calls (fs := Tryz.fs) (an := a_types_Table_members) (args := [(.pointer p0), (.slice p1.a p1.l p1.c)]) Tryz.fsOK Tryz.mixed Tryz.func141 (by kernel_rfl) (by kernel_rfl)
 (Eq.mpr (by kernel_rfl : lwFn Tryz.prog Tryz.fs Tryz.f141 a_types_Table_members [(.pointer p0), (.slice p1.a p1.l p1.c)] w R = L_types_Table_members p0 p1 R w) h)

/-- (*intaglio.types.Table).plain -/
def a_types_Table_plain : Ann := (.seq none .nil (.seq none .nil .nil))
def L_types_Table_plain (p0 : Option Addr) (p1 : Int) (R : Value → World → Prop) (w : World) : Prop :=
 derefP p0 fun a1 =>
 ldM w a1 fun x2 =>
 lookVK Tryz.prog 180 (.map x2) (.int .u32 p1) [(.int .u8), (.int .i64), (.int .i64), .bool, (.int .u32), (.int .u32), (.int .i64), .slice] w fun (x3 : (Int × Int × Int × Bool × Int × Int × Int × Sl × Unit)) =>
 R (.bool (decide (x3.2.1 > (0 : Int)))) w
theorem types_Table_plain_calls (p0 : Option Addr) (p1 : Int) (R : Value → World → Prop) (w : World) (h : L_types_Table_plain p0 p1 R w) : Calls Tryz.prog 142 #[(.pointer p0), (.int .u32 p1)] w (Ret R) :=
 lw_calls (fs := Tryz.fs) (an := a_types_Table_plain) (args := [(.pointer p0), (.int .u32 p1)]) Tryz.fsOK Tryz.mixed Tryz.func142 (by kernel_rfl) (by kernel_rfl)
 (Eq.mpr (by kernel_rfl : lwFn Tryz.prog Tryz.fs Tryz.f142 a_types_Table_plain [(.pointer p0), (.int .u32 p1)] w R = L_types_Table_plain p0 p1 R w) h)

/-- (*intaglio.types.Table).function -/
def a_types_Table_function : Ann := (.seq none .nil (.seq none (.seq none .nil (.one (.loop ⟨[0, 1, 4, 9, 10], [(11, (.b (.int .i64)))]⟩ (.seq none .nil (.seq none (.cond .nil .nil) (.seq (some ⟨[0, 1, 4, 9, 10, 11], []⟩) (.one (.seq none .nil (.seq none .nil (.seq (some ⟨[0, 1, 4, 7, 9, 10, 11], [(8, (.b (.int .u8)))]⟩) (.seq none .nil (.cond .nil .nil)) (.seq none .nil (.cond (.seq none .nil .nil) .nil)))))) .nil)))))) (.seq none .nil .nil)))
def L_types_Table_function (p0 : Option Addr) (p1 : Sl) (R : Value → World → Prop) (w : World) : Prop :=
 Nw (w.alloc (.cells #[(.int .u8 (0 : Int)), (.int .i64 (0 : Int)), (.int .i64 (0 : Int)), (.bool false), (.int .u32 (0 : Int)), (.int .u32 (0 : Int)), (.int .i64 (0 : Int)), (.slice none 0 0)] 127)) fun w1 =>
 LoopW (S := Int × Unit) (fun s1 w2 n2 =>
 ifB (decide (s1.1 < (p1.l : Int)))
 (JoinW (S := Unit) (fun m3 =>
 (0 ≤ s1.1 ∧ s1.1 < (p1.l : Int)) ∧
 derefP p1.a fun a5 =>
 ldI w2 (a5.add (Int.toNat s1.1)) .u32 fun x6 =>
 JoinW (S := Int × Unit) (fun m7 =>
 ifB (s1.1 == (0 : Int))
 (m7 ((1 : Int), ()) w2)
 (m7 ((7 : Int), ()) w2))
 (fun s8 w3 =>
 callR Tryz.prog 142 #[(.pointer p0), (.int .u32 x6)] w3 fun v9 w4 =>
 ∃ x10 : Bool, v9 = (.bool x10) ∧
 ifB (!x10)
 (derefP p0 fun a11 =>
 ldM w4 a11 fun x12 =>
 lookVK Tryz.prog 180 (.map x12) (.int .u32 x6) [(.int .u8), (.int .i64), (.int .i64), .bool, (.int .u32), (.int .u32), (.int .i64), .slice] w4 fun (x13 : (Int × Int × Int × Bool × Int × Int × Int × Sl × Unit)) =>
 ifB (x13.1 != s8.1)
 (Wr w4 (blk w.heap.size) ∧
 Nw (w4.setCell (blk w.heap.size) (.int .u8 (0 : Int))) fun w5 =>
 Wr w5 ((blk w.heap.size).add 1) ∧
 Nw (w5.setCell ((blk w.heap.size).add 1) (.int .i64 (0 : Int))) fun w6 =>
 Wr w6 ((blk w.heap.size).add 2) ∧
 Nw (w6.setCell ((blk w.heap.size).add 2) (.int .i64 (0 : Int))) fun w7 =>
 Wr w7 ((blk w.heap.size).add 3) ∧
 Nw (w7.setCell ((blk w.heap.size).add 3) (.bool false)) fun w8 =>
 Wr w8 ((blk w.heap.size).add 4) ∧
 Nw (w8.setCell ((blk w.heap.size).add 4) (.int .u32 (0 : Int))) fun w9 =>
 Wr w9 ((blk w.heap.size).add 5) ∧
 Nw (w9.setCell ((blk w.heap.size).add 5) (.int .u32 (0 : Int))) fun w10 =>
 Wr w10 ((blk w.heap.size).add 6) ∧
 Nw (w10.setCell ((blk w.heap.size).add 6) (.int .i64 (0 : Int))) fun w11 =>
 Wr w11 ((blk w.heap.size).add 7) ∧
 Nw (w11.setCell ((blk w.heap.size).add 7) (.slice none 0 0)) fun w12 =>
 ldI w12 ((blk w.heap.size).add 0) .u8 fun x14 =>
 ldI w12 ((blk w.heap.size).add 1) .i64 fun x15 =>
 ldI w12 ((blk w.heap.size).add 2) .i64 fun x16 =>
 ldB w12 ((blk w.heap.size).add 3) fun x17 =>
 ldI w12 ((blk w.heap.size).add 4) .u32 fun x18 =>
 ldI w12 ((blk w.heap.size).add 5) .u32 fun x19 =>
 ldI w12 ((blk w.heap.size).add 6) .i64 fun x20 =>
 ldS w12 ((blk w.heap.size).add 7) fun x21 =>
 R (.tuple #[(.agg #[(.int .u8 x14), (.int .i64 x15), (.int .i64 x16), (.bool x17), (.int .u32 x18), (.int .u32 x19), (.int .i64 x20), (.slice x21.a x21.l x21.c)]), (.int .i64 (100 : Int))]) w12)
 (m3 (()) w4))
 (m3 (()) w4)))
 (fun s4 w13 =>
 n2 ((IntKind.i64.wrap (s1.1 + (1 : Int))), ()) w13))
 (Wr w2 (blk w.heap.size) ∧
 Nw (w2.setCell (blk w.heap.size) (.int .u8 (8 : Int))) fun w14 =>
 Wr w14 ((blk w.heap.size).add 1) ∧
 Nw (w14.setCell ((blk w.heap.size).add 1) (.int .i64 (0 : Int))) fun w15 =>
 Wr w15 ((blk w.heap.size).add 2) ∧
 Nw (w15.setCell ((blk w.heap.size).add 2) (.int .i64 (0 : Int))) fun w16 =>
 Wr w16 ((blk w.heap.size).add 3) ∧
 Nw (w16.setCell ((blk w.heap.size).add 3) (.bool false)) fun w17 =>
 Wr w17 ((blk w.heap.size).add 4) ∧
 Nw (w17.setCell ((blk w.heap.size).add 4) (.int .u32 (0 : Int))) fun w18 =>
 Wr w18 ((blk w.heap.size).add 5) ∧
 Nw (w18.setCell ((blk w.heap.size).add 5) (.int .u32 (0 : Int))) fun w19 =>
 Wr w19 ((blk w.heap.size).add 6) ∧
 Nw (w19.setCell ((blk w.heap.size).add 6) (.int .i64 (0 : Int))) fun w20 =>
 Wr w20 ((blk w.heap.size).add 7) ∧
 Nw (w20.setCell ((blk w.heap.size).add 7) (.slice p1.a p1.l p1.c)) fun w21 =>
 ldI w21 ((blk w.heap.size).add 0) .u8 fun x22 =>
 ldI w21 ((blk w.heap.size).add 1) .i64 fun x23 =>
 ldI w21 ((blk w.heap.size).add 2) .i64 fun x24 =>
 ldB w21 ((blk w.heap.size).add 3) fun x25 =>
 ldI w21 ((blk w.heap.size).add 4) .u32 fun x26 =>
 ldI w21 ((blk w.heap.size).add 5) .u32 fun x27 =>
 ldI w21 ((blk w.heap.size).add 6) .i64 fun x28 =>
 ldS w21 ((blk w.heap.size).add 7) fun x29 =>
 R (.tuple #[(.agg #[(.int .u8 x22), (.int .i64 x23), (.int .i64 x24), (.bool x25), (.int .u32 x26), (.int .u32 x27), (.int .i64 x28), (.slice x29.a x29.l x29.c)]), (.int .i64 (0 : Int))]) w21))
 ((0 : Int), ()) w1
theorem types_Table_function_calls (p0 : Option Addr) (p1 : Sl) (R : Value → World → Prop) (w : World) (h : L_types_Table_function p0 p1 R w) : Calls Tryz.prog 143 #[(.pointer p0), (.slice p1.a p1.l p1.c)] w (Ret R) :=
 lw_calls (fs := Tryz.fs) (an := a_types_Table_function) (args := [(.pointer p0), (.slice p1.a p1.l p1.c)]) Tryz.fsOK Tryz.mixed Tryz.func143 (by kernel_rfl) (by kernel_rfl)
 (Eq.mpr (by kernel_rfl : lwFn Tryz.prog Tryz.fs Tryz.f143 a_types_Table_function [(.pointer p0), (.slice p1.a p1.l p1.c)] w R = L_types_Table_function p0 p1 R w) h)

/-- (*intaglio.types.Table).Plain -/
def a_types_Table_Plain : Ann := (.seq none .nil (.seq none .nil .nil))
def L_types_Table_Plain (p0 : Option Addr) (p1 : Int) (R : Value → World → Prop) (w : World) : Prop :=
 callR Tryz.prog 69 #[(.pointer p0), (.int .u32 p1)] w fun v1 w1 =>
 ∃ x2 : (Int × Int × Int × Bool × Int × Int × Int × Sl × Unit), v1 = (.agg #[(.int .u8 x2.1), (.int .i64 x2.2.1), (.int .i64 x2.2.2.1), (.bool x2.2.2.2.1), (.int .u32 x2.2.2.2.2.1), (.int .u32 x2.2.2.2.2.2.1), (.int .i64 x2.2.2.2.2.2.2.1), (.slice x2.2.2.2.2.2.2.2.1.a x2.2.2.2.2.2.2.2.1.l x2.2.2.2.2.2.2.2.1.c)]) ∧
 R (.bool (decide (x2.2.1 > (0 : Int)))) w1
theorem types_Table_Plain_calls (p0 : Option Addr) (p1 : Int) (R : Value → World → Prop) (w : World) (h : L_types_Table_Plain p0 p1 R w) : Calls Tryz.prog 146 #[(.pointer p0), (.int .u32 p1)] w (Ret R) :=
 lw_calls (fs := Tryz.fs) (an := a_types_Table_Plain) (args := [(.pointer p0), (.int .u32 p1)]) Tryz.fsOK Tryz.mixed Tryz.func146 (by kernel_rfl) (by kernel_rfl)
 (Eq.mpr (by kernel_rfl : lwFn Tryz.prog Tryz.fs Tryz.f146 a_types_Table_Plain [(.pointer p0), (.int .u32 p1)] w R = L_types_Table_Plain p0 p1 R w) h)

/-- (*intaglio.types.Table).Count -/
def a_types_Table_Count : Ann := (.seq none .nil (.seq none .nil (.seq none .nil .nil)))
def L_types_Table_Count (p0 : Option Addr) (p1 : Int) (R : Value → World → Prop) (w : World) : Prop :=
 callR Tryz.prog 69 #[(.pointer p0), (.int .u32 p1)] w fun v1 w1 =>
 ∃ x2 : (Int × Int × Int × Bool × Int × Int × Int × Sl × Unit), v1 = (.agg #[(.int .u8 x2.1), (.int .i64 x2.2.1), (.int .i64 x2.2.2.1), (.bool x2.2.2.2.1), (.int .u32 x2.2.2.2.2.1), (.int .u32 x2.2.2.2.2.2.1), (.int .i64 x2.2.2.2.2.2.2.1), (.slice x2.2.2.2.2.2.2.2.1.a x2.2.2.2.2.2.2.2.1.l x2.2.2.2.2.2.2.2.1.c)]) ∧
 Nw (w1.alloc (.cells #[(.int .u8 (0 : Int)), (.int .i64 (0 : Int)), (.int .i64 (0 : Int)), (.bool false), (.int .u32 (0 : Int)), (.int .u32 (0 : Int)), (.int .i64 (0 : Int)), (.slice none 0 0)] 127)) fun w2 =>
 Wr w2 (blk w1.heap.size) ∧
 Nw (w2.setCell (blk w1.heap.size) (.int .u8 x2.1)) fun w3 =>
 Wr w3 ((blk w1.heap.size).add 1) ∧
 Nw (w3.setCell ((blk w1.heap.size).add 1) (.int .i64 x2.2.1)) fun w4 =>
 Wr w4 ((blk w1.heap.size).add 2) ∧
 Nw (w4.setCell ((blk w1.heap.size).add 2) (.int .i64 x2.2.2.1)) fun w5 =>
 Wr w5 ((blk w1.heap.size).add 3) ∧
 Nw (w5.setCell ((blk w1.heap.size).add 3) (.bool x2.2.2.2.1)) fun w6 =>
 Wr w6 ((blk w1.heap.size).add 4) ∧
 Nw (w6.setCell ((blk w1.heap.size).add 4) (.int .u32 x2.2.2.2.2.1)) fun w7 =>
 Wr w7 ((blk w1.heap.size).add 5) ∧
 Nw (w7.setCell ((blk w1.heap.size).add 5) (.int .u32 x2.2.2.2.2.2.1)) fun w8 =>
 Wr w8 ((blk w1.heap.size).add 6) ∧
 Nw (w8.setCell ((blk w1.heap.size).add 6) (.int .i64 x2.2.2.2.2.2.2.1)) fun w9 =>
 Wr w9 ((blk w1.heap.size).add 7) ∧
 Nw (w9.setCell ((blk w1.heap.size).add 7) (.slice x2.2.2.2.2.2.2.2.1.a x2.2.2.2.2.2.2.2.1.l x2.2.2.2.2.2.2.2.1.c)) fun w10 =>
 ldI w10 ((blk w1.heap.size).add 6) .i64 fun x3 =>
 ldS w10 ((blk w1.heap.size).add 7) fun x4 =>
 R (.int .i64 (IntKind.i64.wrap (x3 + (x4.l : Int)))) w10
theorem types_Table_Count_calls (p0 : Option Addr) (p1 : Int) (R : Value → World → Prop) (w : World) (h : L_types_Table_Count p0 p1 R w) : Calls Tryz.prog 148 #[(.pointer p0), (.int .u32 p1)] w (Ret R) :=
 lw_calls (fs := Tryz.fs) (an := a_types_Table_Count) (args := [(.pointer p0), (.int .u32 p1)]) Tryz.fsOK Tryz.mixed Tryz.func148 (by kernel_rfl) (by kernel_rfl)
 (Eq.mpr (by kernel_rfl : lwFn Tryz.prog Tryz.fs Tryz.f148 a_types_Table_Count [(.pointer p0), (.int .u32 p1)] w R = L_types_Table_Count p0 p1 R w) h)

/-- (*intaglio.types.Table).Part -/
def a_types_Table_Part : Ann := (.seq none .nil (.seq none .nil (.seq (some ⟨[2, 8], []⟩) (.one (.seq none .nil (.cond (.seq none .nil .nil) (.seq none .nil (.cond (.seq none .nil .nil) .nil))))) (.seq none .nil .nil))))
def L_types_Table_Part (p0 : Option Addr) (p1 : Int) (p2 : Int) (R : Value → World → Prop) (w : World) : Prop :=
 callR Tryz.prog 69 #[(.pointer p0), (.int .u32 p1)] w fun v1 w1 =>
 ∃ x2 : (Int × Int × Int × Bool × Int × Int × Int × Sl × Unit), v1 = (.agg #[(.int .u8 x2.1), (.int .i64 x2.2.1), (.int .i64 x2.2.2.1), (.bool x2.2.2.2.1), (.int .u32 x2.2.2.2.2.1), (.int .u32 x2.2.2.2.2.2.1), (.int .i64 x2.2.2.2.2.2.2.1), (.slice x2.2.2.2.2.2.2.2.1.a x2.2.2.2.2.2.2.2.1.l x2.2.2.2.2.2.2.2.1.c)]) ∧
 Nw (w1.alloc (.cells #[(.int .u8 (0 : Int)), (.int .i64 (0 : Int)), (.int .i64 (0 : Int)), (.bool false), (.int .u32 (0 : Int)), (.int .u32 (0 : Int)), (.int .i64 (0 : Int)), (.slice none 0 0)] 127)) fun w2 =>
 Wr w2 (blk w1.heap.size) ∧
 Nw (w2.setCell (blk w1.heap.size) (.int .u8 x2.1)) fun w3 =>
 Wr w3 ((blk w1.heap.size).add 1) ∧
 Nw (w3.setCell ((blk w1.heap.size).add 1) (.int .i64 x2.2.1)) fun w4 =>
 Wr w4 ((blk w1.heap.size).add 2) ∧
 Nw (w4.setCell ((blk w1.heap.size).add 2) (.int .i64 x2.2.2.1)) fun w5 =>
 Wr w5 ((blk w1.heap.size).add 3) ∧
 Nw (w5.setCell ((blk w1.heap.size).add 3) (.bool x2.2.2.2.1)) fun w6 =>
 Wr w6 ((blk w1.heap.size).add 4) ∧
 Nw (w6.setCell ((blk w1.heap.size).add 4) (.int .u32 x2.2.2.2.2.1)) fun w7 =>
 Wr w7 ((blk w1.heap.size).add 5) ∧
 Nw (w7.setCell ((blk w1.heap.size).add 5) (.int .u32 x2.2.2.2.2.2.1)) fun w8 =>
 Wr w8 ((blk w1.heap.size).add 6) ∧
 Nw (w8.setCell ((blk w1.heap.size).add 6) (.int .i64 x2.2.2.2.2.2.2.1)) fun w9 =>
 Wr w9 ((blk w1.heap.size).add 7) ∧
 Nw (w9.setCell ((blk w1.heap.size).add 7) (.slice x2.2.2.2.2.2.2.2.1.a x2.2.2.2.2.2.2.2.1.l x2.2.2.2.2.2.2.2.1.c)) fun w10 =>
 JoinW (S := Unit) (fun m3 =>
 ifB (decide (p2 < (0 : Int)))
 (R (.tuple #[(.int .u32 (0 : Int)), (.bool false)]) w10)
 (ldI w10 ((blk w1.heap.size).add 6) .i64 fun x5 =>
 ldS w10 ((blk w1.heap.size).add 7) fun x6 =>
 ifB (decide (p2 ≥ (IntKind.i64.wrap (x5 + (x6.l : Int)))))
 (R (.tuple #[(.int .u32 (0 : Int)), (.bool false)]) w10)
 (ldI w10 ((blk w1.heap.size).add 6) .i64 fun x7 =>
 ifB (decide (x7 > (0 : Int)))
 (ldI w10 ((blk w1.heap.size).add 5) .u32 fun x8 =>
 R (.tuple #[(.int .u32 x8), (.bool true)]) w10)
 (m3 (()) w10))))
 (fun s4 w11 =>
 ldS w11 ((blk w1.heap.size).add 7) fun x9 =>
 (0 ≤ p2 ∧ p2 < (x9.l : Int)) ∧
 derefP x9.a fun a10 =>
 ldI w11 (a10.add (Int.toNat p2)) .u32 fun x11 =>
 R (.tuple #[(.int .u32 x11), (.bool true)]) w11)
theorem types_Table_Part_calls (p0 : Option Addr) (p1 : Int) (p2 : Int) (R : Value → World → Prop) (w : World) (h : L_types_Table_Part p0 p1 p2 R w) : Calls Tryz.prog 149 #[(.pointer p0), (.int .u32 p1), (.int .i64 p2)] w (Ret R) :=
 lw_calls (fs := Tryz.fs) (an := a_types_Table_Part) (args := [(.pointer p0), (.int .u32 p1), (.int .i64 p2)]) Tryz.fsOK Tryz.mixed Tryz.func149 (by kernel_rfl) (by kernel_rfl)
 (Eq.mpr (by kernel_rfl : lwFn Tryz.prog Tryz.fs Tryz.f149 a_types_Table_Part [(.pointer p0), (.int .u32 p1), (.int .i64 p2)] w R = L_types_Table_Part p0 p1 p2 R w) h)

/-- (*intaglio.types.Table).Class -/
def a_types_Table_Class : Ann := (.seq none .nil (.seq none .nil (.seq none .nil .nil)))
def L_types_Table_Class (p0 : Option Addr) (p1 : Int) (R : Value → World → Prop) (w : World) : Prop :=
 callR Tryz.prog 69 #[(.pointer p0), (.int .u32 p1)] w fun v1 w1 =>
 ∃ x2 : (Int × Int × Int × Bool × Int × Int × Int × Sl × Unit), v1 = (.agg #[(.int .u8 x2.1), (.int .i64 x2.2.1), (.int .i64 x2.2.2.1), (.bool x2.2.2.2.1), (.int .u32 x2.2.2.2.2.1), (.int .u32 x2.2.2.2.2.2.1), (.int .i64 x2.2.2.2.2.2.2.1), (.slice x2.2.2.2.2.2.2.2.1.a x2.2.2.2.2.2.2.2.1.l x2.2.2.2.2.2.2.2.1.c)]) ∧
 Nw (w1.alloc (.cells #[(.int .u8 (0 : Int)), (.int .i64 (0 : Int)), (.int .i64 (0 : Int)), (.bool false), (.int .u32 (0 : Int)), (.int .u32 (0 : Int)), (.int .i64 (0 : Int)), (.slice none 0 0)] 127)) fun w2 =>
 Wr w2 (blk w1.heap.size) ∧
 Nw (w2.setCell (blk w1.heap.size) (.int .u8 x2.1)) fun w3 =>
 Wr w3 ((blk w1.heap.size).add 1) ∧
 Nw (w3.setCell ((blk w1.heap.size).add 1) (.int .i64 x2.2.1)) fun w4 =>
 Wr w4 ((blk w1.heap.size).add 2) ∧
 Nw (w4.setCell ((blk w1.heap.size).add 2) (.int .i64 x2.2.2.1)) fun w5 =>
 Wr w5 ((blk w1.heap.size).add 3) ∧
 Nw (w5.setCell ((blk w1.heap.size).add 3) (.bool x2.2.2.2.1)) fun w6 =>
 Wr w6 ((blk w1.heap.size).add 4) ∧
 Nw (w6.setCell ((blk w1.heap.size).add 4) (.int .u32 x2.2.2.2.2.1)) fun w7 =>
 Wr w7 ((blk w1.heap.size).add 5) ∧
 Nw (w7.setCell ((blk w1.heap.size).add 5) (.int .u32 x2.2.2.2.2.2.1)) fun w8 =>
 Wr w8 ((blk w1.heap.size).add 6) ∧
 Nw (w8.setCell ((blk w1.heap.size).add 6) (.int .i64 x2.2.2.2.2.2.2.1)) fun w9 =>
 Wr w9 ((blk w1.heap.size).add 7) ∧
 Nw (w9.setCell ((blk w1.heap.size).add 7) (.slice x2.2.2.2.2.2.2.2.1.a x2.2.2.2.2.2.2.2.1.l x2.2.2.2.2.2.2.2.1.c)) fun w10 =>
 ldI w10.drew ((blk w1.heap.size).add 4) .u32 fun x3 =>
 ldI w10.drew (blk w1.heap.size) .u8 fun x4 =>
 R (.tuple #[(.int .u32 x3), (.bool (x4 == (7 : Int)))]) w10.drew
theorem types_Table_Class_calls (p0 : Option Addr) (p1 : Int) (R : Value → World → Prop) (w : World) (h : L_types_Table_Class p0 p1 R w) : Calls Tryz.prog 151 #[(.pointer p0), (.int .u32 p1)] w (Ret R) :=
 lw_calls (fs := Tryz.fs) (an := a_types_Table_Class) (args := [(.pointer p0), (.int .u32 p1)]) Tryz.fsOK Tryz.mixed Tryz.func151 (by kernel_rfl) (by kernel_rfl)
 (Eq.mpr (by kernel_rfl : lwFn Tryz.prog Tryz.fs Tryz.f151 a_types_Table_Class [(.pointer p0), (.int .u32 p1)] w R = L_types_Table_Class p0 p1 R w) h)

/-- intaglio.types.whole -/
def a_types_whole : Ann := (.seq none .nil (.seq none .nil (.seq none .nil (.seq none (.one (.seq none .nil (.cond (.seq none .nil .nil) (.seq none .nil (.cond (.seq none .nil .nil) .nil))))) (.seq none .nil .nil)))))
def L_types_whole (p0 : (Int × Int × Int × Bool × Int × Int × Int × Sl × Unit)) (p1 : Int) (p2 : Int) (R : Value → World → Prop) (w : World) : Prop :=
 Nw (w.alloc (.cells #[(.int .u8 p0.1), (.int .i64 p0.2.1), (.int .i64 p0.2.2.1), (.bool p0.2.2.2.1), (.int .u32 p0.2.2.2.2.1), (.int .u32 p0.2.2.2.2.2.1), (.int .i64 p0.2.2.2.2.2.2.1), (.slice p0.2.2.2.2.2.2.2.1.a p0.2.2.2.2.2.2.2.1.l p0.2.2.2.2.2.2.2.1.c)] 127)) fun w1 =>
 Nw (w1.alloc (.cells #[(.int .u8 (0 : Int)), (.int .i64 (0 : Int)), (.int .i64 (0 : Int)), (.bool false), (.int .u32 (0 : Int)), (.int .u32 (0 : Int)), (.int .i64 (0 : Int)), (.slice none 0 0)] 127)) fun w2 =>
 Wr w2 ((blk w.heap.size).add 1) ∧
 Nw (w2.setCell ((blk w.heap.size).add 1) (.int .i64 p1)) fun w3 =>
 Wr w3 ((blk w.heap.size).add 2) ∧
 Nw (w3.setCell ((blk w.heap.size).add 2) (.int .i64 (IntKind.i64.wrap (p2 + (1 : Int))))) fun w4 =>
 ifB (decide (p1 > (4096 : Int)))
 (Wr w4 (blk w1.heap.size) ∧
 Nw (w4.setCell (blk w1.heap.size) (.int .u8 (0 : Int))) fun w5 =>
 Wr w5 ((blk w1.heap.size).add 1) ∧
 Nw (w5.setCell ((blk w1.heap.size).add 1) (.int .i64 (0 : Int))) fun w6 =>
 Wr w6 ((blk w1.heap.size).add 2) ∧
 Nw (w6.setCell ((blk w1.heap.size).add 2) (.int .i64 (0 : Int))) fun w7 =>
 Wr w7 ((blk w1.heap.size).add 3) ∧
 Nw (w7.setCell ((blk w1.heap.size).add 3) (.bool false)) fun w8 =>
 Wr w8 ((blk w1.heap.size).add 4) ∧
 Nw (w8.setCell ((blk w1.heap.size).add 4) (.int .u32 (0 : Int))) fun w9 =>
 Wr w9 ((blk w1.heap.size).add 5) ∧
 Nw (w9.setCell ((blk w1.heap.size).add 5) (.int .u32 (0 : Int))) fun w10 =>
 Wr w10 ((blk w1.heap.size).add 6) ∧
 Nw (w10.setCell ((blk w1.heap.size).add 6) (.int .i64 (0 : Int))) fun w11 =>
 Wr w11 ((blk w1.heap.size).add 7) ∧
 Nw (w11.setCell ((blk w1.heap.size).add 7) (.slice none 0 0)) fun w12 =>
 ldI w12 ((blk w1.heap.size).add 0) .u8 fun x1 =>
 ldI w12 ((blk w1.heap.size).add 1) .i64 fun x2 =>
 ldI w12 ((blk w1.heap.size).add 2) .i64 fun x3 =>
 ldB w12 ((blk w1.heap.size).add 3) fun x4 =>
 ldI w12 ((blk w1.heap.size).add 4) .u32 fun x5 =>
 ldI w12 ((blk w1.heap.size).add 5) .u32 fun x6 =>
 ldI w12 ((blk w1.heap.size).add 6) .i64 fun x7 =>
 ldS w12 ((blk w1.heap.size).add 7) fun x8 =>
 R (.tuple #[(.agg #[(.int .u8 x1), (.int .i64 x2), (.int .i64 x3), (.bool x4), (.int .u32 x5), (.int .u32 x6), (.int .i64 x7), (.slice x8.a x8.l x8.c)]), (.int .i64 (102 : Int))]) w12)
 (ldI w4 ((blk w.heap.size).add 2) .i64 fun x9 =>
 ifB (decide (x9 > (16 : Int)))
 (Wr w4 (blk w1.heap.size) ∧
 Nw (w4.setCell (blk w1.heap.size) (.int .u8 (0 : Int))) fun w13 =>
 Wr w13 ((blk w1.heap.size).add 1) ∧
 Nw (w13.setCell ((blk w1.heap.size).add 1) (.int .i64 (0 : Int))) fun w14 =>
 Wr w14 ((blk w1.heap.size).add 2) ∧
 Nw (w14.setCell ((blk w1.heap.size).add 2) (.int .i64 (0 : Int))) fun w15 =>
 Wr w15 ((blk w1.heap.size).add 3) ∧
 Nw (w15.setCell ((blk w1.heap.size).add 3) (.bool false)) fun w16 =>
 Wr w16 ((blk w1.heap.size).add 4) ∧
 Nw (w16.setCell ((blk w1.heap.size).add 4) (.int .u32 (0 : Int))) fun w17 =>
 Wr w17 ((blk w1.heap.size).add 5) ∧
 Nw (w17.setCell ((blk w1.heap.size).add 5) (.int .u32 (0 : Int))) fun w18 =>
 Wr w18 ((blk w1.heap.size).add 6) ∧
 Nw (w18.setCell ((blk w1.heap.size).add 6) (.int .i64 (0 : Int))) fun w19 =>
 Wr w19 ((blk w1.heap.size).add 7) ∧
 Nw (w19.setCell ((blk w1.heap.size).add 7) (.slice none 0 0)) fun w20 =>
 ldI w20 ((blk w1.heap.size).add 0) .u8 fun x10 =>
 ldI w20 ((blk w1.heap.size).add 1) .i64 fun x11 =>
 ldI w20 ((blk w1.heap.size).add 2) .i64 fun x12 =>
 ldB w20 ((blk w1.heap.size).add 3) fun x13 =>
 ldI w20 ((blk w1.heap.size).add 4) .u32 fun x14 =>
 ldI w20 ((blk w1.heap.size).add 5) .u32 fun x15 =>
 ldI w20 ((blk w1.heap.size).add 6) .i64 fun x16 =>
 ldS w20 ((blk w1.heap.size).add 7) fun x17 =>
 R (.tuple #[(.agg #[(.int .u8 x10), (.int .i64 x11), (.int .i64 x12), (.bool x13), (.int .u32 x14), (.int .u32 x15), (.int .i64 x16), (.slice x17.a x17.l x17.c)]), (.int .i64 (4 : Int))]) w20)
 (ldI w4 ((blk w.heap.size).add 0) .u8 fun x18 =>
 ldI w4 ((blk w.heap.size).add 1) .i64 fun x19 =>
 ldI w4 ((blk w.heap.size).add 2) .i64 fun x20 =>
 ldB w4 ((blk w.heap.size).add 3) fun x21 =>
 ldI w4 ((blk w.heap.size).add 4) .u32 fun x22 =>
 ldI w4 ((blk w.heap.size).add 5) .u32 fun x23 =>
 ldI w4 ((blk w.heap.size).add 6) .i64 fun x24 =>
 ldS w4 ((blk w.heap.size).add 7) fun x25 =>
 Wr w4 (blk w1.heap.size) ∧
 Nw (w4.setCell (blk w1.heap.size) (.int .u8 x18)) fun w21 =>
 Wr w21 ((blk w1.heap.size).add 1) ∧
 Nw (w21.setCell ((blk w1.heap.size).add 1) (.int .i64 x19)) fun w22 =>
 Wr w22 ((blk w1.heap.size).add 2) ∧
 Nw (w22.setCell ((blk w1.heap.size).add 2) (.int .i64 x20)) fun w23 =>
 Wr w23 ((blk w1.heap.size).add 3) ∧
 Nw (w23.setCell ((blk w1.heap.size).add 3) (.bool x21)) fun w24 =>
 Wr w24 ((blk w1.heap.size).add 4) ∧
 Nw (w24.setCell ((blk w1.heap.size).add 4) (.int .u32 x22)) fun w25 =>
 Wr w25 ((blk w1.heap.size).add 5) ∧
 Nw (w25.setCell ((blk w1.heap.size).add 5) (.int .u32 x23)) fun w26 =>
 Wr w26 ((blk w1.heap.size).add 6) ∧
 Nw (w26.setCell ((blk w1.heap.size).add 6) (.int .i64 x24)) fun w27 =>
 Wr w27 ((blk w1.heap.size).add 7) ∧
 Nw (w27.setCell ((blk w1.heap.size).add 7) (.slice x25.a x25.l x25.c)) fun w28 =>
 ldI w28 ((blk w1.heap.size).add 0) .u8 fun x26 =>
 ldI w28 ((blk w1.heap.size).add 1) .i64 fun x27 =>
 ldI w28 ((blk w1.heap.size).add 2) .i64 fun x28 =>
 ldB w28 ((blk w1.heap.size).add 3) fun x29 =>
 ldI w28 ((blk w1.heap.size).add 4) .u32 fun x30 =>
 ldI w28 ((blk w1.heap.size).add 5) .u32 fun x31 =>
 ldI w28 ((blk w1.heap.size).add 6) .i64 fun x32 =>
 ldS w28 ((blk w1.heap.size).add 7) fun x33 =>
 R (.tuple #[(.agg #[(.int .u8 x26), (.int .i64 x27), (.int .i64 x28), (.bool x29), (.int .u32 x30), (.int .u32 x31), (.int .i64 x32), (.slice x33.a x33.l x33.c)]), (.int .i64 (0 : Int))]) w28))
theorem types_whole_calls (p0 : (Int × Int × Int × Bool × Int × Int × Int × Sl × Unit)) (p1 : Int) (p2 : Int) (R : Value → World → Prop) (w : World) (h : L_types_whole p0 p1 p2 R w) : Calls Tryz.prog 178 #[(.agg #[(.int .u8 p0.1), (.int .i64 p0.2.1), (.int .i64 p0.2.2.1), (.bool p0.2.2.2.1), (.int .u32 p0.2.2.2.2.1), (.int .u32 p0.2.2.2.2.2.1), (.int .i64 p0.2.2.2.2.2.2.1), (.slice p0.2.2.2.2.2.2.2.1.a p0.2.2.2.2.2.2.2.1.l p0.2.2.2.2.2.2.2.1.c)]), (.int .i64 p1), (.int .i64 p2)] w (Ret R) :=
 lw_calls (fs := Tryz.fs) (an := a_types_whole) (args := [(.agg #[(.int .u8 p0.1), (.int .i64 p0.2.1), (.int .i64 p0.2.2.1), (.bool p0.2.2.2.1), (.int .u32 p0.2.2.2.2.1), (.int .u32 p0.2.2.2.2.2.1), (.int .i64 p0.2.2.2.2.2.2.1), (.slice p0.2.2.2.2.2.2.2.1.a p0.2.2.2.2.2.2.2.1.l p0.2.2.2.2.2.2.2.1.c)]), (.int .i64 p1), (.int .i64 p2)]) Tryz.fsOK Tryz.mixed Tryz.func178 (by kernel_rfl) (by kernel_rfl)
 (Eq.mpr (by kernel_rfl : lwFn Tryz.prog Tryz.fs Tryz.f178 a_types_whole [(.agg #[(.int .u8 p0.1), (.int .i64 p0.2.1), (.int .i64 p0.2.2.1), (.bool p0.2.2.2.1), (.int .u32 p0.2.2.2.2.1), (.int .u32 p0.2.2.2.2.2.1), (.int .i64 p0.2.2.2.2.2.2.1), (.slice p0.2.2.2.2.2.2.2.1.a p0.2.2.2.2.2.2.2.1.l p0.2.2.2.2.2.2.2.1.c)]), (.int .i64 p1), (.int .i64 p2)] w R = L_types_whole p0 p1 p2 R w) h)

/-- (*intaglio.types.Table).Kind -/
def a_types_Table_Kind : Ann := (.seq none .nil (.seq none .nil .nil))
def L_types_Table_Kind (p0 : Option Addr) (p1 : Int) (R : Value → World → Prop) (w : World) : Prop :=
 callR Tryz.prog 69 #[(.pointer p0), (.int .u32 p1)] w fun v1 w1 =>
 ∃ x2 : (Int × Int × Int × Bool × Int × Int × Int × Sl × Unit), v1 = (.agg #[(.int .u8 x2.1), (.int .i64 x2.2.1), (.int .i64 x2.2.2.1), (.bool x2.2.2.2.1), (.int .u32 x2.2.2.2.2.1), (.int .u32 x2.2.2.2.2.2.1), (.int .i64 x2.2.2.2.2.2.2.1), (.slice x2.2.2.2.2.2.2.2.1.a x2.2.2.2.2.2.2.2.1.l x2.2.2.2.2.2.2.2.1.c)]) ∧
 R (.int .u8 x2.1) w1
theorem types_Table_Kind_calls (p0 : Option Addr) (p1 : Int) (R : Value → World → Prop) (w : World) (h : L_types_Table_Kind p0 p1 R w) : Calls Tryz.prog 185 #[(.pointer p0), (.int .u32 p1)] w (Ret R) :=
 lw_calls (fs := Tryz.fs) (an := a_types_Table_Kind) (args := [(.pointer p0), (.int .u32 p1)]) Tryz.fsOK Tryz.mixed Tryz.func185 (by kernel_rfl) (by kernel_rfl)
 (Eq.mpr (by kernel_rfl : lwFn Tryz.prog Tryz.fs Tryz.f185 a_types_Table_Kind [(.pointer p0), (.int .u32 p1)] w R = L_types_Table_Kind p0 p1 R w) h)

end Go.Proofs
namespace Go.Proofs
open Go.Gk Go.RowKit Go.Gm

abbrev Tv := Int × Int × Int × Bool × Int × Int × Int × Sl × Unit
abbrev tyV (v : Tv) : List Value := [.int .u8 v.1, .int .i64 v.2.1, .int .i64 v.2.2.1, .bool v.2.2.2.1, .int .u32 v.2.2.2.2.1, .int .u32 v.2.2.2.2.2.1, .int .i64 v.2.2.2.2.2.2.1, .slice v.2.2.2.2.2.2.2.1.a v.2.2.2.2.2.2.2.1.l v.2.2.2.2.2.2.2.1.c]
abbrev tyA (v : Tv) : Value := .agg #[.int .u8 v.1, .int .i64 v.2.1, .int .i64 v.2.2.1, .bool v.2.2.2.1, .int .u32 v.2.2.2.2.1, .int .u32 v.2.2.2.2.2.1, .int .i64 v.2.2.2.2.2.2.1, .slice v.2.2.2.2.2.2.2.1.a v.2.2.2.2.2.2.2.1.l v.2.2.2.2.2.2.2.1.c]
abbrev tyK : List BK := [(.int .u8), (.int .i64), (.int .i64), .bool, (.int .u32), (.int .u32), (.int .i64), .slice]
def tv0 : Tv := (0, 0, 0, false, 0, 0, 0, ⟨none, 0, 0⟩, ())
abbrev ty0 : Array Value := #[(.int .u8 (0 : Int)), (.int .i64 (0 : Int)), (.int .i64 (0 : Int)), (.bool false), (.int .u32 (0 : Int)), (.int .u32 (0 : Int)), (.int .i64 (0 : Int)), (.slice none 0 0)]
/-- Two lists, element by element. -/
inductive Al2 {α β : Type} (R : α → β → Prop) : List α → List β → Prop
  | nil : Al2 R [] []
  | cons {a : α} {c : β} {l : List α} {m : List β} (h : R a c) (t : Al2 R l m) : Al2 R (a :: l) (c :: m)
theorem boxT {T : TypeId} {cs : Array Value} {v0 v1 v2 v3 v4 v5 v6 v7 : Value} {K : World → Prop} {w : World} (hl : cs.size = 8) (hK : ∀ w', Blk w' w.heap.size T [v0, v1, v2, v3, v4, v5, v6, v7] → Below w.heap.size w w' → w'.heap.size = w.heap.size + 1 → K w') :
    Nw (w.alloc (.cells cs T)) fun w0 => Wr w0 (blk w.heap.size) ∧ Nw (w0.setCell (blk w.heap.size) v0) fun w1 => Wr w1 ((blk w.heap.size).add 1) ∧ Nw (w1.setCell ((blk w.heap.size).add 1) v1) fun w2 => Wr w2 ((blk w.heap.size).add 2) ∧ Nw (w2.setCell ((blk w.heap.size).add 2) v2) fun w3 => Wr w3 ((blk w.heap.size).add 3) ∧ Nw (w3.setCell ((blk w.heap.size).add 3) v3) fun w4 =>
      Wr w4 ((blk w.heap.size).add 4) ∧ Nw (w4.setCell ((blk w.heap.size).add 4) v4) fun w5 => Wr w5 ((blk w.heap.size).add 5) ∧ Nw (w5.setCell ((blk w.heap.size).add 5) v5) fun w6 => Wr w6 ((blk w.heap.size).add 6) ∧ Nw (w6.setCell ((blk w.heap.size).add 6) v6) fun w7 => Wr w7 ((blk w.heap.size).add 7) ∧ Nw (w7.setCell ((blk w.heap.size).add 7) v7) fun w8 => K w8 :=
  box_of (vs := [v0, v1, v2, v3, v4, v5, v6, v7]) hl hK
section
variable {w w' : World} {R : Value → World → Prop} {B tb r b : Nat} {v : Tv} {t : Tp} {T : TyL} {id : Int}
theorem Tv.load {Ty : TypeId} (h : Blk w b Ty (tyV v)) {φ : Int → Int → Int → Bool → Int → Int → Int → Sl → Prop} (hφ : φ v.1 v.2.1 v.2.2.1 v.2.2.2.1 v.2.2.2.2.1 v.2.2.2.2.2.1 v.2.2.2.2.2.2.1 v.2.2.2.2.2.2.2.1) :
    ldI w ((blk b).add 0) .u8 fun x1 => ldI w ((blk b).add 1) .i64 fun x2 => ldI w ((blk b).add 2) .i64 fun x3 => ldB w ((blk b).add 3) fun x4 => ldI w ((blk b).add 4) .u32 fun x5 => ldI w ((blk b).add 5) .u32 fun x6 => ldI w ((blk b).add 6) .i64 fun x7 => ldS w ((blk b).add 7) fun x8 => φ x1 x2 x3 x4 x5 x6 x7 x8 :=
  ⟨_, h.cell (n := 0) rfl, _, h.cell (n := 1) rfl, _, h.cell (n := 2) rfl, _, h.cell (n := 3) rfl, _, h.cell (n := 4) rfl, _, h.cell (n := 5) rfl, _, h.cell (n := 6) rfl, _, h.cell (n := 7) rfl, hφ⟩
/-- A type's value in memory; what it has made lies from B on. -/
structure TvOk (B : Nat) (w : World) (v : Tv) (t : Tp) : Prop where
  kind : v.1 = t.kind
  size : v.2.1 = (t.size : Int)
  depth : v.2.2.1 = (t.depth : Int)
  sg : v.2.2.2.1 = t.sg
  cls : v.2.2.2.2.1 = t.cls
  part : v.2.2.2.2.2.1 = t.part
  times : v.2.2.2.2.2.2.1 = (t.times : Int)
  ps : IsS (Value.int .u32) w v.2.2.2.2.2.2.2.1 t.ps
  fr : Fresh B v.2.2.2.2.2.2.2.1
theorem nilS {α : Type} (f : α → Value) (w : World) : IsS f w ⟨none, 0, 0⟩ [] := (Own.nil w 22 1 : Own w 22 1 ⟨none, 0, 0⟩ (([] : List α).map f)).isS
theorem nilFr (B : Nat) : Fresh B ⟨none, 0, 0⟩ := fun a ha => by cases ha
theorem TvOk.zero (B : Nat) (w : World) : TvOk B w tv0 tp0 := ⟨rfl, rfl, rfl, rfl, rfl, rfl, rfl, nilS _ w, nilFr B⟩
theorem TvOk.keep (h : TvOk B w v t) (hb : ∀ k, B ≤ k → k < w.heap.size → w'.heap[k]? = w.heap[k]?) : TvOk B w' v t :=
  ⟨h.kind, h.size, h.depth, h.sg, h.cls, h.part, h.times, h.ps.of_block fun a ha hlt => hb _ (h.fr a ha) hlt, h.fr⟩
theorem TvOk.below (h : TvOk B w v t) (hb : Below w.heap.size w w') : TvOk B w' v t := h.keep fun k _ h2 => hb.block k h2
theorem TvOk.mono {B' : Nat} (h : TvOk B w v t) (hB : B' ≤ B) : TvOk B' w v t := ⟨h.kind, h.size, h.depth, h.sg, h.cls, h.part, h.times, h.ps, fun a ha => Nat.le_trans hB (h.fr a ha)⟩
abbrev TyR (B : Nat) (w : World) (a : Int × Tv) (c : Int × Tp) : Prop := a.1 = c.1 ∧ TvOk B w a.2 c.2
/-- The map of a table. -/
structure IsTy (w : World) (B r : Nat) (T : TyL) : Prop where
  ex : ∃ V : List (Int × Tv), IsMq w r (aggQ tyK) V ∧ Al2 (TyR B w) V T
  lo : B ≤ r
theorem lookR {α β : Type} {R : α → β → Prop} {id : Int} : ∀ {V : List (Int × α)} {T : List (Int × β)}, Al2 (fun a c => a.1 = c.1 ∧ R a.2 c.2) V T → (lookQ V id = none ∧ lookQ T id = none) ∨ ∃ v t, lookQ V id = some v ∧ lookQ T id = some t ∧ R v t
  | [], [], _ => .inl ⟨rfl, rfl⟩
  | a :: V, c :: T, .cons h1 h2 => by
    simp only [lookQ]
    by_cases e : id = a.1
    · rw [if_pos e, if_pos (e.trans h1.1)]
      exact .inr ⟨_, _, rfl, rfl, h1.2⟩
    · rw [if_neg e, if_neg (fun q => e (q.trans h1.1.symm))]
      exact lookR h2
theorem setR {α β : Type} {R : α → β → Prop} {id : Int} {v : α} {t : β} (hv : R v t) : ∀ {V : List (Int × α)} {T : List (Int × β)}, Al2 (fun a c => a.1 = c.1 ∧ R a.2 c.2) V T → Al2 (fun a c => a.1 = c.1 ∧ R a.2 c.2) (setQ V id v) (setQ T id t)
  | [], [], _ => .cons ⟨rfl, hv⟩ .nil
  | a :: V, c :: T, .cons h1 h2 => by
    simp only [setQ]
    by_cases e : id = a.1
    · rw [if_pos e, if_pos (e.trans h1.1)]
      exact .cons ⟨rfl, hv⟩ h2
    · rw [if_neg e, if_neg (fun q => e (q.trans h1.1.symm))]
      exact .cons h1 (setR hv h2)
theorem allR {α β : Type} {R S : α → β → Prop} (h : ∀ a c, R a c → S a c) : ∀ {V : List α} {T : List β}, Al2 R V T → Al2 S V T
  | [], [], _ => .nil
  | _ :: _, _ :: _, .cons h1 h2 => .cons (h _ _ h1) (allR h h2)
theorem IsTy.keep (h : IsTy w B r T) (hb : ∀ k, B ≤ k → k < w.heap.size → w'.heap[k]? = w.heap[k]?) : IsTy w' B r T := by
  obtain ⟨⟨V, h1, h2⟩, h3⟩ := h
  exact ⟨⟨V, h1.of_block (hb r h3 h1.lt), allR (fun a c q => ⟨q.1, q.2.keep hb⟩) h2⟩, h3⟩
theorem uTy : Tryz.prog.underlying 180 = some (.map 22 127) := by kernel_rfl
theorem zTy : ∃ i, Tryz.prog.info? 127 = some i ∧ i.zero = some (aggQ tyK tv0) := by
  have h : (Tryz.prog.info? 127).map (·.zero) = some (some (aggQ tyK tv0)) := by kernel_rfl
  cases hi : Tryz.prog.info? 127 with
  | none => rw [hi] at h; cases h
  | some i => rw [hi] at h; exact ⟨i, rfl, by injection h⟩
theorem IsTy.look (h : IsTy w B r T) (hb : Below w.heap.size w w') {φ : HL tyK → Prop} (hφ : ∀ v, TvOk B w v (tA T id) → φ v) : lookVK Tryz.prog 180 (.map (some r)) (.int .u32 id) tyK w' φ := by
  obtain ⟨⟨V, h1, h2⟩, h3⟩ := h
  have key : TvOk B w ((lookQ (α := Tv) V id).getD tv0) (tA T id) := by
    unfold tA
    rcases lookR h2 (id := id) with ⟨e1, e2⟩ | ⟨v, t, e1, e2, e3⟩
    · rw [e1, e2]
      exact TvOk.zero B w
    · rw [e1, e2]
      exact e3
  exact lookVK_of (ks := tyK) (d := tv0) uTy Tryz.underlying22 zTy (h1.below hb) (hφ _ key)
/-- A table in memory; it lies from B on. -/
structure IsTb (w : World) (B tb : Nat) (T : TyL) : Prop where
  ex : ∃ (r : Nat) (o : Sl), Blk w tb 182 [.map (some r), .slice o.a o.l o.c] ∧ IsTy w B r T
  lo : B ≤ tb
theorem IsTb.keep (h : IsTb w B tb T) (hb : ∀ k, B ≤ k → k < w.heap.size → w'.heap[k]? = w.heap[k]?) : IsTb w' B tb T := by
  obtain ⟨⟨r, o, h1, h2⟩, h3⟩ := h
  exact ⟨⟨r, o, h1.of_block (hb tb h3 h1.lt), h2.keep hb⟩, h3⟩
theorem IsTb.below (h : IsTb w B tb T) (hb : Below w.heap.size w w') : IsTb w' B tb T := h.keep fun k _ h2 => hb.block k h2
theorem plain_spec (h : IsTb w B tb T) (hR : R (.bool (decide (0 < (tA T id).size))) w) : callR Tryz.prog 142 #[.pointer (some (blk tb)), .int .u32 id] w R := by
  refine callR.of (types_Table_plain_calls _ id R w ?_) fun _ _ h => h
  obtain ⟨⟨r, o, h1, h2⟩, h3⟩ := h
  refine derefP_some rfl ⟨some r, h1.cell0 rfl, h2.look (Below.refl _ _) fun v hv => ?_⟩
  have : decide (v.2.1 > (0 : Int)) = decide (0 < (tA T id).size) := by
    rw [hv.size]
    exact decide_eq_decide.2 (by omega)
  rw [this]
  exact hR
theorem at_spec (h : IsTb w B tb T) (hR : ∀ w' v, TvOk B w' v (tA T id) → Below w.heap.size w w' → R (tyA v) w') : callR Tryz.prog 69 #[.pointer (some (blk tb)), .int .u32 id] w R := by
  refine callR.of (types_Table_at_calls _ id R w ?_) fun _ _ h => h
  refine lay_of fun w1 hD1 b1 z1 => ifB_false rfl ?_
  have hD1 : Blk w1 w.heap.size 127 ty0.toList := hD1
  obtain ⟨⟨r, o, h1, hT⟩, h3⟩ := h
  refine derefP_some rfl ⟨some r, (h1.below b1).cell0 rfl, hT.look b1 fun v hv => ?_⟩
  refine st8 hD1 rfl fun w2 h2 c2 => ?_
  have b2 := c2.below b1 (Nat.le_refl _)
  exact Tv.load h2 (hR w2 v (hv.below b2) b2)
/-- A type's value, laid in a box. -/
theorem boxTy {K : World → Prop} (hK : ∀ w', Blk w' w.heap.size 127 (tyV v) → Below w.heap.size w w' → w'.heap.size = w.heap.size + 1 → K w') :
    Nw (w.alloc (.cells ty0 127)) fun w0 => Wr w0 (blk w.heap.size) ∧ Nw (w0.setCell (blk w.heap.size) (.int .u8 v.1)) fun w1 => Wr w1 ((blk w.heap.size).add 1) ∧ Nw (w1.setCell ((blk w.heap.size).add 1) (.int .i64 v.2.1)) fun w2 => Wr w2 ((blk w.heap.size).add 2) ∧ Nw (w2.setCell ((blk w.heap.size).add 2) (.int .i64 v.2.2.1)) fun w3 =>
      Wr w3 ((blk w.heap.size).add 3) ∧ Nw (w3.setCell ((blk w.heap.size).add 3) (.bool v.2.2.2.1)) fun w4 => Wr w4 ((blk w.heap.size).add 4) ∧ Nw (w4.setCell ((blk w.heap.size).add 4) (.int .u32 v.2.2.2.2.1)) fun w5 => Wr w5 ((blk w.heap.size).add 5) ∧ Nw (w5.setCell ((blk w.heap.size).add 5) (.int .u32 v.2.2.2.2.2.1)) fun w6 =>
      Wr w6 ((blk w.heap.size).add 6) ∧ Nw (w6.setCell ((blk w.heap.size).add 6) (.int .i64 v.2.2.2.2.2.2.1)) fun w7 => Wr w7 ((blk w.heap.size).add 7) ∧ Nw (w7.setCell ((blk w.heap.size).add 7) (.slice v.2.2.2.2.2.2.2.1.a v.2.2.2.2.2.2.2.1.l v.2.2.2.2.2.2.2.1.c)) fun w8 => K w8 :=
  boxT rfl hK
theorem tyKind_spec (h : IsTb w B tb T) (hR : ∀ w', Below w.heap.size w w' → R (.int .u8 (tA T id).kind) w') : callR Tryz.prog 185 #[.pointer (some (blk tb)), .int .u32 id] w R := by
  refine callR.of (types_Table_Kind_calls _ id R w ?_) fun _ _ h => h
  refine at_spec h fun w1 v hv b1 => ⟨v, rfl, ?_⟩
  have := hR w1 b1
  rwa [← hv.kind] at this
theorem tySize_spec (h : IsTb w B tb T) (hR : ∀ w', Below w.heap.size w w' → R (.int .i64 ((tA T id).size : Int)) w') : callR Tryz.prog 30 #[.pointer (some (blk tb)), .int .u32 id] w R := by
  refine callR.of (types_Table_Size_calls _ id R w ?_) fun _ _ h => h
  refine at_spec h fun w1 v hv b1 => ⟨v, rfl, ?_⟩
  have := hR w1 b1
  rwa [← hv.size] at this
theorem tyPlain_spec (h : IsTb w B tb T) (hR : ∀ w', Below w.heap.size w w' → R (.bool (decide (0 < (tA T id).size))) w') : callR Tryz.prog 146 #[.pointer (some (blk tb)), .int .u32 id] w R := by
  refine callR.of (types_Table_Plain_calls _ id R w ?_) fun _ _ h => h
  refine at_spec h fun w1 v hv b1 => ⟨v, rfl, ?_⟩
  have := hR w1 b1
  have e : decide (v.2.1 > (0 : Int)) = decide (0 < (tA T id).size) := by
    rw [hv.size]
    exact decide_eq_decide.2 (by omega)
  rwa [← e] at this
theorem tyClass_spec (h : IsTb w B tb T) (hR : ∀ w', Below w.heap.size w w' → R (.tuple #[.int .u32 (tA T id).cls, .bool ((tA T id).kind == 7)]) w') : callR Tryz.prog 151 #[.pointer (some (blk tb)), .int .u32 id] w R := by
  refine callR.of (types_Table_Class_calls _ id R w ?_) fun _ _ h => h
  refine at_spec h fun w1 v hv b1 => ⟨v, rfl, ?_⟩
  refine boxTy fun w2 h2 b2 z2 => h2.drew.rI (n := 4) rfl (h2.drew.rI0 rfl ?_)
  have := hR w2.drew (b1.on b2).drew
  rwa [← hv.cls, ← hv.kind] at this
theorem tA_few {T : TyL} (hT : TbOk T) (id : Int) : (tA T id).times ≤ 4096 ∧ (0 < (tA T id).times → (tA T id).ps = []) := by
  by_cases hs : (tA T id).kind = 0
  · unfold tA at hs ⊢
    cases hl : lookQ T id with
    | none => exact ⟨Nat.zero_le _, fun q => absurd q (by decide)⟩
    | some t =>
      rw [hl] at hs
      have := (hT id t hl).kd
      have hs : t.kind = 0 := hs
      omega
  · have h := tA_ok hT hs
    by_cases e : (tA T id).kind = 4 ∨ (tA T id).kind = 5
    · exact ⟨(h.many e).2.1, fun _ => (h.many e).2.2⟩
    · have := (h.few e).1
      exact ⟨by omega, fun q => by omega⟩
theorem tyCount_spec (h : IsTb w B tb T) (hT : TbOk T) (hR : ∀ w', Below w.heap.size w w' → R (.int .i64 ((tA T id).cnt : Int)) w') : callR Tryz.prog 148 #[.pointer (some (blk tb)), .int .u32 id] w R := by
  refine callR.of (types_Table_Count_calls _ id R w ?_) fun _ _ h => h
  refine at_spec h fun w1 v hv b1 => ⟨v, rfl, ?_⟩
  refine boxTy fun w2 h2 b2 z2 => h2.rI (n := 6) rfl (h2.rS (n := 7) rfl ?_)
  obtain ⟨t1, t2⟩ := tA_few hT id
  have hl := hv.ps.len
  have hb := hv.ps.bound
  have e : IntKind.i64.wrap (v.2.2.2.2.2.2.1 + (v.2.2.2.2.2.2.2.1.l : Int)) = ((tA T id).cnt : Int) := by
    rw [hv.times, hl]
    unfold Tp.cnt
    by_cases q : 0 < (tA T id).times
    · rw [t2 q]
      show IntKind.i64.wrap (((tA T id).times : Int) + ((0 : Nat) : Int)) = _
      rw [wrap64_in (by omega) (by omega)]
      rfl
    · have : (tA T id).times = 0 := by omega
      rw [this, wrap64_in (by omega) (by omega)]
      omega
  rw [e]
  exact hR w2 (b1.on b2)
theorem tyPart_spec {k : Int} (h : IsTb w B tb T) (hT : TbOk T) (hR : ∀ w', Below w.heap.size w w' → R (.tuple #[.int .u32 ((tA T id).prt k).1, .bool ((tA T id).prt k).2]) w') : callR Tryz.prog 149 #[.pointer (some (blk tb)), .int .u32 id, .int .i64 k] w R := by
  refine callR.of (types_Table_Part_calls _ id k R w ?_) fun _ _ h => h
  refine at_spec h fun w1 v hv b1 => ⟨v, rfl, ?_⟩
  refine boxTy fun w2 h2 b2 z2 => ?_
  have hR := hR w2 (b1.on b2)
  obtain ⟨t1, t2⟩ := tA_few hT id
  have hl := hv.ps.len
  have hb := hv.ps.bound
  have e : IntKind.i64.wrap (v.2.2.2.2.2.2.1 + (v.2.2.2.2.2.2.2.1.l : Int)) = ((tA T id).cnt : Int) := by
    rw [hv.times, hl]
    unfold Tp.cnt
    by_cases q : 0 < (tA T id).times
    · rw [t2 q]
      show IntKind.i64.wrap (((tA T id).times : Int) + ((0 : Nat) : Int)) = _
      rw [wrap64_in (by omega) (by omega)]
      rfl
    · have : (tA T id).times = 0 := by omega
      rw [this, wrap64_in (by omega) (by omega)]
      omega
  unfold Tp.prt at hR
  refine JoinW.cut (fun (_ : Unit) w' => w' = w2 ∧ 0 ≤ k ∧ k < ((tA T id).cnt : Int) ∧ ¬ 0 < (tA T id).times) ?_ ?_
  · refine ifB_dec (fun g => ?_) (fun g => ?_)
    · rw [if_pos (.inl g)] at hR
      exact hR
    refine h2.rI (n := 6) rfl (h2.rS (n := 7) rfl ?_)
    rw [e]
    refine ifB_dec (fun g2 => ?_) (fun g2 => ?_)
    · rw [if_pos (.inr g2)] at hR
      exact hR
    rw [if_neg (by omega)] at hR
    refine h2.rI (n := 6) rfl (ifB_dec (fun g3 => ?_) (fun g3 => ⟨rfl, by omega, by omega, fun q => g3 (by rw [hv.times]; omega)⟩))
    rw [hv.times] at g3
    rw [if_pos (by omega)] at hR
    refine h2.rI (n := 5) rfl ?_
    rw [hv.part]
    exact hR
  · rintro _ w3 ⟨rfl, g1, g2, g3⟩
    rw [if_neg (by omega), if_neg g3] at hR
    have hcl : (tA T id).cnt = (tA T id).ps.length := by unfold Tp.cnt; omega
    obtain ⟨j, rfl⟩ := Int.eq_ofNat_of_zero_le g1
    have hj : j < (tA T id).ps.length := by omega
    refine h2.rS (n := 7) rfl (elemU (hv.ps.below b2) hj ?_)
    rw [Int.toNat_natCast, getD_lt hj] at hR
    exact hR
end
end Go.Proofs
namespace Go.Proofs
open Go.Gk Go.RowKit Go.Gm

section
variable {w w' : World} {R : Value → World → Prop} {B B' tb r b : Nat} {v : Tv} {t : Tp} {T : TyL} {id : Int} {pl : List PI} {k : Nat}
/-- What a function that answers a type and an error does. -/
theorem outT {w1 : World} {cs : List Value} {e : Int} (hD : Blk w1 b 127 cs) (hl : cs.length = 8) (hb : w.heap.size ≤ b) (h01 : Below w.heap.size w w1) (hR : ∀ w', Below w.heap.size w w' → R (.tuple #[tyA v, .int .i64 e]) w') :
    Wr w1 (blk b) ∧ Nw (w1.setCell (blk b) (.int .u8 v.1)) fun w2 => Wr w2 ((blk b).add 1) ∧ Nw (w2.setCell ((blk b).add 1) (.int .i64 v.2.1)) fun w3 => Wr w3 ((blk b).add 2) ∧ Nw (w3.setCell ((blk b).add 2) (.int .i64 v.2.2.1)) fun w4 => Wr w4 ((blk b).add 3) ∧ Nw (w4.setCell ((blk b).add 3) (.bool v.2.2.2.1)) fun w5 =>
      Wr w5 ((blk b).add 4) ∧ Nw (w5.setCell ((blk b).add 4) (.int .u32 v.2.2.2.2.1)) fun w6 => Wr w6 ((blk b).add 5) ∧ Nw (w6.setCell ((blk b).add 5) (.int .u32 v.2.2.2.2.2.1)) fun w7 => Wr w7 ((blk b).add 6) ∧ Nw (w7.setCell ((blk b).add 6) (.int .i64 v.2.2.2.2.2.2.1)) fun w8 => Wr w8 ((blk b).add 7) ∧ Nw (w8.setCell ((blk b).add 7) (.slice v.2.2.2.2.2.2.2.1.a v.2.2.2.2.2.2.2.1.l v.2.2.2.2.2.2.2.1.c)) fun w9 =>
      ldI w9 ((blk b).add 0) .u8 fun x1 => ldI w9 ((blk b).add 1) .i64 fun x2 => ldI w9 ((blk b).add 2) .i64 fun x3 => ldB w9 ((blk b).add 3) fun x4 => ldI w9 ((blk b).add 4) .u32 fun x5 => ldI w9 ((blk b).add 5) .u32 fun x6 => ldI w9 ((blk b).add 6) .i64 fun x7 => ldS w9 ((blk b).add 7) fun x8 =>
      R (.tuple #[.agg #[.int .u8 x1, .int .i64 x2, .int .i64 x3, .bool x4, .int .u32 x5, .int .u32 x6, .int .i64 x7, .slice x8.a x8.l x8.c], .int .i64 e]) w9 :=
  st8 hD hl fun w2 h2 c2 => Tv.load (v := v) h2 (hR w2 (c2.below h01 hb))
def whV (v : Tv) (s d : Nat) : Tv := if 4096 < s then tv0 else if 16 < d + 1 then tv0 else (v.1, (s : Int), ((d + 1 : Nat) : Int), v.2.2.2)
theorem wh_big {s d : Nat} (h : 4096 < s) : whV v s d = tv0 ∧ whT t s d = (tp0, 102) := ⟨if_pos h, if_pos h⟩
theorem wh_deep {s d : Nat} (h : ¬ 4096 < s) (h2 : 16 < d + 1) : whV v s d = tv0 ∧ whT t s d = (tp0, 4) := ⟨(if_neg h).trans (if_pos h2), (if_neg h).trans (if_pos h2)⟩
theorem wh_fine {s d : Nat} (h : ¬ 4096 < s) (h2 : ¬ 16 < d + 1) : whV v s d = (v.1, (s : Int), ((d + 1 : Nat) : Int), v.2.2.2) ∧ whT t s d = ({ t with size := s, depth := d + 1 }, 0) := ⟨(if_neg h).trans (if_neg h2), (if_neg h).trans (if_neg h2)⟩
theorem whV_ok {s d : Nat} (h : TvOk B w v t) : TvOk B w (whV v s d) (whT t s d).1 := by
  unfold whV whT
  by_cases h1 : 4096 < s
  · rw [if_pos h1, if_pos h1]
    exact TvOk.zero B w
  rw [if_neg h1, if_neg h1]
  by_cases h2 : 16 < d + 1
  · rw [if_pos h2, if_pos h2]
    exact TvOk.zero B w
  rw [if_neg h2, if_neg h2]
  exact ⟨h.kind, rfl, rfl, h.sg, h.cls, h.part, h.times, h.ps, h.fr⟩
/-- Where the list of a type's value lies. -/
def SlOf (v : Tv) (s : Sl) : Prop := v.2.2.2.2.2.2.2.1 = s ∨ v.2.2.2.2.2.2.2.1 = ⟨none, 0, 0⟩
theorem whV_sl (v : Tv) (s d : Nat) : SlOf (whV v s d) v.2.2.2.2.2.2.2.1 := by
  unfold whV
  split
  · exact .inr rfl
  split
  · exact .inr rfl
  exact .inl rfl
theorem TvOk.moved (h : TvOk B w v t) (hb : ∀ a, v.2.2.2.2.2.2.2.1.a = some a → w'.heap[a.block]? = w.heap[a.block]?) : TvOk B w' v t :=
  ⟨h.kind, h.size, h.depth, h.sg, h.cls, h.part, h.times, h.ps.of_block fun a ha _ => hb a ha, h.fr⟩
theorem tyWhole_spec {s d : Nat} (hd : d ≤ 4294967295) (hR : ∀ w', Below w.heap.size w w' → R (.tuple #[tyA (whV v s d), .int .i64 (whT t s d).2]) w') : callR Tryz.prog 178 #[tyA v, .int .i64 (s : Int), .int .i64 (d : Int)] w R := by
  refine callR.of (types_whole_calls v (s : Int) (d : Int) R w ?_) fun _ _ h => h
  refine lay_of fun w1 hX1 b1 z1 => ?_
  have hX1 : Blk w1 w.heap.size 127 (tyV v) := hX1
  refine lay_of fun w2 hD2 b2 z2 => ?_
  have hD2 : Blk w2 w1.heap.size 127 ty0.toList := hD2
  have hX2 := hX1.below b2
  have e1 : IntKind.i64.wrap ((d : Int) + 1) = ((d + 1 : Nat) : Int) := wrap64_succ (by omega)
  rw [e1]
  refine ⟨hX2.wr (n := 1) (by show 1 < 8; decide), Nw.gen fun w3 e3 => ?_⟩
  have c3 : Chg w.heap.size w2 w3 := by rw [e3]; exact Chg.set _ _ _ _
  have hX3 : Blk w3 w.heap.size 127 (tyV (v.1, (s : Int), v.2.2)) := by rw [e3]; exact hX2.set 1 _
  refine ⟨hX3.wr (n := 2) (by show 2 < 8; decide), Nw.gen fun w4 e4 => ?_⟩
  have c4 : Chg w.heap.size w3 w4 := by rw [e4]; exact Chg.set _ _ _ _
  have hX4 : Blk w4 w.heap.size 127 (tyV (v.1, (s : Int), ((d + 1 : Nat) : Int), v.2.2.2)) := by rw [e4]; exact hX3.set 2 _
  have hD4 := c4.blk (c3.blk hD2 (by omega)) (by omega)
  have b4 : Below w.heap.size w w4 := c4.below (c3.below (b1.on b2) (Nat.le_refl _)) (Nat.le_refl _)
  refine ifB_dec (fun g => ?_) (fun g => hX4.rI (n := 2) (x := ((d + 1 : Nat) : Int)) rfl (ifB_dec (fun g2 => ?_) (fun g2 => Tv.load hX4 ?_)))
  · obtain ⟨q1, q2⟩ := wh_big (v := v) (t := t) (s := s) (d := d) (by omega)
    rw [q1, q2] at hR
    exact outT (v := tv0) hD4 rfl (by omega) b4 hR
  · obtain ⟨q1, q2⟩ := wh_deep (v := v) (t := t) (s := s) (d := d) (by omega) (by omega)
    rw [q1, q2] at hR
    exact outT (v := tv0) hD4 rfl (by omega) b4 hR
  · obtain ⟨q1, q2⟩ := wh_fine (v := v) (t := t) (s := s) (d := d) (by omega) (by omega)
    rw [q1, q2] at hR
    exact outT (v := (v.1, (s : Int), ((d + 1 : Nat) : Int), v.2.2.2)) hD4 rfl (by omega) b4 hR
theorem tA_deep (hT : TbOk T) (id : Int) : (tA T id).depth ≤ 16 ∧ (tA T id).size ≤ 4096 := by
  by_cases hs : (tA T id).kind = 0
  · unfold tA at hs ⊢
    cases hl : lookQ T id with
    | none => exact ⟨Nat.zero_le _, Nat.zero_le _⟩
    | some t =>
      rw [hl] at hs
      have := (hT id t hl).kd
      have hs : t.kind = 0 := hs
      omega
  · have h := (tA_ok hT hs).max
    exact ⟨h.2, h.1⟩
theorem tyVector_spec {part n : Int} (h : IsTb w B tb T) (hT : TbOk T) (hn : 0 ≤ n ∧ n ≤ 4294967295) (hR : ∀ w' v, TvOk B' w v (vecT T part n).1 → SlOf v ⟨none, 0, 0⟩ → Below w.heap.size w w' → R (.tuple #[tyA v, .int .i64 (vecT T part n).2]) w') :
    callR Tryz.prog 139 #[.pointer (some (blk tb)), .int .u32 part, .int .u32 n] w R := by
  refine callR.of (types_Table_vector_calls _ part n R w ?_) fun _ _ h => h
  refine lay_of fun w1 hD1 b1 z1 => ?_
  have hD1 : Blk w1 w.heap.size 127 ty0.toList := hD1
  obtain ⟨⟨r, o, h1, hTy⟩, h3⟩ := h
  refine derefP_some rfl ⟨some r, (h1.below b1).cell0 rfl, hTy.look b1 fun v hv => ?_⟩
  refine boxTy fun w2 h2 b2 z2 => ?_
  have hD2 := hD1.below b2
  have b02 := b1.on b2
  have hd := (tA_deep hT part).1
  unfold vecT at hR
  have out100 : ((tA T part).kind ≠ 2 ∧ (tA T part).kind ≠ 3) → ∀ w', Below w.heap.size w w' → R (.tuple #[tyA tv0, .int .i64 100]) w' := fun g w' hb => by
    have := hR w' tv0 (by rw [if_pos g]; exact TvOk.zero B' w) (.inr rfl) hb
    rwa [if_pos g] at this
  have out102 : ¬ ((tA T part).kind ≠ 2 ∧ (tA T part).kind ≠ 3) → (n < 2 ∨ 4 < n) → ∀ w', Below w.heap.size w w' → R (.tuple #[tyA tv0, .int .i64 102]) w' := fun g g2 w' hb => by
    have := hR w' tv0 (by rw [if_neg g, if_pos g2]; exact TvOk.zero B' w) (.inr rfl) hb
    rwa [if_neg g, if_pos g2] at this
  refine JoinW.cut (fun (_ : Unit) w' => w' = w2 ∧ ¬ ((tA T part).kind ≠ 2 ∧ (tA T part).kind ≠ 3) ∧ 2 ≤ n ∧ n ≤ 4) ?_ ?_
  · have two : ¬ ((tA T part).kind ≠ 2 ∧ (tA T part).kind ≠ 3) → ifB (decide (n < 2)) (Wr w2 (blk w.heap.size) ∧ _) (ifB (decide (n > 4)) _ (w2 = w2 ∧ ¬ ((tA T part).kind ≠ 2 ∧ (tA T part).kind ≠ 3) ∧ 2 ≤ n ∧ n ≤ 4)) := fun g =>
      ifB_dec (fun g2 => outT (v := tv0) hD2 rfl (Nat.le_refl _) b02 (out102 g (.inl g2))) (fun g2 => ifB_dec (fun g3 => outT (v := tv0) hD2 rfl (Nat.le_refl _) b02 (out102 g (.inr g3))) (fun g3 => ⟨rfl, g, by omega, by omega⟩))
    refine h2.rI0 (x := v.1) rfl (ifB_bne (fun e1 => h2.rI0 (x := v.1) rfl (ifB_bne (fun e2 => ?_) (fun e2 => ?_))) (fun e1 => ?_))
    · rw [hv.kind] at e1 e2
      exact outT (v := tv0) hD2 rfl (Nat.le_refl _) b02 (out100 ⟨e1, e2⟩)
    · rw [hv.kind] at e2
      exact two fun q => q.2 e2
    · rw [hv.kind] at e1
      exact two fun q => q.1 e1
  · rintro _ w3 ⟨rfl, g, g2, g3⟩
    refine h2.rI (n := 2) (x := v.2.2.1) rfl ?_
    obtain ⟨m, rfl⟩ := Int.eq_ofNat_of_zero_le hn.1
    have ew : IntKind.i64.wrap (m : Int) = (m : Int) := wrap64_in (by omega) (by omega)
    rw [ew, hv.depth]
    have hv4 : TvOk B' w (4, 0, 0, false, 0, part, (m : Int), ⟨none, 0, 0⟩, ()) { tp0 with kind := 4, part := part, times := m } := ⟨rfl, rfl, rfl, rfl, rfl, rfl, rfl, nilS _ w, nilFr B'⟩
    refine tyWhole_spec (t := { tp0 with kind := 4, part := part, times := m }) (v := (4, 0, 0, false, 0, part, (m : Int), ⟨none, 0, 0⟩, ())) (s := m) (d := (tA T part).depth) (by omega) fun w4 b4 => ⟨_, _, rfl, ?_⟩
    refine outT (hD2.below b4) rfl (Nat.le_refl _) (b02.on b4) fun w5 b5 => ?_
    have := hR w5 _ (by rw [if_neg g, if_neg (by omega)]; exact whV_ok (s := m) (d := (tA T part).depth) hv4) (whV_sl _ _ _) b5
    rwa [if_neg g, if_neg (by omega)] at this
abbrev insK : List BK := [(.int .u16), (.int .u32), (.int .u32), .slice]
def ins0 : Ins := (0, 0, 0, ⟨none, 0, 0⟩, ())
/-- The instructions ahead, by their results; their arguments read as in the world w0. -/
structure IsMd (w0 w : World) (r : Nat) (pl : List PI) (k : Nat) : Prop where
  ex : ∃ M : List (Int × Ins), IsMq w r (aggQ insK) M ∧ ∀ id : Int, id ≠ 0 → ∃ t, (lookQ M id).getD ins0 = mkIn (mdP pl id k) t ∧ IsAg w0 t (mdP pl id k).2.2.2
  b0 : Below w0.heap.size w0 w
theorem IsMd.below {w0 : World} (h : IsMd w0 w r pl k) (hb : Below w.heap.size w w') : IsMd w0 w' r pl k := by
  obtain ⟨⟨M, h1, h2⟩, h3⟩ := h
  exact ⟨⟨M, h1.below hb, h2⟩, h3.on hb⟩
theorem uMd : Tryz.prog.underlying 183 = some (.map 22 52) := by kernel_rfl
theorem zMd : ∃ i, Tryz.prog.info? 52 = some i ∧ i.zero = some (aggQ insK ins0) := by
  have h : (Tryz.prog.info? 52).map (·.zero) = some (some (aggQ insK ins0)) := by kernel_rfl
  cases hi : Tryz.prog.info? 52 with
  | none => rw [hi] at h; cases h
  | some i => rw [hi] at h; exact ⟨i, rfl, by injection h⟩
theorem IsMd.look {w0 : World} (h : IsMd w0 w r pl k) (hb : Below w.heap.size w w') (h0 : id ≠ 0) {φ : HL insK → Prop} (hφ : ∀ t, IsAg w t (mdP pl id k).2.2.2 → φ (mkIn (mdP pl id k) t)) : lookVK Tryz.prog 183 (.map (some r)) (.int .u32 id) insK w' φ := by
  obtain ⟨⟨M, h1, h2⟩, h3⟩ := h
  obtain ⟨t, e1, e2⟩ := h2 id h0
  have key : φ ((lookQ (α := Ins) M id).getD ins0) := by rw [e1]; exact hφ t (IsC.below agV_len e2 h3)
  exact lookVK_of (ks := insK) (d := ins0) uMd Tryz.underlying22 zMd (h1.below hb) key
/-- The maker, its table from B on. -/
structure IsMk (w0 w : World) (B kb tb rm rs : Nat) (T : TyL) (pl : List PI) (k : Nat) : Prop where
  blk : Blk w kb 186 [.pointer (some (Gk.blk tb)), .map (some rm), .map (some rs)]
  tb : IsTb w B tb T
  md : IsMd w0 w rm pl k
theorem IsMk.below {w0 : World} {kb rm rs : Nat} (h : IsMk w0 w B kb tb rm rs T pl k) (hb : Below w.heap.size w w') : IsMk w0 w' B kb tb rm rs T pl k := ⟨h.blk.below hb, h.tb.below hb, h.md.below hb⟩
theorem tyArray_spec {w0 : World} {kb rm rs : Nat} {part len : Int} (h : IsMk w0 w B kb tb rm rs T pl k) (hT : TbOk T) (h0 : len ≠ 0) (hc : (mdP pl len k).1 = 43 → 0 < (mdP pl len k).2.2.2.length ∧ cN (mdP pl len k) ≤ 4294967295)
    (hR : ∀ w' v, TvOk B' w v (arrT T (mdP pl len k) part).1 → SlOf v ⟨none, 0, 0⟩ → Below w.heap.size w w' → R (.tuple #[tyA v, .int .i64 (arrT T (mdP pl len k) part).2]) w') :
    callR Tryz.prog 140 #[.pointer (some (blk kb)), .int .u32 part, .int .u32 len] w R := by
  refine callR.of (types_maker_array_calls _ part len R w ?_) fun _ _ h => h
  refine lay_of fun w1 hD1 b1 z1 => ?_
  have hD1 : Blk w1 w.heap.size 127 ty0.toList := hD1
  obtain ⟨⟨r, o, h1, hTy⟩, h3⟩ := h.tb
  have hk1 := h.blk.below b1
  refine derefP_some rfl ⟨_, hk1.cell0 rfl, derefP_some rfl ⟨some r, (h1.below b1).cell0 rfl, hTy.look b1 fun v hv => ?_⟩⟩
  refine boxTy fun w2 h2 b2 z2 => ?_
  have hD2 := hD1.below b2
  have b02 := b1.on b2
  have hd := tA_deep hT part
  unfold arrT at hR
  generalize hcc : mdP pl len k = c at hc hR
  have out : ∀ e, (arrT T c part = (tp0, e)) → ∀ w', Below w.heap.size w w' → R (.tuple #[tyA tv0, .int .i64 e]) w' := fun e he w' hb => by
    unfold arrT at he
    have := hR w' tv0 (by rw [he]; exact TvOk.zero B' w) (.inr rfl) hb
    rwa [he] at this
  refine h2.rI (n := 1) (x := v.2.1) rfl (ifB_beq (fun e => ?_) (fun e => ?_))
  · rw [hv.size] at e
    exact outT (v := tv0) hD2 rfl (Nat.le_refl _) b02 (out 100 (if_pos (by omega)))
  rw [hv.size] at e
  have e0 : ¬ (tA T part).size = 0 := by omega
  have hk2 := hk1.below b2
  refine derefP_some rfl ⟨some rm, hk2.cell (n := 1) rfl, h.md.look b02 h0 fun t ht => ?_⟩
  rw [hcc] at ht ⊢
  refine box4 rfl fun w3 hI3 b3 z3 => ?_
  have hI3 : Blk w3 w2.heap.size 52 (inV (mkIn c t)) := hI3
  have b03 := (b02.on b3).drew
  have hI3d := hI3.drew
  have hD3 := (hD2.below b3).drew
  have hA3 : IsAg w3.drew t c.2.2.2 := IsC.below agV_len ht b03
  refine JoinW.cut (fun (_ : Unit) w' => w' = w3.drew ∧ ¬ (c.1 ≠ 43 ∨ (tA T c.2.1).kind ≠ 3 ∨ cN c < 1 ∨ 4096 < cN c)) ?_ ?_
  · refine hI3d.rI0 (x := c.1) rfl (ifB_bne (fun e1 => ?_) (fun e1 => ?_))
    · exact outT (v := tv0) hD3 rfl (Nat.le_refl _) b03 (out 102 (by unfold arrT; rw [if_neg e0, if_pos (.inl e1)]))
    obtain ⟨g1, g2⟩ := hc e1
    have hk3 := (hk2.below b3).drew
    refine derefP_some rfl ⟨_, hk3.cell0 rfl, derefP_some rfl ⟨some r, (h1.below b03).cell0 rfl, hI3d.rI (n := 1) (x := c.2.1) rfl (hTy.look b03 fun v2 hv2 => ?_)⟩⟩
    refine ifB_bne (fun e2 => ?_) (fun e2 => ?_)
    · rw [hv2.kind] at e2
      exact outT (v := tv0) hD3 rfl (Nat.le_refl _) b03 (out 102 (by unfold arrT; rw [if_neg e0, if_pos (.inr (.inl e2))]))
    rw [hv2.kind] at e2
    have hcn : c.2.2.2[0].2.1 = cN c := by unfold cN; rw [getD_lt g1]
    refine hI3d.rS (n := 3) (x := t) rfl (elemAn hA3 (k := 0) g1 ?_)
    rw [hcn]
    refine ifB_dec (fun e3 => ?_) (fun e3 => hI3d.rS (n := 3) (x := t) rfl (elemAn hA3 (k := 0) g1 ?_))
    · exact outT (v := tv0) hD3 rfl (Nat.le_refl _) b03 (out 102 (by unfold arrT; rw [if_neg e0, if_pos (.inr (.inr (.inl e3)))]))
    rw [hcn]
    refine ifB_dec (fun e4 => ?_) (fun e4 => ⟨rfl, by omega⟩)
    exact outT (v := tv0) hD3 rfl (Nat.le_refl _) b03 (out 102 (by unfold arrT; rw [if_neg e0, if_pos (.inr (.inr (.inr e4)))]))
  · rintro _ w4 ⟨rfl, g⟩
    obtain ⟨g1, g2⟩ := hc (by omega)
    have hcn : c.2.2.2[0].2.1 = cN c := by unfold cN; rw [getD_lt g1]
    refine hI3d.rS (n := 3) (x := t) rfl (elemAn hA3 (k := 0) g1 ?_)
    rw [hcn]
    obtain ⟨m, hm⟩ := Int.eq_ofNat_of_zero_le (show 0 ≤ cN c by omega)
    have ew : IntKind.i64.wrap (cN c) = (m : Int) := by rw [hm]; exact wrap64_in (by omega) (by omega)
    rw [ew]
    have h2d := (h2.below b3).drew
    refine h2d.rI (n := 1) (x := v.2.1) rfl (h2d.rI (n := 2) (x := v.2.2.1) rfl ?_)
    rw [hv.size, hv.depth]
    have hmul : m * (tA T part).size ≤ 4096 * 4096 := Nat.mul_le_mul (by omega) hd.2
    have ew2 : IntKind.i64.wrap ((m : Int) * ((tA T part).size : Int)) = ((m * (tA T part).size : Nat) : Int) := by
      rw [← Int.natCast_mul]
      exact wrap64_in (by omega) (by omega)
    rw [ew2]
    have hv4 : TvOk B' w (5, 0, 0, false, 0, part, (m : Int), ⟨none, 0, 0⟩, ()) { tp0 with kind := 5, part := part, times := m } := ⟨rfl, rfl, rfl, rfl, rfl, rfl, rfl, nilS _ w, nilFr B'⟩
    refine tyWhole_spec (t := { tp0 with kind := 5, part := part, times := m }) (v := (5, 0, 0, false, 0, part, (m : Int), ⟨none, 0, 0⟩, ())) (s := m * (tA T part).size) (d := (tA T part).depth) (by omega) fun w5 b5 => ⟨_, _, rfl, ?_⟩
    refine outT (hD3.below b5) rfl (Nat.le_refl _) (b03.on b5) fun w6 b6 => ?_
    have em : (cN c).toNat = m := by omega
    have := hR w6 _ (by rw [if_neg e0, if_neg g, em]; exact whV_ok (s := m * (tA T part).size) (d := (tA T part).depth) hv4) (whV_sl _ _ _) b6
    rwa [if_neg e0, if_neg g, em] at this
/-- What the first j members come to. -/
theorem sumT_take {l : List Int} {j : Nat} (hj : j < l.length) : sumT T (l.take (j + 1)) = sumT T (l.take j) + (tA T l[j]).size := by
  unfold sumT
  rw [List.take_succ_eq_append_getElem hj, List.map_append, List.sum_append]
  simp
theorem deepT_take {l : List Int} {j : Nat} (hj : j < l.length) : deepT T (l.take (j + 1)) = Nat.max (deepT T (l.take j)) (tA T l[j]).depth := by
  unfold deepT
  rw [List.take_succ_eq_append_getElem hj, List.foldl_append]
  rfl
theorem sumT_le {l : List Int} (hT : TbOk T) : sumT T l ≤ 4096 * l.length := by
  unfold sumT
  induction l with
  | nil => exact Nat.le_refl _
  | cons a r ih =>
    have := (tA_deep hT a).2
    rw [List.map_cons, List.sum_cons, List.length_cons]
    omega
theorem deepT_le16 {l : List Int} (hT : TbOk T) : deepT T l ≤ 16 := by
  have : ∀ (l : List Int) (d : Nat), d ≤ 16 → l.foldl (fun d p => Nat.max d (tA T p).depth) d ≤ 16 := by
    intro l
    induction l with
    | nil => intro d h; exact h
    | cons a r ih =>
      intro d h
      exact ih _ (Nat.max_le.2 ⟨h, (tA_deep hT a).1⟩)
  exact this l 0 (Nat.zero_le _)
theorem tyMembers_spec {s : Sl} {l : List Int} (h : IsTb w B tb T) (hT : TbOk T) (hs : IsS (Value.int .u32) w s l) (hf : Fresh B' s) (hR : ∀ w' v, TvOk B' w v (memT T l).1 → SlOf v s → Below w.heap.size w w' → R (.tuple #[tyA v, .int .i64 (memT T l).2]) w') :
    callR Tryz.prog 141 #[.pointer (some (blk tb)), .slice s.a s.l s.c] w R := by
  refine callR.of (types_Table_members_calls _ s R w ?_) fun _ _ h => h
  refine lay_of fun w1 hD1 b1 z1 => ?_
  have hD1 : Blk w1 w.heap.size 127 ty0.toList := hD1
  obtain ⟨⟨r, o, h1, hTy⟩, h3⟩ := id h
  have hl := hs.len
  have out : ∀ e, (memT T l = (tp0, e)) → ∀ w', Below w.heap.size w w' → R (.tuple #[tyA tv0, .int .i64 e]) w' := fun e he w' hb => by
    have := hR w' tv0 (by rw [he]; exact TvOk.zero B' w) (.inr rfl) hb
    rwa [he] at this
  refine JoinW.cut (fun (_ : Unit) w' => w' = w1 ∧ ¬ (l.length < 1 ∨ 256 < l.length)) ?_ ?_
  · refine ifB_dec (fun g => ?_) (fun g => ifB_dec (fun g2 => ?_) (fun g2 => ⟨rfl, by omega⟩))
    · exact outT (v := tv0) hD1 rfl (Nat.le_refl _) b1 (out 102 (if_pos (by omega)))
    · exact outT (v := tv0) hD1 rfl (Nat.le_refl _) b1 (out 102 (if_pos (by omega)))
  rintro _ w2 ⟨rfl, g⟩
  refine LoopW.ghost (fun m (st : Int × Int × Int × Unit) w' => ∃ j : Nat, st = ((sumT T (l.take j) : Int), (deepT T (l.take j) : Int), (j : Int), ()) ∧ j ≤ l.length ∧ m = l.length - j ∧ w' = w2 ∧ ∀ i (hi : i < l.length), i < j → (tA T l[i]).size ≠ 0) l.length ⟨0, rfl, Nat.zero_le _, rfl, rfl, fun i _ h => by omega⟩ ?_
  rintro _ _ _ ⟨j, rfl, hj, rfl, rfl, hall⟩ next hnext
  have hs1 := hs.below b1
  refine ifB_dec (fun g2 => ?_) (fun g2 => ?_)
  · have hjl : j < l.length := by dsimp only at g2; omega
    refine elemU hs1 hjl (plain_spec (h.below b1) ⟨_, rfl, ifB_not (ifB_dec (fun g3 => ?_) (fun g3 => ?_))⟩)
    · refine derefP_some rfl ⟨some r, (h1.below b1).cell0 rfl, hTy.look b1 fun v hv => derefP_some rfl ⟨some r, (h1.below b1).cell0 rfl, hTy.look b1 fun v2 hv2 => ?_⟩⟩
      have e1 := sumT_take (T := T) hjl
      have e2 := deepT_take (T := T) hjl
      have b1' := sumT_le hT (l := l.take j)
      have b2' := (tA_deep hT l[j]).2
      rw [List.length_take] at b1'
      have ew : IntKind.i64.wrap ((sumT T (l.take j) : Int) + v.2.1) = (sumT T (l.take (j + 1)) : Int) := by
        rw [hv.size, e1, wrap64_in (by omega) (by omega)]
        omega
      have ed : (if v2.2.2.1 > (deepT T (l.take j) : Int) then v2.2.2.1 else (deepT T (l.take j) : Int)) = (deepT T (l.take (j + 1)) : Int) := by
        rw [hv2.depth, e2]
        split
        · rename_i q
          rw [show Nat.max (deepT T (l.take j)) (tA T l[j]).depth = (tA T l[j]).depth from Nat.max_eq_right (by omega)]
        · rename_i q
          rw [show Nat.max (deepT T (l.take j)) (tA T l[j]).depth = deepT T (l.take j) from Nat.max_eq_left (by omega)]
      dsimp only
      rw [ew, ed, wrap64_succ (by omega)]
      refine hnext (l.length - (j + 1)) _ _ (by omega) ⟨j + 1, rfl, by omega, rfl, rfl, fun i hi h => ?_⟩
      by_cases e : i = j
      · subst e; omega
      · exact hall i hi (by omega)
    · exact outT (v := tv0) hD1 rfl (Nat.le_refl _) b1 (out 100 (by unfold memT; rw [if_neg g, if_pos (List.any_eq_true.2 ⟨l[j], List.getElem_mem hjl, by rw [beq_iff_eq]; omega⟩)]))
  · have hje : j = l.length := by dsimp only at g2; omega
    subst hje
    have hno : ¬ (l.any (fun p => (tA T p).size == 0) = true) := fun q => by
      obtain ⟨p, hp, e⟩ := List.any_eq_true.1 q
      obtain ⟨i, hi, rfl⟩ := List.getElem_of_mem hp
      exact hall i hi hi (by simpa using e)
    dsimp only
    rw [List.take_length]
    have hv4 : TvOk B' w (6, 0, 0, false, 0, 0, 0, s, ()) { tp0 with kind := 6, ps := l } := ⟨rfl, rfl, rfl, rfl, rfl, rfl, rfl, hs, hf⟩
    have := deepT_le16 hT (l := l)
    refine tyWhole_spec (t := { tp0 with kind := 6, ps := l }) (v := (6, 0, 0, false, 0, 0, 0, s, ())) (s := sumT T l) (d := deepT T l) (by omega) fun w5 b5 => ⟨_, _, rfl, ?_⟩
    refine outT (hD1.below b5) rfl (Nat.le_refl _) (b1.on b5) fun w6 b6 => ?_
    have := hR w6 _ (by unfold memT; rw [if_neg g, if_neg hno]; exact whV_ok (s := sumT T l) (d := deepT T l) hv4) (whV_sl _ _ _) b6
    unfold memT at this
    rwa [if_neg g, if_neg hno] at this
theorem tyFunction_spec {s : Sl} {l : List Int} (h : IsTb w B tb T) (hs : IsS (Value.int .u32) w s l) (hf : Fresh B' s) (hlm : l.length ≤ 4294967295) (hR : ∀ w' v, TvOk B' w v (fnT T l).1 → SlOf v s → Below w.heap.size w w' → R (.tuple #[tyA v, .int .i64 (fnT T l).2]) w') :
    callR Tryz.prog 143 #[.pointer (some (blk tb)), .slice s.a s.l s.c] w R := by
  refine callR.of (types_Table_function_calls _ s R w ?_) fun _ _ h => h
  refine lay_of fun w1 hD1 b1 z1 => ?_
  have hD1 : Blk w1 w.heap.size 127 ty0.toList := hD1
  obtain ⟨⟨r, o, h1, hTy⟩, h3⟩ := id h
  have hl := hs.len
  have hs1 := hs.below b1
  have bad : ∀ j, j < l.length → (tA T (l.getD j 0)).size = 0 → (tA T (l.getD j 0)).kind ≠ othK j → fnT T l = (tp0, 100) := fun j hj e1 e2 => by
    unfold fnT
    rw [if_pos (List.any_eq_true.2 ⟨j, List.mem_range.2 hj, by rw [Bool.and_eq_true, beq_iff_eq, bne_iff_ne]; exact ⟨e1, e2⟩⟩)]
  refine LoopW.ghost (fun m (st : Int × Unit) w' => ∃ j : Nat, st = ((j : Int), ()) ∧ j ≤ l.length ∧ m = l.length - j ∧ w1 = w' ∧ ∀ i, i < j → ¬ ((tA T (l.getD i 0)).size = 0 ∧ (tA T (l.getD i 0)).kind ≠ othK i)) l.length ⟨0, rfl, Nat.zero_le _, rfl, rfl, fun i h => by omega⟩ ?_
  rintro _ _ _ ⟨j, rfl, hj, rfl, rfl, hall⟩ next hnext
  refine ifB_dec (fun g2 => ?_) (fun g2 => ?_)
  · have hjl : j < l.length := by dsimp only at g2; omega
    have hgd : l.getD j 0 = l[j] := getD_lt hjl
    have go : ¬ ((tA T (l.getD j 0)).size = 0 ∧ (tA T (l.getD j 0)).kind ≠ othK j) → next (IntKind.i64.wrap ((j : Int) + 1), ()) w1 := fun q => by
      rw [wrap64_succ (by omega)]
      refine hnext (l.length - (j + 1)) _ _ (by omega) ⟨j + 1, rfl, by omega, rfl, rfl, fun i h => ?_⟩
      by_cases e : i = j
      · subst e; exact q
      · exact hall i (by omega)
    refine JoinW.cut (fun (_ : Unit) w' => w' = w1 ∧ ¬ ((tA T (l.getD j 0)).size = 0 ∧ (tA T (l.getD j 0)).kind ≠ othK j)) (elemU hs1 hjl ?_) fun _ w2 q => by obtain ⟨rfl, q⟩ := q; exact go q
    refine JoinW.cut (fun (st : Int × Unit) w' => st = (othK j, ()) ∧ w' = w1) ?_ ?_
    · refine ifB_beq (fun e => ⟨?_, rfl⟩) (fun e => ⟨?_, rfl⟩)
      · unfold othK
        rw [if_pos (by omega)]
      · unfold othK
        rw [if_neg (by omega)]
    · rintro _ _ ⟨rfl, rfl⟩
      refine plain_spec (h.below b1) ⟨_, rfl, ifB_not (ifB_dec (fun g3 => ⟨rfl, fun q => by rw [hgd] at q; omega⟩) (fun g3 => ?_))⟩
      refine derefP_some rfl ⟨some r, (h1.below b1).cell0 rfl, hTy.look b1 fun v hv => ifB_bne (fun e => ?_) (fun e => ⟨rfl, fun q => ?_⟩)⟩
      · rw [hv.kind] at e
        have he := bad j hjl (by rw [hgd]; omega) (by rw [hgd]; exact e)
        refine outT (v := tv0) hD1 rfl (Nat.le_refl _) b1 fun w' hb => ?_
        have := hR w' tv0 (by rw [he]; exact TvOk.zero B' w) (.inr rfl) hb
        rwa [he] at this
      · rw [hv.kind] at e
        rw [hgd] at q
        exact q.2 e
  · have hje : j = l.length := by dsimp only at g2; omega
    subst hje
    have hfn : fnT T l = ({ tp0 with kind := 8, ps := l }, 0) := by
      unfold fnT
      rw [if_neg]
      intro q
      obtain ⟨i, hi, e⟩ := List.any_eq_true.1 q
      rw [Bool.and_eq_true, beq_iff_eq, bne_iff_ne] at e
      exact hall i (List.mem_range.1 hi) e
    refine outT (v := (8, 0, 0, false, 0, 0, 0, s, ())) hD1 rfl (Nat.le_refl _) b1 fun w' hb => ?_
    have := hR w' (8, 0, 0, false, 0, 0, 0, s, ()) (by rw [hfn]; exact ⟨rfl, rfl, rfl, rfl, rfl, rfl, rfl, hs, hf⟩) (.inl rfl) hb
    rwa [hfn] at this
end
end Go.Proofs
namespace Go.Proofs
open Go.Gk Go.RowKit Go.Gm

/-- append of one element of some cells: what lies elsewhere stays. -/
theorem push_keep {P : Program} {t e : TypeId} {sz bytes : Nat} (he : ElemT P t e sz bytes) {w0 w : World} {s : Sl} {xs : List Value} (h : Own w e sz s xs) (hb : Below w0.heap.size w0 w) (hF : Fresh w0.heap.size s) {vs : List Value} (hvs : vs.length = sz) (hv : ∀ u ∈ vs, u.oneCell' = true) {b c : Nat} {T : TypeId}
    (hB : Blk w b T vs) (h63 : s.l + 1 ≤ 9223372036854775807) (hbytes : (s.l + 1) * bytes ≤ 140737488355328) {k : Sl → World → Prop}
    (hk : ∀ r w', Own w' e sz r (xs ++ vs) → Below w0.heap.size w0 w' → Fresh w0.heap.size r → w.heap.size ≤ w'.heap.size → (∀ i, i < w.heap.size → s.a ≠ some (blk i) → w'.heap[i]? = w.heap[i]?) → k r w') : appendS P t (.slice s.a s.l s.c) (.slice (some (blk b)) 1 c) w k := by
  refine append_own he h (news := vs) (by omega) (fun j u hj => hB.cell hj) hv h63 hbytes fun r w' h1 hl' hg => ?_
  rcases hg with ⟨_, _, h3⟩ | ⟨b', h3, h4, h5⟩
  · rw [h3] at hl'; omega
  · have hbb : w0.heap.size ≤ b' := by
      rcases h4 with h4 | h4
      · exact hF _ h4
      · have := hb.size
        omega
    refine hk r w' h1 (hb.trans (below_grown h5 hbb hb.size)) (fun a ha => by rw [h3] at ha; cases ha; exact hbb) (below_grown h5 (Nat.zero_le _) (Nat.zero_le _)).size fun i hi hne => h5.block _ hi fun e => ?_
    have e := Option.some.inj e
    subst e
    rcases h4 with h4 | h4
    · exact hne h4
    · omega
section
variable {w w' w0 : World} {B : Nat} {s t : Sl} {pl : List PI} {p : PI}
theorem own_notBlk {T T' : TypeId} {sz b : Nat} {xs cs : List Value} (h : Own w T sz s xs) (hB : Blk w b T' cs) (hT : T ≠ T') : s.a ≠ some (Gk.blk b) := fun e => by
  obtain ⟨cs', h'⟩ := h.type e
  exact Blk.apart h' hB hT rfl
end


end Go.Proofs

namespace Go.Proofs
open Go.Gk Go.RowKit Go.Gm

end Go.Proofs
namespace Go.Proofs
open Go.Gk Go.RowKit Go.Gm

/-- A list of words that grows, in memory. -/
structure Wl (w0 w : World) (r : Sl) (D : List Int) : Prop where
  own : Own w 22 1 r (D.map (Value.int .u32))
  fr : Fresh w0.heap.size r
  below : Below w0.heap.size w0 w
theorem Wl.on {w0 w w' : World} {r : Sl} {D : List Int} (h : Wl w0 w r D) (hb : Below w.heap.size w w') : Wl w0 w' r D := ⟨h.own.below hb, h.fr, h.below.on hb⟩
theorem Wl.len {w0 w : World} {r : Sl} {D : List Int} (h : Wl w0 w r D) : r.l = D.length := by have := h.own.1; rw [List.length_map] at this; omega
theorem Wl.nil (w : World) : Wl w w ⟨none, 0, 0⟩ [] := ⟨Own.nil _ _ _, fun a ha => (by cases ha), Below.refl _ _⟩
theorem Wl.push {w0 w : World} {r : Sl} {D : List Int} {v : Int} (h : Wl w0 w r D) (hl : D.length ≤ 4398046511104) {k : Sl → World → Prop} (hk : ∀ r' w', Wl w0 w' r' (D ++ [v]) → (∀ b T cs, 22 ≠ T → Blk w b T cs → Blk w' b T cs) → k r' w') :
    Nw (w.alloc (.cells #[.int .u32 v] 22)) fun w1 => appendS Tryz.prog 30 (.slice r.a r.l r.c) (.slice (some (blk w.heap.size)) 1 1) w1 k := by
  refine lay_of fun w1 h1 b1 z1 => ?_
  have h1 : Blk w1 w.heap.size 22 [.int .u32 v] := h1
  have hl2 := h.len
  have h2 := h.on b1
  refine push_keep eU32 h2.own h2.below h.fr (vs := [.int .u32 v]) rfl (fun u hu => by rw [List.mem_singleton.1 hu]; rfl) h1 (by omega) (by omega) fun r' w' g1 g2 g3 _ g5 => hk r' w' ⟨?_, g3, g2⟩ fun b T cs hne hB => ?_
  · rw [List.map_append]
    exact g1
  · have hB1 := hB.below b1
    exact hB1.of_block (g5 b hB1.lt (own_notBlk h2.own hB1 hne))
theorem tailS {w : World} {s : Sl} {l : List Int} (h : IsS (Value.int .u32) w s l) (h1 : 2 ≤ l.length) : IsS (Value.int .u32) w ⟨if s.c = 1 then s.a else Option.map (fun a => a.add 1) s.a, s.l - 1, s.c - 1⟩ (l.drop 1) := by
  have hl := h.len
  have hc := h.cap
  have hm := h.max
  have hn : ¬ s.c = 1 := by omega
  rw [if_neg hn]
  refine ⟨by rw [List.length_drop]; show s.l - 1 = _; omega, by show s.l - 1 ≤ s.c - 1; omega, by show s.c - 1 ≤ _; omega, fun e => ?_, fun a ha i hi => ?_⟩
  · show s.c - 1 = 0
    cases hs : s.a with
    | none => have := h.nil hs; omega
    | some a => rw [hs] at e; cases e
  · have ha : Option.map (fun a : Addr => a.add 1) s.a = some a := ha
    cases hs : s.a with
    | none => rw [hs] at ha; cases ha
    | some a0 =>
      rw [hs] at ha
      have ha : a0.add 1 = a := by injection ha
      rw [← ha, add_add']
      rw [List.length_drop] at hi
      rw [List.getElem_drop]
      exact h.cell a0 hs (1 + i) (by omega)
theorem fresh_tail {B : Nat} {s : Sl} (h : Fresh B s) : Fresh B ⟨if s.c = 1 then s.a else Option.map (fun a => a.add 1) s.a, s.l - 1, s.c - 1⟩ := fun a ha => by
  have ha : (if s.c = 1 then s.a else Option.map (fun a : Addr => a.add 1) s.a) = some a := ha
  split at ha
  · exact h a ha
  · cases hs : s.a with
    | none => rw [hs] at ha; cases ha
    | some a0 =>
      rw [hs] at ha
      have ha : a0.add 1 = a := by injection ha
      rw [← ha, add_block]
      exact h a0 hs
section
variable {w w' : World} {R : Value → World → Prop} {B kb tb rm rs b k : Nat} {v : Tv} {T : TyL} {pl : List PI} {t : Sl} {bd : Int}
theorem agN_get {j : Nat} (hj : j < (ix pl k).2.2.2.length) : (agN pl k)[j]'(by unfold agN; rw [List.length_map]; exact hj) = agI pl k j := by
  unfold agN agI
  rw [List.getElem_map, getD_lt hj]
theorem agN_len : (agN pl k).length = (ix pl k).2.2.2.length := List.length_map _
theorem agI_le (hp : PlOk pl) (hk : k < pl.length) {j : Nat} (hj : j < (ix pl k).2.2.2.length) : 0 ≤ agI pl k j ∧ agI pl k j ≤ 4294967295 := by
  unfold agI
  rw [ix_lt hk] at hj
  rw [ix_lt hk, getD_lt hj]
  exact (hp.nums _ (List.getElem_mem hk)).2.2 _ (List.getElem_mem hj)
theorem args_le (hs : (shapeP bd pl).1 = 0) (hk : k < pl.length) : pl[k].2.2.2.length ≤ 65535 := by
  obtain ⟨f, _, _, _, _, _, h⟩ := fault_all ((shape_ok hs).2 k hk)
  unfold roomP at h
  have := costN_ge (al := pl[k].2.2.2) (Nat.le_refl _)
  omega
theorem arg_fix2 {op : Int} {ty re : Bool} {fixed rest : Bs} {most : Nat} (hs : (shapeP bd pl).1 = 0) (hk : k < pl.length) (h : (ix pl k).1 = op) (hf : formIs op ty re fixed rest most = true) {j : Nat} (hj : j < (ix pl k).2.2.2.length) (hjf : j < fixed.length) :
    ((ix pl k).2.2.2.getD j ag0).1 = kindP ((fixed.getD j 0).toNat : Int) := by
  obtain ⟨f, _, f3, _, _, _, _, _, hw⟩ := form_of hs hk h hf
  have := hw j hj
  unfold werr at this
  rw [(wrong_kind this).2]
  unfold letP
  rw [f3, if_pos hjf]
/-- What the maker hands out for an instruction. -/
def OneR (R : Value → World → Prop) (w : World) (o : Option (Tp × Int)) : Prop := match o with
  | none => ∀ w', Below w.heap.size w w' → R (.tuple #[tyA tv0, .bool false, .int .i64 0]) w'
  | some p => ∀ w' v, (p.2 = 0 → TvOk w.heap.size w' v p.1) → Below w.heap.size w w' → R (.tuple #[tyA v, .bool true, .int .i64 p.2]) w'
set_option maxHeartbeats 4000000 in
theorem one_spec {w0 : World} (h : IsMk w0 w B kb tb rm rs T pl k) (hT : TbOk T) (hp : PlOk pl) (hs : (shapeP bd pl).1 = 0) (hk : k < pl.length) (hI : IsAg w t pl[k].2.2.2) (hm : ∀ id, (mdP pl id k).1 = 43 → 0 < (mdP pl id k).2.2.2.length ∧ cN (mdP pl id k) ≤ 4294967295) (hR : OneR R w (oneT T pl k)) :
    callR Tryz.prog 100 #[.pointer (some (blk kb)), inA (mkIn pl[k] t)] w R := by
  refine callR.of (types_maker_one_calls _ (mkIn pl[k] t) R w ?_) fun _ _ h => h
  have hix := ix_lt hk
  have hal : pl[k].2.2.2 = (ix pl k).2.2.2 := by rw [hix]
  have hop : pl[k].1 = (ix pl k).1 := by rw [hix]
  refine lay_of fun w1 hI1 b1 z1 => ?_
  have hI1 : Blk w1 w.heap.size 52 (inV (mkIn pl[k] t)) := hI1
  refine lay_of fun w2 hD2 b2 z2 => ?_
  have hD2 : Blk w2 w1.heap.size 127 ty0.toList := hD2
  have b02 := b1.on b2
  have hA2 : IsAg w2 t pl[k].2.2.2 := IsC.below agV_len hI b02
  have htl := hA2.len
  have hlen := args_le hs hk
  refine (hI1.below b2).rS (n := 3) (x := t) rfl ?_
  refine LoopW.ghost (fun m (st : Sl × Int × Unit) w' => ∃ (r : Sl) (j : Nat), st = (r, (j : Int), ()) ∧ j ≤ pl[k].2.2.2.length ∧ m = pl[k].2.2.2.length - j ∧ Wl w2 w' r ((agN pl k).take j)) pl[k].2.2.2.length ⟨⟨none, 0, 0⟩, 0, rfl, Nat.zero_le _, rfl, by rw [List.take_zero]; exact Wl.nil w2⟩ ?_
  rintro _ _ w3 ⟨r, j, rfl, hj, rfl, hW⟩ next hnext
  have b3 := hW.below
  refine ifB_dec (fun g => ?_) (fun g => ?_)
  · have hjl : j < pl[k].2.2.2.length := by dsimp only at g; omega
    refine elemA3 (IsC.below agV_len hA2 b3) hjl (box3 rfl fun w7 h7 b7 z7 => h7.rI (n := 1) (x := pl[k].2.2.2[j].2.1) rfl ?_)
    refine (hW.on b7).push (by rw [List.length_take]; omega) fun r' w' h' _ => ?_
    dsimp only
    rw [wrap64_succ (by omega)]
    refine hnext (pl[k].2.2.2.length - (j + 1)) _ w' (by omega) ⟨r', j + 1, rfl, by omega, rfl, ?_⟩
    have hj' : j < (ix pl k).2.2.2.length := by rw [← hal]; exact hjl
    rw [List.take_succ_eq_append_getElem (by rw [agN_len]; exact hj'), agN_get hj']
    have : agI pl k j = pl[k].2.2.2[j].2.1 := by
      unfold agI
      rw [← hal, getD_lt hjl]
    rw [this]
    exact h'
  have hje : j = pl[k].2.2.2.length := by dsimp only at g; omega
  subst hje
  rw [hal, ← agN_len (pl := pl) (k := k), List.take_length] at hW
  have hS3 := hW.own.isS
  have hSl := hS3.len
  refine lay_of fun w10 hX10 b10 z10 => ?_
  have hX10 : Blk w10 w3.heap.size 127 (tyV tv0) := hX10
  have b210 := b3.on b10
  have b010 := b02.on b210
  have hI10 := (hI1.below b2).below b210
  have hD10 := hD2.below b210
  have hS10 := hS3.below b10
  have hM10 := h.below b010
  have lt1 := b1.size
  have lt2 := b2.size
  have lt3 := b3.size
  have eqk : ∀ {j : Nat}, j < (ix pl k).2.2.2.length → (agN pl k).getD j 0 = agI pl k j := fun {j} hj => by rw [getD_lt (by rw [agN_len]; exact hj), agN_get hj]
  have hnl : (agN pl k).length = (ix pl k).2.2.2.length := agN_len
  -- what stands behind
  refine JoinW.cut (fun (st : Int × Unit) w' => ∃ (p : Tp × Int) (v : Tv), oneT T pl k = some p ∧ st = (p.2, ()) ∧ Blk w' w3.heap.size 127 (tyV v) ∧ (p.2 = 0 → TvOk w2.heap.size w' v p.1) ∧ Below w3.heap.size w3 w') ?_ ?_
  rotate_left
  · rintro _ w' ⟨p, v, ho, rfl, hX, hv, hb⟩
    rw [ho] at hR
    have hD' := (hD2.below b3).below hb
    refine Tv.load hX (st8 hD' rfl fun w4 h4 c4 => Tv.load (v := v) h4 (hR w4 v (fun e => ?_) (c4.below ((b02.on b3).on hb) (by omega))))
    have q := hv e
    exact ⟨q.kind, q.size, q.depth, q.sg, q.cls, q.part, q.times, q.ps.of_block fun a ha _ => c4.block _ fun e2 => by have := q.fr a ha; omega, fun a ha => by have := q.fr a ha; omega⟩
  have out : ∀ {w' : World} {p : Tp × Int} (v : Tv) {cs : List Value}, oneT T pl k = some p → Blk w' w3.heap.size 127 cs → cs.length = 8 → Below w3.heap.size w3 w' → (p.2 = 0 → ∀ w2', Below w3.heap.size w3 w2' → TvOk w2.heap.size w2' v p.1) →
      stC (Gk.blk w3.heap.size) 0 (tyV v) w' fun w2' => ∃ (p' : Tp × Int) (v : Tv), oneT T pl k = some p' ∧ ((p.2, ()) : Int × Unit) = (p'.2, ()) ∧ Blk w2' w3.heap.size 127 (tyV v) ∧ (p'.2 = 0 → TvOk w2.heap.size w2' v p'.1) ∧ Below w3.heap.size w3 w2' := fun {w' p} v {cs} ho hB hl hb hv =>
    stC_all hB hl fun w4 h4 c4 => ⟨p, v, ho, rfl, h4, fun e => hv e w4 (c4.below hb (Nat.le_refl _)), c4.below hb (Nat.le_refl _)⟩
  have b310 : Below w3.heap.size w3 w10 := b10
  have nilA : ∀ a, (⟨none, 0, 0⟩ : Sl).a = some a → a.block < w3.heap.size := fun a ha => (by cases ha)
  have rA : ∀ a, r.a = some a → a.block < w3.heap.size := fun a ha => (hW.own.lt ha).2
  have kept : ∀ {v : Tv} {s : Sl} {w4 : World} {a : Addr}, SlOf v s → (∀ a, s.a = some a → a.block < w3.heap.size) → Below w3.heap.size w3 w4 → v.2.2.2.2.2.2.2.1.a = some a → w4.heap[a.block]? = w10.heap[a.block]? := fun {v s w4 a} hsl hs hb ha => by
    have hlt : a.block < w3.heap.size := by
      rcases hsl with e | e
      · rw [e] at ha; exact hs a ha
      · rw [e] at ha; cases ha
    rw [hb.block _ hlt, b310.block _ hlt]
  have lit : ∀ (v : Tv) (t : Tp) (w' : World), v.2.2.2.2.2.2.2.1 = ⟨none, 0, 0⟩ → t.ps = [] → v.1 = t.kind → v.2.1 = (t.size : Int) → v.2.2.1 = (t.depth : Int) → v.2.2.2.1 = t.sg → v.2.2.2.2.1 = t.cls → v.2.2.2.2.2.1 = t.part → v.2.2.2.2.2.2.1 = (t.times : Int) → TvOk w2.heap.size w' v t := fun v t w' e1 e2 q1 q2 q3 q4 q5 q6 q7 =>
    ⟨q1, q2, q3, q4, q5, q6, q7, by rw [e1, e2]; exact nilS _ w', by rw [e1]; exact nilFr _⟩
  refine hI10.rI0 (x := pl[k].1) rfl ?_
  rw [hop]
  -- 19
  refine ifB_beq (fun e19 => ?_) (fun n19 => ?_)
  · refine ⟨hX10.wr (n := 0) (by show 0 < 8; decide), Nw.gen fun w11 e11 => ?_⟩
    have c11 : Chg w3.heap.size w10 w11 := by rw [e11]; exact Chg.set _ 0 _ _
    have h11 : Blk w11 w3.heap.size 127 (tyV (1, 0, 0, false, 0, 0, 0, ⟨none, 0, 0⟩, ())) := by rw [e11]; exact hX10.set 0 _
    exact ⟨({ tp0 with kind := 1 }, 0), (1, 0, 0, false, 0, 0, 0, ⟨none, 0, 0⟩, ()), by unfold oneT; rw [if_pos e19], rfl, h11, fun _ => lit _ _ _ rfl rfl rfl rfl rfl rfl rfl rfl rfl, c11.below b310 (Nat.le_refl _)⟩
  -- 20
  refine ifB_beq (fun e20 => ?_) (fun n20 => ?_)
  · refine ⟨hX10.wr (n := 0) (by show 0 < 8; decide), Nw.gen fun w11 e11 => ?_⟩
    have c11 : Chg w3.heap.size w10 w11 := by rw [e11]; exact Chg.set _ 0 _ _
    have h11 : Blk w11 w3.heap.size 127 (tyV (2, 0, 0, false, 0, 0, 0, ⟨none, 0, 0⟩, ())) := by rw [e11]; exact hX10.set 0 _
    refine ⟨h11.wr (n := 1) (by show 1 < 8; decide), Nw.gen fun w12 e12 => ?_⟩
    have c12 : Chg w3.heap.size w11 w12 := by rw [e12]; exact Chg.set _ _ _ _
    have h12 : Blk w12 w3.heap.size 127 (tyV (2, 1, 0, false, 0, 0, 0, ⟨none, 0, 0⟩, ())) := by rw [e12]; exact h11.set 1 _
    refine ⟨h12.wr (n := 2) (by show 2 < 8; decide), Nw.gen fun w13 e13 => ?_⟩
    have c13 : Chg w3.heap.size w12 w13 := by rw [e13]; exact Chg.set _ _ _ _
    have h13 : Blk w13 w3.heap.size 127 (tyV (2, 1, 1, false, 0, 0, 0, ⟨none, 0, 0⟩, ())) := by rw [e13]; exact h12.set 2 _
    exact ⟨({ tp0 with kind := 2, size := 1, depth := 1 }, 0), (2, 1, 1, false, 0, 0, 0, ⟨none, 0, 0⟩, ()), by unfold oneT; rw [if_neg n19, if_pos e20], rfl, h13, fun _ => lit _ _ _ rfl rfl rfl rfl rfl rfl rfl rfl rfl, c13.below (c12.below (c11.below b310 (Nat.le_refl _)) (Nat.le_refl _)) (Nat.le_refl _)⟩
  -- 21
  refine ifB_beq (fun e21 => ?_) (fun n21 => ?_)
  · have hl2 : (ix pl k).2.2.2.length = 2 := form_len hs hk e21 form_21
    have ho : oneT T pl k = some ({ tp0 with kind := 3, size := 1, depth := 1, sg := agI pl k 1 == 1 }, if agI pl k 0 ≠ 32 ∨ 1 < agI pl k 1 then 102 else 0) := by unfold oneT; rw [if_neg n19, if_neg n20, if_pos e21]
    refine JoinW.cut (fun (st : Int × Unit) w' => st = ((if agI pl k 0 ≠ 32 ∨ 1 < agI pl k 1 then (102 : Int) else 0), ()) ∧ w' = w10) ?_ ?_
    · refine elemU (k := 0) hS10 (by omega) ?_
      rw [agN_get (by omega)]
      refine ifB_bne (fun q => ⟨by rw [if_pos (.inl q)], rfl⟩) (fun q => elemU (k := 1) hS10 (by omega) ?_)
      rw [agN_get (by omega)]
      exact ifB_dec (fun q2 => ⟨by rw [if_pos (.inr q2)], rfl⟩) (fun q2 => ⟨by rw [if_neg (by omega)], rfl⟩)
    · rintro _ _ ⟨rfl, rfl⟩
      refine elemU (k := 1) hS10 (by omega) ?_
      rw [agN_get (by omega)]
      exact out (3, 1, 1, agI pl k 1 == 1, 0, 0, 0, ⟨none, 0, 0⟩, ()) ho hX10 rfl b310 fun _ w' _ => lit _ _ _ rfl rfl rfl rfl rfl rfl rfl rfl rfl
  -- 23
  refine ifB_beq (fun e23 => ?_) (fun n23 => ?_)
  · have hl2 : (ix pl k).2.2.2.length = 2 := form_len hs hk e23 form_23
    have ho : oneT T pl k = some (vecT T (agI pl k 0) (agI pl k 1)) := by unfold oneT; rw [if_neg n19, if_neg n20, if_neg n21, if_pos e23]
    have hMd := hM10.below ((Below.refl _ _).drew : Below w10.heap.size w10 w10.drew)
    refine derefP_some rfl ⟨_, hMd.blk.cell0 rfl, elemU (k := 0) hS10.drew (by omega) ?_⟩
    rw [agN_get (by omega)]
    refine elemU (k := 1) hS10.drew (by omega) ?_
    rw [agN_get (by omega)]
    refine tyVector_spec (B' := w2.heap.size) hMd.tb hT (agI_le hp hk (by omega)) fun w' v hv hsl hb => ⟨v, _, rfl, ?_⟩
    exact out v ho ((hX10.drew).below hb) rfl (b310.drew.on hb) fun _ w4 hb4 => hv.moved fun a ha => kept hsl nilA hb4 ha
  -- 28
  refine ifB_beq (fun e28 => ?_) (fun n28 => ?_)
  · have hl2 : (ix pl k).2.2.2.length = 2 := form_len hs hk e28 form_28
    have ho : oneT T pl k = some (arrT T (mdP pl (agI pl k 1) k) (agI pl k 0)) := by unfold oneT; rw [if_neg n19, if_neg n20, if_neg n21, if_neg n23, if_pos e28]
    have hMd := hM10.below ((Below.refl _ _).drew : Below w10.heap.size w10 w10.drew)
    refine elemU (k := 0) hS10.drew (by omega) ?_
    rw [agN_get (by omega)]
    refine elemU (k := 1) hS10.drew (by omega) ?_
    rw [agN_get (by omega)]
    have h1 : agI pl k 1 ≠ 0 := by
      obtain ⟨f, _, f3, _, _, _, _, _, hw⟩ := form_of hs hk e28 form_28
      have hk1 := arg_fix2 hs hk e28 form_28 (j := 1) (by omega) (by decide)
      have := hw 1 (by omega)
      unfold werr at this
      exact wrong_id this (by rw [hk1]; decide +kernel)
    refine tyArray_spec (B' := w2.heap.size) hMd hT h1 (hm _) fun w' v hv hsl hb => ⟨v, _, rfl, ?_⟩
    exact out v ho ((hX10.drew).below hb) rfl (b310.drew.on hb) fun _ w4 hb4 => hv.moved fun a ha => kept hsl nilA hb4 ha
  -- 30
  refine ifB_beq (fun e30 => ?_) (fun n30 => ?_)
  · have ho : oneT T pl k = some (memT T (agN pl k)) := by unfold oneT; rw [if_neg n19, if_neg n20, if_neg n21, if_neg n23, if_neg n28, if_pos e30]
    refine derefP_some rfl ⟨_, hM10.blk.cell0 rfl, ?_⟩
    refine tyMembers_spec (B' := w2.heap.size) hM10.tb hT hS10 hW.fr fun w' v hv hsl hb => ⟨v, _, rfl, ?_⟩
    exact out v ho (hX10.below hb) rfl (b310.on hb) fun _ w4 hb4 => hv.moved fun a ha => kept hsl rA hb4 ha
  -- 32
  refine ifB_beq (fun e32 => ?_) (fun n32 => ?_)
  · have hl2 : (ix pl k).2.2.2.length = 2 := form_len hs hk e32 form_32
    have ho : oneT T pl k = some ({ tp0 with kind := 7, cls := agI pl k 0, ps := (agN pl k).drop 1 }, if (tA T (agI pl k 1)).size = 0 then 100 else 0) := by unfold oneT; rw [if_neg n19, if_neg n20, if_neg n21, if_neg n23, if_neg n28, if_neg n30, if_pos e32]
    have hMd := hM10.below ((Below.refl _ _).drew : Below w10.heap.size w10 w10.drew)
    refine JoinW.cut (fun (st : Int × Unit) w' => st = ((if (tA T (agI pl k 1)).size = 0 then (100 : Int) else 0), ()) ∧ w' = w10.drew) ?_ ?_
    · refine derefP_some rfl ⟨_, hMd.blk.cell0 rfl, elemU (k := 1) hS10.drew (by omega) ?_⟩
      rw [agN_get (by omega)]
      refine plain_spec hMd.tb ⟨_, rfl, ifB_not (ifB_dec (fun g => ⟨by rw [if_neg (by omega)], rfl⟩) (fun g => ⟨by rw [if_pos (by omega)], rfl⟩))⟩
    · rintro _ _ ⟨rfl, rfl⟩
      refine elemU (k := 0) hS10.drew.drew (by omega) ?_
      rw [agN_get (by omega)]
      refine ⟨⟨by omega, by show (1 : Int) ≤ (r.l : Int); omega, by show (r.l : Int) ≤ (r.c : Int); have := hS10.cap; omega⟩, ?_⟩
      refine out (7, 0, 0, false, agI pl k 0, 0, 0, ⟨if r.c = 1 then r.a else Option.map (fun a => a.add 1) r.a, r.l - 1, r.c - 1⟩, ()) ho hX10.drew.drew rfl b310.drew.drew fun _ w4 hb4 => ?_
      have hS4 := hS3.below hb4
      exact ⟨rfl, rfl, rfl, rfl, rfl, rfl, rfl, tailS hS4 (by omega), fresh_tail hW.fr⟩
  -- 33
  refine ifB_beq (fun e33 => ?_) (fun n33 => ?_)
  · have ho : oneT T pl k = some (fnT T (agN pl k)) := by unfold oneT; rw [if_neg n19, if_neg n20, if_neg n21, if_neg n23, if_neg n28, if_neg n30, if_neg n32, if_pos e33]
    refine derefP_some rfl ⟨_, hM10.blk.cell0 rfl, ?_⟩
    refine tyFunction_spec (B' := w2.heap.size) hM10.tb hS10 hW.fr (by rw [hnl, ← hal]; omega) fun w' v hv hsl hb => ⟨v, _, rfl, ?_⟩
    exact out v ho (hX10.below hb) rfl (b310.on hb) fun _ w4 hb4 => hv.moved fun a ha => kept hsl rA hb4 ha
  · have ho : oneT T pl k = none := by unfold oneT; rw [if_neg n19, if_neg n20, if_neg n21, if_neg n23, if_neg n28, if_neg n30, if_neg n32, if_neg n33]
    rw [ho] at hR
    refine st8 hD10 rfl fun w4 h4 c4 => Tv.load (v := tv0) h4 (hR w4 (c4.below b010 (by omega)))
end
end Go.Proofs
namespace Go.Gk
open Go.RowKit Go.MapKept
variable {P : Program} {α κ : Type}

section
variable [DecidableEq κ]

def lookG : List (κ × α) → κ → Option α
  | [], _ => none
  | p :: r, k => if k = p.1 then some p.2 else lookG r k
def setG : List (κ × α) → κ → α → List (κ × α)
  | [], k, v => [(k, v)]
  | p :: r, k, v => if k = p.1 then (k, v) :: r else p :: setG r k v
theorem lookG_set (k : κ) (v : α) (k' : κ) : ∀ L, lookG (setG L k v) k' = if k' = k then some v else lookG L k'
  | [] => by simp only [setG, lookG]
  | p :: r => by
    have ih := lookG_set k v k' r
    simp only [setG]
    split
    · rename_i e
      simp only [lookG]
      split
      · rfl
      · rename_i e'
        rw [if_neg (by rw [← e]; exact e')]
    · rename_i e
      simp only [lookG]
      split
      · rename_i e'
        rw [if_neg (by rw [e']; exact fun h => e h.symm)]
      · exact ih
theorem setG_none {k : κ} {v : α} : ∀ {L : List (κ × α)}, lookG L k = none → setG L k v = L ++ [(k, v)]
  | [], _ => rfl
  | p :: r, hn => by
    simp only [lookG] at hn
    split at hn
    · cases hn
    · rename_i e
      simp only [setG]
      rw [if_neg e, setG_none hn]
      rfl
end
/-- How keys lie in memory. -/
structure KeyOk (d : TypeDesc) (kv : κ → Value) : Prop where
  is : ∀ k, IsKey d (kv k)
  inj : ∀ a b, kv a = kv b → a = b
/-- The map at block r has the entries L, in this order. -/
def IsMg (w : World) (r : Nat) (kv : κ → Value) (f : α → Value) (L : List (κ × α)) : Prop :=
  ∃ es clock, w.heap[r]? = some (.map es clock) ∧ es.toList.map (fun e => (e.key, e.val)) = (L.map fun p => (kv p.1, f p.2)) ∧ (∀ x ∈ es.toList, x.born < clock) ∧ (es.toList.map (·.born)).Nodup
variable {d : TypeDesc} {kv : κ → Value} {f : α → Value} {w w' : World} {r : Nat} {L : List (κ × α)}
theorem IsMg.lt (h : IsMg w r kv f L) : r < w.heap.size := by
  obtain ⟨es, c, h, _⟩ := h
  exact (Array.getElem?_eq_some_iff.1 h).1
theorem IsMg.of_block (h : IsMg w r kv f L) (hb : w'.heap[r]? = w.heap[r]?) : IsMg w' r kv f L := by
  obtain ⟨es, c, h1, h2⟩ := h
  exact ⟨es, c, hb.trans h1, h2⟩
theorem IsMg.below (h : IsMg w r kv f L) (hb : Below w.heap.size w w') : IsMg w' r kv f L := h.of_block (hb.block r h.lt)
theorem IsMg.new (w : World) (kv : κ → Value) (f : α → Value) : IsMg (w.alloc (.map #[] 0)) w.heap.size kv f [] := ⟨#[], 0, by show (w.heap.push _)[w.heap.size]? = _; simp, rfl, (by simp), by simp⟩
theorem IsMg.notBlk (h : IsMg w r kv f L) {b : Nat} {T : TypeId} {cs : List Value} (hB : Blk w b T cs) : r ≠ b := by
  rintro rfl
  obtain ⟨es, c, h, _⟩ := h
  have := (show w.heap[r]? = _ from hB).symm.trans h
  simp at this
variable [DecidableEq κ]
theorem findG_of (hk : KeyOk d kv) (f : α → Value) (k : κ) : ∀ (es : List MapEntry) (L : List (κ × α)) (i : Nat), es.map (fun e => (e.key, e.val)) = (L.map fun p => (kv p.1, f p.2)) →
    ∃ o, Instr.findNow d (kv k) es i = some o ∧ (match o with
      | none => lookG L k = none
      | some (j, v) => ∃ m x, j = i + m ∧ m < es.length ∧ v = f x ∧ lookG L k = some x ∧ ∃ e, es[m]? = some e ∧ e.key = kv k ∧
          ∀ v', (es.modify m fun e => { e with key := kv k, val := f v' }).map (fun e => (e.key, e.val)) = (setG L k v').map fun p => (kv p.1, f p.2))
  | [], [], i, _ => ⟨none, rfl, rfl⟩
  | [], _ :: _, _, h => by simp at h
  | _ :: _, [], _, h => by simp at h
  | e :: es, p :: L, i, h => by
    simp only [List.map_cons, List.cons.injEq, Prod.mk.injEq] at h
    obtain ⟨⟨h1, h2⟩, h3⟩ := h
    unfold Instr.findNow
    obtain ⟨b, hb, hiff⟩ := sameNow_of_keys (hk.is k) (hk.is p.1)
    rw [h1, hb]
    cases b with
    | true =>
      have hkp : k = p.1 := hk.inj _ _ (hiff.1 rfl)
      refine ⟨some (i, e.val), rfl, 0, p.2, rfl, by simp, h2, by simp [lookG, hkp], e, rfl, by rw [h1, hkp], fun v' => ?_⟩
      simp [setG, hkp, h3]
    | false =>
      have hkp : ¬ k = p.1 := fun e => by
        have := hiff.2 (by rw [e])
        cases this
      obtain ⟨o, ho, hm⟩ := findG_of hk f k es L (i + 1) h3
      refine ⟨o, ho, ?_⟩
      cases o with
      | none => simpa [lookG, hkp] using hm
      | some q =>
        obtain ⟨j, v⟩ := q
        obtain ⟨m, x, g1, g2, g3, g4, e', g5, g6, g7⟩ := hm
        refine ⟨m + 1, x, by omega, by simp; omega, g3, by simpa [lookG, hkp] using g4, e', by simpa using g5, g6, fun v' => ?_⟩
        have := g7 v'
        simp [setG, hkp, h1, h2, this]
theorem run_lookG (hk : KeyOk d kv) {t kt et : TypeId} (ht : P.underlying t = some (.map kt et)) (hkt : P.underlying kt = some d) {z : Value} (hz : ∃ i, P.info? et = some i ∧ i.zero = some z) (h : IsMg w r kv f L) (k : κ) (ok : Bool) :
    (Instr.lookup t (.map (some r)) (kv k) ok).run P w = .ok (if ok then .tuple #[((lookG L k).map f).getD z, .bool (lookG L k).isSome] else ((lookG L k).map f).getD z) w := by
  obtain ⟨es, c, hb, hes, _⟩ := h
  obtain ⟨i, hi, hzi⟩ := hz
  obtain ⟨o, ho, hm⟩ := findG_of hk f k es.toList L 0 hes
  unfold Instr.lookup
  have hck : ∀ e, (Instr.checkKey e 10000 kt (kv k)).run P w = .ok () w := fun e => run_checkKey hkt (hk.is k) e 9999
  have hg : (getObj r).run P w = .ok (.map es c) w := Go.MapKept.run_getObj_map hb
  simp only [Sem.run_bind, run_underlying ht, Result.andThen_ok, hg, Sem.run_pure, hck, run_findKey hkt ho]
  cases o with
  | none =>
    have hzr : (zeroValue et).run P w = .ok z w := by simp [zeroValue, typeInfo, hi, hzi, Result.andThen]
    have hm : lookG L k = none := hm
    simp only [Sem.run_bind, hzr, Result.andThen_ok, Sem.run_pure, hm, Option.map_none, Option.getD_none, Option.isSome_none]
  | some q =>
    obtain ⟨j, v⟩ := q
    obtain ⟨m, x, g1, g2, g3, g4, _⟩ := hm
    simp only [Sem.run_bind, Sem.run_pure, Result.andThen_ok, g3, g4, Option.map_some, Option.getD_some, Option.isSome_some]
theorem updG_of (hk : KeyOk d kv) {t kt et : TypeId} (ht : P.underlying t = some (.map kt et)) (hkt : P.underlying kt = some d) (h : IsMg w r kv f L) {k : κ} {v : α} {x y : Value} (hx : x = kv k) (hy : y = f v) {K : World → Prop}
    (hK : ∀ w', IsMg w' r kv f (setG L k v) → Go.Proofs.Chg r w w' → K w') : updW P t (.map (some r)) x y w K := by
  subst hx
  subst hy
  have hlt := h.lt
  obtain ⟨es, c, hb, hes, hstamp, hnd⟩ := h
  obtain ⟨o, ho, hm⟩ := findG_of hk f k es.toList L 0 hes
  have hck : ∀ e, (Instr.checkKey e 10000 kt (kv k)).run P w = .ok () w := fun e => run_checkKey hkt (hk.is k) e 9999
  have hg : (getObj r).run P w = .ok (.map es c) w := Go.MapKept.run_getObj_map hb
  unfold updW Instr.mapUpdate
  simp only [Sem.run_bind, run_underlying ht, Result.andThen_ok, hg, Sem.run_pure, hck, run_findKey hkt ho]
  cases o with
  | none =>
    simp only [run_setObj_map _ hb]
    refine ⟨_, rfl, hK _ ⟨_, _, (heap_set hb).1, ?_, fun x hx => ?_, ?_⟩ (chg_block _ _ _)⟩
    rotate_left
    · rw [Array.toList_push] at hx
      rcases List.mem_append.1 hx with hx | hx
      · exact Nat.lt_succ_of_lt (hstamp x hx)
      · rw [List.mem_singleton.1 hx]
        exact Nat.lt_succ_self c
    · rw [Array.toList_push, List.map_append]
      refine List.nodup_append.2 ⟨hnd, by simp, ?_⟩
      intro a ha b hb e
      obtain ⟨x, hx, rfl⟩ := List.mem_map.1 ha
      simp only [List.map_cons, List.map_nil, List.mem_singleton] at hb
      have := hstamp x hx
      omega
    simp only [Array.toList_push, List.map_append, hes, List.map_cons, List.map_nil]
    rw [setG_none hm]
    simp
  | some q =>
    obtain ⟨j, v0⟩ := q
    obtain ⟨m, x, g1, g2, g3, g4, e, g5, g6, g7⟩ := hm
    have hj : j = m := by omega
    subst hj
    have hst : (Instr.keyThatStays (((es[j]?).map (·.key)).getD (kv k)) (kv k)).run P w = .ok (kv k) w := by
      have : ((es[j]?).map (·.key)).getD (kv k) = kv k := by
        rw [← Array.getElem?_toList, g5]
        exact g6
      rw [this]
      exact run_keyThatStays (hk.is k)
    simp only [Sem.run_bind, hst, Result.andThen_ok, run_setObj_map _ hb]
    have hbn : (es.modify j fun e => { e with key := kv k, val := f v }).toList.map (·.born) = es.toList.map (·.born) := by
      rw [Array.toList_modify]
      apply List.ext_getElem
      · simp
      · intro n q1 q2
        simp only [List.getElem_map, List.getElem_modify]
        split <;> rfl
    refine ⟨_, rfl, hK _ ⟨_, _, (heap_set hb).1, ?_, fun x hx => ?_, by rw [hbn]; exact hnd⟩ (chg_block _ _ _)⟩
    rotate_left
    · have : x.born ∈ es.toList.map (·.born) := by rw [← hbn]; exact List.mem_map.2 ⟨x, hx, rfl⟩
      obtain ⟨y, hy, e⟩ := List.mem_map.1 this
      rw [← e]
      exact hstamp y hy
    have := g7 v
    rw [← this]
    congr 1
    rw [Array.toList_modify]
theorem lookVG_of {β : BK} (hk : KeyOk d kv) {t kt et : TypeId} (ht : P.underlying t = some (.map kt et)) (hkt : P.underlying kt = some d) {z : β.T} (hz : ∃ i, P.info? et = some i ∧ i.zero = some (β.v z)) {L : List (κ × β.T)} (h : IsMg w r kv β.v L) {k : κ} {x : Value} (hx : x = kv k)
    {φ : β.T → Prop} (hφ : φ ((lookG L k).getD z)) : lookV P t (.map (some r)) x β w φ := by
  subst hx
  refine ⟨(lookG L k).getD z, ?_, hφ⟩
  have := run_lookG hk ht hkt hz h k false
  rw [this]
  cases lookG L k <;> rfl
/-- Strings as keys. -/
abbrev strV (l : List UInt8) : Value := .string ⟨l.toArray⟩
theorem strKey : KeyOk .string strV := ⟨fun _ => trivial, fun a b h => by
  unfold strV at h
  injection h with h
  have h := congrArg (fun x : ByteArray => x.data.toList) h
  simpa using h⟩
theorem intKey (k : IntKind) : KeyOk (.int k) (Value.int k) := ⟨fun _ => rfl, fun a b h => by injection h⟩
end Go.Gk
namespace Go.Proofs
open Go.Gk Go.RowKit Go.Gm

/-- How often the keys of the types ahead stand. -/
structure IsSeen (w : World) (r : Nat) (pl : List PI) (n : Nat) : Prop where
  ex : ∃ S : List (List UInt8 × Int), IsMg w r strV (Value.int .i64) S ∧ ∀ key, 0 ≤ (lookG S key).getD 0 ∧ (lookG S key).getD 0 ≤ (n : Int) ∧ (0 < (lookG S key).getD 0 ↔ ∃ j, j < n ∧ agOp (ix pl j).1 = true ∧ keyT pl j = key)
section
variable {w w' : World} {R : Value → World → Prop} {kb rs k : Nat} {pl : List PI} {t : Sl} {bd : Int}
theorem IsSeen.of_block (h : IsSeen w rs pl k) (hb : w'.heap[rs]? = w.heap[rs]?) : IsSeen w' rs pl k := by
  obtain ⟨S, h1, h2⟩ := h
  exact ⟨S, h1.of_block hb, h2⟩
theorem IsSeen.lt (h : IsSeen w rs pl k) : rs < w.heap.size := by
  obtain ⟨S, h1, h2⟩ := h
  exact h1.lt
theorem IsSeen.below (h : IsSeen w rs pl k) (hb : Below w.heap.size w w') : IsSeen w' rs pl k := h.of_block (hb.block _ h.lt)
theorem IsSeen.skip (h : IsSeen w rs pl k) (hn : agOp (ix pl k).1 = false) : IsSeen w rs pl (k + 1) := by
  obtain ⟨S, h1, h2⟩ := h
  refine ⟨S, h1, fun key => ?_⟩
  obtain ⟨g1, g2, g3⟩ := h2 key
  refine ⟨g1, by omega, g3.trans ⟨fun ⟨j, q1, q2⟩ => ⟨j, by omega, q2⟩, fun ⟨j, q1, q2, q3⟩ => ⟨j, ?_, q2, q3⟩⟩⟩
  have : j ≠ k := by rintro rfl; rw [hn] at q2; cases q2
  omega
theorem uSeen : Tryz.prog.underlying 184 = some (.map 9 3) := by kernel_rfl
theorem zSeen : ∃ i, Tryz.prog.info? 3 = some i ∧ i.zero = some ((BK.int .i64).v (0 : Int)) := by
  have h : (Tryz.prog.info? 3).map (·.zero) = some (some (.int .i64 0)) := by kernel_rfl
  cases hi : Tryz.prog.info? 3 with
  | none => rw [hi] at h; cases h
  | some i => rw [hi] at h; exact ⟨i, rfl, by injection h⟩
theorem ba_app (a b : List UInt8) : (⟨a.toArray⟩ : ByteArray) ++ (⟨b.toArray⟩ : ByteArray) = ⟨(a ++ b).toArray⟩ := by
  refine ByteArray.ext ?_
  rw [ByteArray.data_append, List.append_toArray]
theorem ba_size (a : List UInt8) : (⟨a.toArray⟩ : ByteArray).size = a.length := List.size_toArray
set_option maxHeartbeats 1000000 in
theorem again_spec {kb : Nat} {cs : List Value} (hK : Blk w kb 186 cs) (hc : cs[2]? = some (.map (some rs))) (hS : IsSeen w rs pl k) (ht : Tab w) (hp : PlOk pl) (hs : (shapeP bd pl).1 = 0) (hk : k < pl.length) (hop : 0 ≤ (ix pl k).1 ∧ (ix pl k).1 ≤ 65535) (hI : IsAg w t pl[k].2.2.2)
    (hty : agOp (ix pl k).1 = true ∨ (ix pl k).1 = 28 ∨ (ix pl k).1 = 30)
    (hR : ∀ w', Fr w.heap.size (fun i => i = rs) w w' → IsSeen w' rs pl (k + 1) → R (.bool (agnT pl k)) w') : callR Tryz.prog 101 #[.pointer (some (blk kb)), inA (mkIn pl[k] t)] w R := by
  refine callR.of (types_maker_again_calls _ (mkIn pl[k] t) R w ?_) fun _ _ h => h
  have hix := ix_lt hk
  have hal : pl[k].2.2.2 = (ix pl k).2.2.2 := by rw [hix]
  have hop1 : pl[k].1 = (ix pl k).1 := by rw [hix]
  refine lay_of fun w1 hI1 b1 z1 => ?_
  have hI1 : Blk w1 w.heap.size 52 (inV (mkIn pl[k] t)) := hI1
  have fr : ∀ {w'}, Below w.heap.size w w' → Fr w.heap.size (fun i => i = rs) w w' := fun hb => ⟨hb.os, hb.tape, hb.output, hb.size, fun i hi _ => hb.block i hi⟩
  have idle : ((ix pl k).1 = 28 ∨ (ix pl k).1 = 30) → R (.bool false) w1 := fun q => by
    have hn : agOp (ix pl k).1 = false := by
      rcases q with q | q <;> rw [q] <;> rfl
    have := hR w1 (fr b1) ((hS.skip hn).below b1)
    have e : agnT pl k = false := by
      unfold agnT
      rcases q with q | q <;> rw [q] <;> simp
    rwa [e] at this
  refine JoinW.cut (fun (_ : Unit) w' => w' = w1 ∧ agOp (ix pl k).1 = true) ?_ ?_
  · refine hI1.rI0 (x := pl[k].1) rfl ?_
    rw [hop1]
    refine ifB_beq (fun q => idle (.inl q)) (fun q => hI1.rI0 (x := pl[k].1) rfl ?_)
    rw [hop1]
    refine ifB_beq (fun q2 => idle (.inr q2)) (fun q2 => ⟨rfl, ?_⟩)
    rcases hty with h | h | h
    · exact h
    · exact absurd h q
    · exact absurd h q2
  rintro _ w2 ⟨rfl, hag⟩
  have ht2 := ht.below b1
  refine hI1.rI0 (x := pl[k].1) rfl ?_
  rw [hop1, wrap64_in (by omega) (by omega)]
  refine Itoa_spec (by omega) (by omega) ht2 fun w3 b3 => ⟨_, rfl, ?_⟩
  have b03 := b1.on b3
  have hlen := args_le hs hk
  have hA3 : IsAg w3 t pl[k].2.2.2 := IsC.below agV_len hI b03
  have htl := hA3.len
  have hpos := agN_pos hp hk
  have hnl : (agN pl k).length = (ix pl k).2.2.2.length := agN_len
  obtain ⟨on, hon⟩ := Int.eq_ofNat_of_zero_le hop.1
  refine (hI1.below b3).rS (n := 3) (x := t) rfl ?_
  refine LoopW.ghost (fun m (st : ByteArray × Int × Unit) w' => ∃ j : Nat, st = ((⟨(Lib.itoa (ix pl k).1 ++ spc ((agN pl k).take j)).toArray⟩ : ByteArray), (j : Int), ()) ∧ j ≤ pl[k].2.2.2.length ∧ m = pl[k].2.2.2.length - j ∧ Below w3.heap.size w3 w') pl[k].2.2.2.length ⟨0, by rw [List.take_zero]; unfold spc; rw [List.flatMap_nil, List.append_nil]; rfl, Nat.zero_le _, rfl, Below.refl _ _⟩ ?_
  rintro _ _ w4 ⟨j, rfl, hj, rfl, b4⟩ next hnext
  have b04 := b03.on b4
  refine ifB_dec (fun g => ?_) (fun g => ?_)
  · have hjl : j < pl[k].2.2.2.length := by dsimp only at g; omega
    have hj' : j < (ix pl k).2.2.2.length := by rw [← hal]; exact hjl
    have hval : pl[k].2.2.2[j].2.1 = agI pl k j := by
      unfold agI
      rw [← hal, getD_lt hjl]
    obtain ⟨p1, p2⟩ := agI_le hp hk hj'
    obtain ⟨an, han⟩ := Int.eq_ofNat_of_zero_le p1
    refine elemA3 (IsC.below agV_len hA3 b4) hjl (box3 rfl fun w7 h7 b7 z7 => h7.rI (n := 1) (x := pl[k].2.2.2[j].2.1) rfl ?_)
    rw [hval, wrap64_in (by omega) (by omega)]
    refine Itoa_spec (by omega) (by omega) (ht.below (b04.on b7)) fun w8 b8 => ⟨_, rfl, ?_⟩
    have l1 := itoa_len (n := an) (by omega)
    have l2 := itoa_len (n := on) (by omega)
    have l3 := spc_len (l := (agN pl k).take j) fun a ha => hpos a (List.mem_of_mem_take ha)
    rw [List.length_take] at l3
    have e32 : (ByteArray.mk #[32]) ++ (⟨(Lib.itoa (agI pl k j)).toArray⟩ : ByteArray) = ⟨(32 :: Lib.itoa (agI pl k j)).toArray⟩ := ba_app [32] _
    have es : (⟨(Lib.itoa (ix pl k).1 ++ spc ((agN pl k).take j)).toArray⟩ : ByteArray) ++ (⟨(32 :: Lib.itoa (agI pl k j)).toArray⟩ : ByteArray) = ⟨(Lib.itoa (ix pl k).1 ++ spc ((agN pl k).take (j + 1))).toArray⟩ := by
      rw [ba_app, List.take_succ_eq_append_getElem (by rw [hnl]; exact hj'), agN_get hj', spc_snoc, List.append_assoc]
    rw [← han] at l1
    rw [← hon] at l2
    refine ⟨?_, ?_, ?_⟩
    · show (((ByteArray.mk #[32]).size + (⟨(Lib.itoa (agI pl k j)).toArray⟩ : ByteArray).size : Nat) : Int) ≤ 9223372036854775807
      rw [ba_size (Lib.itoa (agI pl k j)), show (ByteArray.mk #[32]).size = 1 from rfl]
      omega
    · unfold sumFits
      rw [e32, ba_size, ba_size, List.length_append, List.length_cons]
      omega
    · dsimp only
      rw [e32, es, wrap64_succ (by omega)]
      exact hnext (pl[k].2.2.2.length - (j + 1)) _ w8 (by omega) ⟨j + 1, rfl, by omega, rfl, (b4.on b7).on b8⟩
  have hje : j = pl[k].2.2.2.length := by dsimp only at g; omega
  subst hje
  dsimp only
  rw [hal, ← hnl, List.take_length]
  show derefP (some (Gk.blk kb)) _
  have hkey : Lib.itoa (ix pl k).1 ++ spc (agN pl k) = keyT pl k := rfl
  rw [hkey]
  obtain ⟨S, hS1, hS2⟩ := hS.below b04
  have hK4 := hK.below b04
  refine derefP_some rfl ⟨some rs, hK4.cell hc, ?_⟩
  obtain ⟨g1, g2, g3⟩ := hS2 (keyT pl k)
  have hlenp := hp.len
  refine lookVG_of (β := .int .i64) (κ := List UInt8) strKey uSeen Tryz.underlying9 zSeen hS1 (k := keyT pl k) rfl ?_
  have ew : IntKind.i64.wrap ((lookG S (keyT pl k)).getD 0 + 1) = (lookG S (keyT pl k)).getD 0 + 1 := wrap64_in (by omega) (by omega)
  show updW _ _ _ _ (.int .i64 (IntKind.i64.wrap ((lookG S (keyT pl k)).getD 0 + 1))) _ _
  rw [ew]
  refine updG_of strKey uSeen Tryz.underlying9 hS1 (k := keyT pl k) (v := (lookG S (keyT pl k)).getD 0 + 1) rfl rfl fun w5 hS5 c5 => ?_
  have hne : rs ≠ kb := hS1.notBlk hK4
  have hK5 := c5.blk hK4 (Ne.symm hne)
  refine derefP_some rfl ⟨some rs, hK5.cell hc, ?_⟩
  refine lookVG_of (β := .int .i64) (κ := List UInt8) strKey uSeen Tryz.underlying9 zSeen hS5 (k := keyT pl k) rfl ?_
  have e5 : (lookG (setG S (keyT pl k) ((lookG S (keyT pl k)).getD 0 + 1)) (keyT pl k)).getD 0 = (lookG S (keyT pl k)).getD 0 + 1 := by rw [lookG_set, if_pos rfl]; rfl
  show R (.bool (decide ((lookG (setG S (keyT pl k) ((lookG S (keyT pl k)).getD 0 + 1)) (keyT pl k)).getD 0 > 1))) w5
  rw [e5]
  have hbool : decide ((lookG S (keyT pl k)).getD 0 + 1 > 1) = agnT pl k := by
    have h1 := agnT_key hp hk hag
    rw [← g3] at h1
    by_cases q : 0 < (lookG S (keyT pl k)).getD 0
    · rw [h1.2 q]
      exact decide_eq_true (by omega)
    · cases hb : agnT pl k with
      | true => exact absurd (h1.1 hb) q
      | false => exact decide_eq_false (by omega)
  rw [hbool]
  refine hR w5 ⟨c5.os.trans b04.os, c5.tape.trans b04.tape, c5.output.trans b04.output, by rw [c5.size]; exact b04.size, fun i hi hx => (c5.block i hx).trans (b04.block i hi)⟩ ⟨_, hS5, fun key => ?_⟩
  rw [lookG_set]
  by_cases e : key = keyT pl k
  · rw [if_pos e]
    refine ⟨by show (0 : Int) ≤ _ + 1; omega, by show _ + 1 ≤ _; omega, ⟨fun _ => ⟨k, by omega, hag, e.symm⟩, fun _ => by show (0 : Int) < _ + 1; omega⟩⟩
  · rw [if_neg e]
    obtain ⟨f1, f2, f3⟩ := hS2 key
    refine ⟨f1, by omega, f3.trans ⟨fun ⟨j, q1, q2⟩ => ⟨j, by omega, q2⟩, fun ⟨j, q1, q2, q3⟩ => ⟨j, ?_, q2, q3⟩⟩⟩
    have : j ≠ k := by rintro rfl; exact e q3.symm
    omega
end
end Go.Proofs
namespace Go.Proofs
open Go.Gk Go.RowKit Go.Gm

theorem eTyKey : Tryz.prog.underlying 22 = some (.int .u32) := Tryz.underlying22
/-- append of one element: the new list lies where the old one lay, or behind all. -/
theorem push_at10 {P : Program} {t e : TypeId} {sz bytes : Nat} (he : ElemT P t e sz bytes) {w : World} {s : Sl} {xs : List Value} (h : Own w e sz s xs) {vs : List Value} (hvs : vs.length = sz) (hv : ∀ u ∈ vs, u.oneCell' = true) {b c : Nat} {T : TypeId}
    (hB : Blk w b T vs) (h63 : s.l + 1 ≤ 9223372036854775807) (hbytes : (s.l + 1) * bytes ≤ 140737488355328) {k : Sl → World → Prop}
    (hk : ∀ r w' b', Own w' e sz r (xs ++ vs) → r.a = some (blk b') → (s.a = some (blk b') ∨ b' = w.heap.size) → (∀ B, B ≤ b' → B ≤ w.heap.size → Below B w w') → (∀ i, i < w.heap.size → i ≠ b' → w'.heap[i]? = w.heap[i]?) → k r w') : appendS P t (.slice s.a s.l s.c) (.slice (some (blk b)) 1 c) w k := by
  refine append_own he h (news := vs) (by omega) (fun j u hj => hB.cell hj) hv h63 hbytes fun r w' h1 hl' hg => ?_
  rcases hg with ⟨_, _, h3⟩ | ⟨b', h3, h4, h5⟩
  · rw [h3] at hl'; omega
  · exact hk r w' b' h1 h3 h4 (fun B h6 h7 => below_grown h5 h6 h7) fun i hi hne => h5.block _ hi fun e => hne (Option.some.inj e)
section
variable {x : Mo} {pl : List PI} {w : World} {R : Value → World → Prop}
theorem IsS.of_full {α : Type} {f : α → Value} {w w' : World} {s : Sl} {l : List α} (h : IsS f w s l) (hb : l ≠ [] → ∀ a, s.a = some a → a.block < w.heap.size → w'.heap[a.block]? = w.heap[a.block]?) : IsS f w' s l := by
  by_cases e : l = []
  · exact ⟨h.len, h.cap, h.max, h.nil, fun a _ i hi => by rw [e] at hi; cases hi⟩
  · exact h.of_block (hb e)
/-- A table that grows: what its types have made lies from B on, and not where the list o lies. -/
abbrev TyO (B : Nat) (w : World) (o : Sl) (a : Int × Tv) (c : Int × Tp) : Prop := a.1 = c.1 ∧ (TvOk B w a.2 c.2 ∧ (c.2.ps ≠ [] → ∀ y, a.2.2.2.2.2.2.2.2.1.a = some y → o.a ≠ some (Gk.blk y.block)))
structure Grow (w : World) (B tb r : Nat) (o : Sl) (T : TyL) : Prop where
  blk : Blk w tb 182 [.map (some r), .slice o.a o.l o.c]
  own : Own w 22 1 o (T.map fun p => .int .u32 p.1)
  fr : Fresh B o
  ex : ∃ V : List (Int × Tv), IsMq w r (aggQ tyK) V ∧ Al2 (TyO B w o) V T
theorem Grow.below {w' : World} {B tb r : Nat} {o : Sl} {T : TyL} (h : Grow w B tb r o T) (hb : Below w.heap.size w w') : Grow w' B tb r o T := by
  obtain ⟨V, h1, h2⟩ := h.ex
  exact ⟨h.blk.below hb, h.own.below hb, h.fr, V, h1.below hb, allR (fun a c q => ⟨q.1, q.2.1.below hb, q.2.2⟩) h2⟩
theorem Grow.isTb {B B' tb r : Nat} {o : Sl} {T : TyL} (h : Grow w B tb r o T) (hB : B' ≤ B) (ht : B' ≤ tb) (hr : B' ≤ r) : IsTb w B' tb T := by
  obtain ⟨V, h1, h2⟩ := h.ex
  exact ⟨⟨r, o, h.blk, ⟨⟨V, h1, allR (fun a c q => ⟨q.1, q.2.1.mono hB⟩) h2⟩, hr⟩⟩, ht⟩
/-- Some other block is changed. -/
theorem Grow.fr_ {w' : World} {B tb r b : Nat} {o : Sl} {T : TyL} (h : Grow w B tb r o T) (hF : Fr w.heap.size (fun i => i = b) w w') (hb : b < B) (h1 : tb ≠ b) (h2 : r ≠ b) : Grow w' B tb r o T := by
  obtain ⟨V, g1, g2⟩ := h.ex
  refine ⟨h.blk.of_block (hF.block _ h.blk.lt h1), h.own.of_block fun a ha => hF.block _ (h.own.lt ha).2 fun e => ?_, h.fr, V, g1.of_block (hF.block _ g1.lt h2), allR (fun a c q => ⟨q.1, ?_, q.2.2⟩) g2⟩
  · have := h.fr a ha
    omega
  · have q1 := q.2.1
    exact ⟨q1.kind, q1.size, q1.depth, q1.sg, q1.cls, q1.part, q1.times, q1.ps.of_block fun y hy hlt => hF.block _ hlt fun e => by have := q1.fr y hy; omega, q1.fr⟩
theorem fr_chg {b : Nat} {w' : World} (c : Chg b w w') : Fr w.heap.size (fun i => i = b) w w' := ⟨c.os, c.tape, c.output, by rw [c.size]; exact Nat.le_refl _, fun i _ hi => c.block i hi⟩
theorem fr_below {X : Nat → Prop} {w' : World} (h : Below w.heap.size w w') : Fr w.heap.size X w w' := ⟨h.os, h.tape, h.output, h.size, fun i hi _ => h.block i hi⟩
theorem Fr.below_ {b B : Nat} {w0 w1 : World} (h : Fr w.heap.size (fun i => i = b) w w1) (h0 : Below B w0 w) (hb : B ≤ b) (hB : B ≤ w.heap.size) : Below B w0 w1 :=
  ⟨h.os.trans h0.os, h.tape.trans h0.tape, h.output.trans h0.output, Nat.le_trans h0.size h.size, fun i hi => (h.block i (by omega) (by omega)).trans (h0.block i hi)⟩
/-- What ids are made by what is known of the places ahead. -/
theorem mdP_succ {k : Nat} {id : Int} (W : Whole9 x.2.1 pl) (hk : k < pl.length) (h0 : id ≠ 0) : mdP pl id (k + 1) = if id = (ix pl k).2.2.1 then ix pl k else mdP pl id k := by
  have hm : ∀ n, n ≤ pl.length → ∀ j, j < n → (ix pl j).2.2.1 = id → makerI pl id n = (j : Int) := fun n hn j hj e => by
    unfold makerI
    rw [List.find?_range_eq_some.2 ⟨show mk1 pl id j = true by unfold mk1; rw [Bool.and_eq_true, beq_iff_eq, bne_iff_ne]; exact ⟨e, h0⟩, List.mem_range.2 hj, fun i hi => ?_⟩]
    have : mk1 pl id i = false := by
      unfold mk1
      rw [Bool.and_eq_false_iff]
      left
      rw [beq_eq_false_iff_ne]
      intro q
      exact W.new j (by omega) (by rw [e]; exact h0) i hi (by omega) (by rw [e]; exact q)
    simp [this]
  have hno : ∀ n, (∀ j, j < n → (ix pl j).2.2.1 ≠ id) → makerI pl id n < 0 := fun n hj => by
    unfold makerI
    rw [List.find?_eq_none.2 fun j hj' => ?_]
    · decide
    · have := hj j (List.mem_range.1 hj')
      unfold mk1
      rw [Bool.and_eq_true, beq_iff_eq]
      exact fun q => this q.1
  unfold mdP
  by_cases e : id = (ix pl k).2.2.1
  · rw [if_pos e, hm (k + 1) (by omega) k (by omega) e.symm, if_pos (by omega), Int.toNat_natCast]
  · rw [if_neg e]
    by_cases h : ∃ j, j < k ∧ (ix pl j).2.2.1 = id
    · obtain ⟨j, hj, he⟩ := h
      rw [hm (k + 1) (by omega) j (by omega) he, hm k (by omega) j hj he]
    · have h1 := hno k fun j hj he => h ⟨j, hj, he⟩
      have h2 := hno (k + 1) fun j hj he => by
        by_cases q : j = k
        · subst q; exact e he.symm
        · exact h ⟨j, by omega, he⟩
      rw [if_neg (by omega), if_neg (by omega)]
theorem mdP_of (pl : List PI) (id : Int) (k : Nat) : mdP pl id k = pi0 ∨ ∃ j, mdP pl id k = ix pl j := by
  unfold mdP
  split
  · exact .inr ⟨_, rfl⟩
  · exact .inl rfl
theorem md_const (hs : (shapeP x.2.1 pl).1 = 0) (hp : PlOk pl) (id : Int) (k : Nat) (h : (mdP pl id k).1 = 43) : 0 < (mdP pl id k).2.2.2.length ∧ cN (mdP pl id k) ≤ 4294967295 := by
  rcases mdP_of pl id k with e | ⟨j, e⟩
  · rw [e] at h; cases h
  · rw [e] at h ⊢
    have hj : j < pl.length := Classical.byContradiction fun hn => by
      rw [show ix pl j = pi0 from getD_ge (by omega)] at h
      cases h
    have hl : (ix pl j).2.2.2.length = 1 := form_len hs hj h form_43
    exact ⟨by omega, (agI_le hp hj (j := 0) (by omega)).2⟩
theorem elemPI0 {w' : World} {s : Sl} (h : IsPl w s pl) (hb : Below w.heap.size w w') {k : Nat} (hk : k < pl.length) {φ : Int → Int → Int → Sl → Prop} (hφ : ∀ t, IsAg w t pl[k].2.2.2 → φ pl[k].1 pl[k].2.1 pl[k].2.2.1 t) :
    (0 ≤ (k : Int) ∧ (k : Int) < (s.l : Int)) ∧ derefP s.a fun a => ldI w' ((a.add (Int.toNat (k : Int) * 4)).add 0) .u16 fun x => ldI w' ((a.add (Int.toNat (k : Int) * 4)).add 1) .u32 fun y => ldI w' ((a.add (Int.toNat (k : Int) * 4)).add 2) .u32 fun z => ldS w' ((a.add (Int.toNat (k : Int) * 4)).add 3) fun t => φ x y z t := by
  obtain ⟨a, ha⟩ := h.base hk
  obtain ⟨t, h1, h2⟩ := h.elem a ha k hk
  have hc : ∀ j (hj : j < 4), w'.cell? (a.add (k * 4 + j)) = some ((inV (mkIn pl[k] t))[j]'hj) := fun j hj => by
    have h3 := h1 j hj
    have hlt : j < (inV (mkIn pl[k] t)).length := hj
    rw [List.getElem?_eq_getElem hlt] at h3
    exact cell_keep hb h3
  refine ⟨⟨by omega, by have := h.len; omega⟩, derefP_some ha ⟨_, ?_, _, ?_, _, ?_, t, ?_, hφ t h2⟩⟩
  · rw [add_add']; exact hc 0 (by omega)
  · rw [add_add']; exact hc 1 (by omega)
  · rw [add_add']; exact hc 2 (by omega)
  · rw [add_add']; exact hc 3 (by omega)
theorem IsMd.chg {b : Nat} {w1 w2 : World} {r k : Nat} (h : IsMd w w1 r pl k) (hF : Fr w1.heap.size (fun i => i = b) w1 w2) (hr : r ≠ b) (hb : w.heap.size ≤ b) : IsMd w w2 r pl k := by
  obtain ⟨⟨M, h1, h2⟩, h3⟩ := h
  exact ⟨⟨M, h1.of_block (hF.block _ h1.lt hr), h2⟩, hF.below_ h3 hb h3.size⟩
theorem ops_rng : tabR.all (fun p => decide (0 ≤ p.1 ∧ p.1 ≤ 65535)) = true := by decide +kernel
theorem op_rng {bd : Int} (hs : (shapeP bd pl).1 = 0) {k : Nat} (hk : k < pl.length) : 0 ≤ (ix pl k).1 ∧ (ix pl k).1 ≤ 65535 := by
  obtain ⟨f, hf, _⟩ := fault_all ((shape_ok hs).2 k hk)
  rw [ix_lt hk]
  exact of_decide_eq_true (List.all_eq_true.1 ops_rng _ (look_mem hf))
/-- What holds within types.New ahead of the instruction n. -/
structure NwI (x : Mo) (pl : List PI) (w w' : World) (bS b0 : Nat) (n : Nat) : Prop where
  below : Below w.heap.size w w'
  spot : Blk w' bS 44 [.int .i64 0, .int .i64 0]
  sz : b0 + 5 ≤ w'.heap.size
  mker : Blk w' (b0 + 4) 186 [.pointer (some (Gk.blk (b0 + 1))), .map (some (b0 + 2)), .map (some (b0 + 3))]
  tb : ∃ o, Grow w' (b0 + 5) (b0 + 1) b0 o (tysT pl n)
  md : IsMd w w' (b0 + 2) pl n
  seen : IsSeen w' (b0 + 3) pl n
set_option maxHeartbeats 4000000 in
theorem tyNew_spec (hN : IsPl w x.2.2.1 pl) (hp : PlOk pl) (h0 : 0 ≤ x.2.1) (ht : Tab w)
    (hBad : (typE x.2.1 pl).1 ≠ 0 → ∀ w', Below w.heap.size w w' → R (.tuple #[.pointer none, .agg #[.int .i64 (typE x.2.1 pl).1, .int .i64 (typE x.2.1 pl).2]]) w')
    (hOk : TyOk x.2.1 pl → ∀ w' tb, Below w.heap.size w w' → IsTb w' w.heap.size tb (tyL pl) → R (.tuple #[.pointer (some (blk tb)), .agg #[.int .i64 0, .int .i64 0]]) w') :
    callR Tryz.prog 63 #[moA x] w R := by
  refine callR.of (types_New_calls x R w ?_) fun _ _ h => h
  refine lay_of fun w1 hB1 b1 z1 => ?_
  have hB1 : Blk w1 w.heap.size 25 (moV x) := hB1
  refine lay_of fun w2 hS2 b2 z2 => ?_
  have hS2 : Blk w2 w1.heap.size 44 [.int .i64 0, .int .i64 0] := hS2
  have b02 := b1.on b2
  refine Mo.load (hB1.below b2) (Check_spec (x := x) (hN.below b02) hp fun w3 b3 => ⟨((chk9P x.2.1 pl).1, ((chk9P x.2.1 pl).2 : Int), ()), rfl, ?_⟩)
  refine box2 rfl fun w6 h6 b6 z6 => h6.rI0 rfl ?_
  have b26 := b3.on b6
  have b06 := b02.on b26
  have hS6 := hS2.below b26
  have sz := b06.size
  have sz1 := b1.size
  have out : ∀ {w' : World} {p : Option Addr} {e a : Int}, Blk w' w1.heap.size 44 [.int .i64 0, .int .i64 0] → Below w.heap.size w w' → (∀ w'', Chg w1.heap.size w' w'' → Below w.heap.size w w'' → R (.tuple #[.pointer p, .agg #[.int .i64 e, .int .i64 a]]) w'') →
      Wr w' (blk w1.heap.size) ∧ Nw (w'.setCell (blk w1.heap.size) (.int .i64 e)) fun w8 => Wr w8 ((blk w1.heap.size).add 1) ∧ Nw (w8.setCell ((blk w1.heap.size).add 1) (.int .i64 a)) fun w9 => ldI w9 ((blk w1.heap.size).add 0) .i64 fun x9 => ldI w9 ((blk w1.heap.size).add 1) .i64 fun x10 =>
        R (.tuple #[.pointer p, .agg #[.int .i64 x9, .int .i64 x10]]) w9 := fun {w' p e a} hS hb hR =>
    st2 hS rfl fun w9 hS9 c9 => Sp.load hS9 (hR w9 c9 (c9.below hb (by omega)))
  refine ifB_bne (fun hc => ?_) (fun hc => ?_)
  · have hc : (chk9P x.2.1 pl).1 ≠ 0 := hc
    have he := typE_bad hc
    refine Sp.load h6.drew (out hS6.drew b06.drew fun w' _ hb => ?_)
    have := hBad (by rw [he]; exact hc) w' hb
    rwa [he] at this
  have hc : (chk9P x.2.1 pl).1 = 0 := hc
  have W := Whole9.of hp h0 hc
  have hs := W.shape
  -- the maker is laid
  refine Nw.gen fun w9 e9 => ?_
  have z9 : w9.heap.size = w6.heap.size + 1 := by rw [e9]; simp
  have b9 : Below w6.heap.size w6 w9 := by rw [e9]; exact (Below.refl _ _).alloc (Nat.le_refl _) _
  have hr9 : IsMq w9 w6.heap.size (aggQ tyK) ([] : List (Int × Tv)) := by rw [e9]; exact IsMq.new w6 _
  refine lay_of fun w10 hT10 b10 z10 => ?_
  have hT10 : Blk w10 w9.heap.size 182 [.map (some w6.heap.size), .slice none 0 0] := hT10
  refine Nw.gen fun w11 e11 => ?_
  have z11 : w11.heap.size = w10.heap.size + 1 := by rw [e11]; simp
  have b11 : Below w10.heap.size w10 w11 := by rw [e11]; exact (Below.refl _ _).alloc (Nat.le_refl _) _
  have hm11 : IsMq w11 w10.heap.size (aggQ insK) ([] : List (Int × Ins)) := by rw [e11]; exact IsMq.new w10 _
  refine Nw.gen fun w12 e12 => ?_
  have z12 : w12.heap.size = w11.heap.size + 1 := by rw [e12]; simp
  have b12 : Below w11.heap.size w11 w12 := by rw [e12]; exact (Below.refl _ _).alloc (Nat.le_refl _) _
  have hs12 : IsMg w12 w11.heap.size strV (Value.int .i64) ([] : List (List UInt8 × Int)) := by rw [e12]; exact IsMg.new w11 _ _
  refine lay_of fun w13 hK13 b13 z13 => ?_
  have hK13 : Blk w13 w12.heap.size 186 [.pointer (some (blk w9.heap.size)), .map (some w10.heap.size), .map (some w11.heap.size)] := hK13
  obtain ⟨b0, hb0⟩ : ∃ b0, w6.heap.size = b0 := ⟨_, rfl⟩
  have q9 : w9.heap.size = b0 + 1 := by omega
  have q10 : w10.heap.size = b0 + 2 := by omega
  have q11 : w11.heap.size = b0 + 3 := by omega
  have q12 : w12.heap.size = b0 + 4 := by omega
  have q13 : w13.heap.size = b0 + 5 := by omega
  have b613 : Below w6.heap.size w6 w13 := (((b9.on b10).on b11).on b12).on b13
  have b013 := b06.on b613
  have hB13 := (hB1.below b2).below (b26.on b613)
  rw [q9, hb0] at hT10
  rw [q12, q9, q10, q11] at hK13
  rw [hb0] at hr9
  rw [q10] at hm11
  rw [q11] at hs12
  rw [q12]
  have hpls := hN.len
  have hplen := hp.len
  have start : NwI x pl w w13 w1.heap.size b0 0 := by
    refine ⟨b013, hS6.below b613, by omega, hK13, ⟨⟨none, 0, 0⟩, hT10.below ((b11.on b12).on b13), Own.nil _ _ _, nilFr _, [], hr9.below (((b10.on b11).on b12).on b13), .nil⟩, ⟨⟨[], hm11.below (b12.on b13), fun id _ => ⟨⟨none, 0, 0⟩, ?_, ?_⟩⟩, b013⟩, ⟨[], hs12.below b13, fun key => ⟨Int.le_refl _, Int.le_refl _, ?_⟩⟩⟩
    · have : mdP pl id 0 = pi0 := by
        unfold mdP makerI
        rfl
      rw [this]
      rfl
    · have : mdP pl id 0 = pi0 := by
        unfold mdP makerI
        rfl
      rw [this]
      exact ⟨rfl, Nat.le_refl _, by decide, fun _ => rfl, fun a ha => (by cases ha)⟩
    · exact ⟨fun h => absurd h (by show ¬ (0 : Int) < 0; decide), fun ⟨j, h, _⟩ => (by omega)⟩
  refine hB13.rS (n := 2) (x := x.2.2.1) rfl ?_
  refine LoopW.ghost (fun m (st : Int × Unit) w' => ∃ n : Nat, st = ((n : Int), ()) ∧ n ≤ pl.length ∧ m = pl.length - n ∧ NwI x pl w w' w1.heap.size b0 n ∧ ∀ k, k < n → errT (tysT pl k) pl k = 0) pl.length ⟨0, rfl, Nat.zero_le _, rfl, start, fun k h => by omega⟩ ?_
  rintro _ _ w14 ⟨n, rfl, hn, rfl, I, hno⟩ next hnext
  obtain ⟨o, G⟩ := I.tb
  have sz14 := I.sz
  have q1 : w1.heap.size < b0 := by have := b26.size; omega
  refine ifB_dec (fun g => ?_) (fun g => ?_)
  rotate_left
  · -- the end
    have hne : n = pl.length := by dsimp only at g; omega
    subst hne
    refine ⟨_, I.mker.cell0 rfl, out I.spot I.below fun w' c hb => ?_⟩
    exact hOk ⟨hc, hno⟩ w' (b0 + 1) hb ((G.fr_ (fr_chg c) (by omega) (by omega) (by omega)).isTb (by omega) (by omega) (by omega))
  -- one instruction
  have hnl : n < pl.length := by dsimp only at g; omega
  have hT : TbOk (tysT pl n) := tys_ok W n (by omega) hno
  have hix := ix_lt hnl
  have hop1 := op_rng hs hnl
  refine elemPI0 hN I.below hnl fun t hI0 => box4 rfl fun w19 hI19 b19 z19 => ?_
  have hI19 : Blk w19 w14.heap.size 52 (inV (mkIn pl[n] t)) := hI19
  have b019 := I.below.on b19
  have G19 := G.below b19
  have K19 : IsMk w w19 w.heap.size (b0 + 4) (b0 + 1) (b0 + 2) (b0 + 3) (tysT pl n) pl n := ⟨I.mker.below b19, G19.isTb (by omega) (by omega) (by omega), I.md.below b19⟩
  have hA19 : IsAg w19 t pl[n].2.2.2 := IsC.below agV_len hI0 b019
  have hS19 := I.seen.below b19
  refine Ins.load (x := mkIn pl[n] t) hI19 ?_
  have S19 := I.spot.below b19
  have M19 := I.md.below b19
  -- the last thing: the instruction is put among those ahead
  have fin : ∀ (w38 : World) (o' : Sl), Below w.heap.size w w38 → b0 + 5 ≤ w38.heap.size → Blk w38 w1.heap.size 44 [.int .i64 0, .int .i64 0] → Blk w38 (b0 + 4) 186 [.pointer (some (Gk.blk (b0 + 1))), .map (some (b0 + 2)), .map (some (b0 + 3))] →
      Grow w38 (b0 + 5) (b0 + 1) b0 o' (tysT pl (n + 1)) → IsMd w w38 (b0 + 2) pl n → IsSeen w38 (b0 + 3) pl (n + 1) → Blk w38 w14.heap.size 52 (inV (mkIn pl[n] t)) → errT (tysT pl n) pl n = 0 →
      ldM w38.drew ((blk (b0 + 4)).add 1) fun x58 => ldI w38.drew ((blk w14.heap.size).add 2) .u32 fun x59 => ldI w38.drew ((blk w14.heap.size).add 0) .u16 fun x60 => ldI w38.drew ((blk w14.heap.size).add 1) .u32 fun x61 => ldI w38.drew ((blk w14.heap.size).add 2) .u32 fun x62 => ldS w38.drew ((blk w14.heap.size).add 3) fun x63 =>
        updW Tryz.prog 183 (.map x58) (.int .u32 x59) (.agg #[.int .u16 x60, .int .u32 x61, .int .u32 x62, .slice x63.a x63.l x63.c]) w38.drew fun w39 => next (IntKind.i64.wrap ((n : Int) + 1), ()) w39 := fun w38 o' hb hsz hS hK hG hM hs hI he => by
    refine ⟨some (b0 + 2), hK.drew.cell (n := 1) rfl, hI.drew.rI (n := 2) rfl (Ins.load (x := mkIn pl[n] t) hI.drew ?_)⟩
    obtain ⟨⟨M, hM1, hM2⟩, hM3⟩ := hM
    refine updQ_of (f := aggQ insK) (v := (mkIn pl[n] t : Ins)) uMd eTyKey hM1.drew rfl fun w39 hM39 c39 => ?_
    have c39 : Chg (b0 + 2) w38.drew w39 := c39
    have F39 : Fr w38.drew.heap.size (fun i => i = b0 + 2) w38.drew w39 := fr_chg c39
    rw [wrap64_succ (by omega)]
    have sd : (w38.drew).heap.size = w38.heap.size := rfl
    refine hnext (pl.length - (n + 1)) _ w39 (by omega) ⟨n + 1, rfl, by omega, rfl, ⟨c39.below hb.drew (by omega), c39.blk hS.drew (by omega), by rw [c39.size]; exact hsz, c39.blk hK.drew (by omega), ⟨o', (hG.below ((Below.refl _ _).drew)).fr_ F39 (by omega) (by omega) (by omega)⟩, ⟨⟨_, hM39, fun id h0 => ?_⟩, c39.below hM3.drew (by omega)⟩, hs.of_block (c39.block _ (by omega))⟩, fun k hk => ?_⟩
    · show ∃ t1, (lookQ (α := Ins) (setQ (α := Ins) M pl[n].2.2.1 (mkIn pl[n] t)) id).getD ins0 = mkIn (mdP pl id (n + 1)) t1 ∧ IsAg w t1 (mdP pl id (n + 1)).2.2.2
      rw [lookQ_set, mdP_succ W hnl h0]
      by_cases e : id = (ix pl n).2.2.1
      · rw [if_pos (by rw [e, hix]), if_pos e, hix]
        exact ⟨t, rfl, hI0⟩
      · rw [if_neg (by rw [hix] at e; exact e), if_neg e]
        exact hM2 id h0
    · by_cases e : k = n
      · subst e; exact he
      · exact hno k (by omega)
  refine one_spec K19 hT hp hs hnl hA19 (fun id h => md_const hs hp id n h) ?_
  cases ho : oneT (tysT pl n) pl n with
  | none =>
    refine fun w20 b20 => ⟨tv0, false, 0, rfl, ?_⟩
    refine boxTy fun w29 hX29 b29 z29 => ?_
    have he : errT (tysT pl n) pl n = 0 := by unfold errT; rw [ho]
    have hag : agOp (ix pl n).1 = false := by
      cases hq : agOp (ix pl n).1 with
      | false => rfl
      | true =>
        have hop : (ix pl n).1 = 19 ∨ (ix pl n).1 = 20 ∨ (ix pl n).1 = 21 ∨ (ix pl n).1 = 23 ∨ (ix pl n).1 = 32 ∨ (ix pl n).1 = 33 := by
          unfold agOp at hq
          simpa only [Bool.or_eq_true, beq_iff_eq, or_assoc] using hq
        obtain ⟨p, hp'⟩ := oneT_some (pl := pl) (k := n) (tysT pl n) (by omega)
        rw [ho] at hp'
        cases hp'
    have b1929 := b20.on b29
    refine JoinW.cut (fun (st : Int × Unit) w' => st = (0, ()) ∧ w29 = w') (ifB_false rfl ⟨rfl, rfl⟩) ?_
    rintro _ _ ⟨rfl, rfl⟩
    refine ifB_false rfl (JoinW.cut (fun (_ : Unit) w' => w29 = w') (ifB_false rfl rfl) ?_)
    rintro _ _ rfl
    exact fin w29 o (b019.on b1929) (by have := b19.size; have := b1929.size; omega) (S19.below b1929) (K19.blk.below b1929) (by rw [tys_skip ho]; exact G19.below b1929) (M19.below b1929) ((hS19.skip hag).below b1929) (hI19.below b1929) he
  | some p =>
    refine fun w20 v hv b20 => ⟨v, true, p.2, rfl, ?_⟩
    refine boxTy fun w29 hX29 b29 z29 => ?_
    have b1929 := b20.on b29
    have b1429 := b19.on b1929
    have b029 := b019.on b1929
    have hty : agOp (ix pl n).1 = true ∨ (ix pl n).1 = 28 ∨ (ix pl n).1 = 30 := by
      rcases oneT_op ho with q | q | q | q | q | q | q | q
      · exact .inl (by rw [q]; rfl)
      · exact .inl (by rw [q]; rfl)
      · exact .inl (by rw [q]; rfl)
      · exact .inl (by rw [q]; rfl)
      · exact .inr (.inl q)
      · exact .inr (.inr q)
      · exact .inl (by rw [q]; rfl)
      · exact .inl (by rw [q]; rfl)
    have hI29 := hI19.below b1929
    have hK29 := K19.blk.below b1929
    refine JoinW.cut (fun (st : Int × Unit) w' => st = (errT (tysT pl n) pl n, ()) ∧ Fr w29.heap.size (fun i => i = b0 + 3) w29 w' ∧ (errT (tysT pl n) pl n = 0 → IsSeen w' (b0 + 3) pl (n + 1))) ?_ ?_
    · refine ifB_true rfl (ifB_beq (fun e => ?_) (fun e => ⟨?_, fr_below (Below.refl _ _), fun q => ?_⟩))
      · refine Ins.load (x := mkIn pl[n] t) hI29 (again_spec hK29 rfl (hS19.below b1929) (ht.below b029) hp hs hnl hop1 (IsC.below agV_len hA19 b1929) hty fun w30 F30 hs30 => ⟨_, rfl, ?_⟩)
        have he : errT (tysT pl n) pl n = if agnT pl n = true then 101 else 0 := by
          unfold errT
          rw [ho]
          exact if_neg (fun q => q e)
        rw [he]
        exact ifB_bool (fun q => ⟨by rw [q]; rfl, F30, fun _ => hs30⟩) (fun q => ⟨by rw [q, e]; rfl, F30, fun _ => hs30⟩)
      · unfold errT
        rw [ho]
        show (p.2, ()) = (if p.2 ≠ 0 then p.2 else _, ())
        rw [if_pos e]
      · unfold errT at q
        rw [ho] at q
        have q : (if p.2 ≠ 0 then p.2 else if agnT pl n = true then 101 else 0) = 0 := q
        rw [if_pos e] at q
        exact absurd q e
    rintro _ w31 ⟨rfl, F31, hs31⟩
    have sz29 : w19.heap.size ≤ w29.heap.size := b1929.size
    have sz1419 := b19.size
    have b031 : Below w.heap.size w w31 := F31.below_ b029 (by omega) b029.size
    have S31 := (S19.below b1929).of_block (F31.block _ (S19.below b1929).lt (by omega))
    refine ifB_bne (fun he => ?_) (fun he => ?_)
    · have hE := typE_at hc hnl he hno
      refine out S31 b031 fun w' _ hb => ?_
      have := hBad (by rw [hE]; exact he) w' hb
      rwa [hE] at this
    have he : errT (tysT pl n) pl n = 0 := he
    have hs31 := hs31 he
    have hp2 := err_one ho he
    have hv := hv hp2
    have hK31 := hK29.of_block (F31.block _ hK29.lt (by omega))
    have hI31 := hI29.of_block (F31.block _ hI29.lt (by omega))
    have hX31 := hX29.of_block (F31.block _ hX29.lt (by omega))
    have M31 := (M19.below b1929).chg F31 (by omega) (by omega)
    have G31 := (G19.below b1929).fr_ F31 (by omega) (by omega) (by omega)
    have v31 : TvOk w19.heap.size w31 v p.1 := by
      have v29 := hv.below b29
      exact ⟨v29.kind, v29.size, v29.depth, v29.sg, v29.cls, v29.part, v29.times, v29.ps.of_block fun y hy hlt => F31.block _ hlt (by have := v29.fr y hy; omega), v29.fr⟩
    refine JoinW.cut (fun (_ : Unit) w' => ∃ o', Below w.heap.size w w' ∧ b0 + 5 ≤ w'.heap.size ∧ Blk w' w1.heap.size 44 [.int .i64 0, .int .i64 0] ∧ Blk w' (b0 + 4) 186 [.pointer (some (Gk.blk (b0 + 1))), .map (some (b0 + 2)), .map (some (b0 + 3))] ∧ Grow w' (b0 + 5) (b0 + 1) b0 o' (tysT pl (n + 1)) ∧ IsMd w w' (b0 + 2) pl n ∧ IsSeen w' (b0 + 3) pl (n + 1) ∧ Blk w' w14.heap.size 52 (inV (mkIn pl[n] t))) ?_ ?_
    rotate_left
    · rintro _ w38 ⟨o', r1, r2, r3, r4, r5, r6, r7, r8⟩
      exact fin w38 o' r1 r2 r3 r4 r5 r6 r7 r8 he
    refine ifB_true rfl ⟨_, hK31.drew.cell0 rfl, derefP_some rfl ⟨some b0, G31.blk.drew.cell0 rfl, hI31.drew.rI (n := 2) rfl (Tv.load hX31.drew ?_)⟩⟩
    obtain ⟨V, V1, V2⟩ := G31.ex
    have hfrs := TyOk.fresh W hnl ho
    refine updQ_of (f := aggQ tyK) (v := (v : Tv)) uTy eTyKey V1.drew rfl fun w34 V34 c34 => ?_
    have c34 : Chg b0 w31.drew w34 := c34
    have F34 : Fr w31.drew.heap.size (fun i => i = b0) w31.drew w34 := fr_chg c34
    have sd31 : (w31.drew).heap.size = w31.heap.size := rfl
    have sd34 : (w34.drew).heap.size = w34.heap.size := rfl
    have s34 := c34.size
    have big : b0 + 5 ≤ w34.heap.size := by have := F31.size; omega
    have b034 : Below w.heap.size w w34 := c34.below b031.drew (by omega)
    have S34 := c34.blk S31.drew (by omega)
    have K34 := c34.blk hK31.drew (by omega)
    have I34 := c34.blk hI31.drew (by omega)
    have M34 := (M31.below ((Below.refl _ _).drew)).chg F34 (by omega) (by omega)
    have T34 := c34.blk G31.blk.drew (by omega)
    have O34 : Own w34 22 1 o ((tysT pl n).map fun q => .int .u32 q.1) := G31.own.drew.of_block fun a ha => c34.block _ (by have := G31.fr a ha; omega)
    have hs34 : IsSeen w34 (b0 + 3) pl (n + 1) := hs31.of_block (c34.block _ (by omega))
    have V34' : Al2 (TyO (b0 + 5) w34 o) (setQ V pl[n].2.2.1 v) (tysT pl (n + 1)) := by
      have hS : tysT pl (n + 1) = setQ (tysT pl n) pl[n].2.2.1 p.1 := by
        show (match oneT (tysT pl n) pl n with | none => tysT pl n | some p => setQ (tysT pl n) (ix pl n).2.2.1 p.1) = _
        rw [ho, hix]
      rw [hS]
      have new : TvOk (b0 + 5) w34 v p.1 ∧ (p.1.ps ≠ [] → ∀ y, v.2.2.2.2.2.2.2.1.a = some y → o.a ≠ some (Gk.blk y.block)) := by
        refine ⟨⟨v31.kind, v31.size, v31.depth, v31.sg, v31.cls, v31.part, v31.times, v31.ps.of_block fun y hy hlt => c34.block _ (by have := v31.fr y hy; omega), fun y hy => by have := v31.fr y hy; omega⟩, fun _ y hy e => ?_⟩
        have h1 := v31.fr y hy
        have h2 := (G19.own.lt e).2
        have h2 : y.block < w19.heap.size := h2
        omega
      refine setR (R := fun a c => TvOk (b0 + 5) w34 a c ∧ (c.ps ≠ [] → ∀ y, a.2.2.2.2.2.2.2.1.a = some y → o.a ≠ some (Gk.blk y.block))) new (allR (fun a c q => ⟨q.1, ?_, q.2.2⟩) V2)
      · have q1 := q.2.1
        exact ⟨q1.kind, q1.size, q1.depth, q1.sg, q1.cls, q1.part, q1.times, q1.ps.of_block fun y hy hlt => c34.block _ (by have := q1.fr y hy; omega), q1.fr⟩
    -- the list of ids
    refine ⟨_, K34.drew.cell0 rfl, _, K34.drew.cell0 rfl, derefP_some rfl (T34.drew.rS (n := 1) (x := o) rfl (I34.drew.rI (n := 2) rfl ?_))⟩
    refine lay_of fun w35 hE35 b35 z35 => ?_
    have hE35 : Blk w35 w34.drew.heap.size 22 [.int .u32 pl[n].2.2.1] := hE35
    have b3435 : Below w34.heap.size w34 w35 := (Below.refl w34.heap.size w34).drew.on b35
    have s35 := b3435.size
    refine ⟨(T34.below b3435).cell (n := 1) rfl, (K34.below b3435).cell0 rfl, (K34.below b3435).cell0 rfl, ?_⟩
    have O35 := O34.below b3435
    have hol : o.l = (tysT pl n).length := by have := O35.1; rw [List.length_map] at this; omega
    have htl := tys_len pl n
    have hord : (tysT pl (n + 1)).map (fun q => (Value.int .u32 q.1)) = (tysT pl n).map (fun q => (Value.int .u32 q.1)) ++ [.int .u32 pl[n].2.2.1] := by
      rw [tys_succ W hnl ho, List.map_append, hix]
      rfl
    refine push_at10 eU32 O35 (vs := [.int .u32 pl[n].2.2.1]) rfl (fun u hu => by rw [List.mem_singleton.1 hu]; rfl) hE35 (by omega) (by omega) fun o' w36 b' O36 ha' hb' hbel hkeep => ?_
    have hb'5 : b0 + 5 ≤ b' := by
      rcases hb' with e | e
      · exact G31.fr _ e
      · omega
    have sw34 := b034.size
    have bb36 := hbel w.heap.size (by omega) (by omega)
    have sz36 := (hbel 0 (Nat.zero_le _) (Nat.zero_le _)).size
    have nb : ∀ {c : Nat}, c < w35.heap.size → c ≠ b' → w36.heap[c]? = w35.heap[c]? := fun h1 h2 => hkeep _ h1 h2
    have notO : ∀ {c : Nat} {Ty : TypeId} {cs : List Value}, Blk w35 c Ty cs → 22 ≠ Ty → c ≠ b' := fun {c Ty cs} hB hne e => by
      subst e
      rcases hb' with e | e
      · obtain ⟨cs', hc'⟩ := O35.type e
        exact Blk.apart hc' hB hne rfl
      · have := hB.lt
        omega
    have K36 := (K34.below b3435).of_block (nb (K34.below b3435).lt (by omega))
    refine ⟨K36.cell0 rfl, derefP_some rfl ?_⟩
    have T36 := (T34.below b3435).of_block (nb (T34.below b3435).lt (by omega))
    refine ⟨T36.wr (n := 1) (by show 1 < 2; decide), Nw.gen fun w37 e37 => ?_⟩
    have c37 : Chg (b0 + 1) w36 w37 := by rw [e37]; exact Chg.set _ _ _ _
    have T37 : Blk w37 (b0 + 1) 182 [.map (some b0), .slice o'.a o'.l o'.c] := by rw [e37]; exact T36.set 1 _
    have s37 := c37.size
    have S36 := (S34.below b3435).of_block (nb (S34.below b3435).lt (notO (S34.below b3435) (by decide)))
    have I36 := (I34.below b3435).of_block (nb (I34.below b3435).lt (notO (I34.below b3435) (by decide)))
    have V35 := V34.below b3435
    have V36 := V35.of_block (nb V35.lt (by omega))
    have F36 : Fr w35.heap.size (fun i => i = b') w35 w36 := ⟨(hbel 0 (Nat.zero_le _) (Nat.zero_le _)).os, (hbel 0 (Nat.zero_le _) (Nat.zero_le _)).tape, (hbel 0 (Nat.zero_le _) (Nat.zero_le _)).output, sz36, fun i h1 h2 => hkeep i h1 h2⟩
    have M36 := (M34.below b3435).chg F36 (by omega) (by omega)
    have hs35 := hs34.below b3435
    have hs36 := hs35.of_block (nb hs35.lt (by omega))
    refine ⟨o', c37.below ((b034.on b3435).trans bb36) (by omega), by omega, c37.blk S36 (by omega), c37.blk K36 (by omega), ⟨T37, ?_, ?_, _, V36.of_block (c37.block _ (by omega)), ?_⟩, M36.chg (fr_chg c37) (by omega) (by omega), hs36.of_block (c37.block _ (by omega)), c37.blk I36 (by omega)⟩
    · rw [hord]
      exact O36.of_block fun a ha => c37.block _ (by rw [ha'] at ha; cases ha; show b' ≠ _; omega)
    · intro a ha
      rw [ha'] at ha
      cases ha
      exact hb'5
    · refine allR (fun a c q => ⟨q.1, ?_, fun hne y hy e => ?_⟩) V34'
      · have q1 := q.2.1.below b3435
        refine ⟨q1.kind, q1.size, q1.depth, q1.sg, q1.cls, q1.part, q1.times, (IsS.of_full q1.ps fun hne y hy hlt => nb hlt fun e => ?_).of_block fun y hy hlt => c37.block _ (by have := q1.fr y hy; omega), q1.fr⟩
        rcases hb' with e2 | e2
        · exact q.2.2 hne y hy (by rw [e2, e])
        · omega
      · rw [ha'] at e
        have e : b' = y.block := by injection e with e; injection e
        rcases hb' with e2 | e2
        · exact q.2.2 hne y hy (by rw [e2, e])
        · have hpos := List.length_pos_iff.2 hne
          have := q.2.1.ps.lt (i := 0) hpos hy
          omega
end
end Go.Proofs
namespace Go.Proofs
open Go.Gk Go.RowKit Go.Gm

abbrev Cn := Int × List Int
abbrev Vn := Int × Int × List Int
abbrev CnL := List (Int × Cn)
abbrev VnL := List (Int × Vn)
/-- The value of a constant that must be of a type. -/
def ofC (C : CnL) (id ty : Int) : List Int × Int := match lookQ C id with
  | none => ([], 110)
  | some c => if c.1 ≠ ty then ([], 111) else (c.2, 0)
def catC (T : TyL) (C : CnL) (pl : List PI) (k : Nat) : Nat → List Int × Int
  | 0 => ([], 0)
  | n + 1 => if (catC T C pl k n).2 ≠ 0 then catC T C pl k n else
    if (ofC C (agI pl k n) ((tA T (ix pl k).2.1).prt (n : Int)).1).2 ≠ 0 then ([], (ofC C (agI pl k n) ((tA T (ix pl k).2.1).prt (n : Int)).1).2)
    else ((catC T C pl k n).1 ++ (ofC C (agI pl k n) ((tA T (ix pl k).2.1).prt (n : Int)).1).1, 0)
/-- The words of the constant that the instruction k makes, what is wrong with it; none: it makes none. -/
def wdsC (T : TyL) (C : CnL) (pl : List PI) (k : Nat) : Option (List Int × Int) :=
  if (ix pl k).1 = 1 ∨ (ix pl k).1 = 46 then some (if (tA T (ix pl k).2.1).size = 0 then ([], 100) else (List.replicate (tA T (ix pl k).2.1).size 0, 0))
  else if (ix pl k).1 = 41 ∨ (ix pl k).1 = 42 then some (if (tA T (ix pl k).2.1).kind ≠ 2 then ([], 100) else (if (ix pl k).1 = 41 then [1] else [0], 0))
  else if (ix pl k).1 = 43 then some (if (tA T (ix pl k).2.1).kind ≠ 3 then ([], 100) else ([agI pl k 0], 0))
  else if (ix pl k).1 = 44 then some (if ¬ (4 ≤ (tA T (ix pl k).2.1).kind ∧ (tA T (ix pl k).2.1).kind ≤ 6) then ([], 100) else if (ix pl k).2.2.2.length ≠ (tA T (ix pl k).2.1).cnt then ([], 111) else catC T C pl k (ix pl k).2.2.2.length)
  else none
def varC (T : TyL) (C : CnL) (pl : List PI) (k : Nat) : Vn × Int :=
  if (tA T (ix pl k).2.1).kind ≠ 7 then ((0, 0, []), 100)
  else if (tA T (ix pl k).2.1).cls ≠ agI pl k 0 ∨ (1 < (ix pl k).2.2.2.length ∧ (tA T (ix pl k).2.1).cls = 1) then ((0, 0, []), 112)
  else if (ix pl k).2.2.2.length = 1 then ((agI pl k 0, ((tA T (ix pl k).2.1).prt 0).1, List.replicate (tA T ((tA T (ix pl k).2.1).prt 0).1).size 0), 0)
  else ((agI pl k 0, ((tA T (ix pl k).2.1).prt 0).1, (ofC C (agI pl k 1) ((tA T (ix pl k).2.1).prt 0).1).1), (ofC C (agI pl k 1) ((tA T (ix pl k).2.1).prt 0).1).2)
/-- What the instruction k of the globals makes and what is wrong with it. -/
def errC (T : TyL) (C : CnL) (pl : List PI) (k : Nat) : Int := if (ix pl k).1 = 59 then (varC T C pl k).2 else match wdsC T C pl k with
  | none => 0
  | some p => p.2
def addC (T : TyL) (s : CnL × VnL) (pl : List PI) (k : Nat) : CnL × VnL := if (ix pl k).1 = 59 then (s.1, setQ s.2 (ix pl k).2.2.1 (varC T s.1 pl k).1) else match wdsC T s.1 pl k with
  | none => s
  | some p => (setQ s.1 (ix pl k).2.2.1 ((ix pl k).2.1, p.1), s.2)
/-- The constants and variables of the first k instructions. -/
def cnsC (T : TyL) (pl : List PI) : Nat → CnL × VnL
  | 0 => ([], [])
  | k + 1 => if partP (ix pl k) = 7 then addC T (cnsC T pl k) pl k else cnsC T pl k
def badC (T : TyL) (pl : List PI) (k : Nat) : Int := if partP (ix pl k) = 7 then errC T (cnsC T pl k).1 pl k else 0
abbrev cnL (pl : List PI) : CnL := (cnsC (tyL pl) pl pl.length).1
abbrev vnL (pl : List PI) : VnL := (cnsC (tyL pl) pl pl.length).2
def conE (bd : Int) (pl : List PI) : Int × Int := if (typE bd pl).1 ≠ 0 then typE bd pl else
  match (List.range pl.length).find? fun k => badC (tyL pl) pl k != 0 with
  | some k => (badC (tyL pl) pl k, (k : Int))
  | none => (0, 0)
theorem conE_bad {bd : Int} {pl : List PI} (h : (typE bd pl).1 ≠ 0) : conE bd pl = typE bd pl := if_pos h
theorem conE_at {bd : Int} {pl : List PI} (h : (typE bd pl).1 = 0) {k : Nat} (hk : k < pl.length) (he : badC (tyL pl) pl k ≠ 0) (hj : ∀ j, j < k → badC (tyL pl) pl j = 0) : conE bd pl = (badC (tyL pl) pl k, (k : Int)) := by
  unfold conE
  rw [if_neg (fun q => q h), List.find?_range_eq_some.2 ⟨by simpa using he, List.mem_range.2 hk, fun j hj' => by simp [hj j hj']⟩]
theorem conE_ok {bd : Int} {pl : List PI} (h : (typE bd pl).1 = 0) (hj : ∀ j, j < pl.length → badC (tyL pl) pl j = 0) : conE bd pl = (0, 0) := by
  unfold conE
  rw [if_neg (fun q => q h), List.find?_eq_none.2 fun k hk => by simp [hj k (List.mem_range.1 hk)]]
structure CnOk (bd : Int) (pl : List PI) : Prop where
  ty : TyOk bd pl
  no : ∀ k, k < pl.length → badC (tyL pl) pl k = 0
theorem part_const : (match frm 1, frm 41, frm 42, frm 43, frm 44, frm 46 with | some a, some b, some c, some d, some e, some f => a.2.2.2.2.2.2 == 7 && b.2.2.2.2.2.2 == 7 && c.2.2.2.2.2.2 == 7 && d.2.2.2.2.2.2 == 7 && e.2.2.2.2.2.2 == 7 && f.2.2.2.2.2.2 == 7 | _, _, _, _, _, _ => false) = true := by decide +kernel
def isC (op : Int) : Bool := op == 1 || op == 41 || op == 42 || op == 43 || op == 44 || op == 46
theorem isC_cases {op : Int} : isC op = true ↔ op = 1 ∨ op = 41 ∨ op = 42 ∨ op = 43 ∨ op = 44 ∨ op = 46 := by
  unfold isC
  simp only [Bool.or_eq_true, beq_iff_eq, or_assoc]
section
variable {bd : Int} {pl : List PI} {k : Nat} {T : TyL} {C : CnL}
theorem isC_part (h : isC (ix pl k).1 = true) : partP (ix pl k) = 7 := by
  have h1 := part_const
  have hv : isVar (ix pl k) = false := by
    unfold isVar
    rw [isC_cases] at h
    rw [Bool.and_eq_false_iff]
    left
    rw [beq_eq_false_iff_ne]
    omega
  unfold partP
  rw [hv, if_neg (by simp)]
  generalize (ix pl k).1 = op at h ⊢
  unfold partO
  rw [isC_cases] at h
  rcases h with rfl | rfl | rfl | rfl | rfl | rfl <;> decide +kernel
theorem wdsC_op {p : List Int × Int} (h : wdsC T C pl k = some p) : isC (ix pl k).1 = true := by
  rw [isC_cases]
  unfold wdsC at h
  refine Classical.byContradiction fun hn => ?_
  rw [if_neg (by omega), if_neg (by omega), if_neg (by omega), if_neg (by omega)] at h
  cases h
theorem wdsC_some (T : TyL) (C : CnL) (h : isC (ix pl k).1 = true) : ∃ p, wdsC T C pl k = some p := by
  cases ho : wdsC T C pl k with
  | some p => exact ⟨p, rfl⟩
  | none =>
    exfalso
    unfold wdsC at ho
    rw [isC_cases] at h
    generalize (ix pl k).1 = op at h ho
    rcases h with rfl | rfl | rfl | rfl | rfl | rfl <;> simp at ho
theorem wdsC_none {T : TyL} {C : CnL} (h : isC (ix pl k).1 = false) : wdsC T C pl k = none := by
  cases ho : wdsC T C pl k with
  | none => rfl
  | some p => rw [wdsC_op ho] at h; cases h
theorem isC_res (hs : (shapeP bd pl).1 = 0) (hk : k < pl.length) (h : isC (ix pl k).1 = true) : (ix pl k).2.2.1 ≠ 0 := by
  rw [isC_cases] at h
  rcases h with e | e | e | e | e | e
  · exact form_res hs hk e form_1
  · exact form_res hs hk e form_41
  · exact form_res hs hk e form_42
  · exact form_res hs hk e form_43
  · exact form_res hs hk e form_44
  · exact form_res hs hk e form_46
/-- One step. -/
theorem cns_const (h : isC (ix pl k).1 = true) {p : List Int × Int} (hp : wdsC T (cnsC T pl k).1 pl k = some p) : cnsC T pl (k + 1) = (setQ (cnsC T pl k).1 (ix pl k).2.2.1 ((ix pl k).2.1, p.1), (cnsC T pl k).2) := by
  show (if partP (ix pl k) = 7 then addC T (cnsC T pl k) pl k else cnsC T pl k) = _
  rw [if_pos (isC_part h)]
  unfold addC
  rw [if_neg (fun e => by rw [isC_cases] at h; omega), hp]
theorem cns_var (h7 : partP (ix pl k) = 7) (h : (ix pl k).1 = 59) : cnsC T pl (k + 1) = ((cnsC T pl k).1, setQ (cnsC T pl k).2 (ix pl k).2.2.1 (varC T (cnsC T pl k).1 pl k).1) := by
  show (if partP (ix pl k) = 7 then addC T (cnsC T pl k) pl k else cnsC T pl k) = _
  rw [if_pos h7]
  unfold addC
  rw [if_pos h]
theorem cns_skip (h : isC (ix pl k).1 = false) (h2 : ¬ (partP (ix pl k) = 7 ∧ (ix pl k).1 = 59)) : cnsC T pl (k + 1) = cnsC T pl k := by
  show (if partP (ix pl k) = 7 then addC T (cnsC T pl k) pl k else cnsC T pl k) = _
  by_cases h7 : partP (ix pl k) = 7
  · rw [if_pos h7]
    unfold addC
    rw [if_neg (fun e => h2 ⟨h7, e⟩), wdsC_none h]
  · rw [if_neg h7]
theorem cns_cases (T : TyL) (pl : List PI) (k : Nat) : (isC (ix pl k).1 = true) ∨ (isC (ix pl k).1 = false ∧ partP (ix pl k) = 7 ∧ (ix pl k).1 = 59) ∨ (isC (ix pl k).1 = false ∧ ¬ (partP (ix pl k) = 7 ∧ (ix pl k).1 = 59)) := by
  cases h : isC (ix pl k).1 with
  | true => exact .inl rfl
  | false =>
    by_cases h2 : partP (ix pl k) = 7 ∧ (ix pl k).1 = 59
    · exact .inr (.inl ⟨rfl, h2⟩)
    · exact .inr (.inr ⟨rfl, h2⟩)
theorem cns_keys : ∀ n, (∀ id, id ∈ (cnsC T pl n).1.map (·.1) → ∃ j, j < n ∧ (ix pl j).2.2.1 = id ∧ isC (ix pl j).1 = true) ∧ (∀ id, id ∈ (cnsC T pl n).2.map (·.1) → ∃ j, j < n ∧ (ix pl j).2.2.1 = id ∧ partP (ix pl j) = 7 ∧ (ix pl j).1 = 59)
  | 0 => ⟨fun _ h => (by cases h), fun _ h => (by cases h)⟩
  | n + 1 => by
    obtain ⟨h1, h2⟩ := cns_keys n
    have o1 : ∀ id, id ∈ (cnsC T pl n).1.map (·.1) → ∃ j, j < n + 1 ∧ (ix pl j).2.2.1 = id ∧ isC (ix pl j).1 = true := fun id h => by obtain ⟨j, q, r⟩ := h1 id h; exact ⟨j, by omega, r⟩
    have o2 : ∀ id, id ∈ (cnsC T pl n).2.map (·.1) → ∃ j, j < n + 1 ∧ (ix pl j).2.2.1 = id ∧ partP (ix pl j) = 7 ∧ (ix pl j).1 = 59 := fun id h => by obtain ⟨j, q, r⟩ := h2 id h; exact ⟨j, by omega, r⟩
    rcases cns_cases T pl n with h | ⟨h, h7, h59⟩ | ⟨h, hn⟩
    · obtain ⟨p, hp⟩ := wdsC_some T (cnsC T pl n).1 h
      rw [cns_const h hp]
      refine ⟨fun id hid => ?_, o2⟩
      dsimp only at hid
      rw [setQ_keys] at hid
      split at hid
      · exact o1 id hid
      · rcases List.mem_append.1 hid with hid | hid
        · exact o1 id hid
        · exact ⟨n, by omega, (List.mem_singleton.1 hid).symm, h⟩
    · rw [cns_var h7 h59]
      refine ⟨o1, fun id hid => ?_⟩
      dsimp only at hid
      rw [setQ_keys] at hid
      split at hid
      · exact o2 id hid
      · rcases List.mem_append.1 hid with hid | hid
        · exact o2 id hid
        · exact ⟨n, by omega, (List.mem_singleton.1 hid).symm, h7, h59⟩
    · rw [cns_skip h hn]
      exact ⟨o1, o2⟩
theorem setQ_new {α : Type} : ∀ (L : List (Int × α)) (k : Int) (v : α), k ∉ L.map (·.1) → setQ L k v = L ++ [(k, v)]
  | [], _, _, _ => rfl
  | a :: r, k, v, hn => by
    rw [List.map_cons, List.mem_cons, not_or] at hn
    simp only [setQ]
    rw [if_neg hn.1, setQ_new r k v hn.2]
    rfl
theorem cns_new (W : Whole9 bd pl) {n : Nat} (hn : n < pl.length) (h : isC (ix pl n).1 = true) : (ix pl n).2.2.1 ∉ (cnsC T pl n).1.map (·.1) := fun hm => by
  obtain ⟨j, h1, h2, _⟩ := (cns_keys n).1 _ hm
  exact W.new n hn (isC_res W.shape hn h) j h1 (by omega) h2
theorem var_res (W : Whole9 bd pl) {n : Nat} (hn : n < pl.length) (h : (ix pl n).1 = 59) : (ix pl n).2.2.1 ≠ 0 := form_res W.shape hn h form_59
theorem cns_newV (W : Whole9 bd pl) {n : Nat} (hn : n < pl.length) (h : (ix pl n).1 = 59) : (ix pl n).2.2.1 ∉ (cnsC T pl n).2.map (·.1) := fun hm => by
  obtain ⟨j, h1, h2, _⟩ := (cns_keys n).2 _ hm
  exact W.new n hn (var_res W hn h) j h1 (by omega) h2
/-- The ids of constants, of variables: in order. -/
theorem cns_ids (W : Whole9 bd pl) : ∀ n, n ≤ pl.length → (cnsC T pl n).1.map (·.1) = ((List.range n).filter fun k => isC (ix pl k).1).map (fun k => (ix pl k).2.2.1) ∧ (cnsC T pl n).2.map (·.1) = ((List.range n).filter fun k => decide (partP (ix pl k) = 7 ∧ (ix pl k).1 = 59)).map (fun k => (ix pl k).2.2.1)
  | 0, _ => ⟨rfl, rfl⟩
  | n + 1, hn => by
    obtain ⟨h1, h2⟩ := cns_ids W n (by omega)
    rw [List.range_succ, List.filter_append, List.filter_append, List.map_append, List.map_append]
    rcases cns_cases T pl n with h | ⟨h, h7, h59⟩ | ⟨h, hq⟩
    · obtain ⟨p, hp⟩ := wdsC_some T (cnsC T pl n).1 h
      rw [cns_const h hp]
      dsimp only
      rw [setQ_new _ _ _ (cns_new W (by omega) h), List.map_append, h1, h2]
      have e1 : [n].filter (fun k => isC (ix pl k).1) = [n] := by rw [List.filter_cons, if_pos h]; rfl
      have e2 : [n].filter (fun k => decide (partP (ix pl k) = 7 ∧ (ix pl k).1 = 59)) = [] := by
        rw [List.filter_cons, if_neg]
        · rfl
        · rw [decide_eq_true_eq]
          rintro ⟨_, e⟩
          rw [isC_cases] at h
          omega
      rw [e1, e2]
      simp
    · rw [cns_var h7 h59]
      dsimp only
      rw [setQ_new _ _ _ (cns_newV W (by omega) h59), List.map_append, h1, h2]
      have e1 : [n].filter (fun k => isC (ix pl k).1) = [] := by rw [List.filter_cons, if_neg (by rw [h]; simp)]; rfl
      have e2 : [n].filter (fun k => decide (partP (ix pl k) = 7 ∧ (ix pl k).1 = 59)) = [n] := by rw [List.filter_cons, if_pos (decide_eq_true ⟨h7, h59⟩)]; rfl
      rw [e1, e2]
      simp
    · rw [cns_skip h hq, h1, h2]
      have e1 : [n].filter (fun k => isC (ix pl k).1) = [] := by rw [List.filter_cons, if_neg (by rw [h]; simp)]; rfl
      have e2 : [n].filter (fun k => decide (partP (ix pl k) = 7 ∧ (ix pl k).1 = 59)) = [] := by rw [List.filter_cons, if_neg (by rw [decide_eq_true_eq]; exact hq)]; rfl
      rw [e1, e2]
      simp
end
end Go.Proofs
