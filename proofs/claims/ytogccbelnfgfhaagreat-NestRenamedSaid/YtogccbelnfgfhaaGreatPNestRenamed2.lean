/-
  Part 2 of what NestRenamed is proved by: functions walked, and what they come to.
-/
import Derived.Test.YtogccbelnfgfhaaGreatProg
import Derived.Test.YtogccbelnfgfhaaGreatPNestRenamed1
namespace Go.Proofs
open Go.Gk
set_option linter.unusedVariables false
set_option maxRecDepth 100000

/-- intaglio.intagliolaw16.NestRenamed -/
def a_intagliolaw16_NestRenamed : Ann := (.seq none .nil (.seq none .nil (.seq none (.seq none .nil (.cond (.seq none .nil .nil) .nil)) (.seq none .nil .nil))))
def L_intagliolaw16_NestRenamed (p0 : (Int × Int × Sl × Unit)) (R : Value → World → Prop) (w : World) : Prop :=
 Nw (w.alloc (.cells #[(.int .u32 p0.1), (.int .u32 p0.2.1), (.slice p0.2.2.1.a p0.2.2.1.l p0.2.2.1.c)] 25)) fun w1 =>
 ldI w1 ((blk w.heap.size).add 0) .u32 fun x1 =>
 ldI w1 ((blk w.heap.size).add 1) .u32 fun x2 =>
 ldS w1 ((blk w.heap.size).add 2) fun x3 =>
 callR Tryz.prog 11 #[(.agg #[(.int .u32 x1), (.int .u32 x2), (.slice x3.a x3.l x3.c)])] w1 fun v4 w2 =>
 ∃ x5 : (Int × Int × Sl × Unit), v4 = (.agg #[(.int .u32 x5.1), (.int .u32 x5.2.1), (.slice x5.2.2.1.a x5.2.2.1.l x5.2.2.1.c)]) ∧
 callR Tryz.prog 16 #[(.agg #[(.int .u32 x5.1), (.int .u32 x5.2.1), (.slice x5.2.2.1.a x5.2.2.1.l x5.2.2.1.c)])] w2 fun v6 w3 =>
 ∃ x7 : (Int × Int × Sl × Unit), ∃ x8 : (Int × Int × Unit), v6 = (.tuple #[(.agg #[(.int .u32 x7.1), (.int .u32 x7.2.1), (.slice x7.2.2.1.a x7.2.2.1.l x7.2.2.1.c)]), (.agg #[(.int .i64 x8.1), (.int .i64 x8.2.1)])]) ∧
 Nw (w3.alloc (.cells #[(.int .u32 (0 : Int)), (.int .u32 (0 : Int)), (.slice none 0 0)] 25)) fun w4 =>
 Nw (w4.alloc (.cells #[(.int .i64 (0 : Int)), (.int .i64 (0 : Int))] 33)) fun w5 =>
 Wr w5 (blk w3.heap.size) ∧
 Nw (w5.setCell (blk w3.heap.size) (.int .u32 x7.1)) fun w6 =>
 Wr w6 ((blk w3.heap.size).add 1) ∧
 Nw (w6.setCell ((blk w3.heap.size).add 1) (.int .u32 x7.2.1)) fun w7 =>
 Wr w7 ((blk w3.heap.size).add 2) ∧
 Nw (w7.setCell ((blk w3.heap.size).add 2) (.slice x7.2.2.1.a x7.2.2.1.l x7.2.2.1.c)) fun w8 =>
 Wr w8 (blk w4.heap.size) ∧
 Nw (w8.setCell (blk w4.heap.size) (.int .i64 x8.1)) fun w9 =>
 Wr w9 ((blk w4.heap.size).add 1) ∧
 Nw (w9.setCell ((blk w4.heap.size).add 1) (.int .i64 x8.2.1)) fun w10 =>
 ldI w10 (blk w4.heap.size) .i64 fun x9 =>
 ifB (x9 != (0 : Int))
 (ldI w10 ((blk w3.heap.size).add 0) .u32 fun x10 =>
 ldI w10 ((blk w3.heap.size).add 1) .u32 fun x11 =>
 ldS w10 ((blk w3.heap.size).add 2) fun x12 =>
 callR Tryz.prog 17 #[(.agg #[(.int .u32 x10), (.int .u32 x11), (.slice x12.a x12.l x12.c)])] w10 fun v13 w11 =>
 ∃ x14 : Bool, v13 = (.bool x14) ∧
 ifB x14
 (callR Tryz.prog 15 #[] w11 fun v15 w12 =>
 ∃ x16 : Bool, v15 = (.bool x16) ∧
 R (.bool x16) w12)
 (R (.bool false) w11))
 (ldI w10.drew ((blk w3.heap.size).add 0) .u32 fun x17 =>
 ldI w10.drew ((blk w3.heap.size).add 1) .u32 fun x18 =>
 ldS w10.drew ((blk w3.heap.size).add 2) fun x19 =>
 ldI w10.drew ((blk w.heap.size).add 0) .u32 fun x20 =>
 ldI w10.drew ((blk w.heap.size).add 1) .u32 fun x21 =>
 ldS w10.drew ((blk w.heap.size).add 2) fun x22 =>
 callR Tryz.prog 12 #[(.agg #[(.int .u32 x17), (.int .u32 x18), (.slice x19.a x19.l x19.c)])] w10.drew fun v23 w13 =>
 ∃ x24 : (Int × Int × Unit), v23 = (.agg #[(.int .i64 x24.1), (.int .i64 x24.2.1)]) ∧
 w13.cell? ((blk w.heap.size).add 0) = some (.int .u32 x20) ∧
 w13.cell? ((blk w.heap.size).add 1) = some (.int .u32 x21) ∧
 w13.cell? ((blk w.heap.size).add 2) = some (.slice x22.a x22.l x22.c) ∧
 callR Tryz.prog 11 #[(.agg #[(.int .u32 x20), (.int .u32 x21), (.slice x22.a x22.l x22.c)])] w13 fun v25 w14 =>
 ∃ x26 : (Int × Int × Sl × Unit), v25 = (.agg #[(.int .u32 x26.1), (.int .u32 x26.2.1), (.slice x26.2.2.1.a x26.2.2.1.l x26.2.2.1.c)]) ∧
 callR Tryz.prog 12 #[(.agg #[(.int .u32 x26.1), (.int .u32 x26.2.1), (.slice x26.2.2.1.a x26.2.2.1.l x26.2.2.1.c)])] w14 fun v27 w15 =>
 ∃ x28 : (Int × Int × Unit), v27 = (.agg #[(.int .i64 x28.1), (.int .i64 x28.2.1)]) ∧
 ifB (x24.1 == x28.1 && (x24.2.1 == x28.2.1 && true))
 (callR Tryz.prog 15 #[] w15 fun v29 w16 =>
 ∃ x30 : Bool, v29 = (.bool x30) ∧
 R (.bool x30) w16)
 (R (.bool false) w15))
theorem intagliolaw16_NestRenamed_calls (p0 : (Int × Int × Sl × Unit)) (R : Value → World → Prop) (w : World) (h : L_intagliolaw16_NestRenamed p0 R w) : Calls Tryz.prog 5 #[(.agg #[(.int .u32 p0.1), (.int .u32 p0.2.1), (.slice p0.2.2.1.a p0.2.2.1.l p0.2.2.1.c)])] w (Ret R) :=
 lw_calls (fs := Tryz.fs) (an := a_intagliolaw16_NestRenamed) (args := [(.agg #[(.int .u32 p0.1), (.int .u32 p0.2.1), (.slice p0.2.2.1.a p0.2.2.1.l p0.2.2.1.c)])]) Tryz.fsOK Tryz.mixed Tryz.func5 (by kernel_rfl) (by kernel_rfl)
 (Eq.mpr (by kernel_rfl : lwFn Tryz.prog Tryz.fs Tryz.f5 a_intagliolaw16_NestRenamed [(.agg #[(.int .u32 p0.1), (.int .u32 p0.2.1), (.slice p0.2.2.1.a p0.2.2.1.l p0.2.2.1.c)])] w R = L_intagliolaw16_NestRenamed p0 R w) h)

/-- intaglio.nest.Module -/
def a_nest_Module : Ann := (.seq none .nil (.seq none (.seq none .nil (.seq none .nil (.cond (.seq none .nil .nil) .nil))) (.seq none .nil (.seq none (.seq none .nil (.one (.loop ⟨[1, 2, 23, 24], [(25, (.b (.int .i64)))]⟩ (.seq none .nil (.seq none (.cond .nil .nil) (.seq none (.one (.seq none .nil (.seq none .nil (.seq none (.seq none .nil (.cond (.seq none .nil .nil) .nil)) (.seq none .nil (.seq none .nil (.cond (.seq none .nil .nil) .nil))))))) .nil)))))) (.seq none .nil .nil)))))
def L_nest_Module (p0 : (Int × Int × Sl × Unit)) (R : Value → World → Prop) (w : World) : Prop :=
 Nw (w.alloc (.cells #[(.int .u32 p0.1), (.int .u32 p0.2.1), (.slice p0.2.2.1.a p0.2.2.1.l p0.2.2.1.c)] 25)) fun w1 =>
 Nw (w1.alloc (.cells #[(.int .i64 (0 : Int)), (.int .i64 (0 : Int))] 33)) fun w2 =>
 ldI w2 ((blk w.heap.size).add 0) .u32 fun x1 =>
 ldI w2 ((blk w.heap.size).add 1) .u32 fun x2 =>
 ldS w2 ((blk w.heap.size).add 2) fun x3 =>
 callR Tryz.prog 44 #[(.agg #[(.int .u32 x1), (.int .u32 x2), (.slice x3.a x3.l x3.c)])] w2 fun v4 w3 =>
 ∃ x5 : (Int × Int × Unit), v4 = (.agg #[(.int .i64 x5.1), (.int .i64 x5.2.1)]) ∧
 Nw (w3.alloc (.cells #[(.int .i64 (0 : Int)), (.int .i64 (0 : Int))] 33)) fun w4 =>
 Wr w4 (blk w3.heap.size) ∧
 Nw (w4.setCell (blk w3.heap.size) (.int .i64 x5.1)) fun w5 =>
 Wr w5 ((blk w3.heap.size).add 1) ∧
 Nw (w5.setCell ((blk w3.heap.size).add 1) (.int .i64 x5.2.1)) fun w6 =>
 ldI w6 (blk w3.heap.size) .i64 fun x6 =>
 ifB (x6 != (0 : Int))
 (ldI w6 ((blk w3.heap.size).add 0) .i64 fun x7 =>
 ldI w6 ((blk w3.heap.size).add 1) .i64 fun x8 =>
 Wr w6 (blk w1.heap.size) ∧
 Nw (w6.setCell (blk w1.heap.size) (.int .i64 x7)) fun w7 =>
 Wr w7 ((blk w1.heap.size).add 1) ∧
 Nw (w7.setCell ((blk w1.heap.size).add 1) (.int .i64 x8)) fun w8 =>
 ldI w8 ((blk w1.heap.size).add 0) .i64 fun x9 =>
 ldI w8 ((blk w1.heap.size).add 1) .i64 fun x10 =>
 R (.agg #[(.int .i64 x9), (.int .i64 x10)]) w8)
 (ldI w6 ((blk w.heap.size).add 0) .u32 fun x11 =>
 ldI w6 ((blk w.heap.size).add 1) .u32 fun x12 =>
 ldS w6 ((blk w.heap.size).add 2) fun x13 =>
 callR Tryz.prog 45 #[(.agg #[(.int .u32 x11), (.int .u32 x12), (.slice x13.a x13.l x13.c)])] w6 fun v14 w9 =>
 ∃ x15 : Sl, ∃ x16 : (Int × Int × Unit), v14 = (.tuple #[(.slice x15.a x15.l x15.c), (.agg #[(.int .i64 x16.1), (.int .i64 x16.2.1)])]) ∧
 Nw (w9.alloc (.cells #[(.int .i64 (0 : Int)), (.int .i64 (0 : Int))] 33)) fun w10 =>
 Wr w10 (blk w9.heap.size) ∧
 Nw (w10.setCell (blk w9.heap.size) (.int .i64 x16.1)) fun w11 =>
 Wr w11 ((blk w9.heap.size).add 1) ∧
 Nw (w11.setCell ((blk w9.heap.size).add 1) (.int .i64 x16.2.1)) fun w12 =>
 LoopW (S := Int × Unit) (fun s17 w13 n18 =>
 ifB (decide (s17.1 < (x15.l : Int)))
 ((0 ≤ s17.1 ∧ s17.1 < (x15.l : Int)) ∧
 derefP x15.a fun a19 =>
 ldI w13 ((a19.add ((Int.toNat s17.1) * 5)).add 0) .u32 fun x20 =>
 ldI w13 ((a19.add ((Int.toNat s17.1) * 5)).add 1) .i64 fun x21 =>
 ldS w13 ((a19.add ((Int.toNat s17.1) * 5)).add 2) fun x22 =>
 ldS w13 ((a19.add ((Int.toNat s17.1) * 5)).add 3) fun x23 =>
 ldI w13 ((a19.add ((Int.toNat s17.1) * 5)).add 4) .i64 fun x24 =>
 Nw (w13.alloc (.cells #[(.int .u32 (0 : Int)), (.int .i64 (0 : Int)), (.slice none 0 0), (.slice none 0 0), (.int .i64 (0 : Int))] 29)) fun w14 =>
 Wr w14 (blk w13.heap.size) ∧
 Nw (w14.setCell (blk w13.heap.size) (.int .u32 x20)) fun w15 =>
 Wr w15 ((blk w13.heap.size).add 1) ∧
 Nw (w15.setCell ((blk w13.heap.size).add 1) (.int .i64 x21)) fun w16 =>
 Wr w16 ((blk w13.heap.size).add 2) ∧
 Nw (w16.setCell ((blk w13.heap.size).add 2) (.slice x22.a x22.l x22.c)) fun w17 =>
 Wr w17 ((blk w13.heap.size).add 3) ∧
 Nw (w17.setCell ((blk w13.heap.size).add 3) (.slice x23.a x23.l x23.c)) fun w18 =>
 Wr w18 ((blk w13.heap.size).add 4) ∧
 Nw (w18.setCell ((blk w13.heap.size).add 4) (.int .i64 x24)) fun w19 =>
 ldI w19 ((blk w.heap.size).add 0) .u32 fun x25 =>
 ldI w19 ((blk w.heap.size).add 1) .u32 fun x26 =>
 ldS w19 ((blk w.heap.size).add 2) fun x27 =>
 ldI w19 ((blk w13.heap.size).add 0) .u32 fun x28 =>
 ldI w19 ((blk w13.heap.size).add 1) .i64 fun x29 =>
 ldS w19 ((blk w13.heap.size).add 2) fun x30 =>
 ldS w19 ((blk w13.heap.size).add 3) fun x31 =>
 ldI w19 ((blk w13.heap.size).add 4) .i64 fun x32 =>
 callR Tryz.prog 33 #[(.agg #[(.int .u32 x25), (.int .u32 x26), (.slice x27.a x27.l x27.c)]), (.agg #[(.int .u32 x28), (.int .i64 x29), (.slice x30.a x30.l x30.c), (.slice x31.a x31.l x31.c), (.int .i64 x32)])] w19 fun v33 w20 =>
 ∃ x34 : Option Addr, ∃ x35 : Sl, ∃ x36 : (Int × Int × Unit), v33 = (.tuple #[(.pointer x34), (.slice x35.a x35.l x35.c), (.agg #[(.int .i64 x36.1), (.int .i64 x36.2.1)])]) ∧
 Nw (w20.alloc (.cells #[(.int .i64 (0 : Int)), (.int .i64 (0 : Int))] 33)) fun w21 =>
 Wr w21 (blk w20.heap.size) ∧
 Nw (w21.setCell (blk w20.heap.size) (.int .i64 x36.1)) fun w22 =>
 Wr w22 ((blk w20.heap.size).add 1) ∧
 Nw (w22.setCell ((blk w20.heap.size).add 1) (.int .i64 x36.2.1)) fun w23 =>
 ldI w23 (blk w20.heap.size) .i64 fun x37 =>
 ifB (x37 != (0 : Int))
 (ldI w23 ((blk w20.heap.size).add 0) .i64 fun x38 =>
 ldI w23 ((blk w20.heap.size).add 1) .i64 fun x39 =>
 Wr w23 (blk w1.heap.size) ∧
 Nw (w23.setCell (blk w1.heap.size) (.int .i64 x38)) fun w24 =>
 Wr w24 ((blk w1.heap.size).add 1) ∧
 Nw (w24.setCell ((blk w1.heap.size).add 1) (.int .i64 x39)) fun w25 =>
 ldI w25 ((blk w1.heap.size).add 0) .i64 fun x40 =>
 ldI w25 ((blk w1.heap.size).add 1) .i64 fun x41 =>
 R (.agg #[(.int .i64 x40), (.int .i64 x41)]) w25)
 (callR Tryz.prog 46 #[(.pointer x34), (.slice x35.a x35.l x35.c)] w23 fun v42 w26 =>
 ∃ x43 : (Int × Int × Unit), v42 = (.agg #[(.int .i64 x43.1), (.int .i64 x43.2.1)]) ∧
 Nw (w26.alloc (.cells #[(.int .i64 (0 : Int)), (.int .i64 (0 : Int))] 33)) fun w27 =>
 Wr w27 (blk w26.heap.size) ∧
 Nw (w27.setCell (blk w26.heap.size) (.int .i64 x43.1)) fun w28 =>
 Wr w28 ((blk w26.heap.size).add 1) ∧
 Nw (w28.setCell ((blk w26.heap.size).add 1) (.int .i64 x43.2.1)) fun w29 =>
 ldI w29 (blk w26.heap.size) .i64 fun x44 =>
 ifB (x44 != (0 : Int))
 (ldI w29.drew (blk w26.heap.size) .i64 fun x45 =>
 ldS w29.drew ((blk w13.heap.size).add 3) fun x46 =>
 ldI w29.drew ((blk w26.heap.size).add 1) .i64 fun x47 =>
 (0 ≤ x47 ∧ x47 < (x46.l : Int)) ∧
 derefP x46.a fun a48 =>
 ldI w29.drew ((a48.add ((Int.toNat x47) * 3)).add 2) .i64 fun x49 =>
 Wr w29.drew (blk w1.heap.size) ∧
 Nw (w29.drew.setCell (blk w1.heap.size) (.int .i64 x45)) fun w30 =>
 Wr w30 ((blk w1.heap.size).add 1) ∧
 Nw (w30.setCell ((blk w1.heap.size).add 1) (.int .i64 (IntKind.i64.wrap (x49 - (1 : Int))))) fun w31 =>
 ldI w31 ((blk w1.heap.size).add 0) .i64 fun x50 =>
 ldI w31 ((blk w1.heap.size).add 1) .i64 fun x51 =>
 R (.agg #[(.int .i64 x50), (.int .i64 x51)]) w31)
 (n18 ((IntKind.i64.wrap (s17.1 + (1 : Int))), ()) w29)))
 (Wr w13 (blk w1.heap.size) ∧
 Nw (w13.setCell (blk w1.heap.size) (.int .i64 (0 : Int))) fun w32 =>
 Wr w32 ((blk w1.heap.size).add 1) ∧
 Nw (w32.setCell ((blk w1.heap.size).add 1) (.int .i64 (0 : Int))) fun w33 =>
 ldI w33 ((blk w1.heap.size).add 0) .i64 fun x52 =>
 ldI w33 ((blk w1.heap.size).add 1) .i64 fun x53 =>
 R (.agg #[(.int .i64 x52), (.int .i64 x53)]) w33))
 ((0 : Int), ()) w12)
theorem nest_Module_calls (p0 : (Int × Int × Sl × Unit)) (R : Value → World → Prop) (w : World) (h : L_nest_Module p0 R w) : Calls Tryz.prog 12 #[(.agg #[(.int .u32 p0.1), (.int .u32 p0.2.1), (.slice p0.2.2.1.a p0.2.2.1.l p0.2.2.1.c)])] w (Ret R) :=
 lw_calls (fs := Tryz.fs) (an := a_nest_Module) (args := [(.agg #[(.int .u32 p0.1), (.int .u32 p0.2.1), (.slice p0.2.2.1.a p0.2.2.1.l p0.2.2.1.c)])]) Tryz.fsOK Tryz.mixed Tryz.func12 (by kernel_rfl) (by kernel_rfl)
 (Eq.mpr (by kernel_rfl : lwFn Tryz.prog Tryz.fs Tryz.f12 a_nest_Module [(.agg #[(.int .u32 p0.1), (.int .u32 p0.2.1), (.slice p0.2.2.1.a p0.2.2.1.l p0.2.2.1.c)])] w R = L_nest_Module p0 R w) h)

/-- intaglio.intagliolaw16.awake -/
def a_intagliolaw16_awake : Ann := (.seq none .nil (.seq none .nil (.seq none .nil (.seq none .nil (.seq (some ⟨[3], []⟩) (.seq none .nil (.cond (.seq none .nil .nil) .nil)) (.seq none .nil (.seq none .nil .nil)))))))
def L_intagliolaw16_awake  (R : Value → World → Prop) (w : World) : Prop :=
 callR Tryz.prog 50 #[(.int .u8 (1 : Int))] w fun v1 w1 =>
 ∃ x2 : Sl, ∃ x3 : Sl, v1 = (.tuple #[(.slice x2.a x2.l x2.c), (.slice x3.a x3.l x3.c)]) ∧
 callR Tryz.prog 37 #[(.slice x2.a x2.l x2.c)] w1 fun v4 w2 =>
 ∃ x5 : Option Addr, ∃ x6 : Int, v4 = (.tuple #[(.pointer x5), (.int .i64 x6)]) ∧
 callR Tryz.prog 51 #[(.pointer x5), (.slice x3.a x3.l x3.c), (.int .i64 (0 : Int))] w2 fun v7 w3 =>
 ∃ x8 : Sl, ∃ x9 : Int, v7 = (.tuple #[(.slice x8.a x8.l x8.c), (.int .i64 x9)]) ∧
 JoinW (S := Unit) (fun m10 =>
 ifB (x6 != (0 : Int))
 (R (.bool false) w3)
 (ifB (x9 != (0 : Int))
 (R (.bool false) w3)
 (callR Tryz.prog 52 #[(.int .i64 (0 : Int)), (.int .i64 (1 : Int))] w3 fun v12 w4 =>
 ∃ x13 : Sl, v12 = (.slice x13.a x13.l x13.c) ∧
 callR Tryz.prog 26 #[(.slice x8.a x8.l x8.c), (.slice x13.a x13.l x13.c)] w4 fun v14 w5 =>
 ∃ x15 : Bool, v14 = (.bool x15) ∧
 ifB (!x15)
 (R (.bool false) w5)
 (callR Tryz.prog 46 #[(.pointer x5), (.slice x3.a x3.l x3.c)] w5 fun v16 w6 =>
 ∃ x17 : (Int × Int × Unit), v16 = (.agg #[(.int .i64 x17.1), (.int .i64 x17.2.1)]) ∧
 ifB (!(x17.1 == (0 : Int) && (x17.2.1 == (0 : Int) && true)))
 (R (.bool false) w6)
 (m10 (()) w6)))))
 (fun s11 w7 =>
 callR Tryz.prog 50 #[(.int .u8 (0 : Int))] w7 fun v18 w8 =>
 ∃ x19 : Sl, ∃ x20 : Sl, v18 = (.tuple #[(.slice x19.a x19.l x19.c), (.slice x20.a x20.l x20.c)]) ∧
 callR Tryz.prog 46 #[(.pointer x5), (.slice x20.a x20.l x20.c)] w8 fun v21 w9 =>
 ∃ x22 : (Int × Int × Unit), v21 = (.agg #[(.int .i64 x22.1), (.int .i64 x22.2.1)]) ∧
 R (.bool (x22.1 == (163 : Int) && (x22.2.1 == (0 : Int) && true))) w9)
theorem intagliolaw16_awake_calls  (R : Value → World → Prop) (w : World) (h : L_intagliolaw16_awake  R w) : Calls Tryz.prog 15 #[] w (Ret R) :=
 lw_calls (fs := Tryz.fs) (an := a_intagliolaw16_awake) (args := []) Tryz.fsOK Tryz.mixed Tryz.func15 (by kernel_rfl) (by kernel_rfl)
 (Eq.mpr (by kernel_rfl : lwFn Tryz.prog Tryz.fs Tryz.f15 a_intagliolaw16_awake [] w R = L_intagliolaw16_awake  R w) h)

/-- intaglio.nest.Check -/
def a_nest_Check : Ann := (.seq none .nil (.seq none .nil (.seq none (.one (.seq none .nil (.cond (.seq none .nil .nil) (.seq none .nil (.cond (.seq none .nil .nil) .nil))))) (.seq none .nil .nil))))
def L_nest_Check (p0 : Option Addr) (p1 : Sl) (R : Value → World → Prop) (w : World) : Prop :=
 Nw (w.alloc (.cells #[(.int .i64 (0 : Int)), (.int .i64 (0 : Int))] 33)) fun w1 =>
 callR Tryz.prog 104 #[(.pointer p0), (.slice p1.a p1.l p1.c)] w1 fun v1 w2 =>
 ∃ x2 : Sl, ∃ x3 : Int, v1 = (.tuple #[(.slice x2.a x2.l x2.c), (.int .i64 x3)]) ∧
 ifB (x3 != (0 : Int))
 (Wr w2 (blk w.heap.size) ∧
 Nw (w2.setCell (blk w.heap.size) (.int .i64 x3)) fun w3 =>
 Wr w3 ((blk w.heap.size).add 1) ∧
 Nw (w3.setCell ((blk w.heap.size).add 1) (.int .i64 (0 : Int))) fun w4 =>
 ldI w4 ((blk w.heap.size).add 0) .i64 fun x4 =>
 ldI w4 ((blk w.heap.size).add 1) .i64 fun x5 =>
 R (.agg #[(.int .i64 x4), (.int .i64 x5)]) w4)
 (ifB (decide ((x2.l : Int) > (0 : Int)))
 ((0 ≤ (0 : Int) ∧ (0 : Int) < (x2.l : Int)) ∧
 derefP x2.a fun a6 =>
 ldI w2.drew ((a6.add (0 * 2)).add 1) .i64 fun x7 =>
 (0 ≤ (0 : Int) ∧ (0 : Int) < (x2.l : Int)) ∧
 derefP x2.a fun a8 =>
 ldI w2.drew (a8.add (0 * 2)) .i64 fun x9 =>
 Wr w2.drew (blk w.heap.size) ∧
 Nw (w2.drew.setCell (blk w.heap.size) (.int .i64 x7)) fun w5 =>
 Wr w5 ((blk w.heap.size).add 1) ∧
 Nw (w5.setCell ((blk w.heap.size).add 1) (.int .i64 x9)) fun w6 =>
 ldI w6 ((blk w.heap.size).add 0) .i64 fun x10 =>
 ldI w6 ((blk w.heap.size).add 1) .i64 fun x11 =>
 R (.agg #[(.int .i64 x10), (.int .i64 x11)]) w6)
 (Wr w2 (blk w.heap.size) ∧
 Nw (w2.setCell (blk w.heap.size) (.int .i64 (0 : Int))) fun w7 =>
 Wr w7 ((blk w.heap.size).add 1) ∧
 Nw (w7.setCell ((blk w.heap.size).add 1) (.int .i64 (0 : Int))) fun w8 =>
 ldI w8 ((blk w.heap.size).add 0) .i64 fun x12 =>
 ldI w8 ((blk w.heap.size).add 1) .i64 fun x13 =>
 R (.agg #[(.int .i64 x12), (.int .i64 x13)]) w8))
theorem nest_Check_calls (p0 : Option Addr) (p1 : Sl) (R : Value → World → Prop) (w : World) (h : L_nest_Check p0 p1 R w) : Calls Tryz.prog 46 #[(.pointer p0), (.slice p1.a p1.l p1.c)] w (Ret R) :=
 lw_calls (fs := Tryz.fs) (an := a_nest_Check) (args := [(.pointer p0), (.slice p1.a p1.l p1.c)]) Tryz.fsOK Tryz.mixed Tryz.func46 (by kernel_rfl) (by kernel_rfl)
 (Eq.mpr (by kernel_rfl : lwFn Tryz.prog Tryz.fs Tryz.f46 a_nest_Check [(.pointer p0), (.slice p1.a p1.l p1.c)] w R = L_nest_Check p0 p1 R w) h)

/-- intaglio.intagliolaw16.bare -/
def a_intagliolaw16_bare : Ann := (.seq none .nil (.seq none .nil (.seq none .nil (.seq none .nil (.seq none .nil (.seq none .nil (.seq none .nil .nil)))))))
def L_intagliolaw16_bare (p0 : Int) (R : Value → World → Prop) (w : World) : Prop :=
 (0 ≤ (3 : Int) ∧ (3 : Int) ≤ (3 : Int) ∧ (24 : Int) * (3 : Int) ≤ 281474976710656 ∧ (3 : Int) ≤ 9223372036854775807) ∧
 Nw (w.alloc (.cells (madeCells #[(.slice none 0 0)] (3 * 1)) 26)) fun w1 =>
 callR Tryz.prog 52 #[(.int .i64 (1 : Int)), (.int .i64 (2 : Int))] w1 fun v1 w2 =>
 ∃ x2 : Sl, v1 = (.slice x2.a x2.l x2.c) ∧
 (0 ≤ (0 : Int) ∧ (0 : Int) < (3 : Int)) ∧
 Wr w2 ((blk w.heap.size).add 0) ∧
 Nw (w2.setCell ((blk w.heap.size).add 0) (.slice x2.a x2.l x2.c)) fun w3 =>
 (0 ≤ (1 : Int) ∧ (1 : Int) < (3 : Int)) ∧
 ldS w3 ((blk w.heap.size).add 1) fun x3 =>
 Nw (w3.alloc (.cells #[(.int .i64 (2 : Int))] 3)) fun w4 =>
 appendS Tryz.prog 26 (.slice x3.a x3.l x3.c) (.slice (some (blk w3.heap.size)) 1 1) w4 fun r4 w5 =>
 (0 ≤ (1 : Int) ∧ (1 : Int) < (3 : Int)) ∧
 Wr w5 ((blk w.heap.size).add 1) ∧
 Nw (w5.setCell ((blk w.heap.size).add 1) (.slice r4.a r4.l r4.c)) fun w6 =>
 (0 ≤ (3 : Int) ∧ (3 : Int) ≤ (3 : Int) ∧ (24 : Int) * (3 : Int) ≤ 281474976710656 ∧ (3 : Int) ≤ 9223372036854775807) ∧
 Nw (w6.alloc (.cells (madeCells #[(.int .u8 (0 : Int)), (.int .i64 (0 : Int)), (.int .i64 (0 : Int))] (3 * 3)) 121)) fun w7 =>
 (0 ≤ (0 : Int) ∧ (0 : Int) < (3 : Int)) ∧
 Wr w7 ((blk w6.heap.size).add (0 * 3)) ∧
 Nw (w7.setCell ((blk w6.heap.size).add (0 * 3)) (.int .u8 p0)) fun w8 =>
 Wr w8 (((blk w6.heap.size).add (0 * 3)).add 1) ∧
 Nw (w8.setCell (((blk w6.heap.size).add (0 * 3)).add 1) (.int .i64 (2 : Int))) fun w9 =>
 Wr w9 (((blk w6.heap.size).add (0 * 3)).add 2) ∧
 Nw (w9.setCell (((blk w6.heap.size).add (0 * 3)).add 2) (.int .i64 (-1 : Int))) fun w10 =>
 R (.tuple #[(.slice (some (blk w.heap.size)) 3 3), (.slice (some (blk w6.heap.size)) 3 3)]) w10
theorem intagliolaw16_bare_calls (p0 : Int) (R : Value → World → Prop) (w : World) (h : L_intagliolaw16_bare p0 R w) : Calls Tryz.prog 50 #[(.int .u8 p0)] w (Ret R) :=
 lw_calls (fs := Tryz.fs) (an := a_intagliolaw16_bare) (args := [(.int .u8 p0)]) Tryz.fsOK Tryz.mixed Tryz.func50 (by kernel_rfl) (by kernel_rfl)
 (Eq.mpr (by kernel_rfl : lwFn Tryz.prog Tryz.fs Tryz.f50 a_intagliolaw16_bare [(.int .u8 p0)] w R = L_intagliolaw16_bare p0 R w) h)

/-- intaglio.nest.Construct -/
def a_nest_Construct : Ann := (.seq none .nil (.seq none .nil (.seq (some ⟨[2, 8], []⟩) (.one (.seq none .nil (.cond (.seq none .nil .nil) (.seq none .nil (.cond (.seq none .nil .nil) (.seq none .nil (.cond (.seq none .nil .nil) .nil))))))) (.seq none .nil (.seq none (.seq none .nil (.one (.loop ⟨[2, 8, 50], [(10, (.b .slice)), (51, (.b (.int .i64)))]⟩ (.seq none .nil (.seq none (.cond .nil .nil) (.seq (some ⟨[2, 8, 50, 51], [(10, (.b .slice))]⟩) (.one (.seq none .nil (.seq none .nil (.cond .nil .nil)))) .nil)))))) (.seq none .nil .nil))))))
def L_nest_Construct (p0 : Option Addr) (p1 : Sl) (p2 : Int) (R : Value → World → Prop) (w : World) : Prop :=
 callR Tryz.prog 107 #[(.pointer p0), (.slice p1.a p1.l p1.c)] w fun v1 w1 =>
 ∃ x2 : Option Addr, ∃ x3 : Int, v1 = (.tuple #[(.pointer x2), (.int .i64 x3)]) ∧
 JoinW (S := Unit) (fun m4 =>
 ifB (x3 != (0 : Int))
 (R (.tuple #[(.slice none 0 0), (.int .i64 x3)]) w1)
 (callR Tryz.prog 108 #[(.pointer p0), (.int .i64 p2)] w1 fun v6 w2 =>
 ∃ x7 : Bool, v6 = (.bool x7) ∧
 ifB (!x7)
 (R (.tuple #[(.slice none 0 0), (.int .i64 (3 : Int))]) w2)
 (derefP x2 fun a8 =>
 ldS w2 (a8.add 1) fun x9 =>
 (0 ≤ p2 ∧ p2 < (x9.l : Int)) ∧
 derefP x9.a fun a10 =>
 ldI w2 (a10.add ((Int.toNat p2) * 3)) .u8 fun x11 =>
 ifB (x11 == (0 : Int))
 (R (.tuple #[(.slice none 0 0), (.int .i64 (5 : Int))]) w2)
 (derefP x2 fun a12 =>
 ldP w2 (a12.add 2) fun x13 =>
 callR Tryz.prog 41 #[(.pointer x13), (.int .i64 p2)] w2 fun v14 w3 =>
 ∃ x15 : Bool, v14 = (.bool x15) ∧
 ifB (!x15)
 (R (.tuple #[(.slice none 0 0), (.int .i64 (5 : Int))]) w3)
 (m4 (()) w3)))))
 (fun s5 w4 =>
 derefP x2 fun a16 =>
 ldS w4 (a16.add 4) fun x17 =>
 LoopW (S := Sl × Int × Unit) (fun s18 w5 n19 =>
 ifB (decide (s18.2.1 < (x17.l : Int)))
 (JoinW (S := Sl × Unit) (fun m20 =>
 callR Tryz.prog 109 #[(.pointer x2), (.int .i64 p2), (.int .i64 s18.2.1)] w5 fun v22 w6 =>
 ∃ x23 : Bool, v22 = (.bool x23) ∧
 ifB x23
 (Nw (w6.alloc (.cells #[(.int .i64 s18.2.1)] 3)) fun w7 =>
 appendS Tryz.prog 26 (.slice s18.1.a s18.1.l s18.1.c) (.slice (some (blk w6.heap.size)) 1 1) w7 fun r24 w8 =>
 m20 (r24, ()) w8)
 (m20 (s18.1, ()) w6))
 (fun s21 w9 =>
 n19 (s21.1, (IntKind.i64.wrap (s18.2.1 + (1 : Int))), ()) w9))
 (R (.tuple #[(.slice s18.1.a s18.1.l s18.1.c), (.int .i64 (0 : Int))]) w5))
 ((Sl.mk none 0 0), (0 : Int), ()) w4)
theorem nest_Construct_calls (p0 : Option Addr) (p1 : Sl) (p2 : Int) (R : Value → World → Prop) (w : World) (h : L_nest_Construct p0 p1 p2 R w) : Calls Tryz.prog 51 #[(.pointer p0), (.slice p1.a p1.l p1.c), (.int .i64 p2)] w (Ret R) :=
 lw_calls (fs := Tryz.fs) (an := a_nest_Construct) (args := [(.pointer p0), (.slice p1.a p1.l p1.c), (.int .i64 p2)]) Tryz.fsOK Tryz.mixed Tryz.func51 (by kernel_rfl) (by kernel_rfl)
 (Eq.mpr (by kernel_rfl : lwFn Tryz.prog Tryz.fs Tryz.f51 a_nest_Construct [(.pointer p0), (.slice p1.a p1.l p1.c), (.int .i64 p2)] w R = L_nest_Construct p0 p1 p2 R w) h)

/-- intaglio.intagliolaw16.pair -/
def a_intagliolaw16_pair : Ann := (.seq none .nil (.seq none .nil (.seq none .nil (.seq none .nil (.seq none .nil .nil)))))
def L_intagliolaw16_pair (p0 : Int) (p1 : Int) (R : Value → World → Prop) (w : World) : Prop :=
 (0 ≤ (2 : Int) ∧ (2 : Int) ≤ (2 : Int) ∧ (8 : Int) * (2 : Int) ≤ 281474976710656 ∧ (2 : Int) ≤ 9223372036854775807) ∧
 Nw (w.alloc (.cells (madeCells #[(.int .i64 (0 : Int))] (2 * 1)) 3)) fun w1 =>
 (0 ≤ (0 : Int) ∧ (0 : Int) < (2 : Int)) ∧
 Wr w1 ((blk w.heap.size).add 0) ∧
 Nw (w1.setCell ((blk w.heap.size).add 0) (.int .i64 p0)) fun w2 =>
 (0 ≤ (1 : Int) ∧ (1 : Int) < (2 : Int)) ∧
 Wr w2 ((blk w.heap.size).add 1) ∧
 Nw (w2.setCell ((blk w.heap.size).add 1) (.int .i64 p1)) fun w3 =>
 R (.slice (some (blk w.heap.size)) 2 2) w3
theorem intagliolaw16_pair_calls (p0 : Int) (p1 : Int) (R : Value → World → Prop) (w : World) (h : L_intagliolaw16_pair p0 p1 R w) : Calls Tryz.prog 52 #[(.int .i64 p0), (.int .i64 p1)] w (Ret R) :=
 lw_calls (fs := Tryz.fs) (an := a_intagliolaw16_pair) (args := [(.int .i64 p0), (.int .i64 p1)]) Tryz.fsOK Tryz.mixed Tryz.func52 (by kernel_rfl) (by kernel_rfl)
 (Eq.mpr (by kernel_rfl : lwFn Tryz.prog Tryz.fs Tryz.f52 a_intagliolaw16_pair [(.int .i64 p0), (.int .i64 p1)] w R = L_intagliolaw16_pair p0 p1 R w) h)

/-- intaglio.nest.Flaws -/
def a_nest_Flaws : Ann := (.seq none .nil (.seq none .nil (.seq none (.seq none .nil (.cond (.seq none .nil .nil) .nil)) (.seq none .nil .nil))))
def L_nest_Flaws (p0 : Option Addr) (p1 : Sl) (R : Value → World → Prop) (w : World) : Prop :=
 callR Tryz.prog 107 #[(.pointer p0), (.slice p1.a p1.l p1.c)] w fun v1 w1 =>
 ∃ x2 : Option Addr, ∃ x3 : Int, v1 = (.tuple #[(.pointer x2), (.int .i64 x3)]) ∧
 ifB (x3 != (0 : Int))
 (R (.tuple #[(.slice none 0 0), (.int .i64 x3)]) w1)
 (callR Tryz.prog 141 #[(.pointer x2)] w1 fun v4 w2 =>
 ∃ x5 : Sl, v4 = (.slice x5.a x5.l x5.c) ∧
 R (.tuple #[(.slice x5.a x5.l x5.c), (.int .i64 (0 : Int))]) w2)
theorem nest_Flaws_calls (p0 : Option Addr) (p1 : Sl) (R : Value → World → Prop) (w : World) (h : L_nest_Flaws p0 p1 R w) : Calls Tryz.prog 104 #[(.pointer p0), (.slice p1.a p1.l p1.c)] w (Ret R) :=
 lw_calls (fs := Tryz.fs) (an := a_nest_Flaws) (args := [(.pointer p0), (.slice p1.a p1.l p1.c)]) Tryz.fsOK Tryz.mixed Tryz.func104 (by kernel_rfl) (by kernel_rfl)
 (Eq.mpr (by kernel_rfl : lwFn Tryz.prog Tryz.fs Tryz.f104 a_nest_Flaws [(.pointer p0), (.slice p1.a p1.l p1.c)] w R = L_nest_Flaws p0 p1 R w) h)

/-- intaglio.nest.of -/
def a_nest_of : Ann := (.seq none .nil (.seq none (.one (.seq none .nil (.cond (.seq none .nil .nil) (.seq none .nil (.cond (.seq none .nil .nil) .nil))))) (.seq none .nil (.seq none (.seq none .nil (.one (.loop ⟨[0, 1, 6, 22, 23], [(24, (.b (.int .i64)))]⟩ (.seq none .nil (.seq none (.cond .nil .nil) (.seq (some ⟨[0, 1, 6, 22, 23, 24], []⟩) (.one (.seq none .nil (.seq none .nil (.seq none .nil (.one (.seq none .nil (.cond .nil (.seq none .nil (.cond .nil .nil))))))))) .nil)))))) (.seq none .nil (.seq none .nil (.seq none .nil (.seq none (.seq none .nil (.one (.loop ⟨[9, 97], [(98, (.b (.int .i64)))]⟩ (.seq none .nil (.seq none (.cond .nil .nil) (.seq none (.one (.seq none .nil .nil)) .nil)))))) (.seq none .nil .nil)))))))))
def L_nest_of (p0 : Option Addr) (p1 : Sl) (R : Value → World → Prop) (w : World) : Prop :=
 ifB (Option.isNone p0)
 (R (.tuple #[(.pointer none), (.int .i64 (1 : Int))]) w)
 (callR Tryz.prog 147 #[(.pointer p0), (.slice p1.a p1.l p1.c)] w fun v1 w1 =>
 ∃ x2 : Bool, v1 = (.bool x2) ∧
 ifB (!x2)
 (R (.tuple #[(.pointer none), (.int .i64 (2 : Int))]) w1)
 (callR Tryz.prog 38 #[(.pointer p0)] w1 fun v3 w2 =>
 ∃ x4 : Int, v3 = (.int .i64 x4) ∧
 (0 ≤ x4 ∧ x4 ≤ x4 ∧ (24 : Int) * x4 ≤ 281474976710656 ∧ x4 ≤ 9223372036854775807) ∧
 Nw (w2.alloc (.cells (madeCells #[(.slice none 0 0)] ((Int.toNat x4) * 1)) 26)) fun w3 =>
 LoopW (S := Int × Unit) (fun s5 w4 n6 =>
 ifB (decide (s5.1 < (p1.l : Int)))
 (JoinW (S := Unit) (fun m7 =>
 (0 ≤ s5.1 ∧ s5.1 < (p1.l : Int)) ∧
 derefP p1.a fun a9 =>
 ldI w4 ((a9.add ((Int.toNat s5.1) * 3)).add 0) .u8 fun x10 =>
 ldI w4 ((a9.add ((Int.toNat s5.1) * 3)).add 1) .i64 fun x11 =>
 ldI w4 ((a9.add ((Int.toNat s5.1) * 3)).add 2) .i64 fun x12 =>
 Nw (w4.alloc (.cells #[(.int .u8 (0 : Int)), (.int .i64 (0 : Int)), (.int .i64 (0 : Int))] 121)) fun w5 =>
 Wr w5 (blk w4.heap.size) ∧
 Nw (w5.setCell (blk w4.heap.size) (.int .u8 x10)) fun w6 =>
 Wr w6 ((blk w4.heap.size).add 1) ∧
 Nw (w6.setCell ((blk w4.heap.size).add 1) (.int .i64 x11)) fun w7 =>
 Wr w7 ((blk w4.heap.size).add 2) ∧
 Nw (w7.setCell ((blk w4.heap.size).add 2) (.int .i64 x12)) fun w8 =>
 callR Tryz.prog 39 #[(.pointer p0), (.int .i64 s5.1)] w8 fun v13 w9 =>
 ∃ x14 : Sl, v13 = (.slice x14.a x14.l x14.c) ∧
 (0 ≤ s5.1 ∧ s5.1 < ((Int.toNat x4) : Int)) ∧
 Wr w9 ((blk w2.heap.size).add (Int.toNat s5.1)) ∧
 Nw (w9.setCell ((blk w2.heap.size).add (Int.toNat s5.1)) (.slice x14.a x14.l x14.c)) fun w10 =>
 ldI w10 (blk w4.heap.size) .u8 fun x15 =>
 ifB (x15 == (0 : Int))
 (m7 (()) w10)
 (ifB (x15 == (2 : Int))
 ((0 ≤ s5.1 ∧ s5.1 < ((Int.toNat x4) : Int)) ∧
 ldS w10.drew ((blk w2.heap.size).add (Int.toNat s5.1)) fun x16 =>
 ldI w10.drew ((blk w4.heap.size).add 1) .i64 fun x17 =>
 ldI w10.drew ((blk w4.heap.size).add 2) .i64 fun x18 =>
 Nw (w10.drew.alloc (.cells #[(.int .i64 x17), (.int .i64 x18)] 3)) fun w11 =>
 w11.cell? ((blk w2.heap.size).add (Int.toNat s5.1)) = some (.slice x16.a x16.l x16.c) ∧
 appendS Tryz.prog 26 (.slice x16.a x16.l x16.c) (.slice (some (blk w10.drew.heap.size)) 2 2) w11 fun r19 w12 =>
 (0 ≤ s5.1 ∧ s5.1 < ((Int.toNat x4) : Int)) ∧
 Wr w12 ((blk w2.heap.size).add (Int.toNat s5.1)) ∧
 Nw (w12.setCell ((blk w2.heap.size).add (Int.toNat s5.1)) (.slice r19.a r19.l r19.c)) fun w13 =>
 m7 (()) w13)
 ((0 ≤ s5.1 ∧ s5.1 < ((Int.toNat x4) : Int)) ∧
 ldS w10.drew ((blk w2.heap.size).add (Int.toNat s5.1)) fun x20 =>
 ldI w10.drew ((blk w4.heap.size).add 1) .i64 fun x21 =>
 Nw (w10.drew.alloc (.cells #[(.int .i64 x21)] 3)) fun w14 =>
 w14.cell? ((blk w2.heap.size).add (Int.toNat s5.1)) = some (.slice x20.a x20.l x20.c) ∧
 appendS Tryz.prog 26 (.slice x20.a x20.l x20.c) (.slice (some (blk w10.drew.heap.size)) 1 1) w14 fun r22 w15 =>
 (0 ≤ s5.1 ∧ s5.1 < ((Int.toNat x4) : Int)) ∧
 Wr w15 ((blk w2.heap.size).add (Int.toNat s5.1)) ∧
 Nw (w15.setCell ((blk w2.heap.size).add (Int.toNat s5.1)) (.slice r22.a r22.l r22.c)) fun w16 =>
 m7 (()) w16)))
 (fun s8 w17 =>
 n6 ((IntKind.i64.wrap (s5.1 + (1 : Int))), ()) w17))
 (callR Tryz.prog 148 #[(.slice p1.a p1.l p1.c)] w4 fun v23 w18 =>
 ∃ x24 : Sl, v23 = (.slice x24.a x24.l x24.c) ∧
 callR Tryz.prog 38 #[(.pointer p0)] w18 fun v25 w19 =>
 ∃ x26 : Int, v25 = (.int .i64 x26) ∧
 (0 ≤ x26 ∧ x26 ≤ x26 ∧ (24 : Int) * x26 ≤ 281474976710656 ∧ x26 ≤ 9223372036854775807) ∧
 Nw (w19.alloc (.cells (madeCells #[(.slice none 0 0)] ((Int.toNat x26) * 1)) 26)) fun w20 =>
 Nw (w20.alloc (.cells #[(.pointer p0), (.slice x24.a x24.l x24.c), (.pointer none), (.pointer none), (.slice (some (blk w19.heap.size)) (Int.toNat x26) (Int.toNat x26))] 165)) fun w21 =>
 callR Tryz.prog 37 #[(.slice (some (blk w2.heap.size)) (Int.toNat x4) (Int.toNat x4))] w21 fun v27 w22 =>
 ∃ x28 : Option Addr, ∃ x29 : Int, v27 = (.tuple #[(.pointer x28), (.int .i64 x29)]) ∧
 Wr w22 ((blk w20.heap.size).add 2) ∧
 Nw (w22.setCell ((blk w20.heap.size).add 2) (.pointer x28)) fun w23 =>
 ldP w23 ((blk w20.heap.size).add 2) fun x30 =>
 callR Tryz.prog 149 #[(.pointer x30)] w23 fun v31 w24 =>
 ∃ x32 : Option Addr, ∃ x33 : Int, v31 = (.tuple #[(.pointer x32), (.int .i64 x33)]) ∧
 Wr w24 ((blk w20.heap.size).add 3) ∧
 Nw (w24.setCell ((blk w20.heap.size).add 3) (.pointer x32)) fun w25 =>
 ldS w25 ((blk w20.heap.size).add 4) fun x34 =>
 LoopW (S := Int × Unit) (fun s35 w26 n36 =>
 ifB (decide (s35.1 < (x34.l : Int)))
 (ldS w26.drew ((blk w20.heap.size).add 4) fun x37 =>
 callR Tryz.prog 150 #[(.pointer (some (blk w20.heap.size))), (.int .i64 s35.1)] w26.drew fun v38 w27 =>
 ∃ x39 : Sl, v38 = (.slice x39.a x39.l x39.c) ∧
 w27.cell? ((blk w20.heap.size).add 4) = some (.slice x37.a x37.l x37.c) ∧
 (0 ≤ s35.1 ∧ s35.1 < (x37.l : Int)) ∧
 derefP x37.a fun a40 =>
 Wr w27 (a40.add (Int.toNat s35.1)) ∧
 Nw (w27.setCell (a40.add (Int.toNat s35.1)) (.slice x39.a x39.l x39.c)) fun w28 =>
 n36 ((IntKind.i64.wrap (s35.1 + (1 : Int))), ()) w28)
 (R (.tuple #[(.pointer (some (blk w20.heap.size))), (.int .i64 (0 : Int))]) w26))
 ((0 : Int), ()) w25))
 ((0 : Int), ()) w3))
theorem nest_of_calls (p0 : Option Addr) (p1 : Sl) (R : Value → World → Prop) (w : World) (h : L_nest_of p0 p1 R w) : Calls Tryz.prog 107 #[(.pointer p0), (.slice p1.a p1.l p1.c)] w (Ret R) :=
 lw_calls (fs := Tryz.fs) (an := a_nest_of) (args := [(.pointer p0), (.slice p1.a p1.l p1.c)]) Tryz.fsOK Tryz.mixed Tryz.func107 (by kernel_rfl) (by kernel_rfl)
 (Eq.mpr (by kernel_rfl : lwFn Tryz.prog Tryz.fs Tryz.f107 a_nest_of [(.pointer p0), (.slice p1.a p1.l p1.c)] w R = L_nest_of p0 p1 R w) h)

/-- intaglio.nest.isNode -/
def a_nest_isNode : Ann := (.seq none .nil (.seq none .nil .nil))
def L_nest_isNode (p0 : Option Addr) (p1 : Int) (R : Value → World → Prop) (w : World) : Prop :=
 ifB (decide (p1 ≥ (0 : Int)))
 (callR Tryz.prog 38 #[(.pointer p0)] w fun v1 w1 =>
 ∃ x2 : Int, v1 = (.int .i64 x2) ∧
 R (.bool (decide (p1 < x2))) w1)
 (R (.bool false) w)
theorem nest_isNode_calls (p0 : Option Addr) (p1 : Int) (R : Value → World → Prop) (w : World) (h : L_nest_isNode p0 p1 R w) : Calls Tryz.prog 108 #[(.pointer p0), (.int .i64 p1)] w (Ret R) :=
 lw_calls (fs := Tryz.fs) (an := a_nest_isNode) (args := [(.pointer p0), (.int .i64 p1)]) Tryz.fsOK Tryz.mixed Tryz.func108 (by kernel_rfl) (by kernel_rfl)
 (Eq.mpr (by kernel_rfl : lwFn Tryz.prog Tryz.fs Tryz.f108 a_nest_isNode [(.pointer p0), (.int .i64 p1)] w R = L_nest_isNode p0 p1 R w) h)

/-- (*intaglio.nest.nested).has -/
def a_nest_nested_has : Ann := (.seq none .nil (.seq none .nil .nil))
def L_nest_nested_has (p0 : Option Addr) (p1 : Int) (p2 : Int) (R : Value → World → Prop) (w : World) : Prop :=
 derefP p0 fun a1 =>
 ldS w (a1.add 4) fun x2 =>
 (0 ≤ p2 ∧ p2 < (x2.l : Int)) ∧
 derefP x2.a fun a3 =>
 ldS w (a3.add (Int.toNat p2)) fun x4 =>
 callR Tryz.prog 116 #[(.slice x4.a x4.l x4.c), (.int .i64 p1)] w fun v5 w1 =>
 ∃ x6 : Bool, v5 = (.bool x6) ∧
 R (.bool x6) w1
theorem nest_nested_has_calls (p0 : Option Addr) (p1 : Int) (p2 : Int) (R : Value → World → Prop) (w : World) (h : L_nest_nested_has p0 p1 p2 R w) : Calls Tryz.prog 109 #[(.pointer p0), (.int .i64 p1), (.int .i64 p2)] w (Ret R) :=
 lw_calls (fs := Tryz.fs) (an := a_nest_nested_has) (args := [(.pointer p0), (.int .i64 p1), (.int .i64 p2)]) Tryz.fsOK Tryz.mixed Tryz.func109 (by kernel_rfl) (by kernel_rfl)
 (Eq.mpr (by kernel_rfl : lwFn Tryz.prog Tryz.fs Tryz.f109 a_nest_nested_has [(.pointer p0), (.int .i64 p1), (.int .i64 p2)] w R = L_nest_nested_has p0 p1 p2 R w) h)

/-- (*intaglio.nest.nested).flaws -/
def a_nest_nested_flaws : Ann := (.seq none .nil (.seq none .nil (.seq none .nil (.seq none (.seq none .nil (.one (.loop ⟨[0, 3, 25], [(4, (.b .slice)), (26, (.b (.int .i64)))]⟩ (.seq none .nil (.seq none (.cond .nil .nil) (.seq none (.one (.seq none .nil (.seq none .nil (.one (.loop ⟨[0, 3, 5, 25, 26, 29], [(4, (.b .slice)), (30, (.b (.int .i64)))]⟩ (.seq none .nil (.seq none (.cond .nil .nil) (.seq (some ⟨[0, 3, 5, 25, 26, 29, 30], [(4, (.b .slice))]⟩) (.one (.seq (some ⟨[0, 3, 4, 5, 25, 26, 29, 30], [(7, (.b .ptr))]⟩) .nil (.seq none .nil (.cond .nil .nil)))) .nil)))))))) .nil)))))) (.seq none .nil .nil)))))
def L_nest_nested_flaws (p0 : Option Addr) (R : Value → World → Prop) (w : World) : Prop :=
 Nw (w.alloc (.cells #[.nilFunc, (.int .i64 (0 : Int)), .nilFunc, (.int .i64 (0 : Int)), .nilFunc, (.int .i64 (0 : Int)), .nilFunc, (.int .i64 (0 : Int))] 237)) fun w1 =>
 Wr w1 (blk w.heap.size) ∧
 Nw (w1.setCell (blk w.heap.size) (.func (.func 176) #[(.pointer p0)] #[])) fun w2 =>
 Wr w2 ((blk w.heap.size).add 1) ∧
 Nw (w2.setCell ((blk w.heap.size).add 1) (.int .i64 (163 : Int))) fun w3 =>
 Wr w3 ((blk w.heap.size).add 2) ∧
 Nw (w3.setCell ((blk w.heap.size).add 2) (.func (.func 177) #[(.pointer p0)] #[])) fun w4 =>
 Wr w4 ((blk w.heap.size).add 3) ∧
 Nw (w4.setCell ((blk w.heap.size).add 3) (.int .i64 (160 : Int))) fun w5 =>
 Wr w5 ((blk w.heap.size).add 4) ∧
 Nw (w5.setCell ((blk w.heap.size).add 4) (.func (.func 178) #[(.pointer p0)] #[])) fun w6 =>
 Wr w6 ((blk w.heap.size).add 5) ∧
 Nw (w6.setCell ((blk w.heap.size).add 5) (.int .i64 (162 : Int))) fun w7 =>
 Wr w7 ((blk w.heap.size).add 6) ∧
 Nw (w7.setCell ((blk w.heap.size).add 6) (.func (.func 179) #[(.pointer p0)] #[])) fun w8 =>
 Wr w8 ((blk w.heap.size).add 7) ∧
 Nw (w8.setCell ((blk w.heap.size).add 7) (.int .i64 (161 : Int))) fun w9 =>
 derefP p0 fun a1 =>
 ldS w9 (a1.add 1) fun x2 =>
 LoopW (S := Sl × Int × Unit) (fun s3 w10 n4 =>
 ifB (decide (s3.2.1 < (x2.l : Int)))
 (ldR w10 ((blk w.heap.size).add 0) fun x5 =>
 ldI w10 ((blk w.heap.size).add 1) .i64 fun x6 =>
 ldR w10 ((blk w.heap.size).add 2) fun x7 =>
 ldI w10 ((blk w.heap.size).add 3) .i64 fun x8 =>
 ldR w10 ((blk w.heap.size).add 4) fun x9 =>
 ldI w10 ((blk w.heap.size).add 5) .i64 fun x10 =>
 ldR w10 ((blk w.heap.size).add 6) fun x11 =>
 ldI w10 ((blk w.heap.size).add 7) .i64 fun x12 =>
 LoopW (S := Sl × Int × Unit) (fun s13 w11 n14 =>
 ifB (decide (s13.2.1 < (4 : Int)))
 (JoinW (S := Sl × Unit) (fun m15 =>
 JoinW (S := (Option Addr) × Unit) (fun m17 =>
 (0 ≤ s13.2.1 ∧ s13.2.1 < (4 : Int)) ∧
 (s13.2.1 = (0 : Int) →
 Nw (w11.alloc (.cells #[.nilFunc, (.int .i64 (0 : Int))] 236)) fun w12 =>
 oneV x5 (Wr w12 (blk w11.heap.size) ∧
 Nw (w12.setCell (blk w11.heap.size) x5) fun w13 =>
 Wr w13 ((blk w11.heap.size).add 1) ∧
 Nw (w13.setCell ((blk w11.heap.size).add 1) (.int .i64 x6)) fun w14 =>
 m17 ((some (blk w11.heap.size)), ()) w14)) ∧
 (s13.2.1 = (1 : Int) →
 Nw (w11.alloc (.cells #[.nilFunc, (.int .i64 (0 : Int))] 236)) fun w15 =>
 oneV x7 (Wr w15 (blk w11.heap.size) ∧
 Nw (w15.setCell (blk w11.heap.size) x7) fun w16 =>
 Wr w16 ((blk w11.heap.size).add 1) ∧
 Nw (w16.setCell ((blk w11.heap.size).add 1) (.int .i64 x8)) fun w17 =>
 m17 ((some (blk w11.heap.size)), ()) w17)) ∧
 (s13.2.1 = (2 : Int) →
 Nw (w11.alloc (.cells #[.nilFunc, (.int .i64 (0 : Int))] 236)) fun w18 =>
 oneV x9 (Wr w18 (blk w11.heap.size) ∧
 Nw (w18.setCell (blk w11.heap.size) x9) fun w19 =>
 Wr w19 ((blk w11.heap.size).add 1) ∧
 Nw (w19.setCell ((blk w11.heap.size).add 1) (.int .i64 x10)) fun w20 =>
 m17 ((some (blk w11.heap.size)), ()) w20)) ∧
 (s13.2.1 = (3 : Int) →
 Nw (w11.alloc (.cells #[.nilFunc, (.int .i64 (0 : Int))] 236)) fun w21 =>
 oneV x11 (Wr w21 (blk w11.heap.size) ∧
 Nw (w21.setCell (blk w11.heap.size) x11) fun w22 =>
 Wr w22 ((blk w11.heap.size).add 1) ∧
 Nw (w22.setCell ((blk w11.heap.size).add 1) (.int .i64 x12)) fun w23 =>
 m17 ((some (blk w11.heap.size)), ()) w23)))
 (fun s18 w24 =>
 derefP p0 fun a19 =>
 ldP w24 (a19.add 2) fun x20 =>
 callR Tryz.prog 41 #[(.pointer x20), (.int .i64 s3.2.1)] w24 fun v21 w25 =>
 ∃ x22 : Bool, v21 = (.bool x22) ∧
 ifB x22
 (derefP s18.1 fun a23 =>
 ldR w25 a23 fun x24 =>
 callV Tryz.prog Tryz.fs x24 [(.int .i64 s3.2.1)] w25 fun v25 w26 =>
 ∃ x26 : Bool, v25 = (.bool x26) ∧
 ifB x26
 (derefP s18.1 fun a27 =>
 ldI w26 (a27.add 1) .i64 fun x28 =>
 Nw (w26.alloc (.cells #[(.int .i64 s3.2.1), (.int .i64 x28)] 156)) fun w27 =>
 appendS Tryz.prog 152 (.slice s13.1.a s13.1.l s13.1.c) (.slice (some (blk w26.heap.size)) 1 1) w27 fun r29 w28 =>
 m15 (r29, ()) w28)
 (m15 (s13.1, ()) w26))
 (m15 (s13.1, ()) w25)))
 (fun s16 w29 =>
 n14 (s16.1, (IntKind.i64.wrap (s13.2.1 + (1 : Int))), ()) w29))
 (n4 (s13.1, (IntKind.i64.wrap (s3.2.1 + (1 : Int))), ()) w11))
 (s3.1, (0 : Int), ()) w10)
 (R (.slice s3.1.a s3.1.l s3.1.c) w10))
 ((Sl.mk none 0 0), (0 : Int), ()) w9
theorem nest_nested_flaws_calls (p0 : Option Addr) (R : Value → World → Prop) (w : World) (h : L_nest_nested_flaws p0 R w) : Calls Tryz.prog 141 #[(.pointer p0)] w (Ret R) :=
 lw_calls (fs := Tryz.fs) (an := a_nest_nested_flaws) (args := [(.pointer p0)]) Tryz.fsOK Tryz.mixed Tryz.func141 (by kernel_rfl) (by kernel_rfl)
 (Eq.mpr (by kernel_rfl : lwFn Tryz.prog Tryz.fs Tryz.f141 a_nest_nested_flaws [(.pointer p0)] w R = L_nest_nested_flaws p0 R w) h)

/-- intaglio.nest.fit -/
def a_nest_fit : Ann := (.seq none .nil (.seq none .nil .nil))
def L_nest_fit (p0 : Option Addr) (p1 : Sl) (R : Value → World → Prop) (w : World) : Prop :=
 Nw (w.alloc (.cells #[(.pointer p0)] 75)) fun w1 =>
 ldP w1 (blk w.heap.size) fun x1 =>
 callR Tryz.prog 38 #[(.pointer x1)] w1 fun v2 w2 =>
 ∃ x3 : Int, v2 = (.int .i64 x3) ∧
 ifB ((p1.l : Int) == x3)
 (callR Tryz.prog 186 #[(.slice p1.a p1.l p1.c), (.func (.func 187) #[] #[(.pointer (some (blk w.heap.size)))])] w2 fun v4 w3 =>
 ∃ x5 : Bool, v4 = (.bool x5) ∧
 R (.bool (!x5)) w3)
 (R (.bool false) w2)
theorem nest_fit_calls (p0 : Option Addr) (p1 : Sl) (R : Value → World → Prop) (w : World) (h : L_nest_fit p0 p1 R w) : Calls Tryz.prog 147 #[(.pointer p0), (.slice p1.a p1.l p1.c)] w (Ret R) :=
 lw_calls (fs := Tryz.fs) (an := a_nest_fit) (args := [(.pointer p0), (.slice p1.a p1.l p1.c)]) Tryz.fsOK Tryz.mixed Tryz.func147 (by kernel_rfl) (by kernel_rfl)
 (Eq.mpr (by kernel_rfl : lwFn Tryz.prog Tryz.fs Tryz.f147 a_nest_fit [(.pointer p0), (.slice p1.a p1.l p1.c)] w R = L_nest_fit p0 p1 R w) h)

/-- slices.Clone[[]intaglio.api.Merge,intaglio.api.Merge] -/
def a_slices_Clone_sapi_Merge_api_Merge : Ann := (.seq none .nil (.seq none (.seq none .nil (.cond (.seq none .nil .nil) .nil)) (.seq none .nil .nil)))
def L_slices_Clone_sapi_Merge_api_Merge (p0 : Sl) (R : Value → World → Prop) (w : World) : Prop :=
 ifB (Option.isNone p0.a)
 (R (.slice none 0 0) w)
 (Nw (w.alloc (.cells #[] 121)) fun w1 =>
 appendS Tryz.prog 72 (.slice (some (blk w.heap.size)) 0 0) (.slice p0.a p0.l p0.c) w1 fun r1 w2 =>
 R (.slice r1.a r1.l r1.c) w2)
theorem slices_Clone_sapi_Merge_api_Merge_calls (p0 : Sl) (R : Value → World → Prop) (w : World) (h : L_slices_Clone_sapi_Merge_api_Merge p0 R w) : Calls Tryz.prog 148 #[(.slice p0.a p0.l p0.c)] w (Ret R) :=
 lw_calls (fs := Tryz.fs) (an := a_slices_Clone_sapi_Merge_api_Merge) (args := [(.slice p0.a p0.l p0.c)]) Tryz.fsOK Tryz.mixed Tryz.func148 (by kernel_rfl) (by kernel_rfl)
 (Eq.mpr (by kernel_rfl : lwFn Tryz.prog Tryz.fs Tryz.f148 a_slices_Clone_sapi_Merge_api_Merge [(.slice p0.a p0.l p0.c)] w R = L_slices_Clone_sapi_Merge_api_Merge p0 R w) h)

/-- (*intaglio.nest.nested).around -/
def a_nest_nested_around : Ann := (.seq none .nil (.seq none (.seq none .nil (.cond (.seq none .nil .nil) .nil)) (.seq none .nil (.seq none (.seq none .nil (.one (.loop ⟨[], [(20, (.b (.int .i64)))]⟩ (.seq none .nil (.one (.seq none .nil (.cond .nil .nil))))))) (.seq none .nil (.seq none .nil .nil))))))
def L_nest_nested_around (p0 : Option Addr) (p1 : Int) (R : Value → World → Prop) (w : World) : Prop :=
 Nw (w.alloc (.cells #[(.pointer p0)] 159)) fun w1 =>
 Nw (w1.alloc (.cells #[(.int .i64 p1)] 3)) fun w2 =>
 ldP w2.drew (blk w.heap.size) fun x1 =>
 derefP x1 fun a2 =>
 ldP w2.drew (a2.add 2) fun x3 =>
 ldI w2.drew (blk w1.heap.size) .i64 fun x4 =>
 callR Tryz.prog 41 #[(.pointer x3), (.int .i64 x4)] w2.drew fun v5 w3 =>
 ∃ x6 : Bool, v5 = (.bool x6) ∧
 ifB (!x6)
 (R (.slice none 0 0) w3)
 (Nw (w3.alloc (.cells #[(.slice none 0 0)] 26)) fun w4 =>
 ldP w4.drew (blk w.heap.size) fun x7 =>
 derefP x7 fun a8 =>
 ldP w4.drew (a8.add 3) fun x9 =>
 ldI w4.drew (blk w1.heap.size) .i64 fun x10 =>
 callR Tryz.prog 189 #[(.pointer x9), (.int .i64 x10)] w4.drew fun v11 w5 =>
 ∃ x12 : Value, v11 = x12 ∧
 RangeW Tryz.prog Tryz.fs x12 w5 (T := Int × Unit) (fun s13 => [(.int .i64 s13.1)])
 (fun mk14 l15 s13 w6 S16 =>
 w6.heap[l15]? = some (mk14 .ready none) ∧
 Nw (w6.putObj l15 (mk14 .busy none)) fun w7 =>
 ldP w7.drew (blk w.heap.size) fun x18 =>
 derefP x18 fun a19 =>
 ldS w7.drew (a19.add 1) fun x20 =>
 (0 ≤ s13.1 ∧ s13.1 < (x20.l : Int)) ∧
 derefP x20.a fun a21 =>
 ldI w7.drew (a21.add ((Int.toNat s13.1) * 3)) .u8 fun x22 =>
 ifB (x22 != (0 : Int))
 (ldP w7.drew (blk w.heap.size) fun x23 =>
 ldP w7.drew (blk w.heap.size) fun x24 =>
 derefP x24 fun a25 =>
 ldS w7.drew (a25.add 1) fun x26 =>
 (0 ≤ s13.1 ∧ s13.1 < (x26.l : Int)) ∧
 derefP x26.a fun a27 =>
 ldI w7.drew ((a27.add ((Int.toNat s13.1) * 3)).add 1) .i64 fun x28 =>
 ldI w7.drew (blk w1.heap.size) .i64 fun x29 =>
 callR Tryz.prog 190 #[(.pointer x23), (.int .i64 x28), (.int .i64 x29)] w7.drew fun v30 w8 =>
 ∃ x31 : Bool, v30 = (.bool x31) ∧
 ifB (!x31)
 (ldS w8 (blk w3.heap.size) fun x32 =>
 Nw (w8.alloc (.cells #[(.int .i64 s13.1)] 3)) fun w9 =>
 appendS Tryz.prog 26 (.slice x32.a x32.l x32.c) (.slice (some (blk w8.heap.size)) 1 1) w9 fun r33 w10 =>
 Wr w10 (blk w3.heap.size) ∧
 Nw (w10.setCell (blk w3.heap.size) (.slice r33.a r33.l r33.c)) fun w11 =>
 w11.heap[l15]? = some (mk14 .busy none) ∧
 S16 (.bool true) (w11.putObj l15 (mk14 .ready none)))
 (w8.heap[l15]? = some (mk14 .busy none) ∧
 S16 (.bool true) (w8.putObj l15 (mk14 .ready none))))
 (w7.drew.heap[l15]? = some (mk14 .busy none) ∧
 S16 (.bool true) (w7.drew.putObj l15 (mk14 .ready none))))
 (fun mk14 l15 d17 w12 =>
 rangeOut mk14 l15 .ready none w12 fun w13 =>
 ldS w13 (blk w3.heap.size) fun x34 =>
 callR Tryz.prog 138 #[(.slice x34.a x34.l x34.c)] w13 fun v35 w14 =>
 v35 = (.tuple #[]) ∧
 ldS w14 (blk w3.heap.size) fun x36 =>
 closeM (d17 :: []) w14 fun w15 =>
 R (.slice x36.a x36.l x36.c) w15))
theorem nest_nested_around_calls (p0 : Option Addr) (p1 : Int) (R : Value → World → Prop) (w : World) (h : L_nest_nested_around p0 p1 R w) : Calls Tryz.prog 150 #[(.pointer p0), (.int .i64 p1)] w (Ret R) :=
 lwR_calls (fs := Tryz.fs) (an := a_nest_nested_around) (args := [(.pointer p0), (.int .i64 p1)]) Tryz.fsOK Tryz.mixed Tryz.func150 (by kernel_rfl) (by kernel_rfl)
 (Eq.mpr (by kernel_rfl : lwRFn Tryz.prog Tryz.fs Tryz.f150 a_nest_nested_around [(.pointer p0), (.int .i64 p1)] w R = L_nest_nested_around p0 p1 R w) h)

/-- (*intaglio.nest.nested).bare -/
def a_nest_nested_bare : Ann := (.seq none .nil (.seq none .nil .nil))
def L_nest_nested_bare (p0 : Option Addr) (p1 : Int) (R : Value → World → Prop) (w : World) : Prop :=
 derefP p0 fun a1 =>
 ldS w (a1.add 1) fun x2 =>
 (0 ≤ p1 ∧ p1 < (x2.l : Int)) ∧
 derefP x2.a fun a3 =>
 ldI w (a3.add ((Int.toNat p1) * 3)) .u8 fun x4 =>
 ifB (x4 == (0 : Int))
 (derefP p0 fun a5 =>
 ldP w a5 fun x6 =>
 callR Tryz.prog 39 #[(.pointer x6), (.int .i64 p1)] w fun v7 w1 =>
 ∃ x8 : Sl, v7 = (.slice x8.a x8.l x8.c) ∧
 R (.bool (decide ((x8.l : Int) ≥ (2 : Int)))) w1)
 (R (.bool false) w)
theorem nest_nested_bare_calls (p0 : Option Addr) (p1 : Int) (R : Value → World → Prop) (w : World) (h : L_nest_nested_bare p0 p1 R w) : Calls Tryz.prog 176 #[(.pointer p0), (.int .i64 p1)] w (Ret R) :=
 lw_calls (fs := Tryz.fs) (an := a_nest_nested_bare) (args := [(.pointer p0), (.int .i64 p1)]) Tryz.fsOK Tryz.mixed Tryz.func176 (by kernel_rfl) (by kernel_rfl)
 (Eq.mpr (by kernel_rfl : lwFn Tryz.prog Tryz.fs Tryz.f176 a_nest_nested_bare [(.pointer p0), (.int .i64 p1)] w R = L_nest_nested_bare p0 p1 R w) h)

/-- (*intaglio.nest.nested).merge -/
def a_nest_nested_merge : Ann := (.seq none .nil (.seq none .nil (.seq none (.seq none .nil (.cond (.seq none .nil .nil) .nil)) (.seq none .nil (.seq (some ⟨[0, 1, 5, 6], []⟩) (.seq none .nil (.cond (.seq none .nil .nil) .nil)) (.seq none (.seq none .nil (.one (.loop ⟨[0, 1, 5, 6, 55, 56], [(57, (.b (.int .i64)))]⟩ (.seq none .nil (.seq none (.cond .nil .nil) (.seq (some ⟨[0, 1, 5, 6, 55, 56, 57], []⟩) (.one (.seq none .nil (.seq (some ⟨[0, 1, 5, 6, 8, 55, 56, 57], []⟩) (.seq none .nil (.cond .nil .nil)) (.seq none .nil (.cond (.seq none .nil .nil) .nil))))) .nil)))))) (.seq none .nil .nil)))))))
def L_nest_nested_merge (p0 : Option Addr) (p1 : Int) (R : Value → World → Prop) (w : World) : Prop :=
 derefP p0 fun a1 =>
 ldS w (a1.add 1) fun x2 =>
 (0 ≤ p1 ∧ p1 < (x2.l : Int)) ∧
 derefP x2.a fun a3 =>
 ldI w ((a3.add ((Int.toNat p1) * 3)).add 0) .u8 fun x4 =>
 ldI w ((a3.add ((Int.toNat p1) * 3)).add 1) .i64 fun x5 =>
 ldI w ((a3.add ((Int.toNat p1) * 3)).add 2) .i64 fun x6 =>
 Nw (w.alloc (.cells #[(.int .u8 (0 : Int)), (.int .i64 (0 : Int)), (.int .i64 (0 : Int))] 121)) fun w1 =>
 Wr w1 (blk w.heap.size) ∧
 Nw (w1.setCell (blk w.heap.size) (.int .u8 x4)) fun w2 =>
 Wr w2 ((blk w.heap.size).add 1) ∧
 Nw (w2.setCell ((blk w.heap.size).add 1) (.int .i64 x5)) fun w3 =>
 Wr w3 ((blk w.heap.size).add 2) ∧
 Nw (w3.setCell ((blk w.heap.size).add 2) (.int .i64 x6)) fun w4 =>
 ldI w4 (blk w.heap.size) .u8 fun x7 =>
 ifB (x7 == (0 : Int))
 (R (.bool false) w4)
 (ldI w4 (blk w.heap.size) .u8 fun x8 =>
 JoinW (S := Unit) (fun m9 =>
 ldI w4 ((blk w.heap.size).add 1) .i64 fun x11 =>
 ifB (x11 == p1)
 (R (.bool true) w4)
 (ldI w4 ((blk w.heap.size).add 1) .i64 fun x12 =>
 callR Tryz.prog 190 #[(.pointer p0), (.int .i64 p1), (.int .i64 x12)] w4 fun v13 w5 =>
 ∃ x14 : Bool, v13 = (.bool x14) ∧
 ifB (!x14)
 (R (.bool true) w5)
 (ifB (x8 == (2 : Int))
 (ldI w5 ((blk w.heap.size).add 2) .i64 fun x15 =>
 ldI w5 ((blk w.heap.size).add 1) .i64 fun x16 =>
 ifB (x15 == x16)
 (R (.bool true) w5)
 (ldI w5 ((blk w.heap.size).add 2) .i64 fun x17 =>
 callR Tryz.prog 190 #[(.pointer p0), (.int .i64 p1), (.int .i64 x17)] w5 fun v18 w6 =>
 ∃ x19 : Bool, v18 = (.bool x19) ∧
 ifB (!x19)
 (R (.bool true) w6)
 (m9 (()) w6)))
 (m9 (()) w5))))
 (fun s10 w7 =>
 derefP p0 fun a20 =>
 ldS w7 (a20.add 1) fun x21 =>
 LoopW (S := Int × Unit) (fun s22 w8 n23 =>
 ifB (decide (s22.1 < (x21.l : Int)))
 (JoinW (S := Unit) (fun m24 =>
 (0 ≤ s22.1 ∧ s22.1 < (x21.l : Int)) ∧
 derefP x21.a fun a26 =>
 ldI w8 ((a26.add ((Int.toNat s22.1) * 3)).add 0) .u8 fun x27 =>
 ldI w8 ((a26.add ((Int.toNat s22.1) * 3)).add 1) .i64 fun x28 =>
 ldI w8 ((a26.add ((Int.toNat s22.1) * 3)).add 2) .i64 fun x29 =>
 Nw (w8.alloc (.cells #[(.int .u8 (0 : Int)), (.int .i64 (0 : Int)), (.int .i64 (0 : Int))] 121)) fun w9 =>
 Wr w9 (blk w8.heap.size) ∧
 Nw (w9.setCell (blk w8.heap.size) (.int .u8 x27)) fun w10 =>
 Wr w10 ((blk w8.heap.size).add 1) ∧
 Nw (w10.setCell ((blk w8.heap.size).add 1) (.int .i64 x28)) fun w11 =>
 Wr w11 ((blk w8.heap.size).add 2) ∧
 Nw (w11.setCell ((blk w8.heap.size).add 2) (.int .i64 x29)) fun w12 =>
 JoinW (S := Unit) (fun m30 =>
 ifB (s22.1 == p1)
 (m24 (()) w12)
 (ldI w12 (blk w8.heap.size) .u8 fun x32 =>
 ifB (x32 == (0 : Int))
 (m24 (()) w12)
 (derefP p0 fun a33 =>
 ldP w12 (a33.add 2) fun x34 =>
 callR Tryz.prog 41 #[(.pointer x34), (.int .i64 s22.1)] w12 fun v35 w13 =>
 ∃ x36 : Bool, v35 = (.bool x36) ∧
 ifB (!x36)
 (m24 (()) w13)
 (m30 (()) w13))))
 (fun s31 w14 =>
 ldI w14 ((blk w8.heap.size).add 1) .i64 fun x37 =>
 ldI w14 ((blk w.heap.size).add 1) .i64 fun x38 =>
 ifB (x37 == x38)
 (R (.bool true) w14)
 (ifB (x8 == (2 : Int))
 (ldI w14 (blk w8.heap.size) .u8 fun x39 =>
 ifB (x39 == (2 : Int))
 (ldI w14 ((blk w8.heap.size).add 2) .i64 fun x40 =>
 ldI w14 ((blk w.heap.size).add 2) .i64 fun x41 =>
 ifB (x40 == x41)
 (R (.bool true) w14)
 (m24 (()) w14))
 (m24 (()) w14))
 (m24 (()) w14))))
 (fun s25 w15 =>
 n23 ((IntKind.i64.wrap (s22.1 + (1 : Int))), ()) w15))
 (R (.bool false) w8))
 ((0 : Int), ()) w7))
theorem nest_nested_merge_calls (p0 : Option Addr) (p1 : Int) (R : Value → World → Prop) (w : World) (h : L_nest_nested_merge p0 p1 R w) : Calls Tryz.prog 177 #[(.pointer p0), (.int .i64 p1)] w (Ret R) :=
 lw_calls (fs := Tryz.fs) (an := a_nest_nested_merge) (args := [(.pointer p0), (.int .i64 p1)]) Tryz.fsOK Tryz.mixed Tryz.func177 (by kernel_rfl) (by kernel_rfl)
 (Eq.mpr (by kernel_rfl : lwFn Tryz.prog Tryz.fs Tryz.f177 a_nest_nested_merge [(.pointer p0), (.int .i64 p1)] w R = L_nest_nested_merge p0 p1 R w) h)

/-- (*intaglio.nest.nested).back -/
def a_nest_nested_back : Ann := (.seq none .nil (.seq none (.seq none .nil (.one (.loop ⟨[0, 1, 16, 17], [(18, (.b (.int .i64)))]⟩ (.seq none .nil (.seq none (.cond .nil .nil) (.seq (some ⟨[0, 1, 16, 17, 18], []⟩) (.one (.seq none .nil (.seq none .nil (.one (.seq none .nil (.cond (.seq none .nil (.cond (.seq none .nil .nil) .nil)) (.seq none .nil (.cond (.seq none .nil .nil) .nil)))))))) .nil)))))) (.seq none .nil (.seq none (.seq none .nil (.one (.loop ⟨[0, 1, 56, 57], [(8, (.b (.int .i64))), (58, (.b (.int .i64)))]⟩ (.seq none .nil (.seq none (.cond .nil .nil) (.seq (some ⟨[0, 1, 56, 57, 58], [(8, (.b (.int .i64)))]⟩) (.one (.seq none .nil (.seq none .nil (.cond .nil .nil)))) .nil)))))) (.seq none .nil .nil)))))
def L_nest_nested_back (p0 : Option Addr) (p1 : Int) (R : Value → World → Prop) (w : World) : Prop :=
 derefP p0 fun a1 =>
 ldP w a1 fun x2 =>
 callR Tryz.prog 39 #[(.pointer x2), (.int .i64 p1)] w fun v3 w1 =>
 ∃ x4 : Sl, v3 = (.slice x4.a x4.l x4.c) ∧
 LoopW (S := Int × Unit) (fun s5 w2 n6 =>
 ifB (decide (s5.1 < (x4.l : Int)))
 (JoinW (S := Unit) (fun m7 =>
 (0 ≤ s5.1 ∧ s5.1 < (x4.l : Int)) ∧
 derefP x4.a fun a9 =>
 ldI w2 (a9.add (Int.toNat s5.1)) .i64 fun x10 =>
 derefP p0 fun a11 =>
 ldS w2 (a11.add 1) fun x12 =>
 (0 ≤ x10 ∧ x10 < (x12.l : Int)) ∧
 derefP x12.a fun a13 =>
 ldI w2 ((a13.add ((Int.toNat x10) * 3)).add 0) .u8 fun x14 =>
 ldI w2 ((a13.add ((Int.toNat x10) * 3)).add 1) .i64 fun x15 =>
 ldI w2 ((a13.add ((Int.toNat x10) * 3)).add 2) .i64 fun x16 =>
 Nw (w2.alloc (.cells #[(.int .u8 (0 : Int)), (.int .i64 (0 : Int)), (.int .i64 (0 : Int))] 121)) fun w3 =>
 Wr w3 (blk w2.heap.size) ∧
 Nw (w3.setCell (blk w2.heap.size) (.int .u8 x14)) fun w4 =>
 Wr w4 ((blk w2.heap.size).add 1) ∧
 Nw (w4.setCell ((blk w2.heap.size).add 1) (.int .i64 x15)) fun w5 =>
 Wr w5 ((blk w2.heap.size).add 2) ∧
 Nw (w5.setCell ((blk w2.heap.size).add 2) (.int .i64 x16)) fun w6 =>
 callR Tryz.prog 190 #[(.pointer p0), (.int .i64 x10), (.int .i64 p1)] w6 fun v17 w7 =>
 ∃ x18 : Bool, v17 = (.bool x18) ∧
 ifB x18
 (ldI w7 (blk w2.heap.size) .u8 fun x19 =>
 ifB (x19 != (2 : Int))
 (R (.bool true) w7)
 (ldI w7 ((blk w2.heap.size).add 2) .i64 fun x20 =>
 callR Tryz.prog 190 #[(.pointer p0), (.int .i64 x20), (.int .i64 p1)] w7 fun v21 w8 =>
 ∃ x22 : Bool, v21 = (.bool x22) ∧
 ifB (!x22)
 (R (.bool true) w8)
 (m7 (()) w8)))
 (callR Tryz.prog 229 #[(.pointer p0), (.int .i64 x10), (.int .i64 p1)] w7 fun v23 w9 =>
 ∃ x24 : Bool, v23 = (.bool x24) ∧
 ifB x24
 (R (.bool true) w9)
 (m7 (()) w9)))
 (fun s8 w10 =>
 n6 ((IntKind.i64.wrap (s5.1 + (1 : Int))), ()) w10))
 (derefP p0 fun a25 =>
 ldP w2 a25 fun x26 =>
 callR Tryz.prog 40 #[(.pointer x26), (.int .i64 p1)] w2 fun v27 w11 =>
 ∃ x28 : Sl, v27 = (.slice x28.a x28.l x28.c) ∧
 LoopW (S := Int × Int × Unit) (fun s29 w12 n30 =>
 ifB (decide (s29.2.1 < (x28.l : Int)))
 (JoinW (S := Int × Unit) (fun m31 =>
 (0 ≤ s29.2.1 ∧ s29.2.1 < (x28.l : Int)) ∧
 derefP x28.a fun a33 =>
 ldI w12 (a33.add (Int.toNat s29.2.1)) .i64 fun x34 =>
 callR Tryz.prog 190 #[(.pointer p0), (.int .i64 p1), (.int .i64 x34)] w12 fun v35 w13 =>
 ∃ x36 : Bool, v35 = (.bool x36) ∧
 ifB x36
 (m31 ((IntKind.i64.wrap (s29.1 + (1 : Int))), ()) w13)
 (m31 (s29.1, ()) w13))
 (fun s32 w14 =>
 n30 (s32.1, (IntKind.i64.wrap (s29.2.1 + (1 : Int))), ()) w14))
 (R (.bool (decide (s29.1 ≥ (2 : Int)))) w12))
 ((0 : Int), (0 : Int), ()) w11))
 ((0 : Int), ()) w1
theorem nest_nested_back_calls (p0 : Option Addr) (p1 : Int) (R : Value → World → Prop) (w : World) (h : L_nest_nested_back p0 p1 R w) : Calls Tryz.prog 178 #[(.pointer p0), (.int .i64 p1)] w (Ret R) :=
 lw_calls (fs := Tryz.fs) (an := a_nest_nested_back) (args := [(.pointer p0), (.int .i64 p1)]) Tryz.fsOK Tryz.mixed Tryz.func178 (by kernel_rfl) (by kernel_rfl)
 (Eq.mpr (by kernel_rfl : lwFn Tryz.prog Tryz.fs Tryz.f178 a_nest_nested_back [(.pointer p0), (.int .i64 p1)] w R = L_nest_nested_back p0 p1 R w) h)

/-- (*intaglio.nest.nested).exit -/
def a_nest_nested_exit : Ann := (.seq none .nil (.one (.seq none .nil (.seq none (.seq none .nil (.one (.loop ⟨[0, 1, 12, 13], [(14, (.b (.int .i64)))]⟩ (.seq none .nil (.seq none (.cond .nil .nil) (.seq none (.one (.seq none .nil (.seq none (.seq none .nil (.cond .nil .nil)) (.seq none .nil .nil)))) .nil)))))) (.seq none .nil .nil)))))
def L_nest_nested_exit (p0 : Option Addr) (p1 : Int) (R : Value → World → Prop) (w : World) : Prop :=
 derefP p0 fun a1 =>
 ldP w a1 fun x2 =>
 callR Tryz.prog 39 #[(.pointer x2), (.int .i64 p1)] w fun v3 w1 =>
 ∃ x4 : Sl, v3 = (.slice x4.a x4.l x4.c) ∧
 LoopW (S := Int × Unit) (fun s5 w2 n6 =>
 ifB (decide (s5.1 < (x4.l : Int)))
 ((0 ≤ s5.1 ∧ s5.1 < (x4.l : Int)) ∧
 derefP x4.a fun a7 =>
 ldI w2 (a7.add (Int.toNat s5.1)) .i64 fun x8 =>
 callR Tryz.prog 230 #[(.pointer p0), (.int .i64 p1), (.int .i64 x8)] w2 fun v9 w3 =>
 ∃ x10 : Bool, v9 = (.bool x10) ∧
 ifB x10
 (n6 ((IntKind.i64.wrap (s5.1 + (1 : Int))), ()) w3)
 (R (.bool true) w3))
 (R (.bool false) w2))
 ((0 : Int), ()) w1
theorem nest_nested_exit_calls (p0 : Option Addr) (p1 : Int) (R : Value → World → Prop) (w : World) (h : L_nest_nested_exit p0 p1 R w) : Calls Tryz.prog 179 #[(.pointer p0), (.int .i64 p1)] w (Ret R) :=
 lw_calls (fs := Tryz.fs) (an := a_nest_nested_exit) (args := [(.pointer p0), (.int .i64 p1)]) Tryz.fsOK Tryz.mixed Tryz.func179 (by kernel_rfl) (by kernel_rfl)
 (Eq.mpr (by kernel_rfl : lwFn Tryz.prog Tryz.fs Tryz.f179 a_nest_nested_exit [(.pointer p0), (.int .i64 p1)] w R = L_nest_nested_exit p0 p1 R w) h)

/-- slices.ContainsFunc[[]intaglio.api.Merge,intaglio.api.Merge] -/
def a_slices_ContainsFunc_sapi_Merge_api_Merge : Ann := (.seq none .nil (.seq none .nil .nil))
def L_slices_ContainsFunc_sapi_Merge_api_Merge (p0 : Sl) (p1 : Value) (R : Value → World → Prop) (w : World) : Prop :=
 callR Tryz.prog 234 #[(.slice p0.a p0.l p0.c), p1] w fun v1 w1 =>
 ∃ x2 : Int, v1 = (.int .i64 x2) ∧
 R (.bool (decide (x2 ≥ (0 : Int)))) w1
theorem slices_ContainsFunc_sapi_Merge_api_Merge_calls (p0 : Sl) (p1 : Value) (R : Value → World → Prop) (w : World) (h : L_slices_ContainsFunc_sapi_Merge_api_Merge p0 p1 R w) : Calls Tryz.prog 186 #[(.slice p0.a p0.l p0.c), p1] w (Ret R) :=
 lw_calls (fs := Tryz.fs) (an := a_slices_ContainsFunc_sapi_Merge_api_Merge) (args := [(.slice p0.a p0.l p0.c), p1]) Tryz.fsOK Tryz.mixed Tryz.func186 (by kernel_rfl) (by kernel_rfl)
 (Eq.mpr (by kernel_rfl : lwFn Tryz.prog Tryz.fs Tryz.f186 a_slices_ContainsFunc_sapi_Merge_api_Merge [(.slice p0.a p0.l p0.c), p1] w R = L_slices_ContainsFunc_sapi_Merge_api_Merge p0 p1 R w) h)

/-- intaglio.nest.fit 1 -/
def a_nest_fit_1 : Ann := (.seq none .nil (.seq none .nil .nil))
def L_nest_fit_1 (p0 : (Int × Int × Int × Unit)) (c0 : Addr) (R : Value → World → Prop) (w : World) : Prop :=
 Nw (w.alloc (.cells #[(.int .u8 p0.1), (.int .i64 p0.2.1), (.int .i64 p0.2.2.1)] 121)) fun w1 =>
 ldI w1 (blk w.heap.size) .u8 fun x1 =>
 ifB (decide (x1 > (3 : Int)))
 (R (.bool true) w1)
 (ldI w1 (blk w.heap.size) .u8 fun x2 =>
 ifB (x2 != (0 : Int))
 (ldP w1 c0 fun x3 =>
 ldI w1 ((blk w.heap.size).add 1) .i64 fun x4 =>
 callR Tryz.prog 108 #[(.pointer x3), (.int .i64 x4)] w1 fun v5 w2 =>
 ∃ x6 : Bool, v5 = (.bool x6) ∧
 ifB (!x6)
 (R (.bool true) w2)
 (ldI w2 (blk w.heap.size) .u8 fun x7 =>
 ifB (x7 == (2 : Int))
 (ldP w2 c0 fun x8 =>
 ldI w2 ((blk w.heap.size).add 2) .i64 fun x9 =>
 callR Tryz.prog 108 #[(.pointer x8), (.int .i64 x9)] w2 fun v10 w3 =>
 ∃ x11 : Bool, v10 = (.bool x11) ∧
 R (.bool (!x11)) w3)
 (R (.bool false) w2)))
 (ldI w1 (blk w.heap.size) .u8 fun x12 =>
 ifB (x12 == (2 : Int))
 (ldP w1 c0 fun x13 =>
 ldI w1 ((blk w.heap.size).add 2) .i64 fun x14 =>
 callR Tryz.prog 108 #[(.pointer x13), (.int .i64 x14)] w1 fun v15 w4 =>
 ∃ x16 : Bool, v15 = (.bool x16) ∧
 R (.bool (!x16)) w4)
 (R (.bool false) w1)))
theorem nest_fit_1_calls (p0 : (Int × Int × Int × Unit)) (c0 : Addr) (R : Value → World → Prop) (w : World) (h : L_nest_fit_1 p0 c0 R w) : Calls Tryz.prog 187 #[(.agg #[(.int .u8 p0.1), (.int .i64 p0.2.1), (.int .i64 p0.2.2.1)]), (.pointer (some c0))] w (Ret R) :=
 lw_calls (fs := Tryz.fs) (an := a_nest_fit_1) (args := [(.agg #[(.int .u8 p0.1), (.int .i64 p0.2.1), (.int .i64 p0.2.2.1)]), (.pointer (some c0))]) Tryz.fsOK Tryz.mixed Tryz.func187 (by kernel_rfl) (by kernel_rfl)
 (Eq.mpr (by kernel_rfl : lwFn Tryz.prog Tryz.fs Tryz.f187 a_nest_fit_1 [(.agg #[(.int .u8 p0.1), (.int .i64 p0.2.1), (.int .i64 p0.2.2.1)]), (.pointer (some c0))] w R = L_nest_fit_1 p0 c0 R w) h)

/-- (*intaglio.nest.nested).dominates -/
def a_nest_nested_dominates : Ann := (.seq none .nil (.seq none .nil .nil))
def L_nest_nested_dominates (p0 : Option Addr) (p1 : Int) (p2 : Int) (R : Value → World → Prop) (w : World) : Prop :=
 derefP p0 fun a1 =>
 ldP w (a1.add 2) fun x2 =>
 callR Tryz.prog 41 #[(.pointer x2), (.int .i64 p1)] w fun v3 w1 =>
 ∃ x4 : Bool, v3 = (.bool x4) ∧
 ifB x4
 (derefP p0 fun a5 =>
 ldP w1 (a5.add 2) fun x6 =>
 callR Tryz.prog 41 #[(.pointer x6), (.int .i64 p2)] w1 fun v7 w2 =>
 ∃ x8 : Bool, v7 = (.bool x8) ∧
 ifB x8
 (derefP p0 fun a9 =>
 ldP w2 (a9.add 3) fun x10 =>
 callR Tryz.prog 238 #[(.pointer x10), (.int .i64 p1), (.int .i64 p2)] w2 fun v11 w3 =>
 ∃ x12 : Bool, v11 = (.bool x12) ∧
 R (.bool x12) w3)
 (R (.bool false) w2))
 (R (.bool false) w1)
theorem nest_nested_dominates_calls (p0 : Option Addr) (p1 : Int) (p2 : Int) (R : Value → World → Prop) (w : World) (h : L_nest_nested_dominates p0 p1 p2 R w) : Calls Tryz.prog 190 #[(.pointer p0), (.int .i64 p1), (.int .i64 p2)] w (Ret R) :=
 lw_calls (fs := Tryz.fs) (an := a_nest_nested_dominates) (args := [(.pointer p0), (.int .i64 p1), (.int .i64 p2)]) Tryz.fsOK Tryz.mixed Tryz.func190 (by kernel_rfl) (by kernel_rfl)
 (Eq.mpr (by kernel_rfl : lwFn Tryz.prog Tryz.fs Tryz.f190 a_nest_nested_dominates [(.pointer p0), (.int .i64 p1), (.int .i64 p2)] w R = L_nest_nested_dominates p0 p1 p2 R w) h)

/-- (*intaglio.nest.nested).comes -/
def a_nest_nested_comes : Ann := (.seq none .nil (.seq none .nil (.seq none .nil (.seq none .nil (.seq none .nil .nil)))))
def L_nest_nested_comes (p0 : Option Addr) (p1 : Int) (p2 : Int) (R : Value → World → Prop) (w : World) : Prop :=
 Nw (w.alloc (.cells #[(.pointer p0)] 159)) fun w1 =>
 Nw (w1.alloc (.cells #[(.int .i64 p2)] 3)) fun w2 =>
 ldP w2 (blk w.heap.size) fun x1 =>
 derefP x1 fun a2 =>
 ldP w2 a2 fun x3 =>
 callR Tryz.prog 38 #[(.pointer x3)] w2 fun v4 w3 =>
 ∃ x5 : Int, v4 = (.int .i64 x5) ∧
 (0 ≤ x5 ∧ x5 ≤ x5 ∧ (8 : Int) * x5 ≤ 281474976710656 ∧ x5 ≤ 9223372036854775807) ∧
 Nw (w3.alloc (.cells (madeCells #[(.int .i64 (0 : Int))] ((Int.toNat x5) * 1)) 3)) fun w4 =>
 Nw (w4.alloc (.cells #[(.slice none 0 0)] 26)) fun w5 =>
 Wr w5 (blk w4.heap.size) ∧
 Nw (w5.setCell (blk w4.heap.size) (.slice (some (blk w3.heap.size)) (Int.toNat x5) (Int.toNat x5))) fun w6 =>
 Nw (w6.alloc (.cells #[.nilFunc] 83)) fun w7 =>
 Wr w7 (blk w6.heap.size) ∧
 Nw (w7.setCell (blk w6.heap.size) (.func (.func 259) #[] #[(.pointer (some (blk w1.heap.size))), (.pointer (some (blk w4.heap.size))), (.pointer (some (blk w.heap.size))), (.pointer (some (blk w6.heap.size)))])) fun w8 =>
 ldR w8 (blk w6.heap.size) fun x6 =>
 callV Tryz.prog Tryz.fs x6 [(.int .i64 p1)] w8 fun v7 w9 =>
 ∃ x8 : Bool, v7 = (.bool x8) ∧
 R (.bool x8) w9
theorem nest_nested_comes_calls (p0 : Option Addr) (p1 : Int) (p2 : Int) (R : Value → World → Prop) (w : World) (h : L_nest_nested_comes p0 p1 p2 R w) : Calls Tryz.prog 229 #[(.pointer p0), (.int .i64 p1), (.int .i64 p2)] w (Ret R) :=
 lw_calls (fs := Tryz.fs) (an := a_nest_nested_comes) (args := [(.pointer p0), (.int .i64 p1), (.int .i64 p2)]) Tryz.fsOK Tryz.mixed Tryz.func229 (by kernel_rfl) (by kernel_rfl)
 (Eq.mpr (by kernel_rfl : lwFn Tryz.prog Tryz.fs Tryz.f229 a_nest_nested_comes [(.pointer p0), (.int .i64 p1), (.int .i64 p2)] w R = L_nest_nested_comes p0 p1 p2 R w) h)

/-- (*intaglio.nest.nested).may -/
def a_nest_nested_may : Ann := (.seq none .nil (.seq none (.seq none .nil (.one (.loop ⟨[0, 1, 2, 20, 21], [(22, (.b (.int .i64)))]⟩ (.seq none .nil (.seq none (.cond .nil .nil) (.seq (some ⟨[0, 1, 2, 20, 21, 22], []⟩) (.one (.seq none .nil (.seq none .nil (.cond (.seq none .nil .nil) .nil)))) .nil)))))) (.seq none .nil (.seq none (.seq none .nil (.one (.loop ⟨[0, 1, 2, 43, 44], [(9, (.b .slice)), (45, (.b (.int .i64)))]⟩ (.seq none .nil (.seq none (.cond .nil .nil) (.seq (some ⟨[0, 1, 2, 43, 44, 45], [(9, (.b .slice))]⟩) (.one (.seq none .nil (.seq none .nil (.cond .nil .nil)))) .nil)))))) (.seq none (.seq none .nil (.cond (.seq none .nil .nil) .nil)) (.seq none .nil (.seq (some ⟨[0, 1, 2], []⟩) (.seq none .nil (.cond (.seq none .nil .nil) .nil)) (.seq none .nil (.seq none .nil .nil)))))))))
def L_nest_nested_may (p0 : Option Addr) (p1 : Int) (p2 : Int) (R : Value → World → Prop) (w : World) : Prop :=
 derefP p0 fun a1 =>
 ldS w (a1.add 4) fun x2 =>
 (0 ≤ p2 ∧ p2 < (x2.l : Int)) ∧
 derefP x2.a fun a3 =>
 ldS w (a3.add (Int.toNat p2)) fun x4 =>
 LoopW (S := Int × Unit) (fun s5 w1 n6 =>
 ifB (decide (s5.1 < (x4.l : Int)))
 (JoinW (S := Unit) (fun m7 =>
 (0 ≤ s5.1 ∧ s5.1 < (x4.l : Int)) ∧
 derefP x4.a fun a9 =>
 ldI w1 (a9.add (Int.toNat s5.1)) .i64 fun x10 =>
 ifB (x10 != p2)
 (callR Tryz.prog 109 #[(.pointer p0), (.int .i64 x10), (.int .i64 p1)] w1 fun v11 w2 =>
 ∃ x12 : Bool, v11 = (.bool x12) ∧
 ifB (!x12)
 (R (.bool false) w2)
 (m7 (()) w2))
 (m7 (()) w1))
 (fun s8 w3 =>
 n6 ((IntKind.i64.wrap (s5.1 + (1 : Int))), ()) w3))
 (derefP p0 fun a13 =>
 ldS w1 (a13.add 4) fun x14 =>
 (0 ≤ p1 ∧ p1 < (x14.l : Int)) ∧
 derefP x14.a fun a15 =>
 ldS w1 (a15.add (Int.toNat p1)) fun x16 =>
 LoopW (S := Sl × Int × Unit) (fun s17 w4 n18 =>
 ifB (decide (s17.2.1 < (x16.l : Int)))
 (JoinW (S := Sl × Unit) (fun m19 =>
 (0 ≤ s17.2.1 ∧ s17.2.1 < (x16.l : Int)) ∧
 derefP x16.a fun a21 =>
 ldI w4 (a21.add (Int.toNat s17.2.1)) .i64 fun x22 =>
 callR Tryz.prog 109 #[(.pointer p0), (.int .i64 x22), (.int .i64 p2)] w4 fun v23 w5 =>
 ∃ x24 : Bool, v23 = (.bool x24) ∧
 ifB (!x24)
 (Nw (w5.alloc (.cells #[(.int .i64 x22)] 3)) fun w6 =>
 appendS Tryz.prog 26 (.slice s17.1.a s17.1.l s17.1.c) (.slice (some (blk w5.heap.size)) 1 1) w6 fun r25 w7 =>
 m19 (r25, ()) w7)
 (m19 (s17.1, ()) w5))
 (fun s20 w8 =>
 n18 (s20.1, (IntKind.i64.wrap (s17.2.1 + (1 : Int))), ()) w8))
 (ifB ((s17.1.l : Int) == (0 : Int))
 (R (.bool true) w4)
 ((0 ≤ (0 : Int) ∧ (0 : Int) < (s17.1.l : Int)) ∧
 derefP s17.1.a fun a26 =>
 ldI w4 (a26.add 0) .i64 fun x27 =>
 JoinW (S := Unit) (fun m28 =>
 derefP p0 fun a30 =>
 ldS w4 (a30.add 1) fun x31 =>
 (0 ≤ x27 ∧ x27 < (x31.l : Int)) ∧
 derefP x31.a fun a32 =>
 ldI w4 ((a32.add ((Int.toNat x27) * 3)).add 1) .i64 fun x33 =>
 ifB (p2 == x33)
 (ifB ((s17.1.l : Int) == (1 : Int))
 (R (.bool true) w4)
 (Nw (w4.alloc (.cells #[(.int .u8 (2 : Int)), (.int .u8 (3 : Int))] 5)) fun w9 =>
 callR Tryz.prog 262 #[(.pointer p0), (.int .i64 p1), (.slice (some (blk w4.heap.size)) 2 2)] w9 fun v34 w10 =>
 ∃ x35 : Int, v34 = (.int .i64 x35) ∧
 ifB (x27 == x35)
 (R (.bool true) w10)
 (m28 (()) w10)))
 (m28 (()) w4))
 (fun s29 w11 =>
 Nw (w11.alloc (.cells #[(.int .u8 (2 : Int))] 5)) fun w12 =>
 callR Tryz.prog 262 #[(.pointer p0), (.int .i64 p1), (.slice (some (blk w11.heap.size)) 1 1)] w12 fun v36 w13 =>
 ∃ x37 : Int, v36 = (.int .i64 x37) ∧
 ifB (decide (x37 ≥ (0 : Int)))
 (derefP p0 fun a38 =>
 ldS w13 (a38.add 1) fun x39 =>
 (0 ≤ x37 ∧ x37 < (x39.l : Int)) ∧
 derefP x39.a fun a40 =>
 ldI w13 ((a40.add ((Int.toNat x37) * 3)).add 2) .i64 fun x41 =>
 ifB (p2 == x41)
 (callR Tryz.prog 109 #[(.pointer p0), (.int .i64 x37), (.int .i64 p2)] w13 fun v42 w14 =>
 ∃ x43 : Bool, v42 = (.bool x43) ∧
 R (.bool x43) w14)
 (R (.bool false) w13))
 (R (.bool false) w13)))))
 ((Sl.mk none 0 0), (0 : Int), ()) w1))
 ((0 : Int), ()) w
theorem nest_nested_may_calls (p0 : Option Addr) (p1 : Int) (p2 : Int) (R : Value → World → Prop) (w : World) (h : L_nest_nested_may p0 p1 p2 R w) : Calls Tryz.prog 230 #[(.pointer p0), (.int .i64 p1), (.int .i64 p2)] w (Ret R) :=
 lw_calls (fs := Tryz.fs) (an := a_nest_nested_may) (args := [(.pointer p0), (.int .i64 p1), (.int .i64 p2)]) Tryz.fsOK Tryz.mixed Tryz.func230 (by kernel_rfl) (by kernel_rfl)
 (Eq.mpr (by kernel_rfl : lwFn Tryz.prog Tryz.fs Tryz.f230 a_nest_nested_may [(.pointer p0), (.int .i64 p1), (.int .i64 p2)] w R = L_nest_nested_may p0 p1 p2 R w) h)

/-- slices.IndexFunc[[]intaglio.api.Merge,intaglio.api.Merge] -/
def a_slices_IndexFunc_sapi_Merge_api_Merge : Ann := (.seq none .nil (.seq none (.seq none .nil (.one (.loop ⟨[0, 1, 7], [(8, (.b (.int .i64)))]⟩ (.seq none .nil (.seq none (.cond .nil .nil) (.seq none (.one (.seq none .nil (.seq none .nil (.cond (.seq none .nil .nil) .nil)))) .nil)))))) (.seq none .nil .nil)))
def L_slices_IndexFunc_sapi_Merge_api_Merge (p0 : Sl) (p1 : Value) (R : Value → World → Prop) (w : World) : Prop :=
 LoopW (S := Int × Unit) (fun s1 w1 n2 =>
 ifB (decide (s1.1 < (p0.l : Int)))
 ((0 ≤ s1.1 ∧ s1.1 < (p0.l : Int)) ∧
 derefP p0.a fun a3 =>
 ldI w1 ((a3.add ((Int.toNat s1.1) * 3)).add 0) .u8 fun x4 =>
 ldI w1 ((a3.add ((Int.toNat s1.1) * 3)).add 1) .i64 fun x5 =>
 ldI w1 ((a3.add ((Int.toNat s1.1) * 3)).add 2) .i64 fun x6 =>
 callV Tryz.prog Tryz.fs p1 [(.agg #[(.int .u8 x4), (.int .i64 x5), (.int .i64 x6)])] w1 fun v7 w2 =>
 ∃ x8 : Bool, v7 = (.bool x8) ∧
 ifB x8
 (R (.int .i64 s1.1) w2)
 (n2 ((IntKind.i64.wrap (s1.1 + (1 : Int))), ()) w2))
 (R (.int .i64 (-1 : Int)) w1))
 ((0 : Int), ()) w
theorem slices_IndexFunc_sapi_Merge_api_Merge_calls (p0 : Sl) (p1 : Value) (R : Value → World → Prop) (w : World) (h : L_slices_IndexFunc_sapi_Merge_api_Merge p0 p1 R w) : Calls Tryz.prog 234 #[(.slice p0.a p0.l p0.c), p1] w (Ret R) :=
 lw_calls (fs := Tryz.fs) (an := a_slices_IndexFunc_sapi_Merge_api_Merge) (args := [(.slice p0.a p0.l p0.c), p1]) Tryz.fsOK Tryz.mixed Tryz.func234 (by kernel_rfl) (by kernel_rfl)
 (Eq.mpr (by kernel_rfl : lwFn Tryz.prog Tryz.fs Tryz.f234 a_slices_IndexFunc_sapi_Merge_api_Merge [(.slice p0.a p0.l p0.c), p1] w R = L_slices_IndexFunc_sapi_Merge_api_Merge p0 p1 R w) h)

/-- (*intaglio.nest.nested).comes 1 -/
def a_nest_nested_comes_1 : Ann := (.seq none .nil (.seq none (.seq none .nil (.cond (.seq none .nil .nil) .nil)) (.seq none .nil (.seq none .nil .nil))))
def L_nest_nested_comes_1 (p0 : Int) (c0 : Addr) (c1 : Addr) (c2 : Addr) (c3 : Addr) (R : Value → World → Prop) (w : World) : Prop :=
 Nw (w.alloc (.cells #[(.int .i64 p0)] 3)) fun w1 =>
 ldI w1 (blk w.heap.size) .i64 fun x1 =>
 ldI w1 c0 .i64 fun x2 =>
 ifB (x1 == x2)
 (R (.bool true) w1)
 (ldS w1 c1 fun x3 =>
 ldI w1 (blk w.heap.size) .i64 fun x4 =>
 (0 ≤ x4 ∧ x4 < (x3.l : Int)) ∧
 derefP x3.a fun a5 =>
 Wr w1 (a5.add (Int.toNat x4)) ∧
 Nw (w1.setCell (a5.add (Int.toNat x4)) (.int .i64 (1 : Int))) fun w2 =>
 ldP w2.drew c2 fun x6 =>
 derefP x6 fun a7 =>
 ldP w2.drew a7 fun x8 =>
 ldI w2.drew (blk w.heap.size) .i64 fun x9 =>
 callR Tryz.prog 39 #[(.pointer x8), (.int .i64 x9)] w2.drew fun v10 w3 =>
 ∃ x11 : Sl, v10 = (.slice x11.a x11.l x11.c) ∧
 callR Tryz.prog 260 #[(.slice x11.a x11.l x11.c), (.func (.func 261) #[] #[(.pointer (some c1)), (.pointer (some c2)), (.pointer (some (blk w.heap.size))), (.pointer (some c3))])] w3 fun v12 w4 =>
 ∃ x13 : Bool, v12 = (.bool x13) ∧
 R (.bool x13) w4)
theorem nest_nested_comes_1_calls (p0 : Int) (c0 : Addr) (c1 : Addr) (c2 : Addr) (c3 : Addr) (R : Value → World → Prop) (w : World) (h : L_nest_nested_comes_1 p0 c0 c1 c2 c3 R w) : Calls Tryz.prog 259 #[(.int .i64 p0), (.pointer (some c0)), (.pointer (some c1)), (.pointer (some c2)), (.pointer (some c3))] w (Ret R) :=
 lw_calls (fs := Tryz.fs) (an := a_nest_nested_comes_1) (args := [(.int .i64 p0), (.pointer (some c0)), (.pointer (some c1)), (.pointer (some c2)), (.pointer (some c3))]) Tryz.fsOK Tryz.mixed Tryz.func259 (by kernel_rfl) (by kernel_rfl)
 (Eq.mpr (by kernel_rfl : lwFn Tryz.prog Tryz.fs Tryz.f259 a_nest_nested_comes_1 [(.int .i64 p0), (.pointer (some c0)), (.pointer (some c1)), (.pointer (some c2)), (.pointer (some c3))] w R = L_nest_nested_comes_1 p0 c0 c1 c2 c3 R w) h)

/-- (*intaglio.nest.nested).comes 1 1 -/
def a_nest_nested_comes_1_1 : Ann := (.seq none .nil (.seq none .nil .nil))
def L_nest_nested_comes_1_1 (p0 : Int) (c0 : Addr) (c1 : Addr) (c2 : Addr) (c3 : Addr) (R : Value → World → Prop) (w : World) : Prop :=
 ldS w c0 fun x1 =>
 (0 ≤ p0 ∧ p0 < (x1.l : Int)) ∧
 derefP x1.a fun a2 =>
 ldI w (a2.add (Int.toNat p0)) .i64 fun x3 =>
 ifB (x3 == (0 : Int))
 (ldP w c1 fun x4 =>
 ldI w c2 .i64 fun x5 =>
 callR Tryz.prog 190 #[(.pointer x4), (.int .i64 p0), (.int .i64 x5)] w fun v6 w1 =>
 ∃ x7 : Bool, v6 = (.bool x7) ∧
 ifB (!x7)
 (ldR w1 c3 fun x8 =>
 callV Tryz.prog Tryz.fs x8 [(.int .i64 p0)] w1 fun v9 w2 =>
 ∃ x10 : Bool, v9 = (.bool x10) ∧
 R (.bool x10) w2)
 (R (.bool false) w1))
 (R (.bool false) w)
theorem nest_nested_comes_1_1_calls (p0 : Int) (c0 : Addr) (c1 : Addr) (c2 : Addr) (c3 : Addr) (R : Value → World → Prop) (w : World) (h : L_nest_nested_comes_1_1 p0 c0 c1 c2 c3 R w) : Calls Tryz.prog 261 #[(.int .i64 p0), (.pointer (some c0)), (.pointer (some c1)), (.pointer (some c2)), (.pointer (some c3))] w (Ret R) :=
 lw_calls (fs := Tryz.fs) (an := a_nest_nested_comes_1_1) (args := [(.int .i64 p0), (.pointer (some c0)), (.pointer (some c1)), (.pointer (some c2)), (.pointer (some c3))]) Tryz.fsOK Tryz.mixed Tryz.func261 (by kernel_rfl) (by kernel_rfl)
 (Eq.mpr (by kernel_rfl : lwFn Tryz.prog Tryz.fs Tryz.f261 a_nest_nested_comes_1_1 [(.int .i64 p0), (.pointer (some c0)), (.pointer (some c1)), (.pointer (some c2)), (.pointer (some c3))] w R = L_nest_nested_comes_1_1 p0 c0 c1 c2 c3 R w) h)

/-- (*intaglio.nest.nested).last -/
def a_nest_nested_last : Ann := (.seq none .nil (.seq none .nil (.seq none (.seq none .nil (.one (.loop ⟨[0, 2, 7], [(8, (.b (.int .i64)))]⟩ (.seq none (.seq none .nil (.cond .nil .nil)) (.seq none (.one (.seq none .nil (.cond (.seq none .nil .nil) .nil))) .nil))))) (.seq none .nil .nil))))
def L_nest_nested_last (p0 : Option Addr) (p1 : Int) (p2 : Sl) (R : Value → World → Prop) (w : World) : Prop :=
 derefP p0 fun a1 =>
 ldS w (a1.add 4) fun x2 =>
 (0 ≤ p1 ∧ p1 < (x2.l : Int)) ∧
 derefP x2.a fun a3 =>
 ldS w (a3.add (Int.toNat p1)) fun x4 =>
 LoopW (S := Int × Unit) (fun s5 w1 n6 =>
 ifB (decide (s5.1 ≥ (0 : Int)))
 (derefP p0 fun a7 =>
 ldS w1.drew (a7.add 1) fun x8 =>
 (0 ≤ s5.1 ∧ s5.1 < (x4.l : Int)) ∧
 derefP x4.a fun a9 =>
 ldI w1.drew (a9.add (Int.toNat s5.1)) .i64 fun x10 =>
 (0 ≤ x10 ∧ x10 < (x8.l : Int)) ∧
 derefP x8.a fun a11 =>
 ldI w1.drew (a11.add ((Int.toNat x10) * 3)) .u8 fun x12 =>
 callR Tryz.prog 273 #[(.slice p2.a p2.l p2.c), (.int .u8 x12)] w1.drew fun v13 w2 =>
 ∃ x14 : Bool, v13 = (.bool x14) ∧
 ifB x14
 ((0 ≤ s5.1 ∧ s5.1 < (x4.l : Int)) ∧
 derefP x4.a fun a15 =>
 ldI w2 (a15.add (Int.toNat s5.1)) .i64 fun x16 =>
 R (.int .i64 x16) w2)
 (n6 ((IntKind.i64.wrap (s5.1 - (1 : Int))), ()) w2))
 (R (.int .i64 (-1 : Int)) w1))
 ((IntKind.i64.wrap ((x4.l : Int) - (1 : Int))), ()) w
theorem nest_nested_last_calls (p0 : Option Addr) (p1 : Int) (p2 : Sl) (R : Value → World → Prop) (w : World) (h : L_nest_nested_last p0 p1 p2 R w) : Calls Tryz.prog 262 #[(.pointer p0), (.int .i64 p1), (.slice p2.a p2.l p2.c)] w (Ret R) :=
 lw_calls (fs := Tryz.fs) (an := a_nest_nested_last) (args := [(.pointer p0), (.int .i64 p1), (.slice p2.a p2.l p2.c)]) Tryz.fsOK Tryz.mixed Tryz.func262 (by kernel_rfl) (by kernel_rfl)
 (Eq.mpr (by kernel_rfl : lwFn Tryz.prog Tryz.fs Tryz.f262 a_nest_nested_last [(.pointer p0), (.int .i64 p1), (.slice p2.a p2.l p2.c)] w R = L_nest_nested_last p0 p1 p2 R w) h)

end Go.Proofs
namespace Go.Proofs
open Go.Gk
set_option linter.unusedVariables false
set_option maxRecDepth 100000

/-- intaglio.intagliokit.Ints -/
def a_intagliokit_Ints : Ann := (.seq none .nil (.seq none (.seq none .nil (.cond (.seq none .nil .nil) .nil)) (.seq none (.seq none .nil (.one (.loop ⟨[0, 1], [(5, (.b (.int .i64)))]⟩ (.seq none (.seq none .nil (.cond .nil .nil)) (.seq none (.one (.seq none .nil (.cond (.seq none .nil .nil) .nil))) .nil))))) (.seq none .nil .nil))))
def L_intagliokit_Ints (p0 : Sl) (p1 : Sl) (R : Value → World → Prop) (w : World) : Prop :=
 ifB ((p0.l : Int) != (p1.l : Int))
 (R (.bool false) w)
 (LoopW (S := Int × Unit) (fun s1 w1 n2 =>
 ifB (decide (s1.1 < (p0.l : Int)))
 ((0 ≤ s1.1 ∧ s1.1 < (p0.l : Int)) ∧
 derefP p0.a fun a3 =>
 ldI w1.drew (a3.add (Int.toNat s1.1)) .i64 fun x4 =>
 (0 ≤ s1.1 ∧ s1.1 < (p1.l : Int)) ∧
 derefP p1.a fun a5 =>
 ldI w1.drew (a5.add (Int.toNat s1.1)) .i64 fun x6 =>
 ifB (x4 != x6)
 (R (.bool false) w1.drew)
 (n2 ((IntKind.i64.wrap (s1.1 + (1 : Int))), ()) w1.drew))
 (R (.bool true) w1))
 ((0 : Int), ()) w)
theorem intagliokit_Ints_calls (p0 : Sl) (p1 : Sl) (R : Value → World → Prop) (w : World) (h : L_intagliokit_Ints p0 p1 R w) : Calls Tryz.prog 26 #[(.slice p0.a p0.l p0.c), (.slice p1.a p1.l p1.c)] w (Ret R) :=
 lw_calls (fs := Tryz.fs) (an := a_intagliokit_Ints) (args := [(.slice p0.a p0.l p0.c), (.slice p1.a p1.l p1.c)]) Tryz.fsOK Tryz.mixed Tryz.func26 (by kernel_rfl) (by kernel_rfl)
 (Eq.mpr (by kernel_rfl : lwFn Tryz.prog Tryz.fs Tryz.f26 a_intagliokit_Ints [(.slice p0.a p0.l p0.c), (.slice p1.a p1.l p1.c)] w R = L_intagliokit_Ints p0 p1 R w) h)

/-- intaglio.graph.Of -/
def a_graph_Of : Ann := (.seq none .nil (.seq none (.one (.seq none .nil (.cond (.seq none .nil .nil) (.seq none .nil (.cond (.seq none .nil .nil) .nil))))) (.seq (some ⟨[0], [(4, (.b .ptr))]⟩) .nil (.seq none (.seq none .nil (.one (.loop ⟨[0, 4, 26, 27], [(28, (.b (.int .i64)))]⟩ (.seq none .nil (.seq none (.cond .nil .nil) (.seq none (.one (.seq none .nil (.seq none .nil (.seq none .nil (.one (.loop ⟨[0, 4, 5, 7, 26, 27, 28, 33, 34], [(35, (.b (.int .i64)))]⟩ (.seq none .nil (.seq none (.cond .nil .nil) (.seq (some ⟨[0, 4, 5, 7, 26, 27, 28, 33, 34, 35], []⟩) (.one (.seq none .nil (.seq (some ⟨[0, 4, 5, 7, 9, 26, 27, 28, 33, 34, 35], []⟩) (.seq none .nil (.cond (.seq none .nil .nil) .nil)) (.seq none .nil (.cond (.seq none .nil (.seq none .nil .nil)) .nil))))) .nil))))))))) .nil)))))) (.seq none .nil (.seq none .nil .nil))))))
def L_graph_Of (p0 : Sl) (R : Value → World → Prop) (w : World) : Prop :=
 ifB ((p0.l : Int) == (0 : Int))
 (R (.tuple #[(.pointer none), (.int .i64 (2 : Int))]) w)
 (ifB (decide ((p0.l : Int) > (4096 : Int)))
 (R (.tuple #[(.pointer none), (.int .i64 (4 : Int))]) w)
 (JoinW (S := (Option Addr) × Unit) (fun m1 =>
 ((0 ≤ (p0.l : Int) ∧ (p0.l : Int) ≤ (p0.l : Int) ∧ (24 : Int) * (p0.l : Int) ≤ 281474976710656 ∧ (p0.l : Int) ≤ 9223372036854775807) ∧
 Nw (w.drew.alloc (.cells (madeCells #[(.slice none 0 0)] (p0.l * 1)) 26)) fun w1 =>
 (0 ≤ (p0.l : Int) ∧ (p0.l : Int) ≤ (p0.l : Int) ∧ (24 : Int) * (p0.l : Int) ≤ 281474976710656 ∧ (p0.l : Int) ≤ 9223372036854775807) ∧
 Nw (w1.alloc (.cells (madeCells #[(.slice none 0 0)] (p0.l * 1)) 26)) fun w2 =>
 Nw (w2.alloc (.cells (List.toArray ([(.slice (some (blk w.drew.heap.size)) p0.l p0.l), (.slice (some (blk w1.heap.size)) p0.l p0.l), (.slice none 0 0), (.slice none 0 0)] ++ List.replicate 64 (.int .u64 (0 : Int)))) 139)) fun w3 =>
 m1 ((some (blk w2.heap.size)), ()) w3) ∧
 (0 ≤ (p0.l : Int) ∧ (p0.l : Int) ≤ (p0.l : Int) ∧ (24 : Int) * (p0.l : Int) ≤ 281474976710656 ∧ (p0.l : Int) ≤ 9223372036854775807) ∧
 Nw (w.drew.alloc (.cells (madeCells #[(.slice none 0 0)] (p0.l * 1)) 26)) fun w4 =>
 (0 ≤ (p0.l : Int) ∧ (p0.l : Int) ≤ (p0.l : Int) ∧ (24 : Int) * (p0.l : Int) ≤ 281474976710656 ∧ (p0.l : Int) ≤ 9223372036854775807) ∧
 Nw (w4.alloc (.cells (madeCells #[(.slice none 0 0)] (p0.l * 1)) 26)) fun w5 =>
 Nw (w5.alloc (.cells (List.toArray ([(.slice (some (blk w4.heap.size)) p0.l p0.l), (.slice (some (blk w.drew.heap.size)) p0.l p0.l), (.slice none 0 0), (.slice none 0 0)] ++ List.replicate 64 (.int .u64 (0 : Int)))) 139)) fun w6 =>
 m1 ((some (blk w5.heap.size)), ()) w6)
 (fun s2 w7 =>
 LoopW (S := Int × Unit) (fun s3 w8 n4 =>
 ifB (decide (s3.1 < (p0.l : Int)))
 ((0 ≤ s3.1 ∧ s3.1 < (p0.l : Int)) ∧
 derefP p0.a fun a5 =>
 ldS w8 (a5.add (Int.toNat s3.1)) fun x6 =>
 Nw (w8.alloc (.cells (List.toArray (List.replicate 64 (.int .u64 (0 : Int)))) 137)) fun w9 =>
 LoopW (S := Int × Unit) (fun s7 w10 n8 =>
 ifB (decide (s7.1 < (x6.l : Int)))
 (JoinW (S := Unit) (fun m9 =>
 (0 ≤ s7.1 ∧ s7.1 < (x6.l : Int)) ∧
 derefP x6.a fun a11 =>
 ldI w10 (a11.add (Int.toNat s7.1)) .i64 fun x12 =>
 JoinW (S := Unit) (fun m13 =>
 ifB (decide (x12 < (0 : Int)))
 (R (.tuple #[(.pointer none), (.int .i64 (141 : Int))]) w10)
 (ifB (decide (x12 ≥ (p0.l : Int)))
 (R (.tuple #[(.pointer none), (.int .i64 (141 : Int))]) w10)
 (m13 (()) w10)))
 (fun s14 w11 =>
 callR Tryz.prog 96 #[(.pointer (some (blk w8.heap.size))), (.int .i64 x12)] w11 fun v15 w12 =>
 ∃ x16 : Bool, v15 = (.bool x16) ∧
 ifB (!x16)
 (callR Tryz.prog 97 #[(.pointer (some (blk w8.heap.size))), (.int .i64 x12)] w12 fun v17 w13 =>
 v17 = (.tuple #[]) ∧
 derefP s2.1 fun a18 =>
 ldS w13.drew a18 fun x19 =>
 derefP s2.1 fun a20 =>
 ldS w13.drew a20 fun x21 =>
 (0 ≤ s3.1 ∧ s3.1 < (x21.l : Int)) ∧
 derefP x21.a fun a22 =>
 ldS w13.drew (a22.add (Int.toNat s3.1)) fun x23 =>
 Nw (w13.drew.alloc (.cells #[(.int .i64 x12)] 3)) fun w14 =>
 w14.cell? (a22.add (Int.toNat s3.1)) = some (.slice x23.a x23.l x23.c) ∧
 w14.cell? a20 = some (.slice x21.a x21.l x21.c) ∧
 w14.cell? a18 = some (.slice x19.a x19.l x19.c) ∧
 appendS Tryz.prog 26 (.slice x23.a x23.l x23.c) (.slice (some (blk w13.drew.heap.size)) 1 1) w14 fun r24 w15 =>
 w15.cell? a18 = some (.slice x19.a x19.l x19.c) ∧
 (0 ≤ s3.1 ∧ s3.1 < (x19.l : Int)) ∧
 derefP x19.a fun a25 =>
 Wr w15 (a25.add (Int.toNat s3.1)) ∧
 Nw (w15.setCell (a25.add (Int.toNat s3.1)) (.slice r24.a r24.l r24.c)) fun w16 =>
 derefP s2.1 fun a26 =>
 ldS w16.drew (a26.add 1) fun x27 =>
 derefP s2.1 fun a28 =>
 ldS w16.drew (a28.add 1) fun x29 =>
 (0 ≤ x12 ∧ x12 < (x29.l : Int)) ∧
 derefP x29.a fun a30 =>
 ldS w16.drew (a30.add (Int.toNat x12)) fun x31 =>
 Nw (w16.drew.alloc (.cells #[(.int .i64 s3.1)] 3)) fun w17 =>
 w17.cell? (a30.add (Int.toNat x12)) = some (.slice x31.a x31.l x31.c) ∧
 w17.cell? (a28.add 1) = some (.slice x29.a x29.l x29.c) ∧
 w17.cell? (a26.add 1) = some (.slice x27.a x27.l x27.c) ∧
 appendS Tryz.prog 26 (.slice x31.a x31.l x31.c) (.slice (some (blk w16.drew.heap.size)) 1 1) w17 fun r32 w18 =>
 w18.cell? (a26.add 1) = some (.slice x27.a x27.l x27.c) ∧
 (0 ≤ x12 ∧ x12 < (x27.l : Int)) ∧
 derefP x27.a fun a33 =>
 Wr w18 (a33.add (Int.toNat x12)) ∧
 Nw (w18.setCell (a33.add (Int.toNat x12)) (.slice r32.a r32.l r32.c)) fun w19 =>
 m9 (()) w19)
 (m9 (()) w12)))
 (fun s10 w20 =>
 n8 ((IntKind.i64.wrap (s7.1 + (1 : Int))), ()) w20))
 (n4 ((IntKind.i64.wrap (s3.1 + (1 : Int))), ()) w10))
 ((0 : Int), ()) w9)
 (callR Tryz.prog 98 #[(.pointer s2.1)] w8 fun v34 w21 =>
 v34 = (.tuple #[]) ∧
 R (.tuple #[(.pointer s2.1), (.int .i64 (0 : Int))]) w21))
 ((0 : Int), ()) w7)))
theorem graph_Of_calls (p0 : Sl) (R : Value → World → Prop) (w : World) (h : L_graph_Of p0 R w) : Calls Tryz.prog 37 #[(.slice p0.a p0.l p0.c)] w (Ret R) :=
 lw_calls (fs := Tryz.fs) (an := a_graph_Of) (args := [(.slice p0.a p0.l p0.c)]) Tryz.fsOK Tryz.mixed Tryz.func37 (by kernel_rfl) (by kernel_rfl)
 (Eq.mpr (by kernel_rfl : lwFn Tryz.prog Tryz.fs Tryz.f37 a_graph_Of [(.slice p0.a p0.l p0.c)] w R = L_graph_Of p0 R w) h)

/-- (*intaglio.graph.Graph).Len -/
def a_graph_Graph_Len : Ann := (.seq none .nil (.seq none (.seq none .nil (.cond (.seq none .nil .nil) .nil)) (.seq none .nil .nil)))
def L_graph_Graph_Len (p0 : Option Addr) (R : Value → World → Prop) (w : World) : Prop :=
 ifB (Option.isNone p0)
 (R (.int .i64 (0 : Int)) w)
 (derefP p0 fun a1 =>
 ldS w a1 fun x2 =>
 R (.int .i64 (x2.l : Int)) w)
theorem graph_Graph_Len_calls (p0 : Option Addr) (R : Value → World → Prop) (w : World) (h : L_graph_Graph_Len p0 R w) : Calls Tryz.prog 38 #[(.pointer p0)] w (Ret R) :=
 lw_calls (fs := Tryz.fs) (an := a_graph_Graph_Len) (args := [(.pointer p0)]) Tryz.fsOK Tryz.mixed Tryz.func38 (by kernel_rfl) (by kernel_rfl)
 (Eq.mpr (by kernel_rfl : lwFn Tryz.prog Tryz.fs Tryz.f38 a_graph_Graph_Len [(.pointer p0)] w R = L_graph_Graph_Len p0 R w) h)

/-- (*intaglio.graph.Graph).Next -/
def a_graph_Graph_Next : Ann := (.seq none .nil (.seq none (.seq none .nil (.cond (.seq none .nil .nil) .nil)) (.seq none .nil .nil)))
def L_graph_Graph_Next (p0 : Option Addr) (p1 : Int) (R : Value → World → Prop) (w : World) : Prop :=
 callR Tryz.prog 99 #[(.pointer p0), (.int .i64 p1)] w fun v1 w1 =>
 ∃ x2 : Bool, v1 = (.bool x2) ∧
 ifB (!x2)
 (R (.slice none 0 0) w1)
 (derefP p0 fun a3 =>
 ldS w1 a3 fun x4 =>
 (0 ≤ p1 ∧ p1 < (x4.l : Int)) ∧
 derefP x4.a fun a5 =>
 ldS w1 (a5.add (Int.toNat p1)) fun x6 =>
 callR Tryz.prog 73 #[(.slice x6.a x6.l x6.c)] w1 fun v7 w2 =>
 ∃ x8 : Sl, v7 = (.slice x8.a x8.l x8.c) ∧
 R (.slice x8.a x8.l x8.c) w2)
theorem graph_Graph_Next_calls (p0 : Option Addr) (p1 : Int) (R : Value → World → Prop) (w : World) (h : L_graph_Graph_Next p0 p1 R w) : Calls Tryz.prog 39 #[(.pointer p0), (.int .i64 p1)] w (Ret R) :=
 lw_calls (fs := Tryz.fs) (an := a_graph_Graph_Next) (args := [(.pointer p0), (.int .i64 p1)]) Tryz.fsOK Tryz.mixed Tryz.func39 (by kernel_rfl) (by kernel_rfl)
 (Eq.mpr (by kernel_rfl : lwFn Tryz.prog Tryz.fs Tryz.f39 a_graph_Graph_Next [(.pointer p0), (.int .i64 p1)] w R = L_graph_Graph_Next p0 p1 R w) h)

/-- (*intaglio.graph.Graph).Ahead -/
def a_graph_Graph_Ahead : Ann := (.seq none .nil (.seq none (.seq none .nil (.cond (.seq none .nil .nil) .nil)) (.seq none .nil .nil)))
def L_graph_Graph_Ahead (p0 : Option Addr) (p1 : Int) (R : Value → World → Prop) (w : World) : Prop :=
 callR Tryz.prog 99 #[(.pointer p0), (.int .i64 p1)] w fun v1 w1 =>
 ∃ x2 : Bool, v1 = (.bool x2) ∧
 ifB (!x2)
 (R (.slice none 0 0) w1)
 (derefP p0 fun a3 =>
 ldS w1 (a3.add 1) fun x4 =>
 (0 ≤ p1 ∧ p1 < (x4.l : Int)) ∧
 derefP x4.a fun a5 =>
 ldS w1 (a5.add (Int.toNat p1)) fun x6 =>
 callR Tryz.prog 73 #[(.slice x6.a x6.l x6.c)] w1 fun v7 w2 =>
 ∃ x8 : Sl, v7 = (.slice x8.a x8.l x8.c) ∧
 R (.slice x8.a x8.l x8.c) w2)
theorem graph_Graph_Ahead_calls (p0 : Option Addr) (p1 : Int) (R : Value → World → Prop) (w : World) (h : L_graph_Graph_Ahead p0 p1 R w) : Calls Tryz.prog 40 #[(.pointer p0), (.int .i64 p1)] w (Ret R) :=
 lw_calls (fs := Tryz.fs) (an := a_graph_Graph_Ahead) (args := [(.pointer p0), (.int .i64 p1)]) Tryz.fsOK Tryz.mixed Tryz.func40 (by kernel_rfl) (by kernel_rfl)
 (Eq.mpr (by kernel_rfl : lwFn Tryz.prog Tryz.fs Tryz.f40 a_graph_Graph_Ahead [(.pointer p0), (.int .i64 p1)] w R = L_graph_Graph_Ahead p0 p1 R w) h)

/-- (*intaglio.graph.Graph).Reached -/
def a_graph_Graph_Reached : Ann := (.seq none .nil (.seq none .nil .nil))
def L_graph_Graph_Reached (p0 : Option Addr) (p1 : Int) (R : Value → World → Prop) (w : World) : Prop :=
 callR Tryz.prog 99 #[(.pointer p0), (.int .i64 p1)] w fun v1 w1 =>
 ∃ x2 : Bool, v1 = (.bool x2) ∧
 ifB x2
 (derefP p0 fun a3 =>
 callR Tryz.prog 96 #[(.pointer (some (a3.add 4))), (.int .i64 p1)] w1 fun v4 w2 =>
 ∃ x5 : Bool, v4 = (.bool x5) ∧
 R (.bool x5) w2)
 (R (.bool false) w1)
theorem graph_Graph_Reached_calls (p0 : Option Addr) (p1 : Int) (R : Value → World → Prop) (w : World) (h : L_graph_Graph_Reached p0 p1 R w) : Calls Tryz.prog 41 #[(.pointer p0), (.int .i64 p1)] w (Ret R) :=
 lw_calls (fs := Tryz.fs) (an := a_graph_Graph_Reached) (args := [(.pointer p0), (.int .i64 p1)]) Tryz.fsOK Tryz.mixed Tryz.func41 (by kernel_rfl) (by kernel_rfl)
 (Eq.mpr (by kernel_rfl : lwFn Tryz.prog Tryz.fs Tryz.f41 a_graph_Graph_Reached [(.pointer p0), (.int .i64 p1)] w R = L_graph_Graph_Reached p0 p1 R w) h)

/-- (*intaglio.graph.Graph).Order -/
def a_graph_Graph_Order : Ann := (.seq none .nil (.seq none (.seq none .nil (.cond (.seq none .nil .nil) .nil)) (.seq none .nil .nil)))
def L_graph_Graph_Order (p0 : Option Addr) (R : Value → World → Prop) (w : World) : Prop :=
 ifB (Option.isNone p0)
 (R (.slice none 0 0) w)
 (derefP p0 fun a1 =>
 ldS w (a1.add 3) fun x2 =>
 callR Tryz.prog 73 #[(.slice x2.a x2.l x2.c)] w fun v3 w1 =>
 ∃ x4 : Sl, v3 = (.slice x4.a x4.l x4.c) ∧
 R (.slice x4.a x4.l x4.c) w1)
theorem graph_Graph_Order_calls (p0 : Option Addr) (R : Value → World → Prop) (w : World) (h : L_graph_Graph_Order p0 R w) : Calls Tryz.prog 42 #[(.pointer p0)] w (Ret R) :=
 lw_calls (fs := Tryz.fs) (an := a_graph_Graph_Order) (args := [(.pointer p0)]) Tryz.fsOK Tryz.mixed Tryz.func42 (by kernel_rfl) (by kernel_rfl)
 (Eq.mpr (by kernel_rfl : lwFn Tryz.prog Tryz.fs Tryz.f42 a_graph_Graph_Order [(.pointer p0)] w R = L_graph_Graph_Order p0 R w) h)

/-- slices.Clone[[]int,int] -/
def a_slices_Clone_sint_int : Ann := (.seq none .nil (.seq none (.seq none .nil (.cond (.seq none .nil .nil) .nil)) (.seq none .nil .nil)))
def L_slices_Clone_sint_int (p0 : Sl) (R : Value → World → Prop) (w : World) : Prop :=
 ifB (Option.isNone p0.a)
 (R (.slice none 0 0) w)
 (Nw (w.alloc (.cells #[] 3)) fun w1 =>
 appendS Tryz.prog 26 (.slice (some (blk w.heap.size)) 0 0) (.slice p0.a p0.l p0.c) w1 fun r1 w2 =>
 R (.slice r1.a r1.l r1.c) w2)
theorem slices_Clone_sint_int_calls (p0 : Sl) (R : Value → World → Prop) (w : World) (h : L_slices_Clone_sint_int p0 R w) : Calls Tryz.prog 73 #[(.slice p0.a p0.l p0.c)] w (Ret R) :=
 lw_calls (fs := Tryz.fs) (an := a_slices_Clone_sint_int) (args := [(.slice p0.a p0.l p0.c)]) Tryz.fsOK Tryz.mixed Tryz.func73 (by kernel_rfl) (by kernel_rfl)
 (Eq.mpr (by kernel_rfl : lwFn Tryz.prog Tryz.fs Tryz.f73 a_slices_Clone_sint_int [(.slice p0.a p0.l p0.c)] w R = L_slices_Clone_sint_int p0 R w) h)

/-- (*intaglio.graph.bits).has -/
def a_graph_bits_has : Ann := (.seq none .nil (.seq none .nil .nil))
def L_graph_bits_has (p0 : Option Addr) (p1 : Int) (R : Value → World → Prop) (w : World) : Prop :=
 derefP p0 fun a1 =>
 (0 ≤ (IntKind.i64.wrap (Int.tdiv p1 (64 : Int))) ∧ (IntKind.i64.wrap (Int.tdiv p1 (64 : Int))) < (64 : Int)) ∧
 ldI w (a1.add (Int.toNat (IntKind.i64.wrap (Int.tdiv p1 (64 : Int))))) .u64 fun x2 =>
 ifB (decide ((Int.tmod p1 (64 : Int)) < 0))
 (False)
 (R (.bool ((IntKind.u64.wrap (BitVec.toNat (BitVec.ofInt (IntKind.bits .u64) (Int.fdiv x2 (2 ^ (min (Int.toNat (Int.tmod p1 (64 : Int))) (IntKind.bits .u64)))) &&& BitVec.ofInt (IntKind.bits .u64) (1 : Int)) : Int)) == (1 : Int))) w)
theorem graph_bits_has_calls (p0 : Option Addr) (p1 : Int) (R : Value → World → Prop) (w : World) (h : L_graph_bits_has p0 p1 R w) : Calls Tryz.prog 96 #[(.pointer p0), (.int .i64 p1)] w (Ret R) :=
 lw_calls (fs := Tryz.fs) (an := a_graph_bits_has) (args := [(.pointer p0), (.int .i64 p1)]) Tryz.fsOK Tryz.mixed Tryz.func96 (by kernel_rfl) (by kernel_rfl)
 (Eq.mpr (by kernel_rfl : lwFn Tryz.prog Tryz.fs Tryz.f96 a_graph_bits_has [(.pointer p0), (.int .i64 p1)] w R = L_graph_bits_has p0 p1 R w) h)

/-- (*intaglio.graph.bits).add -/
def a_graph_bits_add : Ann := .nil
def L_graph_bits_add (p0 : Option Addr) (p1 : Int) (R : Value → World → Prop) (w : World) : Prop :=
 derefP p0 fun a1 =>
 (0 ≤ (IntKind.i64.wrap (Int.tdiv p1 (64 : Int))) ∧ (IntKind.i64.wrap (Int.tdiv p1 (64 : Int))) < (64 : Int)) ∧
 ldI w.drew (a1.add (Int.toNat (IntKind.i64.wrap (Int.tdiv p1 (64 : Int))))) .u64 fun x2 =>
 ifB (decide ((Int.tmod p1 (64 : Int)) < 0))
 (False)
 (derefP p0 fun a3 =>
 (0 ≤ (IntKind.i64.wrap (Int.tdiv p1 (64 : Int))) ∧ (IntKind.i64.wrap (Int.tdiv p1 (64 : Int))) < (64 : Int)) ∧
 Wr w.drew (a3.add (Int.toNat (IntKind.i64.wrap (Int.tdiv p1 (64 : Int))))) ∧
 Nw (w.drew.setCell (a3.add (Int.toNat (IntKind.i64.wrap (Int.tdiv p1 (64 : Int))))) (.int .u64 (IntKind.u64.wrap (BitVec.toNat (BitVec.ofInt (IntKind.bits .u64) x2 ||| BitVec.ofInt (IntKind.bits .u64) (IntKind.u64.wrap ((1 : Int) * 2 ^ (min (Int.toNat (Int.tmod p1 (64 : Int))) (IntKind.bits .u64))))) : Int)))) fun w1 =>
 R (.tuple #[]) w1)
theorem graph_bits_add_calls (p0 : Option Addr) (p1 : Int) (R : Value → World → Prop) (w : World) (h : L_graph_bits_add p0 p1 R w) : Calls Tryz.prog 97 #[(.pointer p0), (.int .i64 p1)] w (Ret R) :=
 lw_calls (fs := Tryz.fs) (an := a_graph_bits_add) (args := [(.pointer p0), (.int .i64 p1)]) Tryz.fsOK Tryz.mixed Tryz.func97 (by kernel_rfl) (by kernel_rfl)
 (Eq.mpr (by kernel_rfl : lwFn Tryz.prog Tryz.fs Tryz.f97 a_graph_bits_add [(.pointer p0), (.int .i64 p1)] w R = L_graph_bits_add p0 p1 R w) h)

/-- (*intaglio.graph.Graph).walked -/
def a_graph_Graph_walked : Ann := (.seq none .nil (.seq none .nil (.seq none .nil (.seq none .nil .nil))))
def L_graph_Graph_walked (p0 : Option Addr) (R : Value → World → Prop) (w : World) : Prop :=
 Nw (w.alloc (.cells #[(.pointer p0)] 75)) fun w1 =>
 Nw (w1.alloc (.cells #[.nilFunc] 140)) fun w2 =>
 Wr w2 (blk w1.heap.size) ∧
 Nw (w2.setCell (blk w1.heap.size) (.func (.func 137) #[] #[(.pointer (some (blk w.heap.size))), (.pointer (some (blk w1.heap.size)))])) fun w3 =>
 ldR w3 (blk w1.heap.size) fun x1 =>
 callV Tryz.prog Tryz.fs x1 [(.int .i64 (0 : Int))] w3 fun v2 w4 =>
 v2 = (.tuple #[]) ∧
 ldP w4 (blk w.heap.size) fun x3 =>
 derefP x3 fun a4 =>
 ldS w4 (a4.add 3) fun x5 =>
 callR Tryz.prog 138 #[(.slice x5.a x5.l x5.c)] w4 fun v6 w5 =>
 v6 = (.tuple #[]) ∧
 R (.tuple #[]) w5
theorem graph_Graph_walked_calls (p0 : Option Addr) (R : Value → World → Prop) (w : World) (h : L_graph_Graph_walked p0 R w) : Calls Tryz.prog 98 #[(.pointer p0)] w (Ret R) :=
 lw_calls (fs := Tryz.fs) (an := a_graph_Graph_walked) (args := [(.pointer p0)]) Tryz.fsOK Tryz.mixed Tryz.func98 (by kernel_rfl) (by kernel_rfl)
 (Eq.mpr (by kernel_rfl : lwFn Tryz.prog Tryz.fs Tryz.f98 a_graph_Graph_walked [(.pointer p0)] w R = L_graph_Graph_walked p0 R w) h)

/-- (*intaglio.graph.Graph).is -/
def a_graph_Graph_is : Ann := (.seq none .nil (.seq none .nil .nil))
def L_graph_Graph_is (p0 : Option Addr) (p1 : Int) (R : Value → World → Prop) (w : World) : Prop :=
 ifB (decide (p1 ≥ (0 : Int)))
 (callR Tryz.prog 38 #[(.pointer p0)] w fun v1 w1 =>
 ∃ x2 : Int, v1 = (.int .i64 x2) ∧
 R (.bool (decide (p1 < x2))) w1)
 (R (.bool false) w)
theorem graph_Graph_is_calls (p0 : Option Addr) (p1 : Int) (R : Value → World → Prop) (w : World) (h : L_graph_Graph_is p0 p1 R w) : Calls Tryz.prog 99 #[(.pointer p0), (.int .i64 p1)] w (Ret R) :=
 lw_calls (fs := Tryz.fs) (an := a_graph_Graph_is) (args := [(.pointer p0), (.int .i64 p1)]) Tryz.fsOK Tryz.mixed Tryz.func99 (by kernel_rfl) (by kernel_rfl)
 (Eq.mpr (by kernel_rfl : lwFn Tryz.prog Tryz.fs Tryz.f99 a_graph_Graph_is [(.pointer p0), (.int .i64 p1)] w R = L_graph_Graph_is p0 p1 R w) h)

/-- (*intaglio.graph.Graph).walked 1 -/
def a_graph_Graph_walked_1 : Ann := (.seq none .nil (.seq none .nil (.seq none (.seq none .nil (.one (.loop ⟨[0, 1, 2, 27, 28], [(29, (.b (.int .i64)))]⟩ (.seq none .nil (.seq none (.cond .nil .nil) (.seq (some ⟨[0, 1, 2, 27, 28, 29], []⟩) (.one (.seq none .nil (.seq none .nil (.cond .nil .nil)))) .nil)))))) .nil)))
def L_graph_Graph_walked_1 (p0 : Int) (c0 : Addr) (c1 : Addr) (R : Value → World → Prop) (w : World) : Prop :=
 ldP w c0 fun x1 =>
 derefP x1 fun a2 =>
 callR Tryz.prog 97 #[(.pointer (some (a2.add 4))), (.int .i64 p0)] w fun v3 w1 =>
 v3 = (.tuple #[]) ∧
 ldP w1.drew c0 fun x4 =>
 ldP w1.drew c0 fun x5 =>
 derefP x5 fun a6 =>
 ldS w1.drew (a6.add 2) fun x7 =>
 Nw (w1.drew.alloc (.cells #[(.int .i64 p0)] 3)) fun w2 =>
 w2.cell? (a6.add 2) = some (.slice x7.a x7.l x7.c) ∧
 w2.cell? c0 = some (.pointer x5) ∧
 w2.cell? c0 = some (.pointer x4) ∧
 appendS Tryz.prog 26 (.slice x7.a x7.l x7.c) (.slice (some (blk w1.drew.heap.size)) 1 1) w2 fun r8 w3 =>
 w3.cell? c0 = some (.pointer x4) ∧
 derefP x4 fun a9 =>
 Wr w3 (a9.add 2) ∧
 Nw (w3.setCell (a9.add 2) (.slice r8.a r8.l r8.c)) fun w4 =>
 ldP w4 c0 fun x10 =>
 derefP x10 fun a11 =>
 ldS w4 a11 fun x12 =>
 (0 ≤ p0 ∧ p0 < (x12.l : Int)) ∧
 derefP x12.a fun a13 =>
 ldS w4 (a13.add (Int.toNat p0)) fun x14 =>
 LoopW (S := Int × Unit) (fun s15 w5 n16 =>
 ifB (decide (s15.1 < (x14.l : Int)))
 (JoinW (S := Unit) (fun m17 =>
 (0 ≤ s15.1 ∧ s15.1 < (x14.l : Int)) ∧
 derefP x14.a fun a19 =>
 ldI w5 (a19.add (Int.toNat s15.1)) .i64 fun x20 =>
 ldP w5 c0 fun x21 =>
 derefP x21 fun a22 =>
 callR Tryz.prog 96 #[(.pointer (some (a22.add 4))), (.int .i64 x20)] w5 fun v23 w6 =>
 ∃ x24 : Bool, v23 = (.bool x24) ∧
 ifB (!x24)
 (ldR w6 c1 fun x25 =>
 callV Tryz.prog Tryz.fs x25 [(.int .i64 x20)] w6 fun v26 w7 =>
 v26 = (.tuple #[]) ∧
 m17 (()) w7)
 (m17 (()) w6))
 (fun s18 w8 =>
 n16 ((IntKind.i64.wrap (s15.1 + (1 : Int))), ()) w8))
 (ldP w5.drew c0 fun x27 =>
 ldP w5.drew c0 fun x28 =>
 derefP x28 fun a29 =>
 ldS w5.drew (a29.add 3) fun x30 =>
 Nw (w5.drew.alloc (.cells #[(.int .i64 p0)] 3)) fun w9 =>
 w9.cell? (a29.add 3) = some (.slice x30.a x30.l x30.c) ∧
 w9.cell? c0 = some (.pointer x28) ∧
 w9.cell? c0 = some (.pointer x27) ∧
 appendS Tryz.prog 26 (.slice x30.a x30.l x30.c) (.slice (some (blk w5.drew.heap.size)) 1 1) w9 fun r31 w10 =>
 w10.cell? c0 = some (.pointer x27) ∧
 derefP x27 fun a32 =>
 Wr w10 (a32.add 3) ∧
 Nw (w10.setCell (a32.add 3) (.slice r31.a r31.l r31.c)) fun w11 =>
 R (.tuple #[]) w11))
 ((0 : Int), ()) w4
theorem graph_Graph_walked_1_calls (p0 : Int) (c0 : Addr) (c1 : Addr) (R : Value → World → Prop) (w : World) (h : L_graph_Graph_walked_1 p0 c0 c1 R w) : Calls Tryz.prog 137 #[(.int .i64 p0), (.pointer (some c0)), (.pointer (some c1))] w (Ret R) :=
 lw_calls (fs := Tryz.fs) (an := a_graph_Graph_walked_1) (args := [(.int .i64 p0), (.pointer (some c0)), (.pointer (some c1))]) Tryz.fsOK Tryz.mixed Tryz.func137 (by kernel_rfl) (by kernel_rfl)
 (Eq.mpr (by kernel_rfl : lwFn Tryz.prog Tryz.fs Tryz.f137 a_graph_Graph_walked_1 [(.int .i64 p0), (.pointer (some c0)), (.pointer (some c1))] w R = L_graph_Graph_walked_1 p0 c0 c1 R w) h)

/-- slices.Reverse[[]int,int] -/
def a_slices_Reverse_sint_int : Ann := (.seq none .nil (.one (.loop ⟨[0], [(2, (.b (.int .i64))), (3, (.b (.int .i64)))]⟩ (.seq none (.seq none .nil (.cond .nil .nil)) (.seq none (.one .nil) .nil)))))
def L_slices_Reverse_sint_int (p0 : Sl) (R : Value → World → Prop) (w : World) : Prop :=
 LoopW (S := Int × Int × Unit) (fun s1 w1 n2 =>
 ifB (decide (s1.1 < s1.2.1))
 ((0 ≤ s1.2.1 ∧ s1.2.1 < (p0.l : Int)) ∧
 derefP p0.a fun a3 =>
 ldI w1.drew (a3.add (Int.toNat s1.2.1)) .i64 fun x4 =>
 (0 ≤ s1.1 ∧ s1.1 < (p0.l : Int)) ∧
 derefP p0.a fun a5 =>
 ldI w1.drew (a5.add (Int.toNat s1.1)) .i64 fun x6 =>
 (0 ≤ s1.1 ∧ s1.1 < (p0.l : Int)) ∧
 derefP p0.a fun a7 =>
 Wr w1.drew (a7.add (Int.toNat s1.1)) ∧
 Nw (w1.drew.setCell (a7.add (Int.toNat s1.1)) (.int .i64 x4)) fun w2 =>
 (0 ≤ s1.2.1 ∧ s1.2.1 < (p0.l : Int)) ∧
 derefP p0.a fun a8 =>
 Wr w2 (a8.add (Int.toNat s1.2.1)) ∧
 Nw (w2.setCell (a8.add (Int.toNat s1.2.1)) (.int .i64 x6)) fun w3 =>
 n2 ((IntKind.i64.wrap (s1.1 + (1 : Int))), (IntKind.i64.wrap (s1.2.1 - (1 : Int))), ()) w3)
 (R (.tuple #[]) w1))
 ((0 : Int), (IntKind.i64.wrap ((p0.l : Int) - (1 : Int))), ()) w
theorem slices_Reverse_sint_int_calls (p0 : Sl) (R : Value → World → Prop) (w : World) (h : L_slices_Reverse_sint_int p0 R w) : Calls Tryz.prog 138 #[(.slice p0.a p0.l p0.c)] w (Ret R) :=
 lw_calls (fs := Tryz.fs) (an := a_slices_Reverse_sint_int) (args := [(.slice p0.a p0.l p0.c)]) Tryz.fsOK Tryz.mixed Tryz.func138 (by kernel_rfl) (by kernel_rfl)
 (Eq.mpr (by kernel_rfl : lwFn Tryz.prog Tryz.fs Tryz.f138 a_slices_Reverse_sint_int [(.slice p0.a p0.l p0.c)] w R = L_slices_Reverse_sint_int p0 R w) h)

end Go.Proofs
namespace Go.Gr

def addOnce (acc : List Nat) (x : Nat) : List Nat := if acc.contains x then acc else acc ++ [x]
def dedup (l : List Nat) : List Nat := l.foldl addOnce []
def aheadOf (nx : List (List Nat)) : List (List Nat) := (List.range nx.length).map fun j => (List.range nx.length).filter fun i => (nx.getD i []).contains j
/-- The walk comes to i: what has been come to, what has been left. -/
def visit (nx : List (List Nat)) : Nat → Nat → List Nat × List Nat → List Nat × List Nat
  | 0, _, s => s
  | f + 1, i, s => let r := (nx.getD i []).foldl (fun s t => if s.1.contains t then s else visit nx f t s) (s.1 ++ [i], s.2); (r.1, r.2 ++ [i])
def visitAll (nx : List (List Nat)) (f : Nat) (l : List Nat) (s : List Nat × List Nat) : List Nat × List Nat := l.foldl (fun s t => if s.1.contains t then s else visit nx f t s) s
theorem visit_succ (nx : List (List Nat)) (f i : Nat) (s : List Nat × List Nat) :
    visit nx (f + 1) i s = ((visitAll nx f (nx.getD i []) (s.1 ++ [i], s.2)).1, (visitAll nx f (nx.getD i []) (s.1 ++ [i], s.2)).2 ++ [i]) := rfl
theorem visitAll_snoc (nx : List (List Nat)) (f : Nat) (l : List Nat) (t : Nat) (s : List Nat × List Nat) :
    visitAll nx f (l ++ [t]) s = if (visitAll nx f l s).1.contains t then visitAll nx f l s else visit nx f t (visitAll nx f l s) := by
  simp [visitAll, List.foldl_append]
def walkOf (nx : List (List Nat)) : List Nat := (visit nx nx.length 0 ([], [])).1
def orderOf (nx : List (List Nat)) : List Nat := (visit nx nx.length 0 ([], [])).2.reverse

/-- What holds of what has been come to: each once, all nodes; more comes, nothing goes. -/
structure Came (n : Nat) (s s' : List Nat × List Nat) : Prop where
  nodup : s'.1.Nodup
  lt : ∀ x ∈ s'.1, x < n
  more : ∃ l, s'.1 = s.1 ++ l
theorem visit_came {nx : List (List Nat)} (hnx : ∀ i, ∀ t ∈ nx.getD i [], t < nx.length) : ∀ (f i : Nat) (s : List Nat × List Nat), i < nx.length → s.1.Nodup → (∀ x ∈ s.1, x < nx.length) → i ∉ s.1 →
    Came nx.length s (visit nx f i s) := by
  intro f
  induction f with
  | zero => intro i s _ h1 h2 _; exact ⟨h1, h2, [], by simp [visit]⟩
  | succ f ih =>
    intro i s hi h1 h2 h3
    have base : Came nx.length s (s.1 ++ [i], s.2) := ⟨by
        rw [List.nodup_append]
        exact ⟨h1, by simp, fun x hx y hy => by simp at hy; subst hy; intro e; subst e; exact h3 hx⟩, fun x hx => by
        simp at hx
        rcases hx with hx | rfl
        · exact h2 x hx
        · exact hi, [i], rfl⟩
    have all : ∀ (l : List Nat) (s' : List Nat × List Nat), (∀ t ∈ l, t < nx.length) → Came nx.length s s' → Came nx.length s (visitAll nx f l s') := by
      intro l
      induction l with
      | nil => intro s' _ h; exact h
      | cons t r ihl =>
        intro s' hl h
        show Came nx.length s (visitAll nx f r (if s'.1.contains t then s' else visit nx f t s'))
        refine ihl _ (fun x hx => hl x (List.mem_cons_of_mem _ hx)) ?_
        split
        · exact h
        · rename_i hc
          have hv := ih t s' (hl t (List.mem_cons_self ..)) h.nodup h.lt (by simpa using hc)
          obtain ⟨l1, e1⟩ := h.more
          obtain ⟨l2, e2⟩ := hv.more
          exact ⟨hv.nodup, hv.lt, l1 ++ l2, by rw [e2, e1, List.append_assoc]⟩
    rw [visit_succ]
    have := all (nx.getD i []) _ (hnx i) base
    exact ⟨this.nodup, this.lt, this.more⟩
theorem nodup_le : ∀ {n : Nat} {l : List Nat}, l.Nodup → (∀ x ∈ l, x < n) → l.length ≤ n
  | 0, l, _, hl => by
    cases l with
    | nil => simp
    | cons x r => exact absurd (hl x (List.mem_cons_self ..)) (by omega)
  | n + 1, l, h, hl => by
    by_cases hn : n ∈ l
    · have h1 := nodup_le (n := n) (l := l.erase n) (h.erase n) (fun x hx => by
        have h2 := (h.mem_erase_iff).1 hx
        have := hl x h2.2
        omega)
      rw [List.length_erase_of_mem hn] at h1
      omega
    · have := nodup_le (n := n) (l := l) h (fun x hx => by
        have h1 := hl x hx
        have h2 : x ≠ n := fun e => hn (e ▸ hx)
        omega)
      omega
theorem nodup_lt {n i : Nat} {l : List Nat} (h : l.Nodup) (hl : ∀ x ∈ l, x < n) (hi : i < n) (hni : i ∉ l) : l.length < n := by
  have : (l ++ [i]).length ≤ n := nodup_le (by
    rw [List.nodup_append]
    exact ⟨h, by simp, fun x hx y hy => by simp at hy; subst hy; intro e; subst e; exact hni hx⟩) (fun x hx => by
    simp at hx
    rcases hx with hx | rfl
    · exact hl x hx
    · exact hi)
  simp at this
  omega
/-- The edges once i rows, and k of the next one, have been gone through. -/
def nxP (rows : List (List Nat)) (i k : Nat) : List (List Nat) := (List.range rows.length).map fun j => if j < i then dedup (rows.getD j []) else if j = i then dedup ((rows.getD j []).take k) else []
theorem nxP_length (rows : List (List Nat)) (i k : Nat) : (nxP rows i k).length = rows.length := by simp [nxP]
theorem nxP_getD {rows : List (List Nat)} {i k j : Nat} (hj : j < rows.length) : (nxP rows i k).getD j [] = if j < i then dedup (rows.getD j []) else if j = i then dedup ((rows.getD j []).take k) else [] := by
  simp [nxP, List.getD, hj]
theorem nxP_zero (rows : List (List Nat)) : nxP rows 0 0 = List.replicate rows.length [] := by
  apply List.ext_getElem
  · simp [nxP]
  · intro j h1 h2
    simp only [nxP, List.getElem_map, List.getElem_range, List.getElem_replicate, List.take_zero]
    split
    · omega
    · split <;> rfl
theorem nxP_next (rows : List (List Nat)) (i : Nat) : nxP rows i (rows.getD i []).length = nxP rows (i + 1) 0 := by
  apply List.ext_getElem
  · simp [nxP]
  · intro j h1 h2
    simp only [nxP, List.getElem_map, List.getElem_range, List.take_zero]
    by_cases h : j < i
    · rw [if_pos h, if_pos (by omega)]
    · rw [if_neg h]
      by_cases h' : j = i
      · subst h'; rw [if_pos rfl, if_pos (by omega), List.take_length]
      · rw [if_neg h', if_neg (by omega)]; split <;> rfl
theorem nxP_all (rows : List (List Nat)) : nxP rows rows.length 0 = rows.map dedup := by
  apply List.ext_getElem
  · simp [nxP]
  · intro j h1 h2
    have hj : j < rows.length := by simpa using h2
    simp only [nxP, List.getElem_map, List.getElem_range, if_pos hj]
    simp [List.getD, hj]
theorem dedup_snoc (l : List Nat) (x : Nat) : dedup (l ++ [x]) = addOnce (dedup l) x := by simp [dedup, List.foldl_append]
theorem nxP_skip {rows : List (List Nat)} {i k : Nat} (hi : i < rows.length) (hk : k < (rows.getD i []).length) (h : ((nxP rows i k).getD i []).contains ((rows.getD i [])[k]) = true) : nxP rows i (k + 1) = nxP rows i k := by
  apply List.ext_getElem
  · simp [nxP]
  · intro j h1 h2
    simp only [nxP, List.getElem_map, List.getElem_range]
    by_cases hji : j < i
    · rw [if_pos hji, if_pos hji]
    · rw [if_neg hji, if_neg hji]
      by_cases h' : j = i
      · subst h'
        rw [if_pos rfl, if_pos rfl, List.take_succ_eq_append_getElem hk, dedup_snoc]
        rw [nxP_getD hi, if_neg (by omega), if_pos rfl] at h
        unfold addOnce
        rw [if_pos h]
      · rw [if_neg h', if_neg h']
theorem nxP_push {rows : List (List Nat)} {i k : Nat} (hi : i < rows.length) (hk : k < (rows.getD i []).length) (h : ((nxP rows i k).getD i []).contains ((rows.getD i [])[k]) = false) :
    nxP rows i (k + 1) = (nxP rows i k).set i ((nxP rows i k).getD i [] ++ [(rows.getD i [])[k]]) := by
  apply List.ext_getElem
  · simp [nxP]
  · intro j h1 h2
    by_cases h' : j = i
    · subst h'
      rw [List.getElem_set_self, nxP_getD hi]
      rw [nxP_getD hi, if_neg (by omega), if_pos rfl] at h
      rw [if_neg (by omega), if_pos rfl]
      simp only [nxP, List.getElem_map, List.getElem_range]
      rw [if_neg (by omega), if_pos trivial, List.take_succ_eq_append_getElem hk, dedup_snoc]
      unfold addOnce
      rw [if_neg (by rw [h]; simp)]
    · rw [List.getElem_set_ne (by omega)]
      simp only [nxP, List.getElem_map, List.getElem_range]
      rw [if_neg h', if_neg h']
theorem ahead_length (nx : List (List Nat)) : (aheadOf nx).length = nx.length := by simp [aheadOf]
theorem ahead_getD {nx : List (List Nat)} {j : Nat} (hj : j < nx.length) : (aheadOf nx).getD j [] = (List.range nx.length).filter fun i => (nx.getD i []).contains j := by
  simp [aheadOf, List.getD, hj]
/-- One edge more, from the last row that has any. -/
theorem ahead_push {nx : List (List Nat)} {i x : Nat} (hi : i < nx.length) (hx : x < nx.length) (hni : (nx.getD i []).contains x = false) (hgt : ∀ j, i < j → nx.getD j [] = []) :
    aheadOf (nx.set i (nx.getD i [] ++ [x])) = (aheadOf nx).set x ((aheadOf nx).getD x [] ++ [i]) := by
  have hget : ∀ a, (nx.set i (nx.getD i [] ++ [x])).getD a [] = if a = i then nx.getD i [] ++ [x] else nx.getD a [] := by
    intro a
    by_cases h : a = i
    · subst h; rw [if_pos rfl]; simp [List.getD, hi]
    · rw [if_neg h]; simp only [List.getD]; rw [List.getElem?_set_ne (by omega)]
  apply List.ext_getElem
  · simp [aheadOf]
  · intro j h1 h2
    have hj : j < nx.length := by simpa [aheadOf] using h1
    by_cases h : j = x
    · subst h
      rw [List.getElem_set_self, ahead_getD hj]
      simp only [aheadOf, List.getElem_map, List.getElem_range, List.length_set]
      have e1 : List.range nx.length = List.range i ++ i :: (List.range (nx.length - i - 1)).map (· + (i + 1)) := by
        apply List.ext_getElem
        · simp; omega
        · intro a g1 g2
          rw [List.getElem_range]
          rcases Nat.lt_trichotomy a i with g | g | g
          · rw [List.getElem_append_left (by simpa using g)]; simp
          · subst g; rw [List.getElem_append_right (by simp)]; simp
          · rw [List.getElem_append_right (by simp; omega), List.getElem_cons]
            simp only [List.length_range]
            rw [dif_neg (by omega)]
            simp; omega
      rw [e1, List.filter_append, List.filter_append, List.filter_cons, List.filter_cons, hget i, if_pos rfl, hni]
      have e2 : ∀ (p : Nat → Bool), (∀ a, i < a → p a = false) → ((List.range (nx.length - i - 1)).map (· + (i + 1))).filter p = [] := by
        intro p hp
        rw [List.filter_eq_nil_iff]
        intro a ha
        simp only [List.mem_map] at ha
        obtain ⟨b, _, rfl⟩ := ha
        rw [hp _ (by omega)]
        simp
      rw [e2 _ (fun a ha => by rw [hget a, if_neg (by omega), hgt a ha]; rfl), e2 _ (fun a ha => by rw [hgt a ha]; rfl)]
      have e3 : (List.range i).filter (fun a => ((nx.set i (nx.getD i [] ++ [j])).getD a []).contains j) = (List.range i).filter (fun a => (nx.getD a []).contains j) := by
        apply List.filter_congr
        intro a ha
        have := List.mem_range.1 ha
        rw [hget a, if_neg (by omega)]
      rw [e3]
      simp
    · rw [List.getElem_set_ne (by omega)]
      simp only [aheadOf, List.getElem_map, List.getElem_range, List.length_set]
      apply List.filter_congr
      intro a _
      rw [hget a]
      split
      · rename_i g; subst g
        rw [Bool.eq_iff_iff]
        simp [h]
      · rfl
theorem mem_dedup {l : List Nat} {x : Nat} : x ∈ dedup l ↔ x ∈ l := by
  have : ∀ (l acc : List Nat), x ∈ l.foldl addOnce acc ↔ x ∈ acc ∨ x ∈ l := by
    intro l
    induction l with
    | nil => simp
    | cons y r ih =>
      intro acc
      rw [List.foldl_cons, ih]
      unfold addOnce
      split
      · rename_i h
        have h : y ∈ acc := by simpa using h
        constructor
        · rintro (h1 | h1)
          · exact .inl h1
          · exact .inr (List.mem_cons_of_mem _ h1)
        · rintro (h1 | h1)
          · exact .inl h1
          · cases h1 with
            | head => exact .inl h
            | tail _ h1 => exact .inr h1
      · simp [or_assoc]
  unfold dedup
  simpa using this l []

theorem dedup_nodup (l : List Nat) : (dedup l).Nodup := by
  have : ∀ (l acc : List Nat), acc.Nodup → (l.foldl addOnce acc).Nodup := by
    intro l
    induction l with
    | nil => exact fun _ h => h
    | cons y r ih =>
      intro acc h
      rw [List.foldl_cons]
      refine ih _ ?_
      unfold addOnce
      split
      · exact h
      · rename_i hc
        rw [List.nodup_append]
        refine ⟨h, by simp, fun a ha b hb => ?_⟩
        simp at hb
        subst hb
        intro e
        subst e
        exact hc (by simpa using ha)
  exact this l [] List.nodup_nil
theorem dedup_le {n : Nat} {l : List Nat} (h : ∀ x ∈ l, x < n) : (dedup l).length ≤ n := nodup_le (dedup_nodup l) fun x hx => h x (mem_dedup.1 hx)
theorem ahead_le (nx : List (List Nat)) (j : Nat) : ((aheadOf nx).getD j []).length ≤ nx.length := by
  by_cases hj : j < nx.length
  · rw [ahead_getD hj]
    have := List.length_filter_le (fun i => (nx.getD i []).contains j) (List.range nx.length)
    simpa using this
  · simp [List.getD, ahead_length, hj]

/-- As many come as go. -/
theorem visit_len (nx : List (List Nat)) : ∀ (f i : Nat) (s : List Nat × List Nat), (visit nx f i s).1.length + s.2.length = s.1.length + (visit nx f i s).2.length := by
  intro f
  induction f with
  | zero => intro i s; rfl
  | succ f ih =>
    intro i s
    have all : ∀ (l : List Nat) (s : List Nat × List Nat), (visitAll nx f l s).1.length + s.2.length = s.1.length + (visitAll nx f l s).2.length := by
      intro l
      induction l with
      | nil => intro s; rfl
      | cons t r ihl =>
        intro s
        have h1 := ihl (if s.1.contains t then s else visit nx f t s)
        have h2 : visitAll nx f (t :: r) s = visitAll nx f r (if s.1.contains t then s else visit nx f t s) := rfl
        rw [h2]
        split at h1 <;> split
        · exact h1
        · rename_i a b; exact absurd a b
        · rename_i a b; exact absurd b a
        · have := ih t s; omega
    have := all (nx.getD i []) (s.1 ++ [i], s.2)
    rw [visit_succ]
    simp only [List.length_append, List.length_cons, List.length_nil] at this ⊢
    omega
end Go.Gr
namespace Go.Proofs
open Go.Gk Go.RowKit


theorem Ints_spec {s t : Sl} {l m : List Int} {w : World} {R : Value → World → Prop} (hs : IsI w s l) (ht : IsI w t m) (hR : ∀ w', w'.heap = w.heap → Below w.heap.size w w' → R (.bool (decide (l = m))) w') :
    callR Tryz.prog 26 #[.slice s.a s.l s.c, .slice t.a t.l t.c] w R := by
  refine callR.of (intagliokit_Ints_calls s t R w ?_) fun _ _ h => h
  have e1 := hs.len
  have e2 := ht.len
  refine ifB_bne (fun hne => ?_) (fun he => ?_)
  · have : decide (l = m) = false := by
      rw [decide_eq_false_iff_not]; intro e; subst e; omega
    have := this ▸ hR w rfl (Below.refl _ _)
    exact this
  · have hlm : l.length = m.length := by omega
    refine LoopW.count l.length hs.bound (fun k w' => w'.heap = w.heap ∧ Below w.heap.size w w' ∧ l.take k = m.take k) ⟨rfl, Below.refl _ _, by simp⟩ ?_
    rintro k w' hk ⟨hh, hb, hI⟩ next hnext
    refine ifB_dec (fun hlt => ?_) (fun hge => ?_)
    · have hlt : k < l.length := by dsimp only at hlt; omega
      refine elemI (hs.heap (w' := w'.drew) hh) hlt (elemI (ht.heap (w' := w'.drew) hh) (by omega) (ifB_bne (fun hne => ?_) (fun he => ?_)))
      · have : decide (l = m) = false := by
          rw [decide_eq_false_iff_not]; intro e; subst e; exact hne rfl
        have := this ▸ hR w'.drew hh hb.drew
        exact this
      · exact hnext _ hlt ⟨hh, hb.drew, by rw [List.take_succ_eq_append_getElem hlt, List.take_succ_eq_append_getElem (by omega), hI, he]⟩
    · have : l = m := by
        have hk' : k = l.length := by dsimp only at hge; omega
        subst hk'
        rwa [List.take_length, hlm, List.take_length] at hI
      have := (decide_eq_true this) ▸ hR w' hh hb
      exact this

theorem Clone_spec {α : Type} {f : α → Value} {s : Sl} {l : List α} {w : World} {R : Value → World → Prop} (hf : ∀ x, (f x).oneCell' = true) (h : IsS f w s l) (hl : l.length * 8 ≤ 140737488355328)
    (hR : ∀ r w', Own w' 3 1 r (l.map f) → Fresh w.heap.size r → Below w.heap.size w w' → R (.slice r.a r.l r.c) w') :
    callR Tryz.prog 73 #[.slice s.a s.l s.c] w R := by
  refine callR.of (slices_Clone_sint_int_calls s R w ?_) fun _ _ h => h
  refine ifB_bool (fun hn => ?_) (fun hn => ?_)
  · have hn : s.a = none := by simpa using hn
    have hc := h.nil hn
    have : l = [] := List.eq_nil_of_length_eq_zero (by have := h.len; have := h.cap; omega)
    subst this
    exact hR ⟨none, 0, 0⟩ w (Own.nil _ _ _) (fun a ha => by cases ha) (Below.refl _ _)
  · obtain ⟨a, ha⟩ : ∃ a, s.a = some a := by
      cases hs : s.a with
      | none => rw [hs] at hn; cases hn
      | some a => exact ⟨a, rfl⟩
    refine Nw.gen fun w1 hw1 => ?_
    have hB : Blk w1 w.heap.size 3 [] := by rw [hw1]; exact Blk.new w 3 #[]
    have hb1 : Below w.heap.size w w1 := by rw [hw1]; exact (Below.refl _ _).alloc (Nat.le_refl _) _
    have hO : Own w1 3 1 ⟨some (blk w.heap.size), 0, 0⟩ [] := ⟨rfl, .inr ⟨_, [], rfl, hB, Nat.le_refl _, by simp, rfl, rfl⟩⟩
    have h' := h.below hb1
    rw [ha, h.len]
    refine append_own eInt hO (m := l.length) (news := l.map f) (by simp) (fun j u hj => ?_) (fun u hu => ?_) (by have := h.bound; simp; omega) (by simpa using hl) fun r w' h1 _ h3 => ?_
    · rw [List.getElem?_map] at hj
      obtain ⟨x, hx, rfl⟩ := Option.map_eq_some_iff.1 hj
      obtain ⟨hlt, rfl⟩ := List.getElem?_eq_some_iff.1 hx
      exact h'.cell a ha j hlt
    · obtain ⟨x, _, rfl⟩ := List.mem_map.1 hu
      exact hf x
    · rcases h3 with ⟨_, rfl, rfl⟩ | ⟨b, h4, h5, h6⟩
      · exact hR _ _ h1 (fun a ha => by cases ha; exact Nat.le_refl _) hb1
      · have hbb : w.heap.size ≤ b := by
          rcases h5 with h5 | h5
          · cases h5; exact Nat.le_refl _
          · have := hb1.size; omega
        refine hR _ _ h1 (fun a ha => by rw [h4] at ha; cases ha; exact hbb) (hb1.trans (below_grown h6 hbb hb1.size))

end Go.Proofs

namespace Go.Proofs
open Go.Gk Go.RowKit

/-- 64 words at a hold the set S of numbers below 4096. -/
def Bits (w : World) (a : Addr) (S : Nat → Bool) : Prop :=
  a.spot = none ∧ ∀ j, j < 64 → ∃ x : Nat, x < 2 ^ 64 ∧ w.cell? (a.add j) = some (.int .u64 x) ∧ w.frozen? (a.add j) = false ∧ ∀ k, k < 64 → x.testBit k = S (64 * j + k)
theorem Bits.of_block {w w' : World} {a : Addr} {S : Nat → Bool} (h : Bits w a S) (hb : w'.heap[a.block]? = w.heap[a.block]?) : Bits w' a S := by
  refine ⟨h.1, fun j hj => ?_⟩
  obtain ⟨x, h1, h2, h3, h4⟩ := h.2 j hj
  refine ⟨x, h1, ?_, ?_, h4⟩
  · rw [World.cell?_of_block (w := w) (by rw [add_block]; exact hb)]; exact h2
  · rw [World.frozen?_of_block (w := w) (by rw [add_block]; exact hb)]; exact h3
theorem Bits.new (w : World) (T : TypeId) : Bits (w.alloc (.cells (List.toArray (List.replicate 64 (.int .u64 (0 : Int)))) T)) (blk w.heap.size) fun _ => false := by
  have hB := Blk.new w T (List.toArray (List.replicate 64 (.int .u64 (0 : Int))))
  refine ⟨rfl, fun j hj => ⟨0, by decide, hB.cell ?_, hB.frozen j, fun k _ => by simp⟩⟩
  rw [List.getElem?_replicate, if_pos hj]
  rfl

theorem bit_has (x k : Nat) (hx : x < 2 ^ 64) (hk : k < 64) :
    ((IntKind.u64.wrap (BitVec.toNat (BitVec.ofInt (IntKind.bits .u64) (Int.fdiv (x : Int) (2 ^ (min k (IntKind.bits .u64)))) &&& BitVec.ofInt (IntKind.bits .u64) (1 : Int)) : Int)) == (1 : Int)) = x.testBit k := by
  have hb : IntKind.bits .u64 = 64 := rfl
  have hm : min k (IntKind.bits .u64) = k := by rw [hb]; omega
  rw [hm]
  have e1 : Int.fdiv (x : Int) (2 ^ k) = ((x / 2 ^ k : Nat) : Int) := by
    rw [show ((2 : Int) ^ k) = ((2 ^ k : Nat) : Int) by simp, Int.ofNat_fdiv]
  rw [e1]
  have e2 : (BitVec.ofInt (IntKind.bits .u64) ((x / 2 ^ k : Nat) : Int) &&& BitVec.ofInt (IntKind.bits .u64) (1 : Int)).toNat = x / 2 ^ k % 2 := by
    rw [BitVec.toNat_and, BitVec.ofInt_natCast, BitVec.toNat_ofNat, show (BitVec.ofInt (IntKind.bits .u64) (1 : Int)).toNat = 1 from rfl, Nat.and_one_is_mod, hb]
    have : x / 2 ^ k < 2 ^ 64 := Nat.lt_of_le_of_lt (Nat.div_le_self _ _) hx
    rw [Nat.mod_eq_of_lt this]
  rw [e2, IntKind.wrap_u64, Nat.testBit_eq_decide_div_mod_eq]
  rcases Nat.mod_two_eq_zero_or_one (x / 2 ^ k) with h | h <;> simp [h]
theorem bit_add (x k : Nat) (hx : x < 2 ^ 64) (hk : k < 64) :
    (IntKind.u64.wrap (BitVec.toNat (BitVec.ofInt (IntKind.bits .u64) (x : Int) ||| BitVec.ofInt (IntKind.bits .u64) (IntKind.u64.wrap ((1 : Int) * 2 ^ (min k (IntKind.bits .u64))))) : Int)) = ((x ||| 2 ^ k : Nat) : Int) ∧ x ||| 2 ^ k < 2 ^ 64 := by
  have hb : IntKind.bits .u64 = 64 := rfl
  have hm : min k (IntKind.bits .u64) = k := by rw [hb]; omega
  rw [hm]
  have hp : 2 ^ k < 2 ^ 64 := Nat.pow_lt_pow_right (by omega) hk
  have e1 : IntKind.u64.wrap ((1 : Int) * 2 ^ k) = ((2 ^ k : Nat) : Int) := by
    rw [show (1 : Int) * 2 ^ k = ((2 ^ k : Nat) : Int) by simp, IntKind.wrap_u64]
    generalize 2 ^ k = p at hp
    omega
  have hlt : x ||| 2 ^ k < 2 ^ 64 := Nat.or_lt_two_pow hx hp
  refine ⟨?_, hlt⟩
  rw [e1, BitVec.toNat_or, BitVec.ofInt_natCast, BitVec.ofInt_natCast, BitVec.toNat_ofNat, BitVec.toNat_ofNat, hb, Nat.mod_eq_of_lt hx, Nat.mod_eq_of_lt hp, IntKind.wrap_u64]
  omega
theorem wrap_div (i : Nat) (hi : i < 4096) : IntKind.i64.wrap (Int.tdiv (i : Int) (64 : Int)) = ((i / 64 : Nat) : Int) := by
  have : Int.tdiv (i : Int) 64 = ((i / 64 : Nat) : Int) := by rw [Int.tdiv_eq_ediv_of_nonneg (by omega)]; omega
  rw [this, wrap64_in (by omega) (by omega)]
theorem tmod_64 (i : Nat) : Int.tmod (i : Int) 64 = ((i % 64 : Nat) : Int) := by
  rw [Int.tmod_eq_emod_of_nonneg (by omega)]; omega

theorem has_spec {a : Addr} {S : Nat → Bool} {i : Nat} (hi : i < 4096) {w : World} {R : Value → World → Prop} (h : Bits w a S) (hR : R (.bool (S i)) w) :
    callR Tryz.prog 96 #[.pointer (some a), .int .i64 i] w R := by
  refine callR.of (graph_bits_has_calls _ _ R w ?_) fun _ _ h => h
  unfold L_graph_bits_has
  obtain ⟨x, h1, h2, _, h4⟩ := h.2 (i / 64) (by omega)
  rw [wrap_div i hi, tmod_64]
  refine ⟨⟨by omega, by omega⟩, x, h2, ifB_dec (fun hlt => by omega) (fun _ => ?_)⟩
  rw [Int.toNat_natCast, bit_has x (i % 64) h1 (by omega), h4 _ (by omega), Nat.div_add_mod]
  exact hR

theorem add_spec {a : Addr} {S : Nat → Bool} {i : Nat} (hi : i < 4096) {w : World} {R : Value → World → Prop} (h : Bits w a S)
    (hR : ∀ x : Nat, Bits (w.drew.setCell (a.add (i / 64)) (.int .u64 x)) a (fun j => S j || j == i) → R (.tuple #[]) (w.drew.setCell (a.add (i / 64)) (.int .u64 x))) :
    callR Tryz.prog 97 #[.pointer (some a), .int .i64 i] w R := by
  refine callR.of (graph_bits_add_calls _ _ R w ?_) fun _ _ h => h
  unfold L_graph_bits_add
  obtain ⟨x, h1, h2, h3, h4⟩ := h.2 (i / 64) (by omega)
  rw [wrap_div i hi, tmod_64]
  refine ⟨⟨by omega, by omega⟩, x, h2, ifB_dec (fun hlt => by omega) (fun _ => ?_)⟩
  refine ⟨⟨by omega, by omega⟩, ⟨⟨_, h2⟩, h3⟩, Nw.mk ?_⟩
  obtain ⟨e1, e2⟩ := bit_add x (i % 64) h1 (by omega)
  rw [Int.toNat_natCast, Int.toNat_natCast, e1]
  refine hR _ ⟨h.1, fun j hj => ?_⟩
  have hblk : (a.add j).block = (a.add (i / 64)).block := by rw [add_block, add_block]
  have hfz : ∀ v, (w.drew.setCell (a.add (i / 64)) v).frozen? (a.add j) = w.frozen? (a.add j) := fun v => by simp
  by_cases hj' : j = i / 64
  · subst hj'
    refine ⟨x ||| 2 ^ (i % 64), e2, ?_, by rw [hfz]; exact h3, fun k hk => ?_⟩
    · exact World.cell?_setCell_same _ _ _ (by exact h2)
    · rw [Nat.testBit_or, h4 k hk, Nat.testBit_two_pow]
      congr 1
      have := Nat.div_add_mod i 64
      by_cases hki : i % 64 = k
      · simp [hki]; omega
      · simp [hki]; omega
  · obtain ⟨y, g1, g2, g3, g4⟩ := h.2 j hj
    refine ⟨y, g1, ?_, by rw [hfz]; exact g3, fun k hk => ?_⟩
    · rw [World.cell?_setCell_other]
      · exact g2
      · have hs := h.1
        obtain ⟨ab, ao, asp⟩ := a
        simp only at hs
        subst hs
        unfold Addr.add
        split <;> split <;> simp <;> omega
    · rw [g4 k hk]
      have : (64 * j + k == i) = false := by simp; omega
      simp [this]

end Go.Proofs

namespace Go.Proofs
open Go.Gk Go.RowKit Go.Gr

/-- The cell of a node's number. -/
abbrev iN (x : Nat) : Value := .int .i64 (x : Int)
abbrev IsN (w : World) (s : Sl) (l : List Nat) : Prop := IsS iN w s l
theorem iN_one (x : Nat) : (iN x).oneCell' = true := rfl
theorem elemN {w : World} {s : Sl} {l : List Nat} (h : IsN w s l) {k : Nat} (hk : k < l.length) {φ : Int → Prop} (hφ : φ (l[k] : Int)) :
    (0 ≤ (k : Int) ∧ (k : Int) < (s.l : Int)) ∧ derefP s.a fun a => ldI w (a.add (Int.toNat (k : Int))) .i64 φ :=
  h.addr hk fun a _ hc => ⟨(l[k] : Int), hc, hφ⟩
theorem Reverse_spec {s : Sl} {l : List Nat} {w : World} {R : Value → World → Prop} (h : Own w 3 1 s (l.map iN))
    (hR : ∀ w', Own w' 3 1 s (l.reverse.map iN) → Only s w w' → R (.tuple #[]) w') :
    callR Tryz.prog 138 #[.slice s.a s.l s.c] w R := by
  refine callR.of (slices_Reverse_sint_int_calls s R w ?_) fun _ _ h => h
  have hlen : s.l = l.length := by have := h.1; simp at this; omega
  have hbd := h.isS.bound
  unfold L_slices_Reverse_sint_int
  rw [hlen, wrap64_in (by omega) (by omega)]
  -- behind i rounds the first i and the last i stand turned
  let M : Nat → List Nat := fun i => (List.range l.length).map fun k => if k < i ∨ l.length ≤ k + i then l.getD (l.length - 1 - k) 0 else l.getD k 0
  have hM0 : M 0 = l := by
    apply List.ext_getElem
    · simp [M]
    · intro k h1 h2
      have h2' : ¬ l.length ≤ k := by omega
      simp [M, h2', h2]
  refine LoopW.ghost (fun j st w' => ∃ i : Nat, 2 * i ≤ l.length + 1 ∧ j = l.length + 1 - i ∧ st = ((i : Int), (l.length : Int) - 1 - i, ()) ∧ Only s w w' ∧ Own w' 3 1 s ((M i).map iN)) _ ⟨0, by omega, rfl, by simp, Only.refl _ _, by rw [hM0]; exact h⟩ ?_
  rintro _ _ w' ⟨i, hi, rfl, rfl, hO, hX⟩ next hnext
  refine ifB_dec (fun hlt => ?_) (fun hge => ?_)
  · have hlt : 2 * i + 1 < l.length := by dsimp only at hlt; omega
    have hj : (l.length : Int) - 1 - i = ((l.length - 1 - i : Nat) : Int) := by omega
    have hX' : Own w'.drew 3 1 s ((M i).map iN) := hX
    have hS := hX'.isS
    have hml : (M i).length = l.length := by simp [M]
    dsimp only
    rw [hj]
    have g1 : (M i)[l.length - 1 - i]'(by rw [hml]; omega) = l.getD (l.length - 1 - i) 0 := by
      simp only [M, List.getElem_map, List.getElem_range]
      rw [if_neg (by omega)]
    have g2 : (M i)[i]'(by rw [hml]; omega) = l.getD i 0 := by
      simp only [M, List.getElem_map, List.getElem_range]
      rw [if_neg (by omega)]
    rw [show (l.length : Int) = (s.l : Int) by omega]
    refine elemN hS (by rw [hml]; omega) (elemN hS (by rw [hml]; omega) ?_)
    rcases hX'.2 with e | ⟨b, cs, ha, hB, h1, h2, h3, h4⟩
    · rw [e] at hlen; simp at hlen; omega
    · refine ⟨⟨by omega, by omega⟩, derefP_some ha ⟨hB.wr (n := i) (by omega), Nw.mk ?_⟩⟩
      have hB2 := hB.set i (iN ((M i)[l.length - 1 - i]'(by rw [hml]; omega)))
      refine ⟨⟨by omega, by omega⟩, derefP_some ha ⟨hB2.wr (n := l.length - 1 - i) (by rw [List.length_set]; omega), Nw.mk ?_⟩⟩
      have hB3 := hB2.set (l.length - 1 - i) (iN ((M i)[i]'(by rw [hml]; omega)))
      have e1 : IntKind.i64.wrap ((i : Int) + 1) = ((i + 1 : Nat) : Int) := wrap64_succ (by omega)
      have e2 : IntKind.i64.wrap (((l.length - 1 - i : Nat) : Int) - 1) = (l.length : Int) - 1 - ((i + 1 : Nat) : Int) := by rw [wrap64_in (by omega) (by omega)]; omega
      rw [e1, e2]
      refine hnext (l.length + 1 - (i + 1)) _ _ (by omega) ⟨i + 1, by omega, rfl, rfl, (hO.drew.set ha _ _).set ha _ _, ?_⟩
      refine ⟨by simp [M, hlen], .inr ⟨b, _, ha, hB3, h1, h2, by simpa using h3, ?_⟩⟩
      have hcs : ∀ k, k < l.length → cs[k]? = some (iN (l.getD (if k < i ∨ l.length ≤ k + i then l.length - 1 - k else k) 0)) := by
        intro k hk
        have : (cs.take (s.l * 1))[k]? = cs[k]? := List.getElem?_take_of_lt (by omega)
        rw [← this, h4]
        simp only [M, List.getElem?_map, List.getElem?_range hk, Option.map_some]
        split <;> rfl
      apply List.ext_getElem?
      intro k
      by_cases hk : k < l.length
      · rw [List.getElem?_take_of_lt (by omega)]
        simp only [M, List.getElem?_map, List.getElem?_range hk, Option.map_some]
        by_cases k1 : k = l.length - 1 - i
        · subst k1
          rw [List.getElem?_set_self (by rw [List.length_set]; omega), g2, if_pos (by omega)]
          congr 3
          omega
        · rw [List.getElem?_set_ne (by omega)]
          by_cases k2 : k = i
          · subst k2
            rw [List.getElem?_set_self (by omega), g1, if_pos (by omega)]
          · rw [List.getElem?_set_ne (by omega), hcs k hk]
            by_cases k3 : k < i ∨ l.length ≤ k + i
            · rw [if_pos k3, if_pos (by omega)]
            · rw [if_neg k3, if_neg (by omega)]
      · rw [List.getElem?_eq_none (by simp; omega), List.getElem?_eq_none (by simp [M]; omega)]
  · have hge : l.length ≤ 2 * i + 1 := by dsimp only at hge; omega
    refine hR w' ?_ hO
    have : M i = l.reverse := by
      apply List.ext_getElem
      · simp [M]
      · intro k h1 h2
        have hk : k < l.length := by simpa using h2
        simp only [M, List.getElem_map, List.getElem_range, List.getElem_reverse]
        by_cases k3 : k < i ∨ l.length ≤ k + i
        · rw [if_pos k3]; simp [List.getD, show l.length - 1 - k < l.length by omega]
        · rw [if_neg k3]
          have : k = l.length - 1 - k := by omega
          simp only [List.getD, List.getElem?_eq_getElem hk, Option.getD_some]
          congr 1
    rw [← this]
    exact hX

end Go.Proofs

namespace Go.Proofs
open Go.Gk Go.RowKit Go.Gr

/-- 64 words that hold the set S. -/
def BitsL (bs : List Value) (S : Nat → Bool) : Prop :=
  bs.length = 64 ∧ ∀ j, j < 64 → ∃ x : Nat, x < 2 ^ 64 ∧ bs[j]? = some (.int .u64 (x : Int)) ∧ ∀ k, k < 64 → x.testBit k = S (64 * j + k)
theorem BitsL.zero : BitsL (List.replicate 64 (.int .u64 (0 : Int))) fun _ => false :=
  ⟨List.length_replicate, fun j hj => ⟨0, by decide, by rw [List.getElem?_replicate, if_pos hj]; rfl, fun k _ => Nat.zero_testBit k⟩⟩
theorem BitsL.bits {w : World} {b : Nat} {T : TypeId} {v0 v1 v2 v3 : Value} {bs : List Value} {S : Nat → Bool} (h : Blk w b T (v0 :: v1 :: v2 :: v3 :: bs)) (hb : BitsL bs S) : Bits w ((blk b).add 4) S := by
  refine ⟨by rw [add_blk], fun j hj => ?_⟩
  obtain ⟨x, h1, h2, h3⟩ := hb.2 j hj
  rw [add_add _ _ _ rfl]
  refine ⟨x, h1, h.cell ?_, h.frozen _, h3⟩
  rw [show 4 + j = j + 1 + 1 + 1 + 1 by omega]
  simpa using h2
theorem Bits.list {w : World} {b : Nat} {T : TypeId} {v0 v1 v2 v3 : Value} {bs : List Value} {S : Nat → Bool} (h : Blk w b T (v0 :: v1 :: v2 :: v3 :: bs)) (hl : bs.length = 64) (hb : Bits w ((blk b).add 4) S) : BitsL bs S := by
  refine ⟨hl, fun j hj => ?_⟩
  obtain ⟨x, h1, h2, _, h3⟩ := hb.2 j hj
  rw [add_add _ _ _ rfl] at h2
  have hj' : bs[j]? = some bs[j] := List.getElem?_eq_getElem (by omega)
  have := h.cell (n := 4 + j) (v := bs[j]) (by rw [show 4 + j = j + 1 + 1 + 1 + 1 by omega]; exact hj')
  rw [h2] at this
  exact ⟨x, h1, by rw [hj', ← Option.some.inj this], h3⟩
theorem BitsL.congr {bs : List Value} {S S' : Nat → Bool} (h : BitsL bs S) (hs : ∀ i, S i = S' i) : BitsL bs S' :=
  ⟨h.1, fun j hj => let ⟨x, h1, h2, h3⟩ := h.2 j hj; ⟨x, h1, h2, fun k hk => by rw [h3 k hk, hs]⟩⟩

/-- Slices of slices whose elements are f's cells. -/
structure IsSS {α : Type} (f : α → Value) (w : World) (s : Sl) (hs : List Sl) (ll : List (List α)) : Prop where
  top : IsS Sl.val w s hs
  len : hs.length = ll.length
  row : ∀ (i : Nat) (h : i < hs.length) (h' : i < ll.length), IsS f w hs[i] ll[i]
abbrev IsNN (w : World) (s : Sl) (hs : List Sl) (ll : List (List Nat)) : Prop := IsSS iN w s hs ll
theorem IsSS.below {α : Type} {f : α → Value} {w w' : World} {s : Sl} {hs : List Sl} {ll : List (List α)} (h : IsSS f w s hs ll) (hb : Below w.heap.size w w') : IsSS f w' s hs ll :=
  ⟨h.top.below hb, h.len, fun i h1 h2 => (h.row i h1 h2).below hb⟩
/-- None of these blocks is b. -/
def Avoids (b : Nat) (s : Sl) (hs : List Sl) : Prop := (∀ a, s.a = some a → a.block ≠ b) ∧ ∀ (i : Nat) (h : i < hs.length) a, hs[i].a = some a → a.block ≠ b
theorem _root_.Go.Gk.IsS.fr {α : Type} {f : α → Value} {w w' : World} {s : Sl} {l : List α} (h : IsS f w s l) {B b : Nat} (hb : Fr B (· = b) w w') (hB : w.heap.size ≤ B) (hn : ∀ a, s.a = some a → a.block ≠ b) : IsS f w' s l :=
  h.of_block fun a ha hlt => hb.block _ (by omega) (hn a ha)
theorem IsSS.fr {α : Type} {f : α → Value} {w w' : World} {s : Sl} {hs : List Sl} {ll : List (List α)} (h : IsSS f w s hs ll) {B b : Nat} (hb : Fr B (· = b) w w') (hB : w.heap.size ≤ B) (hn : Avoids b s hs) : IsSS f w' s hs ll :=
  ⟨h.top.fr hb hB hn.1, h.len, fun i h1 h2 => (h.row i h1 h2).fr hb hB (hn.2 i h1)⟩

/-- The graph's block. -/
abbrev gCells (sn sa wk od : Sl) (bs : List Value) : List Value := sn.val :: sa.val :: wk.val :: od.val :: bs
/-- What holds while the walk is under way: of what lay when it began the graph's block alone has turned. -/
structure CS (w1 : World) (B gb : Nat) (sn sa : Sl) (w : World) (s : List Nat × List Nat) : Prop where
  fr : Fr B (· = gb) w1 w
  st : ∃ wk od bs, Blk w gb 139 (gCells sn sa wk od bs) ∧ BitsL bs (fun i => s.1.contains i) ∧ Own w 3 1 wk (s.1.map iN) ∧ Own w 3 1 od (s.2.map iN) ∧
    Fresh B wk ∧ Fresh B od ∧ ∀ a b, wk.a = some a → od.a = some b → a.block ≠ b.block

/-- What holds from the walk's beginning on. -/
structure CW (w1 : World) (B b0 b1 gb : Nat) (sn : Sl) (hs : List Sl) (nx : List (List Nat)) : Prop where
  size : w1.heap.size = B
  gblt : gb < B
  box0 : Blk w1 b0 75 [.pointer (some (blk gb))]
  box1 : Blk w1 b1 140 [.func (.func 137) #[] #[.pointer (some (blk b0)), .pointer (some (blk b1))]]
  ne0 : b0 ≠ gb
  ne1 : b1 ≠ gb
  next : IsNN w1 sn hs nx
  avoid : Avoids gb sn hs
  max : nx.length ≤ 4096
  rows : ∀ i, ∀ t ∈ nx.getD i [], t < nx.length

theorem own_len {w : World} {s : Sl} {l : List Nat} (h : Own w 3 1 s (l.map iN)) : s.l = l.length := by have := h.1; simp at this; omega
theorem own_ne {w : World} {s : Sl} {xs : List Value} (h : Own w 3 1 s xs) {b : Nat} {T : TypeId} {cs : List Value} (hB : Blk w b T cs) (hT : T ≠ 3) {a : Addr} (ha : s.a = some a) : a.block ≠ b := by
  intro e
  obtain ⟨cs', hB'⟩ := h.type ha
  rw [e] at hB'
  exact hT (hB.type hB')

set_option maxHeartbeats 1000000 in
theorem come_spec {w1 : World} {B b0 b1 gb : Nat} {sn sa : Sl} {hs : List Sl} {nx : List (List Nat)} (cw : CW w1 B b0 b1 gb sn hs nx) :
    ∀ (f i : Nat) (s : List Nat × List Nat) (w : World) (R : Value → World → Prop), i < nx.length → i ∉ s.1 → s.1.Nodup → (∀ x ∈ s.1, x < nx.length) → nx.length ≤ s.1.length + f → s.2.length ≤ s.1.length →
      CS w1 B gb sn sa w s → (∀ w', CS w1 B gb sn sa w' (visit nx f i s) → (visit nx f i s).2.length ≤ (visit nx f i s).1.length → R (.tuple #[]) w') →
      callR Tryz.prog 137 #[.int .i64 (i : Int), .pointer (some (blk b0)), .pointer (some (blk b1))] w R := by
  intro f
  induction f with
  | zero =>
    intro i s w R hi hni hnd hlt hf
    have := nodup_lt hnd hlt hi hni
    omega
  | succ f ih =>
    intro i s w R hi hni hnd hlt hf h2l hcs hR
    have hmax := cw.max
    have hslt := nodup_lt hnd hlt hi hni
    refine callR.of (graph_Graph_walked_1_calls (i : Int) (blk b0) (blk b1) R w ?_) fun _ _ h => h
    -- what is read of the boxes and the edges, whatever the walk has done
    have box0 : ∀ {w' : World}, Fr B (· = gb) w1 w' → Blk w' b0 75 [.pointer (some (blk gb))] := fun hf => cw.box0.of_block (hf.block _ (by have := cw.box0.lt; have := cw.size; omega) cw.ne0)
    have box1 : ∀ {w' : World}, Fr B (· = gb) w1 w' → Blk w' b1 140 [.func (.func 137) #[] #[.pointer (some (blk b0)), .pointer (some (blk b1))]] := fun hf => cw.box1.of_block (hf.block _ (by have := cw.box1.lt; have := cw.size; omega) cw.ne1)
    have next : ∀ {w' : World}, Fr B (· = gb) w1 w' → IsNN w' sn hs nx := fun hf => cw.next.fr hf (by rw [cw.size]; exact Nat.le_refl _) cw.avoid
    obtain ⟨hfr, wk, od, bs, hG, hbits, hwk, hod, hfw, hfo, hap⟩ := hcs
    have hBsz : ∀ {w' : World}, Fr B (· = gb) w1 w' → B ≤ w'.heap.size := fun hf => by have := hf.size; have := cw.size; omega
    refine ⟨some (blk gb), (box0 hfr).cell0 rfl, ?_⟩
    refine add_spec (S := fun i => s.1.contains i) (i := i) (by omega) (hbits.bits hG) fun x hx => ⟨rfl, ?_⟩
    -- the bit is set
    generalize hw2 : w.drew.setCell (((blk gb).add 4).add (i / 64)) (.int .u64 (x : Int)) = w2 at hx ⊢
    have hG2 : Blk w2 gb 139 (gCells sn sa wk od (bs.set (i / 64) (.int .u64 (x : Int)))) := by
      rw [← hw2, add_add _ _ _ rfl]
      have := (hG.drew).set (4 + i / 64) (.int .u64 (x : Int))
      rw [show 4 + i / 64 = i / 64 + 1 + 1 + 1 + 1 by omega] at this ⊢
      exact this
    have hfr2 : Fr B (· = gb) w1 w2 := by rw [← hw2]; exact hfr.drew.set (.inr (by rw [add_block, add_block])) _
    have hb2 := Bits.list hG2 (by rw [List.length_set]; exact hbits.1) hx
    have stay : ∀ {sl : Sl} {xs : List Value}, Own w 3 1 sl xs → Own w2 3 1 sl xs := fun h => h.of_block fun a ha => by
      rw [← hw2]; exact Below.heap_setCell _ _ _ _ (by rw [add_block, add_block]; exact own_ne h hG (by decide) ha)
    have hwk2 := stay hwk
    have hod2 := stay hod
    clear hw2 stay hG hbits hwk hod hx
    generalize bs.set (i / 64) (.int .u64 (x : Int)) = bs2 at hG2 hb2
    -- i is appended to the walk
    refine ⟨some (blk gb), (box0 hfr2).cell0 rfl, ⟨some (blk gb), (box0 hfr2).cell0 rfl, wk, hG2.cell rfl, Nw.gen fun w3 hw3 => ?_⟩⟩
    have hG3 : Blk w3 gb 139 (gCells sn sa wk od bs2) := by rw [hw3]; exact hG2.drew.alloc _
    have hfr3 : Fr B (· = gb) w1 w3 := by rw [hw3]; exact hfr2.drew.alloc (hBsz hfr2.drew) _
    have ht3 : Blk w3 w2.drew.heap.size 3 [iN i] := by rw [hw3]; exact Blk.new w2.drew 3 #[iN i]
    have hwk3 : Own w3 3 1 wk (s.1.map iN) := by rw [hw3]; exact hwk2.drew.alloc _
    have hod3 : Own w3 3 1 od (s.2.map iN) := by rw [hw3]; exact hod2.drew.alloc _
    have hsz3 : w3.heap.size = w2.heap.size + 1 := by rw [hw3]; simp
    refine ⟨hG3.cell rfl, (box0 hfr3).cell0 rfl, (box0 hfr3).cell0 rfl, ?_⟩
    have hwl := own_len hwk3
    refine append_one eInt hwk3 rfl ht3 (by omega) (by omega) fun r w4 hr hrl ⟨b, hrb, hbo, hg⟩ => ?_
    have hbB : B ≤ b := by
      rcases hbo with hb | rfl
      · exact hfw _ hb
      · exact hBsz hfr3
    have hfr4 : Fr B (· = gb) w1 w4 := hfr3.grown hg hbB (hBsz hfr3)
    have hbgb : gb ≠ b := by have := cw.gblt; omega
    have hG4 : Blk w4 gb 139 (gCells sn sa wk od bs2) := hG3.of_block (hg.block gb hG3.lt (fun e => hbgb (Option.some.inj e)))
    have hodne : ∀ a, od.a = some a → a.block ≠ b := fun a ha e => by
      rcases hbo with hb | hb
      · exact hap _ _ hb ha e.symm
      · have := (hod3.lt ha).2; omega
    have hod4 : Own w4 3 1 od (s.2.map iN) := hod3.of_block fun a ha => hg.block _ (hod3.lt ha).2 (fun e => hodne a ha (Option.some.inj e))
    refine ⟨(box0 hfr4).cell0 rfl, hG4.wr (by simp), Nw.gen fun w5 hw5 => ?_⟩
    have hG5 : Blk w5 gb 139 (gCells sn sa r od bs2) := by rw [hw5]; exact hG4.set 2 _
    have hfr5 : Fr B (· = gb) w1 w5 := by rw [hw5]; exact hfr4.set (.inr (by rw [add_block])) _
    have stay5 : ∀ {sl : Sl} {xs : List Value}, Own w4 3 1 sl xs → Own w5 3 1 sl xs := fun h => h.of_block fun a ha => by
      rw [hw5]; exact Below.heap_setCell _ _ _ _ (by rw [add_block]; exact own_ne h hG4 (by decide) ha)
    have hcs5 : CS w1 B gb sn sa w5 (s.1 ++ [i], s.2) := by
      refine ⟨hfr5, r, od, bs2, hG5, hb2.congr fun j => ?_, ?_, stay5 hod4, fun a ha => ?_, hfo, fun a c ha hc => ?_⟩
      · rw [Bool.eq_iff_iff]; simp
      · simpa using stay5 hr
      · rw [hrb] at ha; cases ha; exact hbB
      · rw [hrb] at ha; cases ha; exact (hodne c hc).symm
    clear hw3 hG3 hfr3 ht3 hwk3 hod3 hsz3 hG4 hod4 hw5 stay5 hr hg hG2 hb2 hwk2 hod2 hfr2 hfr4 hfr
    -- the edges
    refine ⟨some (blk gb), (box0 hfr5).cell0 rfl, sn, hG5.cell0 rfl, ?_⟩
    have hnx5 := next hfr5
    have hlen : hs.length = nx.length := hnx5.len
    refine elemS hnx5.top (k := i) (by omega) ?_
    clear hG5 hnx5
    have hrow : ∀ {w' : World}, Fr B (· = gb) w1 w' → IsN w' (hs[i]'(by omega)) (nx.getD i []) := fun hf => by
      have := (next hf).row i (by omega) hi
      simpa [List.getD, hi] using this
    generalize hrl' : nx.getD i [] = row at hrow
    have hrt : ∀ t ∈ row, t < nx.length := fun t ht => cw.rows i t (by rw [hrl']; exact ht)
    have hrn : (hs[i]'(by omega)).l = row.length := (hrow hfr5).len
    have base : Came nx.length s (s.1 ++ [i], s.2) := ⟨by
        rw [List.nodup_append]
        exact ⟨hnd, by simp, fun x hx y hy => by simp at hy; subst hy; intro e; subst e; exact hni hx⟩, fun x hx => by
        simp at hx
        rcases hx with hx | rfl
        · exact hlt x hx
        · exact hi, [i], rfl⟩
    have rowsOk : ∀ i, ∀ t ∈ nx.getD i [], t < nx.length := cw.rows
    refine LoopW.count row.length (hrow hfr5).bound (fun k w' => CS w1 B gb sn sa w' (visitAll nx f (row.take k) (s.1 ++ [i], s.2)) ∧ Came nx.length (s.1 ++ [i], s.2) (visitAll nx f (row.take k) (s.1 ++ [i], s.2)) ∧
      (visitAll nx f (row.take k) (s.1 ++ [i], s.2)).2.length < (visitAll nx f (row.take k) (s.1 ++ [i], s.2)).1.length) ⟨by simpa [visitAll] using hcs5, ?_, by simp [visitAll]; omega⟩ ?_
    · simp only [List.take_zero]
      exact ⟨base.nodup, base.lt, [], by simp [visitAll]⟩
    rintro k w6 hk ⟨hcs6, hcame, hlen6⟩ nxt hnext
    generalize hst : visitAll nx f (row.take k) (s.1 ++ [i], s.2) = st at hcs6 hcame hlen6
    refine ifB_dec (fun hlt6 => ?_) (fun hge => ?_)
    · have hlt6 : k < row.length := by dsimp only at hlt6; omega
      have hsnoc : visitAll nx f (row.take (k + 1)) (s.1 ++ [i], s.2) = if st.1.contains row[k] then st else visit nx f row[k] st := by
        rw [List.take_succ_eq_append_getElem hlt6, visitAll_snoc, hst]
      refine JoinW.cut (fun _ w' => CS w1 B gb sn sa w' (visitAll nx f (row.take (k + 1)) (s.1 ++ [i], s.2)) ∧ Came nx.length (s.1 ++ [i], s.2) (visitAll nx f (row.take (k + 1)) (s.1 ++ [i], s.2)) ∧
        (visitAll nx f (row.take (k + 1)) (s.1 ++ [i], s.2)).2.length < (visitAll nx f (row.take (k + 1)) (s.1 ++ [i], s.2)).1.length) ?_ fun _ w' h => hnext w' hlt6 h
      have hfr6 := hcs6.fr
      obtain ⟨wk6, od6, bs6, hG6, hb6, _⟩ := hcs6.st
      refine elemN (hrow hfr6) hlt6 ⟨some (blk gb), (box0 hfr6).cell0 rfl, ?_⟩
      have hrk := hrt row[k] (List.getElem_mem hlt6)
      refine has_spec (S := fun i => st.1.contains i) (i := row[k]) (by omega) (hb6.bits hG6) ⟨_, rfl, ?_⟩
      rw [hsnoc]
      cases hc : st.1.contains row[k] with
      | true => exact ⟨hcs6, hcame, hlen6⟩
      | false =>
        have hnm : row[k] ∉ st.1 := by simpa using hc
        refine ⟨_, (box1 hfr6).cell0 rfl, ?_⟩
        have hmore : st.1.length ≥ (s.1 ++ [i]).length := by obtain ⟨l, e⟩ := hcame.more; rw [e]; simp
        have hvc := visit_came rowsOk f row[k] st hrk hcame.nodup hcame.lt hnm
        have := ih row[k] st w6 (fun v w' => v = .tuple #[] ∧ CS w1 B gb sn sa w' (visit nx f row[k] st) ∧ Came nx.length (s.1 ++ [i], s.2) (visit nx f row[k] st) ∧ (visit nx f row[k] st).2.length < (visit nx f row[k] st).1.length)
          hrk hnm hcame.nodup hcame.lt (by simp at hmore; omega) (by omega) hcs6 (fun w' h _ => ⟨rfl, h, ?_, ?_⟩)
        · exact this
        · obtain ⟨l1, e1⟩ := hcame.more
          obtain ⟨l2, e2⟩ := hvc.more
          exact ⟨hvc.nodup, hvc.lt, l1 ++ l2, by rw [e2, e1, List.append_assoc]⟩
        · have := visit_len nx f row[k] st
          omega
    · -- i is left
      have hkk : k = row.length := by dsimp only at hge; omega
      subst hkk
      rw [List.take_length] at hst
      have hvis : visit nx (f + 1) i s = (st.1, st.2 ++ [i]) := by rw [visit_succ, hrl', hst]
      rw [hvis] at hR
      clear hst
      obtain ⟨hfr6, wk6, od6, bs6, hG6, hb6, hwk6, hod6, hfw6, hfo6, hap6⟩ := hcs6
      refine ⟨some (blk gb), (box0 hfr6.drew).cell0 rfl, some (blk gb), (box0 hfr6.drew).cell0 rfl, od6, hG6.drew.cell rfl, Nw.gen fun w7 hw7 => ?_⟩
      have hG7 : Blk w7 gb 139 (gCells sn sa wk6 od6 bs6) := by rw [hw7]; exact hG6.drew.alloc _
      have hfr7 : Fr B (· = gb) w1 w7 := by rw [hw7]; exact hfr6.drew.alloc (hBsz hfr6.drew) _
      have ht7 : Blk w7 w6.drew.heap.size 3 [iN i] := by rw [hw7]; exact Blk.new w6.drew 3 #[iN i]
      have hwk7 : Own w7 3 1 wk6 (st.1.map iN) := by rw [hw7]; exact hwk6.drew.alloc _
      have hod7 : Own w7 3 1 od6 (st.2.map iN) := by rw [hw7]; exact hod6.drew.alloc _
      refine ⟨hG7.cell rfl, (box0 hfr7).cell0 rfl, (box0 hfr7).cell0 rfl, ?_⟩
      have hwl := own_len hod7
      have hsl := nodup_le hcame.nodup hcame.lt
      refine append_one eInt hod7 rfl ht7 (by omega) (by omega) fun r w8 hr hrl ⟨b, hrb, hbo, hg⟩ => ?_
      have hbB : B ≤ b := by
        rcases hbo with hb | rfl
        · exact hfo6 _ hb
        · exact hBsz hfr7
      have hfr8 : Fr B (· = gb) w1 w8 := hfr7.grown hg hbB (hBsz hfr7)
      have hbgb : gb ≠ b := by have := cw.gblt; omega
      have hG8 : Blk w8 gb 139 (gCells sn sa wk6 od6 bs6) := hG7.of_block (hg.block gb hG7.lt (fun e => hbgb (Option.some.inj e)))
      have hwkne : ∀ a, wk6.a = some a → a.block ≠ b := fun a ha e => by
        rcases hbo with hb | hb
        · exact hap6 _ _ ha hb e
        · have := (hwk7.lt ha).2; omega
      have hwk8 : Own w8 3 1 wk6 (st.1.map iN) := hwk7.of_block fun a ha => hg.block _ (hwk7.lt ha).2 (fun e => hwkne a ha (Option.some.inj e))
      refine ⟨(box0 hfr8).cell0 rfl, hG8.wr (by simp), Nw.gen fun w9 hw9 => ?_⟩
      have hG9 : Blk w9 gb 139 (gCells sn sa wk6 r bs6) := by rw [hw9]; exact hG8.set 3 _
      have hfr9 : Fr B (· = gb) w1 w9 := by rw [hw9]; exact hfr8.set (.inr (by rw [add_block])) _
      have stay9 : ∀ {sl : Sl} {xs : List Value}, Own w8 3 1 sl xs → Own w9 3 1 sl xs := fun h => h.of_block fun a ha => by
        rw [hw9]; exact Below.heap_setCell _ _ _ _ (by rw [add_block]; exact own_ne h hG8 (by decide) ha)
      refine hR w9 ⟨hfr9, wk6, r, bs6, hG9, hb6, stay9 hwk8, by simpa using stay9 hr, hfw6, fun a ha => ?_, fun a c ha hc => ?_⟩ (by simp; omega)
      · rw [hrb] at ha; cases ha; exact hbB
      · rw [hrb] at hc; cases hc; exact hwkne a ha

end Go.Proofs

namespace Go.Proofs
open Go.Gk Go.RowKit Go.Gr

theorem fr_only {B : Nat} {X : Nat → Prop} {w w' w'' : World} {s : Sl} (h : Fr B X w w') (ho : Only s w' w'') (hs : Fresh B s) : Fr B X w w'' := h.trans (Fr.of_below (ho.below hs))

theorem walked_spec {gb : Nat} {sn sa : Sl} {hs : List Sl} {nx : List (List Nat)} {w : World} {R : Value → World → Prop}
    (hG : Blk w gb 139 (gCells sn sa ⟨none, 0, 0⟩ ⟨none, 0, 0⟩ (List.replicate 64 (.int .u64 (0 : Int))))) (hnx : IsNN w sn hs nx) (hav : Avoids gb sn hs)
    (h0 : 0 < nx.length) (hmax : nx.length ≤ 4096) (hrows : ∀ i, ∀ t ∈ nx.getD i [], t < nx.length)
    (hR : ∀ w' wk od bs, Fr w.heap.size (· = gb) w w' → Blk w' gb 139 (gCells sn sa wk od bs) → BitsL bs (fun i => (walkOf nx).contains i) → Own w' 3 1 wk ((walkOf nx).map iN) →
      Own w' 3 1 od ((orderOf nx).map iN) → Fresh w.heap.size wk → Fresh w.heap.size od → R (.tuple #[]) w') :
    callR Tryz.prog 98 #[.pointer (some (blk gb))] w R := by
  refine callR.of (graph_Graph_walked_calls _ R w ?_) fun _ _ h => h
  have hgl := hG.lt
  refine Nw.gen fun w1 hw1 => Nw.gen fun w2 hw2 => ?_
  have hz1 : w1.heap.size = w.heap.size + 1 := by rw [hw1]; simp
  have hB0 : Blk w2 w.heap.size 75 [.pointer (some (blk gb))] := by rw [hw2, hw1]; exact (Blk.new w _ #[_]).alloc _
  have hB1 : Blk w2 w1.heap.size 140 [.nilFunc] := by rw [hw2]; exact Blk.new w1 _ #[_]
  have hb2 : Below w.heap.size w w2 := by rw [hw2, hw1]; exact ((Below.refl _ _).alloc (Nat.le_refl _) _).alloc (by simp) _
  have hz2 : w2.heap.size = w.heap.size + 2 := by rw [hw2, hw1]; simp
  refine ⟨hB1.wr0 (by simp), Nw.gen fun w3 hw3 => ?_⟩
  have hz3 : w3.heap.size = w.heap.size + 2 := by rw [hw3]; simpa [World.setCell] using hz2
  have hb3 : Below w.heap.size w w3 := by rw [hw3]; exact hb2.setCell (by simp; omega) _
  have hB0' : Blk w3 w.heap.size 75 [.pointer (some (blk gb))] := by rw [hw3]; exact hB0.other (by simp; omega) _
  have hB1' : Blk w3 w1.heap.size 140 [.func (.func 137) #[] #[.pointer (some (blk w.heap.size)), .pointer (some (blk w1.heap.size))]] := by rw [hw3]; exact hB1.set0 _
  have hG3 := hG.below hb3
  have cw : CW w3 w3.heap.size w.heap.size w1.heap.size gb sn hs nx :=
    ⟨rfl, by omega, hB0', hB1', by omega, by omega, hnx.below hb3, hav, hmax, hrows⟩
  refine ⟨_, hB1'.cell0 rfl, ?_⟩
  have cs : CS w3 w3.heap.size gb sn sa w3 ([], []) :=
    ⟨Fr.refl _ _ _, ⟨none, 0, 0⟩, ⟨none, 0, 0⟩, _, hG3, BitsL.zero.congr (fun i => by simp), Own.nil _ _ _, Own.nil _ _ _, fun a h => (by cases h), fun a h => (by cases h), fun a b h => by cases h⟩
  refine come_spec cw nx.length 0 ([], []) w3 _ h0 (by simp) (by simp) (by simp) (by simp) (by simp) cs fun w4 hcs _ => ⟨rfl, ?_⟩
  obtain ⟨hfr, wk, od, bs, hG4, hbits, hwk, hod, hfw, hfo, hap⟩ := hcs
  have hB04 : Blk w4 w.heap.size 75 [.pointer (some (blk gb))] := hB0'.of_block (hfr.block _ (by omega) (by show ¬ w.heap.size = gb; omega))
  refine ⟨some (blk gb), hB04.cell0 rfl, od, hG4.cell rfl, ?_⟩
  refine Reverse_spec hod fun w5 hod5 honly => ⟨rfl, ?_⟩
  have hne : ∀ a, od.a = some a → a.block ≠ gb := fun a ha => own_ne hod hG4 (by decide) ha
  have hG5 := hG4.of_block (honly.block gb hne)
  have hwk5 : Own w5 3 1 wk ((visit nx nx.length 0 ([], [])).1.map iN) := hwk.of_block fun a ha => honly.block _ fun b hb => (hap a b ha hb).symm
  have hfr5 : Fr w3.heap.size (· = gb) w3 w5 := fr_only hfr honly hfo
  refine hR w5 wk od bs (Fr.trans (Fr.of_below hb3) (hfr5.mono (by omega) (fun _ _ h => h))) hG5 hbits hwk5 (by simpa [orderOf] using hod5) (fun a ha => ?_) (fun a ha => ?_)
  · have := hfw a ha; omega
  · have := hfo a ha; omega

end Go.Proofs

namespace Go.Proofs
open Go.Gk Go.RowKit Go.Gr

/-- Block bh holds the headers hs of rows that the code itself grows; ow tells which block is whose. -/
structure Fam (B : Nat) (w : World) (bh : Nat) (hs : List Sl) (ll : List (List Nat)) (ow : Nat → Nat) (off : Nat) : Prop where
  head : Blk w bh 26 (hs.map Sl.val)
  len : hs.length = ll.length
  row : ∀ (i : Nat) (h : i < hs.length), Own w 3 1 hs[i] ((ll.getD i []).map iN)
  own : ∀ (i : Nat) (h : i < hs.length) a, hs[i].a = some a → ow a.block = off + i ∧ B ≤ a.block

def upd (ow : Nat → Nat) (b v : Nat) : Nat → Nat := fun k => if k = b then v else ow k

theorem Fam.ne {B : Nat} {w : World} {bh : Nat} {hs : List Sl} {ll : List (List Nat)} {ow : Nat → Nat} {off : Nat} (h : Fam B w bh hs ll ow off) {i : Nat} (hi : i < hs.length) {a : Addr} (ha : hs[i].a = some a) : a.block ≠ bh :=
  own_ne (h.row i hi) h.head (by decide) ha
/-- The other family, while a block that is none of its own is written or made. -/
theorem Fam.other {B : Nat} {w w' : World} {bh : Nat} {hs : List Sl} {ll : List (List Nat)} {ow : Nat → Nat} {off b v : Nat} (h : Fam B w bh hs ll ow off) (hg : w.grownBy w' (some b)) (hb : b ≠ bh)
    (hn : (∃ v', ow b = v' ∧ ∀ i, i < hs.length → v' ≠ off + i) ∨ b = w.heap.size) : Fam B w' bh hs ll (upd ow b v) off := by
  have hrow : ∀ (i : Nat) (hi : i < hs.length) a, hs[i].a = some a → a.block ≠ b := fun i hi a ha e => by
    rcases hn with ⟨v', h1, h2⟩ | h1
    · exact h2 i hi (by rw [← h1, ← e]; exact (h.own i hi a ha).1)
    · have := ((h.row i hi).lt ha).2; omega
  refine ⟨h.head.of_block (hg.block bh h.head.lt (fun e => hb (Option.some.inj e).symm)), h.len, fun i hi => (h.row i hi).of_block fun a ha => hg.block _ ((h.row i hi).lt ha).2 (fun e => hrow i hi a ha (Option.some.inj e)), fun i hi a ha => ?_⟩
  refine ⟨?_, (h.own i hi a ha).2⟩
  unfold upd
  rw [if_neg (hrow i hi a ha)]
  exact (h.own i hi a ha).1
/-- A store elsewhere. -/
theorem Fam.set_other {B : Nat} {w : World} {bh : Nat} {hs : List Sl} {ll : List (List Nat)} {ow : Nat → Nat} {off : Nat} (h : Fam B w bh hs ll ow off) {b : Nat} {T : TypeId} {cs : List Value} (hB : Blk w b T cs) (hb : b ≠ bh) (hT : T ≠ 3) (n : Nat) (v : Value) :
    Fam B (w.setCell ((blk b).add n) v) bh hs ll ow off := by
  refine ⟨h.head.other (by rw [add_block]; exact Ne.symm hb) v, h.len, fun i hi => (h.row i hi).of_block fun a ha => Below.heap_setCell _ _ _ _ (by rw [add_block]; exact own_ne (h.row i hi) hB hT ha), h.own⟩
theorem Fam.grown {B : Nat} {w w' : World} {bh : Nat} {hs : List Sl} {ll : List (List Nat)} {ow : Nat → Nat} {off : Nat} (h : Fam B w bh hs ll ow off) (hb : Below w.heap.size w w') : Fam B w' bh hs ll ow off :=
  ⟨h.head.below hb, h.len, fun i hi => (h.row i hi).below hb, h.own⟩
/-- The row i has grown by x, and its header is stored. -/
theorem Fam.push {B : Nat} {w w' : World} {bh : Nat} {hs : List Sl} {ll : List (List Nat)} {ow : Nat → Nat} {off : Nat} (h : Fam B w bh hs ll ow off) {i : Nat} (hi : i < hs.length) {r : Sl} {x b : Nat}
    (hr : Own w' 3 1 r ((ll.getD i []).map iN ++ [iN x])) (hrb : r.a = some (blk b)) (hbo : hs[i].a = some (blk b) ∨ b = w.heap.size) (hB : B ≤ b) (hg : w.grownBy w' (some b)) :
    Blk w' bh 26 (hs.map Sl.val) ∧ Fam B (w'.setCell ((blk bh).add i) r.val) bh (hs.set i r) (ll.set i (ll.getD i [] ++ [x])) (upd ow b (off + i)) off := by
  have hbne : b ≠ bh := by
    rcases hbo with hb | hb
    · exact h.ne hi hb
    · have := h.head.lt; omega
  have hH : Blk w' bh 26 (hs.map Sl.val) := h.head.of_block (hg.block bh h.head.lt (fun e => hbne (Option.some.inj e).symm))
  have hrow : ∀ (j : Nat) (hj : j < hs.length) a, j ≠ i → hs[j].a = some a → a.block ≠ b := fun j hj a hne ha e => by
    rcases hbo with hb | hb
    · have h1 := (h.own j hj a ha).1
      have h2 := (h.own i hi _ hb).1
      rw [e] at h1
      simp only at h2
      omega
    · have := ((h.row j hj).lt ha).2; omega
  have stay : ∀ {s : Sl} {xs : List Value}, Own w' 3 1 s xs → Own (w'.setCell ((blk bh).add i) r.val) 3 1 s xs := fun ho => ho.of_block fun a ha => Below.heap_setCell _ _ _ _ (by rw [add_block]; exact own_ne ho hH (by decide) ha)
  refine ⟨hH, ?_, by simp [h.len], fun j hj => ?_, fun j hj a ha => ?_⟩
  · have := hH.set i r.val
    rwa [← List.map_set] at this
  · have hj' : j < hs.length := by simpa using hj
    by_cases e : j = i
    · subst e
      have : (ll.set j (ll.getD j [] ++ [x])).getD j [] = ll.getD j [] ++ [x] := by simp [List.getD, show j < ll.length by have := h.len; omega]
      rw [List.getElem_set_self, this, List.map_append]
      exact stay hr
    · have : (ll.set i (ll.getD i [] ++ [x])).getD j [] = ll.getD j [] := by simp only [List.getD]; rw [List.getElem?_set_ne (by omega)]
      rw [List.getElem_set_ne (by omega), this]
      exact stay ((h.row j hj').of_block fun a ha => hg.block _ ((h.row j hj').lt ha).2 (fun e' => hrow j hj' a e ha (Option.some.inj e')))
  · have hj' : j < hs.length := by simpa using hj
    by_cases e : j = i
    · subst e
      rw [List.getElem_set_self, hrb] at ha
      cases ha
      exact ⟨by simp [upd], hB⟩
    · rw [List.getElem_set_ne (by omega)] at ha
      refine ⟨?_, (h.own j hj' a ha).2⟩
      unfold upd
      rw [if_neg (hrow j hj' a e ha)]
      exact (h.own j hj' a ha).1
theorem Fam.isSS {B : Nat} {w : World} {bh n : Nat} {hs : List Sl} {ll : List (List Nat)} {ow : Nat → Nat} {off : Nat} (h : Fam B w bh hs ll ow off) (hn : hs.length = n) (hm : n ≤ 9223372036854775807) : IsNN w ⟨some (blk bh), n, n⟩ hs ll :=
  ⟨h.head.isS rfl hn.symm (Nat.le_refl _) hm, h.len, fun i hi hi' => by
    have := (h.row i hi).isS
    simpa [List.getD, hi'] using this⟩
theorem Fam.avoids {B : Nat} {w : World} {bh n : Nat} {hs : List Sl} {ll : List (List Nat)} {ow : Nat → Nat} {off : Nat} (h : Fam B w bh hs ll ow off) {b : Nat} {T : TypeId} {cs : List Value} (hB : Blk w b T cs) (hT : T ≠ 3) (hT' : T ≠ 26) : Avoids b ⟨some (blk bh), n, n⟩ hs :=
  ⟨fun a ha e => by
    cases ha
    have e : bh = b := e
    subst e
    exact hT' (hB.type h.head), fun i hi a ha => own_ne (h.row i hi) hB hT ha⟩
theorem Fam.new (B : Nat) (w : World) (n : Nat) (ow : Nat → Nat) (off bh : Nat) (hB : Blk w bh 26 (List.replicate n (.slice none 0 0))) : Fam B w bh (List.replicate n ⟨none, 0, 0⟩) (List.replicate n []) ow off := by
  refine ⟨?_, by simp, fun i hi => ?_, fun i hi a ha => ?_⟩
  · rw [List.map_replicate]; exact hB
  · have hi' : i < n := by simpa using hi
    simp only [List.getElem_replicate, List.getD, List.getElem?_replicate, if_pos hi', Option.getD_some, List.map_nil]
    exact Own.nil _ _ _
  · simp at ha

/-- A graph that the program has made. -/
def IsG (w : World) (gb : Nat) (nx : List (List Nat)) : Prop :=
  ∃ sn sa wk od bs hn ha, Blk w gb 139 (gCells sn sa wk od bs) ∧ IsNN w sn hn nx ∧ IsNN w sa ha (aheadOf nx) ∧ IsN w wk (walkOf nx) ∧ IsN w od (orderOf nx) ∧ BitsL bs fun i => (walkOf nx).contains i
theorem IsG.below {w w' : World} {gb : Nat} {nx : List (List Nat)} (h : IsG w gb nx) (hb : Below w.heap.size w w') : IsG w' gb nx :=
  let ⟨sn, sa, wk, od, bs, hn, ha, h1, h2, h3, h4, h5, h6⟩ := h
  ⟨sn, sa, wk, od, bs, hn, ha, h1.below hb, h2.below hb, h3.below hb, h4.below hb, h5.below hb, h6⟩
/-- .. of which nothing lies below block B. -/
def IsGB (w : World) (B gb : Nat) (nx : List (List Nat)) : Prop :=
  B ≤ gb ∧ ∃ sn sa wk od bs hn ha, Blk w gb 139 (gCells sn sa wk od bs) ∧ IsNN w sn hn nx ∧ IsNN w sa ha (aheadOf nx) ∧ IsN w wk (walkOf nx) ∧ IsN w od (orderOf nx) ∧ BitsL bs (fun i => (walkOf nx).contains i) ∧
    Fresh B sn ∧ Fresh B sa ∧ Fresh B wk ∧ Fresh B od ∧ (∀ (i : Nat) (h : i < hn.length), Fresh B hn[i]) ∧ ∀ (i : Nat) (h : i < ha.length), Fresh B ha[i]
theorem IsGB.isG {w : World} {B gb : Nat} {nx : List (List Nat)} (h : IsGB w B gb nx) : IsG w gb nx :=
  let ⟨_, sn, sa, wk, od, bs, hn, ha, h1, h2, h3, h4, h5, h6, _⟩ := h
  ⟨sn, sa, wk, od, bs, hn, ha, h1, h2, h3, h4, h5, h6⟩
theorem IsGB.keep {w w' : World} {B gb : Nat} {nx : List (List Nat)} (h : IsGB w B gb nx) (hk : ∀ k, B ≤ k → k < w.heap.size → w'.heap[k]? = w.heap[k]?) : IsGB w' B gb nx := by
  obtain ⟨hg, sn, sa, wk, od, bs, hn, ha, h1, h2, h3, h4, h5, h6, f1, f2, f3, f4, f5, f6⟩ := h
  have st : ∀ {α : Type} {f : α → Value} {s : Sl} {l : List α}, IsS f w s l → Fresh B s → IsS f w' s l := fun hs hf => hs.of_block fun a ha hlt => hk _ (hf a ha) hlt
  exact ⟨hg, sn, sa, wk, od, bs, hn, ha, h1.of_block (hk gb hg h1.lt), ⟨st h2.top f1, h2.len, fun i g1 g2 => st (h2.row i g1 g2) (f5 i g1)⟩, ⟨st h3.top f2, h3.len, fun i g1 g2 => st (h3.row i g1 g2) (f6 i g1)⟩, st h4 f3, st h5 f4, h6, f1, f2, f3, f4, f5, f6⟩
/-- graph.Of under way. -/
structure OS (w0 : World) (gb bn ba n : Nat) (w : World) (NX : List (List Nat)) : Prop where
  below : Below w0.heap.size w0 w
  len : NX.length = n
  g : Blk w gb 139 (gCells ⟨some (blk bn), n, n⟩ ⟨some (blk ba), n, n⟩ ⟨none, 0, 0⟩ ⟨none, 0, 0⟩ (List.replicate 64 (.int .u64 (0 : Int))))
  gB : w0.heap.size ≤ gb
  bnB : w0.heap.size ≤ bn
  baB : w0.heap.size ≤ ba
  ne : bn ≠ ba
  fam : ∃ hn ha ow, Fam w0.heap.size w bn hn NX ow 0 ∧ Fam w0.heap.size w ba ha (aheadOf NX) ow n
theorem OS.grown {w0 w w' : World} {gb bn ba n : Nat} {NX : List (List Nat)} (h : OS w0 gb bn ba n w NX) (hb : Below w.heap.size w w') : OS w0 gb bn ba n w' NX :=
  let ⟨hn, ha, ow, f1, f2⟩ := h.fam
  ⟨h.below.trans (hb.mono h.below.size), h.len, h.g.below hb, h.gB, h.bnB, h.baB, h.ne, hn, ha, ow, f1.grown hb, f2.grown hb⟩

set_option maxHeartbeats 1000000 in
/-- One edge more: both appends. -/
theorem push_step {w0 : World} {gb bn ba n : Nat} {w : World} {NX : List (List Nat)} (h : OS w0 gb bn ba n w NX) {i x : Nat} (hi : i < n) (hx : x < n) (hn : n ≤ 4096) (hlen : (NX.getD i []).length ≤ 4096) (hlenA : ((aheadOf NX).getD x []).length ≤ 4096)
    (hni : (NX.getD i []).contains x = false) (hgt : ∀ j, i < j → NX.getD j [] = []) {sb : Nat} {T : TypeId} {cs : List Value} (hT : T ≠ 3) (hT' : T ≠ 26) (hsb : Blk w sb T cs) {K : World → Prop}
    (hK : ∀ w', OS w0 gb bn ba n w' (NX.set i (NX.getD i [] ++ [x])) → Blk w' sb T cs → K w') :
    derefP (some (blk gb)) fun a18 =>
      ldS w.drew a18 fun x19 =>
      derefP (some (blk gb)) fun a20 =>
      ldS w.drew a20 fun x21 =>
      (0 ≤ (i : Int) ∧ (i : Int) < (x21.l : Int)) ∧
      derefP x21.a fun a22 =>
      ldS w.drew (a22.add (Int.toNat (i : Int))) fun x23 =>
      Nw (w.drew.alloc (.cells #[(.int .i64 (x : Int))] 3)) fun w14 =>
      w14.cell? (a22.add (Int.toNat (i : Int))) = some (.slice x23.a x23.l x23.c) ∧
      w14.cell? a20 = some (.slice x21.a x21.l x21.c) ∧
      w14.cell? a18 = some (.slice x19.a x19.l x19.c) ∧
      appendS Tryz.prog 26 (.slice x23.a x23.l x23.c) (.slice (some (blk w.drew.heap.size)) 1 1) w14 fun r24 w15 =>
      w15.cell? a18 = some (.slice x19.a x19.l x19.c) ∧
      (0 ≤ (i : Int) ∧ (i : Int) < (x19.l : Int)) ∧
      derefP x19.a fun a25 =>
      Wr w15 (a25.add (Int.toNat (i : Int))) ∧
      Nw (w15.setCell (a25.add (Int.toNat (i : Int))) (.slice r24.a r24.l r24.c)) fun w16 =>
      derefP (some (blk gb)) fun a26 =>
      ldS w16.drew (a26.add 1) fun x27 =>
      derefP (some (blk gb)) fun a28 =>
      ldS w16.drew (a28.add 1) fun x29 =>
      (0 ≤ (x : Int) ∧ (x : Int) < (x29.l : Int)) ∧
      derefP x29.a fun a30 =>
      ldS w16.drew (a30.add (Int.toNat (x : Int))) fun x31 =>
      Nw (w16.drew.alloc (.cells #[(.int .i64 (i : Int))] 3)) fun w17 =>
      w17.cell? (a30.add (Int.toNat (x : Int))) = some (.slice x31.a x31.l x31.c) ∧
      w17.cell? (a28.add 1) = some (.slice x29.a x29.l x29.c) ∧
      w17.cell? (a26.add 1) = some (.slice x27.a x27.l x27.c) ∧
      appendS Tryz.prog 26 (.slice x31.a x31.l x31.c) (.slice (some (blk w16.drew.heap.size)) 1 1) w17 fun r32 w18 =>
      w18.cell? (a26.add 1) = some (.slice x27.a x27.l x27.c) ∧
      (0 ≤ (x : Int) ∧ (x : Int) < (x27.l : Int)) ∧
      derefP x27.a fun a33 =>
      Wr w18 (a33.add (Int.toNat (x : Int))) ∧
      Nw (w18.setCell (a33.add (Int.toNat (x : Int))) (.slice r32.a r32.l r32.c)) fun w19 => K w19 := by
  obtain ⟨hbel, hNX, hG, hgB, hbnB, hbaB, hne, hn', ha', ow, f1, f2⟩ := h
  have hnl : hn'.length = n := by rw [f1.len, hNX]
  have hal : ha'.length = n := by rw [f2.len, ahead_length, hNX]
  have hBsz : w0.heap.size ≤ w.heap.size := hbel.size
  have hmax : n ≤ 9223372036854775807 := by omega
  refine ⟨⟨some (blk bn), n, n⟩, hG.drew.cell0 rfl, ⟨some (blk bn), n, n⟩, hG.drew.cell0 rfl, ?_⟩
  refine elemS (s := ⟨some (blk bn), n, n⟩) (f1.isSS hnl hmax).top.drew (k := i) (by omega) ?_
  refine Nw.gen fun w14 hw14 => ?_
  have hb14 : Below w.heap.size w w14 := by rw [hw14]; exact (Below.refl _ _).drew.alloc (by simp) _
  have ht14 : Blk w14 w.drew.heap.size 3 [iN x] := by rw [hw14]; exact Blk.new w.drew 3 #[iN x]
  have f1' := f1.grown hb14
  have f2' := f2.grown hb14
  have hG' := hG.below hb14
  have hsb' := hsb.below hb14
  have hz14 : w.heap.size ≤ w14.heap.size := hb14.size
  refine ⟨?_, hG'.cell0 rfl, hG'.cell0 rfl, ?_⟩
  · exact (f1'.isSS hnl hmax).top.cell _ rfl i (by omega)
  have hrow := f1'.row i (by omega)
  have hrl := own_len hrow
  refine append_one eInt hrow rfl ht14 (by omega) (by omega) fun r w15 hr _ ⟨b, hrb, hbo, hg⟩ => ?_
  have hbB : w0.heap.size ≤ b := by
    rcases hbo with hb | rfl
    · exact (f1'.own i (by omega) _ hb).2
    · omega
  obtain ⟨hH, f1p⟩ := f1'.push (by omega) hr hrb hbo hbB hg
  have hbT : ∃ cs, Blk w15 b 3 cs := by obtain ⟨cs, hc⟩ := hr.type hrb; exact ⟨cs, hc⟩
  have hnot : ∀ {b' : Nat} {T : TypeId} {cs : List Value}, Blk w14 b' T cs → T ≠ 3 → b' ≠ b ∧ Blk w15 b' T cs := fun hB hT => by
    have hb' : _ ≠ b := fun e => by
      rcases hbo with hb | hb
      · exact own_ne hrow hB hT hb e.symm
      · have := hB.lt; omega
    exact ⟨hb', hB.of_block (hg.block _ hB.lt (fun e => hb' (Option.some.inj e)))⟩
  have hG15 := (hnot hG' (by decide)).2
  have hgb := (hnot hG' (by decide)).1
  have hbba := (hnot f2'.head (by decide)).1
  have f2o := f2'.other (v := 0 + i) hg (Ne.symm hbba) (by
    rcases hbo with hb | hb
    · exact .inl ⟨_, (f1'.own i (by omega) _ hb).1, fun j hj => by omega⟩
    · exact .inr hb)
  refine ⟨hG15.cell0 rfl, ⟨by omega, by show (i : Int) < ((n : Nat) : Int); omega⟩, hH.wr (by simp; omega), Nw.gen fun w16 hw16 => ?_⟩
  have f1q := f1p
  have f2q := f2o.set_other hH hne (by decide) i r.val
  have hG16 : Blk w16 gb 139 (gCells ⟨some (blk bn), n, n⟩ ⟨some (blk ba), n, n⟩ ⟨none, 0, 0⟩ ⟨none, 0, 0⟩ (List.replicate 64 (.int .u64 (0 : Int)))) := by
    rw [hw16]; exact hG15.other (by rw [add_block]; exact hG15.apart hH (by decide)) _
  have hsb15 := (hnot hsb' hT).2
  have hsb16 : Blk w16 sb T cs := by
    rw [hw16]; exact hsb15.other (by rw [add_block]; exact hsb15.apart hH hT') _
  rw [show w15.setCell ((blk bn).add i) r.val = w16 from hw16.symm] at f1q f2q
  have hb16 : Below w0.heap.size w0 w16 := by
    rw [hw16]
    exact ((hbel.trans (hb14.mono hBsz)).trans (below_grown hg hbB (by omega))).setCell (by rw [add_block]; exact hbnB) _
  have hl1 : (hn'.set i r).length = n := by simp [hnl]
  have hBsz16 := hb16.size
  clear hw16 f1p f2o hH hG15 hnot hbT hr hg hrow f1' f2' hG' ht14 hw14 hb14 f1 f2 hG hsb hsb' hsb15
  -- the edge from behind
  refine ⟨⟨some (blk ba), n, n⟩, hG16.drew.cell rfl, ⟨some (blk ba), n, n⟩, hG16.drew.cell rfl, ?_⟩
  refine elemS (s := ⟨some (blk ba), n, n⟩) (f2q.isSS hal hmax).top.drew (k := x) (by omega) ?_
  refine Nw.gen fun w17 hw17 => ?_
  have hb17 : Below w16.heap.size w16 w17 := by rw [hw17]; exact (Below.refl _ _).drew.alloc (by simp) _
  have ht17 : Blk w17 w16.drew.heap.size 3 [iN i] := by rw [hw17]; exact Blk.new w16.drew 3 #[iN i]
  have f1' := f1q.grown hb17
  have f2' := f2q.grown hb17
  have hG' := hG16.below hb17
  have hsb' := hsb16.below hb17
  have hz17 : w16.heap.size ≤ w17.heap.size := hb17.size
  refine ⟨?_, hG'.cell rfl, hG'.cell rfl, ?_⟩
  · exact (f2'.isSS hal hmax).top.cell _ rfl x (by omega)
  have hrow := f2'.row x (by omega)
  have hrl := own_len hrow
  refine append_one eInt hrow rfl ht17 (by omega) (by omega) fun r2 w18 hr _ ⟨b2, hrb2, hbo2, hg2⟩ => ?_
  have hbB2 : w0.heap.size ≤ b2 := by
    rcases hbo2 with hb | rfl
    · exact (f2'.own x (by omega) _ hb).2
    · omega
  obtain ⟨hH, f2p⟩ := f2'.push (by omega) hr hrb2 hbo2 hbB2 hg2
  have hnot : ∀ {b' : Nat} {T : TypeId} {cs : List Value}, Blk w17 b' T cs → T ≠ 3 → b' ≠ b2 ∧ Blk w18 b' T cs := fun hB hT => by
    have hb' : _ ≠ b2 := fun e => by
      rcases hbo2 with hb | hb
      · exact own_ne hrow hB hT hb e.symm
      · have := hB.lt; omega
    exact ⟨hb', hB.of_block (hg2.block _ hB.lt (fun e => hb' (Option.some.inj e)))⟩
  have hG18 := (hnot hG' (by decide)).2
  have hbbn := (hnot f1'.head (by decide)).1
  have f1o := f1'.other (v := n + x) hg2 (Ne.symm hbbn) (by
    rcases hbo2 with hb | hb
    · exact .inl ⟨_, (f2'.own x (by omega) _ hb).1, fun j hj => by omega⟩
    · exact .inr hb)
  refine ⟨hG18.cell rfl, ⟨by omega, by show (x : Int) < ((n : Nat) : Int); omega⟩, hH.wr (by simp; omega), Nw.gen fun w19 hw19 => ?_⟩
  have f2z := f2p
  have f1z := f1o.set_other hH (Ne.symm hne) (by decide) x r2.val
  rw [show w18.setCell ((blk ba).add x) r2.val = w19 from hw19.symm] at f1z f2z
  have hsb18 := (hnot hsb' hT).2
  rw [← ahead_push (by omega) (by omega) hni hgt] at f2z
  refine hK w19 ⟨?_, by simp [hNX], ?_, hgB, hbnB, hbaB, hne, hn'.set i r, ha'.set x r2, _, f1z, f2z⟩ ?_
  · rw [hw19]
    exact ((hb16.trans (hb17.mono hBsz16)).trans (below_grown hg2 hbB2 (by omega))).setCell (by rw [add_block]; exact hbaB) _
  · rw [hw19]; exact hG18.other (by rw [add_block]; exact hG18.apart hH (by decide)) _
  · rw [hw19]; exact hsb18.other (by rw [add_block]; exact hsb18.apart hH hT') _

end Go.Proofs
namespace Go.Proofs
open Go.Gk Go.RowKit Go.Gr

theorem makeOk {n : Nat} {b : Int} (hb : b = 24 ∨ b = 8 ∨ b = 1) (h : n ≤ 4096) : (0 ≤ (n : Int) ∧ (n : Int) ≤ (n : Int) ∧ b * (n : Int) ≤ 281474976710656 ∧ (n : Int) ≤ 9223372036854775807) := by
  rcases hb with rfl | rfl | rfl <;> omega

theorem elemS_n {w : World} {s : Sl} {hs : List Sl} (h : IsS Sl.val w s hs) {n : Nat} (hn : s.l = n) {k : Nat} (hk : k < hs.length) {φ : Sl → Prop} (hφ : φ hs[k]) :
    (0 ≤ (k : Int) ∧ (k : Int) < (n : Int)) ∧ derefP s.a fun a => ldS w (a.add (Int.toNat (k : Int))) φ := by
  subst hn; exact elemS h hk hφ
/-- The input's rows as nodes. -/
abbrev natRows (ll : List (List Int)) : List (List Nat) := ll.map fun l => l.map Int.toNat
theorem natRows_getD (ll : List (List Int)) (i : Nat) (hi : i < ll.length) : (natRows ll).getD i [] = (ll[i]).map Int.toNat := by simp [natRows, List.getD, hi]
/-- All edges lead to nodes. -/
def Good (ll : List (List Int)) : Prop := ∀ l ∈ ll, ∀ x ∈ l, 0 ≤ x ∧ x < (ll.length : Int)
/-- The edges that the graph has. -/
abbrev edges (ll : List (List Int)) : List (List Nat) := (natRows ll).map dedup

theorem ahead_replicate (n : Nat) : aheadOf (List.replicate n ([] : List Nat)) = List.replicate n [] := by
  apply List.ext_getElem
  · simp [aheadOf]
  · intro j g1 g2
    simp only [aheadOf, List.getElem_map, List.getElem_range, List.getElem_replicate]
    rw [List.filter_eq_nil_iff]
    intro a ha
    have ha := List.mem_range.1 ha
    simp only [List.length_replicate] at ha
    simp [List.getD, ha]
theorem nxP_zero' (ll : List (List Int)) : nxP (natRows ll) 0 0 = List.replicate ll.length [] := by
  rw [nxP_zero]; simp [natRows]

set_option maxHeartbeats 1000000 in
theorem graph_Of_spec {s : Sl} {hs : List Sl} {ll : List (List Int)} {w : World} {R : Value → World → Prop} (h : IsII w s hs ll)
    (h2 : ll.length = 0 → R (.tuple #[.pointer none, .int .i64 2]) w)
    (h4 : 4096 < ll.length → R (.tuple #[.pointer none, .int .i64 4]) w)
    (hbad : 0 < ll.length → ll.length ≤ 4096 → ¬ Good ll → ∀ w', Below w.heap.size w w' → R (.tuple #[.pointer none, .int .i64 141]) w')
    (hok : 0 < ll.length → ll.length ≤ 4096 → Good ll → ∀ w' gb, Below w.heap.size w w' → IsGB w' w.heap.size gb (edges ll) → IsG w' gb (edges ll) → R (.tuple #[.pointer (some (blk gb)), .int .i64 0]) w') :
    callR Tryz.prog 37 #[.slice s.a s.l s.c] w R := by
  refine callR.of (graph_Of_calls s R w ?_) fun _ _ h => h
  have hsl : s.l = hs.length := h.top.len
  have hhl : hs.length = ll.length := h.len
  have hn : s.l = ll.length := by omega
  unfold L_graph_Of
  rw [hn]
  refine ifB_beq (fun he => h2 (by omega)) (fun hne => ifB_dec (fun hgt => h4 (by omega)) (fun hle => ?_))
  have hn0 : 0 < ll.length := by omega
  have hn1 : ll.length ≤ 4096 := by omega
  -- the memory is made, in either order
  refine JoinW.cut (fun st w7 => ∃ gb bn ba, st = (some (blk gb), ()) ∧ OS w gb bn ba ll.length w7 (nxP (natRows ll) 0 0)) ⟨?_, ?_⟩ ?_
  · refine ⟨makeOk (.inl rfl) hn1, Nw.gen fun w1 hw1 => ⟨makeOk (.inl rfl) hn1, Nw.gen fun w2 hw2 => Nw.gen fun w3 hw3 => ⟨w2.heap.size, w.heap.size, w1.heap.size, rfl, ?_⟩⟩⟩
    have hz1 : w1.heap.size = w.heap.size + 1 := by rw [hw1]; simp
    have hz2 : w2.heap.size = w.heap.size + 2 := by rw [hw2]; simp; omega
    have b1 : Blk w1 w.heap.size 26 (List.replicate ll.length (.slice none 0 0)) := by rw [hw1]; exact Blk.made w.drew _ _ _
    have b2 : Blk w2 w1.heap.size 26 (List.replicate ll.length (.slice none 0 0)) := by rw [hw2]; exact Blk.made w1 _ _ _
    have b1' : Blk w3 w.heap.size 26 (List.replicate ll.length (.slice none 0 0)) := by rw [hw3, hw2]; exact (b1.alloc _).alloc _
    have b2' : Blk w3 w1.heap.size 26 (List.replicate ll.length (.slice none 0 0)) := by rw [hw3]; exact b2.alloc _
    have hg : Blk w3 w2.heap.size 139 (gCells ⟨some (blk w.heap.size), ll.length, ll.length⟩ ⟨some (blk w1.heap.size), ll.length, ll.length⟩ ⟨none, 0, 0⟩ ⟨none, 0, 0⟩ (List.replicate 64 (.int .u64 (0 : Int)))) := by
      rw [hw3]; exact Blk.new w2 _ _
    refine ⟨?_, by rw [nxP_zero']; simp, hg, by omega, Nat.le_refl _, by omega, by omega, List.replicate ll.length ⟨none, 0, 0⟩, List.replicate ll.length ⟨none, 0, 0⟩, fun _ => 0, by rw [nxP_zero']; exact Fam.new _ w3 _ _ _ _ b1', by rw [nxP_zero', ahead_replicate]; exact Fam.new _ w3 _ _ _ _ b2'⟩
    · rw [hw3, hw2, hw1]; exact (((Below.refl _ _).drew.alloc (by simp) _).alloc (by simp) _).alloc (by simp; omega) _
  · refine ⟨makeOk (.inl rfl) hn1, Nw.gen fun w1 hw1 => ⟨makeOk (.inl rfl) hn1, Nw.gen fun w2 hw2 => Nw.gen fun w3 hw3 => ⟨w2.heap.size, w1.heap.size, w.heap.size, rfl, ?_⟩⟩⟩
    have hz1 : w1.heap.size = w.heap.size + 1 := by rw [hw1]; simp
    have hz2 : w2.heap.size = w.heap.size + 2 := by rw [hw2]; simp; omega
    have b1 : Blk w1 w.heap.size 26 (List.replicate ll.length (.slice none 0 0)) := by rw [hw1]; exact Blk.made w.drew _ _ _
    have b2 : Blk w2 w1.heap.size 26 (List.replicate ll.length (.slice none 0 0)) := by rw [hw2]; exact Blk.made w1 _ _ _
    have b1' : Blk w3 w.heap.size 26 (List.replicate ll.length (.slice none 0 0)) := by rw [hw3, hw2]; exact (b1.alloc _).alloc _
    have b2' : Blk w3 w1.heap.size 26 (List.replicate ll.length (.slice none 0 0)) := by rw [hw3]; exact b2.alloc _
    have hg : Blk w3 w2.heap.size 139 (gCells ⟨some (blk w1.heap.size), ll.length, ll.length⟩ ⟨some (blk w.heap.size), ll.length, ll.length⟩ ⟨none, 0, 0⟩ ⟨none, 0, 0⟩ (List.replicate 64 (.int .u64 (0 : Int)))) := by
      rw [hw3]; exact Blk.new w2 _ _
    refine ⟨?_, by rw [nxP_zero']; simp, hg, by omega, by omega, Nat.le_refl _, by omega, List.replicate ll.length ⟨none, 0, 0⟩, List.replicate ll.length ⟨none, 0, 0⟩, fun _ => 0, by rw [nxP_zero']; exact Fam.new _ w3 _ _ _ _ b2', by rw [nxP_zero', ahead_replicate]; exact Fam.new _ w3 _ _ _ _ b1'⟩
    · rw [hw3, hw2, hw1]; exact (((Below.refl _ _).drew.alloc (by simp) _).alloc (by simp) _).alloc (by simp; omega) _
  rintro _ w7 ⟨gb, bn, ba, rfl, hos⟩
  have hrl : (natRows ll).length = ll.length := by simp [natRows]
  -- row by row
  refine LoopW.count ll.length (by omega) (fun i w' => OS w gb bn ba ll.length w' (nxP (natRows ll) i 0) ∧ ∀ j, j < i → ∀ (hj : j < ll.length), ∀ x ∈ ll[j], 0 ≤ x ∧ x < (ll.length : Int)) ⟨hos, fun j hj => by omega⟩ ?_
  rintro i w8 hi ⟨hos8, hgood⟩ next hnext
  refine ifB_dec (fun hlt => ?_) (fun hge => ?_)
  · have hlt : i < ll.length := by dsimp only at hlt; omega
    have hin := h.below (w' := w8) (hos8.below.mono (Nat.le_refl _))
    refine elemS_n hin.top hn (k := i) (by omega) ?_
    refine Nw.gen fun w9 hw9 => ?_
    have hb9 : Below w8.heap.size w8 w9 := by rw [hw9]; exact (Below.refl _ _).alloc (Nat.le_refl _) _
    have hbits9 : Bits w9 (blk w8.heap.size) fun _ => false := by rw [hw9]; exact Bits.new w8 _
    have hB9 : Blk w9 w8.heap.size 137 (List.replicate 64 (.int .u64 (0 : Int))) := by rw [hw9]; exact Blk.new w8 _ _
    have hos9 := hos8.grown hb9
    have hsbB : w.heap.size ≤ w8.heap.size := hos8.below.size
    have hrow : ∀ {w' : World}, Below w.heap.size w w' → IsI w' (hs[i]'(by omega)) ll[i] := fun hb => (h.below hb).row i (by omega) hlt
    have hrn : (hs[i]'(by omega)).l = (ll[i]).length := (hrow hos9.below).len
    have hgd := natRows_getD ll i hlt
    clear hw9 hin
    -- edge by edge
    refine LoopW.count (ll[i]).length (hrow hos9.below).bound (fun k w' => OS w gb bn ba ll.length w' (nxP (natRows ll) i k) ∧ (∃ cs, Blk w' w8.heap.size 137 cs) ∧ Bits w' (blk w8.heap.size) (fun j => ((nxP (natRows ll) i k).getD i []).contains j) ∧
      ∀ j, j < k → ∀ (hj : j < (ll[i]).length), 0 ≤ ll[i][j] ∧ ll[i][j] < (ll.length : Int)) ⟨hos9, ⟨_, hB9⟩, ?_, fun j hj => by omega⟩ ?_
    · have e : (nxP (natRows ll) i 0).getD i [] = [] := by rw [nxP_getD (by omega)]; simp [dedup]
      rw [e]; simpa using hbits9
    rintro k w10 hk ⟨hos10, ⟨cs10, hB10⟩, hbits10, hgood10⟩ nxt hnxt
    refine ifB_dec (fun hltk => ?_) (fun hgek => ?_)
    · have hltk : k < (ll[i]).length := by dsimp only at hltk; omega
      refine JoinW.cut (fun _ w' => OS w gb bn ba ll.length w' (nxP (natRows ll) i (k + 1)) ∧ (∃ cs, Blk w' w8.heap.size 137 cs) ∧ Bits w' (blk w8.heap.size) (fun j => ((nxP (natRows ll) i (k + 1)).getD i []).contains j) ∧
        0 ≤ ll[i][k] ∧ ll[i][k] < (ll.length : Int)) ?_ fun _ w' hh => hnxt w' hltk ⟨hh.1, hh.2.1, hh.2.2.1, fun j hj hjl => by
          by_cases e : j = k
          · subst e; exact hh.2.2.2
          · exact hgood10 j (by omega) hjl⟩
      refine elemI (hrow hos10.below) hltk ?_
      have bad : ¬ (0 ≤ ll[i][k] ∧ ll[i][k] < (ll.length : Int)) → R (.tuple #[.pointer none, .int .i64 141]) w10 := fun hx =>
        hbad hn0 hn1 (fun hG => hx (hG _ (List.getElem_mem hlt) _ (List.getElem_mem hltk))) w10 hos10.below
      refine JoinW.cut (fun _ w' => w' = w10 ∧ 0 ≤ ll[i][k] ∧ ll[i][k] < (ll.length : Int)) (ifB_dec (fun hx => bad (by omega)) (fun hx => ifB_dec (fun hx' => bad (by omega)) (fun hx' => ⟨rfl, by omega, by omega⟩))) ?_
      rintro _ wx ⟨ewx, hx0, hx1⟩
      subst wx
      obtain ⟨x, hx⟩ := Int.eq_ofNat_of_zero_le hx0
      have hxn : x < ll.length := by omega
      have hrk : k < ((natRows ll).getD i []).length := by rw [hgd]; simpa using hltk
      have hrx : ((natRows ll).getD i [])[k] = x := by
        have : ((natRows ll).getD i [])[k] = (ll[i][k]).toNat := (List.getElem_of_eq hgd hrk).trans (List.getElem_map _)
        rw [this, hx]; rfl
      rw [hx]
      refine has_spec (i := x) (by omega) hbits10 ⟨_, rfl, ifB_not ?_⟩
      refine ifB_bool (fun hc => ?_) (fun hc => ?_)
      · have hskip := nxP_skip (rows := natRows ll) (i := i) (k := k) (by omega) hrk (by rw [hrx]; exact hc)
        rw [hskip]
        exact ⟨hos10, ⟨_, hB10⟩, hbits10, by omega, by omega⟩
      · have hpush := nxP_push (rows := natRows ll) (i := i) (k := k) (by omega) hrk (by rw [hrx]; exact hc)
        rw [hrx] at hpush
        refine add_spec (i := x) (by omega) hbits10 fun v hbits11 => ⟨rfl, ?_⟩
        generalize hw11 : w10.drew.setCell ((blk w8.heap.size).add (x / 64)) (.int .u64 (v : Int)) = w11 at hbits11 ⊢
        obtain ⟨cs11, hB11⟩ : ∃ cs, Blk w11 w8.heap.size 137 cs := by rw [← hw11]; exact ⟨_, hB10.drew.set _ _⟩
        have hos11 : OS w gb bn ba ll.length w11 (nxP (natRows ll) i k) := by
          obtain ⟨o1, o2, o3, o4, o5, o6, o7, hn', ha', ow, f1, f2⟩ := hos10
          have hne3 : gb ≠ w8.heap.size := o3.apart hB10 (by decide)
          have hne1 : w8.heap.size ≠ bn := hB10.apart f1.head (by decide)
          have hne2 : w8.heap.size ≠ ba := hB10.apart f2.head (by decide)
          rw [← hw11]
          exact ⟨o1.drew.setCell (by rw [add_block]; exact hsbB) _, o2, o3.drew.other (by rw [add_block]; exact hne3) _, o4, o5, o6, o7, hn', ha', ow,
            (f1.grown (w' := _) (Below.refl _ _).drew).set_other (hB10.drew) hne1 (by decide) _ _, (f2.grown (w' := _) (Below.refl _ _).drew).set_other (hB10.drew) hne2 (by decide) _ _⟩
        have hlen : ((nxP (natRows ll) i k).getD i []).length ≤ ll.length := by
          rw [nxP_getD (by omega), if_neg (by omega), if_pos rfl, hgd]
          refine dedup_le fun y hy => ?_
          obtain ⟨j, hj, rfl⟩ := List.mem_iff_getElem.1 hy
          have hj' : j < k ∧ j < (ll[i]).length := by simp at hj; omega
          have := hgood10 j hj'.1 hj'.2
          simp only [List.getElem_take, List.getElem_map]
          omega
        have hgt : ∀ j, i < j → (nxP (natRows ll) i k).getD j [] = [] := fun j hj => by
          by_cases hjn : j < (natRows ll).length
          · rw [nxP_getD hjn, if_neg (by omega), if_neg (by omega)]
          · rw [List.getD_eq_getElem?_getD, List.getElem?_eq_none (by rw [nxP_length]; omega)]; rfl
        refine push_step hos11 hlt hxn hn1 (by omega) (by have := ahead_le (nxP (natRows ll) i k) x; rw [nxP_length] at this; omega) hc hgt (by decide) (by decide) hB11 fun w' hos' hB' => ?_
        rw [hpush]
        refine ⟨hos', ⟨_, hB'⟩, ?_, by omega, by omega⟩
        have e : ∀ j, (((nxP (natRows ll) i k).set i ((nxP (natRows ll) i k).getD i [] ++ [x])).getD i []).contains j = (((nxP (natRows ll) i k).getD i []).contains j || j == x) := by
          intro j
          have : ((nxP (natRows ll) i k).set i ((nxP (natRows ll) i k).getD i [] ++ [x])).getD i [] = (nxP (natRows ll) i k).getD i [] ++ [x] := by simp [List.getD, nxP_length, hlt]
          rw [this, Bool.eq_iff_iff]
          simp
        have hbits' : Bits w' (blk w8.heap.size) (fun j => ((nxP (natRows ll) i k).getD i []).contains j || j == x) :=
          hbits11.of_block ((show w'.heap[w8.heap.size]? = _ from hB').trans (show w11.heap[w8.heap.size]? = _ from hB11).symm)
        simpa only [e] using hbits'
    · have hkk : k = (ll[i]).length := by dsimp only at hgek; omega
      subst hkk
      refine hnext w10 hlt ⟨?_, fun j hj hjl x hx => ?_⟩
      · have := nxP_next (natRows ll) i
        rw [hgd, List.length_map] at this
        rw [← this]
        exact hos10
      · by_cases e : j = i
        · subst e
          obtain ⟨m, hm, rfl⟩ := List.mem_iff_getElem.1 hx
          exact hgood10 m hm hm
        · exact hgood j (by omega) hjl x hx
  · -- the walk
    have hi' : i = ll.length := by dsimp only at hge; omega
    subst hi'
    have hG : Good ll := fun l hl x hx => by
      obtain ⟨j, hj, rfl⟩ := List.mem_iff_getElem.1 hl
      exact hgood j hj hj x hx
    have hnx : nxP (natRows ll) ll.length 0 = edges ll := by have := nxP_all (natRows ll); rwa [hrl] at this
    rw [hnx] at hos8
    obtain ⟨o1, o2, o3, o4, o5, o6, o7, hn', ha', ow, f1, f2⟩ := hos8
    have hl1 : hn'.length = ll.length := by rw [f1.len, o2]
    have hl2 : ha'.length = ll.length := by rw [f2.len, ahead_length, o2]
    have hrows : ∀ j, ∀ t ∈ (edges ll).getD j [], t < (edges ll).length := by
      intro j t ht
      by_cases hj : j < ll.length
      · have : (edges ll).getD j [] = dedup (ll[j].map Int.toNat) := by simp [edges, natRows, List.getD, hj]
        rw [this, mem_dedup] at ht
        obtain ⟨y, hy, rfl⟩ := List.mem_map.1 ht
        have := hG _ (List.getElem_mem hj) y hy
        simp [edges, natRows]
        omega
      · simp [edges, natRows, List.getD, hj] at ht
    refine walked_spec o3 (f1.isSS hl1 (by omega)) (f1.avoids o3 (by decide) (by decide)) (by rw [o2]; exact hn0) (by rw [o2]; exact hn1) hrows fun w' wk od bs hfr hGw hbits hwk hod hfw hfo => ⟨rfl, ?_⟩
    have hz := o1.size
    have gB : IsGB w' w.heap.size gb (edges ll) := by
      refine ⟨o4, _, _, wk, od, bs, hn', ha', hGw, ?_, ?_, hwk.isS, hod.isS, hbits, (fun a ha => by cases ha; exact o5), (fun a ha => by cases ha; exact o6), (fun a ha => by have := hfw a ha; omega), (fun a ha => by have := hfo a ha; omega), (fun i hi a ha => (f1.own i hi a ha).2), fun i hi a ha => (f2.own i hi a ha).2⟩
      · exact (f1.isSS hl1 (by omega)).fr hfr (Nat.le_refl _) (f1.avoids o3 (by decide) (by decide))
      · exact (f2.isSS hl2 (by omega)).fr hfr (Nat.le_refl _) (f2.avoids o3 (by decide) (by decide))
    refine hok hn0 hn1 hG w' gb ?_ gB gB.isG
    exact o1.trans ((hfr.mono (B' := w.heap.size) (X' := fun _ => False) o1.size (fun k hk e => by omega)).below)

end Go.Proofs

namespace Go.Proofs
open Go.Gk Go.RowKit Go.Gr

/-- A graph's rows: what Of lets through. -/
structure NxOk (nx : List (List Nat)) : Prop where
  pos : 0 < nx.length
  max : nx.length ≤ 4096
  rows : ∀ i, ∀ t ∈ nx.getD i [], t < nx.length
  nodup : ∀ i, (nx.getD i []).Nodup
theorem NxOk.row_le {nx : List (List Nat)} (h : NxOk nx) (i : Nat) : (nx.getD i []).length ≤ nx.length := nodup_le (h.nodup i) (h.rows i)
theorem NxOk.came {nx : List (List Nat)} (h : NxOk nx) : Came nx.length ([], []) (visit nx nx.length 0 ([], [])) :=
  visit_came h.rows nx.length 0 ([], []) h.pos (by simp) (by simp) (by simp)
theorem order_len (nx : List (List Nat)) : (orderOf nx).length = (walkOf nx).length := by
  have := visit_len nx nx.length 0 ([], [])
  simp [orderOf, walkOf] at this ⊢
  omega
theorem NxOk.walk_le {nx : List (List Nat)} (h : NxOk nx) : (walkOf nx).length ≤ nx.length := nodup_le h.came.nodup h.came.lt
theorem edges_getD {ll : List (List Int)} {j : Nat} (hj : j < ll.length) : (edges ll).getD j [] = dedup (ll[j].map Int.toNat) := by simp [edges, natRows, List.getD, hj]
theorem edges_length (ll : List (List Int)) : (edges ll).length = ll.length := by simp [edges, natRows]
theorem edges_ok {ll : List (List Int)} (h0 : 0 < ll.length) (h1 : ll.length ≤ 4096) (hG : Good ll) : NxOk (edges ll) := by
  refine ⟨by rw [edges_length]; exact h0, by rw [edges_length]; exact h1, fun j t ht => ?_, fun j => ?_⟩
  · by_cases hj : j < ll.length
    · rw [edges_getD hj, mem_dedup] at ht
      obtain ⟨y, hy, rfl⟩ := List.mem_map.1 ht
      have := hG _ (List.getElem_mem hj) y hy
      rw [edges_length]
      omega
    · simp [edges, natRows, List.getD, hj] at ht
  · by_cases hj : j < ll.length
    · rw [edges_getD hj]; exact dedup_nodup _
    · simp [edges, natRows, List.getD, hj]

theorem _root_.Go.Gk.IsS.toI {w : World} {s : Sl} {l : List Nat} (h : IsS iN w s l) : IsI w s (l.map fun (x : Nat) => (x : Int)) :=
  ⟨by rw [List.length_map]; exact h.len, h.cap, h.max, h.nil, fun a ha i hi => by rw [List.getElem_map]; exact h.cell a ha i (by simpa using hi)⟩

theorem gLen_spec {gb : Nat} {nx : List (List Nat)} {w : World} {R : Value → World → Prop} (h : IsG w gb nx) (hR : R (.int .i64 (nx.length : Int)) w) :
    callR Tryz.prog 38 #[.pointer (some (blk gb))] w R := by
  refine callR.of (graph_Graph_Len_calls _ R w ?_) fun _ _ h => h
  obtain ⟨sn, sa, wk, od, bs, hn, ha, h1, h2, h3, h4, h5, h6⟩ := h
  refine ⟨sn, h1.cell0 rfl, ?_⟩
  have e : sn.l = nx.length := by have := h2.top.len; have := h2.len; omega
  show R (.int .i64 (sn.l : Int)) w
  rw [e]; exact hR

theorem is_spec {gb : Nat} {nx : List (List Nat)} {i : Int} {w : World} {R : Value → World → Prop} (h : IsG w gb nx) (hR : R (.bool (decide (0 ≤ i ∧ i < nx.length))) w) :
    callR Tryz.prog 99 #[.pointer (some (blk gb)), .int .i64 i] w R := by
  refine callR.of (graph_Graph_is_calls _ i R w ?_) fun _ _ h => h
  refine ifB_dec (fun h0 => gLen_spec h ⟨_, rfl, ?_⟩) (fun h0 => ?_)
  · have : decide (i < (nx.length : Int)) = decide (0 ≤ i ∧ i < nx.length) := by
      rw [decide_eq_decide]; exact ⟨fun h => ⟨h0, h⟩, fun h => h.2⟩
    rw [this]; exact hR
  · have : decide (0 ≤ i ∧ i < (nx.length : Int)) = false := by rw [decide_eq_false_iff_not]; omega
    rw [this] at hR; exact hR

/-- Row i; none where i is no node. -/
def rowAt (ll : List (List Nat)) (i : Int) : List Nat := if 0 ≤ i then ll.getD i.toNat [] else []
theorem rowAt_nat (ll : List (List Nat)) (i : Nat) : rowAt ll (i : Int) = ll.getD i [] := by simp [rowAt]
theorem rowAt_out {ll : List (List Nat)} {i : Int} (h : ¬ (0 ≤ i ∧ i < ll.length)) : rowAt ll i = [] := by
  unfold rowAt
  split
  · rw [List.getD_eq_getElem?_getD, List.getElem?_eq_none (by omega)]; rfl
  · rfl

theorem Next_spec {gb : Nat} {nx : List (List Nat)} (hx : NxOk nx) {i : Int} {w : World} {R : Value → World → Prop} (h : IsG w gb nx)
    (hR : ∀ r w', Own w' 3 1 r ((rowAt nx i).map iN) → Fresh w.heap.size r → Below w.heap.size w w' → R (.slice r.a r.l r.c) w') :
    callR Tryz.prog 39 #[.pointer (some (blk gb)), .int .i64 i] w R := by
  refine callR.of (graph_Graph_Next_calls _ i R w ?_) fun _ _ h => h
  refine is_spec h ⟨_, rfl, ifB_not (ifB_dec (fun hi => ?_) (fun hi => ?_))⟩
  · obtain ⟨sn, sa, wk, od, bs, hn, ha, h1, h2, h3, h4, h5, h6⟩ := h
    obtain ⟨k, rfl⟩ := Int.eq_ofNat_of_zero_le hi.1
    have hk : k < nx.length := by have := hi.2; omega
    have hnl := h2.len
    have hrl := hx.row_le k
    have hrm := hx.max
    have hsz : nx[k].length * 8 ≤ 140737488355328 := by
      have e : nx[k] = nx.getD k [] := by simp [List.getD, hk]
      rw [e]; omega
    refine ⟨sn, h1.cell0 rfl, elemS h2.top (by omega) ?_⟩
    refine Clone_spec iN_one (h2.row k (by omega) hk) hsz fun r w' g1 g2 g3 => ⟨r, rfl, hR r w' ?_ g2 g3⟩
    rw [rowAt_nat]
    simpa [List.getD, hk] using g1
  · refine hR ⟨none, 0, 0⟩ w ?_ (fun a ha => by cases ha) (Below.refl _ _)
    rw [rowAt_out (by omega)]; exact Own.nil _ _ _

theorem Ahead_spec {gb : Nat} {nx : List (List Nat)} (hx : NxOk nx) {i : Int} {w : World} {R : Value → World → Prop} (h : IsG w gb nx)
    (hR : ∀ r w', Own w' 3 1 r ((rowAt (aheadOf nx) i).map iN) → Fresh w.heap.size r → Below w.heap.size w w' → R (.slice r.a r.l r.c) w') :
    callR Tryz.prog 40 #[.pointer (some (blk gb)), .int .i64 i] w R := by
  refine callR.of (graph_Graph_Ahead_calls _ i R w ?_) fun _ _ h => h
  refine is_spec h ⟨_, rfl, ifB_not (ifB_dec (fun hi => ?_) (fun hi => ?_))⟩
  · obtain ⟨sn, sa, wk, od, bs, hn, ha, h1, h2, h3, h4, h5, h6⟩ := h
    obtain ⟨k, rfl⟩ := Int.eq_ofNat_of_zero_le hi.1
    have hk : k < (aheadOf nx).length := by rw [ahead_length]; have := hi.2; omega
    have hnl := h3.len
    have hrl := ahead_le nx k
    have hrm := hx.max
    have hsz : (aheadOf nx)[k].length * 8 ≤ 140737488355328 := by
      have e : (aheadOf nx)[k] = (aheadOf nx).getD k [] := by simp [List.getD, hk]
      rw [e]; omega
    refine ⟨sa, h1.cell (n := 1) rfl, elemS h3.top (by omega) ?_⟩
    refine Clone_spec iN_one (h3.row k (by omega) hk) hsz fun r w' g1 g2 g3 => ⟨r, rfl, hR r w' ?_ g2 g3⟩
    rw [rowAt_nat]
    simpa [List.getD, hk] using g1
  · refine hR ⟨none, 0, 0⟩ w ?_ (fun a ha => by cases ha) (Below.refl _ _)
    rw [rowAt_out (by rw [ahead_length]; omega)]; exact Own.nil _ _ _

theorem Order_spec {gb : Nat} {nx : List (List Nat)} (hx : NxOk nx) {w : World} {R : Value → World → Prop} (h : IsG w gb nx)
    (hR : ∀ r w', Own w' 3 1 r ((orderOf nx).map iN) → Fresh w.heap.size r → Below w.heap.size w w' → R (.slice r.a r.l r.c) w') :
    callR Tryz.prog 42 #[.pointer (some (blk gb))] w R := by
  refine callR.of (graph_Graph_Order_calls _ R w ?_) fun _ _ h => h
  obtain ⟨sn, sa, wk, od, bs, hn, ha, h1, h2, h3, h4, h5, h6⟩ := h
  refine ⟨od, h1.cell (n := 3) rfl, Clone_spec iN_one h5 (by have := order_len nx; have := hx.walk_le; have := hx.max; omega) fun r w' g1 g2 g3 => ⟨r, rfl, hR r w' g1 g2 g3⟩⟩

/-- Is i a node that is reached? -/
def reachedOf (nx : List (List Nat)) (i : Int) : Bool := decide (0 ≤ i) && (walkOf nx).contains i.toNat
theorem Reached_spec {gb : Nat} {nx : List (List Nat)} (hx : NxOk nx) {i : Int} {w : World} {R : Value → World → Prop} (h : IsG w gb nx) (hR : R (.bool (reachedOf nx i)) w) :
    callR Tryz.prog 41 #[.pointer (some (blk gb)), .int .i64 i] w R := by
  refine callR.of (graph_Graph_Reached_calls _ i R w ?_) fun _ _ h => h
  refine is_spec h ⟨_, rfl, ifB_dec (fun hi => ?_) (fun hi => ?_)⟩
  · obtain ⟨sn, sa, wk, od, bs, hn, ha, h1, h2, h3, h4, h5, h6⟩ := h
    obtain ⟨k, rfl⟩ := Int.eq_ofNat_of_zero_le hi.1
    have hm := hx.max
    have hk : k < 4096 := by have := hi.2; omega
    refine has_spec hk (BitsL.bits h1 h6) ⟨_, rfl, ?_⟩
    simpa [reachedOf] using hR
  · have : reachedOf nx i = false := by
      unfold reachedOf
      by_cases h0 : 0 ≤ i
      · have : (walkOf nx).contains i.toNat = false := by
          rw [← Bool.not_eq_true, List.contains_iff_mem]
          intro hm
          have := hx.came.lt _ hm
          omega
        rw [this, Bool.and_false]
      · simp [h0]
    rw [this] at hR
    exact hR

end Go.Proofs

namespace Go.Proofs
open Go.Gk Go.RowKit Go.Gr

end Go.Proofs

namespace Go.Proofs
open Go.Gk Go.RowKit Go.Gr

end Go.Proofs

namespace Go.Proofs
open Go.Gk Go.RowKit Go.Gr

theorem edge_iff {nx : List (List Nat)} (hx : NxOk nx) {i j : Nat} : i ∈ (aheadOf nx).getD j [] ↔ j ∈ nx.getD i [] := by
  by_cases hj : j < nx.length
  · rw [ahead_getD hj, List.mem_filter, List.mem_range, List.contains_iff_mem]
    refine ⟨fun h => h.2, fun h => ⟨?_, h⟩⟩
    by_cases hi : i < nx.length
    · exact hi
    · simp [List.getD, hi] at h
  · constructor
    · intro h; simp [List.getD, ahead_length, hj] at h
    · intro h; exact absurd (hx.rows i j h) hj
end Go.Proofs
namespace Go.Gr

/-- A way leads from the first node to a node, never through wo. -/
inductive ReachN (nx : List (List Nat)) (wo : Int) : Nat → Prop
  | zero : wo ≠ 0 → 0 < nx.length → ReachN nx wo 0
  | step {i t : Nat} : ReachN nx wo i → t ∈ nx.getD i [] → (t : Int) ≠ wo → ReachN nx wo t

/-- What comes anew lies on edges, and has its edges' ends come too. -/
structure Clo (nx : List (List Nat)) (Q : Nat → Prop) (s s' : List Nat × List Nat) : Prop where
  came : ∀ x ∈ s.1, x ∈ s'.1
  closed : ∀ x ∈ s'.1, x ∈ s.1 ∨ ∀ t ∈ nx.getD x [], t ∈ s'.1
  sound : ∀ x ∈ s'.1, x ∈ s.1 ∨ Q x
theorem visit_clo {nx : List (List Nat)} (hnx : ∀ i, ∀ t ∈ nx.getD i [], t < nx.length) {Q : Nat → Prop} (hQ : ∀ i, Q i → ∀ t ∈ nx.getD i [], Q t) :
    ∀ (f i : Nat) (s : List Nat × List Nat), i < nx.length → s.1.Nodup → (∀ x ∈ s.1, x < nx.length) → i ∉ s.1 → nx.length ≤ s.1.length + f → Q i → Clo nx Q s (visit nx f i s) ∧ i ∈ (visit nx f i s).1 := by
  intro f
  induction f with
  | zero =>
    intro i s hi hnd hlt hni hf
    have := nodup_lt hnd hlt hi hni
    omega
  | succ f ih =>
    intro i s hi hnd hlt hni hf hq
    have hslt := nodup_lt hnd hlt hi hni
    have all : ∀ (l : List Nat) (s1 : List Nat × List Nat), (∀ t ∈ l, t < nx.length ∧ Q t) → s1.1.Nodup → (∀ x ∈ s1.1, x < nx.length) → nx.length ≤ s1.1.length + f → Clo nx Q s1 (visitAll nx f l s1) ∧ ∀ t ∈ l, t ∈ (visitAll nx f l s1).1 := by
      intro l
      induction l with
      | nil => intro s1 _ _ _ _; exact ⟨⟨fun _ h => h, fun _ h => .inl h, fun _ h => .inl h⟩, by simp⟩
      | cons t r ihl =>
        intro s1 hl h1 h2 h3
        have e : visitAll nx f (t :: r) s1 = visitAll nx f r (if s1.1.contains t then s1 else visit nx f t s1) := rfl
        rw [e]
        have ht := hl t (by simp)
        by_cases hc : t ∈ s1.1
        · rw [if_pos (by simpa using hc)]
          obtain ⟨g1, g2⟩ := ihl s1 (fun u hu => hl u (by simp [hu])) h1 h2 h3
          refine ⟨g1, fun u hu => ?_⟩
          rcases List.mem_cons.1 hu with rfl | hu
          · exact g1.came _ hc
          · exact g2 u hu
        · rw [if_neg (by simpa using hc)]
          obtain ⟨v1, v2⟩ := ih t s1 ht.1 h1 h2 hc h3 ht.2
          have hv := visit_came hnx f t s1 ht.1 h1 h2 hc
          have hm : s1.1.length ≤ (visit nx f t s1).1.length := by obtain ⟨l, e⟩ := hv.more; rw [e]; simp
          obtain ⟨g1, g2⟩ := ihl (visit nx f t s1) (fun u hu => hl u (by simp [hu])) hv.nodup hv.lt (by omega)
          refine ⟨⟨fun x hx => g1.came x (v1.came x hx), fun x hx => ?_, fun x hx => ?_⟩, fun u hu => ?_⟩
          · rcases g1.closed x hx with h | h
            · rcases v1.closed x h with h | h
              · exact .inl h
              · exact .inr fun u hu => g1.came u (h u hu)
            · exact .inr h
          · rcases g1.sound x hx with h | h
            · exact v1.sound x h
            · exact .inr h
          · rcases List.mem_cons.1 hu with rfl | hu
            · exact g1.came _ v2
            · exact g2 u hu
    rw [visit_succ]
    have hb : (s.1 ++ [i]).Nodup := by
      rw [List.nodup_append]
      exact ⟨hnd, by simp, fun x hx y hy => by simp at hy; subst hy; intro e; subst e; exact hni hx⟩
    obtain ⟨a1, a2⟩ := all (nx.getD i []) (s.1 ++ [i], s.2) (fun t ht => ⟨hnx i t ht, hQ i hq t ht⟩) hb (fun x hx => by
      rcases List.mem_append.1 hx with h | h
      · exact hlt x h
      · simp at h; subst h; exact hi) (by simp; omega)
    refine ⟨⟨fun x hx => a1.came x (List.mem_append.2 (.inl hx)), fun x hx => ?_, fun x hx => ?_⟩, a1.came i (by simp)⟩
    · rcases a1.closed x hx with h | h
      · rcases List.mem_append.1 h with h | h
        · exact .inl h
        · simp at h; subst h; exact .inr a2
      · exact .inr h
    · rcases a1.sound x hx with h | h
      · rcases List.mem_append.1 h with h | h
        · exact .inl h
        · simp at h; subst h; exact .inr hq
      · exact .inr h

theorem walk_reach {nx : List (List Nat)} (hnx : ∀ i, ∀ t ∈ nx.getD i [], t < nx.length) (h0 : 0 < nx.length) (j : Nat) : j ∈ walkOf nx ↔ ReachN nx (-1) j := by
  obtain ⟨c, c0⟩ := visit_clo hnx (Q := ReachN nx (-1)) (fun i hi t ht => .step hi ht (by omega)) nx.length 0 ([], []) h0 (by simp) (by simp) (by simp) (by simp) (.zero (by decide) h0)
  constructor
  · intro h
    rcases c.sound j h with h | h
    · cases h
    · exact h
  · intro h
    induction h with
    | zero => exact c0
    | step _ ht _ ih =>
      rcases c.closed _ ih with h | h
      · cases h
      · exact h _ ht

end Go.Gr
namespace Go.Gr

def Pe (nx : List (List Nat)) (l : List Nat) : Prop := ∀ a b x, l = a ++ x :: b → a = [] ∨ ∃ y ∈ a, x ∈ nx.getD y []
def Pl (nx : List (List Nat)) (m : List Nat) : Prop := ∀ a b x, m = a ++ x :: b → b = [] ∨ ∃ y ∈ b, x ∈ nx.getD y []
theorem nodup_app {a b : List Nat} (h : (a ++ b).Nodup) : a.Nodup ∧ b.Nodup ∧ ∀ x ∈ a, x ∉ b := by
  rw [List.nodup_append] at h
  exact ⟨h.1, h.2.1, fun x hx hy => h.2.2 x hx x hy rfl⟩
theorem visit_par {nx : List (List Nat)} (hnx : ∀ i, ∀ t ∈ nx.getD i [], t < nx.length) :
    ∀ (f i : Nat) (s : List Nat × List Nat), i < nx.length → s.1.Nodup → (∀ x ∈ s.1, x < nx.length) → i ∉ s.1 → nx.length ≤ s.1.length + f →
      ∃ l m, (visit nx f i s).1 = s.1 ++ i :: l ∧ (visit nx f i s).2 = s.2 ++ (m ++ [i]) ∧ (∀ x, x ∈ m ↔ x ∈ l) ∧ m.Nodup ∧ Pe nx (i :: l) ∧ Pl nx (m ++ [i]) := by
  intro f
  induction f with
  | zero =>
    intro i s hi hnd hlt hni hf
    have := nodup_lt hnd hlt hi hni
    omega
  | succ f ih =>
    intro i s hi hnd hlt hni hf
    have hslt := nodup_lt hnd hlt hi hni
    have all : ∀ (r : List Nat) (s1 : List Nat × List Nat), (∀ t ∈ r, t < nx.length ∧ t ∈ nx.getD i []) → s1.1.Nodup → (∀ x ∈ s1.1, x < nx.length) → nx.length ≤ s1.1.length + f →
        (∃ l m, s1.1 = s.1 ++ i :: l ∧ s1.2 = s.2 ++ m ∧ (∀ x, x ∈ m ↔ x ∈ l) ∧ m.Nodup ∧ Pe nx (i :: l) ∧ ∀ a b x, m = a ++ x :: b → (∃ y ∈ b, x ∈ nx.getD y []) ∨ x ∈ nx.getD i []) →
        ∃ l m, (visitAll nx f r s1).1 = s.1 ++ i :: l ∧ (visitAll nx f r s1).2 = s.2 ++ m ∧ (∀ x, x ∈ m ↔ x ∈ l) ∧ m.Nodup ∧ Pe nx (i :: l) ∧ ∀ a b x, m = a ++ x :: b → (∃ y ∈ b, x ∈ nx.getD y []) ∨ x ∈ nx.getD i [] := by
      intro r
      induction r with
      | nil => intro s1 _ _ _ _ h; exact h
      | cons t r ihl =>
        intro s1 hl h1 h2 h3 h
        have e : visitAll nx f (t :: r) s1 = visitAll nx f r (if s1.1.contains t then s1 else visit nx f t s1) := rfl
        rw [e]
        have ht := hl t (by simp)
        by_cases hc : t ∈ s1.1
        · rw [if_pos (by simpa using hc)]
          exact ihl s1 (fun u hu => hl u (by simp [hu])) h1 h2 h3 h
        · rw [if_neg (by simpa using hc)]
          obtain ⟨l2, m2, v1, v2, v3, v4, v5, v6⟩ := ih t s1 ht.1 h1 h2 hc h3
          have hv := visit_came hnx f t s1 ht.1 h1 h2 hc
          have hm : s1.1.length ≤ (visit nx f t s1).1.length := by obtain ⟨l, e⟩ := hv.more; rw [e]; simp
          refine ihl (visit nx f t s1) (fun u hu => hl u (by simp [hu])) hv.nodup hv.lt (by omega) ?_
          obtain ⟨l, m, g1, g2, g3, g4, g5, g6⟩ := h
          have hnd' := hv.nodup
          rw [v1, g1] at hnd'
          obtain ⟨_, n2, n3⟩ := nodup_app hnd'
          have n2' := List.nodup_cons.1 n2
          refine ⟨l ++ t :: l2, m ++ (m2 ++ [t]), by rw [v1, g1]; simp, by rw [v2, g2]; simp, fun x => ?_, ?_, ?_, ?_⟩
          · simp only [List.mem_append, List.mem_cons, List.not_mem_nil, or_false, g3 x, v3 x]
            constructor <;> (rintro (h | h | h) <;> simp [h])
          · rw [List.nodup_append]
            refine ⟨g4, ?_, fun x hx y hy => ?_⟩
            · rw [List.nodup_append]
              exact ⟨v4, by simp, fun x hx y hy => by
                simp at hy; subst hy
                intro e; subst e
                exact n2'.1 ((v3 _).1 hx)⟩
            · intro e; subst e
              refine n3 x (by simp [(g3 x).1 hx]) ?_
              rcases List.mem_append.1 hy with hy | hy
              · exact List.mem_cons_of_mem _ ((v3 x).1 hy)
              · simp at hy; subst hy; exact List.mem_cons_self ..
          · intro a b x hx
            have hx : (i :: l) ++ (t :: l2) = a ++ x :: b := by simpa using hx
            rcases List.append_eq_append_iff.1 hx with ⟨a', ha, hb⟩ | ⟨c', ha, hb⟩
            · rcases v5 a' b x hb with e | ⟨y, hy, hxy⟩
              · subst e
                simp at hb
                exact .inr ⟨i, by rw [ha]; simp, by rw [← hb.1]; exact ht.2⟩
              · exact .inr ⟨y, by rw [ha]; simp [hy], hxy⟩
            · cases c' with
              | nil =>
                simp at hb ha
                exact .inr ⟨i, by rw [← ha]; simp, by rw [hb.1]; exact ht.2⟩
              | cons z c' =>
                simp at hb
                rw [← hb.1] at ha
                exact g5 a c' x ha
          · intro a b x hx
            rcases List.append_eq_append_iff.1 hx with ⟨a', ha, hb⟩ | ⟨c', ha, hb⟩
            · rcases v6 a' b x hb with e | h
              · subst e
                have : x = t := by have := congrArg List.getLast? hb; simpa using this.symm
                subst this
                exact .inr ht.2
              · exact .inl h
            · cases c' with
              | nil =>
                simp at hb
                rcases v6 [] b x (by simp [hb]) with e | h
                · subst e
                  have : x = t := by
                    have := congrArg List.getLast? hb
                    simpa using this
                  subst this
                  exact .inr ht.2
                · exact .inl h
              | cons z c' =>
                simp at hb
                obtain ⟨rfl, rfl⟩ := hb
                rcases g6 a c' x ha with ⟨y, hy, hxy⟩ | h
                · exact .inl ⟨y, by simp [hy], hxy⟩
                · exact .inr h
    have hb : (s.1 ++ [i]).Nodup := by
      rw [List.nodup_append]
      exact ⟨hnd, by simp, fun x hx y hy => by simp at hy; subst hy; intro e; subst e; exact hni hx⟩
    rw [visit_succ]
    obtain ⟨l, m, g1, g2, g3, g4, g5, g6⟩ := all (nx.getD i []) (s.1 ++ [i], s.2) (fun t ht => ⟨hnx i t ht, ht⟩) hb (fun x hx => by
      rcases List.mem_append.1 hx with h | h
      · exact hlt x h
      · simp at h; subst h; exact hi) (by simp; omega)
      ⟨[], [], by simp, by simp, by simp, by simp, fun a b x hx => by
        cases a with
        | nil => exact .inl rfl
        | cons _ a => simp at hx, fun a b x hx => by simp at hx⟩
    refine ⟨l, m, g1, by rw [g2]; simp, g3, g4, g5, fun a b x hx => ?_⟩
    rcases List.append_eq_append_iff.1 hx with ⟨a', ha, hb⟩ | ⟨c', ha, hb⟩
    · cases a' with
      | nil => simp at hb; exact .inl hb.2
      | cons z a' => simp at hb
    · cases c' with
      | nil => simp at hb; exact .inl hb.2
      | cons z c' =>
        simp at hb
        obtain ⟨rfl, rfl⟩ := hb
        rcases g6 a c' x ha with ⟨y, hy, hxy⟩ | h
        · exact .inr ⟨y, by simp [hy], hxy⟩
        · exact .inr ⟨i, by simp, h⟩

end Go.Gr
namespace Go.Proofs
open Go.Gk Go.RowKit Go.Gr
/-- The walk and the order of a graph: what they are like. -/
structure WalkOk (nx : List (List Nat)) : Prop where
  head : ∃ l, walkOf nx = 0 :: l
  par : ∀ k (hk : k < (walkOf nx).length), 0 < k → ∃ j, ∃ hj : j < k, (walkOf nx)[k] ∈ nx.getD ((walkOf nx)[j]'(by omega)) []
  ohead : ∃ l, orderOf nx = 0 :: l
  mem : ∀ x, x ∈ orderOf nx ↔ x ∈ walkOf nx
  nodup : (orderOf nx).Nodup
  opar : ∀ k (hk : k < (orderOf nx).length), 0 < k → ∃ j, ∃ hj : j < k, (orderOf nx)[k] ∈ nx.getD ((orderOf nx)[j]'(by omega)) []
  closed : ∀ x ∈ walkOf nx, ∀ t ∈ nx.getD x [], t ∈ walkOf nx
theorem _root_.Go.Proofs.NxOk.walkOk {nx : List (List Nat)} (h : NxOk nx) : WalkOk nx := by
  obtain ⟨l, m, g1, g2, g3, g4, g5, g6⟩ := visit_par h.rows nx.length 0 ([], []) h.pos (by simp) (by simp) (by simp) (by simp)
  have hw : walkOf nx = 0 :: l := by simpa [walkOf] using g1
  have ho : orderOf nx = 0 :: m.reverse := by simp [orderOf, g2]
  have hnd := h.came.nodup
  have hw' : (0 :: l).Nodup := by rw [← hw]; exact hnd
  have hmem : ∀ x, x ∈ orderOf nx ↔ x ∈ walkOf nx := fun x => by rw [ho, hw]; simp [g3 x]
  refine ⟨⟨l, hw⟩, fun k hk h0 => ?_, ⟨_, ho⟩, hmem, ?_, fun k hk h0 => ?_, fun x hx t ht => ?_⟩
  · have hk' : k < (0 :: l).length := by rw [← hw]; exact hk
    have e : (0 :: l) = (0 :: l).take k ++ (0 :: l)[k] :: (0 :: l).drop (k + 1) := by rw [← List.drop_eq_getElem_cons hk', List.take_append_drop]
    rcases g5 _ _ _ e with e | ⟨y, hy, hxy⟩
    · have := congrArg List.length e; simp at this; omega
    · obtain ⟨j, hj, rfl⟩ := List.mem_iff_getElem.1 hy
      have hjk : j < k := by rw [List.length_take] at hj; omega
      refine ⟨j, hjk, ?_⟩
      rw [List.getElem_take] at hxy
      simp only [hw]
      exact hxy
  · rw [ho, List.nodup_cons]
    refine ⟨fun hx => ?_, List.pairwise_reverse.2 (g4.imp fun h => h.symm)⟩
    have := (g3 0).1 (List.mem_reverse.1 hx)
    exact (List.nodup_cons.1 hw').1 this
  · have ho' : orderOf nx = (m ++ [0]).reverse := by simp [ho]
    obtain ⟨q, hq⟩ : ∃ q, q = m ++ [0] := ⟨_, rfl⟩
    rw [← hq] at g6 ho'
    have hl : (orderOf nx).length = q.length := by rw [ho']; simp
    have hk2 : q.length - 1 - k < q.length := by omega
    have e : q = q.take (q.length - 1 - k) ++ q[q.length - 1 - k] :: q.drop (q.length - 1 - k + 1) := by rw [← List.drop_eq_getElem_cons hk2, List.take_append_drop]
    have ek : ∀ j (hj : j < (orderOf nx).length), (orderOf nx)[j] = q[q.length - 1 - j]'(by omega) := fun j hj => by simp only [ho', List.getElem_reverse]
    rcases g6 _ _ _ e with e | ⟨y, hy, hxy⟩
    · have := congrArg List.length e; simp at this; omega
    · obtain ⟨j, hj, rfl⟩ := List.mem_iff_getElem.1 hy
      rw [List.length_drop] at hj
      rw [List.getElem_drop] at hxy
      refine ⟨q.length - 1 - (q.length - 1 - k + 1 + j), by omega, ?_⟩
      rw [ek k hk, ek _ (by omega)]
      have e9 : q.length - 1 - (q.length - 1 - (q.length - 1 - k + 1 + j)) = q.length - 1 - k + 1 + j := by omega
      simp only [e9]
      exact hxy
  · exact (walk_reach h.rows h.pos t).2 (.step ((walk_reach h.rows h.pos x).1 hx) ht (by omega))

end Go.Proofs
