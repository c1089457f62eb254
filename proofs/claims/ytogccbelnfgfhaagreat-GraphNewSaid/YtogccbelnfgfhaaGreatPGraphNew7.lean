/-
  Part 7 of what GraphNew is proved by: functions walked, and what they come to.
-/
import Derived.Test.YtogccbelnfgfhaaGreatProg
import Derived.Test.YtogccbelnfgfhaaGreatPGraphNew6
namespace Go.Proofs
open Go.Gk
set_option linter.unusedVariables false
set_option maxRecDepth 100000

/-- intaglio.intagliolaw14.merges -/
def a_intagliolaw14_merges : Ann := (.seq none .nil (.seq none (.seq none .nil (.cond (.seq none .nil .nil) .nil)) (.seq none (.seq none .nil (.one (.loop ⟨[0, 1], [(5, (.b (.int .i64)))]⟩ (.seq none (.seq none .nil (.cond .nil .nil)) (.seq none (.one (.seq none .nil (.cond (.seq none .nil .nil) .nil))) .nil))))) (.seq none .nil .nil))))
def L_intagliolaw14_merges (p0 : Sl) (p1 : Sl) (R : Value → World → Prop) (w : World) : Prop :=
 ifB ((p0.l : Int) != (p1.l : Int))
 (R (.bool false) w)
 (LoopW (S := Int × Unit) (fun s1 w1 n2 =>
 ifB (decide (s1.1 < (p0.l : Int)))
 ((0 ≤ s1.1 ∧ s1.1 < (p0.l : Int)) ∧
 derefP p0.a fun a3 =>
 ldI w1.drew ((a3.add ((Int.toNat s1.1) * 3)).add 0) .u8 fun x4 =>
 ldI w1.drew ((a3.add ((Int.toNat s1.1) * 3)).add 1) .i64 fun x5 =>
 ldI w1.drew ((a3.add ((Int.toNat s1.1) * 3)).add 2) .i64 fun x6 =>
 (0 ≤ s1.1 ∧ s1.1 < (p1.l : Int)) ∧
 derefP p1.a fun a7 =>
 ldI w1.drew ((a7.add ((Int.toNat s1.1) * 3)).add 0) .u8 fun x8 =>
 ldI w1.drew ((a7.add ((Int.toNat s1.1) * 3)).add 1) .i64 fun x9 =>
 ldI w1.drew ((a7.add ((Int.toNat s1.1) * 3)).add 2) .i64 fun x10 =>
 ifB (!(x4 == x8 && (x5 == x9 && (x6 == x10 && true))))
 (R (.bool false) w1.drew)
 (n2 ((IntKind.i64.wrap (s1.1 + (1 : Int))), ()) w1.drew))
 (R (.bool true) w1))
 ((0 : Int), ()) w)
theorem intagliolaw14_merges_calls (p0 : Sl) (p1 : Sl) (R : Value → World → Prop) (w : World) (h : L_intagliolaw14_merges p0 p1 R w) : Calls Tryz.prog 34 #[(.slice p0.a p0.l p0.c), (.slice p1.a p1.l p1.c)] w (Ret R) :=
 lw_calls (fs := Tryz.fs) (an := a_intagliolaw14_merges) (args := [(.slice p0.a p0.l p0.c), (.slice p1.a p1.l p1.c)]) Tryz.fsOK Tryz.mixed Tryz.func34 (by kernel_rfl) (by kernel_rfl)
 (Eq.mpr (by kernel_rfl : lwFn Tryz.prog Tryz.fs Tryz.f34 a_intagliolaw14_merges [(.slice p0.a p0.l p0.c), (.slice p1.a p1.l p1.c)] w R = L_intagliolaw14_merges p0 p1 R w) h)

end Go.Proofs
namespace Go.Proofs
open Go.Gk
set_option linter.unusedVariables false
set_option maxRecDepth 100000

/-- intaglio.intagliolaw14.GraphNew -/
def a_intagliolaw14_GraphNew : Ann := (.seq none .nil (.seq none .nil (.seq (some ⟨[2, 3, 5], []⟩) (.seq none .nil (.one (.loop ⟨[2, 3, 5], [(7, (.b (.int .i64)))]⟩ (.seq (some ⟨[2, 3, 5, 7], []⟩) (.seq none .nil (.cond .nil .nil)) (.seq none (.one (.seq none .nil (.cond (.seq none .nil .nil) .nil))) .nil))))) (.seq (some ⟨[2, 3], []⟩) (.seq none .nil (.cond (.seq none .nil (.seq none .nil (.seq none .nil (.cond (.seq none .nil .nil) .nil)))) .nil)) (.seq none .nil .nil)))))
def L_intagliolaw14_GraphNew (p0 : (Int × Int × Sl × Unit)) (p1 : (Int × Int × Sl × Sl × Int × Unit)) (R : Value → World → Prop) (w : World) : Prop :=
 Nw (w.alloc (.cells #[(.int .u32 p0.1), (.int .u32 p0.2.1), (.slice p0.2.2.1.a p0.2.2.1.l p0.2.2.1.c)] 25)) fun w1 =>
 Nw (w1.alloc (.cells #[(.int .u32 p1.1), (.int .i64 p1.2.1), (.slice p1.2.2.1.a p1.2.2.1.l p1.2.2.1.c), (.slice p1.2.2.2.1.a p1.2.2.2.1.l p1.2.2.2.1.c), (.int .i64 p1.2.2.2.2.1)] 29)) fun w2 =>
 ldI w2 ((blk w.heap.size).add 0) .u32 fun x1 =>
 ldI w2 ((blk w.heap.size).add 1) .u32 fun x2 =>
 ldS w2 ((blk w.heap.size).add 2) fun x3 =>
 callR Tryz.prog 8 #[(.agg #[(.int .u32 x1), (.int .u32 x2), (.slice x3.a x3.l x3.c)])] w2 fun v4 w3 =>
 ∃ x5 : Sl, ∃ x6 : (Int × Int × Unit), v4 = (.tuple #[(.slice x5.a x5.l x5.c), (.agg #[(.int .i64 x6.1), (.int .i64 x6.2.1)])]) ∧
 Nw (w3.alloc (.cells #[(.int .i64 (0 : Int)), (.int .i64 (0 : Int))] 33)) fun w4 =>
 Wr w4 (blk w3.heap.size) ∧
 Nw (w4.setCell (blk w3.heap.size) (.int .i64 x6.1)) fun w5 =>
 Wr w5 ((blk w3.heap.size).add 1) ∧
 Nw (w5.setCell ((blk w3.heap.size).add 1) (.int .i64 x6.2.1)) fun w6 =>
 JoinW (S := Unit) (fun m7 =>
 LoopW (S := Int × Unit) (fun s9 w7 n10 =>
 JoinW (S := Unit) (fun m11 =>
 ifB (decide (s9.1 < (x5.l : Int)))
 (ifB (decide (s9.1 < (8 : Int)))
 (m11 (()) w7)
 (m7 (()) w7))
 (m7 (()) w7))
 (fun s12 w8 =>
 ldI w8.drew ((blk w.heap.size).add 0) .u32 fun x13 =>
 ldI w8.drew ((blk w.heap.size).add 1) .u32 fun x14 =>
 ldS w8.drew ((blk w.heap.size).add 2) fun x15 =>
 (0 ≤ s9.1 ∧ s9.1 < (x5.l : Int)) ∧
 derefP x5.a fun a16 =>
 ldI w8.drew ((a16.add ((Int.toNat s9.1) * 5)).add 0) .u32 fun x17 =>
 ldI w8.drew ((a16.add ((Int.toNat s9.1) * 5)).add 1) .i64 fun x18 =>
 ldS w8.drew ((a16.add ((Int.toNat s9.1) * 5)).add 2) fun x19 =>
 ldS w8.drew ((a16.add ((Int.toNat s9.1) * 5)).add 3) fun x20 =>
 ldI w8.drew ((a16.add ((Int.toNat s9.1) * 5)).add 4) .i64 fun x21 =>
 callR Tryz.prog 9 #[(.agg #[(.int .u32 x13), (.int .u32 x14), (.slice x15.a x15.l x15.c)]), (.agg #[(.int .u32 x17), (.int .i64 x18), (.slice x19.a x19.l x19.c), (.slice x20.a x20.l x20.c), (.int .i64 x21)])] w8.drew fun v22 w9 =>
 ∃ x23 : Bool, v22 = (.bool x23) ∧
 ifB (!x23)
 (R (.bool false) w9)
 (n10 ((IntKind.i64.wrap (s9.1 + (1 : Int))), ()) w9)))
 ((0 : Int), ()) w6)
 (fun s8 w10 =>
 JoinW (S := Unit) (fun m24 =>
 ifB (decide ((x5.l : Int) > (0 : Int)))
 ((0 ≤ (0 : Int) ∧ (0 : Int) < (x5.l : Int)) ∧
 derefP x5.a fun a26 =>
 ldI w10 ((a26.add (0 * 5)).add 0) .u32 fun x27 =>
 ldI w10 ((a26.add (0 * 5)).add 1) .i64 fun x28 =>
 ldS w10 ((a26.add (0 * 5)).add 2) fun x29 =>
 ldS w10 ((a26.add (0 * 5)).add 3) fun x30 =>
 ldI w10 ((a26.add (0 * 5)).add 4) .i64 fun x31 =>
 Nw (w10.alloc (.cells #[(.int .u32 (0 : Int)), (.int .i64 (0 : Int)), (.slice none 0 0), (.slice none 0 0), (.int .i64 (0 : Int))] 29)) fun w11 =>
 Wr w11 (blk w10.heap.size) ∧
 Nw (w11.setCell (blk w10.heap.size) (.int .u32 x27)) fun w12 =>
 Wr w12 ((blk w10.heap.size).add 1) ∧
 Nw (w12.setCell ((blk w10.heap.size).add 1) (.int .i64 x28)) fun w13 =>
 Wr w13 ((blk w10.heap.size).add 2) ∧
 Nw (w13.setCell ((blk w10.heap.size).add 2) (.slice x29.a x29.l x29.c)) fun w14 =>
 Wr w14 ((blk w10.heap.size).add 3) ∧
 Nw (w14.setCell ((blk w10.heap.size).add 3) (.slice x30.a x30.l x30.c)) fun w15 =>
 Wr w15 ((blk w10.heap.size).add 4) ∧
 Nw (w15.setCell ((blk w10.heap.size).add 4) (.int .i64 x31)) fun w16 =>
 ldI w16 ((blk w10.heap.size).add 4) .i64 fun x32 =>
 Wr w16 ((blk w10.heap.size).add 4) ∧
 Nw (w16.setCell ((blk w10.heap.size).add 4) (.int .i64 (IntKind.i64.wrap (x32 + (1 : Int))))) fun w17 =>
 ldI w17 ((blk w.heap.size).add 0) .u32 fun x33 =>
 ldI w17 ((blk w.heap.size).add 1) .u32 fun x34 =>
 ldS w17 ((blk w.heap.size).add 2) fun x35 =>
 ldI w17 ((blk w10.heap.size).add 0) .u32 fun x36 =>
 ldI w17 ((blk w10.heap.size).add 1) .i64 fun x37 =>
 ldS w17 ((blk w10.heap.size).add 2) fun x38 =>
 ldS w17 ((blk w10.heap.size).add 3) fun x39 =>
 ldI w17 ((blk w10.heap.size).add 4) .i64 fun x40 =>
 callR Tryz.prog 9 #[(.agg #[(.int .u32 x33), (.int .u32 x34), (.slice x35.a x35.l x35.c)]), (.agg #[(.int .u32 x36), (.int .i64 x37), (.slice x38.a x38.l x38.c), (.slice x39.a x39.l x39.c), (.int .i64 x40)])] w17 fun v41 w18 =>
 ∃ x42 : Bool, v41 = (.bool x42) ∧
 ifB (!x42)
 (R (.bool false) w18)
 (m24 (()) w18))
 (m24 (()) w10))
 (fun s25 w19 =>
 ldI w19 ((blk w.heap.size).add 0) .u32 fun x43 =>
 ldI w19 ((blk w.heap.size).add 1) .u32 fun x44 =>
 ldS w19 ((blk w.heap.size).add 2) fun x45 =>
 ldI w19 ((blk w1.heap.size).add 0) .u32 fun x46 =>
 ldI w19 ((blk w1.heap.size).add 1) .i64 fun x47 =>
 ldS w19 ((blk w1.heap.size).add 2) fun x48 =>
 ldS w19 ((blk w1.heap.size).add 3) fun x49 =>
 ldI w19 ((blk w1.heap.size).add 4) .i64 fun x50 =>
 callR Tryz.prog 9 #[(.agg #[(.int .u32 x43), (.int .u32 x44), (.slice x45.a x45.l x45.c)]), (.agg #[(.int .u32 x46), (.int .i64 x47), (.slice x48.a x48.l x48.c), (.slice x49.a x49.l x49.c), (.int .i64 x50)])] w19 fun v51 w20 =>
 ∃ x52 : Bool, v51 = (.bool x52) ∧
 ifB x52
 (callR Tryz.prog 10 #[] w20 fun v53 w21 =>
 ∃ x54 : Bool, v53 = (.bool x54) ∧
 R (.bool x54) w21)
 (R (.bool false) w20)))
theorem intagliolaw14_GraphNew_calls (p0 : (Int × Int × Sl × Unit)) (p1 : (Int × Int × Sl × Sl × Int × Unit)) (R : Value → World → Prop) (w : World) (h : L_intagliolaw14_GraphNew p0 p1 R w) : Calls Tryz.prog 3 #[(.agg #[(.int .u32 p0.1), (.int .u32 p0.2.1), (.slice p0.2.2.1.a p0.2.2.1.l p0.2.2.1.c)]), (.agg #[(.int .u32 p1.1), (.int .i64 p1.2.1), (.slice p1.2.2.1.a p1.2.2.1.l p1.2.2.1.c), (.slice p1.2.2.2.1.a p1.2.2.2.1.l p1.2.2.2.1.c), (.int .i64 p1.2.2.2.2.1)])] w (Ret R) :=
 lw_calls (fs := Tryz.fs) (an := a_intagliolaw14_GraphNew) (args := [(.agg #[(.int .u32 p0.1), (.int .u32 p0.2.1), (.slice p0.2.2.1.a p0.2.2.1.l p0.2.2.1.c)]), (.agg #[(.int .u32 p1.1), (.int .i64 p1.2.1), (.slice p1.2.2.1.a p1.2.2.1.l p1.2.2.1.c), (.slice p1.2.2.2.1.a p1.2.2.2.1.l p1.2.2.2.1.c), (.int .i64 p1.2.2.2.2.1)])]) Tryz.fsOK Tryz.mixed Tryz.func3 (by kernel_rfl) (by kernel_rfl)
 (Eq.mpr (by kernel_rfl : lwFn Tryz.prog Tryz.fs Tryz.f3 a_intagliolaw14_GraphNew [(.agg #[(.int .u32 p0.1), (.int .u32 p0.2.1), (.slice p0.2.2.1.a p0.2.2.1.l p0.2.2.1.c)]), (.agg #[(.int .u32 p1.1), (.int .i64 p1.2.1), (.slice p1.2.2.1.a p1.2.2.1.l p1.2.2.1.c), (.slice p1.2.2.2.1.a p1.2.2.2.1.l p1.2.2.2.1.c), (.int .i64 p1.2.2.2.2.1)])] w R = L_intagliolaw14_GraphNew p0 p1 R w) h)

/-- intaglio.intagliolaw14.one -/
def a_intagliolaw14_one : Ann := (.seq none .nil (.seq none .nil (.seq none .nil (.seq none .nil (.seq none .nil .nil)))))
def L_intagliolaw14_one (p0 : (Int × Int × Sl × Unit)) (p1 : (Int × Int × Sl × Sl × Int × Unit)) (R : Value → World → Prop) (w : World) : Prop :=
 Nw (w.alloc (.cells #[(.int .u32 p0.1), (.int .u32 p0.2.1), (.slice p0.2.2.1.a p0.2.2.1.l p0.2.2.1.c)] 25)) fun w1 =>
 Nw (w1.alloc (.cells #[(.int .u32 p1.1), (.int .i64 p1.2.1), (.slice p1.2.2.1.a p1.2.2.1.l p1.2.2.1.c), (.slice p1.2.2.2.1.a p1.2.2.2.1.l p1.2.2.2.1.c), (.int .i64 p1.2.2.2.2.1)] 29)) fun w2 =>
 ldI w2 ((blk w.heap.size).add 0) .u32 fun x1 =>
 ldI w2 ((blk w.heap.size).add 1) .u32 fun x2 =>
 ldS w2 ((blk w.heap.size).add 2) fun x3 =>
 ldI w2 ((blk w1.heap.size).add 0) .u32 fun x4 =>
 ldI w2 ((blk w1.heap.size).add 1) .i64 fun x5 =>
 ldS w2 ((blk w1.heap.size).add 2) fun x6 =>
 ldS w2 ((blk w1.heap.size).add 3) fun x7 =>
 ldI w2 ((blk w1.heap.size).add 4) .i64 fun x8 =>
 callR Tryz.prog 32 #[(.agg #[(.int .u32 x1), (.int .u32 x2), (.slice x3.a x3.l x3.c)]), (.agg #[(.int .u32 x4), (.int .i64 x5), (.slice x6.a x6.l x6.c), (.slice x7.a x7.l x7.c), (.int .i64 x8)])] w2 fun v9 w3 =>
 ∃ x10 : Option Addr, ∃ x11 : Sl, ∃ x12 : (Int × Int × Unit), v9 = (.tuple #[(.pointer x10), (.slice x11.a x11.l x11.c), (.agg #[(.int .i64 x12.1), (.int .i64 x12.2.1)])]) ∧
 Nw (w3.alloc (.cells #[(.int .i64 (0 : Int)), (.int .i64 (0 : Int))] 33)) fun w4 =>
 Wr w4 (blk w3.heap.size) ∧
 Nw (w4.setCell (blk w3.heap.size) (.int .i64 x12.1)) fun w5 =>
 Wr w5 ((blk w3.heap.size).add 1) ∧
 Nw (w5.setCell ((blk w3.heap.size).add 1) (.int .i64 x12.2.1)) fun w6 =>
 ldI w6 ((blk w.heap.size).add 0) .u32 fun x13 =>
 ldI w6 ((blk w.heap.size).add 1) .u32 fun x14 =>
 ldS w6 ((blk w.heap.size).add 2) fun x15 =>
 callR Tryz.prog 11 #[(.agg #[(.int .u32 x13), (.int .u32 x14), (.slice x15.a x15.l x15.c)])] w6 fun v16 w7 =>
 ∃ x17 : (Int × Int × Sl × Unit), v16 = (.agg #[(.int .u32 x17.1), (.int .u32 x17.2.1), (.slice x17.2.2.1.a x17.2.2.1.l x17.2.2.1.c)]) ∧
 Nw (w7.alloc (.cells #[(.int .u32 (0 : Int)), (.int .u32 (0 : Int)), (.slice none 0 0)] 25)) fun w8 =>
 Wr w8 (blk w7.heap.size) ∧
 Nw (w8.setCell (blk w7.heap.size) (.int .u32 x17.1)) fun w9 =>
 Wr w9 ((blk w7.heap.size).add 1) ∧
 Nw (w9.setCell ((blk w7.heap.size).add 1) (.int .u32 x17.2.1)) fun w10 =>
 Wr w10 ((blk w7.heap.size).add 2) ∧
 Nw (w10.setCell ((blk w7.heap.size).add 2) (.slice x17.2.2.1.a x17.2.2.1.l x17.2.2.1.c)) fun w11 =>
 ldI w11 ((blk w7.heap.size).add 0) .u32 fun x18 =>
 ldI w11 ((blk w7.heap.size).add 1) .u32 fun x19 =>
 ldS w11 ((blk w7.heap.size).add 2) fun x20 =>
 ldI w11 ((blk w1.heap.size).add 0) .u32 fun x21 =>
 ldI w11 ((blk w1.heap.size).add 1) .i64 fun x22 =>
 ldS w11 ((blk w1.heap.size).add 2) fun x23 =>
 ldS w11 ((blk w1.heap.size).add 3) fun x24 =>
 ldI w11 ((blk w1.heap.size).add 4) .i64 fun x25 =>
 callR Tryz.prog 33 #[(.agg #[(.int .u32 x18), (.int .u32 x19), (.slice x20.a x20.l x20.c)]), (.agg #[(.int .u32 x21), (.int .i64 x22), (.slice x23.a x23.l x23.c), (.slice x24.a x24.l x24.c), (.int .i64 x25)])] w11 fun v26 w12 =>
 ∃ x27 : Option Addr, ∃ x28 : Sl, ∃ x29 : (Int × Int × Unit), v26 = (.tuple #[(.pointer x27), (.slice x28.a x28.l x28.c), (.agg #[(.int .i64 x29.1), (.int .i64 x29.2.1)])]) ∧
 Nw (w12.alloc (.cells #[(.int .i64 (0 : Int)), (.int .i64 (0 : Int))] 33)) fun w13 =>
 Wr w13 (blk w12.heap.size) ∧
 Nw (w13.setCell (blk w12.heap.size) (.int .i64 x29.1)) fun w14 =>
 Wr w14 ((blk w12.heap.size).add 1) ∧
 Nw (w14.setCell ((blk w12.heap.size).add 1) (.int .i64 x29.2.1)) fun w15 =>
 ldI w15 ((blk w12.heap.size).add 0) .i64 fun x30 =>
 ldI w15 ((blk w12.heap.size).add 1) .i64 fun x31 =>
 ldI w15 ((blk w3.heap.size).add 0) .i64 fun x32 =>
 ldI w15 ((blk w3.heap.size).add 1) .i64 fun x33 =>
 ifB (x30 == x32 && (x31 == x33 && true))
 (callR Tryz.prog 34 #[(.slice x28.a x28.l x28.c), (.slice x11.a x11.l x11.c)] w15 fun v34 w16 =>
 ∃ x35 : Bool, v34 = (.bool x35) ∧
 ifB x35
 (callR Tryz.prog 35 #[(.pointer x27), (.pointer x10)] w16 fun v36 w17 =>
 ∃ x37 : Bool, v36 = (.bool x37) ∧
 ifB x37
 (ldI w17 ((blk w7.heap.size).add 0) .u32 fun x38 =>
 ldI w17 ((blk w7.heap.size).add 1) .u32 fun x39 =>
 ldS w17 ((blk w7.heap.size).add 2) fun x40 =>
 ldI w17 ((blk w.heap.size).add 0) .u32 fun x41 =>
 ldI w17 ((blk w.heap.size).add 1) .u32 fun x42 =>
 ldS w17 ((blk w.heap.size).add 2) fun x43 =>
 callR Tryz.prog 14 #[(.agg #[(.int .u32 x38), (.int .u32 x39), (.slice x40.a x40.l x40.c)]), (.agg #[(.int .u32 x41), (.int .u32 x42), (.slice x43.a x43.l x43.c)])] w17 fun v44 w18 =>
 ∃ x45 : Bool, v44 = (.bool x45) ∧
 R (.bool x45) w18)
 (R (.bool false) w17))
 (R (.bool false) w16))
 (R (.bool false) w15)
theorem intagliolaw14_one_calls (p0 : (Int × Int × Sl × Unit)) (p1 : (Int × Int × Sl × Sl × Int × Unit)) (R : Value → World → Prop) (w : World) (h : L_intagliolaw14_one p0 p1 R w) : Calls Tryz.prog 9 #[(.agg #[(.int .u32 p0.1), (.int .u32 p0.2.1), (.slice p0.2.2.1.a p0.2.2.1.l p0.2.2.1.c)]), (.agg #[(.int .u32 p1.1), (.int .i64 p1.2.1), (.slice p1.2.2.1.a p1.2.2.1.l p1.2.2.1.c), (.slice p1.2.2.2.1.a p1.2.2.2.1.l p1.2.2.2.1.c), (.int .i64 p1.2.2.2.2.1)])] w (Ret R) :=
 lw_calls (fs := Tryz.fs) (an := a_intagliolaw14_one) (args := [(.agg #[(.int .u32 p0.1), (.int .u32 p0.2.1), (.slice p0.2.2.1.a p0.2.2.1.l p0.2.2.1.c)]), (.agg #[(.int .u32 p1.1), (.int .i64 p1.2.1), (.slice p1.2.2.1.a p1.2.2.1.l p1.2.2.1.c), (.slice p1.2.2.2.1.a p1.2.2.2.1.l p1.2.2.2.1.c), (.int .i64 p1.2.2.2.2.1)])]) Tryz.fsOK Tryz.mixed Tryz.func9 (by kernel_rfl) (by kernel_rfl)
 (Eq.mpr (by kernel_rfl : lwFn Tryz.prog Tryz.fs Tryz.f9 a_intagliolaw14_one [(.agg #[(.int .u32 p0.1), (.int .u32 p0.2.1), (.slice p0.2.2.1.a p0.2.2.1.l p0.2.2.1.c)]), (.agg #[(.int .u32 p1.1), (.int .i64 p1.2.1), (.slice p1.2.2.1.a p1.2.2.1.l p1.2.2.1.c), (.slice p1.2.2.2.1.a p1.2.2.2.1.l p1.2.2.2.1.c), (.int .i64 p1.2.2.2.2.1)])] w R = L_intagliolaw14_one p0 p1 R w) h)

/-- intaglio.intaglioref14.New -/
def a_intaglioref14_New : Ann := (.seq none .nil (.seq none .nil (.seq none (.seq none .nil (.cond (.seq none .nil .nil) .nil)) (.seq none (.seq none .nil (.cond (.seq none .nil .nil) .nil)) (.seq none (.seq none .nil (.cond (.seq none .nil .nil) .nil)) (.seq none .nil (.seq none .nil (.seq none (.seq none .nil (.one (.loop ⟨[2, 3, 6], [(8, (.b .slice)), (9, (.b .slice)), (10, (.b (.int .i64)))]⟩ (.seq none (.seq none .nil (.cond .nil .nil)) (.seq none (.one (.seq none .nil (.seq none .nil (.seq none (.seq none .nil (.cond (.seq none .nil .nil) .nil)) (.seq none .nil (.seq none .nil (.seq none .nil (.seq none (.seq none .nil (.one (.loop ⟨[2, 3, 6, 8, 9, 10, 11, 14], [(15, (.b .slice)), (16, (.b (.int .i64)))]⟩ (.seq none (.seq none .nil (.cond .nil .nil)) (.seq none (.one (.seq none .nil (.seq none (.seq none .nil (.cond (.seq none .nil .nil) .nil)) .nil))) .nil))))) .nil)))))))) .nil))))) (.seq none .nil (.seq none .nil .nil))))))))))
def L_intaglioref14_New (p0 : (Int × Int × Sl × Unit)) (p1 : (Int × Int × Sl × Sl × Int × Unit)) (R : Value → World → Prop) (w : World) : Prop :=
 Nw (w.alloc (.cells #[(.int .u32 p0.1), (.int .u32 p0.2.1), (.slice p0.2.2.1.a p0.2.2.1.l p0.2.2.1.c)] 25)) fun w1 =>
 Nw (w1.alloc (.cells #[(.int .u32 p1.1), (.int .i64 p1.2.1), (.slice p1.2.2.1.a p1.2.2.1.l p1.2.2.1.c), (.slice p1.2.2.2.1.a p1.2.2.2.1.l p1.2.2.2.1.c), (.int .i64 p1.2.2.2.2.1)] 29)) fun w2 =>
 Nw (w2.alloc (.cells #[(.int .i64 (0 : Int)), (.int .i64 (0 : Int))] 33)) fun w3 =>
 ldI w3 ((blk w.heap.size).add 0) .u32 fun x1 =>
 ldI w3 ((blk w.heap.size).add 1) .u32 fun x2 =>
 ldS w3 ((blk w.heap.size).add 2) fun x3 =>
 callR Tryz.prog 47 #[(.agg #[(.int .u32 x1), (.int .u32 x2), (.slice x3.a x3.l x3.c)])] w3 fun v4 w4 =>
 ∃ x5 : (Int × Int × Unit), v4 = (.agg #[(.int .i64 x5.1), (.int .i64 x5.2.1)]) ∧
 Nw (w4.alloc (.cells #[(.int .i64 (0 : Int)), (.int .i64 (0 : Int))] 33)) fun w5 =>
 Wr w5 (blk w4.heap.size) ∧
 Nw (w5.setCell (blk w4.heap.size) (.int .i64 x5.1)) fun w6 =>
 Wr w6 ((blk w4.heap.size).add 1) ∧
 Nw (w6.setCell ((blk w4.heap.size).add 1) (.int .i64 x5.2.1)) fun w7 =>
 ldI w7 (blk w4.heap.size) .i64 fun x6 =>
 ifB (x6 != (0 : Int))
 (ldI w7.drew ((blk w4.heap.size).add 0) .i64 fun x7 =>
 ldI w7.drew ((blk w4.heap.size).add 1) .i64 fun x8 =>
 Wr w7.drew (blk w2.heap.size) ∧
 Nw (w7.drew.setCell (blk w2.heap.size) (.int .i64 x7)) fun w8 =>
 Wr w8 ((blk w2.heap.size).add 1) ∧
 Nw (w8.setCell ((blk w2.heap.size).add 1) (.int .i64 x8)) fun w9 =>
 ldI w9 ((blk w2.heap.size).add 0) .i64 fun x9 =>
 ldI w9 ((blk w2.heap.size).add 1) .i64 fun x10 =>
 R (.tuple #[(.pointer none), (.slice none 0 0), (.agg #[(.int .i64 x9), (.int .i64 x10)])]) w9)
 (ldI w7 ((blk w.heap.size).add 0) .u32 fun x11 =>
 ldI w7 ((blk w.heap.size).add 1) .u32 fun x12 =>
 ldS w7 ((blk w.heap.size).add 2) fun x13 =>
 ldI w7 ((blk w1.heap.size).add 0) .u32 fun x14 =>
 ldI w7 ((blk w1.heap.size).add 1) .i64 fun x15 =>
 ldS w7 ((blk w1.heap.size).add 2) fun x16 =>
 ldS w7 ((blk w1.heap.size).add 3) fun x17 =>
 ldI w7 ((blk w1.heap.size).add 4) .i64 fun x18 =>
 callR Tryz.prog 80 #[(.agg #[(.int .u32 x11), (.int .u32 x12), (.slice x13.a x13.l x13.c)]), (.agg #[(.int .u32 x14), (.int .i64 x15), (.slice x16.a x16.l x16.c), (.slice x17.a x17.l x17.c), (.int .i64 x18)])] w7 fun v19 w10 =>
 ∃ x20 : Bool, v19 = (.bool x20) ∧
 ifB (!x20)
 (Wr w10 (blk w2.heap.size) ∧
 Nw (w10.setCell (blk w2.heap.size) (.int .i64 (2 : Int))) fun w11 =>
 Wr w11 ((blk w2.heap.size).add 1) ∧
 Nw (w11.setCell ((blk w2.heap.size).add 1) (.int .i64 (0 : Int))) fun w12 =>
 ldI w12 ((blk w2.heap.size).add 0) .i64 fun x21 =>
 ldI w12 ((blk w2.heap.size).add 1) .i64 fun x22 =>
 R (.tuple #[(.pointer none), (.slice none 0 0), (.agg #[(.int .i64 x21), (.int .i64 x22)])]) w12)
 (ldS w10 ((blk w1.heap.size).add 3) fun x23 =>
 ifB (decide ((x23.l : Int) > (4096 : Int)))
 (ldI w10.drew ((blk w1.heap.size).add 1) .i64 fun x24 =>
 Wr w10.drew (blk w2.heap.size) ∧
 Nw (w10.drew.setCell (blk w2.heap.size) (.int .i64 (4 : Int))) fun w13 =>
 Wr w13 ((blk w2.heap.size).add 1) ∧
 Nw (w13.setCell ((blk w2.heap.size).add 1) (.int .i64 x24)) fun w14 =>
 ldI w14 ((blk w2.heap.size).add 0) .i64 fun x25 =>
 ldI w14 ((blk w2.heap.size).add 1) .i64 fun x26 =>
 R (.tuple #[(.pointer none), (.slice none 0 0), (.agg #[(.int .i64 x25), (.int .i64 x26)])]) w14)
 (LoopW (S := Sl × Sl × Int × Unit) (fun s27 w15 n28 =>
 ldS w15 ((blk w1.heap.size).add 3) fun x29 =>
 ifB (decide (s27.2.2.1 < (x29.l : Int)))
 (ldS w15 ((blk w1.heap.size).add 3) fun x30 =>
 (0 ≤ s27.2.2.1 ∧ s27.2.2.1 < (x30.l : Int)) ∧
 derefP x30.a fun a31 =>
 ldI w15 ((a31.add ((Int.toNat s27.2.2.1) * 3)).add 0) .u32 fun x32 =>
 ldI w15 ((a31.add ((Int.toNat s27.2.2.1) * 3)).add 1) .i64 fun x33 =>
 ldI w15 ((a31.add ((Int.toNat s27.2.2.1) * 3)).add 2) .i64 fun x34 =>
 Nw (w15.alloc (.cells #[(.int .u32 (0 : Int)), (.int .i64 (0 : Int)), (.int .i64 (0 : Int))] 69)) fun w16 =>
 Wr w16 (blk w15.heap.size) ∧
 Nw (w16.setCell (blk w15.heap.size) (.int .u32 x32)) fun w17 =>
 Wr w17 ((blk w15.heap.size).add 1) ∧
 Nw (w17.setCell ((blk w15.heap.size).add 1) (.int .i64 x33)) fun w18 =>
 Wr w18 ((blk w15.heap.size).add 2) ∧
 Nw (w18.setCell ((blk w15.heap.size).add 2) (.int .i64 x34)) fun w19 =>
 ldI w19 ((blk w.heap.size).add 0) .u32 fun x35 =>
 ldI w19 ((blk w.heap.size).add 1) .u32 fun x36 =>
 ldS w19 ((blk w.heap.size).add 2) fun x37 =>
 ldI w19 ((blk w1.heap.size).add 0) .u32 fun x38 =>
 ldI w19 ((blk w1.heap.size).add 1) .i64 fun x39 =>
 ldS w19 ((blk w1.heap.size).add 2) fun x40 =>
 ldS w19 ((blk w1.heap.size).add 3) fun x41 =>
 ldI w19 ((blk w1.heap.size).add 4) .i64 fun x42 =>
 ldI w19 ((blk w15.heap.size).add 0) .u32 fun x43 =>
 ldI w19 ((blk w15.heap.size).add 1) .i64 fun x44 =>
 ldI w19 ((blk w15.heap.size).add 2) .i64 fun x45 =>
 callR Tryz.prog 81 #[(.agg #[(.int .u32 x35), (.int .u32 x36), (.slice x37.a x37.l x37.c)]), (.agg #[(.int .u32 x38), (.int .i64 x39), (.slice x40.a x40.l x40.c), (.slice x41.a x41.l x41.c), (.int .i64 x42)]), (.agg #[(.int .u32 x43), (.int .i64 x44), (.int .i64 x45)])] w19 fun v46 w20 =>
 ∃ x47 : (Int × Int × Int × Unit), ∃ x48 : Bool, v46 = (.tuple #[(.agg #[(.int .u8 x47.1), (.int .i64 x47.2.1), (.int .i64 x47.2.2.1)]), (.bool x48)]) ∧
 Nw (w20.alloc (.cells #[(.int .u8 (0 : Int)), (.int .i64 (0 : Int)), (.int .i64 (0 : Int))] 121)) fun w21 =>
 Wr w21 (blk w20.heap.size) ∧
 Nw (w21.setCell (blk w20.heap.size) (.int .u8 x47.1)) fun w22 =>
 Wr w22 ((blk w20.heap.size).add 1) ∧
 Nw (w22.setCell ((blk w20.heap.size).add 1) (.int .i64 x47.2.1)) fun w23 =>
 Wr w23 ((blk w20.heap.size).add 2) ∧
 Nw (w23.setCell ((blk w20.heap.size).add 2) (.int .i64 x47.2.2.1)) fun w24 =>
 ifB (!x48)
 (ldI w24.drew ((blk w15.heap.size).add 2) .i64 fun x49 =>
 Wr w24.drew (blk w2.heap.size) ∧
 Nw (w24.drew.setCell (blk w2.heap.size) (.int .i64 (140 : Int))) fun w25 =>
 Wr w25 ((blk w2.heap.size).add 1) ∧
 Nw (w25.setCell ((blk w2.heap.size).add 1) (.int .i64 (IntKind.i64.wrap (x49 - (2 : Int))))) fun w26 =>
 ldI w26 ((blk w2.heap.size).add 0) .i64 fun x50 =>
 ldI w26 ((blk w2.heap.size).add 1) .i64 fun x51 =>
 R (.tuple #[(.pointer none), (.slice none 0 0), (.agg #[(.int .i64 x50), (.int .i64 x51)])]) w26)
 (ldI w24 ((blk w20.heap.size).add 0) .u8 fun x52 =>
 ldI w24 ((blk w20.heap.size).add 1) .i64 fun x53 =>
 ldI w24 ((blk w20.heap.size).add 2) .i64 fun x54 =>
 Nw (w24.alloc (.cells #[(.int .u8 x52), (.int .i64 x53), (.int .i64 x54)] 121)) fun w27 =>
 appendS Tryz.prog 72 (.slice s27.2.1.a s27.2.1.l s27.2.1.c) (.slice (some (blk w24.heap.size)) 1 1) w27 fun r55 w28 =>
 ldS w28 ((blk w.heap.size).add 2) fun x56 =>
 ldI w28 ((blk w15.heap.size).add 2) .i64 fun x57 =>
 (0 ≤ (IntKind.i64.wrap (x57 - (1 : Int))) ∧ (IntKind.i64.wrap (x57 - (1 : Int))) < (x56.l : Int)) ∧
 derefP x56.a fun a58 =>
 ldI w28 ((a58.add ((Int.toNat (IntKind.i64.wrap (x57 - (1 : Int)))) * 4)).add 0) .u16 fun x59 =>
 ldI w28 ((a58.add ((Int.toNat (IntKind.i64.wrap (x57 - (1 : Int)))) * 4)).add 1) .u32 fun x60 =>
 ldI w28 ((a58.add ((Int.toNat (IntKind.i64.wrap (x57 - (1 : Int)))) * 4)).add 2) .u32 fun x61 =>
 ldS w28 ((a58.add ((Int.toNat (IntKind.i64.wrap (x57 - (1 : Int)))) * 4)).add 3) fun x62 =>
 callR Tryz.prog 82 #[(.agg #[(.int .u16 x59), (.int .u32 x60), (.int .u32 x61), (.slice x62.a x62.l x62.c)])] w28 fun v63 w29 =>
 ∃ x64 : Sl, v63 = (.slice x64.a x64.l x64.c) ∧
 LoopW (S := Sl × Int × Unit) (fun s65 w30 n66 =>
 ifB (decide (s65.2.1 < (x64.l : Int)))
 (ldI w30.drew ((blk w1.heap.size).add 0) .u32 fun x67 =>
 ldI w30.drew ((blk w1.heap.size).add 1) .i64 fun x68 =>
 ldS w30.drew ((blk w1.heap.size).add 2) fun x69 =>
 ldS w30.drew ((blk w1.heap.size).add 3) fun x70 =>
 ldI w30.drew ((blk w1.heap.size).add 4) .i64 fun x71 =>
 (0 ≤ s65.2.1 ∧ s65.2.1 < (x64.l : Int)) ∧
 derefP x64.a fun a72 =>
 ldI w30.drew (a72.add (Int.toNat s65.2.1)) .u32 fun x73 =>
 callR Tryz.prog 83 #[(.agg #[(.int .u32 x67), (.int .i64 x68), (.slice x69.a x69.l x69.c), (.slice x70.a x70.l x70.c), (.int .i64 x71)]), (.int .u32 x73)] w30.drew fun v74 w31 =>
 ∃ x75 : Int, v74 = (.int .i64 x75) ∧
 ifB (decide (x75 < (0 : Int)))
 (ldI w31.drew ((blk w15.heap.size).add 2) .i64 fun x76 =>
 Wr w31.drew (blk w2.heap.size) ∧
 Nw (w31.drew.setCell (blk w2.heap.size) (.int .i64 (140 : Int))) fun w32 =>
 Wr w32 ((blk w2.heap.size).add 1) ∧
 Nw (w32.setCell ((blk w2.heap.size).add 1) (.int .i64 (IntKind.i64.wrap (x76 - (1 : Int))))) fun w33 =>
 ldI w33 ((blk w2.heap.size).add 0) .i64 fun x77 =>
 ldI w33 ((blk w2.heap.size).add 1) .i64 fun x78 =>
 R (.tuple #[(.pointer none), (.slice none 0 0), (.agg #[(.int .i64 x77), (.int .i64 x78)])]) w33)
 (Nw (w31.alloc (.cells #[(.int .i64 x75)] 3)) fun w34 =>
 appendS Tryz.prog 26 (.slice s65.1.a s65.1.l s65.1.c) (.slice (some (blk w31.heap.size)) 1 1) w34 fun r79 w35 =>
 n66 (r79, (IntKind.i64.wrap (s65.2.1 + (1 : Int))), ()) w35))
 (Nw (w30.alloc (.cells #[(.slice s65.1.a s65.1.l s65.1.c)] 26)) fun w36 =>
 appendS Tryz.prog 48 (.slice s27.1.a s27.1.l s27.1.c) (.slice (some (blk w30.heap.size)) 1 1) w36 fun r80 w37 =>
 n28 (r80, r55, (IntKind.i64.wrap (s27.2.2.1 + (1 : Int))), ()) w37))
 ((Sl.mk none 0 0), (0 : Int), ()) w29))
 (callR Tryz.prog 84 #[(.slice s27.1.a s27.1.l s27.1.c)] w15 fun v81 w38 =>
 ∃ x82 : Option Addr, ∃ x83 : Int, v81 = (.tuple #[(.pointer x82), (.int .i64 x83)]) ∧
 Wr w38 (blk w2.heap.size) ∧
 Nw (w38.setCell (blk w2.heap.size) (.int .i64 (0 : Int))) fun w39 =>
 Wr w39 ((blk w2.heap.size).add 1) ∧
 Nw (w39.setCell ((blk w2.heap.size).add 1) (.int .i64 (0 : Int))) fun w40 =>
 ldI w40 ((blk w2.heap.size).add 0) .i64 fun x84 =>
 ldI w40 ((blk w2.heap.size).add 1) .i64 fun x85 =>
 R (.tuple #[(.pointer x82), (.slice s27.2.1.a s27.2.1.l s27.2.1.c), (.agg #[(.int .i64 x84), (.int .i64 x85)])]) w40))
 ((Sl.mk none 0 0), (Sl.mk none 0 0), (0 : Int), ()) w10)))
theorem intaglioref14_New_calls (p0 : (Int × Int × Sl × Unit)) (p1 : (Int × Int × Sl × Sl × Int × Unit)) (R : Value → World → Prop) (w : World) (h : L_intaglioref14_New p0 p1 R w) : Calls Tryz.prog 32 #[(.agg #[(.int .u32 p0.1), (.int .u32 p0.2.1), (.slice p0.2.2.1.a p0.2.2.1.l p0.2.2.1.c)]), (.agg #[(.int .u32 p1.1), (.int .i64 p1.2.1), (.slice p1.2.2.1.a p1.2.2.1.l p1.2.2.1.c), (.slice p1.2.2.2.1.a p1.2.2.2.1.l p1.2.2.2.1.c), (.int .i64 p1.2.2.2.2.1)])] w (Ret R) :=
 lw_calls (fs := Tryz.fs) (an := a_intaglioref14_New) (args := [(.agg #[(.int .u32 p0.1), (.int .u32 p0.2.1), (.slice p0.2.2.1.a p0.2.2.1.l p0.2.2.1.c)]), (.agg #[(.int .u32 p1.1), (.int .i64 p1.2.1), (.slice p1.2.2.1.a p1.2.2.1.l p1.2.2.1.c), (.slice p1.2.2.2.1.a p1.2.2.2.1.l p1.2.2.2.1.c), (.int .i64 p1.2.2.2.2.1)])]) Tryz.fsOK Tryz.mixed Tryz.func32 (by kernel_rfl) (by kernel_rfl)
 (Eq.mpr (by kernel_rfl : lwFn Tryz.prog Tryz.fs Tryz.f32 a_intaglioref14_New [(.agg #[(.int .u32 p0.1), (.int .u32 p0.2.1), (.slice p0.2.2.1.a p0.2.2.1.l p0.2.2.1.c)]), (.agg #[(.int .u32 p1.1), (.int .i64 p1.2.1), (.slice p1.2.2.1.a p1.2.2.1.l p1.2.2.1.c), (.slice p1.2.2.2.1.a p1.2.2.2.1.l p1.2.2.2.1.c), (.int .i64 p1.2.2.2.2.1)])] w R = L_intaglioref14_New p0 p1 R w) h)

/-- intaglio.intaglioref14.Merge -/
def a_intaglioref14_Merge : Ann := (.seq none .nil (.seq none .nil (.seq none (.seq none .nil (.cond (.seq none .nil .nil) .nil)) (.seq none .nil (.seq (some ⟨[3, 4, 5, 6, 8, 9], []⟩) (.seq none .nil (.cond (.seq none .nil .nil) .nil)) (.seq (some ⟨[3, 4, 5, 6, 8, 9], [(10, (.b .addr))]⟩) .nil (.seq none (.seq none .nil (.cond (.seq none .nil .nil) .nil)) (.seq none (.seq none .nil (.cond (.seq none .nil (.seq none .nil (.seq none .nil .nil))) .nil)) (.seq (some ⟨[6, 10], []⟩) (.seq none .nil (.cond .nil .nil)) (.seq none .nil .nil))))))))))
def L_intaglioref14_Merge (p0 : (Int × Int × Sl × Unit)) (p1 : (Int × Int × Sl × Sl × Int × Unit)) (p2 : (Int × Int × Int × Unit)) (R : Value → World → Prop) (w : World) : Prop :=
 Nw (w.alloc (.cells #[(.int .u32 p0.1), (.int .u32 p0.2.1), (.slice p0.2.2.1.a p0.2.2.1.l p0.2.2.1.c)] 25)) fun w1 =>
 Nw (w1.alloc (.cells #[(.int .u32 p1.1), (.int .i64 p1.2.1), (.slice p1.2.2.1.a p1.2.2.1.l p1.2.2.1.c), (.slice p1.2.2.2.1.a p1.2.2.2.1.l p1.2.2.2.1.c), (.int .i64 p1.2.2.2.2.1)] 29)) fun w2 =>
 Nw (w2.alloc (.cells #[(.int .u32 p2.1), (.int .i64 p2.2.1), (.int .i64 p2.2.2.1)] 69)) fun w3 =>
 Nw (w3.alloc (.cells #[(.int .u8 (0 : Int)), (.int .i64 (0 : Int)), (.int .i64 (0 : Int))] 121)) fun w4 =>
 Nw (w4.alloc (.cells #[(.int .u8 (0 : Int)), (.int .i64 (0 : Int)), (.int .i64 (0 : Int))] 121)) fun w5 =>
 Wr w5 (blk w4.heap.size) ∧
 Nw (w5.setCell (blk w4.heap.size) (.int .u8 (0 : Int))) fun w6 =>
 Wr w6 ((blk w4.heap.size).add 1) ∧
 Nw (w6.setCell ((blk w4.heap.size).add 1) (.int .i64 (-1 : Int))) fun w7 =>
 Wr w7 ((blk w4.heap.size).add 2) ∧
 Nw (w7.setCell ((blk w4.heap.size).add 2) (.int .i64 (-1 : Int))) fun w8 =>
 ldI w8 ((blk w2.heap.size).add 2) .i64 fun x1 =>
 ldI w8 ((blk w2.heap.size).add 1) .i64 fun x2 =>
 ifB (decide ((IntKind.i64.wrap (x1 - x2)) < (3 : Int)))
 (ldI w8 ((blk w4.heap.size).add 0) .u8 fun x3 =>
 ldI w8 ((blk w4.heap.size).add 1) .i64 fun x4 =>
 ldI w8 ((blk w4.heap.size).add 2) .i64 fun x5 =>
 Wr w8 (blk w3.heap.size) ∧
 Nw (w8.setCell (blk w3.heap.size) (.int .u8 x3)) fun w9 =>
 Wr w9 ((blk w3.heap.size).add 1) ∧
 Nw (w9.setCell ((blk w3.heap.size).add 1) (.int .i64 x4)) fun w10 =>
 Wr w10 ((blk w3.heap.size).add 2) ∧
 Nw (w10.setCell ((blk w3.heap.size).add 2) (.int .i64 x5)) fun w11 =>
 ldI w11 ((blk w3.heap.size).add 0) .u8 fun x6 =>
 ldI w11 ((blk w3.heap.size).add 1) .i64 fun x7 =>
 ldI w11 ((blk w3.heap.size).add 2) .i64 fun x8 =>
 R (.tuple #[(.agg #[(.int .u8 x6), (.int .i64 x7), (.int .i64 x8)]), (.bool true)]) w11)
 (ldS w8 ((blk w.heap.size).add 2) fun x9 =>
 ldI w8 ((blk w2.heap.size).add 2) .i64 fun x10 =>
 (0 ≤ (IntKind.i64.wrap (x10 - (2 : Int))) ∧ (IntKind.i64.wrap (x10 - (2 : Int))) < (x9.l : Int)) ∧
 derefP x9.a fun a11 =>
 ldI w8 ((a11.add ((Int.toNat (IntKind.i64.wrap (x10 - (2 : Int)))) * 4)).add 0) .u16 fun x12 =>
 ldI w8 ((a11.add ((Int.toNat (IntKind.i64.wrap (x10 - (2 : Int)))) * 4)).add 1) .u32 fun x13 =>
 ldI w8 ((a11.add ((Int.toNat (IntKind.i64.wrap (x10 - (2 : Int)))) * 4)).add 2) .u32 fun x14 =>
 ldS w8 ((a11.add ((Int.toNat (IntKind.i64.wrap (x10 - (2 : Int)))) * 4)).add 3) fun x15 =>
 Nw (w8.alloc (.cells #[(.int .u16 (0 : Int)), (.int .u32 (0 : Int)), (.int .u32 (0 : Int)), (.slice none 0 0)] 41)) fun w12 =>
 Wr w12 (blk w8.heap.size) ∧
 Nw (w12.setCell (blk w8.heap.size) (.int .u16 x12)) fun w13 =>
 Wr w13 ((blk w8.heap.size).add 1) ∧
 Nw (w13.setCell ((blk w8.heap.size).add 1) (.int .u32 x13)) fun w14 =>
 Wr w14 ((blk w8.heap.size).add 2) ∧
 Nw (w14.setCell ((blk w8.heap.size).add 2) (.int .u32 x14)) fun w15 =>
 Wr w15 ((blk w8.heap.size).add 3) ∧
 Nw (w15.setCell ((blk w8.heap.size).add 3) (.slice x15.a x15.l x15.c)) fun w16 =>
 JoinW (S := Unit) (fun m16 =>
 ldI w16 (blk w8.heap.size) .u16 fun x18 =>
 ifB (x18 != (246 : Int))
 (ldI w16 (blk w8.heap.size) .u16 fun x19 =>
 ifB (x19 != (247 : Int))
 (ldI w16 ((blk w4.heap.size).add 0) .u8 fun x20 =>
 ldI w16 ((blk w4.heap.size).add 1) .i64 fun x21 =>
 ldI w16 ((blk w4.heap.size).add 2) .i64 fun x22 =>
 Wr w16 (blk w3.heap.size) ∧
 Nw (w16.setCell (blk w3.heap.size) (.int .u8 x20)) fun w17 =>
 Wr w17 ((blk w3.heap.size).add 1) ∧
 Nw (w17.setCell ((blk w3.heap.size).add 1) (.int .i64 x21)) fun w18 =>
 Wr w18 ((blk w3.heap.size).add 2) ∧
 Nw (w18.setCell ((blk w3.heap.size).add 2) (.int .i64 x22)) fun w19 =>
 ldI w19 ((blk w3.heap.size).add 0) .u8 fun x23 =>
 ldI w19 ((blk w3.heap.size).add 1) .i64 fun x24 =>
 ldI w19 ((blk w3.heap.size).add 2) .i64 fun x25 =>
 R (.tuple #[(.agg #[(.int .u8 x23), (.int .i64 x24), (.int .i64 x25)]), (.bool true)]) w19)
 (m16 (()) w16))
 (m16 (()) w16))
 (fun s17 w20 =>
 JoinW (S := Addr × Unit) (fun m26 =>
 ldI w20.drew ((blk w1.heap.size).add 0) .u32 fun x28 =>
 ldI w20.drew ((blk w1.heap.size).add 1) .i64 fun x29 =>
 ldS w20.drew ((blk w1.heap.size).add 2) fun x30 =>
 ldS w20.drew ((blk w1.heap.size).add 3) fun x31 =>
 ldI w20.drew ((blk w1.heap.size).add 4) .i64 fun x32 =>
 ldS w20.drew ((blk w8.heap.size).add 3) fun x33 =>
 (0 ≤ (0 : Int) ∧ (0 : Int) < (x33.l : Int)) ∧
 derefP x33.a fun a34 =>
 ldI w20.drew ((a34.add (0 * 3)).add 1) .u32 fun x35 =>
 (callR Tryz.prog 83 #[(.agg #[(.int .u32 x28), (.int .i64 x29), (.slice x30.a x30.l x30.c), (.slice x31.a x31.l x31.c), (.int .i64 x32)]), (.int .u32 x35)] w20.drew fun v36 w21 =>
 ∃ x37 : Int, v36 = (.int .i64 x37) ∧
 Nw (w21.alloc (.cells #[(.int .u8 (0 : Int)), (.int .i64 (0 : Int)), (.int .i64 (0 : Int))] 121)) fun w22 =>
 Wr w22 (blk w21.heap.size) ∧
 Nw (w22.setCell (blk w21.heap.size) (.int .u8 (1 : Int))) fun w23 =>
 Wr w23 ((blk w21.heap.size).add 1) ∧
 Nw (w23.setCell ((blk w21.heap.size).add 1) (.int .i64 x37)) fun w24 =>
 Wr w24 ((blk w21.heap.size).add 2) ∧
 Nw (w24.setCell ((blk w21.heap.size).add 2) (.int .i64 (-1 : Int))) fun w25 =>
 m26 ((blk w21.heap.size), ()) w25) ∧
 Nw (w20.drew.alloc (.cells #[(.int .u8 (0 : Int)), (.int .i64 (0 : Int)), (.int .i64 (0 : Int))] 121)) fun w26 =>
 w26.cell? ((a34.add (0 * 3)).add 1) = some (.int .u32 x35) ∧
 w26.cell? ((blk w8.heap.size).add 3) = some (.slice x33.a x33.l x33.c) ∧
 w26.cell? ((blk w1.heap.size).add 0) = some (.int .u32 x28) ∧
 w26.cell? ((blk w1.heap.size).add 1) = some (.int .i64 x29) ∧
 w26.cell? ((blk w1.heap.size).add 2) = some (.slice x30.a x30.l x30.c) ∧
 w26.cell? ((blk w1.heap.size).add 3) = some (.slice x31.a x31.l x31.c) ∧
 w26.cell? ((blk w1.heap.size).add 4) = some (.int .i64 x32) ∧
 callR Tryz.prog 83 #[(.agg #[(.int .u32 x28), (.int .i64 x29), (.slice x30.a x30.l x30.c), (.slice x31.a x31.l x31.c), (.int .i64 x32)]), (.int .u32 x35)] w26 fun v38 w27 =>
 ∃ x39 : Int, v38 = (.int .i64 x39) ∧
 Wr w27 (blk w20.drew.heap.size) ∧
 Nw (w27.setCell (blk w20.drew.heap.size) (.int .u8 (1 : Int))) fun w28 =>
 Wr w28 ((blk w20.drew.heap.size).add 1) ∧
 Nw (w28.setCell ((blk w20.drew.heap.size).add 1) (.int .i64 x39)) fun w29 =>
 Wr w29 ((blk w20.drew.heap.size).add 2) ∧
 Nw (w29.setCell ((blk w20.drew.heap.size).add 2) (.int .i64 (-1 : Int))) fun w30 =>
 m26 ((blk w20.drew.heap.size), ()) w30)
 (fun s27 w31 =>
 ldI w31 (s27.1.add 1) .i64 fun x40 =>
 ifB (decide (x40 < (0 : Int)))
 (ldI w31 ((blk w4.heap.size).add 0) .u8 fun x41 =>
 ldI w31 ((blk w4.heap.size).add 1) .i64 fun x42 =>
 ldI w31 ((blk w4.heap.size).add 2) .i64 fun x43 =>
 Wr w31 (blk w3.heap.size) ∧
 Nw (w31.setCell (blk w3.heap.size) (.int .u8 x41)) fun w32 =>
 Wr w32 ((blk w3.heap.size).add 1) ∧
 Nw (w32.setCell ((blk w3.heap.size).add 1) (.int .i64 x42)) fun w33 =>
 Wr w33 ((blk w3.heap.size).add 2) ∧
 Nw (w33.setCell ((blk w3.heap.size).add 2) (.int .i64 x43)) fun w34 =>
 ldI w34 ((blk w3.heap.size).add 0) .u8 fun x44 =>
 ldI w34 ((blk w3.heap.size).add 1) .i64 fun x45 =>
 ldI w34 ((blk w3.heap.size).add 2) .i64 fun x46 =>
 R (.tuple #[(.agg #[(.int .u8 x44), (.int .i64 x45), (.int .i64 x46)]), (.bool false)]) w34)
 (ldI w31 (blk w8.heap.size) .u16 fun x47 =>
 ifB (x47 == (246 : Int))
 (Wr w31 s27.1 ∧
 Nw (w31.setCell s27.1 (.int .u8 (2 : Int))) fun w35 =>
 ldI w35.drew ((blk w1.heap.size).add 0) .u32 fun x48 =>
 ldI w35.drew ((blk w1.heap.size).add 1) .i64 fun x49 =>
 ldS w35.drew ((blk w1.heap.size).add 2) fun x50 =>
 ldS w35.drew ((blk w1.heap.size).add 3) fun x51 =>
 ldI w35.drew ((blk w1.heap.size).add 4) .i64 fun x52 =>
 ldS w35.drew ((blk w8.heap.size).add 3) fun x53 =>
 (0 ≤ (1 : Int) ∧ (1 : Int) < (x53.l : Int)) ∧
 derefP x53.a fun a54 =>
 ldI w35.drew ((a54.add (1 * 3)).add 1) .u32 fun x55 =>
 callR Tryz.prog 83 #[(.agg #[(.int .u32 x48), (.int .i64 x49), (.slice x50.a x50.l x50.c), (.slice x51.a x51.l x51.c), (.int .i64 x52)]), (.int .u32 x55)] w35.drew fun v56 w36 =>
 ∃ x57 : Int, v56 = (.int .i64 x57) ∧
 Wr w36 (s27.1.add 2) ∧
 Nw (w36.setCell (s27.1.add 2) (.int .i64 x57)) fun w37 =>
 ldI w37.drew (s27.1.add 0) .u8 fun x58 =>
 ldI w37.drew (s27.1.add 1) .i64 fun x59 =>
 ldI w37.drew (s27.1.add 2) .i64 fun x60 =>
 ldI w37.drew (s27.1.add 2) .i64 fun x61 =>
 Wr w37.drew (blk w3.heap.size) ∧
 Nw (w37.drew.setCell (blk w3.heap.size) (.int .u8 x58)) fun w38 =>
 Wr w38 ((blk w3.heap.size).add 1) ∧
 Nw (w38.setCell ((blk w3.heap.size).add 1) (.int .i64 x59)) fun w39 =>
 Wr w39 ((blk w3.heap.size).add 2) ∧
 Nw (w39.setCell ((blk w3.heap.size).add 2) (.int .i64 x60)) fun w40 =>
 w40.cell? (s27.1.add 2) = some (.int .i64 x61) ∧
 ldI w40 ((blk w3.heap.size).add 0) .u8 fun x62 =>
 ldI w40 ((blk w3.heap.size).add 1) .i64 fun x63 =>
 ldI w40 ((blk w3.heap.size).add 2) .i64 fun x64 =>
 R (.tuple #[(.agg #[(.int .u8 x62), (.int .i64 x63), (.int .i64 x64)]), (.bool (decide (x61 ≥ (0 : Int))))]) w40)
 (JoinW (S := Unit) (fun m65 =>
 ldS w31 ((blk w.heap.size).add 2) fun x67 =>
 ldI w31 ((blk w2.heap.size).add 2) .i64 fun x68 =>
 (0 ≤ (IntKind.i64.wrap (x68 - (1 : Int))) ∧ (IntKind.i64.wrap (x68 - (1 : Int))) < (x67.l : Int)) ∧
 derefP x67.a fun a69 =>
 ldI w31 (a69.add ((Int.toNat (IntKind.i64.wrap (x68 - (1 : Int)))) * 4)) .u16 fun x70 =>
 ifB (x70 == (251 : Int))
 (Wr w31 s27.1 ∧
 Nw (w31.setCell s27.1 (.int .u8 (3 : Int))) fun w41 =>
 m65 (()) w41)
 (m65 (()) w31))
 (fun s66 w42 =>
 ldI w42 (s27.1.add 0) .u8 fun x71 =>
 ldI w42 (s27.1.add 1) .i64 fun x72 =>
 ldI w42 (s27.1.add 2) .i64 fun x73 =>
 Wr w42 (blk w3.heap.size) ∧
 Nw (w42.setCell (blk w3.heap.size) (.int .u8 x71)) fun w43 =>
 Wr w43 ((blk w3.heap.size).add 1) ∧
 Nw (w43.setCell ((blk w3.heap.size).add 1) (.int .i64 x72)) fun w44 =>
 Wr w44 ((blk w3.heap.size).add 2) ∧
 Nw (w44.setCell ((blk w3.heap.size).add 2) (.int .i64 x73)) fun w45 =>
 ldI w45 ((blk w3.heap.size).add 0) .u8 fun x74 =>
 ldI w45 ((blk w3.heap.size).add 1) .i64 fun x75 =>
 ldI w45 ((blk w3.heap.size).add 2) .i64 fun x76 =>
 R (.tuple #[(.agg #[(.int .u8 x74), (.int .i64 x75), (.int .i64 x76)]), (.bool true)]) w45))))))
theorem intaglioref14_Merge_calls (p0 : (Int × Int × Sl × Unit)) (p1 : (Int × Int × Sl × Sl × Int × Unit)) (p2 : (Int × Int × Int × Unit)) (R : Value → World → Prop) (w : World) (h : L_intaglioref14_Merge p0 p1 p2 R w) : Calls Tryz.prog 81 #[(.agg #[(.int .u32 p0.1), (.int .u32 p0.2.1), (.slice p0.2.2.1.a p0.2.2.1.l p0.2.2.1.c)]), (.agg #[(.int .u32 p1.1), (.int .i64 p1.2.1), (.slice p1.2.2.1.a p1.2.2.1.l p1.2.2.1.c), (.slice p1.2.2.2.1.a p1.2.2.2.1.l p1.2.2.2.1.c), (.int .i64 p1.2.2.2.2.1)]), (.agg #[(.int .u32 p2.1), (.int .i64 p2.2.1), (.int .i64 p2.2.2.1)])] w (Ret R) :=
 lw_calls (fs := Tryz.fs) (an := a_intaglioref14_Merge) (args := [(.agg #[(.int .u32 p0.1), (.int .u32 p0.2.1), (.slice p0.2.2.1.a p0.2.2.1.l p0.2.2.1.c)]), (.agg #[(.int .u32 p1.1), (.int .i64 p1.2.1), (.slice p1.2.2.1.a p1.2.2.1.l p1.2.2.1.c), (.slice p1.2.2.2.1.a p1.2.2.2.1.l p1.2.2.2.1.c), (.int .i64 p1.2.2.2.2.1)]), (.agg #[(.int .u32 p2.1), (.int .i64 p2.2.1), (.int .i64 p2.2.2.1)])]) Tryz.fsOK Tryz.mixed Tryz.func81 (by kernel_rfl) (by kernel_rfl)
 (Eq.mpr (by kernel_rfl : lwFn Tryz.prog Tryz.fs Tryz.f81 a_intaglioref14_Merge [(.agg #[(.int .u32 p0.1), (.int .u32 p0.2.1), (.slice p0.2.2.1.a p0.2.2.1.l p0.2.2.1.c)]), (.agg #[(.int .u32 p1.1), (.int .i64 p1.2.1), (.slice p1.2.2.1.a p1.2.2.1.l p1.2.2.1.c), (.slice p1.2.2.2.1.a p1.2.2.2.1.l p1.2.2.2.1.c), (.int .i64 p1.2.2.2.2.1)]), (.agg #[(.int .u32 p2.1), (.int .i64 p2.2.1), (.int .i64 p2.2.2.1)])] w R = L_intaglioref14_Merge p0 p1 p2 R w) h)

end Go.Proofs
namespace Go.Proofs
open Go.Gk
set_option linter.unusedVariables false
set_option maxRecDepth 100000

/-- intaglio.intaglioref05.Cut -/
def a_intaglioref05_Cut : Ann := (.seq none .nil (.seq none .nil (.seq none (.seq none .nil (.cond (.seq none .nil .nil) .nil)) (.seq none .nil (.seq none (.seq none .nil (.one (.loop ⟨[1, 3, 4], [(5, (.b .slice)), (6, (.b (.int .i64)))]⟩ (.seq none (.seq none .nil (.cond .nil .nil)) (.seq (some ⟨[1, 3, 4, 6], [(5, (.b .slice))]⟩) (.one (.seq none .nil (.seq none .nil (.seq (some ⟨[1, 3, 4, 6, 7, 8], [(5, (.b .slice))]⟩) (.seq none .nil (.cond .nil .nil)) (.seq (some ⟨[1, 3, 4, 5, 6, 7, 8], []⟩) (.seq none .nil (.cond .nil .nil)) (.seq (some ⟨[1, 3, 4, 5, 6, 7, 8], []⟩) (.seq none .nil (.cond .nil .nil)) (.seq (some ⟨[1, 3, 4, 5, 6, 7, 8], []⟩) (.seq none .nil (.cond .nil .nil)) (.seq none .nil (.cond .nil .nil))))))))) .nil))))) (.seq none .nil .nil))))))
def L_intaglioref05_Cut (p0 : (Int × Int × Sl × Unit)) (R : Value → World → Prop) (w : World) : Prop :=
 Nw (w.alloc (.cells #[(.int .u32 p0.1), (.int .u32 p0.2.1), (.slice p0.2.2.1.a p0.2.2.1.l p0.2.2.1.c)] 25)) fun w1 =>
 Nw (w1.alloc (.cells #[(.int .i64 (0 : Int)), (.int .i64 (0 : Int))] 33)) fun w2 =>
 ldI w2 ((blk w.heap.size).add 0) .u32 fun x1 =>
 ldI w2 ((blk w.heap.size).add 1) .u32 fun x2 =>
 ldS w2 ((blk w.heap.size).add 2) fun x3 =>
 callR Tryz.prog 30 #[(.agg #[(.int .u32 x1), (.int .u32 x2), (.slice x3.a x3.l x3.c)])] w2 fun v4 w3 =>
 ∃ x5 : (Int × Int × Unit), v4 = (.agg #[(.int .i64 x5.1), (.int .i64 x5.2.1)]) ∧
 Nw (w3.alloc (.cells #[(.int .i64 (0 : Int)), (.int .i64 (0 : Int))] 33)) fun w4 =>
 Wr w4 (blk w3.heap.size) ∧
 Nw (w4.setCell (blk w3.heap.size) (.int .i64 x5.1)) fun w5 =>
 Wr w5 ((blk w3.heap.size).add 1) ∧
 Nw (w5.setCell ((blk w3.heap.size).add 1) (.int .i64 x5.2.1)) fun w6 =>
 ldI w6 (blk w3.heap.size) .i64 fun x6 =>
 ifB (x6 != (0 : Int))
 (ldI w6.drew ((blk w3.heap.size).add 0) .i64 fun x7 =>
 ldI w6.drew ((blk w3.heap.size).add 1) .i64 fun x8 =>
 Wr w6.drew (blk w1.heap.size) ∧
 Nw (w6.drew.setCell (blk w1.heap.size) (.int .i64 x7)) fun w7 =>
 Wr w7 ((blk w1.heap.size).add 1) ∧
 Nw (w7.setCell ((blk w1.heap.size).add 1) (.int .i64 x8)) fun w8 =>
 ldI w8 ((blk w1.heap.size).add 0) .i64 fun x9 =>
 ldI w8 ((blk w1.heap.size).add 1) .i64 fun x10 =>
 R (.tuple #[(.slice none 0 0), (.agg #[(.int .i64 x9), (.int .i64 x10)])]) w8)
 (LoopW (S := Sl × Int × Unit) (fun s11 w9 n12 =>
 ldS w9 ((blk w.heap.size).add 2) fun x13 =>
 ifB (decide (s11.2.1 < (x13.l : Int)))
 (JoinW (S := Sl × Unit) (fun m14 =>
 ldS w9 ((blk w.heap.size).add 2) fun x16 =>
 (0 ≤ s11.2.1 ∧ s11.2.1 < (x16.l : Int)) ∧
 derefP x16.a fun a17 =>
 ldI w9 ((a17.add ((Int.toNat s11.2.1) * 4)).add 0) .u16 fun x18 =>
 ldI w9 ((a17.add ((Int.toNat s11.2.1) * 4)).add 1) .u32 fun x19 =>
 ldI w9 ((a17.add ((Int.toNat s11.2.1) * 4)).add 2) .u32 fun x20 =>
 ldS w9 ((a17.add ((Int.toNat s11.2.1) * 4)).add 3) fun x21 =>
 Nw (w9.alloc (.cells #[(.int .u16 (0 : Int)), (.int .u32 (0 : Int)), (.int .u32 (0 : Int)), (.slice none 0 0)] 41)) fun w10 =>
 Wr w10 (blk w9.heap.size) ∧
 Nw (w10.setCell (blk w9.heap.size) (.int .u16 x18)) fun w11 =>
 Wr w11 ((blk w9.heap.size).add 1) ∧
 Nw (w11.setCell ((blk w9.heap.size).add 1) (.int .u32 x19)) fun w12 =>
 Wr w12 ((blk w9.heap.size).add 2) ∧
 Nw (w12.setCell ((blk w9.heap.size).add 2) (.int .u32 x20)) fun w13 =>
 Wr w13 ((blk w9.heap.size).add 3) ∧
 Nw (w13.setCell ((blk w9.heap.size).add 3) (.slice x21.a x21.l x21.c)) fun w14 =>
 JoinW (S := Sl × Unit) (fun m22 =>
 ldI w14 (blk w9.heap.size) .u16 fun x24 =>
 ifB (x24 == (54 : Int))
 (ldI w14 ((blk w9.heap.size).add 2) .u32 fun x25 =>
 Nw (w14.alloc (.cells #[(.int .u32 x25), (.int .i64 s11.2.1), (.slice none 0 0), (.slice none 0 0), (.int .i64 (0 : Int))] 29)) fun w15 =>
 appendS Tryz.prog 30 (.slice s11.1.a s11.1.l s11.1.c) (.slice (some (blk w14.heap.size)) 1 1) w15 fun r26 w16 =>
 m22 (r26, ()) w16)
 (m22 (s11.1, ()) w14))
 (fun s23 w17 =>
 JoinW (S := Unit) (fun m27 =>
 ldI w17 (blk w9.heap.size) .u16 fun x29 =>
 ifB (x29 == (55 : Int))
 ((0 ≤ (IntKind.i64.wrap ((s11.1.l : Int) - (1 : Int))) ∧ (IntKind.i64.wrap ((s11.1.l : Int) - (1 : Int))) < (s23.1.l : Int)) ∧
 derefP s23.1.a fun a30 =>
 ldS w17 ((a30.add ((Int.toNat (IntKind.i64.wrap ((s11.1.l : Int) - (1 : Int)))) * 5)).add 2) fun x31 =>
 Nw (w17.alloc (.cells #[(.int .i64 s11.2.1)] 3)) fun w18 =>
 appendS Tryz.prog 26 (.slice x31.a x31.l x31.c) (.slice (some (blk w17.heap.size)) 1 1) w18 fun r32 w19 =>
 (0 ≤ (IntKind.i64.wrap ((s11.1.l : Int) - (1 : Int))) ∧ (IntKind.i64.wrap ((s11.1.l : Int) - (1 : Int))) < (s23.1.l : Int)) ∧
 derefP s23.1.a fun a33 =>
 Wr w19 ((a33.add ((Int.toNat (IntKind.i64.wrap ((s11.1.l : Int) - (1 : Int)))) * 5)).add 2) ∧
 Nw (w19.setCell ((a33.add ((Int.toNat (IntKind.i64.wrap ((s11.1.l : Int) - (1 : Int)))) * 5)).add 2) (.slice r32.a r32.l r32.c)) fun w20 =>
 m27 (()) w20)
 (m27 (()) w17))
 (fun s28 w21 =>
 JoinW (S := Unit) (fun m34 =>
 ldI w21 (blk w9.heap.size) .u16 fun x36 =>
 ifB (x36 == (56 : Int))
 ((0 ≤ (IntKind.i64.wrap ((s11.1.l : Int) - (1 : Int))) ∧ (IntKind.i64.wrap ((s11.1.l : Int) - (1 : Int))) < (s23.1.l : Int)) ∧
 derefP s23.1.a fun a37 =>
 Wr w21 ((a37.add ((Int.toNat (IntKind.i64.wrap ((s11.1.l : Int) - (1 : Int)))) * 5)).add 4) ∧
 Nw (w21.setCell ((a37.add ((Int.toNat (IntKind.i64.wrap ((s11.1.l : Int) - (1 : Int)))) * 5)).add 4) (.int .i64 s11.2.1)) fun w22 =>
 m34 (()) w22)
 (m34 (()) w21))
 (fun s35 w23 =>
 JoinW (S := Unit) (fun m38 =>
 ldI w23 (blk w9.heap.size) .u16 fun x40 =>
 ifB (x40 == (248 : Int))
 ((0 ≤ (IntKind.i64.wrap ((s11.1.l : Int) - (1 : Int))) ∧ (IntKind.i64.wrap ((s11.1.l : Int) - (1 : Int))) < (s23.1.l : Int)) ∧
 derefP s23.1.a fun a41 =>
 ldS w23.drew ((a41.add ((Int.toNat (IntKind.i64.wrap ((s11.1.l : Int) - (1 : Int)))) * 5)).add 3) fun x42 =>
 ldI w23.drew ((blk w9.heap.size).add 2) .u32 fun x43 =>
 Nw (w23.drew.alloc (.cells #[(.int .u32 x43), (.int .i64 s11.2.1), (.int .i64 (0 : Int))] 69)) fun w24 =>
 w24.cell? ((a41.add ((Int.toNat (IntKind.i64.wrap ((s11.1.l : Int) - (1 : Int)))) * 5)).add 3) = some (.slice x42.a x42.l x42.c) ∧
 appendS Tryz.prog 27 (.slice x42.a x42.l x42.c) (.slice (some (blk w23.drew.heap.size)) 1 1) w24 fun r44 w25 =>
 (0 ≤ (IntKind.i64.wrap ((s11.1.l : Int) - (1 : Int))) ∧ (IntKind.i64.wrap ((s11.1.l : Int) - (1 : Int))) < (s23.1.l : Int)) ∧
 derefP s23.1.a fun a45 =>
 Wr w25 ((a45.add ((Int.toNat (IntKind.i64.wrap ((s11.1.l : Int) - (1 : Int)))) * 5)).add 3) ∧
 Nw (w25.setCell ((a45.add ((Int.toNat (IntKind.i64.wrap ((s11.1.l : Int) - (1 : Int)))) * 5)).add 3) (.slice r44.a r44.l r44.c)) fun w26 =>
 m38 (()) w26)
 (m38 (()) w23))
 (fun s39 w27 =>
 ldI w27 (blk w9.heap.size) .u16 fun x46 =>
 callR Tryz.prog 31 #[(.int .u16 x46)] w27 fun v47 w28 =>
 ∃ x48 : Bool, v47 = (.bool x48) ∧
 ifB x48
 ((0 ≤ (IntKind.i64.wrap ((s11.1.l : Int) - (1 : Int))) ∧ (IntKind.i64.wrap ((s11.1.l : Int) - (1 : Int))) < (s23.1.l : Int)) ∧
 derefP s23.1.a fun a49 =>
 ldS w28.drew ((a49.add ((Int.toNat (IntKind.i64.wrap ((s11.1.l : Int) - (1 : Int)))) * 5)).add 3) fun x50 =>
 (0 ≤ (IntKind.i64.wrap ((s11.1.l : Int) - (1 : Int))) ∧ (IntKind.i64.wrap ((s11.1.l : Int) - (1 : Int))) < (s23.1.l : Int)) ∧
 derefP s23.1.a fun a51 =>
 ldS w28.drew ((a51.add ((Int.toNat (IntKind.i64.wrap ((s11.1.l : Int) - (1 : Int)))) * 5)).add 3) fun x52 =>
 (0 ≤ (IntKind.i64.wrap ((x52.l : Int) - (1 : Int))) ∧ (IntKind.i64.wrap ((x52.l : Int) - (1 : Int))) < (x50.l : Int)) ∧
 derefP x50.a fun a53 =>
 Wr w28.drew ((a53.add ((Int.toNat (IntKind.i64.wrap ((x52.l : Int) - (1 : Int)))) * 3)).add 2) ∧
 Nw (w28.drew.setCell ((a53.add ((Int.toNat (IntKind.i64.wrap ((x52.l : Int) - (1 : Int)))) * 3)).add 2) (.int .i64 (IntKind.i64.wrap (s11.2.1 + (1 : Int))))) fun w29 =>
 m14 (s23.1, ()) w29)
 (m14 (s23.1, ()) w28))))))
 (fun s15 w30 =>
 n12 (s15.1, (IntKind.i64.wrap (s11.2.1 + (1 : Int))), ()) w30))
 (ldI w9.drew ((blk w3.heap.size).add 0) .i64 fun x54 =>
 ldI w9.drew ((blk w3.heap.size).add 1) .i64 fun x55 =>
 Wr w9.drew (blk w1.heap.size) ∧
 Nw (w9.drew.setCell (blk w1.heap.size) (.int .i64 x54)) fun w31 =>
 Wr w31 ((blk w1.heap.size).add 1) ∧
 Nw (w31.setCell ((blk w1.heap.size).add 1) (.int .i64 x55)) fun w32 =>
 ldI w32 ((blk w1.heap.size).add 0) .i64 fun x56 =>
 ldI w32 ((blk w1.heap.size).add 1) .i64 fun x57 =>
 R (.tuple #[(.slice s11.1.a s11.1.l s11.1.c), (.agg #[(.int .i64 x56), (.int .i64 x57)])]) w32))
 ((Sl.mk none 0 0), (0 : Int), ()) w6)
theorem intaglioref05_Cut_calls (p0 : (Int × Int × Sl × Unit)) (R : Value → World → Prop) (w : World) (h : L_intaglioref05_Cut p0 R w) : Calls Tryz.prog 8 #[(.agg #[(.int .u32 p0.1), (.int .u32 p0.2.1), (.slice p0.2.2.1.a p0.2.2.1.l p0.2.2.1.c)])] w (Ret R) :=
 lw_calls (fs := Tryz.fs) (an := a_intaglioref05_Cut) (args := [(.agg #[(.int .u32 p0.1), (.int .u32 p0.2.1), (.slice p0.2.2.1.a p0.2.2.1.l p0.2.2.1.c)])]) Tryz.fsOK Tryz.mixed Tryz.func8 (by kernel_rfl) (by kernel_rfl)
 (Eq.mpr (by kernel_rfl : lwFn Tryz.prog Tryz.fs Tryz.f8 a_intaglioref05_Cut [(.agg #[(.int .u32 p0.1), (.int .u32 p0.2.1), (.slice p0.2.2.1.a p0.2.2.1.l p0.2.2.1.c)])] w R = L_intaglioref05_Cut p0 R w) h)

/-- intaglio.intaglioref14.known -/
def a_intaglioref14_known : Ann := (.seq none .nil (.seq none .nil (.seq none (.seq none .nil (.one (.loop ⟨[3, 5], [(7, (.b (.int .i64)))]⟩ (.seq none (.seq none .nil (.cond .nil .nil)) (.seq none (.one (.seq none .nil (.cond (.seq none .nil .nil) .nil))) .nil))))) (.seq none .nil .nil))))
def L_intaglioref14_known (p0 : (Int × Int × Sl × Unit)) (p1 : (Int × Int × Sl × Sl × Int × Unit)) (R : Value → World → Prop) (w : World) : Prop :=
 Nw (w.alloc (.cells #[(.int .u32 p0.1), (.int .u32 p0.2.1), (.slice p0.2.2.1.a p0.2.2.1.l p0.2.2.1.c)] 25)) fun w1 =>
 Nw (w1.alloc (.cells #[(.int .u32 p1.1), (.int .i64 p1.2.1), (.slice p1.2.2.1.a p1.2.2.1.l p1.2.2.1.c), (.slice p1.2.2.2.1.a p1.2.2.2.1.l p1.2.2.2.1.c), (.int .i64 p1.2.2.2.2.1)] 29)) fun w2 =>
 ldI w2 ((blk w.heap.size).add 0) .u32 fun x1 =>
 ldI w2 ((blk w.heap.size).add 1) .u32 fun x2 =>
 ldS w2 ((blk w.heap.size).add 2) fun x3 =>
 callR Tryz.prog 8 #[(.agg #[(.int .u32 x1), (.int .u32 x2), (.slice x3.a x3.l x3.c)])] w2 fun v4 w3 =>
 ∃ x5 : Sl, ∃ x6 : (Int × Int × Unit), v4 = (.tuple #[(.slice x5.a x5.l x5.c), (.agg #[(.int .i64 x6.1), (.int .i64 x6.2.1)])]) ∧
 Nw (w3.alloc (.cells #[(.int .i64 (0 : Int)), (.int .i64 (0 : Int))] 33)) fun w4 =>
 Wr w4 (blk w3.heap.size) ∧
 Nw (w4.setCell (blk w3.heap.size) (.int .i64 x6.1)) fun w5 =>
 Wr w5 ((blk w3.heap.size).add 1) ∧
 Nw (w5.setCell ((blk w3.heap.size).add 1) (.int .i64 x6.2.1)) fun w6 =>
 LoopW (S := Int × Unit) (fun s7 w7 n8 =>
 ifB (decide (s7.1 < (x5.l : Int)))
 ((0 ≤ s7.1 ∧ s7.1 < (x5.l : Int)) ∧
 derefP x5.a fun a9 =>
 ldI w7.drew ((a9.add ((Int.toNat s7.1) * 5)).add 0) .u32 fun x10 =>
 ldI w7.drew ((a9.add ((Int.toNat s7.1) * 5)).add 1) .i64 fun x11 =>
 ldS w7.drew ((a9.add ((Int.toNat s7.1) * 5)).add 2) fun x12 =>
 ldS w7.drew ((a9.add ((Int.toNat s7.1) * 5)).add 3) fun x13 =>
 ldI w7.drew ((a9.add ((Int.toNat s7.1) * 5)).add 4) .i64 fun x14 =>
 ldI w7.drew ((blk w1.heap.size).add 0) .u32 fun x15 =>
 ldI w7.drew ((blk w1.heap.size).add 1) .i64 fun x16 =>
 ldS w7.drew ((blk w1.heap.size).add 2) fun x17 =>
 ldS w7.drew ((blk w1.heap.size).add 3) fun x18 =>
 ldI w7.drew ((blk w1.heap.size).add 4) .i64 fun x19 =>
 callR Tryz.prog 128 #[(.agg #[(.int .u32 x10), (.int .i64 x11), (.slice x12.a x12.l x12.c), (.slice x13.a x13.l x13.c), (.int .i64 x14)]), (.agg #[(.int .u32 x15), (.int .i64 x16), (.slice x17.a x17.l x17.c), (.slice x18.a x18.l x18.c), (.int .i64 x19)])] w7.drew fun v20 w8 =>
 ∃ x21 : Bool, v20 = (.bool x21) ∧
 ifB x21
 (R (.bool true) w8)
 (n8 ((IntKind.i64.wrap (s7.1 + (1 : Int))), ()) w8))
 (R (.bool false) w7))
 ((0 : Int), ()) w6
theorem intaglioref14_known_calls (p0 : (Int × Int × Sl × Unit)) (p1 : (Int × Int × Sl × Sl × Int × Unit)) (R : Value → World → Prop) (w : World) (h : L_intaglioref14_known p0 p1 R w) : Calls Tryz.prog 80 #[(.agg #[(.int .u32 p0.1), (.int .u32 p0.2.1), (.slice p0.2.2.1.a p0.2.2.1.l p0.2.2.1.c)]), (.agg #[(.int .u32 p1.1), (.int .i64 p1.2.1), (.slice p1.2.2.1.a p1.2.2.1.l p1.2.2.1.c), (.slice p1.2.2.2.1.a p1.2.2.2.1.l p1.2.2.2.1.c), (.int .i64 p1.2.2.2.2.1)])] w (Ret R) :=
 lw_calls (fs := Tryz.fs) (an := a_intaglioref14_known) (args := [(.agg #[(.int .u32 p0.1), (.int .u32 p0.2.1), (.slice p0.2.2.1.a p0.2.2.1.l p0.2.2.1.c)]), (.agg #[(.int .u32 p1.1), (.int .i64 p1.2.1), (.slice p1.2.2.1.a p1.2.2.1.l p1.2.2.1.c), (.slice p1.2.2.2.1.a p1.2.2.2.1.l p1.2.2.2.1.c), (.int .i64 p1.2.2.2.2.1)])]) Tryz.fsOK Tryz.mixed Tryz.func80 (by kernel_rfl) (by kernel_rfl)
 (Eq.mpr (by kernel_rfl : lwFn Tryz.prog Tryz.fs Tryz.f80 a_intaglioref14_known [(.agg #[(.int .u32 p0.1), (.int .u32 p0.2.1), (.slice p0.2.2.1.a p0.2.2.1.l p0.2.2.1.c)]), (.agg #[(.int .u32 p1.1), (.int .i64 p1.2.1), (.slice p1.2.2.1.a p1.2.2.1.l p1.2.2.1.c), (.slice p1.2.2.2.1.a p1.2.2.2.1.l p1.2.2.2.1.c), (.int .i64 p1.2.2.2.2.1)])] w R = L_intaglioref14_known p0 p1 R w) h)

/-- intaglio.intaglioref14.block -/
def a_intaglioref14_block : Ann := (.seq none .nil (.seq none (.seq none .nil (.one (.loop ⟨[1, 2], [(5, (.b (.int .i64)))]⟩ (.seq none (.seq none .nil (.cond .nil .nil)) (.seq none (.one (.seq none .nil (.cond (.seq none .nil .nil) .nil))) .nil))))) (.seq none .nil .nil)))
def L_intaglioref14_block (p0 : (Int × Int × Sl × Sl × Int × Unit)) (p1 : Int) (R : Value → World → Prop) (w : World) : Prop :=
 Nw (w.alloc (.cells #[(.int .u32 p0.1), (.int .i64 p0.2.1), (.slice p0.2.2.1.a p0.2.2.1.l p0.2.2.1.c), (.slice p0.2.2.2.1.a p0.2.2.2.1.l p0.2.2.2.1.c), (.int .i64 p0.2.2.2.2.1)] 29)) fun w1 =>
 LoopW (S := Int × Unit) (fun s1 w2 n2 =>
 ldS w2 ((blk w.heap.size).add 3) fun x3 =>
 ifB (decide (s1.1 < (x3.l : Int)))
 (ldS w2 ((blk w.heap.size).add 3) fun x4 =>
 (0 ≤ s1.1 ∧ s1.1 < (x4.l : Int)) ∧
 derefP x4.a fun a5 =>
 ldI w2 (a5.add ((Int.toNat s1.1) * 3)) .u32 fun x6 =>
 ifB (x6 == p1)
 (R (.int .i64 s1.1) w2)
 (n2 ((IntKind.i64.wrap (s1.1 + (1 : Int))), ()) w2))
 (R (.int .i64 (-1 : Int)) w2))
 ((1 : Int), ()) w1
theorem intaglioref14_block_calls (p0 : (Int × Int × Sl × Sl × Int × Unit)) (p1 : Int) (R : Value → World → Prop) (w : World) (h : L_intaglioref14_block p0 p1 R w) : Calls Tryz.prog 83 #[(.agg #[(.int .u32 p0.1), (.int .i64 p0.2.1), (.slice p0.2.2.1.a p0.2.2.1.l p0.2.2.1.c), (.slice p0.2.2.2.1.a p0.2.2.2.1.l p0.2.2.2.1.c), (.int .i64 p0.2.2.2.2.1)]), (.int .u32 p1)] w (Ret R) :=
 lw_calls (fs := Tryz.fs) (an := a_intaglioref14_block) (args := [(.agg #[(.int .u32 p0.1), (.int .i64 p0.2.1), (.slice p0.2.2.1.a p0.2.2.1.l p0.2.2.1.c), (.slice p0.2.2.2.1.a p0.2.2.2.1.l p0.2.2.2.1.c), (.int .i64 p0.2.2.2.2.1)]), (.int .u32 p1)]) Tryz.fsOK Tryz.mixed Tryz.func83 (by kernel_rfl) (by kernel_rfl)
 (Eq.mpr (by kernel_rfl : lwFn Tryz.prog Tryz.fs Tryz.f83 a_intaglioref14_block [(.agg #[(.int .u32 p0.1), (.int .i64 p0.2.1), (.slice p0.2.2.1.a p0.2.2.1.l p0.2.2.1.c), (.slice p0.2.2.2.1.a p0.2.2.2.1.l p0.2.2.2.1.c), (.int .i64 p0.2.2.2.2.1)]), (.int .u32 p1)] w R = L_intaglioref14_block p0 p1 R w) h)

/-- intaglio.intaglioref14.sameFunc -/
def a_intaglioref14_sameFunc : Ann := (.seq none .nil (.seq (some ⟨[2, 3], []⟩) (.seq none .nil (.cond (.seq none .nil .nil) .nil)) (.seq none (.seq none .nil (.one (.loop ⟨[2, 3], [(5, (.b (.int .i64)))]⟩ (.seq none (.seq none .nil (.cond .nil .nil)) (.seq none (.one (.seq none .nil (.cond (.seq none .nil .nil) .nil))) .nil))))) (.seq none (.seq none .nil (.one (.loop ⟨[2, 3], [(6, (.b (.int .i64)))]⟩ (.seq none (.seq none .nil (.cond .nil .nil)) (.seq none (.one (.seq none .nil (.cond (.seq none .nil .nil) .nil))) .nil))))) (.seq none .nil .nil)))))
def L_intaglioref14_sameFunc (p0 : (Int × Int × Sl × Sl × Int × Unit)) (p1 : (Int × Int × Sl × Sl × Int × Unit)) (R : Value → World → Prop) (w : World) : Prop :=
 Nw (w.alloc (.cells #[(.int .u32 p0.1), (.int .i64 p0.2.1), (.slice p0.2.2.1.a p0.2.2.1.l p0.2.2.1.c), (.slice p0.2.2.2.1.a p0.2.2.2.1.l p0.2.2.2.1.c), (.int .i64 p0.2.2.2.2.1)] 29)) fun w1 =>
 Nw (w1.alloc (.cells #[(.int .u32 p1.1), (.int .i64 p1.2.1), (.slice p1.2.2.1.a p1.2.2.1.l p1.2.2.1.c), (.slice p1.2.2.2.1.a p1.2.2.2.1.l p1.2.2.2.1.c), (.int .i64 p1.2.2.2.2.1)] 29)) fun w2 =>
 JoinW (S := Unit) (fun m1 =>
 ldI w2 (blk w.heap.size) .u32 fun x3 =>
 ldI w2 (blk w1.heap.size) .u32 fun x4 =>
 ifB (x3 != x4)
 (R (.bool false) w2)
 (ldI w2 ((blk w.heap.size).add 1) .i64 fun x5 =>
 ldI w2 ((blk w1.heap.size).add 1) .i64 fun x6 =>
 ifB (x5 != x6)
 (R (.bool false) w2)
 (ldI w2 ((blk w.heap.size).add 4) .i64 fun x7 =>
 ldI w2 ((blk w1.heap.size).add 4) .i64 fun x8 =>
 ifB (x7 != x8)
 (R (.bool false) w2)
 (ldS w2 ((blk w.heap.size).add 2) fun x9 =>
 ldS w2 ((blk w1.heap.size).add 2) fun x10 =>
 ifB ((x9.l : Int) != (x10.l : Int))
 (R (.bool false) w2)
 (ldS w2 ((blk w.heap.size).add 3) fun x11 =>
 ldS w2 ((blk w1.heap.size).add 3) fun x12 =>
 ifB ((x11.l : Int) != (x12.l : Int))
 (R (.bool false) w2)
 (m1 (()) w2))))))
 (fun s2 w3 =>
 LoopW (S := Int × Unit) (fun s13 w4 n14 =>
 ldS w4 ((blk w.heap.size).add 2) fun x15 =>
 ifB (decide (s13.1 < (x15.l : Int)))
 (ldS w4.drew ((blk w.heap.size).add 2) fun x16 =>
 (0 ≤ s13.1 ∧ s13.1 < (x16.l : Int)) ∧
 derefP x16.a fun a17 =>
 ldI w4.drew (a17.add (Int.toNat s13.1)) .i64 fun x18 =>
 ldS w4.drew ((blk w1.heap.size).add 2) fun x19 =>
 (0 ≤ s13.1 ∧ s13.1 < (x19.l : Int)) ∧
 derefP x19.a fun a20 =>
 ldI w4.drew (a20.add (Int.toNat s13.1)) .i64 fun x21 =>
 ifB (x18 != x21)
 (R (.bool false) w4.drew)
 (n14 ((IntKind.i64.wrap (s13.1 + (1 : Int))), ()) w4.drew))
 (LoopW (S := Int × Unit) (fun s22 w5 n23 =>
 ldS w5 ((blk w.heap.size).add 3) fun x24 =>
 ifB (decide (s22.1 < (x24.l : Int)))
 (ldS w5.drew ((blk w.heap.size).add 3) fun x25 =>
 (0 ≤ s22.1 ∧ s22.1 < (x25.l : Int)) ∧
 derefP x25.a fun a26 =>
 ldI w5.drew ((a26.add ((Int.toNat s22.1) * 3)).add 0) .u32 fun x27 =>
 ldI w5.drew ((a26.add ((Int.toNat s22.1) * 3)).add 1) .i64 fun x28 =>
 ldI w5.drew ((a26.add ((Int.toNat s22.1) * 3)).add 2) .i64 fun x29 =>
 ldS w5.drew ((blk w1.heap.size).add 3) fun x30 =>
 (0 ≤ s22.1 ∧ s22.1 < (x30.l : Int)) ∧
 derefP x30.a fun a31 =>
 ldI w5.drew ((a31.add ((Int.toNat s22.1) * 3)).add 0) .u32 fun x32 =>
 ldI w5.drew ((a31.add ((Int.toNat s22.1) * 3)).add 1) .i64 fun x33 =>
 ldI w5.drew ((a31.add ((Int.toNat s22.1) * 3)).add 2) .i64 fun x34 =>
 ifB (!(x27 == x32 && (x28 == x33 && (x29 == x34 && true))))
 (R (.bool false) w5.drew)
 (n23 ((IntKind.i64.wrap (s22.1 + (1 : Int))), ()) w5.drew))
 (R (.bool true) w5))
 ((0 : Int), ()) w4))
 ((0 : Int), ()) w3)
theorem intaglioref14_sameFunc_calls (p0 : (Int × Int × Sl × Sl × Int × Unit)) (p1 : (Int × Int × Sl × Sl × Int × Unit)) (R : Value → World → Prop) (w : World) (h : L_intaglioref14_sameFunc p0 p1 R w) : Calls Tryz.prog 128 #[(.agg #[(.int .u32 p0.1), (.int .i64 p0.2.1), (.slice p0.2.2.1.a p0.2.2.1.l p0.2.2.1.c), (.slice p0.2.2.2.1.a p0.2.2.2.1.l p0.2.2.2.1.c), (.int .i64 p0.2.2.2.2.1)]), (.agg #[(.int .u32 p1.1), (.int .i64 p1.2.1), (.slice p1.2.2.1.a p1.2.2.1.l p1.2.2.1.c), (.slice p1.2.2.2.1.a p1.2.2.2.1.l p1.2.2.2.1.c), (.int .i64 p1.2.2.2.2.1)])] w (Ret R) :=
 lw_calls (fs := Tryz.fs) (an := a_intaglioref14_sameFunc) (args := [(.agg #[(.int .u32 p0.1), (.int .i64 p0.2.1), (.slice p0.2.2.1.a p0.2.2.1.l p0.2.2.1.c), (.slice p0.2.2.2.1.a p0.2.2.2.1.l p0.2.2.2.1.c), (.int .i64 p0.2.2.2.2.1)]), (.agg #[(.int .u32 p1.1), (.int .i64 p1.2.1), (.slice p1.2.2.1.a p1.2.2.1.l p1.2.2.1.c), (.slice p1.2.2.2.1.a p1.2.2.2.1.l p1.2.2.2.1.c), (.int .i64 p1.2.2.2.2.1)])]) Tryz.fsOK Tryz.mixed Tryz.func128 (by kernel_rfl) (by kernel_rfl)
 (Eq.mpr (by kernel_rfl : lwFn Tryz.prog Tryz.fs Tryz.f128 a_intaglioref14_sameFunc [(.agg #[(.int .u32 p0.1), (.int .i64 p0.2.1), (.slice p0.2.2.1.a p0.2.2.1.l p0.2.2.1.c), (.slice p0.2.2.2.1.a p0.2.2.2.1.l p0.2.2.2.1.c), (.int .i64 p0.2.2.2.2.1)]), (.agg #[(.int .u32 p1.1), (.int .i64 p1.2.1), (.slice p1.2.2.1.a p1.2.2.1.l p1.2.2.1.c), (.slice p1.2.2.2.1.a p1.2.2.2.1.l p1.2.2.2.1.c), (.int .i64 p1.2.2.2.2.1)])] w R = L_intaglioref14_sameFunc p0 p1 R w) h)

end Go.Proofs
namespace Go.Proofs
open Go.Gk Go.RowKit Go.Gm

/-- append of one element of some cells: what lies elsewhere stays. -/
theorem push_keep {P : Program} {t e : TypeId} {sz bytes : Nat} (he : ElemT P t e sz bytes) {w0 w : World} {s : Sl} {xs : List Value} (h : Own w e sz s xs) (hb : Below w0.heap.size w0 w) (hF : Fresh w0.heap.size s) {vs : List Value} (hvs : vs.length = sz) (hv : ∀ u ∈ vs, u.oneCell' = true) {b c : Nat} {T : TypeId}
    (hB : Blk w b T vs) (h63 : s.l + 1 ≤ 9223372036854775807) (hbytes : (s.l + 1) * bytes ≤ 140737488355328) {k : Sl → World → Prop}
    (hk : ∀ r w', Own w' e sz r (xs ++ vs) → Below w0.heap.size w0 w' → Fresh w0.heap.size r → w.heap.size ≤ w'.heap.size → (∀ i, i < w.heap.size → s.a ≠ some (blk i) → w'.heap[i]? = w.heap[i]?) → k r w') : appendS P t (.slice s.a s.l s.c) (.slice (some (blk b)) 1 c) w k := by
  refine append_own he h (news := vs) (by omega) (fun j u hj => hB.cell hj) hv h63 hbytes fun r w' h1 hl' hg => ?_
  rcases hg with ⟨_, _, h3⟩ | ⟨b', h3, h4, h5⟩
  · rw [h3] at hl'; omega
  · have hbb : w0.heap.size ≤ b' := by
      rcases h4 with h4 | h4
      · exact hF _ h4
      · have := hb.size
        omega
    refine hk r w' h1 (hb.trans (below_grown h5 hbb hb.size)) (fun a ha => by rw [h3] at ha; cases ha; exact hbb) (below_grown h5 (Nat.zero_le _) (Nat.zero_le _)).size fun i hi hne => h5.block _ hi fun e => ?_
    have e := Option.some.inj e
    subst e
    rcases h4 with h4 | h4
    · exact hne h4
    · omega
section
variable {w w' w0 : World} {B : Nat} {s t : Sl} {pl : List PI} {p : PI}
theorem own_notBlk {T T' : TypeId} {sz b : Nat} {xs cs : List Value} (h : Own w T sz s xs) (hB : Blk w b T' cs) (hT : T ≠ T') : s.a ≠ some (Gk.blk b) := fun e => by
  obtain ⟨cs', h'⟩ := h.type e
  exact Blk.apart h' hB hT rfl
theorem own_notOwn {T T' : TypeId} {sz sz' : Nat} {xs ys : List Value} (h : Own w T sz s xs) (k : Own w T' sz' t ys) (hT : T ≠ T') {a : Addr} (ha : t.a = some a) : s.a ≠ some (Gk.blk a.block) := fun e => by
  obtain ⟨cs', h'⟩ := k.type ha
  exact own_notBlk h h' hT e
end


end Go.Proofs

namespace Go.Proofs
open Go.Gk Go.RowKit Go.Gm

end Go.Proofs
namespace Go.Proofs
open Go.Gk Go.RowKit Go.Gm

/-- The finder of a function's blocks: the first k of those behind the first one. -/
def lblN (bk : List (Int × Int × Int)) : Nat → List (Int × Int)
  | 0 => []
  | k + 1 => setL (lblN bk k) (bk.getD (k + 1) (0, 0, 0)).1 ((k : Int) + 1)
abbrev lblM (bk : List (Int × Int × Int)) : List (Int × Int) := lblN bk (bk.length - 1)
def fndP (M : List (Int × Int)) (ls : List Int) : Option (List Int) := if ls.all (fun n => (lookL M n).isSome) = true then some (ls.map fun n => (lookL M n).getD 0) else none
def blkM (pl : List PI) (bk : List (Int × Int × Int)) (b : Int × Int × Int) : Option Mg := mrgP (lblM bk) (ix pl (b.2.2.toNat - 2)).1 (ix pl (b.2.2.toNat - 2)).2.2.2 (ix pl (b.2.2.toNat - 1)).1
def blkT (pl : List PI) (b : Int × Int × Int) : List Int := tgtP (ix pl (b.2.2.toNat - 1)).1 (ix pl (b.2.2.toNat - 1)).2.2.2
def blkE (pl : List PI) (bk : List (Int × Int × Int)) (b : Int × Int × Int) : Option Int := match blkM pl bk b with
  | none => some (b.2.2 - 2)
  | some _ => match fndP (lblM bk) (blkT pl b) with
    | none => some (b.2.2 - 1)
    | some _ => none
noncomputable def gnwE (x : Mo) (pl : List PI) (f : FnL) : Int × Int :=
  if (chk9P x.2.1 pl).1 ≠ 0 then ((chk9P x.2.1 pl).1, ((chk9P x.2.1 pl).2 : Int)) else if f ∉ cutF pl pl.length then (2, 0) else if 4096 < f.bk.length then (4, f.at_) else
    match f.bk.findSome? (blkE pl f.bk) with
    | some a => (140, a)
    | none => (0, 0)
def mgsP (pl : List PI) (bk : List (Int × Int × Int)) : List Mg := bk.map fun b => (blkM pl bk b).getD (0, -1, -1)
def rowsP (pl : List PI) (bk : List (Int × Int × Int)) : List (List Int) := bk.map fun b => (fndP (lblM bk) (blkT pl b)).getD []
theorem lblN_val (bk : List (Int × Int × Int)) : ∀ k n v, lookL (lblN bk k) n = some v → 1 ≤ v ∧ v ≤ k
  | 0, n, v, h => by cases h
  | k + 1, n, v, h => by
    simp only [lblN] at h
    rw [lookL_set] at h
    split at h
    · cases h; omega
    · have := lblN_val bk k n v h; omega
theorem fndP_some {M : List (Int × Int)} {ls : List Int} (h : ∀ n ∈ ls, (lookL M n).isSome = true) : fndP M ls = some (ls.map fun n => (lookL M n).getD 0) := by
  unfold fndP
  rw [if_pos (List.all_eq_true.2 h)]
theorem fndP_none {M : List (Int × Int)} {ls : List Int} (h : ∃ n ∈ ls, lookL M n = none) : fndP M ls = none := by
  unfold fndP
  obtain ⟨n, hn, e⟩ := h
  rw [if_neg]
  intro ha
  have := List.all_eq_true.1 ha n hn
  rw [e] at this
  cases this
theorem findSome_first {α β : Type} {f : α → Option β} : ∀ {l : List α} {k : Nat} (hk : k < l.length) {v : β}, f l[k] = some v → (∀ j (h : j < l.length), j < k → f l[j] = none) → l.findSome? f = some v
  | a :: l, 0, _, v, h, _ => by
    rw [List.findSome?_cons]
    have h : f a = some v := h
    rw [h]
  | a :: l, k + 1, hk, v, h, hj => by
    rw [List.findSome?_cons]
    have h0 : f a = none := hj 0 (by simp) (by omega)
    rw [h0]
    exact findSome_first (l := l) (k := k) (by simpa using hk) h fun j h1 h2 => hj (j + 1) (by simpa using h1) (by omega)
theorem findSome_no {α β : Type} {f : α → Option β} {l : List α} (hj : ∀ j (h : j < l.length), f l[j] = none) : l.findSome? f = none := by
  rw [List.findSome?_eq_none_iff]
  intro a ha
  obtain ⟨j, h, rfl⟩ := List.getElem_of_mem ha
  exact hj j h
theorem tgtP_len (op : Int) (al : List Ag) : (tgtP op al).length ≤ al.length := by
  unfold tgtP
  split
  · exact tgtN_len op al al.length
  · simp
theorem args_247 : (match frm 247 with | some f => decide (1 ≤ f.fixed.length) | none => false) = true := by decide +kernel
theorem args_246 : (match frm 246 with | some f => decide (2 ≤ f.fixed.length) | none => false) = true := by decide +kernel
theorem whole_le {f : Fl} {n : Nat} (h : wholeP f n = true) : f.fixed.length ≤ n := by
  unfold wholeP at h
  split at h
  · cases h
  · omega
theorem merge_args {p : PI} {b : Int} (h : faultI p b = 0) : (p.1 = 247 → 0 < p.2.2.2.length) ∧ (p.1 = 246 → 1 < p.2.2.2.length) := by
  obtain ⟨f, hf, _, _, _, hw, _⟩ := fault_all h
  have hl := whole_le hw
  refine ⟨fun e => ?_, fun e => ?_⟩
  · have h1 := args_247
    rw [e] at hf
    rw [hf] at h1
    have := of_decide_eq_true h1
    omega
  · have h1 := args_246
    rw [e] at hf
    rw [hf] at h1
    have := of_decide_eq_true h1
    omega
section
variable {x : Mo} {pl : List PI} {w : World} {R : Value → World → Prop} {v : Fv} {f : FnL}
theorem elemPc {w : World} {s : Sl} {pl : List PI} (h : IsPl w s pl) {k : Nat} (hk : k < pl.length) {φ : Addr → Int → Int → Int → Sl → Prop}
    (hφ : ∀ a t, (∀ j, j < 4 → w.cell? ((a.add (Int.toNat (k : Int) * 4)).add j) = (inV (mkIn pl[k] t))[j]?) → IsAg w t pl[k].2.2.2 → φ a pl[k].1 pl[k].2.1 pl[k].2.2.1 t) :
    (0 ≤ (k : Int) ∧ (k : Int) < (s.l : Int)) ∧ derefP s.a fun a => ldI w ((a.add (Int.toNat (k : Int) * 4)).add 0) .u16 fun x => ldI w ((a.add (Int.toNat (k : Int) * 4)).add 1) .u32 fun y => ldI w ((a.add (Int.toNat (k : Int) * 4)).add 2) .u32 fun z => ldS w ((a.add (Int.toNat (k : Int) * 4)).add 3) fun t => φ a x y z t := by
  obtain ⟨a, ha⟩ := h.base hk
  obtain ⟨t, h1, h2⟩ := h.elem a ha k hk
  have hc : ∀ j, j < 4 → w.cell? ((a.add (Int.toNat (k : Int) * 4)).add j) = (inV (mkIn pl[k] t))[j]? := fun j hj => by rw [add_add']; exact h1 j hj
  exact ⟨⟨by omega, by have := h.len; omega⟩, derefP_some ha ⟨_, hc 0 (by omega), _, hc 1 (by omega), _, hc 2 (by omega), t, hc 3 (by omega), hφ a t hc h2⟩⟩
theorem eRow : ElemT Tryz.prog 48 26 1 24 := ⟨by kernel_rfl, Tryz.t26, .slice none 0 0, by kernel_rfl, rfl, rfl, rfl, rfl⟩
set_option maxHeartbeats 1000000 in
theorem gNew_spec (hN : IsPl w x.2.2.1 pl) (hp : PlOk pl) (h0 : 0 ≤ x.2.1) (hf : IsFn w v f)
    (hbad : ∀ w' e a, Below w.heap.size w w' → (e, a) = gnwE x pl f → e ≠ 0 → R (.tuple #[.pointer none, .slice none 0 0, .agg #[.int .i64 e, .int .i64 a]]) w')
    (hok : ∀ w' gb ms, Below w.heap.size w w' → gnwE x pl f = (0, 0) → f ∈ cutF pl pl.length → IsG w' gb (edges (rowsP pl f.bk)) → NxOk (edges (rowsP pl f.bk)) → IsM w' ms (mgsP pl f.bk) → R (.tuple #[.pointer (some (blk gb)), .slice ms.a ms.l ms.c, .agg #[.int .i64 0, .int .i64 0]]) w') :
    callR Tryz.prog 33 #[moA x, fvA v] w R := by
  refine callR.of (graph_New_calls x v R w ?_) fun _ _ h => h
  refine lay_of fun w1 hB1 b1 z1 => ?_
  have hB1 : Blk w1 w.heap.size 25 (moV x) := hB1
  refine lay_of fun w2 hV2 b2 z2 => ?_
  have hV2 : Blk w2 w1.heap.size 29 (fvV v) := hV2
  refine lay_of fun w3 hS3 b3 z3 => ?_
  have hS3 : Blk w3 w2.heap.size 33 [.int .i64 0, .int .i64 0] := hS3
  have b13 := b2.on b3
  have hb3 := b1.on b13
  refine Mo.load (hB1.below b13) ?_
  refine Check_spec (x := x) (hN.below hb3) hp fun w4 b4 => ⟨((chk9P x.2.1 pl).1, ((chk9P x.2.1 pl).2 : Int), ()), rfl, ?_⟩
  refine box2 rfl fun w7 h7 b7 z7 => ?_
  have b37 := b4.on b7
  have hb7 := hb3.on b37
  have hB7 := (hB1.below b13).below b37
  have hV7 := (hV2.below b3).below b37
  have hS7 := hS3.below b37
  have s2 := b1.size
  -- what is wrong is said so
  have bad : ∀ {w' : World} (e a : Int), Blk w' w2.heap.size 33 [.int .i64 0, .int .i64 0] → Below w.heap.size w w' → (e, a) = gnwE x pl f → e ≠ 0 →
      Wr w' (blk w2.heap.size) ∧ Nw (w'.setCell (blk w2.heap.size) (.int .i64 e)) fun w8 => Wr w8 ((blk w2.heap.size).add 1) ∧ Nw (w8.setCell ((blk w2.heap.size).add 1) (.int .i64 a)) fun w9 => ldI w9 ((blk w2.heap.size).add 0) .i64 fun x9 => ldI w9 ((blk w2.heap.size).add 1) .i64 fun x10 =>
        R (.tuple #[.pointer none, .slice none 0 0, .agg #[.int .i64 x9, .int .i64 x10]]) w9 := fun {w'} e a hS hb he hne =>
    st2 hS rfl fun w9 hS9 c9 => Sp.load hS9 (hbad w9 e a (c9.below hb (by omega)) he hne)
  refine h7.rI0 rfl (ifB_bne (fun e => ?_) (fun e => ?_))
  · have e' : (chk9P x.2.1 pl).1 ≠ 0 := e
    exact Sp.load h7.drew (bad _ _ hS7.drew hb7.drew (by unfold gnwE; rw [if_pos e']) e')
  have e' : (chk9P x.2.1 pl).1 = 0 := e
  obtain ⟨k1, k2, k3⟩ := chk9_ok e'
  have hsh := lay_shape k2
  refine Mo.load hB7 ?_
  refine Cut_spec (x := x) (hN.below hb7) hp (fun fs L w10 _ b10 hL hLc => ⟨fs, (0, 0, ()), rfl, ?_⟩) (fun w10 hne _ => absurd k2 hne)
  refine box2 rfl fun w13 h13 b13' z13 => ?_
  have b713 := b10.on b13'
  have hb13 := hb7.on b713
  refine Contains_fn (v := v) (f := f) (hL.below b13') (hV7.below b713) (hf.below hb13) fun w14 b14 => ⟨_, rfl, ?_⟩
  rw [hLc]
  have b714 := b713.on b14
  have hb14 := hb7.on b714
  have hB14 := hB7.below b714
  have hV14 := hV7.below b714
  have hS14 := hS7.below b714
  refine ifB_not (ifB_dec (fun hin => ?_) (fun hin => ?_))
  rotate_left
  · exact bad 2 0 hS14 hb14 (by unfold gnwE; rw [if_neg (fun h => h e'), if_pos hin]) (by decide)
  have hFn := cut_ok k2 f hin
  have hbl := (hf.bk).len
  have hbc := (hf.bk).cap
  have hbmax := (hf.bk).bound
  refine hV14.rS (n := 3) (x := v.2.2.2.1) rfl (ifB_dec (fun hgt => ?_) (fun hle => ?_))
  · refine hV14.drew.rI (n := 1) (x := v.2.1) rfl ?_
    exact bad 4 v.2.1 hS14.drew hb14.drew (by unfold gnwE; rw [if_neg (fun h => h e'), if_neg (fun h => h hin), if_pos (by omega), hf.at_]) (by decide)
  have hle : f.bk.length ≤ 4096 := by omega
  have hpos : 0 < f.bk.length := List.length_pos_iff.2 hFn.ne
  have hgn : gnwE x pl f = (match f.bk.findSome? (blkE pl f.bk) with
      | some a => (140, a)
      | none => (0, 0)) := by unfold gnwE; rw [if_neg (fun h => h e'), if_neg (fun h => h hin), if_neg (by omega)]
  refine Nw.gen fun w19 e19 => ?_
  have m19 : IsMp w19 w14.heap.size .i64 [] := by rw [e19]; exact IsMp.new _ _
  have b19 : Below w14.heap.size w14 w19 := by rw [e19]; exact (Below.refl _ _).alloc (Nat.le_refl _) _
  have z19 : w19.heap.size = w14.heap.size + 1 := by rw [e19]; simp
  clear e19
  have hV19 := hV14.below b19
  refine hV19.rS (n := 3) (x := v.2.2.2.1) rfl ⟨⟨by omega, by omega, by omega⟩, ?_⟩
  obtain ⟨ab, hab⟩ := (hf.bk).base hpos
  have hb19 := hb14.on b19
  refine LoopW.count (f.bk.length - 1) (by omega) (fun k w' => Below w14.heap.size w19 w' ∧ IsMp w' w14.heap.size .i64 (lblN f.bk k)) ⟨Below.refl _ _, m19⟩ ?_
  rintro k w20 hk ⟨f20, m20⟩ next hnext
  have b20 : Below w14.heap.size w14 w20 := b19.trans f20
  have hb20 := hb14.on b20
  have s20 := f20.size
  rw [hbl]
  refine ifB_dec (fun h => ?_) (fun h => ?_)
  · have hlt : k + 1 < f.bk.length := by dsimp only at h; omega
    have hcell := (IsC.below blV_len hf.bk hb20).cell ab hab (k + 1) hlt
    refine ⟨⟨by omega, by omega⟩, ?_⟩
    rw [if_neg (by omega), hab]
    refine derefP_some rfl ?_
    have ec : ∀ j, ((ab.add (1 * 3)).add (Int.toNat (k : Int) * 3)).add j = ab.add ((k + 1) * 3 + j) := fun j => by
      rw [add_add', add_add', show Int.toNat (k : Int) = k from rfl]
      congr 1
      omega
    rw [ec, ec, ec]
    refine ⟨_, hcell 0 (by omega), _, hcell 1 (by omega), _, hcell 2 (by omega), ?_⟩
    refine box3 rfl fun w24 h24 b24 z24 => ?_
    refine h24.rI0 rfl ?_
    rw [wrap64_succ (by omega)]
    refine updW_of uFind uU32 (m20.below b24) fun w25 m25 c25 => ?_
    have hn25 := hnext w25 (by omega)
    rw [wrap64_succ (by omega)] at hn25
    refine hn25 ⟨f20.trans (c25.below (b24.mono (by omega)) (Nat.le_refl _)), ?_⟩
    simp only [lblN]
    rw [getD_lt hlt]
    exact m25
  have hk' : k = f.bk.length - 1 := by dsimp only at h; omega
  subst hk'
  have m20 : IsMp w20 w14.heap.size .i64 (lblM f.bk) := m20
  have hV20 := hV14.below b20
  have hB20 := hB14.below b20
  have hS20 := hS14.below b20
  have lM := m20.lt
  have hN20 := hN.below hb20
  have hbk20 : IsBk w20 v.2.2.2.1 f.bk := IsC.below blV_len hf.bk hb20
  have hl := hN.len
  have h40 := hp.len
  refine hV20.rS (n := 3) (x := v.2.2.2.1) rfl ?_
  rw [hbl]
  refine LoopW.ghost (fun j (st : Sl × Sl × Int × Unit) w' => ∃ (k : Nat) (nx mg : Sl) (hs : List Sl), st = (nx, mg, (k : Int), ()) ∧ j = f.bk.length - k ∧ k ≤ f.bk.length ∧ Below w20.heap.size w20 w' ∧ hs.length = k ∧ Own w' 26 1 nx (hs.map Sl.val) ∧ Fresh w20.heap.size nx ∧
    (∀ i (h : i < hs.length) (h' : i < (rowsP pl f.bk).length), Own w' 3 1 hs[i] ((rowsP pl f.bk)[i].map (Value.int .i64)) ∧ Fresh w20.heap.size hs[i]) ∧ Own w' 121 3 mg (flat mgV ((mgsP pl f.bk).take k)) ∧ Fresh w20.heap.size mg ∧
    ∀ i (h : i < f.bk.length), i < k → blkE pl f.bk f.bk[i] = none) f.bk.length
    ⟨0, ⟨none, 0, 0⟩, ⟨none, 0, 0⟩, [], rfl, rfl, Nat.zero_le _, Below.refl _ _, rfl, Own.nil _ _ _, fun a ha => (by cases ha), fun i h => (by cases h), Own.nil _ _ _, fun a ha => (by cases ha), fun i _ h => by omega⟩ ?_
  clear hnext
  rintro _ _ w26 ⟨k, nx, mg, hs, rfl, rfl, hk, b26, hhl, hnx, hnxF, hrow, hmg, hmgF, hgood⟩ next hnext
  have hb26 := hb20.on b26
  dsimp only
  refine ifB_dec (fun h => ?_) (fun h => ?_)
  · have hkl : k < f.bk.length := by omega
    obtain ⟨fr, to_, hbq, hft, htl, h248, h8f, hend, h8t⟩ := (hFn.ok _ (List.getElem_mem hkl)).ex
    have hto : f.bk[k].2.2 = (to_ : Int) := by rw [hbq]
    have elB : ∀ {φ : Int → Int → Int → Prop}, φ f.bk[k].1 f.bk[k].2.1 f.bk[k].2.2 → (0 ≤ (k : Int) ∧ (k : Int) < ((f.bk.length : Nat) : Int)) ∧ derefP v.2.2.2.1.a fun a => ldI w26 ((a.add (Int.toNat (k : Int) * 3)).add 0) .u32 fun x => ldI w26 ((a.add (Int.toNat (k : Int) * 3)).add 1) .i64 fun y => ldI w26 ((a.add (Int.toNat (k : Int) * 3)).add 2) .i64 fun z => φ x y z := fun hφ => by
      have := elemBk (IsC.below blV_len hbk20 b26) hkl hφ
      rwa [hbl] at this
    refine elB ?_
    refine box3 rfl fun w30 hK30 b30 z30 => ?_
    have hK30 : Blk w30 w26.heap.size 69 (blV f.bk[k]) := hK30
    have b2030 := b26.on b30
    have hB30 := hB20.below b2030
    refine hB30.rS (n := 2) (x := x.2.2.1) rfl (hK30.rI (n := 2) (x := f.bk[k].2.2) rfl ?_)
    rw [hto]
    have et1 : IntKind.i64.wrap ((to_ : Int) - 1) = ((to_ - 1 : Nat) : Int) := by rw [wrap64_in (by omega) (by omega)]; omega
    have et2 : IntKind.i64.wrap ((to_ : Int) - 2) = ((to_ - 2 : Nat) : Int) := by rw [wrap64_in (by omega) (by omega)]; omega
    rw [et1]
    have h1l : to_ - 1 < pl.length := by omega
    have h2l : to_ - 2 < pl.length := by omega
    have ei1 : ix pl (to_ - 1) = pl[to_ - 1] := ix_lt h1l
    have ei2 : ix pl (to_ - 2) = pl[to_ - 2] := ix_lt h2l
    refine elemPI (hN20.below b2030) h1l fun tl htl' => ?_
    refine box4 rfl fun w35 hL35 b35 z35 => ?_
    have hL35 : Blk w35 w30.heap.size 41 (inV (mkIn pl[to_ - 1] tl)) := hL35
    have b2035 := b2030.on b35
    have bd : Below w35.heap.size w35 w35.drew := (Below.refl _ _).drew
    have b2035d := b2035.on bd
    have hMargs := merge_args ((shape_ok hsh).2 (to_ - 2) h2l)
    have hbM : blkM pl f.bk f.bk[k] = mrgP (lblM f.bk) pl[to_ - 2].1 pl[to_ - 2].2.2.2 pl[to_ - 1].1 := by
      unfold blkM
      rw [hto, Int.toNat_natCast, ei1, ei2]
    have hbT : blkT pl f.bk[k] = tgtP pl[to_ - 1].1 pl[to_ - 1].2.2.2 := by
      unfold blkT
      rw [hto, Int.toNat_natCast, ei1]
    have s26 := b26.size
    have s30 := b30.size
    have s35 := b35.size
    refine JoinW.cut (fun (st : (Option Addr) × Bool × Unit) w' => ∃ (mb : Nat) (m : Mg) (ok : Bool), st = (some (blk mb), ok, ()) ∧ Blk w' mb 121 (mgV m) ∧ Below w35.heap.size w35 w' ∧ (ok = true → blkM pl f.bk f.bk[k] = some m) ∧ (ok = false → blkM pl f.bk f.bk[k] = none)) ?_ ?_
    · refine (hB30.below b35).drew.rS (n := 2) (x := x.2.2.1) rfl ((hK30.below b35).drew.rI (n := 2) (x := f.bk[k].2.2) rfl ?_)
      rw [hto, et2]
      refine elemPc ((hN20.below b2035d)) h2l fun aM ti hcM hti => ?_
      refine Ins.load (x := mkIn pl[to_ - 1] tl) hL35.drew ⟨?_, ?_⟩
      · refine merge_spec (i := mkIn pl[to_ - 2] ti) (last := mkIn pl[to_ - 1] tl) (m20.below b2035d) hti hMargs.1 hMargs.2 fun m b w36 b36 hm1 hm2 => ⟨(m.1, m.2.1, m.2.2, ()), b, rfl, ?_⟩
        refine box3 rfl fun w40 hX40 b40 z40 => ?_
        exact ⟨w36.heap.size, m, b, rfl, hX40, (bd.on b36).on b40, fun hb => by rw [hbM]; exact hm1 hb, fun hb => by rw [hbM]; exact hm2 hb⟩
      · refine lay_of fun w41 hX41 b41 z41 => ?_
        have hX41 : Blk w41 w35.drew.heap.size 121 [.int .u8 0, .int .i64 0, .int .i64 0] := hX41
        have hL41 := hL35.drew.below b41
        have hK41 := ((hK30.below b35).drew).below b41
        have hB41 := ((hB30.below b35).drew).below b41
        have hcM41 : ∀ j vv, (inV (mkIn pl[to_ - 2] ti))[j]? = some vv → j < 4 → w41.cell? ((aM.add (Int.toNat ((to_ - 2 : Nat) : Int) * 4)).add j) = some vv := fun j vv hv hj => cell_keep b41 ((hcM j hj).trans hv)
        refine ⟨hL41.cell (n := 0) rfl, hL41.cell (n := 1) rfl, hL41.cell (n := 2) rfl, hL41.cell (n := 3) rfl, hcM41 0 _ rfl (by omega), hcM41 1 _ rfl (by omega), hcM41 2 _ rfl (by omega), hcM41 3 _ rfl (by omega), ?_, hB41.cell (n := 2) rfl, ?_⟩
        · rw [← hto]
          exact hK41.cell (n := 2) rfl
        refine merge_spec (i := mkIn pl[to_ - 2] ti) (last := mkIn pl[to_ - 1] tl) ((m20.below b2035d).below b41) (IsAg.below hti b41) hMargs.1 hMargs.2 fun m b w42 b42 hm1 hm2 => ⟨(m.1, m.2.1, m.2.2, ()), b, rfl, ?_⟩
        have b4142 := b41.on b42
        refine st3 (hX41.below b42) rfl fun w45 hX45 c45 => ?_
        exact ⟨w35.drew.heap.size, m, b, rfl, hX45, c45.below (bd.on b4142) (Nat.le_refl _), fun hb => by rw [hbM]; exact hm1 hb, fun hb => by rw [hbM]; exact hm2 hb⟩
    rintro _ w46 ⟨mb, m, ok, rfl, hX46, b46, hm1, hm2⟩
    have b2046 := b2035.on b46
    have b2646 := (b30.on b35).on b46
    have hb46 := hb20.on b2046
    have hK46 := (hK30.below b35).below b46
    have hS46 := hS20.below b2046
    dsimp only
    refine ifB_not (ifB_bool (fun hokt => ?_) (fun hokf => ?_))
    rotate_left
    · have hnone := hm2 hokf
      have hE : blkE pl f.bk f.bk[k] = some ((to_ : Int) - 2) := by unfold blkE; rw [hnone, hto]
      refine hK46.drew.rI (n := 2) (x := f.bk[k].2.2) rfl ?_
      rw [hto, et2]
      refine bad 140 ((to_ - 2 : Nat) : Int) hS46.drew hb46.drew ?_ (by decide)
      rw [hgn, findSome_first hkl hE fun j h1 h2 => hgood j h1 h2]
      dsimp only
      congr 1
      omega
    have hsome := hm1 hokt
    have hL46 := hL35.below b46
    have hal24 := hp.args _ (List.getElem_mem h1l)
    refine Ins.load (x := mkIn pl[to_ - 1] tl) hL46 ?_
    refine Targets_spec (x := mkIn pl[to_ - 1] tl) ((IsAg.below htl' b35).below b46) hal24 fun tg w49 htg htgF b49 => ⟨tg, rfl, ?_⟩
    have htg : Own w49 22 1 tg ((tgtP pl[to_ - 1].1 pl[to_ - 1].2.2.2).map (Value.int .u32)) := htg
    have hlenT := tgtP_len pl[to_ - 1].1 pl[to_ - 1].2.2.2
    have b2049 := b2046.on b49
    refine all_find (M := lblM f.bk) (m20.below b2049) htg.isS (by omega) (fun t w50 hall hO50 hF50 b50 => ⟨t, true, rfl, ifB_false rfl ?_⟩) (fun w50 hnone b50 => ⟨⟨none, 0, 0⟩, false, rfl, ifB_true rfl ?_⟩)
    rotate_left
    · have b4650 := b49.on b50
      have hE : blkE pl f.bk f.bk[k] = some ((to_ : Int) - 1) := by unfold blkE; rw [hsome, hbT, fndP_none hnone, hto]
      refine (hK46.below b4650).drew.rI (n := 2) (x := f.bk[k].2.2) rfl ?_
      rw [hto, et1]
      refine bad 140 ((to_ - 1 : Nat) : Int) (hS46.below b4650).drew (hb46.on b4650).drew ?_ (by decide)
      rw [hgn, findSome_first hkl hE fun j h1 h2 => hgood j h1 h2]
      dsimp only
      congr 1
      omega
    have b4650 := b49.on b50
    have hX50 := hX46.below b4650
    have hE : blkE pl f.bk f.bk[k] = none := by unfold blkE; rw [hsome, hbT, fndP_some hall]
    refine derefP_some rfl ?_
    refine hX50.rI (n := 0) (x := m.1) rfl (hX50.rI (n := 1) (x := m.2.1) rfl (hX50.rI (n := 2) (x := m.2.2) rfl ?_))
    refine lay_of fun w53 hY53 b53 z53 => ?_
    have hY53 : Blk w53 w50.heap.size 121 (mgV m) := hY53
    have b2653 := (b2646.on b4650).on b53
    have b2053 := b26.on b2653
    have hmgl : mg.l = k := by
      have := hmg.1
      rw [flat_length mgV_len, List.length_take] at this
      unfold mgsP at this
      rw [List.length_map] at this
      omega
    refine push_keep (w0 := w20) eMg (hmg.below b2653) b2053 hmgF rfl (by simp [Value.oneCell']) hY53 (by omega) (by omega) fun mg' w54 q1 q2 q3 q4 q5 => ?_
    refine lay_of fun w55 hZ55 b55 z55 => ?_
    have hZ55 : Blk w55 w54.heap.size 26 [Sl.val t] := hZ55
    have hnx54 : Own w54 26 1 nx (hs.map Sl.val) := (hnx.below b2653).of_block fun a ha => q5 _ ((hnx.below b2653).lt ha).2 (own_notOwn (hmg.below b2653) (hnx.below b2653) (by decide) ha)
    have ht53 := hO50.below b53
    have ht54 : Own w54 3 1 t _ := ht53.of_block fun a ha => q5 _ (ht53.lt ha).2 (own_notOwn (hmg.below b2653) ht53 (by decide) ha)
    have hnxl : nx.l = k := by
      have := hnx.1
      rw [List.length_map] at this
      omega
    have q2' := q2.on b55
    refine push_keep (w0 := w20) eRow (hnx54.below b55) q2' hnxF rfl (by simp [Value.oneCell', Sl.val]) hZ55 (by omega) (by omega) fun nx' w56 u1 u2 u3 u4 u5 => ?_
    have hnx55 := hnx54.below b55
    rw [wrap64_succ (by omega)]
    refine hnext (f.bk.length - (k + 1)) _ _ (by omega) ⟨k + 1, nx', mg', hs ++ [t], rfl, rfl, hkl, u2, by simp [hhl], ?_, u3, fun i h1 h2 => ?_, ?_, q3, fun i h1 h2 => ?_⟩
    · rw [List.map_append]
      exact u1
    · have keepI : ∀ {s : Sl} {xs : List Value}, Own w53 3 1 s xs → Own w56 3 1 s xs := fun {s xs} ho => by
        have ho54 : Own w54 3 1 s xs := ho.of_block fun a ha => q5 _ (ho.lt ha).2 (own_notOwn (hmg.below b2653) ho (by decide) ha)
        have ho55 := ho54.below b55
        exact ho55.of_block fun a ha => u5 _ (ho55.lt ha).2 (own_notOwn hnx55 ho55 (by decide) ha)
      by_cases e : i < hs.length
      · rw [List.getElem_append_left e]
        obtain ⟨g1, g2⟩ := hrow i e h2
        exact ⟨keepI (g1.below b2653), g2⟩
      · have ei : i = k := by simp at h1; omega
        subst ei
        have er : (hs ++ [t])[i]'h1 = t := by rw [List.getElem_append_right (by omega)]; simp [hhl]
        rw [er]
        refine ⟨?_, fun a ha => by have := hF50 a ha; have := b2049.size; omega⟩
        have : (rowsP pl f.bk)[i] = (tgtP pl[to_ - 1].1 pl[to_ - 1].2.2.2).map fun n => (lookL (lblM f.bk) n).getD 0 := by
          refine (List.getElem_map (fun b => (fndP (lblM f.bk) (blkT pl b)).getD [])).trans ?_
          rw [hbT, fndP_some hall]
          rfl
        rw [this]
        exact keepI ht53
    · have hmk : (mgsP pl f.bk).take (k + 1) = (mgsP pl f.bk).take k ++ [m] := by
        have hlm : k < (mgsP pl f.bk).length := by unfold mgsP; rw [List.length_map]; exact hkl
        rw [List.take_succ_eq_append_getElem hlm]
        congr 2
        refine (List.getElem_map (fun b => (blkM pl f.bk b).getD (0, -1, -1))).trans ?_
        rw [hsome]
        rfl
      rw [hmk, flat_snoc]
      have q1' := q1.below b55
      exact q1'.of_block fun a ha => u5 _ (q1'.lt ha).2 (own_notOwn hnx55 q1' (by decide) ha)
    · by_cases e : i = k
      · subst e; exact hE
      · exact hgood i h1 (by omega)
  · have hkk : k = f.bk.length := by omega
    subst hkk
    have hrl : (rowsP pl f.bk).length = f.bk.length := by unfold rowsP; rw [List.length_map]
    have hml : (mgsP pl f.bk).length = f.bk.length := by unfold mgsP; rw [List.length_map]
    have hg0 : gnwE x pl f = (0, 0) := by rw [hgn, findSome_no fun j hj => hgood j hj hj]
    rw [← hml, List.take_length] at hmg
    have hII : IsII w26 nx hs (rowsP pl f.bk) := ⟨hnx.isS, by rw [hhl, hrl], fun i h1 h2 => (hrow i h1 h2).1.isS⟩
    have hGood : Good (rowsP pl f.bk) := by
      intro l hl' y hy
      obtain ⟨b, hb, rfl⟩ := List.mem_map.1 hl'
      cases hfd : fndP (lblM f.bk) (blkT pl b) with
      | none => rw [hfd] at hy; cases hy
      | some l =>
        rw [hfd] at hy
        unfold fndP at hfd
        split at hfd
        · rename_i hall
          cases hfd
          obtain ⟨n, hn, rfl⟩ := List.mem_map.1 hy
          have hs1 := List.all_eq_true.1 hall n hn
          obtain ⟨u, hu⟩ := Option.isSome_iff_exists.1 hs1
          rw [hu, Option.getD_some]
          have := lblN_val f.bk _ n u hu
          rw [hrl]
          omega
        · cases hfd
    refine graph_Of_spec hII (fun h => by rw [hrl] at h; omega) (fun h => by rw [hrl] at h; omega) (fun _ _ hng => absurd hGood hng) fun q1 q2 q3 w57 gb b57 hG _ => ⟨some (blk gb), 0, rfl, ?_⟩
    have b2057 := b26.on b57
    refine st2 (hS20.below b2057) rfl fun w59 hS59 c59 => Sp.load hS59 ?_
    have hb57 := hb20.on b2057
    have hM57 := hmg.below b57
    refine hok w59 gb mg (c59.below hb57 (by omega)) hg0 hin ?_ (edges_ok q1 q2 q3) ?_
    · exact (hG.keep fun k k1 _ => c59.block k (by have := b26.size; have := hS20.lt; omega)).isG
    · exact Own.isC mgV_len (by omega) (hM57.of_block fun a ha => c59.block _ fun e => by
        obtain ⟨cs, hc⟩ := hM57.type ha
        exact Blk.apart hc (hS20.below b2057) (by decide) e)
end
end Go.Proofs
namespace Go.Proofs
open Go.Gk Go.RowKit Go.Gm

theorem lbl_some {bk : List (Int × Int × Int)} (hd : (bk.map (·.1)).Nodup) {i : Nat} (h1 : 1 ≤ i) (hi : i < bk.length) : ∀ k, i ≤ k → k < bk.length → lookL (lblN bk k) (bk[i]).1 = some (i : Int)
  | 0, h, _ => by omega
  | k + 1, h, hk => by
    simp only [lblN]
    rw [lookL_set, getD_lt hk]
    by_cases e : i = k + 1
    · subst e
      rw [if_pos rfl]
      rfl
    · rw [if_neg fun q => e ?_]
      · exact lbl_some hd h1 hi k (by omega) (by omega)
      · have := List.pairwise_iff_getElem.1 (List.nodup_iff_pairwise_ne.1 hd) i (k + 1) (by rwa [List.length_map]) (by rwa [List.length_map]) (by omega)
        simp only [List.getElem_map] at this
        exact (this q).elim
theorem lbl_none {bk : List (Int × Int × Int)} {n : Int} : ∀ k, k < bk.length → (∀ i (h : i < bk.length), 1 ≤ i → i ≤ k → bk[i].1 ≠ n) → lookL (lblN bk k) n = none
  | 0, _, _ => rfl
  | k + 1, hk, h => by
    simp only [lblN]
    rw [lookL_set, getD_lt hk, if_neg (fun e => h (k + 1) hk (by omega) (Nat.le_refl _) e.symm)]
    exact lbl_none k (by omega) fun i h1 h2 h3 => h i h1 h2 (by omega)
/-- The number of a function's block of a label; -1: none, or the first one. -/
def lblI (bk : List (Int × Int × Int)) (n : Int) : Int := (lookL (lblM bk) n).getD (-1)
theorem label_must : (match frm 248 with | some f => f.re | none => false) = true := by decide +kernel
theorem label_ne {bd : Int} {pl : List PI} (hs : (shapeP bd pl).1 = 0) {k : Nat} (hk : k < pl.length) (h : (ix pl k).1 = 248) : (ix pl k).2.2.1 ≠ 0 := by
  have hf := (shape_ok hs).2 k hk
  rw [ix_lt hk] at h ⊢
  obtain ⟨f, hf, _, h2, _⟩ := fault_all hf
  have h1 := label_must
  rw [h] at hf
  rw [hf] at h1
  have h1 : f.re = true := h1
  rw [h1] at h2
  intro e
  rw [e] at h2
  simp [idP] at h2
theorem BkOk.label {pl : List PI} {n : Nat} {b : Int × Int × Int} (h : BkOk pl n b) : ∃ f : Nat, b.1 = (ix pl f).2.2.1 ∧ b.2.1 = (f : Int) ∧ f < n ∧ (ix pl f).1 = 248 := by
  obtain ⟨f, t, rfl, h2, h3, h4, _⟩ := h.ex
  exact ⟨f, rfl, rfl, by omega, h4⟩
theorem labels_nodup {bd : Int} {pl : List PI} (hp : PlOk pl) (h0 : 0 ≤ bd) (h : (chk9P bd pl).1 = 0) {f : FnL} (hf : FnOk pl pl.length f) : (f.bk.map (·.1)).Nodup := by
  have hw := Whole9.of hp h0 h
  rw [List.nodup_iff_pairwise_ne, List.pairwise_map, List.pairwise_iff_getElem]
  intro i j hi hj hij e
  have hlt := List.pairwise_iff_getElem.1 hf.lt i j hi hj hij
  obtain ⟨a, a1, a2, a3, a4⟩ := (hf.ok _ (List.getElem_mem hi)).label
  obtain ⟨b, b1, b2, b3, b4⟩ := (hf.ok _ (List.getElem_mem hj)).label
  rw [a2, b2] at hlt
  rw [a1, b1] at e
  exact hw.new b b3 (label_ne hw.shape b3 b4) a (by omega) a3 e
end Go.Proofs
namespace Go.Proofs
open Go.Gk Go.RowKit Go.Gm

end Go.Proofs
namespace Go.Proofs
open Go.Gk Go.RowKit Go.Gm

theorem flat_set {α : Type} {f : α → List Value} {sz : Nat} (hf : ∀ x, (f x).length = sz) {v : Value} {y : α} {j : Nat} (hj : j < sz) : ∀ (l : List α) (i : Nat) (h : i < l.length), (f l[i]).set j v = f y → (flat f l).set (i * sz + j) v = flat f (l.set i y)
  | a :: l, 0, _, e => by
    have e : (f a).set j v = f y := e
    simp only [flat, List.flatMap_cons, List.set_cons_zero, Nat.zero_mul, Nat.zero_add]
    rw [List.set_append_left _ _ (by rw [hf]; exact hj), e]
  | a :: l, i + 1, h, e => by
    have h' : i < l.length := by simpa using h
    have ih := flat_set hf hj l i h' e
    simp only [flat, List.flatMap_cons, List.set_cons_succ] at ih ⊢
    rw [List.set_append_right _ _ (by rw [hf, Nat.succ_mul]; omega), hf, ← ih]
    congr 2
    rw [Nat.succ_mul]
    omega
theorem _root_.Go.Gk.Own.setC {α : Type} {f : α → List Value} {sz : Nat} (hf : ∀ x, (f x).length = sz) {w : World} {T : TypeId} {q : Sl} {b : Nat} {l : List α} (h : Own w T sz q (flat f l)) (ha : q.a = some (blk b)) {i j : Nat} (hi : i < l.length) (hj : j < sz) {v : Value} {y : α} (hv : (f l[i]).set j v = f y) :
    Wr w ((blk b).add (i * sz + j)) ∧ Own (w.setCell ((blk b).add (i * sz + j)) v) T sz q (flat f (l.set i y)) := by
  obtain ⟨h1, h2⟩ := h
  rw [flat_length hf] at h1
  rcases h2 with rfl | ⟨b', cs, e, hB, h3, h4, h5, h6⟩
  · cases ha
  · rw [ha] at e
    have e : b = b' := by injection e with e; injection e
    subst e
    have h7 : i * sz + j < l.length * sz := by
      have : (i + 1) * sz ≤ l.length * sz := Nat.mul_le_mul_right _ hi
      rw [Nat.succ_mul] at this
      omega
    refine ⟨hB.wr ?_, by rw [flat_length hf, List.length_set]; exact h1, .inr ⟨b, _, ha, hB.set _ _, h3, h4, by rw [List.length_set]; exact h5, ?_⟩⟩
    · have : q.l * sz ≤ q.c * sz := Nat.mul_le_mul_right _ h3
      omega
    · rw [List.take_set, h6, flat_set hf hj l i hi hv]
theorem _root_.Go.Gk.Own.a_of {w : World} {T : TypeId} {sz : Nat} {q : Sl} {xs : List Value} (h : Own w T sz q xs) (h0 : xs ≠ []) : ∃ b, q.a = some (blk b) := by
  obtain ⟨h1, h2⟩ := h
  rcases h2 with rfl | ⟨b', cs, e, _⟩
  · exact absurd (List.length_eq_zero_iff.1 (by rw [h1]; simp)) h0
  · exact ⟨b', e⟩
theorem totP_ge {bd : Int} {pl : List PI} (h : (shapeP bd pl).1 = 0) : ∀ k, k ≤ pl.length → k ≤ totP pl k
  | 0, _ => Nat.zero_le _
  | k + 1, hk => by
    have ih := totP_ge h k (by omega)
    rw [totP_succ (by omega)]
    have hf := (shape_ok h).2 k (by omega)
    obtain ⟨f, hf, _⟩ := fault_all hf
    have : 1 ≤ roomI pl[k] := by
      unfold roomI
      rw [hf]
      unfold roomP
      dsimp only
      omega
    omega
theorem len_le {bd : Int} {pl : List PI} (h : (shapeP bd pl).1 = 0) : pl.length ≤ 1048576 := Nat.le_trans (totP_ge h _ (Nat.le_refl _)) (tot_le h)
theorem part_of {p : PI} (h : partO p.1 = 8) : partP p = 8 := by
  unfold partP
  split
  · rfl
  · exact h
/-- The last function where an instruction stands that belongs to one. -/
theorem cut_last {pl : List PI} (hg : GoodL pl pl.length) {n : Nat} (hn : n < pl.length) (h : (ix pl n).1 = 55 ∨ (ix pl n).1 = 56 ∨ (ix pl n).1 = 248 ∨ endsP (ix pl n).1 = true) :
    ∃ l f, cutF pl n = l ++ [f] ∧ (endsP (ix pl n).1 = true → f.bk ≠ []) := by
  have h8 : partP (ix pl n) = 8 := by
    refine part_of ?_
    obtain ⟨p1, p2, p3, p4, p5, p6, p7, p8, p9, p10, p11⟩ := parts8
    rcases h with e | e | e | e
    · rw [e]; exact p2
    · rw [e]; exact p3
    · rw [e]; exact p4
    · have := ends_cases e
      have : (ix pl n).1 = 249 ∨ (ix pl n).1 = 250 ∨ (ix pl n).1 = 251 ∨ (ix pl n).1 = 252 ∨ (ix pl n).1 = 253 ∨ (ix pl n).1 = 254 ∨ (ix pl n).1 = 255 := by omega
      rcases this with e | e | e | e | e | e | e <;> rw [e] <;> assumption
  have ho := may_op (hg n hn) h8
  obtain ⟨done, last, hc, hd, hl⟩ := cut_inv hg n (by omega)
  generalize aheadP pl n = ah at ho hl
  generalize firstP pl (n - 1) = fi at ho
  rcases h with e | e | e | e
  · rw [e] at ho ⊢
    have ho : (ah == 54 || ah == 55) = true := ho
    have ho : ah = 54 ∨ ah = 55 := by simpa using ho
    cases hl with
    | out h => omega
    | head f h hb => exact ⟨done, f, hc, fun q => by cases q⟩
    | shut f h hf => have := ends_cases h; omega
    | open_ f bs k h _ _ _ _ _ _ _ => exact absurd (ho.elim (fun e => .inr (.inl e)) fun e => .inr (.inr (.inl e))) h
  · rw [e] at ho ⊢
    have ho : endsP ah = true := ho
    cases hl with
    | out h => have := ends_cases ho; omega
    | head f h hb => have := ends_cases ho; omega
    | shut f h hf => exact ⟨done, f, hc, fun q => by cases q⟩
    | open_ f bs k h _ _ _ _ _ _ _ => exact absurd (.inr (.inr (.inr (.inr ho)))) h
  · rw [e] at ho ⊢
    have ho : (ah == 54 || ah == 55 || endsP ah) = true := ho
    cases hl with
    | out h => rcases h with rfl | rfl <;> cases ho
    | head f h hb => exact ⟨done, f, hc, fun q => by cases q⟩
    | shut f h hf => exact ⟨done, f, hc, fun q => by cases q⟩
    | open_ f bs k h _ _ _ _ _ _ _ => exact ⟨done, f, hc, fun q => by cases q⟩
  · have hr := ends_cases e
    have hin : ¬ (ah = 0 ∨ ah = 54 ∨ ah = 55 ∨ ah = 56 ∨ endsP ah = true) := fun hin => by
      unfold opMay at ho
      rw [if_neg (by omega), if_neg (by omega), if_neg (by omega), if_neg (by omega), if_pos hin] at ho
      cases ho
    cases hl with
    | out h => exact absurd (h.elim .inl fun e => .inr (.inr (.inr (.inl e)))) hin
    | head f h hb => exact absurd (h.elim (fun e => .inr (.inl e)) fun e => .inr (.inr (.inl e))) hin
    | shut f h hf => exact absurd (.inr (.inr (.inr (.inr h)))) hin
    | open_ f bs k h hb _ _ _ _ _ _ => exact ⟨done, f, hc, fun _ => by rw [hb]; simp⟩

structure DCt (w0 w : World) (s : Sl) (L : List Fe) : Prop where
  b : Below w0.heap.size w0 w
  fns : Fns w s L
  fs : Fresh w0.heap.size s
  fr : ∀ x ∈ L, Fresh w0.heap.size x.2.1 ∧ Fresh w0.heap.size x.2.2
  ap : L.Pairwise fun x y => (∀ a, x.2.1.a = some a → y.2.1.a ≠ some a) ∧ (∀ a, x.2.2.a = some a → y.2.2.a ≠ some a)
section
variable {w0 w w' : World} {s : Sl} {L : List Fe} {x : Fe} {pl : List PI}
theorem DCt.below (h : DCt w0 w s L) (hb : Below w.heap.size w w') : DCt w0 w' s L := ⟨h.b.on hb, h.fns.below hb, h.fs, h.fr, h.ap⟩
abbrev KeepX (w w' : World) : Prop := ∀ i cs, Blk w i 41 cs → Blk w' i 41 cs
theorem DCt.newF (h : DCt w0 w s L) (hl : L.length ≤ 1048576) {id at_ : Int} {K : Sl → World → Prop}
    (hK : ∀ r w', DCt w0 w' r (L ++ [((⟨id, at_, 0, [], []⟩ : FnL), ⟨none, 0, 0⟩, ⟨none, 0, 0⟩)]) → KeepX w w' → K r w') :
    Nw (w.alloc (.cells #[(.int .u32 id), (.int .i64 at_), (.slice none 0 0), (.slice none 0 0), (.int .i64 (0 : Int))] 29)) fun w15 => appendS Tryz.prog 30 (.slice s.a s.l s.c) (.slice (some (blk w.heap.size)) 1 1) w15 K := by
  refine lay_of fun w1 hB1 b1 z1 => ?_
  have hsl := h.fns.len
  have h1 := h.below b1
  refine push_keep (w0 := w0) eFun h1.fns.own h1.b h1.fs (vs := [.int .u32 id, .int .i64 at_, .slice none 0 0, .slice none 0 0, .int .i64 0]) rfl (by simp [Value.oneCell']) hB1 (by omega) (by omega) fun r w2 q1 q2 q3 q4 q5 => hK r w2 ⟨q2, ⟨?_, fun y hy => ?_⟩, q3, fun y hy => ?_, ?_⟩ ?_
  · rw [flat_snoc]; exact q1
  · rcases List.mem_append.1 hy with hy | hy
    · obtain ⟨g1, g2⟩ := h1.fns.row y hy
      exact ⟨g1.of_block fun a ha => q5 _ (g1.lt ha).2 (own_notOwn h1.fns.own g1 (by decide) ha), g2.of_block fun a ha => q5 _ (g2.lt ha).2 (own_notOwn h1.fns.own g2 (by decide) ha)⟩
    · rw [List.mem_singleton.1 hy]
      exact ⟨Own.nil _ _ _, Own.nil _ _ _⟩
  · rcases List.mem_append.1 hy with hy | hy
    · exact h.fr y hy
    · rw [List.mem_singleton.1 hy]
      exact ⟨fun a ha => (by cases ha), fun a ha => (by cases ha)⟩
  · exact pairwise_snoc h.ap fun y _ => ⟨fun a _ q => (by cases q), fun a _ q => (by cases q)⟩
  · intro i cs hi
    have hi1 := hi.below b1
    exact hi1.of_block (q5 _ hi1.lt fun e => own_notBlk h1.fns.own hi1 (by decide) e)
theorem DCt.len {L0 : List Fe} (h : DCt w0 w s (L0 ++ [x])) : s.l = L0.length + 1 := by have := h.fns.len; rw [List.length_append] at this; simp at this; omega
theorem DCt.base {L0 : List Fe} (h : DCt w0 w s (L0 ++ [x])) : ∃ b cs, s.a = some (Gk.blk b) ∧ Blk w b 29 cs ∧ w0.heap.size ≤ b := by
  obtain ⟨b, hb⟩ := h.fns.own.a_of (by simp)
  obtain ⟨cs, hB⟩ := h.fns.own.type hb
  exact ⟨b, cs, hb, hB, h.fs _ hb⟩
theorem DCt.cell {L0 : List Fe} (h : DCt w0 w s (L0 ++ [x])) {b : Nat} (hb : s.a = some (Gk.blk b)) {j : Nat} {v : Value} (hj : j < 5) (hv : (feV x)[j]? = some v) : w.cell? (((Gk.blk b).add (Int.toNat (L0.length : Int) * 5)).add j) = some v := by
  have hc : IsC 5 feV w s (L0 ++ [x]) := Own.isC feV_len (by omega) h.fns.own
  have := hc.cell _ hb L0.length (by simp) j hj
  rw [List.getElem_concat_length rfl] at this
  rw [add_add']
  exact this.trans hv
theorem DCt.inLast {L0 : List Fe} (h : DCt w0 w s (L0 ++ [x])) : 0 ≤ (L0.length : Int) ∧ (L0.length : Int) < (s.l : Int) := by have := h.len; omega
/-- The last function again, after the fields of others stay as they were. -/
theorem DCt.upd {L0 : List Fe} {y : Fe} (h : DCt w0 w s (L0 ++ [x])) {w1 : World} (hb1 : Below w0.heap.size w0 w1) (hO : Own w1 29 5 s (flat feV (L0 ++ [x])))
    (hrow : ∀ z ∈ L0 ++ [y], Own w1 3 1 z.2.1 (z.1.ps.map (Value.int .i64)) ∧ Own w1 69 3 z.2.2 (flat blV z.1.bk))
    (hfr : Fresh w0.heap.size y.2.1 ∧ Fresh w0.heap.size y.2.2) (hap : ∀ z ∈ L0, (∀ a, z.2.1.a = some a → y.2.1.a ≠ some a) ∧ (∀ a, z.2.2.a = some a → y.2.2.a ≠ some a))
    {j : Nat} (hj : j < 5) {v : Value} (hv : (feV x).set j v = feV y) {K : World → Prop} (hK : ∀ w', DCt w0 w' s (L0 ++ [y]) → KeepX w1 w' → K w') :
    (0 ≤ (L0.length : Int) ∧ (L0.length : Int) < (s.l : Int)) ∧ derefP s.a fun a => Wr w1 ((a.add (Int.toNat (L0.length : Int) * 5)).add j) ∧ Nw (w1.setCell ((a.add (Int.toNat (L0.length : Int) * 5)).add j) v) K := by
  obtain ⟨b, _, hb, _, hge⟩ := h.base
  obtain ⟨cs, hB⟩ := hO.type hb
  have hB : Blk w1 b 29 cs := hB
  have hi : L0.length < (L0 ++ [x]).length := by simp
  have hv' : (feV (L0 ++ [x])[L0.length]).set j v = feV y := by rw [List.getElem_concat_length rfl]; exact hv
  obtain ⟨h1, h2⟩ := hO.setC feV_len hb hi hj hv'
  rw [List.set_append_right _ _ (Nat.le_refl _), Nat.sub_self] at h2
  have c : Chg b w1 (w1.setCell ((Gk.blk b).add (L0.length * 5 + j)) v) := Chg.set b _ w1 v
  refine ⟨h.inLast, derefP_some hb ?_⟩
  rw [add_add', show Int.toNat (L0.length : Int) = L0.length from rfl]
  refine ⟨h1, hK _ ⟨c.below hb1 hge, ⟨h2, fun z hz => ?_⟩, h.fs, fun z hz => ?_, ?_⟩ fun i cs' hi' => hi'.of_block (c.block _ fun e => by subst e; exact Blk.apart hi' hB (by decide) rfl)⟩
  · obtain ⟨g1, g2⟩ := hrow z hz
    exact ⟨g1.of_block fun a ha => c.block _ fun e => (by subst e; obtain ⟨_, q⟩ := g1.type ha; exact Blk.apart q hB (by decide) rfl), g2.of_block fun a ha => c.block _ fun e => (by subst e; obtain ⟨_, q⟩ := g2.type ha; exact Blk.apart q hB (by decide) rfl)⟩
  · rcases List.mem_append.1 hz with hz | hz
    · exact h.fr z (List.mem_append.2 (.inl hz))
    · rw [List.mem_singleton.1 hz]; exact hfr
  · exact pairwise_snoc (List.pairwise_append.1 h.ap).1 hap
theorem DCt.pushP {L0 : List Fe} (h : DCt w0 w s (L0 ++ [x])) {b c : Nat} {T : TypeId} {v : Int} (hB : Blk w b T [.int .i64 v]) (hlen : x.1.ps.length ≤ 1048576) {K : World → Prop}
    (hK : ∀ w' r, DCt w0 w' s (L0 ++ [(({ x.1 with ps := x.1.ps ++ [v] } : FnL), r, x.2.2)]) → KeepX w w' → K w') :
    appendS Tryz.prog 26 (.slice x.2.1.a x.2.1.l x.2.1.c) (.slice (some (Gk.blk b)) 1 c) w fun r w1 => (0 ≤ (L0.length : Int) ∧ (L0.length : Int) < (s.l : Int)) ∧ derefP s.a fun a => Wr w1 ((a.add (Int.toNat (L0.length : Int) * 5)).add 2) ∧ Nw (w1.setCell ((a.add (Int.toNat (L0.length : Int) * 5)).add 2) (.slice r.a r.l r.c)) K := by
  have hx : x ∈ L0 ++ [x] := by simp
  obtain ⟨o1, o2⟩ := h.fns.row x hx
  obtain ⟨f1, f2⟩ := h.fr x hx
  have hap := (List.pairwise_append.1 h.ap).2.2
  have hsl : x.2.1.l = x.1.ps.length := by have := o1.1; rw [List.length_map] at this; omega
  have hb0 := h.b.size
  refine push_fr eInt o1 (vs := [.int .i64 v]) rfl (by simp [Value.oneCell']) hB (by omega) (by omega) fun r w1 b' q1 q2 q3 q4 q5 => ?_
  have hX : ∀ k, x.2.1.a = some (Gk.blk k) → w0.heap.size ≤ k := fun k e => f1 _ e
  refine h.upd (y := (({ x.1 with ps := x.1.ps ++ [v] } : FnL), r, x.2.2)) (q5.low h.b hX hb0) (q5.own h.fns.own fun b e X => own_apart2 h.fns.own o1 (by decide) e X) (fun z hz => ?_) ⟨fun a ha => ?_, f2⟩ (fun z hz => ⟨fun a ha e => ?_, (hap z hz x (by simp)).2⟩) (j := 2) (by omega) rfl fun w2 hR hk => hK w2 r hR fun i cs hi => hk i cs (hi.of_block (q5.block i hi.lt fun X => own_notBlk o1 hi (by decide) X))
  · rcases List.mem_append.1 hz with hz | hz
    · obtain ⟨g1, g2⟩ := h.fns.row z (List.mem_append.2 (.inl hz))
      exact ⟨q5.own g1 fun b e X => (hap z hz x (by simp)).1 _ e X, q5.own g2 fun b e X => own_apart2 g2 o1 (by decide) e X⟩
    · rw [List.mem_singleton.1 hz]
      refine ⟨?_, q5.own o2 fun b e X => own_apart2 o2 o1 (by decide) e X⟩
      show Own w1 3 1 r ((x.1.ps ++ [v]).map (Value.int .i64))
      rw [List.map_append]
      exact q1
  · have ha : r.a = some a := ha
    rw [q3] at ha
    cases ha
    rcases q4 with q4 | q4
    · exact f1 _ q4
    · show w0.heap.size ≤ b'; omega
  · have e : r.a = some a := e
    rw [q3] at e
    cases e
    rcases q4 with q4 | q4
    · exact (hap z hz x (by simp)).1 _ ha q4
    · have := ((h.fns.row z (List.mem_append.2 (.inl hz))).1.lt ha).2
      have : b' < w.heap.size := this
      omega
theorem DCt.pushB {L0 : List Fe} (h : DCt w0 w s (L0 ++ [x])) {b c : Nat} {T : TypeId} {v : Int × Int × Int} (hB : Blk w b T (blV v)) (hlen : x.1.bk.length ≤ 1048576) {K : World → Prop}
    (hK : ∀ w' r, DCt w0 w' s (L0 ++ [(({ x.1 with bk := x.1.bk ++ [v] } : FnL), x.2.1, r)]) → KeepX w w' → K w') :
    appendS Tryz.prog 27 (.slice x.2.2.a x.2.2.l x.2.2.c) (.slice (some (Gk.blk b)) 1 c) w fun r w1 => (0 ≤ (L0.length : Int) ∧ (L0.length : Int) < (s.l : Int)) ∧ derefP s.a fun a => Wr w1 ((a.add (Int.toNat (L0.length : Int) * 5)).add 3) ∧ Nw (w1.setCell ((a.add (Int.toNat (L0.length : Int) * 5)).add 3) (.slice r.a r.l r.c)) K := by
  have hx : x ∈ L0 ++ [x] := by simp
  obtain ⟨o1, o2⟩ := h.fns.row x hx
  obtain ⟨f1, f2⟩ := h.fr x hx
  have hap := (List.pairwise_append.1 h.ap).2.2
  have hsl : x.2.2.l = x.1.bk.length := by have := o2.1; rw [flat_length blV_len] at this; omega
  have hb0 := h.b.size
  refine push_fr eBlk o2 (vs := blV v) rfl (by simp [Value.oneCell']) hB (by omega) (by omega) fun r w1 b' q1 q2 q3 q4 q5 => ?_
  have hX : ∀ k, x.2.2.a = some (Gk.blk k) → w0.heap.size ≤ k := fun k e => f2 _ e
  refine h.upd (y := (({ x.1 with bk := x.1.bk ++ [v] } : FnL), x.2.1, r)) (q5.low h.b hX hb0) (q5.own h.fns.own fun b e X => own_apart2 h.fns.own o2 (by decide) e X) (fun z hz => ?_) ⟨f1, fun a ha => ?_⟩ (fun z hz => ⟨(hap z hz x (by simp)).1, fun a ha e => ?_⟩) (j := 3) (by omega) rfl fun w2 hR hk => hK w2 r hR fun i cs hi => hk i cs (hi.of_block (q5.block i hi.lt fun X => own_notBlk o2 hi (by decide) X))
  · rcases List.mem_append.1 hz with hz | hz
    · obtain ⟨g1, g2⟩ := h.fns.row z (List.mem_append.2 (.inl hz))
      exact ⟨q5.own g1 fun b e X => own_apart2 g1 o2 (by decide) e X, q5.own g2 fun b e X => (hap z hz x (by simp)).2 _ e X⟩
    · rw [List.mem_singleton.1 hz]
      refine ⟨q5.own o1 fun b e X => own_apart2 o1 o2 (by decide) e X, ?_⟩
      show Own w1 69 3 r (flat blV (x.1.bk ++ [v]))
      rw [flat_snoc]
      exact q1
  · have ha : r.a = some a := ha
    rw [q3] at ha
    cases ha
    rcases q4 with q4 | q4
    · exact f2 _ q4
    · show w0.heap.size ≤ b'; omega
  · have e : r.a = some a := e
    rw [q3] at e
    cases e
    rcases q4 with q4 | q4
    · exact (hap z hz x (by simp)).2 _ ha q4
    · have := ((h.fns.row z (List.mem_append.2 (.inl hz))).2.lt ha).2
      have : b' < w.heap.size := this
      omega
theorem DCt.setEn {L0 : List Fe} (h : DCt w0 w s (L0 ++ [x])) {v : Int} {K : World → Prop} (hK : ∀ w', DCt w0 w' s (L0 ++ [(({ x.1 with en := v } : FnL), x.2.1, x.2.2)]) → KeepX w w' → K w') :
    (0 ≤ (L0.length : Int) ∧ (L0.length : Int) < (s.l : Int)) ∧ derefP s.a fun a => Wr w ((a.add (Int.toNat (L0.length : Int) * 5)).add 4) ∧ Nw (w.setCell ((a.add (Int.toNat (L0.length : Int) * 5)).add 4) (.int .i64 v)) K := by
  have hx : x ∈ L0 ++ [x] := by simp
  have hap := (List.pairwise_append.1 h.ap).2.2
  refine h.upd (y := (({ x.1 with en := v } : FnL), x.2.1, x.2.2)) h.b h.fns.own (fun z hz => ?_) (h.fr x hx) (fun z hz => hap z hz x (by simp)) (j := 4) (by omega) rfl hK
  rcases List.mem_append.1 hz with hz | hz
  · exact h.fns.row z (List.mem_append.2 (.inl hz))
  · rw [List.mem_singleton.1 hz]
    exact h.fns.row x hx
/-- The last block's end is written. -/
theorem DCt.setTo {L0 : List Fe} (h : DCt w0 w s (L0 ++ [x])) {bs : List (Int × Int × Int)} {c : Int × Int × Int} (hb : x.1.bk = bs ++ [c]) {v : Int} :
    ∃ b, x.2.2.a = some (Gk.blk b) ∧ Wr w ((Gk.blk b).add (bs.length * 3 + 2)) ∧ DCt w0 (w.setCell ((Gk.blk b).add (bs.length * 3 + 2)) (.int .i64 v)) s (L0 ++ [(({ x.1 with bk := bs ++ [(c.1, c.2.1, v)] } : FnL), x.2.1, x.2.2)]) ∧ KeepX w (w.setCell ((Gk.blk b).add (bs.length * 3 + 2)) (.int .i64 v)) := by
  have hx : x ∈ L0 ++ [x] := by simp
  obtain ⟨o1, o2⟩ := h.fns.row x hx
  obtain ⟨f1, f2⟩ := h.fr x hx
  have hap := (List.pairwise_append.1 h.ap).2.2
  rw [hb] at o2
  obtain ⟨b, ha⟩ := o2.a_of (by simp)
  obtain ⟨cs, hB⟩ := o2.type ha
  have hB : Blk w b 69 cs := hB
  have hi : bs.length < (bs ++ [c]).length := by simp
  obtain ⟨h1, h2⟩ := o2.setC blV_len ha hi (j := 2) (by omega) (v := .int .i64 v) (y := (c.1, c.2.1, v)) (by rw [List.getElem_concat_length rfl]; rfl)
  rw [List.set_append_right _ _ (Nat.le_refl _), Nat.sub_self] at h2
  have ch : Chg b w (w.setCell ((Gk.blk b).add (bs.length * 3 + 2)) (.int .i64 v)) := Chg.set b _ w _
  have keepO : ∀ {T : TypeId} {sz : Nat} {q : Sl} {xs : List Value}, Own w T sz q xs → T ≠ 69 → Own (w.setCell ((Gk.blk b).add (bs.length * 3 + 2)) (.int .i64 v)) T sz q xs := fun g hT => g.of_block fun a hq => ch.block _ fun e => (by obtain ⟨_, q⟩ := g.type hq; exact Blk.apart q hB hT e)
  refine ⟨b, ha, h1, ⟨ch.below h.b (f2 _ ha), ⟨?_, fun z hz => ?_⟩, h.fs, fun z hz => ?_, ?_⟩, fun i cs' hi' => hi'.of_block (ch.block _ fun e => by subst e; exact Blk.apart hi' hB (by decide) rfl)⟩
  · have := keepO h.fns.own (by decide)
    rw [flat_snoc] at this ⊢
    exact this
  · rcases List.mem_append.1 hz with hz | hz
    · obtain ⟨g1, g2⟩ := h.fns.row z (List.mem_append.2 (.inl hz))
      refine ⟨keepO g1 (by decide), g2.of_block fun a ha' => ch.block _ fun e => ?_⟩
      obtain ⟨e1, _⟩ := g2.lt ha'
      rw [e] at e1
      rw [e1] at ha'
      exact (hap z hz x (by simp)).2 _ ha' ha
    · rw [List.mem_singleton.1 hz]
      exact ⟨keepO o1 (by decide), h2⟩
  · rcases List.mem_append.1 hz with hz | hz
    · exact h.fr z (List.mem_append.2 (.inl hz))
    · rw [List.mem_singleton.1 hz]
      exact ⟨f1, f2⟩
  · exact pairwise_snoc (List.pairwise_append.1 h.ap).1 fun z hz => hap z hz x (by simp)
end

theorem mem_modL {α : Type} {f : α → α} {y : α} : ∀ {l : List α}, y ∈ modL f l → y ∈ l ∨ ∃ x ∈ l, y = f x
  | [], h => by cases h
  | [x], h => .inr ⟨x, by simp, List.mem_singleton.1 h⟩
  | x :: z :: r, h => by
    rcases List.mem_cons.1 h with h | h
    · exact .inl (h ▸ List.mem_cons_self ..)
    · rcases mem_modL (l := z :: r) h with h | ⟨u, hu, e⟩
      · exact .inl (List.mem_cons_of_mem _ h)
      · exact .inr ⟨u, List.mem_cons_of_mem _ hu, e⟩
theorem modL_len {α : Type} {f : α → α} : ∀ l : List α, (modL f l).length = l.length
  | [] => rfl
  | [_] => rfl
  | x :: z :: r => by
    have := modL_len (f := f) (z :: r)
    simp only [modL, List.length_cons] at this ⊢
    omega
theorem cut_size (pl : List PI) : ∀ n, (cutF pl n).length ≤ n ∧ ∀ f ∈ cutF pl n, f.ps.length ≤ n ∧ f.bk.length ≤ n
  | 0 => ⟨Nat.le_refl _, fun f h => by cases h⟩
  | n + 1 => by
    obtain ⟨h1, h2⟩ := cut_size pl n
    have key : ∀ g : FnL → FnL, (∀ f ∈ cutF pl n, (g f).ps.length ≤ n + 1 ∧ (g f).bk.length ≤ n + 1) → (modL g (cutF pl n)).length ≤ n + 1 ∧ ∀ f ∈ modL g (cutF pl n), f.ps.length ≤ n + 1 ∧ f.bk.length ≤ n + 1 := fun g hg => by
      refine ⟨by rw [modL_len]; omega, fun f hf => ?_⟩
      rcases mem_modL hf with hf | ⟨x, hx, rfl⟩
      · have := h2 f hf; omega
      · exact hg x hx
    show (cutS (cutF pl n) n (ix pl n)).length ≤ n + 1 ∧ ∀ f ∈ cutS (cutF pl n) n (ix pl n), _
    unfold cutS
    split
    · refine ⟨by simp; omega, fun f hf => ?_⟩
      rcases List.mem_append.1 hf with hf | hf
      · have := h2 f hf; omega
      · rw [List.mem_singleton.1 hf]; simp
    split
    · exact key _ fun f hf => by have := h2 f hf; simp; omega
    split
    · exact key _ fun f hf => by have := h2 f hf; simp; omega
    split
    · exact key _ fun f hf => by have := h2 f hf; simp; omega
    split
    · exact key _ fun f hf => by have := h2 f hf; simp only [modL_len]; omega
    · exact ⟨by omega, fun f hf => by have := h2 f hf; omega⟩
end Go.Proofs
namespace Go.Proofs
open Go.Gk Go.RowKit Go.Gm

theorem DCt.split {w0 w : World} {s : Sl} {L : List Fe} {l : List FnL} {f : FnL} (h : DCt w0 w s L) (hs : s.l ≤ 1048577) (hm : L.map (·.1) = l ++ [f]) :
    ∃ L0 x, L = L0 ++ [x] ∧ x.1 = f ∧ L0.map (·.1) = l ∧ IntKind.i64.wrap ((s.l : Int) - 1) = (L0.length : Int) := by
  obtain ⟨L0, L1, rfl, h1, h2⟩ := List.map_eq_append_iff.1 hm
  obtain ⟨x, rfl, h3⟩ := List.map_eq_singleton_iff.1 h2
  refine ⟨L0, x, rfl, h3, h1, ?_⟩
  have := h.len
  rw [wrap64_in (by omega) (by omega)]
  omega
section
variable {x : Mo} {pl : List PI} {w : World} {R : Value → World → Prop}
/-- Behind one of the document's steps. -/
def CS5 (w6 : World) (b : Nat) (s : Sl) (p : PI) (t : Sl) (pl : List PI) (k : Nat) (P : Prop) (s1 : Sl) (w' : World) : Prop :=
  ∃ L, DCt w6 w' s1 L ∧ Blk w' b 41 (inV (mkIn p t)) ∧ ((P ∧ L.map (·.1) = cutF pl (k + 1)) ∨ (¬ P ∧ s1 = s ∧ L.map (·.1) = cutF pl k))
set_option maxHeartbeats 1000000 in
theorem rCut_spec (hN : IsPl w x.2.2.1 pl) (hp : PlOk pl)
    (hok : ∀ fs L w', (layP x.2.1 pl).1 = 0 → Below w.heap.size w w' → Fns w' fs L → L.map (·.1) = cutF pl pl.length → R (.tuple #[.slice fs.a fs.l fs.c, .agg #[.int .i64 0, .int .i64 0]]) w')
    (hbad : ∀ w', (layP x.2.1 pl).1 ≠ 0 → Below w.heap.size w w' → R (.tuple #[.slice none 0 0, .agg #[.int .i64 (layP x.2.1 pl).1, .int .i64 ((layP x.2.1 pl).2 : Int)]]) w') :
    callR Tryz.prog 8 #[moA x] w R := by
  refine callR.of (intaglioref05_Cut_calls x R w ?_) fun _ _ h => h
  refine lay_of fun w1 hB1 b1 z1 => ?_
  have hB1 : Blk w1 w.heap.size 25 (moV x) := hB1
  refine lay_of fun w2 hS2 b2 z2 => ?_
  have hS2 : Blk w2 w1.heap.size 33 [.int .i64 0, .int .i64 0] := hS2
  have hb2 := b1.on b2
  refine Mo.load (hB1.below b2) ?_
  refine r5Check_spec (x := x) (hN.below hb2) hp fun w3 b3 => ⟨((layP x.2.1 pl).1, ((layP x.2.1 pl).2 : Int), ()), rfl, ?_⟩
  refine box2 rfl fun w6 h6 b6 z6 => ?_
  have b26 := b3.on b6
  have hb6 := hb2.on b26
  have hB6 := (hB1.below b2).below b26
  have hS6 := hS2.below b26
  have s1 := b1.size
  refine h6.rI0 rfl (ifB_bne (fun e => ?_) (fun e => ?_))
  · have e' : (layP x.2.1 pl).1 ≠ 0 := e
    exact Sp.load h6.drew (st2 hS6.drew rfl fun w8 hS8 c8 => Sp.load hS8 (hbad w8 e' (c8.below hb6.drew (by omega))))
  have e' : (layP x.2.1 pl).1 = 0 := e
  obtain ⟨hsh, hg, _⟩ := lay_good e'
  have hlen := len_le hsh
  have hl := hN.len
  have e2 : (layP x.2.1 pl).2 = 0 := by
    have : layP x.2.1 pl = (0, 0) := by
      have h := e'
      unfold layP at h ⊢
      rw [if_neg (fun q => q hsh)] at h ⊢
      unfold chkP at h ⊢
      cases hf : (List.range pl.length).find? (fun k => !mayP pl k) with
      | some k => rw [hf] at h; cases h
      | none =>
        rw [hf] at h
        cases ho : openP pl
        · simp
        · rw [ho] at h; cases h
    rw [this]
  refine LoopW.countSl pl.length (by omega) (fun k s w' => ∃ L, DCt w6 w' s L ∧ L.map (·.1) = cutF pl k) ⟨[], ⟨Below.refl _ _, Fns.nil _, fun a ha => (by cases ha), fun x hx => (by cases hx), List.Pairwise.nil⟩, rfl⟩ ?_
  rintro k s w9 hk ⟨L, hC, hLm⟩ next hnext
  have b9 := hC.b
  have hb9 := hb6.on b9
  have hB9 := hB6.below b9
  obtain ⟨hcl, hcs⟩ := cut_size pl k
  have hLl : L.length = (cutF pl k).length := by rw [← hLm, List.length_map]
  have hsl := hC.fns.len
  refine hB9.rS (n := 2) (x := x.2.2.1) rfl (ifB_dec (fun h => ?_) (fun h => ?_))
  · have hlt : k < pl.length := by dsimp only at h; omega
    have eix : ix pl k = pl[k] := ix_lt hlt
    refine JoinW.cut (fun (st : Sl × Unit) w' => ∃ L', DCt w6 w' st.1 L' ∧ L'.map (·.1) = cutF pl (k + 1)) ?_ ?_
    rotate_left
    · rintro ⟨s', _⟩ w30 ⟨L', hC', hL'⟩
      exact hnext s' w30 hlt ⟨L', hC', hL'⟩
    refine hB9.rS (n := 2) (x := x.2.2.1) rfl (elemPI (hN.below hb9) hlt fun t _ => ?_)
    refine box4 rfl fun w14 hX14 b14 z14 => ?_
    have hX14 : Blk w14 w9.heap.size 41 (inV (mkIn pl[k] t)) := hX14
    have hC14 := hC.below b14
    -- what a step that adds or changes comes to
    have upd : ∀ {l : List FnL} {f : FnL} (g : FnL → FnL) {L0 : List Fe} {y : Fe}, cutF pl k = l ++ [f] → L0.map (·.1) = l → y.1 = g f → cutS (cutF pl k) k (ix pl k) = modL g (cutF pl k) → (L0 ++ [y]).map (·.1) = cutF pl (k + 1) := fun {l f} g {L0 y} h1 h2 h3 h4 => by
      show _ = cutS (cutF pl k) k (ix pl k)
      rw [h4, h1, modL_append, List.map_append, h2, List.map_cons, List.map_nil, h3]
    refine JoinW.cut (fun (st : Sl × Unit) w' => CS5 w6 w9.heap.size s pl[k] t pl k (pl[k].1 = 54) st.1 w') ?_ ?_
    · refine hX14.rI0 (x := pl[k].1) rfl (ifB_beq (fun e => ?_) (fun e => ?_))
      · refine hX14.rI (n := 2) (x := pl[k].2.2.1) rfl (hC14.newF (by omega) fun r w16 hC16 hk16 => ⟨_, hC16, hk16 _ _ hX14, .inl ⟨e, ?_⟩⟩)
        show _ = cutS (cutF pl k) k (ix pl k)
        unfold cutS
        rw [if_pos (by rw [eix]; exact e), List.map_append, hLm, eix]
        rfl
      · exact ⟨L, hC14, hX14, .inr ⟨e, rfl, hLm⟩⟩
    rintro ⟨s1', _⟩ w17 hc17
    refine JoinW.cut (fun (_ : Unit) w' => CS5 w6 w9.heap.size s pl[k] t pl k (pl[k].1 = 54 ∨ pl[k].1 = 55) s1' w') ?_ ?_
    · obtain ⟨L2, hC17, hX17, hd17⟩ := hc17
      dsimp only
      refine hX17.rI0 (x := pl[k].1) rfl (ifB_beq (fun e => ?_) (fun e => ?_))
      · rcases hd17 with ⟨q, _⟩ | ⟨q, rfl, hm⟩
        · omega
        obtain ⟨l, f, hcf, _⟩ := cut_last hg hlt (.inl (by rw [eix]; exact e))
        obtain ⟨L0, y, rfl, hy, hL0, en⟩ := hC17.split (by omega) (hm.trans hcf)
        rw [en]
        obtain ⟨b, _, hb, _, _⟩ := hC17.base
        have hyl := (hcs f (by rw [hcf]; simp)).1
        refine ⟨hC17.inLast, derefP_some hb ⟨y.2.1, hC17.cell hb (by omega) rfl, ?_⟩⟩
        refine lay_of fun w18 hV18 b18 z18 => ?_
        refine (hC17.below b18).pushP (v := (k : Int)) hV18 (by rw [hy]; omega) fun w20 r hC20 hk20 => ⟨_, hC20, hk20 _ _ (hX17.below b18), .inl ⟨.inr e, ?_⟩⟩
        refine upd (fun f => { f with ps := f.ps ++ [(k : Int)] }) hcf hL0 (by rw [← hy]) ?_
        unfold cutS
        rw [eix, if_neg (by omega), if_pos e]
      · refine ⟨L2, hC17, hX17, ?_⟩
        rcases hd17 with ⟨q, hm⟩ | ⟨q, hs, hm⟩
        · exact .inl ⟨.inl q, hm⟩
        · exact .inr ⟨by omega, hs, hm⟩
    rintro _ w21 hc21
    refine JoinW.cut (fun (_ : Unit) w' => CS5 w6 w9.heap.size s pl[k] t pl k (pl[k].1 = 54 ∨ pl[k].1 = 55 ∨ pl[k].1 = 56) s1' w') ?_ ?_
    · obtain ⟨L2, hC17, hX17, hd17⟩ := hc21
      dsimp only
      refine hX17.rI0 (x := pl[k].1) rfl (ifB_beq (fun e => ?_) (fun e => ?_))
      · rcases hd17 with ⟨q, _⟩ | ⟨q, rfl, hm⟩
        · omega
        obtain ⟨l, f, hcf, _⟩ := cut_last hg hlt (.inr (.inl (by rw [eix]; exact e)))
        obtain ⟨L0, y, rfl, hy, hL0, en⟩ := hC17.split (by omega) (hm.trans hcf)
        rw [en]
        refine hC17.setEn fun w22 hC22 hk22 => ⟨_, hC22, hk22 _ _ hX17, .inl ⟨.inr (.inr e), ?_⟩⟩
        refine upd (fun f => { f with en := (k : Int) }) hcf hL0 (by rw [← hy]) ?_
        unfold cutS
        rw [eix, if_neg (by omega), if_neg (by omega), if_pos e]
      · refine ⟨L2, hC17, hX17, ?_⟩
        rcases hd17 with ⟨q, hm⟩ | ⟨q, hs, hm⟩
        · exact .inl ⟨by omega, hm⟩
        · exact .inr ⟨by omega, hs, hm⟩
    rintro _ w23 hc23
    refine JoinW.cut (fun (_ : Unit) w' => CS5 w6 w9.heap.size s pl[k] t pl k (pl[k].1 = 54 ∨ pl[k].1 = 55 ∨ pl[k].1 = 56 ∨ pl[k].1 = 248) s1' w') ?_ ?_
    · obtain ⟨L2, hC17, hX17, hd17⟩ := hc23
      dsimp only
      refine hX17.rI0 (x := pl[k].1) rfl (ifB_beq (fun e => ?_) (fun e => ?_))
      · rcases hd17 with ⟨q, _⟩ | ⟨q, rfl, hm⟩
        · omega
        obtain ⟨l, f, hcf, _⟩ := cut_last hg hlt (.inr (.inr (.inl (by rw [eix]; exact e))))
        obtain ⟨L0, y, rfl, hy, hL0, en⟩ := hC17.split (by omega) (hm.trans hcf)
        rw [en]
        have bd : Below w23.heap.size w23 w23.drew := (Below.refl _ _).drew
        have hC23 := hC17.below bd
        have hX23 := hX17.below bd
        obtain ⟨b, _, hb, _, _⟩ := hC23.base
        have hyl := (hcs f (by rw [hcf]; simp)).2
        refine ⟨hC17.inLast, derefP_some hb ⟨y.2.2, hC23.cell hb (by omega) rfl, ?_⟩⟩
        refine hX23.rI (n := 2) (x := pl[k].2.2.1) rfl ?_
        refine lay_of fun w24 hV24 b24 z24 => ?_
        have hC24 := hC23.below b24
        refine ⟨hC24.cell hb (by omega) rfl, ?_⟩
        refine hC24.pushB (v := (pl[k].2.2.1, (k : Int), 0)) hV24 (by rw [hy]; omega) fun w26 r hC26 hk26 => ⟨_, hC26, hk26 _ _ (hX23.below b24), .inl ⟨by omega, ?_⟩⟩
        refine upd (fun f => { f with bk := f.bk ++ [(pl[k].2.2.1, (k : Int), 0)] }) hcf hL0 (by rw [← hy]) ?_
        unfold cutS
        rw [eix, if_neg (by omega), if_neg (by omega), if_neg (by omega), if_pos e]
      · refine ⟨L2, hC17, hX17, ?_⟩
        rcases hd17 with ⟨q, hm⟩ | ⟨q, hs, hm⟩
        · exact .inl ⟨by omega, hm⟩
        · exact .inr ⟨by omega, hs, hm⟩
    rintro _ w27 ⟨L2, hC27, hX27, hd27⟩
    dsimp only
    refine hX27.rI0 (x := pl[k].1) rfl ?_
    refine rEnds_spec (op := pl[k].1) ⟨_, rfl, ifB_bool (fun ee => ?_) (fun ee => ?_)⟩
    · have hr := ends_cases ee
      rcases hd27 with ⟨q, _⟩ | ⟨q, rfl, hm⟩
      · omega
      obtain ⟨l, f, hcf, hne⟩ := cut_last hg hlt (.inr (.inr (.inr (by rw [eix]; exact ee))))
      have hne := hne (by rw [eix]; exact ee)
      obtain ⟨L0, y, rfl, hy, hL0, en⟩ := hC27.split (by omega) (hm.trans hcf)
      rw [en]
      have bd : Below w27.heap.size w27 w27.drew := (Below.refl _ _).drew
      have hC28 := hC27.below bd
      obtain ⟨b, _, hb, _, _⟩ := hC28.base
      have hyl := (hcs f (by rw [hcf]; simp)).2
      obtain ⟨bs, c, hbc⟩ : ∃ bs c, y.1.bk = bs ++ [c] := by
        rw [hy]
        exact ⟨f.bk.dropLast, f.bk.getLast hne, (List.dropLast_concat_getLast hne).symm⟩
      obtain ⟨vb, hvb, hwr, hRC, _⟩ := hC28.setTo hbc (v := ((k + 1 : Nat) : Int))
      have hbl : y.2.2.l = bs.length + 1 := by
        have := (hC28.fns.row y (by simp)).2.1
        rw [flat_length blV_len, hbc] at this
        simp at this
        omega
      have hbk : bs.length + 1 ≤ k := by
        have : y.1.bk.length = bs.length + 1 := by rw [hbc]; simp
        rw [hy] at this
        omega
      refine ⟨hC28.inLast, derefP_some hb ⟨y.2.2, hC28.cell hb (by omega) rfl, hC28.inLast, derefP_some hb ⟨y.2.2, hC28.cell hb (by omega) rfl, ?_⟩⟩⟩
      have ew : IntKind.i64.wrap ((y.2.2.l : Int) - 1) = (bs.length : Int) := by rw [wrap64_in (by omega) (by omega)]; omega
      dsimp only
      rw [ew]
      refine ⟨⟨by omega, by omega⟩, derefP_some hvb ?_⟩
      rw [add_add', show Int.toNat (bs.length : Int) = bs.length from rfl, wrap64_succ (by omega)]
      refine ⟨hwr, _, hRC, ?_⟩
      refine upd (fun f => { f with bk := modL (fun b => (b.1, b.2.1, (k : Int) + 1)) f.bk }) hcf hL0 ?_ ?_
      · rw [← hy, hbc, modL_append]
        show ({ y.1 with bk := bs ++ [(c.1, c.2.1, ((k + 1 : Nat) : Int))] } : FnL) = { y.1 with bk := bs ++ [(c.1, c.2.1, (k : Int) + 1)] }
        rw [show ((k + 1 : Nat) : Int) = (k : Int) + 1 by omega]
      · unfold cutS
        rw [eix, if_neg (by omega), if_neg (by omega), if_neg (by omega), if_neg (by omega), if_pos ee]
    · rcases hd27 with ⟨q, hm⟩ | ⟨q, rfl, hm⟩
      · exact ⟨L2, hC27, hm⟩
      · refine ⟨L2, hC27, ?_⟩
        show _ = cutS (cutF pl k) k (ix pl k)
        unfold cutS
        rw [eix, if_neg (by omega), if_neg (by omega), if_neg (by omega), if_neg (by omega), if_neg (by rw [ee]; decide)]
        exact hm
  · have hk' : k = pl.length := by dsimp only at h; omega
    subst hk'
    have hS9 := hS6.below b9
    have h69 := h6.below b9
    have := Sp.load (φ := fun x54 x55 => Wr w9.drew (blk w1.heap.size) ∧ Nw (w9.drew.setCell (blk w1.heap.size) (.int .i64 x54)) fun w31 => Wr w31 ((blk w1.heap.size).add 1) ∧ Nw (w31.setCell ((blk w1.heap.size).add 1) (.int .i64 x55)) fun w32 => ldI w32 ((blk w1.heap.size).add 0) .i64 fun x56 => ldI w32 ((blk w1.heap.size).add 1) .i64 fun x57 => R (.tuple #[(.slice s.a s.l s.c), (.agg #[(.int .i64 x56), (.int .i64 x57)])]) w32) h69.drew (st2 hS9.drew rfl fun w31 hS31 c31 => Sp.load hS31 (by
      have hF := hC.fns.below ((Below.refl w9.heap.size w9).drew)
      have := hok s L w31 e' (c31.below (hb9.drew) (by omega)) (hF.chg c31 hS9.drew (by decide) (by decide) (by decide)) hLm
      rw [e', e2]
      exact this))
    exact this
end
section
variable {w : World} {v u : Fv} {f g : FnL} {R : Value → World → Prop}
theorem rSame_spec (hf : IsFn w v f) (hg : IsFn w u g) (hR : ∀ w', Below w.heap.size w w' → R (.bool (decide (f = g))) w') : callR Tryz.prog 128 #[fvA v, fvA u] w R := by
  refine callR.of (intaglioref14_sameFunc_calls v u R w ?_) fun _ _ h => h
  refine lay_of fun w1 hA1 b1 z1 => ?_
  have hA1 : Blk w1 w.heap.size 29 (fvV v) := hA1
  refine lay_of fun w2 hB2 b2 z2 => ?_
  have hB2 : Blk w2 w1.heap.size 29 (fvV u) := hB2
  have hA2 := hA1.below b2
  have hb2 := b1.on b2
  have no : f ≠ g → ∀ {w'}, Below w.heap.size w w' → R (.bool false) w' := fun h {w'} hb => by
    have := hR w' hb
    rwa [decide_eq_false h] at this
  have p1 := hf.ps.len
  have p2 := hg.ps.len
  have p3 := hf.bk.len
  have p4 := hg.bk.len
  refine JoinW.cut (fun (_ : Unit) w' => w' = w2 ∧ f.id = g.id ∧ f.at_ = g.at_ ∧ f.en = g.en ∧ f.ps.length = g.ps.length ∧ f.bk.length = g.bk.length) ?_ ?_
  · refine hA2.rI0 (x := v.1) rfl (hB2.rI0 (x := u.1) rfl (ifB_bne (fun e => no (fun h => e (by rw [hf.id, hg.id, h])) hb2) (fun e1 => ?_)))
    refine hA2.rI (n := 1) (x := v.2.1) rfl (hB2.rI (n := 1) (x := u.2.1) rfl (ifB_bne (fun e => no (fun h => e (by rw [hf.at_, hg.at_, h])) hb2) (fun e2 => ?_)))
    refine hA2.rI (n := 4) (x := v.2.2.2.2.1) rfl (hB2.rI (n := 4) (x := u.2.2.2.2.1) rfl (ifB_bne (fun e => no (fun h => e (by rw [hf.en, hg.en, h])) hb2) (fun e3 => ?_)))
    refine hA2.rS (n := 2) (x := v.2.2.1) rfl (hB2.rS (n := 2) (x := u.2.2.1) rfl (ifB_bne (fun e => no (fun h => e (by rw [p1, p2, h])) hb2) (fun e4 => ?_)))
    refine hA2.rS (n := 3) (x := v.2.2.2.1) rfl (hB2.rS (n := 3) (x := u.2.2.2.1) rfl (ifB_bne (fun e => no (fun h => e (by rw [p3, p4, h])) hb2) (fun e5 => ?_)))
    exact ⟨rfl, hf.id.symm.trans (e1.trans hg.id), hf.at_.symm.trans (e2.trans hg.at_), hf.en.symm.trans (e3.trans hg.en), by omega, by omega⟩
  rintro _ w3 ⟨rfl, e1, e2, e3, e4, e5⟩
  refine LoopW.count f.ps.length (hf.ps.bound) (fun k w' => Below w.heap.size w w' ∧ Below w3.heap.size w3 w' ∧ ∀ j (q1 : j < f.ps.length) (q2 : j < g.ps.length), j < k → f.ps[j] = g.ps[j]) ⟨hb2, Below.refl _ _, fun j _ _ h => by omega⟩ ?_
  rintro k w4 hk ⟨hb4, b4, hj⟩ next hnext
  have hA4 := hA2.below b4
  have hB4 := hB2.below b4
  refine hA4.rS (n := 2) (x := v.2.2.1) rfl (ifB_dec (fun h => ?_) (fun h => ?_))
  · have hlt : k < f.ps.length := by dsimp only at h; omega
    have hlm : k < g.ps.length := by omega
    refine hA4.drew.rS (n := 2) (x := v.2.2.1) rfl (elemI (hf.ps.below hb4).drew hlt ?_)
    refine hB4.drew.rS (n := 2) (x := u.2.2.1) rfl (elemI (hg.ps.below hb4).drew hlm ?_)
    refine ifB_bne (fun e => no (fun h => e (by subst h; rfl)) hb4.drew) (fun e => hnext _ hlt ⟨hb4.drew, b4.drew, fun j q1 q2 q3 => ?_⟩)
    by_cases ej : j = k
    · subst ej; exact e
    · exact hj j q1 q2 (by omega)
  have hk' : k = f.ps.length := by dsimp only at h; omega
  have eps : f.ps = g.ps := List.ext_getElem e4 fun j q1 q2 => hj j q1 q2 (by omega)
  clear hnext
  refine LoopW.count f.bk.length (hf.bk.bound) (fun k w' => Below w.heap.size w w' ∧ Below w3.heap.size w3 w' ∧ ∀ j (q1 : j < f.bk.length) (q2 : j < g.bk.length), j < k → f.bk[j] = g.bk[j]) ⟨hb4, b4, fun j _ _ h => by omega⟩ ?_
  rintro i w5 hi ⟨hb5, b5, hj5⟩ next hnext
  have hA5 := hA2.below b5
  have hB5 := hB2.below b5
  refine hA5.rS (n := 3) (x := v.2.2.2.1) rfl (ifB_dec (fun h => ?_) (fun h => ?_))
  · have hlt : i < f.bk.length := by dsimp only at h; omega
    have hlm : i < g.bk.length := by omega
    refine hA5.drew.rS (n := 3) (x := v.2.2.2.1) rfl (elemBk (IsC.below blV_len hf.bk hb5.drew) hlt ?_)
    refine hB5.drew.rS (n := 3) (x := u.2.2.2.1) rfl (elemBk (IsC.below blV_len hg.bk hb5.drew) hlm ?_)
    refine ifB_not (ifB_bool (fun e => hnext _ hlt ⟨hb5.drew, b5.drew, fun j q1 q2 hjk => ?_⟩) (fun e => no (fun g => ?_) hb5.drew))
    · by_cases ej : j = i
      · subst ej
        simp only [Bool.and_true, Bool.and_eq_true, beq_iff_eq] at e
        exact Prod.ext e.1 (Prod.ext e.2.1 e.2.2)
      · exact hj5 j q1 q2 (by omega)
    · subst g
      simp at e
  · have hi' : i = f.bk.length := by dsimp only at h; omega
    have ebk : f.bk = g.bk := List.ext_getElem e5 fun j q1 q2 => hj5 j q1 q2 (by omega)
    have := hR w5 hb5
    rwa [decide_eq_true (show f = g by cases f; cases g; simp_all)] at this
theorem rBlock_spec {n : Int} (hf : IsFn w v f) (hd : (f.bk.map (·.1)).Nodup) (hR : ∀ w', Below w.heap.size w w' → R (.int .i64 (lblI f.bk n)) w') : callR Tryz.prog 83 #[fvA v, .int .u32 n] w R := by
  refine callR.of (intaglioref14_block_calls v n R w ?_) fun _ _ h => h
  refine lay_of fun w1 hA1 b1 z1 => ?_
  have hA1 : Blk w1 w.heap.size 29 (fvV v) := hA1
  have hbl := hf.bk.len
  have hbb := hf.bk.bound
  refine LoopW.ghost (fun j (st : Int × Unit) w' => w' = w1 ∧ ∃ k : Nat, st = ((k : Int), ()) ∧ j = f.bk.length + 1 - k ∧ 1 ≤ k ∧ (k = 1 ∨ k ≤ f.bk.length) ∧ ∀ i (h : i < f.bk.length), 1 ≤ i → i < k → f.bk[i].1 ≠ n) f.bk.length ⟨rfl, 1, rfl, by omega, Nat.le_refl _, .inl rfl, fun i _ h1 h2 => by omega⟩ ?_
  rintro _ _ w2 ⟨rfl, k, rfl, rfl, h1, h2, hj⟩ next hnext
  dsimp only
  refine hA1.rS (n := 3) (x := v.2.2.2.1) rfl (ifB_dec (fun h => ?_) (fun h => ?_))
  · have hlt : k < f.bk.length := by omega
    refine hA1.rS (n := 3) (x := v.2.2.2.1) rfl ?_
    obtain ⟨a, ha⟩ := (IsC.below blV_len hf.bk b1).base hlt
    have hc := (IsC.below blV_len hf.bk b1).cell a ha k hlt 0 (by omega)
    refine ⟨⟨by omega, by omega⟩, derefP_some ha ⟨f.bk[k].1, ?_, ifB_beq (fun e => ?_) (fun e => ?_)⟩⟩
    · exact hc
    · have := hR w2 b1
      unfold lblI lblM at this
      rw [← e, lbl_some hd h1 hlt (f.bk.length - 1) (by omega) (by omega)] at this
      exact this
    · rw [wrap64_succ (by omega)]
      refine hnext (f.bk.length + 1 - (k + 1)) _ w2 (by omega) ⟨rfl, k + 1, rfl, rfl, by omega, .inr (by omega), fun i q1 q2 q3 => ?_⟩
      by_cases ei : i = k
      · subst ei; exact e
      · exact hj i q1 q2 (by omega)
  · have := hR w2 b1
    unfold lblI lblM at this
    by_cases h0 : f.bk.length = 0
    · rw [h0] at this
      exact this
    · rw [lbl_none (f.bk.length - 1) (by omega) fun i q1 q2 q3 => hj i q1 q2 (by omega)] at this
      exact this
end
section
variable {x : Mo} {pl : List PI} {w : World} {R : Value → World → Prop} {v : Fv} {f : FnL}
theorem rKnown_spec (hN : IsPl w x.2.2.1 pl) (hp : PlOk pl) (hl : (layP x.2.1 pl).1 = 0) (hf : IsFn w v f) (hR : ∀ w', Below w.heap.size w w' → R (.bool (decide (f ∈ cutF pl pl.length))) w') : callR Tryz.prog 80 #[moA x, fvA v] w R := by
  refine callR.of (intaglioref14_known_calls x v R w ?_) fun _ _ h => h
  refine lay_of fun w1 hB1 b1 z1 => ?_
  have hB1 : Blk w1 w.heap.size 25 (moV x) := hB1
  refine lay_of fun w2 hV2 b2 z2 => ?_
  have hV2 : Blk w2 w1.heap.size 29 (fvV v) := hV2
  have hb2 := b1.on b2
  refine Mo.load (hB1.below b2) ?_
  refine rCut_spec (x := x) (hN.below hb2) hp (fun fs L w3 _ b3 hL hLm => ⟨fs, (0, 0, ()), rfl, ?_⟩) (fun w3 hne _ => absurd hl hne)
  refine box2 rfl fun w6 h6 b6 z6 => ?_
  have b26 := b3.on b6
  have hb6 := hb2.on b26
  have hL6 := hL.below b6
  have hV6 := hV2.below b26
  have hll := hL.len
  have hc5 : IsC 5 feV w6 fs L := Own.isC feV_len (by omega) hL6.own
  have hbd := hc5.bound
  refine LoopW.count L.length hbd (fun k w' => Below w6.heap.size w6 w' ∧ ∀ j (h : j < L.length), j < k → L[j].1 ≠ f) ⟨Below.refl _ _, fun j _ h => by omega⟩ ?_
  rintro k w7 hk ⟨b7, hj⟩ next hnext
  refine ifB_dec (fun h => ?_) (fun h => ?_)
  · have hlt : k < L.length := by dsimp only at h; omega
    have b7d := b7.drew
    have hL7 := hL6.below b7d
    refine elemFn hL7 hlt (Fv.load (hV6.below b7d) ?_)
    refine rSame_spec (v := (L[k].1.id, L[k].1.at_, L[k].2.1, L[k].2.2, L[k].1.en, ())) (u := v) (f := L[k].1) (g := f) (hL7.isFn (List.getElem_mem hlt)) (hf.below (hb6.on b7d)) fun w8 b8 => ⟨_, rfl, ifB_dec (fun e => ?_) (fun e => hnext w8 hlt ⟨b7d.on b8, fun j q1 q2 => ?_⟩)⟩
    · have := hR w8 (hb6.on (b7d.on b8))
      have hin : f ∈ cutF pl pl.length := by rw [← hLm]; exact List.mem_map.2 ⟨L[k], List.getElem_mem hlt, e⟩
      rwa [decide_eq_true hin] at this
    · by_cases ej : j = k
      · subst ej; exact e
      · exact hj j q1 (by omega)
  · have := hR w7 (hb6.on b7)
    have hno : f ∉ cutF pl pl.length := fun hm => by
      rw [← hLm] at hm
      obtain ⟨y, hy, e⟩ := List.mem_map.1 hm
      obtain ⟨j, hj', rfl⟩ := List.getElem_of_mem hy
      exact hj j hj' (by dsimp only at h; omega) e
    rwa [decide_eq_false hno] at this
end
end Go.Proofs
namespace Go.Gk
/-- 'for i := 0; i < n; i++' beside one slot more. -/
theorem LoopW.countS {α : Type} {body : α × Int × Unit → World → (α × Int × Unit → World → Prop) → Prop} {w : World} {a0 : α} (n : Nat) (hn : n ≤ 9223372036854775807) (I : Nat → α → World → Prop) (h0 : I 0 a0 w)
    (h : ∀ k a w, k ≤ n → I k a w → ∀ next : α × Int × Unit → World → Prop, (∀ a' w', k < n → I (k + 1) a' w' → next (a', IntKind.i64.wrap ((k : Int) + 1), ()) w') → body (a, (k : Int), ()) w next) : LoopW body (a0, (0 : Int), ()) w := by
  refine LoopW.ghost (fun j s w => ∃ k : Nat, k ≤ n ∧ j = n - k ∧ ∃ a, s = (a, (k : Int), ()) ∧ I k a w) n ⟨0, Nat.zero_le _, rfl, a0, rfl, h0⟩ ?_
  rintro _ _ w ⟨k, hk, rfl, a, rfl, hI⟩ next hnext
  refine h k a w hk hI next fun a' w' hlt hI' => ?_
  rw [wrap64_succ (by omega)]
  exact hnext (n - (k + 1)) _ _ (by omega) ⟨k + 1, by omega, rfl, a', rfl, hI'⟩
end Go.Gk
namespace Go.Proofs
open Go.Gk Go.RowKit Go.Gr

theorem eII : ElemT Tryz.prog 48 26 1 24 := ⟨by kernel_rfl, Tryz.t26, .slice none 0 0, by kernel_rfl, rfl, rfl, rfl, rfl⟩

/-- append(r, x) at a row of the code's own, all that is new lying from block B0 on. -/
theorem push_own {B0 : Nat} {w0 w : World} {r : Sl} {l : List Nat} {x : Int} {y : Nat} (hx : x = (y : Int)) (hb : Below B0 w0 w) (hB : B0 ≤ w.heap.size) (ho : Own w 3 1 r (l.map iN)) (hf : Fresh B0 r) (hl : l.length < 1099511627776)
    {k : Sl → World → Prop} (hk : ∀ r' w', Below B0 w0 w' → B0 ≤ w'.heap.size → Own w' 3 1 r' ((l ++ [y]).map iN) → Fresh B0 r' → k r' w') :
    Nw (w.alloc (.cells #[.int .i64 x] 3)) fun w1 => appendS Tryz.prog 26 (.slice r.a r.l r.c) (.slice (some (blk w.heap.size)) 1 1) w1 k := by
  subst hx
  refine Nw.gen fun w1 hw1 => ?_
  have hB1 : Blk w1 w.heap.size 3 [iN y] := by rw [hw1]; exact Blk.new w _ #[_]
  have ho1 : Own w1 3 1 r (l.map iN) := by rw [hw1]; exact ho.alloc _
  have hb1 : Below B0 w0 w1 := by rw [hw1]; exact hb.alloc hB _
  have hz1 : w1.heap.size = w.heap.size + 1 := by rw [hw1]; simp
  have hl1 := own_len ho1
  refine append_one eInt ho1 rfl hB1 (by omega) (by omega) fun r' w' hr hrl ⟨b, hrb, hbo, hg⟩ => ?_
  have hbB : B0 ≤ b := by
    rcases hbo with hb | rfl
    · exact hf _ hb
    · omega
  refine hk r' w' (hb1.trans (below_grown hg hbB (by omega))) ?_ (by simpa using hr) (fun a ha => by rw [hrb] at ha; cases ha; exact hbB)
  have := hg.size
  omega

/-- The document's graph at block rb. -/
def IsR (w : World) (rb : Nat) (nx : List (List Nat)) : Prop := ∃ s hs, Blk w rb 185 [s.val] ∧ IsNN w s hs nx
theorem IsR.below {w w' : World} {rb : Nat} {nx : List (List Nat)} (h : IsR w rb nx) (hb : Below w.heap.size w w') : IsR w' rb nx :=
  let ⟨s, hs, h1, h2⟩ := h
  ⟨s, hs, h1.below hb, h2.below hb⟩

set_option maxHeartbeats 1000000 in
theorem refOf_spec {s : Sl} {hs : List Sl} {ll : List (List Int)} {w : World} {R : Value → World → Prop} (h : IsII w s hs ll) (h8 : ∀ l ∈ ll, 8 * l.length ≤ 281474976710656)
    (h2 : ll.length = 0 → R (.tuple #[.pointer none, .int .i64 2]) w)
    (h4 : 4096 < ll.length → R (.tuple #[.pointer none, .int .i64 4]) w)
    (hbad : 0 < ll.length → ll.length ≤ 4096 → ¬ Good ll → ∀ w', Below w.heap.size w w' → R (.tuple #[.pointer none, .int .i64 141]) w')
    (hok : 0 < ll.length → ll.length ≤ 4096 → Good ll → ∀ w' rb, Below w.heap.size w w' → IsR w' rb (edges ll) → R (.tuple #[.pointer (some (blk rb)), .int .i64 0]) w') :
    callR Tryz.prog 84 #[.slice s.a s.l s.c] w R := by
  refine callR.of (intaglioref14_Of_calls s R w ?_) fun _ _ h => h
  have hsl : s.l = hs.length := h.top.len
  have hhl : hs.length = ll.length := h.len
  have hn : s.l = ll.length := by omega
  unfold L_intaglioref14_Of
  rw [hn]
  refine ifB_beq (fun he => h2 (by omega)) (fun hne => ifB_dec (fun hgt => h4 (by omega)) (fun hle => ?_))
  have hn0 : 0 < ll.length := by omega
  have hn1 : ll.length ≤ 4096 := by omega
  refine Nw.gen fun w1 hw1 => ?_
  have hb1 : Below w.heap.size w w1 := by rw [hw1]; exact (Below.refl _ _).alloc (Nat.le_refl _) _
  have hg1 : Blk w1 w.heap.size 185 [(⟨none, 0, 0⟩ : Sl).val] := by rw [hw1]; exact Blk.new w _ #[_]
  have hz1 : w1.heap.size = w.heap.size + 1 := by rw [hw1]; simp
  clear hw1
  have natlen : (natRows ll).length = ll.length := by simp
  refine LoopW.count ll.length (by omega) (fun i w' => Below w.heap.size w w' ∧ w.heap.size < w'.heap.size ∧ (∃ (r : Sl) (rs : List Sl), Blk w' w.heap.size 185 [r.val] ∧ Own w' 26 1 r (rs.map Sl.val) ∧ Fresh (w.heap.size + 1) r ∧ rs.length = i ∧
      ∀ (j : Nat) (hj : j < rs.length), Own w' 3 1 rs[j] (((edges ll).getD j []).map iN)) ∧ ∀ j, j < i → ∀ (hj : j < ll.length), ∀ x ∈ ll[j], 0 ≤ x ∧ x < (ll.length : Int))
    ⟨hb1, by omega, ⟨⟨none, 0, 0⟩, [], hg1, Own.nil _ _ _, (fun a ha => by cases ha), rfl, fun j hj => by cases hj⟩, fun j hj => by omega⟩ ?_
  rintro i w2 hi ⟨hb2, hz2, ⟨r, rs, hg2, hr2, hf2, hrs, hrows2⟩, hgood⟩ next hnext
  refine ifB_dec (fun hlt => ?_) (fun hge => ?_)
  · have hlt : i < ll.length := by dsimp only at hlt; omega
    have hrow : ∀ {w' : World}, Below w.heap.size w w' → IsI w' (hs[i]'(by omega)) ll[i] := fun hb => (h.below hb).row i (by omega) hlt
    have hbw : ∀ {w' : World}, Below w2.heap.size w2 w' → Below w.heap.size w w' := fun hb => hb2.trans (hb.mono (by omega))
    have hrn : (hs[i]'(by omega)).l = (ll[i]).length := (hrow hb2).len
    have h8i := h8 _ (List.getElem_mem hlt)
    refine LoopW.countS (ll[i]).length (hrow hb2).bound (fun k l w' => Below w2.heap.size w2 w' ∧ w2.heap.size ≤ w'.heap.size ∧ Own w' 3 1 l ((dedup ((ll[i].take k).map Int.toNat)).map iN) ∧ Fresh w2.heap.size l ∧ ∀ j, j < k → ∀ (hj : j < (ll[i]).length), 0 ≤ ll[i][j] ∧ ll[i][j] < (ll.length : Int))
      ⟨Below.refl _ _, Nat.le_refl _, by simpa [dedup] using Own.nil _ _ _, (fun a ha => by cases ha), fun j hj => by omega⟩ ?_
    rintro k l w3 hk ⟨hb3, hz3, ho3, hf3, hgood3⟩ nxt hnxt
    refine elemS_n (h.below (hbw hb3)).top hn (k := i) (by omega) ?_
    refine ifB_dec (fun hltk => ?_) (fun hgek => ?_)
    · have hltk : k < (ll[i]).length := by dsimp only at hltk; omega
      refine JoinW.cut (fun st w' => Below w2.heap.size w2 w' ∧ w2.heap.size ≤ w'.heap.size ∧ Own w' 3 1 st.1 ((dedup ((ll[i].take (k + 1)).map Int.toNat)).map iN) ∧ Fresh w2.heap.size st.1 ∧ 0 ≤ ll[i][k] ∧ ll[i][k] < (ll.length : Int)) ?_
        fun st w' hh => hnxt st.1 w' hltk ⟨hh.1, hh.2.1, hh.2.2.1, hh.2.2.2.1, fun j hj hjl => by
          by_cases e : j = k
          · subst e; exact hh.2.2.2.2
          · exact hgood3 j (by omega) hjl⟩
      refine elemS_n (h.below (hbw hb3)).top hn (k := i) (by omega) ?_
      refine elemI (hrow (hbw hb3)) hltk ?_
      have bad : ¬ (0 ≤ ll[i][k] ∧ ll[i][k] < (ll.length : Int)) → R (.tuple #[.pointer none, .int .i64 141]) w3 := fun hx =>
        hbad hn0 hn1 (fun hG => hx (hG _ (List.getElem_mem hlt) _ (List.getElem_mem hltk))) w3 (hbw hb3)
      refine JoinW.cut (fun _ w' => w' = w3 ∧ 0 ≤ ll[i][k] ∧ ll[i][k] < (ll.length : Int)) (ifB_dec (fun hx => bad (by omega)) (fun hx => ifB_dec (fun hx' => bad (by omega)) (fun hx' => ⟨rfl, by omega, by omega⟩))) ?_
      rintro _ wx ⟨ewx, hx0, hx1⟩
      subst wx
      obtain ⟨x, hx⟩ := Int.eq_ofNat_of_zero_le hx0
      have hsnoc : dedup ((ll[i].take (k + 1)).map Int.toNat) = addOnce (dedup ((ll[i].take k).map Int.toNat)) x := by
        rw [List.take_succ_eq_append_getElem hltk, List.map_append, ← dedup_snoc, hx]; rfl
      rw [hsnoc, hx]
      refine in_spec (IsS.toI ho3.isS) ⟨_, rfl, ifB_not ?_⟩
      rw [containsN]
      refine ifB_bool (fun hc => ?_) (fun hc => ?_)
      · refine ⟨hb3, hz3, ?_, hf3, by omega, by omega⟩
        unfold addOnce
        rw [if_pos hc]; exact ho3
      · have hd : (dedup ((ll[i].take k).map Int.toNat)).length ≤ ll.length := dedup_le fun y hy => by
          obtain ⟨z, hz, rfl⟩ := List.mem_map.1 hy
          obtain ⟨j, hj, rfl⟩ := List.mem_iff_getElem.1 hz
          have hj' : j < k ∧ j < (ll[i]).length := by rw [List.length_take] at hj; omega
          have := hgood3 j hj'.1 hj'.2
          rw [List.getElem_take]
          omega
        refine push_own rfl hb3 hz3 ho3 hf3 (by omega) fun r' w' g1 g2 g3 g4 => ⟨g1, g2, ?_, g4, by omega, by omega⟩
        unfold addOnce
        rw [if_neg (by rw [hc]; decide)]; exact g3
    · have hkk : k = (ll[i]).length := by dsimp only at hgek; omega
      subst hkk
      rw [List.take_length] at ho3
      have hg3 := hg2.below hb3
      have hr3 := hr2.below hb3
      refine ⟨r, hg3.cell0 rfl, Nw.gen fun w4 hw4 => ?_⟩
      have hb4 : Below w3.heap.size w3 w4 := by rw [hw4]; exact (Below.refl _ _).alloc (Nat.le_refl _) _
      have hB4 : Blk w4 w3.heap.size 26 [l.val] := by rw [hw4]; exact Blk.new w3 _ #[_]
      have hz4 : w4.heap.size = w3.heap.size + 1 := by rw [hw4]; simp
      have hr4 := hr3.below hb4
      have hrl : r.l = rs.length := by have := hr4.1; simp at this; omega
      refine append_one eII hr4 rfl hB4 (by omega) (by omega) fun r5 w5 hr5 hrl5 ⟨b, hrb, hbo, hgr⟩ => ?_
      have hbB : w.heap.size + 1 ≤ b := by
        rcases hbo with hb | rfl
        · exact hf2 _ hb
        · omega
      have hg5 : Blk w5 w.heap.size 185 [r.val] := (hg3.below hb4).of_block (hgr.block _ (hg3.below hb4).lt (fun e => by have := Option.some.inj e; omega))
      have hbt : ∀ {sl : Sl} {xs : List Value}, Own w4 3 1 sl xs → Own w5 3 1 sl xs := fun ho => ho.of_block fun a ha => hgr.block _ (ho.lt ha).2 (fun e => by
        have e := Option.some.inj e
        obtain ⟨c2, t2⟩ := ho.type ha
        rcases hbo with hb | hb
        · obtain ⟨c1, t1⟩ := hr4.type hb
          have e' : (blk b).block = a.block := Eq.symm e
          rw [e'] at t1
          exact absurd (t1.type t2) (by decide)
        · have := (ho.lt ha).2; omega)
      refine ⟨hg5.wr0 (by simp), Nw.gen fun w6 hw6 => ?_⟩
      have hg6 : Blk w6 w.heap.size 185 [r5.val] := by rw [hw6]; exact hg5.set0 _
      have st6 : ∀ {T : TypeId} {sl : Sl} {xs : List Value}, T ≠ 185 → Own w5 T 1 sl xs → Own w6 T 1 sl xs := fun hT ho => ho.of_block fun a ha => by
        rw [hw6]
        refine Below.heap_setCell _ _ _ _ fun e => hT ?_
        obtain ⟨c2, t2⟩ := ho.type ha
        have e' : a.block = w.heap.size := e
        rw [e'] at t2
        exact t2.type hg5
      have hb45 : Below w.heap.size w w5 := (hbw (hb3.trans (hb4.mono hz3))).trans (below_grown hgr (by omega) (by omega))
      have hz5 : w4.heap.size ≤ w5.heap.size := hgr.size
      refine hnext w6 hlt ⟨by rw [hw6]; exact hb45.setCell (Nat.le_refl _) _, by rw [hw6]; simp [World.setCell]; omega, ⟨r5, rs ++ [l], hg6, by simpa using st6 (by decide) hr5, (fun a ha => by rw [hrb] at ha; cases ha; exact hbB), by simp [hrs], fun j hj => ?_⟩, fun j hj hjl x hx => ?_⟩
      · by_cases e : j < rs.length
        · rw [List.getElem_append_left e]
          exact st6 (by decide) (hbt (((hrows2 j e).below hb3).below hb4))
        · have hj' : j = rs.length := by simp at hj; omega
          subst hj'
          rw [List.getElem_append_right (Nat.le_refl _)]
          simp only [Nat.sub_self, List.getElem_cons_zero]
          rw [show (edges ll).getD rs.length [] = dedup (ll[i].map Int.toNat) by rw [hrs]; exact edges_getD hlt]
          exact st6 (by decide) (hbt (ho3.below hb4))
      · by_cases e : j = i
        · subst e
          obtain ⟨m, hm, rfl⟩ := List.mem_iff_getElem.1 hx
          exact hgood3 m hm hm
        · exact hgood j (by omega) hjl x hx
  · have hi' : i = ll.length := by dsimp only at hge; omega
    subst hi'
    have hG : Good ll := fun l hl x hx => by
      obtain ⟨j, hj, rfl⟩ := List.mem_iff_getElem.1 hl
      exact hgood j hj hj x hx
    refine hok hn0 hn1 hG w2 _ hb2 ⟨r, rs, hg2, hr2.isS, by rw [edges_length]; omega, fun j hj hj' => ?_⟩
    have := (hrows2 j hj).isS
    have e : (edges ll)[j] = (edges ll).getD j [] := by simp only [List.getD, List.getElem?_eq_getElem hj', Option.getD_some]
    rw [e]; exact this

end Go.Proofs
namespace Go.Proofs
open Go.Gk Go.RowKit Go.Gr

theorem rLen_spec {rb : Nat} {nx : List (List Nat)} {w : World} {R : Value → World → Prop} (h : IsR w rb nx) (hR : R (.int .i64 (nx.length : Int)) w) :
    callR Tryz.prog 91 #[.pointer (some (blk rb))] w R := by
  refine callR.of (intaglioref14_Graph_Len_calls _ R w ?_) fun _ _ h => h
  obtain ⟨s, hs, h1, h2⟩ := h
  refine ⟨s, h1.cell0 rfl, ?_⟩
  have e : s.l = nx.length := by have := h2.top.len; have := h2.len; omega
  show R (.int .i64 (s.l : Int)) w
  rw [e]; exact hR

/-- Read a row of the document's graph. -/
theorem rRow {w : World} {rb : Nat} {s : Sl} {hs : List Sl} {nx : List (List Nat)} (h1 : Blk w rb 185 [s.val]) (h2 : IsNN w s hs nx) {i : Nat} (hi : i < nx.length) {φ : Sl → Prop} (hφ : ∀ (hi' : i < hs.length), φ hs[i]) :
    derefP (some (blk rb)) fun a => ldS w a fun x => (0 ≤ (i : Int) ∧ (i : Int) < (x.l : Int)) ∧ derefP x.a fun a => ldS w (a.add (Int.toNat (i : Int))) φ := by
  have hl := h2.len
  exact ⟨s, h1.cell0 rfl, elemS h2.top (k := i) (by omega) (hφ (by omega))⟩

theorem rNext_spec {rb : Nat} {nx : List (List Nat)} (hx : NxOk nx) {i : Int} {w : World} {R : Value → World → Prop} (h : IsR w rb nx)
    (hR : ∀ r w', Own w' 3 1 r ((rowAt nx i).map iN) → Below w.heap.size w w' → R (.slice r.a r.l r.c) w') :
    callR Tryz.prog 92 #[.pointer (some (blk rb)), .int .i64 i] w R := by
  refine callR.of (intaglioref14_Graph_Next_calls _ i R w ?_) fun _ _ h => h
  have none : ¬ (0 ≤ i ∧ i < nx.length) → R (.slice none 0 0) w := fun hn => hR ⟨none, 0, 0⟩ w (by rw [rowAt_out hn]; exact Own.nil _ _ _) (Below.refl _ _)
  refine JoinW.cut (fun _ w' => w' = w ∧ 0 ≤ i ∧ i < nx.length) (ifB_dec (fun h0 => none (by omega)) fun h0 => rLen_spec h ⟨_, rfl, ifB_dec (fun h1 => none (by omega)) fun h1 => ⟨rfl, by omega, by omega⟩⟩) ?_
  rintro _ wx ⟨ewx, h0, h1⟩
  subst wx
  obtain ⟨k, rfl⟩ := Int.eq_ofNat_of_zero_le h0
  have hk : k < nx.length := by omega
  have hgd : nx.getD k [] = nx[k] := by simp [List.getD, hk]
  have hrl := hx.row_le k
  have hmx := hx.max
  rw [rowAt_nat] at hR
  obtain ⟨s, hs, g1, g2⟩ := h
  have hrow : ∀ {w' : World}, Below w.heap.size w w' → ∀ (h' : k < hs.length), IsN w' hs[k] (nx.getD k []) := fun hb h' => by rw [hgd]; exact (g2.below hb).row k h' hk
  refine LoopW.countS (nx.getD k []).length (by omega) (fun j l w' => Below w.heap.size w w' ∧ w.heap.size ≤ w'.heap.size ∧ Own w' 3 1 l (((nx.getD k []).take j).map iN) ∧ Fresh w.heap.size l)
    ⟨Below.refl _ _, Nat.le_refl _, by simpa using Own.nil _ _ _, fun a ha => by cases ha⟩ ?_
  rintro j l w2 hj ⟨hb, hz, ho, hf⟩ next hnext
  refine rRow (g1.below hb) (g2.below hb) hk fun hh => ?_
  have hrn : hs[k].l = (nx.getD k []).length := (hrow hb hh).len
  refine ifB_dec (fun hlt => ?_) (fun hge => ?_)
  · have hlt : j < (nx.getD k []).length := by dsimp only at hlt; omega
    refine rRow (g1.below hb) (g2.below hb) hk fun hh => ?_
    refine elemN (hrow hb hh) hlt ?_
    refine push_own rfl hb hz ho hf (by simp; omega) fun r' w' k1 k2 k3 k4 => hnext r' w' hlt ⟨k1, k2, ?_, k4⟩
    rw [List.take_succ_eq_append_getElem hlt]; exact k3
  · have hj' : j = (nx.getD k []).length := by dsimp only at hge; omega
    subst hj'
    rw [List.take_length] at ho
    exact hR l w2 ho hb

theorem ahead_I {nx : List (List Nat)} (hx : NxOk nx) (i : Int) : rowAt (aheadOf nx) i = (List.range nx.length).filter fun k => ((nx.getD k []).map fun (x : Nat) => (x : Int)).contains i := by
  by_cases h : 0 ≤ i ∧ i < nx.length
  · obtain ⟨k, rfl⟩ := Int.eq_ofNat_of_zero_le h.1
    rw [rowAt_nat, ahead_getD (by omega)]
    refine List.filter_congr fun j _ => ?_
    rw [containsN]
  · rw [rowAt_out (by rw [ahead_length]; exact h)]
    symm
    rw [List.filter_eq_nil_iff]
    intro k hk
    rw [List.contains_iff_mem]
    intro hm
    obtain ⟨x, hxm, rfl⟩ := List.mem_map.1 hm
    have := hx.rows k x hxm
    omega

theorem rAhead_spec {rb : Nat} {nx : List (List Nat)} (hx : NxOk nx) {i : Int} {w : World} {R : Value → World → Prop} (h : IsR w rb nx)
    (hR : ∀ r w', Own w' 3 1 r ((rowAt (aheadOf nx) i).map iN) → Below w.heap.size w w' → R (.slice r.a r.l r.c) w') :
    callR Tryz.prog 93 #[.pointer (some (blk rb)), .int .i64 i] w R := by
  refine callR.of (intaglioref14_Graph_Ahead_calls _ i R w ?_) fun _ _ h => h
  have hmx := hx.max
  rw [ahead_I hx] at hR
  obtain ⟨P, hP⟩ : ∃ P : Nat → Bool, P = fun k => ((nx.getD k []).map fun (x : Nat) => (x : Int)).contains i := ⟨_, rfl⟩
  rw [← hP] at hR
  obtain ⟨s, hs, g1, g2⟩ := h
  refine LoopW.countS nx.length (by omega) (fun j l w' => Below w.heap.size w w' ∧ w.heap.size ≤ w'.heap.size ∧ Own w' 3 1 l (((List.range j).filter P).map iN) ∧ Fresh w.heap.size l)
    ⟨Below.refl _ _, Nat.le_refl _, by simpa using Own.nil _ _ _, fun a ha => by cases ha⟩ ?_
  rintro j l w2 hj ⟨hb, hz, ho, hf⟩ next hnext
  refine rLen_spec ⟨s, hs, g1.below hb, g2.below hb⟩ ⟨_, rfl, ifB_dec (fun hlt => ?_) (fun hge => ?_)⟩
  · have hlt : j < nx.length := by dsimp only at hlt; omega
    refine JoinW.cut (fun st w' => Below w.heap.size w w' ∧ w.heap.size ≤ w'.heap.size ∧ Own w' 3 1 st.1 (((List.range (j + 1)).filter P).map iN) ∧ Fresh w.heap.size st.1) ?_ fun st w' hh => hnext st.1 w' hlt hh
    refine rRow (g1.below hb) (g2.below hb) hlt fun hh => ?_
    have hrow := (g2.below hb).row j hh hlt
    have hgd : nx[j] = nx.getD j [] := by simp [List.getD, hlt]
    rw [hgd] at hrow
    rw [List.range_succ, List.filter_append]
    refine in_spec (IsS.toI hrow) ⟨_, rfl, ifB_bool (fun hc => ?_) (fun hc => ?_)⟩
    · have e : [j].filter P = [j] := by rw [hP]; simp only [List.filter_cons, hc, if_true, List.filter_nil]
      rw [e]
      have hlen := List.length_filter_le P (List.range j)
      simp only [List.length_range] at hlen
      exact push_own rfl hb hz ho hf (by omega) fun r' w' k1 k2 k3 k4 => ⟨k1, k2, k3, k4⟩
    · have e : [j].filter P = [] := by rw [hP]; simp only [List.filter_cons, hc, Bool.false_eq_true, if_false, List.filter_nil]
      rw [e, List.append_nil]
      exact ⟨hb, hz, ho, hf⟩
  · have hj' : j = nx.length := by dsimp only at hge; omega
    subst hj'
    exact hR l w2 ho hb

structure CR (w0 w1 : World) (B wb rb : Nat) (s : Sl) (hs : List Sl) (nx : List (List Nat)) : Prop where
  size : w1.heap.size = B
  low : w0.heap.size ≤ wb
  wlt : wb < B
  bel : Below w0.heap.size w0 w1
  g : Blk w0 rb 185 [s.val]
  next : IsNN w0 s hs nx
  ok : NxOk nx
theorem CR.below {w0 w1 w' : World} {B wb rb : Nat} {s : Sl} {hs : List Sl} {nx : List (List Nat)} (cw : CR w0 w1 B wb rb s hs nx) (hf : Fr B (· = wb) w1 w') : Below w0.heap.size w0 w' :=
  cw.bel.trans ((hf.mono (B' := w0.heap.size) (X' := fun _ => False) (by have := cw.low; have := cw.wlt; omega) (fun k hk e => by have := cw.low; omega)).below)
structure SR (w1 : World) (B wb : Nat) (w : World) (s : List Nat × List Nat) : Prop where
  fr : Fr B (· = wb) w1 w
  st : ∃ cm lf, Blk w wb 191 [cm.val, lf.val] ∧ Own w 3 1 cm (s.1.map iN) ∧ Own w 3 1 lf (s.2.map iN) ∧ Fresh B cm ∧ Fresh B lf ∧ ∀ a b, cm.a = some a → lf.a = some b → a.block ≠ b.block

set_option maxHeartbeats 1000000 in
theorem to_spec {w0 w1 : World} {B wb rb : Nat} {s0 : Sl} {hs : List Sl} {nx : List (List Nat)} (cw : CR w0 w1 B wb rb s0 hs nx) :
    ∀ (f i : Nat) (s : List Nat × List Nat) (w : World) (R : Value → World → Prop), i < nx.length → i ∉ s.1 → s.1.Nodup → (∀ x ∈ s.1, x < nx.length) → nx.length ≤ s.1.length + f → s.2.length ≤ s.1.length →
      SR w1 B wb w s → (∀ w', SR w1 B wb w' (visit nx f i s) → R (.tuple #[]) w') →
      callR Tryz.prog 136 #[.pointer (some (blk wb)), .pointer (some (blk rb)), .int .i64 (i : Int)] w R := by
  intro f
  induction f with
  | zero =>
    intro i s w R hi hni hnd hlt hf
    have := nodup_lt hnd hlt hi hni
    omega
  | succ f ih =>
    intro i s w R hi hni hnd hlt hf h2l hcs hR
    have hmax := cw.ok.max
    have hslt := nodup_lt hnd hlt hi hni
    refine callR.of (intaglioref14_walker_to_calls (some (blk wb)) (some (blk rb)) (i : Int) R w ?_) fun _ _ h => h
    have gg : ∀ {w' : World}, Fr B (· = wb) w1 w' → Blk w' rb 185 [s0.val] := fun hf => cw.g.below (cw.below hf)
    have next : ∀ {w' : World}, Fr B (· = wb) w1 w' → IsNN w' s0 hs nx := fun hf => cw.next.below (cw.below hf)
    obtain ⟨hfr, cm, lf, hG, hcm, hlf, hfc, hfl, hap⟩ := hcs
    have hBsz : ∀ {w' : World}, Fr B (· = wb) w1 w' → B ≤ w'.heap.size := fun hf => by have := hf.size; have := cw.size; omega
    refine ⟨cm, hG.cell0 rfl, Nw.gen fun w3 hw3 => ?_⟩
    have hG3 : Blk w3 wb 191 [cm.val, lf.val] := by rw [hw3]; exact hG.alloc _
    have hfr3 : Fr B (· = wb) w1 w3 := by rw [hw3]; exact hfr.alloc (hBsz hfr) _
    have ht3 : Blk w3 w.heap.size 3 [iN i] := by rw [hw3]; exact Blk.new w 3 #[iN i]
    have hcm3 : Own w3 3 1 cm (s.1.map iN) := by rw [hw3]; exact hcm.alloc _
    have hlf3 : Own w3 3 1 lf (s.2.map iN) := by rw [hw3]; exact hlf.alloc _
    have hsz3 : w3.heap.size = w.heap.size + 1 := by rw [hw3]; simp
    have hcl := own_len hcm3
    refine append_one eInt hcm3 rfl ht3 (by omega) (by omega) fun r w4 hr hrl ⟨b, hrb, hbo, hg⟩ => ?_
    have hbB : B ≤ b := by
      rcases hbo with hb | rfl
      · exact hfc _ hb
      · exact hBsz hfr3
    have hfr4 : Fr B (· = wb) w1 w4 := hfr3.grown hg hbB (hBsz hfr3)
    have hwbb : wb ≠ b := by have := cw.wlt; omega
    have hG4 : Blk w4 wb 191 [cm.val, lf.val] := hG3.of_block (hg.block wb hG3.lt (fun e => hwbb (Option.some.inj e)))
    have hlfne : ∀ a, lf.a = some a → a.block ≠ b := fun a ha e => by
      rcases hbo with hb | hb
      · exact hap _ _ hb ha e.symm
      · have := (hlf3.lt ha).2; omega
    have hlf4 : Own w4 3 1 lf (s.2.map iN) := hlf3.of_block fun a ha => hg.block _ (hlf3.lt ha).2 (fun e => hlfne a ha (Option.some.inj e))
    refine ⟨hG4.wr0 (by simp), Nw.gen fun w5 hw5 => ?_⟩
    have hG5 : Blk w5 wb 191 [r.val, lf.val] := by rw [hw5]; exact hG4.set0 _
    have hfr5 : Fr B (· = wb) w1 w5 := by rw [hw5]; exact hfr4.set (.inr rfl) _
    have stay5 : ∀ {sl : Sl} {xs : List Value}, Own w4 3 1 sl xs → Own w5 3 1 sl xs := fun h => h.of_block fun a ha => by
      rw [hw5]; exact Below.heap_setCell _ _ _ _ (own_ne h hG4 (by decide) ha)
    have hcs5 : SR w1 B wb w5 (s.1 ++ [i], s.2) := by
      refine ⟨hfr5, r, lf, hG5, by simpa using stay5 hr, stay5 hlf4, fun a ha => ?_, hfl, fun a c ha hc => ?_⟩
      · rw [hrb] at ha; cases ha; exact hbB
      · rw [hrb] at ha; cases ha; exact (hlfne c hc).symm
    clear hw3 hG3 hfr3 ht3 hcm3 hlf3 hsz3 hG4 hlf4 hw5 stay5 hr hg hfr4 hfr hG hcm hlf
    have hlen : hs.length = nx.length := (next hfr5).len
    have hrow : ∀ {w' : World}, Fr B (· = wb) w1 w' → ∀ (h' : i < hs.length), IsN w' hs[i] (nx.getD i []) := fun hf h' => by
      have := (next hf).row i h' hi
      simpa [List.getD, hi] using this
    generalize hrl' : nx.getD i [] = row at hrow
    have hrt : ∀ t ∈ row, t < nx.length := fun t ht => cw.ok.rows i t (by rw [hrl']; exact ht)
    have base : Came nx.length s (s.1 ++ [i], s.2) := ⟨by
        rw [List.nodup_append]
        exact ⟨hnd, by simp, fun x hx y hy => by simp at hy; subst hy; intro e; subst e; exact hni hx⟩, fun x hx => by
        simp at hx
        rcases hx with hx | rfl
        · exact hlt x hx
        · exact hi, [i], rfl⟩
    have rowsOk : ∀ i, ∀ t ∈ nx.getD i [], t < nx.length := cw.ok.rows
    have hrle : row.length ≤ nx.length := by rw [← hrl']; exact cw.ok.row_le i
    refine LoopW.count row.length (by omega) (fun k w' => SR w1 B wb w' (visitAll nx f (row.take k) (s.1 ++ [i], s.2)) ∧ Came nx.length (s.1 ++ [i], s.2) (visitAll nx f (row.take k) (s.1 ++ [i], s.2)) ∧
      (visitAll nx f (row.take k) (s.1 ++ [i], s.2)).2.length < (visitAll nx f (row.take k) (s.1 ++ [i], s.2)).1.length) ⟨by simpa [visitAll] using hcs5, ?_, by simp [visitAll]; omega⟩ ?_
    · simp only [List.take_zero]
      exact ⟨base.nodup, base.lt, [], by simp [visitAll]⟩
    rintro k w6 hk ⟨hcs6, hcame, hlen6⟩ nxt hnext
    generalize hst : visitAll nx f (row.take k) (s.1 ++ [i], s.2) = st at hcs6 hcame hlen6
    have hfr6 := hcs6.fr
    refine rRow (gg hfr6) (next hfr6) hi fun hh => ?_
    have hrn : hs[i].l = row.length := (hrow hfr6 hh).len
    refine ifB_dec (fun hlt6 => ?_) (fun hge => ?_)
    · have hlt6 : k < row.length := by dsimp only at hlt6; omega
      have hsnoc : visitAll nx f (row.take (k + 1)) (s.1 ++ [i], s.2) = if st.1.contains row[k] then st else visit nx f row[k] st := by
        rw [List.take_succ_eq_append_getElem hlt6, visitAll_snoc, hst]
      refine JoinW.cut (fun _ w' => SR w1 B wb w' (visitAll nx f (row.take (k + 1)) (s.1 ++ [i], s.2)) ∧ Came nx.length (s.1 ++ [i], s.2) (visitAll nx f (row.take (k + 1)) (s.1 ++ [i], s.2)) ∧
        (visitAll nx f (row.take (k + 1)) (s.1 ++ [i], s.2)).2.length < (visitAll nx f (row.take (k + 1)) (s.1 ++ [i], s.2)).1.length) ?_ fun _ w' h => hnext w' hlt6 h
      have hcs6d : SR w1 B wb w6.drew st := ⟨hfr6.drew, hcs6.st⟩
      obtain ⟨cm6, lf6, hG6, hcm6, _⟩ := hcs6.st
      refine ⟨cm6, hG6.drew.cell0 rfl, ?_⟩
      refine rRow (gg hfr6.drew) (next hfr6.drew) hi fun hh => ?_
      refine elemN (hrow hfr6.drew hh) hlt6 ?_
      have hrk := hrt row[k] (List.getElem_mem hlt6)
      refine in_spec (IsS.toI hcm6.drew.isS) ⟨_, rfl, ifB_not ?_⟩
      rw [containsN, hsnoc]
      cases hc : st.1.contains row[k] with
      | true => exact ⟨hcs6d, hcame, hlen6⟩
      | false =>
        have hnm : row[k] ∉ st.1 := by simpa using hc
        refine rRow (gg hfr6.drew) (next hfr6.drew) hi fun hh => ?_
        refine elemN (hrow hfr6.drew hh) hlt6 ?_
        have hmore : st.1.length ≥ (s.1 ++ [i]).length := by obtain ⟨l, e⟩ := hcame.more; rw [e]; simp
        have hvc := visit_came rowsOk f row[k] st hrk hcame.nodup hcame.lt hnm
        refine ih row[k] st w6.drew _ hrk hnm hcame.nodup hcame.lt (by simp at hmore; omega) (by omega) hcs6d (fun w' h => ⟨rfl, h, ?_, ?_⟩)
        · obtain ⟨l1, e1⟩ := hcame.more
          obtain ⟨l2, e2⟩ := hvc.more
          exact ⟨hvc.nodup, hvc.lt, l1 ++ l2, by simp only [Bool.false_eq_true, if_false]; rw [e2, e1, List.append_assoc]⟩
        · have := visit_len nx f row[k] st
          simp only [Bool.false_eq_true, if_false]
          omega
    · -- i is left
      have hkk : k = row.length := by dsimp only at hge; omega
      subst hkk
      rw [List.take_length] at hst
      have hvis : visit nx (f + 1) i s = (st.1, st.2 ++ [i]) := by rw [visit_succ, hrl', hst]
      rw [hvis] at hR
      clear hst
      obtain ⟨_, cm6, lf6, hG6, hcm6, hlf6, hfc6, hfl6, hap6⟩ := hcs6
      refine ⟨lf6, hG6.cell (n := 1) rfl, Nw.gen fun w7 hw7 => ?_⟩
      have hG7 : Blk w7 wb 191 [cm6.val, lf6.val] := by rw [hw7]; exact hG6.alloc _
      have hfr7 : Fr B (· = wb) w1 w7 := by rw [hw7]; exact hfr6.alloc (hBsz hfr6) _
      have ht7 : Blk w7 w6.heap.size 3 [iN i] := by rw [hw7]; exact Blk.new w6 3 #[iN i]
      have hcm7 : Own w7 3 1 cm6 (st.1.map iN) := by rw [hw7]; exact hcm6.alloc _
      have hlf7 : Own w7 3 1 lf6 (st.2.map iN) := by rw [hw7]; exact hlf6.alloc _
      have hwl := own_len hlf7
      have hsl := nodup_le hcame.nodup hcame.lt
      refine append_one eInt hlf7 rfl ht7 (by omega) (by omega) fun r w8 hr hrl ⟨b, hrb, hbo, hg⟩ => ?_
      have hbB : B ≤ b := by
        rcases hbo with hb | rfl
        · exact hfl6 _ hb
        · exact hBsz hfr7
      have hfr8 : Fr B (· = wb) w1 w8 := hfr7.grown hg hbB (hBsz hfr7)
      have hwbb : wb ≠ b := by have := cw.wlt; omega
      have hG8 : Blk w8 wb 191 [cm6.val, lf6.val] := hG7.of_block (hg.block wb hG7.lt (fun e => hwbb (Option.some.inj e)))
      have hcmne : ∀ a, cm6.a = some a → a.block ≠ b := fun a ha e => by
        rcases hbo with hb | hb
        · exact hap6 _ _ ha hb e
        · have := (hcm7.lt ha).2; omega
      have hcm8 : Own w8 3 1 cm6 (st.1.map iN) := hcm7.of_block fun a ha => hg.block _ (hcm7.lt ha).2 (fun e => hcmne a ha (Option.some.inj e))
      refine ⟨hG8.wr (n := 1) (by simp), Nw.gen fun w9 hw9 => ?_⟩
      have hG9 : Blk w9 wb 191 [cm6.val, r.val] := by rw [hw9]; exact hG8.set 1 _
      have hfr9 : Fr B (· = wb) w1 w9 := by rw [hw9]; exact hfr8.set (.inr (by rw [add_block])) _
      have stay9 : ∀ {sl : Sl} {xs : List Value}, Own w8 3 1 sl xs → Own w9 3 1 sl xs := fun h => h.of_block fun a ha => by
        rw [hw9]; exact Below.heap_setCell _ _ _ _ (by rw [add_block]; exact own_ne h hG8 (by decide) ha)
      refine hR w9 ⟨hfr9, cm6, r, hG9, stay9 hcm8, by simpa using stay9 hr, hfc6, fun a ha => ?_, fun a c ha hc => ?_⟩
      · rw [hrb] at ha; cases ha; exact hbB
      · rw [hrb] at hc; cases hc; exact hcmne a ha

end Go.Proofs
namespace Go.Gr

/-- A way leads from the first node to a node, never through wo. -/
inductive ReachN (nx : List (List Nat)) (wo : Int) : Nat → Prop
  | zero : wo ≠ 0 → 0 < nx.length → ReachN nx wo 0
  | step {i t : Nat} : ReachN nx wo i → t ∈ nx.getD i [] → (t : Int) ≠ wo → ReachN nx wo t

/-- What comes anew lies on edges, and has its edges' ends come too. -/
structure Clo (nx : List (List Nat)) (Q : Nat → Prop) (s s' : List Nat × List Nat) : Prop where
  came : ∀ x ∈ s.1, x ∈ s'.1
  closed : ∀ x ∈ s'.1, x ∈ s.1 ∨ ∀ t ∈ nx.getD x [], t ∈ s'.1
  sound : ∀ x ∈ s'.1, x ∈ s.1 ∨ Q x
theorem visit_clo {nx : List (List Nat)} (hnx : ∀ i, ∀ t ∈ nx.getD i [], t < nx.length) {Q : Nat → Prop} (hQ : ∀ i, Q i → ∀ t ∈ nx.getD i [], Q t) :
    ∀ (f i : Nat) (s : List Nat × List Nat), i < nx.length → s.1.Nodup → (∀ x ∈ s.1, x < nx.length) → i ∉ s.1 → nx.length ≤ s.1.length + f → Q i → Clo nx Q s (visit nx f i s) ∧ i ∈ (visit nx f i s).1 := by
  intro f
  induction f with
  | zero =>
    intro i s hi hnd hlt hni hf
    have := nodup_lt hnd hlt hi hni
    omega
  | succ f ih =>
    intro i s hi hnd hlt hni hf hq
    have hslt := nodup_lt hnd hlt hi hni
    have all : ∀ (l : List Nat) (s1 : List Nat × List Nat), (∀ t ∈ l, t < nx.length ∧ Q t) → s1.1.Nodup → (∀ x ∈ s1.1, x < nx.length) → nx.length ≤ s1.1.length + f → Clo nx Q s1 (visitAll nx f l s1) ∧ ∀ t ∈ l, t ∈ (visitAll nx f l s1).1 := by
      intro l
      induction l with
      | nil => intro s1 _ _ _ _; exact ⟨⟨fun _ h => h, fun _ h => .inl h, fun _ h => .inl h⟩, by simp⟩
      | cons t r ihl =>
        intro s1 hl h1 h2 h3
        have e : visitAll nx f (t :: r) s1 = visitAll nx f r (if s1.1.contains t then s1 else visit nx f t s1) := rfl
        rw [e]
        have ht := hl t (by simp)
        by_cases hc : t ∈ s1.1
        · rw [if_pos (by simpa using hc)]
          obtain ⟨g1, g2⟩ := ihl s1 (fun u hu => hl u (by simp [hu])) h1 h2 h3
          refine ⟨g1, fun u hu => ?_⟩
          rcases List.mem_cons.1 hu with rfl | hu
          · exact g1.came _ hc
          · exact g2 u hu
        · rw [if_neg (by simpa using hc)]
          obtain ⟨v1, v2⟩ := ih t s1 ht.1 h1 h2 hc h3 ht.2
          have hv := visit_came hnx f t s1 ht.1 h1 h2 hc
          have hm : s1.1.length ≤ (visit nx f t s1).1.length := by obtain ⟨l, e⟩ := hv.more; rw [e]; simp
          obtain ⟨g1, g2⟩ := ihl (visit nx f t s1) (fun u hu => hl u (by simp [hu])) hv.nodup hv.lt (by omega)
          refine ⟨⟨fun x hx => g1.came x (v1.came x hx), fun x hx => ?_, fun x hx => ?_⟩, fun u hu => ?_⟩
          · rcases g1.closed x hx with h | h
            · rcases v1.closed x h with h | h
              · exact .inl h
              · exact .inr fun u hu => g1.came u (h u hu)
            · exact .inr h
          · rcases g1.sound x hx with h | h
            · exact v1.sound x h
            · exact .inr h
          · rcases List.mem_cons.1 hu with rfl | hu
            · exact g1.came _ v2
            · exact g2 u hu
    rw [visit_succ]
    have hb : (s.1 ++ [i]).Nodup := by
      rw [List.nodup_append]
      exact ⟨hnd, by simp, fun x hx y hy => by simp at hy; subst hy; intro e; subst e; exact hni hx⟩
    obtain ⟨a1, a2⟩ := all (nx.getD i []) (s.1 ++ [i], s.2) (fun t ht => ⟨hnx i t ht, hQ i hq t ht⟩) hb (fun x hx => by
      rcases List.mem_append.1 hx with h | h
      · exact hlt x h
      · simp at h; subst h; exact hi) (by simp; omega)
    refine ⟨⟨fun x hx => a1.came x (List.mem_append.2 (.inl hx)), fun x hx => ?_, fun x hx => ?_⟩, a1.came i (by simp)⟩
    · rcases a1.closed x hx with h | h
      · rcases List.mem_append.1 h with h | h
        · exact .inl h
        · simp at h; subst h; exact .inr a2
      · exact .inr h
    · rcases a1.sound x hx with h | h
      · rcases List.mem_append.1 h with h | h
        · exact .inl h
        · simp at h; subst h; exact .inr hq
      · exact .inr h

theorem walk_reach {nx : List (List Nat)} (hnx : ∀ i, ∀ t ∈ nx.getD i [], t < nx.length) (h0 : 0 < nx.length) (j : Nat) : j ∈ walkOf nx ↔ ReachN nx (-1) j := by
  obtain ⟨c, c0⟩ := visit_clo hnx (Q := ReachN nx (-1)) (fun i hi t ht => .step hi ht (by omega)) nx.length 0 ([], []) h0 (by simp) (by simp) (by simp) (by simp) (.zero (by decide) h0)
  constructor
  · intro h
    rcases c.sound j h with h | h
    · cases h
    · exact h
  · intro h
    induction h with
    | zero => exact c0
    | step _ ht _ ih =>
      rcases c.closed _ ih with h | h
      · cases h
      · exact h _ ht

/-- Marks that hold all that they lead to hold all that is reached. -/
theorem reach_of_closed {nx : List (List Nat)} {wo : Int} {S : Nat → Prop} (h0 : 0 < nx.length → wo ≠ 0 → S 0) (hs : ∀ i, S i → ∀ t ∈ nx.getD i [], (t : Int) ≠ wo → S t) {j : Nat} (h : ReachN nx wo j) : S j := by
  induction h with
  | zero h1 h2 => exact h0 h2 h1
  | step _ ht hw ih => exact hs _ ih _ ht hw

end Go.Gr
namespace Go.Proofs
open Go.Gk Go.RowKit Go.Gr

/-- A walk from the first node, by a new walker. -/
theorem walk0 {rb : Nat} {nx : List (List Nat)} (hx : NxOk nx) {w : World} (h : IsR w rb nx) {k : World → Prop}
    (hk : ∀ w' cm lf, Below w.heap.size w w' → w.heap.size < w'.heap.size → Blk w' w.heap.size 191 [cm.val, lf.val] → Own w' 3 1 cm ((walkOf nx).map iN) → Own w' 3 1 lf ((visit nx nx.length 0 ([], [])).2.map iN) → k w') :
    Nw (w.alloc (.cells #[(.slice none 0 0), (.slice none 0 0)] 191)) fun w1 => JoinW (S := Unit) (fun m1 =>
      callR Tryz.prog 91 #[.pointer (some (blk rb))] w1 fun v3 w2 =>
      ∃ x4 : Int, v3 = (.int .i64 x4) ∧
      ifB (decide (x4 > (0 : Int)))
        (callR Tryz.prog 136 #[(.pointer (some (blk w.heap.size))), .pointer (some (blk rb)), (.int .i64 (0 : Int))] w2 fun v5 w3 =>
        v5 = (.tuple #[]) ∧
        m1 (()) w3)
        (m1 (()) w2))
    (fun _ w' => k w') := by
  refine Nw.gen fun w1 hw1 => ?_
  have hG1 : Blk w1 w.heap.size 191 [(⟨none, 0, 0⟩ : Sl).val, (⟨none, 0, 0⟩ : Sl).val] := by rw [hw1]; exact Blk.new w _ #[_, _]
  have hb1 : Below w.heap.size w w1 := by rw [hw1]; exact (Below.refl _ _).alloc (Nat.le_refl _) _
  have hz1 : w1.heap.size = w.heap.size + 1 := by rw [hw1]; simp
  refine JoinW.all (rLen_spec (h.below hb1) ⟨_, rfl, ifB_true (by have := hx.pos; simpa using this) ?_⟩)
  obtain ⟨s, hs, g1, g2⟩ := h
  have cw : CR w w1 w1.heap.size w.heap.size rb s hs nx := ⟨rfl, Nat.le_refl _, by omega, hb1, g1, g2, hx⟩
  refine to_spec cw nx.length 0 ([], []) w1 _ hx.pos (by simp) (by simp) (by simp) (by simp) (by simp)
    ⟨Fr.refl _ _ _, ⟨none, 0, 0⟩, ⟨none, 0, 0⟩, hG1, Own.nil _ _ _, Own.nil _ _ _, fun a h => (by cases h), fun a h => (by cases h), fun a b h => by cases h⟩ fun w' ⟨hfr, cm, lf, k1, k2, k3, _⟩ => ⟨rfl, ?_⟩
  have hb' : Below w.heap.size w w' := hb1.trans (hfr.mono (B' := w.heap.size) (X' := fun _ => False) (by omega) (fun k hk e => by omega)).below
  exact hk w' cm lf hb' (by have := hfr.size; omega) k1 k2 k3

theorem rOrder_spec {rb : Nat} {nx : List (List Nat)} (hx : NxOk nx) {w : World} {R : Value → World → Prop} (h : IsR w rb nx)
    (hR : ∀ r w', Own w' 3 1 r ((orderOf nx).map iN) → Below w.heap.size w w' → R (.slice r.a r.l r.c) w') :
    callR Tryz.prog 95 #[.pointer (some (blk rb))] w R := by
  refine callR.of (intaglioref14_Graph_Order_calls _ R w ?_) fun _ _ h => h
  refine walk0 hx h fun w' cm lf h1 h2 h3 h4 h5 => ⟨lf, h3.cell (n := 1) rfl, ?_⟩
  obtain ⟨l, hl⟩ : ∃ l, l = (visit nx nx.length 0 ([], [])).2 := ⟨_, rfl⟩
  have ho : orderOf nx = l.reverse := by rw [hl]; rfl
  have hlen : l.length ≤ 4096 := by have h1 := order_len nx; have := hx.walk_le; have := hx.max; rw [ho, List.length_reverse] at h1; omega
  rw [ho] at hR
  rw [← hl] at h5
  clear ho hl
  have hll := own_len h5
  have e0 : IntKind.i64.wrap ((lf.l : Int) - 1) = (l.length : Int) - 1 := by rw [wrap64_in (by omega) (by omega)]; omega
  rw [e0]
  refine LoopW.ghost (fun j s w2 => ∃ k r, k ≤ l.length ∧ j = l.length - k ∧ s = (r, (l.length : Int) - 1 - (k : Int), ()) ∧ Below w'.heap.size w' w2 ∧ w'.heap.size ≤ w2.heap.size ∧ Own w2 3 1 r ((l.reverse.take k).map iN) ∧ Fresh w'.heap.size r) l.length
    ⟨0, ⟨none, 0, 0⟩, Nat.zero_le _, rfl, by simp, Below.refl _ _, Nat.le_refl _, by simpa using Own.nil _ _ _, fun a ha => by cases ha⟩ ?_
  rintro _ _ w2 ⟨k, r, hk, rfl, rfl, hb, hz, hor, hf⟩ next hnext
  refine ifB_dec (fun hlt => ?_) (fun hge => ?_)
  · have hlt : k < l.length := by dsimp only at hlt; omega
    have h3' := h3.below hb
    have h5' := h5.below hb
    refine ⟨lf, h3'.cell (n := 1) rfl, ?_⟩
    have ei : (l.length : Int) - 1 - (k : Int) = ((l.length - 1 - k : Nat) : Int) := by omega
    dsimp only
    rw [ei]
    refine elemN h5'.isS (k := l.length - 1 - k) (by omega) ?_
    refine push_own (y := l[l.length - 1 - k]) rfl hb hz hor hf (by simp; omega) fun r' w3 k1 k2 k3 k4 => hnext (l.length - (k + 1)) _ _ (by omega) ⟨k + 1, r', hlt, rfl, ?_, k1, k2, ?_, k4⟩
    · rw [wrap64_in (by omega) (by omega)]
      congr 2
      omega
    · rw [List.take_succ_eq_append_getElem (by simpa using hlt), List.getElem_reverse]; exact k3
  · have hk' : k = l.length := by dsimp only at hge; omega
    subst hk'
    rw [List.take_of_length_le (by simp)] at hor
    exact hR r w2 hor (h1.trans (hb.mono (by omega)))

end Go.Proofs
namespace Go.Proofs
open Go.Gk Go.RowKit Go.Gr

theorem count_up {bl : List Bool} {t : Nat} (ht : t < bl.length) (hf : bl.getD t false = false) : bl.count true < (bl.set t true).count true := by
  have e : bl[t] = false := by simpa [List.getD, ht] using hf
  rw [List.count_set ht, e]
  simp
theorem getD_set {bl : List Bool} {t j : Nat} (ht : t < bl.length) : (bl.set t true).getD j false = (bl.getD j false || j == t) := by
  simp only [List.getD, List.getElem?_set]
  by_cases e : t = j
  · subst e; simp [ht]
  · simp [e, Ne.symm e]

/-- The marks under way. -/
structure Mk (w0 : World) (nx : List (List Nat)) (wo : Int) (w : World) (bl : List Bool) : Prop where
  below : Below w0.heap.size w0 w
  blk : Blk w w0.heap.size 4 (bl.map Value.bool)
  len : bl.length = nx.length
  sound : ∀ j, bl.getD j false = true → ReachN nx wo j
  zero : bl.getD 0 false = true
theorem Mk.ld {w0 : World} {nx : List (List Nat)} {wo : Int} {w : World} {bl : List Bool} (h : Mk w0 nx wo w bl) {i : Nat} (hi : i < nx.length) {φ : Bool → Prop} (hφ : φ (bl.getD i false)) : ldB w ((Go.Gk.blk w0.heap.size).add i) φ := by
  refine ⟨bl.getD i false, h.blk.cell ?_, hφ⟩
  have : i < bl.length := by rw [h.len]; exact hi
  simp [List.getD, this]
theorem Mk.set {w0 : World} {nx : List (List Nat)} {wo : Int} {w : World} {bl : List Bool} (h : Mk w0 nx wo w bl) {t : Nat} (ht : t < nx.length) (hr : ReachN nx wo t) : Mk w0 nx wo (w.setCell ((Go.Gk.blk w0.heap.size).add t) (.bool true)) (bl.set t true) := by
  have htl : t < bl.length := by rw [h.len]; exact ht
  refine ⟨h.below.setCell (by rw [add_block]; exact Nat.le_refl _) _, ?_, by rw [List.length_set]; exact h.len, fun j hj => ?_, ?_⟩
  · rw [List.map_set]; exact h.blk.set t _
  · rw [getD_set htl, Bool.or_eq_true] at hj
    rcases hj with hj | hj
    · exact h.sound j hj
    · have : j = t := by simpa using hj
      subst this; exact hr
  · rw [getD_set htl, h.zero]; rfl
/-- What row i leads to is marked. -/
def ClAt (nx : List (List Nat)) (wo : Int) (bl : List Bool) (i : Nat) : Prop := bl.getD i false = true → ∀ t ∈ nx.getD i [], (t : Int) ≠ wo → bl.getD t false = true

set_option maxHeartbeats 1000000 in
theorem All_spec {rb : Nat} {nx : List (List Nat)} (hx : NxOk nx) {wo : Int} {w : World} {R : Value → World → Prop} (h : IsR w rb nx)
    (hR : ∀ w' (bl : List Bool), Below w.heap.size w w' → Blk w' w.heap.size 4 (bl.map Value.bool) → bl.length = nx.length → (∀ j, bl.getD j false = true ↔ ReachN nx wo j) → R (.slice (some (blk w.heap.size)) nx.length nx.length) w') :
    callR Tryz.prog 135 #[.pointer (some (blk rb)), .int .i64 wo] w R := by
  refine callR.of (intaglioref14_Graph_All_calls _ wo R w ?_) fun _ _ h => h
  have hmx := hx.max
  have hps := hx.pos
  refine rLen_spec h ⟨_, rfl, ⟨by omega, by omega, by omega, by omega⟩, Nw.gen fun w2 hw2 => ?_⟩
  have hb2 : Below w.heap.size w w2 := by rw [hw2]; exact (Below.refl _ _).alloc (Nat.le_refl _) _
  have hB2 : Blk w2 w.heap.size 4 (List.replicate nx.length (.bool false)) := by rw [hw2]; exact Blk.made w _ _ _
  clear hw2
  have hst : ∀ {w' : World}, Below w.heap.size w w' → IsR w' rb nx := fun hb => h.below hb
  have hz : (List.replicate nx.length false).map Value.bool = List.replicate nx.length (.bool false) := List.map_replicate
  refine JoinW.cut (fun _ w' => w' = w2 ∧ wo ≠ 0) (rLen_spec (hst hb2) ⟨_, rfl, ifB_beq (fun he => by omega) fun _ => ifB_beq (fun he => ?_) fun he => ⟨rfl, he⟩⟩) ?_
  · refine hR w2 (List.replicate nx.length false) hb2 (by rw [hz]; exact hB2) (by simp) fun j => ⟨fun hj => ?_, fun hj => ?_⟩
    · exfalso
      simp only [List.getD, List.getElem?_replicate] at hj
      split at hj <;> simp at hj
    · exfalso
      subst he
      induction hj with
      | zero h _ => exact h rfl
      | step _ _ _ ih => exact ih
  rintro _ wx ⟨ewx, hwo⟩
  subst wx
  refine ⟨⟨by first | omega | (dsimp only; omega), by first | omega | (dsimp only; omega)⟩, hB2.wr (n := 0) (by simp; omega), Nw.gen fun w5 hw5 => ?_⟩
  have hm5 : Mk w nx wo w5 ((List.replicate nx.length false).set 0 true) := by
    have hl0 : 0 < (List.replicate nx.length false).length := by simpa using hps
    refine ⟨by rw [hw5]; exact hb2.setCell (by rw [add_block]; exact Nat.le_refl _) _, ?_, by simp, fun j hj => ?_, ?_⟩
    · rw [hw5, List.map_set, hz]; exact hB2.set 0 _
    · rw [getD_set hl0] at hj
      have e : (List.replicate nx.length false).getD j false = false := by
        simp only [List.getD, List.getElem?_replicate]
        split <;> rfl
      rw [e, Bool.false_or] at hj
      have : j = 0 := by simpa using hj
      subst this
      exact .zero hwo hps
    · rw [getD_set hl0]; simp
  clear hw5
  -- till nothing turns
  refine LoopW.ghost (fun j s w' => ∃ bl m, Mk w nx wo w' bl ∧ s = (m, ()) ∧ (m = false → ∀ i, ClAt nx wo bl i) ∧ j = if m then nx.length - bl.count true + 1 else 0) (nx.length - ((List.replicate nx.length false).set 0 true).count true + 1) ⟨_, true, hm5, rfl, (fun h => by cases h), rfl⟩ ?_
  rintro _ _ w6 ⟨bl, m, hm6, rfl, hcl, rfl⟩ next hnext
  refine ifB_bool (fun hm => ?_) (fun hm => ?_)
  · have hm : m = true := hm
    subst hm
    refine LoopW.countS nx.length (by omega) (fun i m w' => ∃ bl', Mk w nx wo w' bl' ∧ (m = false → bl' = bl ∧ ∀ i', i' < i → ClAt nx wo bl i') ∧ (m = true → bl.count true < bl'.count true)) ⟨bl, hm6, fun _ => ⟨rfl, fun i' hi' => by omega⟩, fun h => by cases h⟩ ?_
    rintro i m w7 hi ⟨bl7, hm7, hf7, ht7⟩ nxt hnxt
    refine rLen_spec (hst hm7.below) ⟨_, rfl, ifB_dec (fun hlt => ?_) (fun hge => ?_)⟩
    · have hlt : i < nx.length := by dsimp only at hlt; omega
      refine JoinW.cut (fun st w' => ∃ bl', Mk w nx wo w' bl' ∧ (st.1 = false → bl' = bl ∧ ∀ i', i' < i + 1 → ClAt nx wo bl i') ∧ (st.1 = true → bl.count true < bl'.count true)) ?_ fun st w' hh => hnxt st.1 w' hlt hh
      refine ⟨⟨by first | omega | (dsimp only; omega), by first | omega | (dsimp only; omega)⟩, hm7.ld hlt (ifB_not (ifB_bool (fun hmk => ?_) (fun hmk => ?_)))⟩
      · -- a node that is marked
        obtain ⟨sr, hs, g1, g2⟩ := h
        have hgd : nx.getD i [] = nx[i] := by simp [List.getD, hlt]
        have hrow : ∀ {w' : World}, Below w.heap.size w w' → ∀ (h' : i < hs.length), IsN w' hs[i] (nx.getD i []) := fun hb h' => by rw [hgd]; exact (g2.below hb).row i h' hlt
        have hrl := hx.row_le i
        have hri : ReachN nx wo i := hm7.sound i hmk
        refine LoopW.countS (nx.getD i []).length (by omega) (fun k m w' => ∃ bl', Mk w nx wo w' bl' ∧ (m = false → bl' = bl ∧ (∀ i', i' < i → ClAt nx wo bl i') ∧ ∀ k', k' < k → ∀ (hk' : k' < (nx.getD i []).length), (((nx.getD i [])[k'] : Nat) : Int) ≠ wo → bl.getD (nx.getD i [])[k'] false = true) ∧ (m = true → bl.count true < bl'.count true))
          ⟨bl7, hm7, fun hm => ⟨(hf7 hm).1, (hf7 hm).2, fun k' hk' => by omega⟩, ht7⟩ ?_
        rintro k m9 w9 hk ⟨bl9, hm9, hf9, ht9⟩ nx3 hnx3
        refine rRow (g1.below hm9.below) (g2.below hm9.below) hlt fun hh => ?_
        have hrn : hs[i].l = (nx.getD i []).length := (hrow hm9.below hh).len
        refine ifB_dec (fun hltk => ?_) (fun hgek => ?_)
        · have hltk : k < (nx.getD i []).length := by dsimp only at hltk; omega
          refine JoinW.cut (fun st w' => ∃ bl', Mk w nx wo w' bl' ∧ (st.1 = false → bl' = bl ∧ (∀ i', i' < i → ClAt nx wo bl i') ∧ ∀ k', k' < k + 1 → ∀ (hk' : k' < (nx.getD i []).length), (((nx.getD i [])[k'] : Nat) : Int) ≠ wo → bl.getD (nx.getD i [])[k'] false = true) ∧ (st.1 = true → bl.count true < bl'.count true)) ?_ fun st w' hh => hnx3 st.1 w' hltk hh
          refine rRow (g1.below hm9.below) (g2.below hm9.below) hlt fun hh => ?_
          refine elemN (hrow hm9.below hh) hltk ?_
          have htn : (nx.getD i [])[k] < nx.length := hx.rows i _ (List.getElem_mem hltk)
          generalize ht : (nx.getD i [])[k] = t at htn
          have hmem : t ∈ nx.getD i [] := by rw [← ht]; exact List.getElem_mem hltk
          have keep : (m9 = false → (t : Int) ≠ wo → bl.getD t false = true) → ∃ bl', Mk w nx wo w9 bl' ∧ (m9 = false → bl' = bl ∧ (∀ i', i' < i → ClAt nx wo bl i') ∧ ∀ k', k' < k + 1 → ∀ (hk' : k' < (nx.getD i []).length), (((nx.getD i [])[k'] : Nat) : Int) ≠ wo → bl.getD (nx.getD i [])[k'] false = true) ∧ (m9 = true → bl.count true < bl'.count true) :=
            fun hnew => ⟨bl9, hm9, fun hm => ⟨(hf9 hm).1, (hf9 hm).2.1, fun k' hk' hkl hne => by
              by_cases e : k' = k
              · subst e; rw [ht] at hne ⊢; exact hnew hm hne
              · exact (hf9 hm).2.2 k' (by omega) hkl hne⟩, ht9⟩
          refine ifB_bne (fun hne => ?_) (fun he => keep fun _ hne => absurd he hne)
          refine ⟨⟨by first | omega | (dsimp only; omega), by first | omega | (dsimp only; omega)⟩, hm9.ld htn (ifB_not (ifB_bool (fun hmt => keep fun hm _ => by rw [← (hf9 hm).1]; exact hmt) (fun hmt => ?_)))⟩
          have htl : t < bl9.length := by rw [hm9.len]; exact htn
          refine ⟨⟨by first | omega | (dsimp only; omega), by first | omega | (dsimp only; omega)⟩, hm9.blk.wr (by rw [List.length_map]; exact htl), Nw.mk ⟨bl9.set t true, hm9.set htn (.step hri hmem hne), (fun h => by cases h), fun _ => ?_⟩⟩
          have hup := count_up htl hmt
          cases hm : m9 with
          | true => have := ht9 hm; omega
          | false => rw [(hf9 hm).1] at hup ⊢; exact hup
        · have hkk : k = (nx.getD i []).length := by dsimp only at hgek; omega
          subst hkk
          refine ⟨bl9, hm9, fun hm => ⟨(hf9 hm).1, fun i' hi' => ?_⟩, ht9⟩
          by_cases e : i' = i
          · subst e
            intro _ t ht hne
            obtain ⟨k', hk', rfl⟩ := List.mem_iff_getElem.1 ht
            exact (hf9 hm).2.2 k' hk' hk' hne
          · exact (hf9 hm).2.1 i' (by omega)
      · refine ⟨bl7, hm7, fun hm => ⟨(hf7 hm).1, fun i' hi' => ?_⟩, ht7⟩
        by_cases e : i' = i
        · subst e
          intro hmk'
          rw [(hf7 hm).1] at hmk
          rw [hmk] at hmk'; cases hmk'
        · exact (hf7 hm).2 i' (by omega)
    · have hi' : i = nx.length := by dsimp only at hge; omega
      subst hi'
      have hc1 := List.count_le_length (a := true) (l := bl7)
      have hl7 := hm7.len
      cases hm : m with
      | false =>
        refine hnext 0 _ _ (by simp) ⟨bl7, false, hm7, rfl, fun _ i => ?_, rfl⟩
        rw [(hf7 hm).1]
        by_cases hi : i < nx.length
        · exact (hf7 hm).2 i hi
        · intro _ t ht
          simp [List.getD, hi] at ht
      | true =>
        have := ht7 hm
        exact hnext (nx.length - bl7.count true + 1) _ _ (by simp only [if_true]; omega) ⟨bl7, true, hm7, rfl, (fun h => by cases h), rfl⟩
  · have hm : m = false := hm
    subst hm
    exact hR w6 bl hm6.below hm6.blk hm6.len fun j => ⟨hm6.sound j, reach_of_closed (S := fun j => bl.getD j false = true) (fun _ _ => hm6.zero) fun i hi t ht hne => hcl rfl i hi t ht hne⟩

theorem rReached_spec {rb : Nat} {nx : List (List Nat)} (hx : NxOk nx) {i : Int} {w : World} {R : Value → World → Prop} (h : IsR w rb nx)
    (hR : ∀ w', Below w.heap.size w w' → R (.bool (reachedOf nx i)) w') :
    callR Tryz.prog 94 #[.pointer (some (blk rb)), .int .i64 i] w R := by
  refine callR.of (intaglioref14_Graph_Reached_calls _ i R w ?_) fun _ _ h => h
  have no : ¬ (0 ≤ i ∧ i < nx.length) → R (.bool false) w := fun hn => by
    have : reachedOf nx i = false := by
      unfold reachedOf
      by_cases h0 : 0 ≤ i
      · have : (walkOf nx).contains i.toNat = false := by
          rw [← Bool.not_eq_true, List.contains_iff_mem]
          intro hm
          have := hx.came.lt _ hm
          omega
        rw [this, Bool.and_false]
      · simp [h0]
    rw [← this]; exact hR w (Below.refl _ _)
  refine JoinW.cut (fun _ w' => w' = w ∧ 0 ≤ i ∧ i < nx.length) (ifB_dec (fun h0 => no (by omega)) fun h0 => rLen_spec h ⟨_, rfl, ifB_dec (fun h1 => no (by omega)) fun h1 => ⟨rfl, by omega, by omega⟩⟩) ?_
  rintro _ wx ⟨ewx, h0, h1⟩
  subst wx
  obtain ⟨k, rfl⟩ := Int.eq_ofNat_of_zero_le h0
  have hk : k < nx.length := by omega
  refine All_spec hx h fun w' bl hb hB hl hr => ⟨⟨some (blk w.heap.size), nx.length, nx.length⟩, rfl, ⟨by first | omega | (dsimp only; omega), by first | omega | (dsimp only; omega)⟩, ⟨bl.getD k false, hB.cell ?_, ?_⟩⟩
  · have : k < bl.length := by rw [hl]; exact hk
    simp [List.getD, this]
  · have e : bl.getD k false = reachedOf nx (k : Int) := by
      rw [Bool.eq_iff_iff, hr k, ← walk_reach hx.rows hx.pos]
      simp [reachedOf]
    rw [e]; exact hR w' hb

end Go.Proofs
namespace Go.Gk
/-- 'for i := -1; i <= n; i++'. -/
theorem LoopW.countM {body : Int × Unit → World → (Int × Unit → World → Prop) → Prop} {w : World} (n : Nat) (hn : n ≤ 1099511627776) (I : World → Prop) (h0 : I w)
    (h : ∀ k w, k ≤ n + 2 → I w → ∀ next : Int × Unit → World → Prop, (∀ w', k < n + 2 → I w' → next (IntKind.i64.wrap ((k : Int) - 1 + 1), ()) w') → body ((k : Int) - 1, ()) w next) : LoopW body ((-1 : Int), ()) w := by
  refine LoopW.ghost (fun j s w => ∃ k : Nat, k ≤ n + 2 ∧ j = n + 2 - k ∧ s = ((k : Int) - 1, ()) ∧ I w) (n + 2) ⟨0, Nat.zero_le _, rfl, rfl, h0⟩ ?_
  rintro _ _ w ⟨k, hk, rfl, rfl, hI⟩ next hnext
  refine h k w hk hI next fun w' hlt hI' => ?_
  rw [wrap64_in (by omega) (by omega)]
  exact hnext (n + 2 - (k + 1)) _ _ (by omega) ⟨k + 1, by omega, rfl, by congr 1; omega, hI'⟩
end Go.Gk
namespace Go.Proofs
open Go.Gk Go.RowKit Go.Gr

/-- A pointer to a graph with rows nx, or nil, with none. -/
def GP (w : World) (p : Option Addr) (nx : List (List Nat)) : Prop := (p = none ∧ nx = []) ∨ ∃ gb, p = some (blk gb) ∧ NxOk nx ∧ IsG w gb nx
def RP (w : World) (p : Option Addr) (nx : List (List Nat)) : Prop := (p = none ∧ nx = []) ∨ ∃ rb, p = some (blk rb) ∧ NxOk nx ∧ IsR w rb nx
theorem GP.below {w w' : World} {p : Option Addr} {nx : List (List Nat)} (h : GP w p nx) (hb : Below w.heap.size w w') : GP w' p nx := h.imp id fun ⟨gb, h1, h2, h3⟩ => ⟨gb, h1, h2, h3.below hb⟩
theorem RP.below {w w' : World} {p : Option Addr} {nx : List (List Nat)} (h : RP w p nx) (hb : Below w.heap.size w w') : RP w' p nx := h.imp id fun ⟨gb, h1, h2, h3⟩ => ⟨gb, h1, h2, h3.below hb⟩
theorem GP.isNone {w w' : World} {p q : Option Addr} {nx : List (List Nat)} (h : GP w p nx) (k : RP w' q nx) : p.isNone = q.isNone := by
  rcases h with ⟨rfl, rfl⟩ | ⟨gb, rfl, hx, _⟩ <;> rcases k with ⟨rfl, e⟩ | ⟨rb, rfl, hx', _⟩
  · rfl
  · have := hx'.pos; simp at this
  · subst e; have := hx.pos; simp at this
  · rfl

variable {w : World} {R : Value → World → Prop} {p : Option Addr} {nx : List (List Nat)} {i : Int}
theorem GP.len (h : GP w p nx) (hR : R (.int .i64 (nx.length : Int)) w) : callR Tryz.prog 38 #[.pointer p] w R := by
  rcases h with ⟨rfl, rfl⟩ | ⟨gb, rfl, hx, hg⟩
  · exact callR.of (graph_Graph_Len_calls none R w (ifB_true rfl hR)) fun _ _ h => h
  · exact gLen_spec hg hR
theorem is_nil (hR : R (.bool false) w) : callR Tryz.prog 99 #[.pointer none, .int .i64 i] w R := by
  refine callR.of (graph_Graph_is_calls none i R w ?_) fun _ _ h => h
  refine ifB_dec (fun h0 => GP.len (nx := []) (.inl ⟨rfl, rfl⟩) ⟨_, rfl, ?_⟩) (fun h0 => hR)
  have : decide (i < (([] : List (List Nat)).length : Int)) = false := by rw [decide_eq_false_iff_not]; simp; omega
  rw [this]; exact hR
theorem rowAt_nil (i : Int) : rowAt [] i = [] := by unfold rowAt; split <;> simp
theorem GP.next (h : GP w p nx) (hR : ∀ r w', Own w' 3 1 r ((rowAt nx i).map iN) → Fresh w.heap.size r → Below w.heap.size w w' → R (.slice r.a r.l r.c) w') :
    callR Tryz.prog 39 #[.pointer p, .int .i64 i] w R := by
  rcases h with ⟨rfl, rfl⟩ | ⟨gb, rfl, hx, hg⟩
  · refine callR.of (graph_Graph_Next_calls none i R w (is_nil ⟨_, rfl, ifB_true rfl ?_⟩)) fun _ _ h => h
    exact hR ⟨none, 0, 0⟩ w (by rw [rowAt_nil]; exact Own.nil _ _ _) (fun a ha => by cases ha) (Below.refl _ _)
  · exact Next_spec hx hg hR
theorem GP.ahead (h : GP w p nx) (hR : ∀ r w', Own w' 3 1 r ((rowAt (aheadOf nx) i).map iN) → Fresh w.heap.size r → Below w.heap.size w w' → R (.slice r.a r.l r.c) w') :
    callR Tryz.prog 40 #[.pointer p, .int .i64 i] w R := by
  rcases h with ⟨rfl, rfl⟩ | ⟨gb, rfl, hx, hg⟩
  · refine callR.of (graph_Graph_Ahead_calls none i R w (is_nil ⟨_, rfl, ifB_true rfl ?_⟩)) fun _ _ h => h
    exact hR ⟨none, 0, 0⟩ w (by rw [show aheadOf [] = [] from rfl, rowAt_nil]; exact Own.nil _ _ _) (fun a ha => by cases ha) (Below.refl _ _)
  · exact Ahead_spec hx hg hR
theorem GP.order (h : GP w p nx) (hR : ∀ r w', Own w' 3 1 r ((orderOf nx).map iN) → Fresh w.heap.size r → Below w.heap.size w w' → R (.slice r.a r.l r.c) w') :
    callR Tryz.prog 42 #[.pointer p] w R := by
  rcases h with ⟨rfl, rfl⟩ | ⟨gb, rfl, hx, hg⟩
  · exact callR.of (graph_Graph_Order_calls none R w (ifB_true rfl (hR ⟨none, 0, 0⟩ w (Own.nil _ _ _) (fun a ha => by cases ha) (Below.refl _ _)))) fun _ _ h => h
  · exact Order_spec hx hg hR
theorem reached_nil (i : Int) : reachedOf [] i = false := by simp [reachedOf, walkOf, visit]
theorem GP.reached (h : GP w p nx) (hR : R (.bool (reachedOf nx i)) w) : callR Tryz.prog 41 #[.pointer p, .int .i64 i] w R := by
  rcases h with ⟨rfl, rfl⟩ | ⟨gb, rfl, hx, hg⟩
  · rw [reached_nil] at hR
    exact callR.of (graph_Graph_Reached_calls none i R w (is_nil ⟨_, rfl, ifB_false rfl hR⟩)) fun _ _ h => h
  · exact Reached_spec hx hg hR

theorem RP.len (h : RP w p nx) (hR : R (.int .i64 (nx.length : Int)) w) : callR Tryz.prog 91 #[.pointer p] w R := by
  rcases h with ⟨rfl, rfl⟩ | ⟨gb, rfl, hx, hg⟩
  · exact callR.of (intaglioref14_Graph_Len_calls none R w (ifB_true rfl hR)) fun _ _ h => h
  · exact rLen_spec hg hR
theorem RP.next (h : RP w p nx) (hR : ∀ r w', Own w' 3 1 r ((rowAt nx i).map iN) → Below w.heap.size w w' → R (.slice r.a r.l r.c) w') :
    callR Tryz.prog 92 #[.pointer p, .int .i64 i] w R := by
  rcases h with ⟨rfl, rfl⟩ | ⟨gb, rfl, hx, hg⟩
  · have hN : R (.slice none 0 0) w := hR ⟨none, 0, 0⟩ w (by rw [rowAt_nil]; exact Own.nil _ _ _) (Below.refl _ _)
    refine callR.of (intaglioref14_Graph_Next_calls none i R w ?_) fun _ _ h => h
    refine JoinW.cut (fun _ _ => False) (ifB_dec (fun _ => hN) fun h0 => RP.len (nx := []) (.inl ⟨rfl, rfl⟩) ⟨_, rfl, ifB_true ?_ hN⟩) fun _ _ h => h.elim
    rw [decide_eq_true_iff]; simp; omega
  · exact rNext_spec hx hg hR
theorem RP.ahead (h : RP w p nx) (hR : ∀ r w', Own w' 3 1 r ((rowAt (aheadOf nx) i).map iN) → Below w.heap.size w w' → R (.slice r.a r.l r.c) w') :
    callR Tryz.prog 93 #[.pointer p, .int .i64 i] w R := by
  rcases h with ⟨rfl, rfl⟩ | ⟨gb, rfl, hx, hg⟩
  · have hN : R (.slice none 0 0) w := hR ⟨none, 0, 0⟩ w (by rw [show aheadOf [] = [] from rfl, rowAt_nil]; exact Own.nil _ _ _) (Below.refl _ _)
    refine callR.of (intaglioref14_Graph_Ahead_calls none i R w ?_) fun _ _ h => h
    refine LoopW.countS 0 (by omega) (fun _ l w' => l = ⟨none, 0, 0⟩ ∧ w' = w) ⟨rfl, rfl⟩ ?_
    rintro k l w' hk ⟨rfl, rfl⟩ next _
    exact RP.len (nx := []) (.inl ⟨rfl, rfl⟩) ⟨_, rfl, ifB_false (by rw [decide_eq_false_iff_not]; dsimp only; simp) hN⟩
  · exact rAhead_spec hx hg hR
theorem RP.order (h : RP w p nx) (hR : ∀ r w', Own w' 3 1 r ((orderOf nx).map iN) → Below w.heap.size w w' → R (.slice r.a r.l r.c) w') :
    callR Tryz.prog 95 #[.pointer p] w R := by
  rcases h with ⟨rfl, rfl⟩ | ⟨gb, rfl, hx, hg⟩
  · refine callR.of (intaglioref14_Graph_Order_calls none R w ?_) fun _ _ h => h
    refine Nw.gen fun w1 hw1 => ?_
    have hG1 : Blk w1 w.heap.size 191 [(⟨none, 0, 0⟩ : Sl).val, (⟨none, 0, 0⟩ : Sl).val] := by rw [hw1]; exact Blk.new w _ #[_, _]
    have hb1 : Below w.heap.size w w1 := by rw [hw1]; exact (Below.refl _ _).alloc (Nat.le_refl _) _
    refine JoinW.cut (fun _ w' => w' = w1) (RP.len (nx := []) (.inl ⟨rfl, rfl⟩) ⟨_, rfl, ifB_false rfl rfl⟩) ?_
    rintro _ wx ewx
    subst wx
    refine ⟨⟨none, 0, 0⟩, hG1.cell (n := 1) rfl, ?_⟩
    refine LoopW.ghost (fun _ s w' => s = (⟨none, 0, 0⟩, -1, ()) ∧ w' = w1) 0 ⟨rfl, rfl⟩ ?_
    rintro k _ w' ⟨rfl, rfl⟩ next _
    exact ifB_false rfl (hR ⟨none, 0, 0⟩ _ (Own.nil _ _ _) hb1)
  · exact rOrder_spec hx hg hR
theorem RP.reached (h : RP w p nx) (hR : ∀ w', Below w.heap.size w w' → R (.bool (reachedOf nx i)) w') : callR Tryz.prog 94 #[.pointer p, .int .i64 i] w R := by
  rcases h with ⟨rfl, rfl⟩ | ⟨gb, rfl, hx, hg⟩
  · have hN : R (.bool false) w := by rw [← reached_nil i]; exact hR w (Below.refl _ _)
    refine callR.of (intaglioref14_Graph_Reached_calls none i R w ?_) fun _ _ h => h
    refine JoinW.cut (fun _ _ => False) (ifB_dec (fun _ => hN) fun h0 => RP.len (nx := []) (.inl ⟨rfl, rfl⟩) ⟨_, rfl, ifB_true ?_ hN⟩) fun _ _ h => h.elim
    rw [decide_eq_true_iff]; simp; omega
  · exact rReached_spec hx hg hR

/-- The same twice: 'Ints' says so. -/
theorem same_spec {s t : Sl} {l : List Nat} (hs : IsN w s l) (ht : IsN w t l) (hR : ∀ w', Below w.heap.size w w' → R (.bool true) w') : callR Tryz.prog 26 #[.slice s.a s.l s.c, .slice t.a t.l t.c] w R :=
  Ints_spec hs.toI ht.toI fun w' _ hb => by rw [decide_eq_true rfl]; exact hR w' hb

end Go.Proofs
namespace Go.Proofs
open Go.Gk Go.RowKit Go.Gr

theorem own_apartV {w w' : World} {x y : Sl} {B : Nat} {xs ys : List Value} (_hx : Own w 3 1 x xs) (hlt : ∀ a, x.a = some a → a.block < B) (hy : Own w 3 1 y ys) (hf : Fresh B y) (ho : Only x w w') : Own w' 3 1 y ys :=
  hy.of_block fun a ha => ho.block _ fun b hb e => by have := hlt b hb; have := hf a ha; omega

set_option maxHeartbeats 1000000 in
theorem told_spec {p q : Option Addr} {nx : List (List Nat)} {w : World} {R : Value → World → Prop} (hg : GP w p nx) (hr : RP w q nx) (hR : ∀ w', Below w.heap.size w w' → R (.bool true) w') :
    callR Tryz.prog 35 #[.pointer p, .pointer q] w R := by
  refine callR.of (intagliolaw14_told_calls p q R w ?_) fun _ _ h => h
  have hmax : nx.length ≤ 4096 := by
    rcases hg with ⟨_, rfl⟩ | ⟨_, _, hx, _⟩
    · simp
    · exact hx.max
  refine JoinW.cut (fun _ w' => w' = w) (ifB_false (by rw [hg.isNone hr]; simp) (hg.len ⟨_, rfl, hr.len ⟨_, rfl, ifB_false (by simp) rfl⟩⟩)) ?_
  rintro _ wx ewx
  subst wx
  have tr : ∀ {a b c : World}, Below w.heap.size w b → Below b.heap.size b c → Below w.heap.size w c := fun h1 h2 => h1.trans (h2.mono h1.size)
  refine LoopW.countM nx.length (by omega) (fun w' => Below w.heap.size w w') (Below.refl _ _) ?_
  rintro k w4 hk b4 next hnext
  refine (hr.below b4).len ⟨_, rfl, ifB_dec (fun hle => ?_) (fun hgt => ?_)⟩
  · have hltk : k < nx.length + 2 := by dsimp only at hle; omega
    refine JoinW.cut (fun _ w' => Below w.heap.size w w') ?_ fun _ w' hh => hnext w' hltk hh
    refine (hg.below b4).next fun x w6 ox fx b6 => ⟨x, rfl, ?_⟩
    have c6 := tr (a := w) b4 b6
    refine (hg.below c6).ahead fun y w7 oy fy b7 => ⟨y, rfl, ?_⟩
    have c7 := tr (a := w) c6 b7
    have hxlt : ∀ a, x.a = some a → a.block < w6.heap.size := fun a ha => (ox.lt ha).2
    refine JoinW.cut (fun _ w' => Below w7.heap.size w7 w') ?_ ?_
    · refine (hr.below c7).next fun r8 w8 o8 b8 => ⟨r8, rfl, ?_⟩
      refine same_spec ((ox.below b7).below b8).isS o8.isS fun w9 b9 => ⟨_, rfl, ifB_not (ifB_true rfl ?_)⟩
      have d9 : Below w7.heap.size w7 w9 := b8.trans (b9.mono b8.size)
      refine (hr.below (tr (a := w) c7 d9)).ahead fun r10 w10 o10 b10 => ⟨r10, rfl, ?_⟩
      have d10 : Below w7.heap.size w7 w10 := d9.trans (b10.mono d9.size)
      refine same_spec (oy.below d10).isS o10.isS fun w11 b11 => ⟨_, rfl, ifB_not (ifB_true rfl ?_)⟩
      have d11 : Below w7.heap.size w7 w11 := d10.trans (b11.mono d10.size)
      refine (hg.below (tr (a := w) c7 d11)).reached ⟨_, rfl, (hr.below (tr (a := w) c7 d11)).reached fun w13 b13 => ⟨_, rfl, ifB_not (ifB_true (by simp) (d11.trans (b13.mono d11.size)))⟩⟩
    · rintro _ w14 d14
      have ox14 := (ox.below b7).below d14
      have oy14 := oy.below d14
      refine Spoil_spec ox14 fun w15 h15 => ⟨rfl, ?_⟩
      have oy15 := own_apartV ox14 hxlt oy14 fy h15
      refine Spoil_spec oy15 fun w16 h16 => ⟨rfl, ?_⟩
      have c14 := tr (a := w) c7 d14
      have s4 := b4.size
      have s6 := c6.size
      have c16 : Below w.heap.size w w16 := (c14.trans (h15.below (B := w.heap.size) (fun a ha => by have := fx a ha; omega))).trans (h16.below fun a ha => by have := fy a ha; omega)
      refine (hg.below c16).next fun r17 w17 o17 _ b17 => ⟨r17, rfl, ?_⟩
      have c17 := tr (a := w) c16 b17
      refine (hr.below c17).next fun r18 w18 o18 b18 => ⟨r18, rfl, ?_⟩
      have c18 := tr (a := w) c17 b18
      refine same_spec (o17.below b18).isS o18.isS fun w19 b19 => ⟨_, rfl, ifB_not (ifB_true rfl ?_)⟩
      have c19 := tr (a := w) c18 b19
      refine (hg.below c19).ahead fun r20 w20 o20 _ b20 => ⟨r20, rfl, ?_⟩
      have c20 := tr (a := w) c19 b20
      refine (hr.below c20).ahead fun r21 w21 o21 b21 => ⟨r21, rfl, ?_⟩
      exact same_spec (o20.below b21).isS o21.isS fun w22 b22 => ⟨_, rfl, ifB_not (ifB_true rfl (tr (a := w) (tr (a := w) c20 b21) b22))⟩
  · refine (hg.below b4).order fun x w5 ox fx b5 => ⟨x, rfl, ?_⟩
    have c5 := tr (a := w) b4 b5
    refine (hr.below c5).order fun y w6 oy b6 => ⟨y, rfl, ?_⟩
    have c6 := tr (a := w) c5 b6
    refine same_spec (ox.below b6).isS oy.isS fun w7 b7 => ⟨_, rfl, ifB_not (ifB_true rfl ?_)⟩
    have c7 := tr (a := w) c6 b7
    have s4 := b4.size
    refine Spoil_spec ((ox.below b6).below b7) fun w8 h8 => ⟨rfl, ?_⟩
    have c8 : Below w.heap.size w w8 := c7.trans (h8.below fun a ha => by have := fx a ha; omega)
    refine (hg.below c8).order fun x9 w9 o9 _ b9 => ⟨x9, rfl, ?_⟩
    have c9 := tr (a := w) c8 b9
    refine (hr.below c9).order fun y10 w10 o10 b10 => ⟨y10, rfl, ?_⟩
    exact same_spec (o9.below b10).isS o10.isS fun w11 b11 => ⟨_, rfl, hR w11 (tr (a := w) (tr (a := w) c9 b10) b11)⟩

end Go.Proofs
namespace Go.Proofs
open Go.Gk Go.RowKit Go.Gm

theorem lblI_some {M : List (Int × Int)} {n : Int} (h : 0 ≤ (lookL M n).getD (-1)) : (lookL M n).isSome = true ∧ (lookL M n).getD (-1) = (lookL M n).getD 0 := by
  cases e : lookL M n with
  | none => rw [e] at h; exact absurd h (by decide)
  | some v => exact ⟨rfl, rfl⟩
theorem lblI_none {bk : List (Int × Int × Int)} {n : Int} (h : ¬ 0 ≤ lblI bk n) : lookL (lblM bk) n = none := by
  unfold lblI at h
  cases e : lookL (lblM bk) n with
  | none => rfl
  | some v =>
    rw [e] at h
    have := lblN_val bk _ n v e
    exact absurd (show 0 ≤ v by omega) h
theorem lblI_val {bk : List (Int × Int × Int)} {n v : Int} (h : lookL (lblM bk) n = some v) : lblI bk n = v ∧ 1 ≤ v := by
  have := lblN_val bk _ n v h
  exact ⟨by unfold lblI; rw [h]; rfl, this.1⟩
section
variable {x : Mo} {pl : List PI} {w : World} {R : Value → World → Prop} {v : Fv} {f : FnL}
set_option maxHeartbeats 1000000 in
theorem rMerge_spec {b : Int × Int × Int} (hN : IsPl w x.2.2.1 pl) (hsh : (shapeP x.2.1 pl).1 = 0) (hf : IsFn w v f) (hFn : FnOk pl pl.length f) (hd : (f.bk.map (·.1)).Nodup) (hb : b ∈ f.bk)
    (hR : ∀ (m : Mg) (o : Bool) w', Below w.heap.size w w' → (o = true → blkM pl f.bk b = some m) → (o = false → blkM pl f.bk b = none) → R (.tuple #[.agg #[.int .u8 m.1, .int .i64 m.2.1, .int .i64 m.2.2], .bool o]) w') :
    callR Tryz.prog 81 #[moA x, fvA v, .agg #[.int .u32 b.1, .int .i64 b.2.1, .int .i64 b.2.2]] w R := by
  refine callR.of (intaglioref14_Merge_calls x v (b.1, b.2.1, b.2.2, ()) R w ?_) fun _ _ h => h
  obtain ⟨fr, to_, hbq, hft, htl, h248, h8f, hend, h8t⟩ := (hFn.ok b hb).ex
  have hl := hN.len
  have hlen := len_le hsh
  have h1l : to_ - 1 < pl.length := by omega
  have h2l : to_ - 2 < pl.length := by omega
  have ei1 : ix pl (to_ - 1) = pl[to_ - 1] := ix_lt h1l
  have ei2 : ix pl (to_ - 2) = pl[to_ - 2] := ix_lt h2l
  have hto : b.2.2 = (to_ : Int) := by rw [hbq]
  have hfrom : b.2.1 = (fr : Int) := by rw [hbq]
  have hbM : blkM pl f.bk b = mrgP (lblM f.bk) pl[to_ - 2].1 pl[to_ - 2].2.2.2 pl[to_ - 1].1 := by
    unfold blkM
    rw [hto, Int.toNat_natCast, ei1, ei2]
  have hM := merge_args ((shape_ok hsh).2 (to_ - 2) h2l)
  refine lay_of fun w1 hB1 b1 z1 => ?_
  have hB1 : Blk w1 w.heap.size 25 (moV x) := hB1
  refine lay_of fun w2 hV2 b2 z2 => ?_
  have hV2 : Blk w2 w1.heap.size 29 (fvV v) := hV2
  refine lay_of fun w3 hK3 b3 z3 => ?_
  have hK3 : Blk w3 w2.heap.size 69 (blV b) := hK3
  refine lay_of fun w4 hO4 b4 z4 => ?_
  have hO4 : Blk w4 w3.heap.size 121 [.int .u8 0, .int .i64 0, .int .i64 0] := hO4
  refine box3 rfl fun w8 hX8 b8 z8 => ?_
  have hX8 : Blk w8 w4.heap.size 121 (mgV (0, -1, -1)) := hX8
  have b28 := b3.on (b4.on b8)
  have b18 := b2.on b28
  have hb8 := b1.on b18
  have hB8 := hB1.below b18
  have hV8 := hV2.below b28
  have hK8 := hK3.below (b4.on b8)
  have hO8 := hO4.below b8
  have sz1 := b1.size
  have sz2 := b2.size
  have sz3 := b3.size
  have sz4 := b4.size
  -- the none that goes out
  have out : ∀ {w' : World} (ba : Nat) (y : Mg) (o : Bool), Blk w' ba 121 (mgV y) → Blk w' w3.heap.size 121 [.int .u8 0, .int .i64 0, .int .i64 0] → Below w.heap.size w w' → (o = true → blkM pl f.bk b = some y) → (o = false → blkM pl f.bk b = none) →
      ldI w' ((blk ba).add 0) .u8 fun x3 => ldI w' ((blk ba).add 1) .i64 fun x4 => ldI w' ((blk ba).add 2) .i64 fun x5 =>
      Wr w' (blk w3.heap.size) ∧ Nw (w'.setCell (blk w3.heap.size) (.int .u8 x3)) fun w9 => Wr w9 ((blk w3.heap.size).add 1) ∧ Nw (w9.setCell ((blk w3.heap.size).add 1) (.int .i64 x4)) fun w10 => Wr w10 ((blk w3.heap.size).add 2) ∧ Nw (w10.setCell ((blk w3.heap.size).add 2) (.int .i64 x5)) fun w11 =>
        ldI w11 ((blk w3.heap.size).add 0) .u8 fun x6 => ldI w11 ((blk w3.heap.size).add 1) .i64 fun x7 => ldI w11 ((blk w3.heap.size).add 2) .i64 fun x8 => R (.tuple #[(.agg #[(.int .u8 x6), (.int .i64 x7), (.int .i64 x8)]), (.bool o)]) w11 := fun {w'} ba y o hY hO hb' h1 h2 =>
    hY.rI (n := 0) (x := y.1) rfl (hY.rI (n := 1) (x := y.2.1) rfl (hY.rI (n := 2) (x := y.2.2) rfl (st3 hO rfl fun w11 hO11 c11 => hO11.rI (n := 0) (x := y.1) rfl (hO11.rI (n := 1) (x := y.2.1) rfl (hO11.rI (n := 2) (x := y.2.2) rfl (hR y o w11 (c11.below hb' (by omega)) h1 h2))))))
  refine hK8.rI (n := 2) (x := b.2.2) rfl (hK8.rI (n := 1) (x := b.2.1) rfl ?_)
  rw [hto, hfrom]
  have ew : IntKind.i64.wrap ((to_ : Int) - (fr : Int)) = (to_ : Int) - fr := wrap64_in (by omega) (by omega)
  rw [ew]
  refine ifB_dec (fun hsm => ?_) (fun hgt => ?_)
  · have e2 : to_ - 2 = fr := by omega
    have : blkM pl f.bk b = some (0, -1, -1) := by
      rw [hbM]
      have : pl[to_ - 2].1 = 248 := by rw [← ei2, e2]; exact h248
      unfold mrgP
      rw [if_neg (by omega), if_neg (by omega)]
    exact out w4.heap.size (0, -1, -1) true hX8 hO8 hb8 (fun _ => this) (fun h => by cases h)
  have et1 : IntKind.i64.wrap ((to_ : Int) - 1) = ((to_ - 1 : Nat) : Int) := by rw [wrap64_in (by omega) (by omega)]; omega
  have et2 : IntKind.i64.wrap ((to_ : Int) - 2) = ((to_ - 2 : Nat) : Int) := by rw [wrap64_in (by omega) (by omega)]; omega
  refine hB8.rS (n := 2) (x := x.2.2.1) rfl (hK8.rI (n := 2) (x := b.2.2) rfl ?_)
  rw [hto, et2]
  refine elemPI (hN.below hb8) h2l fun ti hti => ?_
  refine box4 rfl fun w16 hI16 b16 z16 => ?_
  have hI16 : Blk w16 w8.heap.size 41 (inV (mkIn pl[to_ - 2] ti)) := hI16
  have hti16 : IsAg w16 ti pl[to_ - 2].2.2.2 := hti.below b16
  have hb16 := hb8.on b16
  have hX16 := hX8.below b16
  have hO16 := hO8.below b16
  have hal := hti.len
  refine JoinW.cut (fun (_ : Unit) w' => w' = w16 ∧ (pl[to_ - 2].1 = 246 ∨ pl[to_ - 2].1 = 247)) ?_ ?_
  · refine hI16.rI0 (x := pl[to_ - 2].1) rfl (ifB_bne (fun e => ?_) (fun e => ⟨rfl, .inl e⟩))
    refine hI16.rI0 (x := pl[to_ - 2].1) rfl (ifB_bne (fun e' => ?_) (fun e' => ⟨rfl, .inr e'⟩))
    have : blkM pl f.bk b = some (0, -1, -1) := by
      rw [hbM]
      unfold mrgP
      rw [if_neg e', if_neg e]
    exact out w4.heap.size (0, -1, -1) true hX16 hO16 hb16 (fun _ => this) (fun h => by cases h)
  rintro _ w20 ⟨rfl, hop⟩
  have hl0 : 0 < pl[to_ - 2].2.2.2.length := by
    rcases hop with e | e
    · have := hM.2 e; omega
    · exact hM.1 e
  have bd : Below w20.heap.size w20 w20.drew := (Below.refl _ _).drew
  have hV20 := hV8.below b16
  have s8 := b8.size
  have s16 := b16.size
  generalize ea0 : (pl[to_ - 2].2.2.2[0]).2.1 = n0
  have eg0 : (pl[to_ - 2].2.2.2.getD 0 ag0).2.1 = n0 := by rw [getD_lt hl0, ea0]
  refine JoinW.cut (fun (st : Addr × Unit) w' => ∃ mb, st = (blk mb, ()) ∧ Blk w' mb 121 (mgV (1, lblI f.bk n0, -1)) ∧ Below w20.heap.size w20 w' ∧ w20.heap.size ≤ mb) ?_ ?_
  · refine Fv.load (v := v) hV20.drew ?_
    refine hI16.drew.rS (n := 3) (x := ti) rfl ?_
    obtain ⟨aa, haa⟩ := (IsAg.below hti16 bd).base hl0
    have hc := (IsAg.below hti16 bd).cell aa haa 0 hl0 1 (by omega)
    have hcn : w20.drew.cell? ((aa.add (0 * 3)).add 1) = some (.int .u32 n0) := by
      rw [add_add', hc, ← ea0]; rfl
    refine ⟨⟨by omega, by omega⟩, derefP_some haa ⟨n0, hcn, ?_, ?_⟩⟩
    · refine rBlock_spec (v := v) (n := n0) (hf.below (hb16.on bd)) hd fun w21 b21 => ⟨_, rfl, ?_⟩
      refine box3 rfl fun w25 hM25 b25 z25 => ⟨w21.heap.size, rfl, hM25, (bd.on b21).on b25, ?_⟩
      have := bd.size; have := b21.size; omega
    · refine lay_of fun w26 hM26 b26 z26 => ?_
      have hM26 : Blk w26 w20.drew.heap.size 121 [.int .u8 0, .int .i64 0, .int .i64 0] := hM26
      have hV26 := hV20.drew.below b26
      have hI26 := hI16.drew.below b26
      refine ⟨cell_keep b26 hcn, hI26.cell (n := 3) rfl, hV26.cell (n := 0) rfl, hV26.cell (n := 1) rfl, hV26.cell (n := 2) rfl, hV26.cell (n := 3) rfl, hV26.cell (n := 4) rfl, ?_⟩
      refine rBlock_spec (v := v) (n := n0) (hf.below ((hb16.on bd).on b26)) hd fun w27 b27 => ⟨_, rfl, ?_⟩
      refine st3 (hM26.below b27) rfl fun w30 hM30 c30 => ⟨w20.drew.heap.size, rfl, hM30, ?_, bd.size⟩
      exact c30.below ((bd.on b26).on b27) bd.size
  rintro _ w31 ⟨mb, rfl, hM31, b31, hmb⟩
  have hb31 := hb16.on b31
  have hX31 := hX16.below b31
  have hO31 := hO16.below b31
  have hI31 := hI16.below b31
  have hV31 := hV20.below b31
  have hB31 := (hB8.below b16).below b31
  have hK31 := (hK8.below b16).below b31
  dsimp only
  refine hM31.rI (n := 1) (x := lblI f.bk n0) rfl (ifB_dec (fun hneg => ?_) (fun hpos => ?_))
  · have hnone := lblI_none (bk := f.bk) (n := n0) (by omega)
    have : blkM pl f.bk b = none := by
      rw [hbM]
      unfold mrgP
      rw [eg0, hnone]
      rcases hop with e | e
      · rw [if_neg (by omega), if_pos e]
      · rw [if_pos e]
    exact out w4.heap.size (0, -1, -1) false hX31 hO31 hb31 (fun h => by cases h) (fun _ => this)
  obtain ⟨hs0, hv0⟩ := lblI_some (M := lblM f.bk) (n := n0) (by unfold lblI at hpos; omega)
  obtain ⟨a, ha⟩ := Option.isSome_iff_exists.1 hs0
  obtain ⟨hla, _⟩ := lblI_val ha
  rw [hla] at hM31
  refine hI31.rI0 (x := pl[to_ - 2].1) rfl (ifB_beq (fun e246 => ?_) (fun e246 => ?_))
  · have hl1 : 1 < pl[to_ - 2].2.2.2.length := hM.2 e246
    generalize ea1 : (pl[to_ - 2].2.2.2[1]).2.1 = n1
    have eg1 : (pl[to_ - 2].2.2.2.getD 1 ag0).2.1 = n1 := by rw [getD_lt hl1, ea1]
    refine ⟨hM31.wr0 (show 0 < 3 by omega), ?_⟩
    refine Nw.gen fun w35 e35 => ?_
    have hM35 : Blk w35 mb 121 (mgV (2, a, -1)) := by rw [e35]; exact hM31.set0 _
    have c35 : Chg mb w31 w35 := by rw [e35]; exact Chg.set mb 0 w31 _
    clear e35
    have kp : ∀ {c : Nat} {T : TypeId} {cs : List Value}, Blk w31 c T cs → c ≠ mb → Blk w35 c T cs := fun h hne => c35.blk h hne
    have b35 : Below w20.heap.size w20 w35 := c35.below b31 hmb
    have hb35 := hb16.on b35
    have hV35 := hV20.below b35
    have hI35 := hI16.below b35
    have hO35 := hO16.below b35
    have bd5 : Below w35.heap.size w35 w35.drew := (Below.refl _ _).drew
    refine Fv.load (v := v) hV35.drew ?_
    refine hI35.drew.rS (n := 3) (x := ti) rfl ?_
    have hti35 : IsAg w35.drew ti pl[to_ - 2].2.2.2 := (hti16.below b35).below bd5
    obtain ⟨aa, haa⟩ := hti35.base hl1
    have hc := hti35.cell aa haa 1 hl1 1 (by omega)
    have hcn : w35.drew.cell? ((aa.add (1 * 3)).add 1) = some (.int .u32 n1) := by
      rw [add_add', hc, ← ea1]; rfl
    refine ⟨⟨by omega, by omega⟩, derefP_some haa ⟨n1, hcn, ?_⟩⟩
    refine rBlock_spec (v := v) (n := n1) (hf.below (hb35.on bd5)) hd fun w36 b36 => ⟨_, rfl, ?_⟩
    have hM36 := (hM35.below bd5).below b36
    refine ⟨hM36.wr (show 2 < 3 by omega), ?_⟩
    refine Nw.gen fun w37 e37 => ?_
    have hM37 : Blk w37 mb 121 (mgV (2, a, lblI f.bk n1)) := by rw [e37]; exact hM36.set 2 _
    have c37 : Chg mb w36 w37 := by rw [e37]; exact Chg.set mb 2 w36 _
    clear e37
    have b37 : Below w20.heap.size w20 w37 := c37.below ((b35.on bd5).on b36) hmb
    have hO37 := (hO16.below b37).drew
    have hM37d := hM37.drew
    refine hM37d.rI (n := 0) (x := 2) rfl (hM37d.rI (n := 1) (x := a) rfl (hM37d.rI (n := 2) (x := lblI f.bk n1) rfl (hM37d.rI (n := 2) (x := lblI f.bk n1) rfl ?_)))
    refine st3 hO37 rfl fun w40 hO40 c40 => ?_
    have hne : mb ≠ w3.heap.size := by omega
    refine ⟨(c40.blk hM37d hne).cell (n := 2) rfl, hO40.rI (n := 0) (x := 2) rfl (hO40.rI (n := 1) (x := a) rfl (hO40.rI (n := 2) (x := lblI f.bk n1) rfl ?_))⟩
    have hb40 : Below w.heap.size w w40 := c40.below ((hb16.on b37).drew) (by omega)
    have hbl : blkM pl f.bk b = (match lookL (lblM f.bk) n1 with
        | some c => some (2, a, c)
        | none => none) := by
      rw [hbM]
      unfold mrgP
      rw [if_neg (by omega), if_pos e246, eg0, eg1, ha]
      cases lookL (lblM f.bk) n1 <;> rfl
    have := hR (2, a, lblI f.bk n1) (decide (lblI f.bk n1 ≥ 0)) w40 hb40 (fun h => ?_) (fun h => ?_)
    · exact this
    · have h := of_decide_eq_true h
      obtain ⟨hs1, hv1⟩ := lblI_some (M := lblM f.bk) (n := n1) h
      obtain ⟨c, hc'⟩ := Option.isSome_iff_exists.1 hs1
      rw [hbl, hc', (lblI_val hc').1]
    · have h := of_decide_eq_false h
      rw [hbl, lblI_none h]
  have e247 : pl[to_ - 2].1 = 247 := by omega
  refine JoinW.cut (fun (_ : Unit) w' => Blk w' mb 121 (mgV (if pl[to_ - 1].1 = 251 then 3 else 1, a, -1)) ∧ Below w20.heap.size w20 w') ?_ ?_
  · refine hB31.rS (n := 2) (x := x.2.2.1) rfl (hK31.rI (n := 2) (x := b.2.2) rfl ?_)
    rw [hto, et1]
    have hN31 := hN.below hb31
    obtain ⟨aa, haa⟩ := hN31.base h1l
    obtain ⟨tt, q1, q2⟩ := hN31.elem aa haa (to_ - 1) h1l
    refine ⟨⟨by omega, by omega⟩, derefP_some haa ⟨pl[to_ - 1].1, ?_, ifB_beq (fun e => ⟨hM31.wr0 (show 0 < 3 by omega), ?_⟩) (fun e => ⟨?_, b31⟩)⟩⟩
    · exact q1 0 (by omega)
    · refine Nw.gen fun w41 e41 => ⟨?_, ?_⟩
      · rw [e41, if_pos e]; exact hM31.set0 _
      · rw [e41]; exact (Chg.set mb 0 w31 _).below b31 hmb
    · rw [if_neg e]; exact hM31
  rintro _ w42 ⟨hM42, b42⟩
  refine out mb _ true hM42 (hO16.below b42) (hb16.on b42) (fun _ => ?_) (fun h => by cases h)
  rw [hbM]
  unfold mrgP
  rw [if_pos e247, eg0, ha]
end
end Go.Proofs
namespace Go.Proofs
open Go.Gk Go.RowKit Go.Gm

theorem Chg.same {b : Nat} {T : TypeId} {cs : List Value} {w w' : World} (c : Chg b w w') (h : Blk w b T cs) (h' : Blk w' b T cs) : Below w.heap.size w w' :=
  ⟨c.os, c.tape, c.output, Nat.le_of_eq c.size.symm, fun k _ => by
    by_cases e : k = b
    · subst e; exact h'.trans h.symm
    · exact c.block k e⟩
section
variable {x : Mo} {pl : List PI} {w : World} {R : Value → World → Prop} {v : Fv} {f : FnL}
set_option maxHeartbeats 1000000 in
theorem rNew_spec (hN : IsPl w x.2.2.1 pl) (hp : PlOk pl) (h0 : 0 ≤ x.2.1) (hf : IsFn w v f)
    (hbad : ∀ w' e a, Below w.heap.size w w' → (e, a) = gnwE x pl f → e ≠ 0 → R (.tuple #[.pointer none, .slice none 0 0, .agg #[.int .i64 e, .int .i64 a]]) w')
    (hok : ∀ w' rb ms, Below w.heap.size w w' → gnwE x pl f = (0, 0) → f ∈ cutF pl pl.length → IsR w' rb (edges (rowsP pl f.bk)) → NxOk (edges (rowsP pl f.bk)) → IsM w' ms (mgsP pl f.bk) → R (.tuple #[.pointer (some (blk rb)), .slice ms.a ms.l ms.c, .agg #[.int .i64 0, .int .i64 0]]) w') :
    callR Tryz.prog 32 #[moA x, fvA v] w R := by
  refine callR.of (intaglioref14_New_calls x v R w ?_) fun _ _ h => h
  refine lay_of fun w1 hB1 b1 z1 => ?_
  have hB1 : Blk w1 w.heap.size 25 (moV x) := hB1
  refine lay_of fun w2 hV2 b2 z2 => ?_
  have hV2 : Blk w2 w1.heap.size 29 (fvV v) := hV2
  refine lay_of fun w3 hS3 b3 z3 => ?_
  have hS3 : Blk w3 w2.heap.size 33 [.int .i64 0, .int .i64 0] := hS3
  have b13 := b2.on b3
  have hb3 := b1.on b13
  refine Mo.load (hB1.below b13) ?_
  refine r9Check_spec (x := x) (hN.below hb3) hp fun w4 b4 => ⟨((chk9P x.2.1 pl).1, ((chk9P x.2.1 pl).2 : Int), ()), rfl, ?_⟩
  refine box2 rfl fun w7 h7 b7 z7 => ?_
  have b37 := b4.on b7
  have hb7 := hb3.on b37
  have hB7 := (hB1.below b13).below b37
  have hV7 := (hV2.below b3).below b37
  have hS7 := hS3.below b37
  have s1 := b1.size
  have s2 := b2.size
  have bad : ∀ {w' : World} (e a : Int), Blk w' w2.heap.size 33 [.int .i64 0, .int .i64 0] → Below w.heap.size w w' → (e, a) = gnwE x pl f → e ≠ 0 →
      Wr w' (blk w2.heap.size) ∧ Nw (w'.setCell (blk w2.heap.size) (.int .i64 e)) fun w8 => Wr w8 ((blk w2.heap.size).add 1) ∧ Nw (w8.setCell ((blk w2.heap.size).add 1) (.int .i64 a)) fun w9 => ldI w9 ((blk w2.heap.size).add 0) .i64 fun x9 => ldI w9 ((blk w2.heap.size).add 1) .i64 fun x10 =>
        R (.tuple #[.pointer none, .slice none 0 0, .agg #[.int .i64 x9, .int .i64 x10]]) w9 := fun {w'} e a hS hb he hne =>
    st2 hS rfl fun w9 hS9 c9 => Sp.load hS9 (hbad w9 e a (c9.below hb (by omega)) he hne)
  refine h7.rI0 rfl (ifB_bne (fun e => ?_) (fun e => ?_))
  · have e' : (chk9P x.2.1 pl).1 ≠ 0 := e
    exact Sp.load h7.drew (bad _ _ hS7.drew hb7.drew (by unfold gnwE; rw [if_pos e']) e')
  have e' : (chk9P x.2.1 pl).1 = 0 := e
  obtain ⟨k1, k2, k3⟩ := chk9_ok e'
  have hsh := lay_shape k2
  refine Mo.load hB7 (Fv.load (v := v) hV7 ?_)
  refine rKnown_spec (x := x) (v := v) (hN.below hb7) hp k2 (hf.below hb7) fun w10 b10 => ⟨_, rfl, ?_⟩
  have hb10 := hb7.on b10
  have hB10 := hB7.below b10
  have hV10 := hV7.below b10
  have hS10 := hS7.below b10
  refine ifB_not (ifB_dec (fun hin => ?_) (fun hin => ?_))
  rotate_left
  · exact bad 2 0 hS10 hb10 (by unfold gnwE; rw [if_neg (fun h => h e'), if_pos hin]) (by decide)
  have hFn := cut_ok k2 f hin
  have hnd := labels_nodup hp h0 e' hFn
  have hbl := (hf.bk).len
  have hbmax := (hf.bk).bound
  refine hV10.rS (n := 3) (x := v.2.2.2.1) rfl (ifB_dec (fun hgt => ?_) (fun hle => ?_))
  · refine hV10.drew.rI (n := 1) (x := v.2.1) rfl ?_
    exact bad 4 v.2.1 hS10.drew hb10.drew (by unfold gnwE; rw [if_neg (fun h => h e'), if_neg (fun h => h hin), if_pos (by omega), hf.at_]) (by decide)
  have hle : f.bk.length ≤ 4096 := by omega
  have hpos : 0 < f.bk.length := List.length_pos_iff.2 hFn.ne
  have hgn : gnwE x pl f = (match f.bk.findSome? (blkE pl f.bk) with
      | some a => (140, a)
      | none => (0, 0)) := by unfold gnwE; rw [if_neg (fun h => h e'), if_neg (fun h => h hin), if_neg (by omega)]; try rfl
  have hN10 := hN.below hb10
  have hbk10 : IsBk w10 v.2.2.2.1 f.bk := IsC.below blV_len hf.bk hb10
  have hl := hN.len
  have hlen := len_le hsh
  refine LoopW.ghost (fun j (st : Sl × Sl × Int × Unit) w' => ∃ (k : Nat) (nx mg : Sl) (hs : List Sl), st = (nx, mg, (k : Int), ()) ∧ j = f.bk.length - k ∧ k ≤ f.bk.length ∧ Below w10.heap.size w10 w' ∧ hs.length = k ∧ Own w' 26 1 nx (hs.map Sl.val) ∧ Fresh w10.heap.size nx ∧
    (∀ i (h : i < hs.length) (h' : i < (rowsP pl f.bk).length), Own w' 3 1 hs[i] ((rowsP pl f.bk)[i].map (Value.int .i64)) ∧ Fresh w10.heap.size hs[i]) ∧ Own w' 121 3 mg (flat mgV ((mgsP pl f.bk).take k)) ∧ Fresh w10.heap.size mg ∧
    ∀ i (h : i < f.bk.length), i < k → blkE pl f.bk f.bk[i] = none) f.bk.length
    ⟨0, ⟨none, 0, 0⟩, ⟨none, 0, 0⟩, [], rfl, rfl, Nat.zero_le _, Below.refl _ _, rfl, Own.nil _ _ _, fun a ha => (by cases ha), fun i h => (by cases h), Own.nil _ _ _, fun a ha => (by cases ha), fun i _ h => by omega⟩ ?_
  rintro _ _ w15 ⟨k, nx, mg, hs, rfl, rfl, hk, b15, hhl, hnx, hnxF, hrow, hmg, hmgF, hgood⟩ next hnext
  have hb15 := hb10.on b15
  have hV15 := hV10.below b15
  have hB15 := hB10.below b15
  have hS15 := hS10.below b15
  dsimp only
  refine hV15.rS (n := 3) (x := v.2.2.2.1) rfl (ifB_dec (fun h => ?_) (fun h => ?_))
  · have hkl : k < f.bk.length := by omega
    obtain ⟨fr, to_, hbq, hft, htl, h248, h8f, hend, h8t⟩ := (hFn.ok _ (List.getElem_mem hkl)).ex
    have hto : f.bk[k].2.2 = (to_ : Int) := by rw [hbq]
    refine hV15.rS (n := 3) (x := v.2.2.2.1) rfl (elemBk (IsC.below blV_len hbk10 b15) hkl ?_)
    refine box3 rfl fun w19 hK19 b19 z19 => ?_
    have hK19 : Blk w19 w15.heap.size 69 (blV f.bk[k]) := hK19
    have b1019 := b15.on b19
    have hb19 := hb10.on b1019
    have et1 : IntKind.i64.wrap ((to_ : Int) - 1) = ((to_ - 1 : Nat) : Int) := by rw [wrap64_in (by omega) (by omega)]; omega
    have et2 : IntKind.i64.wrap ((to_ : Int) - 2) = ((to_ - 2 : Nat) : Int) := by rw [wrap64_in (by omega) (by omega)]; omega
    have h1l : to_ - 1 < pl.length := by omega
    have ei1 : ix pl (to_ - 1) = pl[to_ - 1] := ix_lt h1l
    have hbT : blkT pl f.bk[k] = tgtP pl[to_ - 1].1 pl[to_ - 1].2.2.2 := by
      unfold blkT
      rw [hto, Int.toNat_natCast, ei1]
    refine Mo.load (hB15.below b19) (Fv.load (v := v) (hV15.below b19) ?_)
    refine hK19.rI (n := 0) (x := f.bk[k].1) rfl (hK19.rI (n := 1) (x := f.bk[k].2.1) rfl (hK19.rI (n := 2) (x := f.bk[k].2.2) rfl ?_))
    refine rMerge_spec (x := x) (v := v) (hN.below hb19) hsh (hf.below hb19) hFn hnd (List.getElem_mem hkl) fun m o w20 b20 hm1 hm2 => ⟨(m.1, m.2.1, m.2.2, ()), o, rfl, ?_⟩
    refine box3 rfl fun w24 hM24 b24 z24 => ?_
    have hM24 : Blk w24 w20.heap.size 121 (mgV m) := hM24
    have b1924 := b20.on b24
    have b1524 := b19.on b1924
    have b1024 := b1019.on b1924
    have hb24 := hb10.on b1024
    have hS24 := hS10.below b1024
    have hK24 := hK19.below b1924
    refine ifB_not (ifB_bool (fun hokt => ?_) (fun hokf => ?_))
    rotate_left
    · have hnone := hm2 hokf
      have hE : blkE pl f.bk f.bk[k] = some ((to_ : Int) - 2) := by unfold blkE; rw [hnone, hto]
      refine hK24.drew.rI (n := 2) (x := f.bk[k].2.2) rfl ?_
      rw [hto, et2]
      refine bad 140 ((to_ - 2 : Nat) : Int) hS24.drew hb24.drew ?_ (by decide)
      rw [hgn, findSome_first hkl hE fun j h1 h2 => hgood j h1 h2]
      dsimp only
      congr 1
      omega
    have hsome := hm1 hokt
    refine hM24.rI (n := 0) (x := m.1) rfl (hM24.rI (n := 1) (x := m.2.1) rfl (hM24.rI (n := 2) (x := m.2.2) rfl ?_))
    refine lay_of fun w27 hY27 b27 z27 => ?_
    have hY27 : Blk w27 w24.heap.size 121 (mgV m) := hY27
    have b1527 := b1524.on b27
    have b1027 := b15.on b1527
    have hmgl : mg.l = k := by
      have := hmg.1
      rw [flat_length mgV_len, List.length_take] at this
      unfold mgsP at this
      rw [List.length_map] at this
      omega
    have hnxl : nx.l = k := by
      have := hnx.1
      rw [List.length_map] at this
      omega
    refine push_keep (w0 := w10) eMg (hmg.below b1527) b1027 hmgF rfl (by simp [Value.oneCell']) hY27 (by omega) (by omega) fun mg' w28 q1 q2 q3 q4 q5 => ?_
    have hb28 := hb10.on q2
    have hB28 := hB10.below q2
    have hV28 := hV10.below q2
    have hS28 := hS10.below q2
    have keep28 : ∀ {T : TypeId} {sz : Nat} {s : Sl} {xs : List Value}, Own w27 T sz s xs → 121 ≠ T → Own w28 T sz s xs := fun ho hT => ho.of_block fun a ha => q5 _ (ho.lt ha).2 (own_notOwn (hmg.below b1527) ho hT ha)
    have hK27 := hK24.below b27
    have hK28 : Blk w28 w15.heap.size 69 (blV f.bk[k]) := hK27.of_block (q5 _ hK27.lt fun e => own_notBlk (hmg.below b1527) hK27 (by decide) e)
    refine hB28.rS (n := 2) (x := x.2.2.1) rfl (hK28.rI (n := 2) (x := f.bk[k].2.2) rfl ?_)
    rw [hto, et1]
    have hal24 := hp.args _ (List.getElem_mem h1l)
    refine elemPI (hN.below hb28) h1l fun tl htl' => ?_
    refine rTargets_spec (x := mkIn pl[to_ - 1] tl) htl' hal24 fun tg w29 htg htgF b29 => ⟨tg, rfl, ?_⟩
    have htg : Own w29 22 1 tg ((tgtP pl[to_ - 1].1 pl[to_ - 1].2.2.2).map (Value.int .u32)) := htg
    have hlenT := tgtP_len pl[to_ - 1].1 pl[to_ - 1].2.2.2
    have b1029 := q2.on b29
    have hb29 := hb10.on b1029
    have hS29 := hS10.below b1029
    have hV29 := hV10.below b1029
    have hK29 := hK28.below b29
    generalize htgd : tgtP pl[to_ - 1].1 pl[to_ - 1].2.2.2 = tgl at *
    have htl2 : tg.l = tgl.length := by have := htg.1; rw [List.length_map] at this; omega
    refine LoopW.countSl tgl.length (by omega) (fun j r w' => Below w29.heap.size w29 w' ∧ Own w' 3 1 r (((tgl.take j).map fun n => (lookL (lblM f.bk) n).getD 0).map (Value.int .i64)) ∧ Fresh w29.heap.size r ∧ ∀ i (h : i < tgl.length), i < j → (lookL (lblM f.bk) tgl[i]).isSome = true)
      ⟨Below.refl _ _, Own.nil _ _ _, fun a ha => (by cases ha), fun i _ h => by omega⟩ ?_
    rintro j r w30 hj ⟨b30, hO30, hF30, hfound⟩ next2 hnext2
    have b1030 := b1029.on b30
    have hb30 := hb10.on b1030
    have bd : Below w30.heap.size w30 w30.drew := (Below.refl _ _).drew
    have hV30 := hV29.below b30
    have hS30 := hS29.below b30
    have hK30 := hK29.below b30
    refine ifB_dec (fun hjl => ?_) (fun hjl => ?_)
    · have hjlt : j < tgl.length := by dsimp only at hjl; omega
      refine Fv.load (v := v) hV30.drew ?_
      refine elemU (htg.isS.below (b30.on bd)) hjlt ?_
      refine rBlock_spec (v := v) (hf.below (hb30.on bd)) hnd fun w31 b31 => ⟨_, rfl, ?_⟩
      have b3031 := bd.on b31
      have b2931 := b30.on b3031
      refine ifB_dec (fun hneg => ?_) (fun hnn => ?_)
      · have hnone := lblI_none (bk := f.bk) (n := tgl[j]) (by omega)
        have hfn : fndP (lblM f.bk) (blkT pl f.bk[k]) = none := by rw [hbT]; exact fndP_none ⟨tgl[j], List.getElem_mem hjlt, hnone⟩
        have hE : blkE pl f.bk f.bk[k] = some ((to_ : Int) - 1) := by unfold blkE; rw [hsome, hfn, hto]
        refine (hK29.below b2931).drew.rI (n := 2) (x := f.bk[k].2.2) rfl ?_
        rw [hto, et1]
        refine bad 140 ((to_ - 1 : Nat) : Int) (hS29.below b2931).drew (hb29.on b2931).drew ?_ (by decide)
        rw [hgn, findSome_first hkl hE fun j h1 h2 => hgood j h1 h2]
        dsimp only
        congr 1
        omega
      · obtain ⟨hs1, hv1⟩ := lblI_some (M := lblM f.bk) (n := tgl[j]) (by unfold lblI at hnn; omega)
        refine lay_of fun w34 hD34 b34 z34 => ?_
        have b3034 := b3031.on b34
        have hrl : r.l = j := by
          have := hO30.1
          rw [List.length_map, List.length_map, List.length_take] at this
          omega
        refine push_fresh eInt (hO30.below b3034) (b30.on b3034) hF30 rfl hD34 (by omega) (by omega) fun r' w35 hO35 hb35 hF35 => hnext2 r' w35 hjlt ⟨hb35, ?_, hF35, fun i q1 q2 => ?_⟩
        · rw [List.take_succ_eq_append_getElem hjlt, List.map_append, List.map_append]
          have : lblI f.bk tgl[j] = (lookL (lblM f.bk) tgl[j]).getD 0 := hv1
          rw [this] at hO35
          exact hO35
        · by_cases ei : i = j
          · subst ei; exact hs1
          · exact hfound i q1 (by omega)
    · have hjj : j = tgl.length := by dsimp only at hjl; omega
      subst hjj
      rw [List.take_length] at hO30
      have hall : ∀ n ∈ tgl, (lookL (lblM f.bk) n).isSome = true := fun n hn => by
        obtain ⟨i, hi, rfl⟩ := List.getElem_of_mem hn
        exact hfound i hi hi
      have hfn : fndP (lblM f.bk) (blkT pl f.bk[k]) = some (tgl.map fun n => (lookL (lblM f.bk) n).getD 0) := by rw [hbT]; exact fndP_some hall
      have hE : blkE pl f.bk f.bk[k] = none := by unfold blkE; rw [hsome, hfn]
      refine lay_of fun w36 hZ36 b36 z36 => ?_
      have hZ36 : Blk w36 w30.heap.size 26 [Sl.val r] := hZ36
      have b2936 := b30.on b36
      have b2836 := b29.on b2936
      have hnx27 := hnx.below b1527
      have hnx28 := keep28 hnx27 (by decide)
      have q2' := q2.on b2836
      refine push_keep (w0 := w10) eRow (hnx28.below b2836) q2' hnxF rfl (by simp [Value.oneCell', Sl.val]) hZ36 (by omega) (by omega) fun nx' w37 u1 u2 u3 u4 u5 => ?_
      have hnx36 := hnx28.below b2836
      have keep37 : ∀ {T : TypeId} {sz : Nat} {s : Sl} {xs : List Value}, Own w36 T sz s xs → 26 ≠ T → Own w37 T sz s xs := fun ho hT => ho.of_block fun a ha => u5 _ (ho.lt ha).2 (own_notOwn hnx36 ho hT ha)
      rw [wrap64_succ (by omega)]
      refine hnext (f.bk.length - (k + 1)) _ _ (by omega) ⟨k + 1, nx', mg', hs ++ [r], rfl, rfl, hkl, u2, by simp [hhl], ?_, u3, fun i h1 h2 => ?_, ?_, q3, fun i h1 h2 => ?_⟩
      · rw [List.map_append]
        exact u1
      · by_cases e : i < hs.length
        · rw [List.getElem_append_left e]
          obtain ⟨g1, g2⟩ := hrow i e h2
          exact ⟨keep37 ((keep28 (g1.below b1527) (by decide)).below b2836) (by decide), g2⟩
        · have ei : i = k := by simp at h1; omega
          subst ei
          have er : (hs ++ [r])[i]'h1 = r := by rw [List.getElem_append_right (by omega)]; simp [hhl]
          rw [er]
          refine ⟨?_, fun a ha => by have := hF30 a ha; have := b1029.size; omega⟩
          have : (rowsP pl f.bk)[i] = tgl.map fun n => (lookL (lblM f.bk) n).getD 0 := by
            refine (List.getElem_map (fun b => (fndP (lblM f.bk) (blkT pl b)).getD [])).trans ?_
            rw [hfn]
            rfl
          rw [this]
          exact keep37 (hO30.below b36) (by decide)
      · have hmk : (mgsP pl f.bk).take (k + 1) = (mgsP pl f.bk).take k ++ [m] := by
          have hlm : k < (mgsP pl f.bk).length := by unfold mgsP; rw [List.length_map]; exact hkl
          rw [List.take_succ_eq_append_getElem hlm]
          congr 2
          refine (List.getElem_map (fun b => (blkM pl f.bk b).getD (0, -1, -1))).trans ?_
          rw [hsome]
          rfl
        rw [hmk, flat_snoc]
        exact keep37 (q1.below b2836) (by decide)
      · by_cases e : i = k
        · subst e; exact hE
        · exact hgood i h1 (by omega)
  · have hkk : k = f.bk.length := by omega
    subst hkk
    have hrl : (rowsP pl f.bk).length = f.bk.length := by unfold rowsP; rw [List.length_map]
    have hml : (mgsP pl f.bk).length = f.bk.length := by unfold mgsP; rw [List.length_map]
    have hg0 : gnwE x pl f = (0, 0) := by rw [hgn, findSome_no fun j hj => hgood j hj hj]
    rw [← hml, List.take_length] at hmg
    have hII : IsII w15 nx hs (rowsP pl f.bk) := ⟨hnx.isS, by rw [hhl, hrl], fun i h1 h2 => (hrow i h1 h2).1.isS⟩
    have hGood : Good (rowsP pl f.bk) := by
      intro l hl' y hy
      obtain ⟨b, hb, rfl⟩ := List.mem_map.1 hl'
      cases hfd : fndP (lblM f.bk) (blkT pl b) with
      | none => rw [hfd] at hy; cases hy
      | some l =>
        rw [hfd] at hy
        unfold fndP at hfd
        split at hfd
        · rename_i hall
          cases hfd
          obtain ⟨n, hn, rfl⟩ := List.mem_map.1 hy
          have hs1 := List.all_eq_true.1 hall n hn
          obtain ⟨u, hu⟩ := Option.isSome_iff_exists.1 hs1
          rw [hu, Option.getD_some]
          have := lblN_val f.bk _ n u hu
          rw [hrl]
          omega
        · cases hfd
    have h8 : ∀ l ∈ rowsP pl f.bk, 8 * l.length ≤ 281474976710656 := fun l hl' => by
      obtain ⟨b, hb, rfl⟩ := List.mem_map.1 hl'
      cases hfd : fndP (lblM f.bk) (blkT pl b) with
      | none => simp
      | some l =>
        unfold fndP at hfd
        split at hfd
        · cases hfd
          obtain ⟨fr, to_, rfl, _, htl, _⟩ := (hFn.ok b hb).ex
          show 8 * (List.map _ _).length ≤ _
          rw [List.length_map]
          unfold blkT
          have h1l : to_ - 1 < pl.length := by omega
          rw [show Int.toNat ((ix pl fr).2.2.1, (fr : Int), (to_ : Int)).2.2 = to_ from rfl, ix_lt h1l]
          have := tgtP_len pl[to_ - 1].1 pl[to_ - 1].2.2.2
          have := hp.args _ (List.getElem_mem h1l)
          omega
        · cases hfd
    refine refOf_spec hII h8 (fun h => by rw [hrl] at h; omega) (fun h => by rw [hrl] at h; omega) (fun _ _ hng => absurd hGood hng) fun q1 q2 q3 w38 rb b38 hG => ⟨some (blk rb), 0, rfl, ?_⟩
    have hS38 := hS15.below b38
    refine st2 hS38 rfl fun w40 hS40 c40 => Sp.load hS40 ?_
    have b3840 := c40.same hS38 hS40
    have hb38 := hb15.on b38
    exact hok w40 rb mg (hb38.on b3840) hg0 hin (hG.below b3840) (edges_ok q1 q2 q3) (Own.isC mgV_len (by omega) ((hmg.below b38).below b3840))
end
end Go.Proofs
