/-
  Part 2 of what CallsNew is proved by: functions walked, and what they come to.
-/
import Derived.Test.YtogccbelnfgfhaaGreatProg
import Derived.ScopeJumps
import Derived.Test.YtogccbelnfgfhaaGreatPCallsNew1
namespace Go.Proofs
open Go.Gk
set_option linter.unusedVariables false
set_option maxRecDepth 100000

/-- intaglio.intagliolaw17.CallsNew -/
def a_intagliolaw17_CallsNew : Ann := (.seq none .nil (.seq none .nil (.seq none .nil (.seq none .nil (.seq (some ⟨[1, 5, 6, 7, 8], []⟩) (.seq none .nil (.cond (.seq none .nil .nil) .nil)) (.seq none .nil (.seq none .nil .nil)))))))
def L_intagliolaw17_CallsNew (p0 : (Int × Int × Sl × Unit)) (p1 : Int) (R : Value → World → Prop) (w : World) : Prop :=
 Nw (w.alloc (.cells #[(.int .u32 p0.1), (.int .u32 p0.2.1), (.slice p0.2.2.1.a p0.2.2.1.l p0.2.2.1.c)] 25)) fun w1 =>
 ldI w1 ((blk w.heap.size).add 0) .u32 fun x1 =>
 ldI w1 ((blk w.heap.size).add 1) .u32 fun x2 =>
 ldS w1 ((blk w.heap.size).add 2) fun x3 =>
 callR Tryz.prog 18 #[(.agg #[(.int .u32 x1), (.int .u32 x2), (.slice x3.a x3.l x3.c)])] w1 fun v4 w2 =>
 ∃ x5 : Sl, ∃ x6 : (Int × Int × Unit), v4 = (.tuple #[(.slice x5.a x5.l x5.c), (.agg #[(.int .i64 x6.1), (.int .i64 x6.2.1)])]) ∧
 Nw (w2.alloc (.cells #[(.int .i64 (0 : Int)), (.int .i64 (0 : Int))] 33)) fun w3 =>
 Wr w3 (blk w2.heap.size) ∧
 Nw (w3.setCell (blk w2.heap.size) (.int .i64 x6.1)) fun w4 =>
 Wr w4 ((blk w2.heap.size).add 1) ∧
 Nw (w4.setCell ((blk w2.heap.size).add 1) (.int .i64 x6.2.1)) fun w5 =>
 ldI w5 ((blk w.heap.size).add 0) .u32 fun x7 =>
 ldI w5 ((blk w.heap.size).add 1) .u32 fun x8 =>
 ldS w5 ((blk w.heap.size).add 2) fun x9 =>
 callR Tryz.prog 11 #[(.agg #[(.int .u32 x7), (.int .u32 x8), (.slice x9.a x9.l x9.c)])] w5 fun v10 w6 =>
 ∃ x11 : (Int × Int × Sl × Unit), v10 = (.agg #[(.int .u32 x11.1), (.int .u32 x11.2.1), (.slice x11.2.2.1.a x11.2.2.1.l x11.2.2.1.c)]) ∧
 Nw (w6.alloc (.cells #[(.int .u32 (0 : Int)), (.int .u32 (0 : Int)), (.slice none 0 0)] 25)) fun w7 =>
 Wr w7 (blk w6.heap.size) ∧
 Nw (w7.setCell (blk w6.heap.size) (.int .u32 x11.1)) fun w8 =>
 Wr w8 ((blk w6.heap.size).add 1) ∧
 Nw (w8.setCell ((blk w6.heap.size).add 1) (.int .u32 x11.2.1)) fun w9 =>
 Wr w9 ((blk w6.heap.size).add 2) ∧
 Nw (w9.setCell ((blk w6.heap.size).add 2) (.slice x11.2.2.1.a x11.2.2.1.l x11.2.2.1.c)) fun w10 =>
 ldI w10 ((blk w6.heap.size).add 0) .u32 fun x12 =>
 ldI w10 ((blk w6.heap.size).add 1) .u32 fun x13 =>
 ldS w10 ((blk w6.heap.size).add 2) fun x14 =>
 callR Tryz.prog 19 #[(.agg #[(.int .u32 x12), (.int .u32 x13), (.slice x14.a x14.l x14.c)])] w10 fun v15 w11 =>
 ∃ x16 : Option Addr, ∃ x17 : (Int × Int × Unit), v15 = (.tuple #[(.pointer x16), (.agg #[(.int .i64 x17.1), (.int .i64 x17.2.1)])]) ∧
 Nw (w11.alloc (.cells #[(.int .i64 (0 : Int)), (.int .i64 (0 : Int))] 33)) fun w12 =>
 Wr w12 (blk w11.heap.size) ∧
 Nw (w12.setCell (blk w11.heap.size) (.int .i64 x17.1)) fun w13 =>
 Wr w13 ((blk w11.heap.size).add 1) ∧
 Nw (w13.setCell ((blk w11.heap.size).add 1) (.int .i64 x17.2.1)) fun w14 =>
 JoinW (S := Unit) (fun m18 =>
 ldI w14 ((blk w11.heap.size).add 0) .i64 fun x20 =>
 ldI w14 ((blk w11.heap.size).add 1) .i64 fun x21 =>
 ldI w14 ((blk w2.heap.size).add 0) .i64 fun x22 =>
 ldI w14 ((blk w2.heap.size).add 1) .i64 fun x23 =>
 ifB (!(x20 == x22 && (x21 == x23 && true)))
 (R (.bool false) w14)
 (ldI w14 (blk w2.heap.size) .i64 fun x24 =>
 ifB (!((!(Option.isNone x16)) == (x24 == (0 : Int))))
 (R (.bool false) w14)
 (m18 (()) w14)))
 (fun s19 w15 =>
 ldI w15 ((blk w6.heap.size).add 0) .u32 fun x25 =>
 ldI w15 ((blk w6.heap.size).add 1) .u32 fun x26 =>
 ldS w15 ((blk w6.heap.size).add 2) fun x27 =>
 callR Tryz.prog 20 #[(.agg #[(.int .u32 x25), (.int .u32 x26), (.slice x27.a x27.l x27.c)])] w15 fun v28 w16 =>
 v28 = (.tuple #[]) ∧
 ldI w16 (blk w2.heap.size) .i64 fun x29 =>
 ifB (x29 != (0 : Int))
 (R (.bool true) w16)
 (callR Tryz.prog 21 #[(.pointer x16), (.slice x5.a x5.l x5.c), (.int .i64 p1)] w16 fun v30 w17 =>
 ∃ x31 : Bool, v30 = (.bool x31) ∧
 R (.bool x31) w17))
theorem intagliolaw17_CallsNew_calls (p0 : (Int × Int × Sl × Unit)) (p1 : Int) (R : Value → World → Prop) (w : World) (h : L_intagliolaw17_CallsNew p0 p1 R w) : Calls Tryz.prog 6 #[(.agg #[(.int .u32 p0.1), (.int .u32 p0.2.1), (.slice p0.2.2.1.a p0.2.2.1.l p0.2.2.1.c)]), (.int .i64 p1)] w (Ret R) :=
 lw_calls (fs := Tryz.fs) (an := a_intagliolaw17_CallsNew) (args := [(.agg #[(.int .u32 p0.1), (.int .u32 p0.2.1), (.slice p0.2.2.1.a p0.2.2.1.l p0.2.2.1.c)]), (.int .i64 p1)]) Tryz.fsOK Tryz.mixed Tryz.func6 (by kernel_rfl) (by kernel_rfl)
 (Eq.mpr (by kernel_rfl : lwFn Tryz.prog Tryz.fs Tryz.f6 a_intagliolaw17_CallsNew [(.agg #[(.int .u32 p0.1), (.int .u32 p0.2.1), (.slice p0.2.2.1.a p0.2.2.1.l p0.2.2.1.c)]), (.int .i64 p1)] w R = L_intagliolaw17_CallsNew p0 p1 R w) h)

/-- intaglio.intagliolaw17.agree -/
def a_intagliolaw17_agree : Ann := (.seq none .nil (.seq none .nil (.seq (some ⟨[0, 1, 2, 7], []⟩) (.seq none .nil (.cond (.seq none .nil .nil) .nil)) (.seq none .nil (.seq none .nil .nil)))))
def L_intagliolaw17_agree (p0 : Option Addr) (p1 : Sl) (p2 : Int) (R : Value → World → Prop) (w : World) : Prop :=
 callR Tryz.prog 27 #[(.pointer p0), (.int .i64 p2)] w fun v1 w1 =>
 ∃ x2 : Sl, v1 = (.slice x2.a x2.l x2.c) ∧
 JoinW (S := Unit) (fun m3 =>
 callR Tryz.prog 25 #[(.pointer p0)] w1 fun v5 w2 =>
 ∃ x6 : Int, v5 = (.int .i64 x6) ∧
 ifB (x6 != (p1.l : Int))
 (R (.bool false) w2)
 (callR Tryz.prog 61 #[(.slice p1.a p1.l p1.c), (.int .i64 p2)] w2 fun v7 w3 =>
 ∃ x8 : Sl, v7 = (.slice x8.a x8.l x8.c) ∧
 callR Tryz.prog 26 #[(.slice x2.a x2.l x2.c), (.slice x8.a x8.l x8.c)] w3 fun v9 w4 =>
 ∃ x10 : Bool, v9 = (.bool x10) ∧
 ifB (!x10)
 (R (.bool false) w4)
 (callR Tryz.prog 62 #[(.pointer p0), (.int .i64 p2)] w4 fun v11 w5 =>
 ∃ x12 : Sl, v11 = (.slice x12.a x12.l x12.c) ∧
 callR Tryz.prog 63 #[(.slice p1.a p1.l p1.c), (.int .i64 p2)] w5 fun v13 w6 =>
 ∃ x14 : Sl, v13 = (.slice x14.a x14.l x14.c) ∧
 callR Tryz.prog 26 #[(.slice x12.a x12.l x12.c), (.slice x14.a x14.l x14.c)] w6 fun v15 w7 =>
 ∃ x16 : Bool, v15 = (.bool x16) ∧
 ifB (!x16)
 (R (.bool false) w7)
 (callR Tryz.prog 64 #[(.pointer p0), (.int .i64 p2)] w7 fun v17 w8 =>
 ∃ x18 : Int, v17 = (.int .i64 x18) ∧
 callR Tryz.prog 65 #[(.slice p1.a p1.l p1.c), (.int .i64 p2)] w8 fun v19 w9 =>
 ∃ x20 : Int, v19 = (.int .i64 x20) ∧
 ifB (x18 != x20)
 (R (.bool false) w9)
 (m3 (()) w9)))))
 (fun s4 w10 =>
 callR Tryz.prog 66 #[(.slice x2.a x2.l x2.c)] w10 fun v21 w11 =>
 v21 = (.tuple #[]) ∧
 callR Tryz.prog 27 #[(.pointer p0), (.int .i64 p2)] w11 fun v22 w12 =>
 ∃ x23 : Sl, v22 = (.slice x23.a x23.l x23.c) ∧
 callR Tryz.prog 61 #[(.slice p1.a p1.l p1.c), (.int .i64 p2)] w12 fun v24 w13 =>
 ∃ x25 : Sl, v24 = (.slice x25.a x25.l x25.c) ∧
 callR Tryz.prog 26 #[(.slice x23.a x23.l x23.c), (.slice x25.a x25.l x25.c)] w13 fun v26 w14 =>
 ∃ x27 : Bool, v26 = (.bool x27) ∧
 ifB x27
 (callR Tryz.prog 28 #[(.pointer p0), (.int .i64 p2)] w14 fun v28 w15 =>
 ∃ x29 : Sl, v28 = (.slice x29.a x29.l x29.c) ∧
 callR Tryz.prog 67 #[(.slice p1.a p1.l p1.c), (.int .i64 p2)] w15 fun v30 w16 =>
 ∃ x31 : Sl, v30 = (.slice x31.a x31.l x31.c) ∧
 callR Tryz.prog 26 #[(.slice x29.a x29.l x29.c), (.slice x31.a x31.l x31.c)] w16 fun v32 w17 =>
 ∃ x33 : Bool, v32 = (.bool x33) ∧
 ifB x33
 (callR Tryz.prog 29 #[(.pointer p0)] w17 fun v34 w18 =>
 ∃ x35 : Sl, v34 = (.slice x35.a x35.l x35.c) ∧
 callR Tryz.prog 68 #[(.slice p1.a p1.l p1.c)] w18 fun v36 w19 =>
 ∃ x37 : Sl, v36 = (.slice x37.a x37.l x37.c) ∧
 callR Tryz.prog 26 #[(.slice x35.a x35.l x35.c), (.slice x37.a x37.l x37.c)] w19 fun v38 w20 =>
 ∃ x39 : Bool, v38 = (.bool x39) ∧
 R (.bool x39) w20)
 (R (.bool false) w17))
 (R (.bool false) w14))
theorem intagliolaw17_agree_calls (p0 : Option Addr) (p1 : Sl) (p2 : Int) (R : Value → World → Prop) (w : World) (h : L_intagliolaw17_agree p0 p1 p2 R w) : Calls Tryz.prog 21 #[(.pointer p0), (.slice p1.a p1.l p1.c), (.int .i64 p2)] w (Ret R) :=
 lw_calls (fs := Tryz.fs) (an := a_intagliolaw17_agree) (args := [(.pointer p0), (.slice p1.a p1.l p1.c), (.int .i64 p2)]) Tryz.fsOK Tryz.mixed Tryz.func21 (by kernel_rfl) (by kernel_rfl)
 (Eq.mpr (by kernel_rfl : lwFn Tryz.prog Tryz.fs Tryz.f21 a_intagliolaw17_agree [(.pointer p0), (.slice p1.a p1.l p1.c), (.int .i64 p2)] w R = L_intagliolaw17_agree p0 p1 p2 R w) h)

end Go.Proofs
namespace Go.Proofs
open Go.Gk
set_option linter.unusedVariables false
set_option maxRecDepth 100000

/-- intaglio.intaglioref05.Cut -/
def a_intaglioref05_Cut : Ann := (.seq none .nil (.seq none .nil (.seq none (.seq none .nil (.cond (.seq none .nil .nil) .nil)) (.seq none .nil (.seq none (.seq none .nil (.one (.loop ⟨[1, 3, 4], [(5, (.b .slice)), (6, (.b (.int .i64)))]⟩ (.seq none (.seq none .nil (.cond .nil .nil)) (.seq (some ⟨[1, 3, 4, 6], [(5, (.b .slice))]⟩) (.one (.seq none .nil (.seq none .nil (.seq (some ⟨[1, 3, 4, 6, 7, 8], [(5, (.b .slice))]⟩) (.seq none .nil (.cond .nil .nil)) (.seq (some ⟨[1, 3, 4, 5, 6, 7, 8], []⟩) (.seq none .nil (.cond .nil .nil)) (.seq (some ⟨[1, 3, 4, 5, 6, 7, 8], []⟩) (.seq none .nil (.cond .nil .nil)) (.seq (some ⟨[1, 3, 4, 5, 6, 7, 8], []⟩) (.seq none .nil (.cond .nil .nil)) (.seq none .nil (.cond .nil .nil))))))))) .nil))))) (.seq none .nil .nil))))))
def L_intaglioref05_Cut (p0 : (Int × Int × Sl × Unit)) (R : Value → World → Prop) (w : World) : Prop :=
 Nw (w.alloc (.cells #[(.int .u32 p0.1), (.int .u32 p0.2.1), (.slice p0.2.2.1.a p0.2.2.1.l p0.2.2.1.c)] 25)) fun w1 =>
 Nw (w1.alloc (.cells #[(.int .i64 (0 : Int)), (.int .i64 (0 : Int))] 33)) fun w2 =>
 ldI w2 ((blk w.heap.size).add 0) .u32 fun x1 =>
 ldI w2 ((blk w.heap.size).add 1) .u32 fun x2 =>
 ldS w2 ((blk w.heap.size).add 2) fun x3 =>
 callR Tryz.prog 30 #[(.agg #[(.int .u32 x1), (.int .u32 x2), (.slice x3.a x3.l x3.c)])] w2 fun v4 w3 =>
 ∃ x5 : (Int × Int × Unit), v4 = (.agg #[(.int .i64 x5.1), (.int .i64 x5.2.1)]) ∧
 Nw (w3.alloc (.cells #[(.int .i64 (0 : Int)), (.int .i64 (0 : Int))] 33)) fun w4 =>
 Wr w4 (blk w3.heap.size) ∧
 Nw (w4.setCell (blk w3.heap.size) (.int .i64 x5.1)) fun w5 =>
 Wr w5 ((blk w3.heap.size).add 1) ∧
 Nw (w5.setCell ((blk w3.heap.size).add 1) (.int .i64 x5.2.1)) fun w6 =>
 ldI w6 (blk w3.heap.size) .i64 fun x6 =>
 ifB (x6 != (0 : Int))
 (ldI w6.drew ((blk w3.heap.size).add 0) .i64 fun x7 =>
 ldI w6.drew ((blk w3.heap.size).add 1) .i64 fun x8 =>
 Wr w6.drew (blk w1.heap.size) ∧
 Nw (w6.drew.setCell (blk w1.heap.size) (.int .i64 x7)) fun w7 =>
 Wr w7 ((blk w1.heap.size).add 1) ∧
 Nw (w7.setCell ((blk w1.heap.size).add 1) (.int .i64 x8)) fun w8 =>
 ldI w8 ((blk w1.heap.size).add 0) .i64 fun x9 =>
 ldI w8 ((blk w1.heap.size).add 1) .i64 fun x10 =>
 R (.tuple #[(.slice none 0 0), (.agg #[(.int .i64 x9), (.int .i64 x10)])]) w8)
 (LoopW (S := Sl × Int × Unit) (fun s11 w9 n12 =>
 ldS w9 ((blk w.heap.size).add 2) fun x13 =>
 ifB (decide (s11.2.1 < (x13.l : Int)))
 (JoinW (S := Sl × Unit) (fun m14 =>
 ldS w9 ((blk w.heap.size).add 2) fun x16 =>
 (0 ≤ s11.2.1 ∧ s11.2.1 < (x16.l : Int)) ∧
 derefP x16.a fun a17 =>
 ldI w9 ((a17.add ((Int.toNat s11.2.1) * 4)).add 0) .u16 fun x18 =>
 ldI w9 ((a17.add ((Int.toNat s11.2.1) * 4)).add 1) .u32 fun x19 =>
 ldI w9 ((a17.add ((Int.toNat s11.2.1) * 4)).add 2) .u32 fun x20 =>
 ldS w9 ((a17.add ((Int.toNat s11.2.1) * 4)).add 3) fun x21 =>
 Nw (w9.alloc (.cells #[(.int .u16 (0 : Int)), (.int .u32 (0 : Int)), (.int .u32 (0 : Int)), (.slice none 0 0)] 41)) fun w10 =>
 Wr w10 (blk w9.heap.size) ∧
 Nw (w10.setCell (blk w9.heap.size) (.int .u16 x18)) fun w11 =>
 Wr w11 ((blk w9.heap.size).add 1) ∧
 Nw (w11.setCell ((blk w9.heap.size).add 1) (.int .u32 x19)) fun w12 =>
 Wr w12 ((blk w9.heap.size).add 2) ∧
 Nw (w12.setCell ((blk w9.heap.size).add 2) (.int .u32 x20)) fun w13 =>
 Wr w13 ((blk w9.heap.size).add 3) ∧
 Nw (w13.setCell ((blk w9.heap.size).add 3) (.slice x21.a x21.l x21.c)) fun w14 =>
 JoinW (S := Sl × Unit) (fun m22 =>
 ldI w14 (blk w9.heap.size) .u16 fun x24 =>
 ifB (x24 == (54 : Int))
 (ldI w14 ((blk w9.heap.size).add 2) .u32 fun x25 =>
 Nw (w14.alloc (.cells #[(.int .u32 x25), (.int .i64 s11.2.1), (.slice none 0 0), (.slice none 0 0), (.int .i64 (0 : Int))] 29)) fun w15 =>
 appendS Tryz.prog 30 (.slice s11.1.a s11.1.l s11.1.c) (.slice (some (blk w14.heap.size)) 1 1) w15 fun r26 w16 =>
 m22 (r26, ()) w16)
 (m22 (s11.1, ()) w14))
 (fun s23 w17 =>
 JoinW (S := Unit) (fun m27 =>
 ldI w17 (blk w9.heap.size) .u16 fun x29 =>
 ifB (x29 == (55 : Int))
 ((0 ≤ (IntKind.i64.wrap ((s11.1.l : Int) - (1 : Int))) ∧ (IntKind.i64.wrap ((s11.1.l : Int) - (1 : Int))) < (s23.1.l : Int)) ∧
 derefP s23.1.a fun a30 =>
 ldS w17 ((a30.add ((Int.toNat (IntKind.i64.wrap ((s11.1.l : Int) - (1 : Int)))) * 5)).add 2) fun x31 =>
 Nw (w17.alloc (.cells #[(.int .i64 s11.2.1)] 3)) fun w18 =>
 appendS Tryz.prog 26 (.slice x31.a x31.l x31.c) (.slice (some (blk w17.heap.size)) 1 1) w18 fun r32 w19 =>
 (0 ≤ (IntKind.i64.wrap ((s11.1.l : Int) - (1 : Int))) ∧ (IntKind.i64.wrap ((s11.1.l : Int) - (1 : Int))) < (s23.1.l : Int)) ∧
 derefP s23.1.a fun a33 =>
 Wr w19 ((a33.add ((Int.toNat (IntKind.i64.wrap ((s11.1.l : Int) - (1 : Int)))) * 5)).add 2) ∧
 Nw (w19.setCell ((a33.add ((Int.toNat (IntKind.i64.wrap ((s11.1.l : Int) - (1 : Int)))) * 5)).add 2) (.slice r32.a r32.l r32.c)) fun w20 =>
 m27 (()) w20)
 (m27 (()) w17))
 (fun s28 w21 =>
 JoinW (S := Unit) (fun m34 =>
 ldI w21 (blk w9.heap.size) .u16 fun x36 =>
 ifB (x36 == (56 : Int))
 ((0 ≤ (IntKind.i64.wrap ((s11.1.l : Int) - (1 : Int))) ∧ (IntKind.i64.wrap ((s11.1.l : Int) - (1 : Int))) < (s23.1.l : Int)) ∧
 derefP s23.1.a fun a37 =>
 Wr w21 ((a37.add ((Int.toNat (IntKind.i64.wrap ((s11.1.l : Int) - (1 : Int)))) * 5)).add 4) ∧
 Nw (w21.setCell ((a37.add ((Int.toNat (IntKind.i64.wrap ((s11.1.l : Int) - (1 : Int)))) * 5)).add 4) (.int .i64 s11.2.1)) fun w22 =>
 m34 (()) w22)
 (m34 (()) w21))
 (fun s35 w23 =>
 JoinW (S := Unit) (fun m38 =>
 ldI w23 (blk w9.heap.size) .u16 fun x40 =>
 ifB (x40 == (248 : Int))
 ((0 ≤ (IntKind.i64.wrap ((s11.1.l : Int) - (1 : Int))) ∧ (IntKind.i64.wrap ((s11.1.l : Int) - (1 : Int))) < (s23.1.l : Int)) ∧
 derefP s23.1.a fun a41 =>
 ldS w23.drew ((a41.add ((Int.toNat (IntKind.i64.wrap ((s11.1.l : Int) - (1 : Int)))) * 5)).add 3) fun x42 =>
 ldI w23.drew ((blk w9.heap.size).add 2) .u32 fun x43 =>
 Nw (w23.drew.alloc (.cells #[(.int .u32 x43), (.int .i64 s11.2.1), (.int .i64 (0 : Int))] 69)) fun w24 =>
 w24.cell? ((a41.add ((Int.toNat (IntKind.i64.wrap ((s11.1.l : Int) - (1 : Int)))) * 5)).add 3) = some (.slice x42.a x42.l x42.c) ∧
 appendS Tryz.prog 27 (.slice x42.a x42.l x42.c) (.slice (some (blk w23.drew.heap.size)) 1 1) w24 fun r44 w25 =>
 (0 ≤ (IntKind.i64.wrap ((s11.1.l : Int) - (1 : Int))) ∧ (IntKind.i64.wrap ((s11.1.l : Int) - (1 : Int))) < (s23.1.l : Int)) ∧
 derefP s23.1.a fun a45 =>
 Wr w25 ((a45.add ((Int.toNat (IntKind.i64.wrap ((s11.1.l : Int) - (1 : Int)))) * 5)).add 3) ∧
 Nw (w25.setCell ((a45.add ((Int.toNat (IntKind.i64.wrap ((s11.1.l : Int) - (1 : Int)))) * 5)).add 3) (.slice r44.a r44.l r44.c)) fun w26 =>
 m38 (()) w26)
 (m38 (()) w23))
 (fun s39 w27 =>
 ldI w27 (blk w9.heap.size) .u16 fun x46 =>
 callR Tryz.prog 31 #[(.int .u16 x46)] w27 fun v47 w28 =>
 ∃ x48 : Bool, v47 = (.bool x48) ∧
 ifB x48
 ((0 ≤ (IntKind.i64.wrap ((s11.1.l : Int) - (1 : Int))) ∧ (IntKind.i64.wrap ((s11.1.l : Int) - (1 : Int))) < (s23.1.l : Int)) ∧
 derefP s23.1.a fun a49 =>
 ldS w28.drew ((a49.add ((Int.toNat (IntKind.i64.wrap ((s11.1.l : Int) - (1 : Int)))) * 5)).add 3) fun x50 =>
 (0 ≤ (IntKind.i64.wrap ((s11.1.l : Int) - (1 : Int))) ∧ (IntKind.i64.wrap ((s11.1.l : Int) - (1 : Int))) < (s23.1.l : Int)) ∧
 derefP s23.1.a fun a51 =>
 ldS w28.drew ((a51.add ((Int.toNat (IntKind.i64.wrap ((s11.1.l : Int) - (1 : Int)))) * 5)).add 3) fun x52 =>
 (0 ≤ (IntKind.i64.wrap ((x52.l : Int) - (1 : Int))) ∧ (IntKind.i64.wrap ((x52.l : Int) - (1 : Int))) < (x50.l : Int)) ∧
 derefP x50.a fun a53 =>
 Wr w28.drew ((a53.add ((Int.toNat (IntKind.i64.wrap ((x52.l : Int) - (1 : Int)))) * 3)).add 2) ∧
 Nw (w28.drew.setCell ((a53.add ((Int.toNat (IntKind.i64.wrap ((x52.l : Int) - (1 : Int)))) * 3)).add 2) (.int .i64 (IntKind.i64.wrap (s11.2.1 + (1 : Int))))) fun w29 =>
 m14 (s23.1, ()) w29)
 (m14 (s23.1, ()) w28))))))
 (fun s15 w30 =>
 n12 (s15.1, (IntKind.i64.wrap (s11.2.1 + (1 : Int))), ()) w30))
 (ldI w9.drew ((blk w3.heap.size).add 0) .i64 fun x54 =>
 ldI w9.drew ((blk w3.heap.size).add 1) .i64 fun x55 =>
 Wr w9.drew (blk w1.heap.size) ∧
 Nw (w9.drew.setCell (blk w1.heap.size) (.int .i64 x54)) fun w31 =>
 Wr w31 ((blk w1.heap.size).add 1) ∧
 Nw (w31.setCell ((blk w1.heap.size).add 1) (.int .i64 x55)) fun w32 =>
 ldI w32 ((blk w1.heap.size).add 0) .i64 fun x56 =>
 ldI w32 ((blk w1.heap.size).add 1) .i64 fun x57 =>
 R (.tuple #[(.slice s11.1.a s11.1.l s11.1.c), (.agg #[(.int .i64 x56), (.int .i64 x57)])]) w32))
 ((Sl.mk none 0 0), (0 : Int), ()) w6)
theorem intaglioref05_Cut_calls (p0 : (Int × Int × Sl × Unit)) (R : Value → World → Prop) (w : World) (h : L_intaglioref05_Cut p0 R w) : Calls Tryz.prog 8 #[(.agg #[(.int .u32 p0.1), (.int .u32 p0.2.1), (.slice p0.2.2.1.a p0.2.2.1.l p0.2.2.1.c)])] w (Ret R) :=
 lw_calls (fs := Tryz.fs) (an := a_intaglioref05_Cut) (args := [(.agg #[(.int .u32 p0.1), (.int .u32 p0.2.1), (.slice p0.2.2.1.a p0.2.2.1.l p0.2.2.1.c)])]) Tryz.fsOK Tryz.mixed Tryz.func8 (by kernel_rfl) (by kernel_rfl)
 (Eq.mpr (by kernel_rfl : lwFn Tryz.prog Tryz.fs Tryz.f8 a_intaglioref05_Cut [(.agg #[(.int .u32 p0.1), (.int .u32 p0.2.1), (.slice p0.2.2.1.a p0.2.2.1.l p0.2.2.1.c)])] w R = L_intaglioref05_Cut p0 R w) h)

end Go.Proofs
namespace Go.Proofs
open Go.Gk
set_option linter.unusedVariables false
set_option maxRecDepth 100000

end Go.Proofs
namespace Go.Gk
open Go

def isLabel (l : Nat) : Code → Bool
  | .label l' => Nat.beq l' l
  | _ => false
/-- What stands behind the label. -/
def spineB (l : Nat) : Code → Option Code
  | .seq a b => match isLabel l a with
    | true => some b
    | false => match findLabel a l with
      | none => spineB l b
      | some _ => none
  | _ => none
theorem isLabel_spec {l : Nat} {a : Code} (h : isLabel l a = true) : a = .label l := by
  cases a <;> simp only [isLabel] at h <;> first | cases h | skip
  rename_i l'
  have := Nat.eq_of_beq_eq_true h
  rw [this]
theorem spineB_find {l : Nat} : ∀ {c B : Code}, spineB l c = some B → findLabel c l = some (.seq .skip B)
  | .seq a b, B, h => by
    simp only [spineB] at h
    split at h
    · rename_i hl
      cases h
      rw [isLabel_spec hl]
      simp [findLabel]
    · split at h
      · rename_i hf
        simp only [findLabel, hf]
        exact spineB_find h
      · cases h
  | .skip, _, h | .label _, _, h | .ret, _, h | .exit _, _, h | .goto _, _, h => by cases h
  | .region .., _, h | .cond .., _, h | .block .., _, h | .loop .., _, h | .scope .., _, h => by cases h
  | .rangeFunc .., _, h => by cases h

def jumpK (l : Nat) (next : Env → World → Prop) (K : Exit → Env → World → Prop) : Exit → Env → World → Prop
  | .goto l', e, w => match Nat.beq l' l with
    | true => next e w
    | false => False
  | x, e, w => K x e w
def lwA (P : Program) (fs : List Nat) (l : Nat) : Code → Ann → Env → World → (Exit → Env → World → Prop) → Prop
  | .seq a b, .seq none aa ab, e, w, K => match isLabel l a with
    | true => False
    | false => lw P fs a aa e w (seqK (fun e w => lwA P fs l b ab e w K) K)
  | .seq a b, .seq (some j) aa ab, e, w, K => match isLabel l a with
    | true => False
    | false => match keepOk j.keep (wr a) with
      | true => JoinW (fun M => lw P fs a aa e w (seqK (fun e w => match getSt j.sg e with | some s => M s w | none => False) K))
          (fun s w => lwA P fs l b ab (putSt j.sg s (keepE j.keep e)) w K)
      | false => False
  | .seq a b, .loop j ab, e, w, K => match isLabel l a with
    | true => match keepOk j.keep (wr b) with
      | true => match getSt j.sg e with
        | some s => LoopW (fun s w next => lw P fs b ab (putSt j.sg s (keepE j.keep e)) w (jumpK l (fun e w => match getSt j.sg e with | some s => next s w | none => False) K)) s w
        | none => False
      | false => False
    | false => False
  | _, _, _, _, _ => False
def lwJFn (P : Program) (fs : List Nat) (l : Nat) (fn : Func) (an : Ann) (args : List Value) (w : World) (R : Value → World → Prop) : Prop :=
  match fn.body with
  | some (.seq r (.scope c)) => match an with
    | .seq none ar (.one ac) => match spineB l c with
      | some _ => lw P fs r ar (argsE args 0) w (seqK (fun e w => lwA P fs l c ac e w (scopeK (retK P fn.results.toList R))) (scopeK (retK P fn.results.toList R)))
      | none => False
    | _ => False
  | _ => False

section
variable {P : Program}
/-- With fewer than n jumps. -/
def JB (P : Program) (l : Nat) (B : Code) (Q : Exit → Act → World → Prop) : Nat → Act → World → Prop
  | 0, _, _ => False
  | n + 1, a, w => (Code.seq .skip B).wp P (Exit.jump l (JB P l B Q n) Q) a w
theorem least {p : Nat → Prop} : ∀ n, p n → ∃ n, p n ∧ ∀ m, p m → n ≤ m := by
  intro n
  induction n using Nat.strongRecOn with
  | _ n ih =>
    intro h
    by_cases hm : ∃ m, m < n ∧ p m
    · obtain ⟨m, h1, h2⟩ := hm
      exact ih m h1 h2
    · exact ⟨n, h, fun m hp => Nat.le_of_not_lt fun hlt => hm ⟨m, hlt, hp⟩⟩
theorem jump_mono {l : Nat} {J J' : Act → World → Prop} {Q Q' : Exit → Act → World → Prop} (hJ : ∀ a w, J a w → J' a w) (hQ : ∀ x a w, Q x a w → Q' x a w) : ∀ x a w, Exit.jump l J Q x a w → Exit.jump l J' Q' x a w := by
  intro x a w h
  cases x with
  | goto l' => exact ⟨h.1, hJ _ _ h.2⟩
  | _ => exact hQ _ _ _ h
theorem wp_scope_JB {c B : Code} {l : Nat} {Q : Exit → Act → World → Prop} {a : Act} {w : World} (hf : findLabel c l = some (.seq .skip B))
    (first : c.wp P (Exit.jump l (fun a w => ∃ n, JB P l B Q n a w) Q) a w) : (Code.scope c).wp P Q a w := by
  have hl : ∀ (a : Act) (w : World), (∃ n, JB P l B Q n a w) → ∃ n, JB P l B Q n a w ∧ ∀ m, JB P l B Q m a w → n ≤ m := fun a w ⟨n, h⟩ => least n h
  classical
  refine wp_scope_jumps l (fun a w => ∃ n, JB P l B Q n a w) (fun a w => if h : ∃ n, JB P l B Q n a w then Classical.choose (hl a w h) else 0) hf first ?_
  intro a w hJ
  have hs := Classical.choose_spec (hl a w hJ)
  simp only [dif_pos hJ]
  generalize Classical.choose (hl a w hJ) = n at hs
  cases n with
  | zero => exact hs.1.elim
  | succ k =>
    refine Code.wp_mono (jump_mono ?_ fun _ _ _ h => h) hs.1
    intro a' w' h'
    have hJ' : ∃ n, JB P l B Q n a' w' := ⟨k, h'⟩
    refine ⟨hJ', ?_⟩
    rw [dif_pos hJ']
    have := (Classical.choose_spec (hl a' w' hJ')).2 k h'
    omega
theorem lw_wp {fs : List Nat} (hfs : AllOK P fs) (hm : P.follows .mixedOrders = true) {n : Nat} {c : Code} {an : Ann} {e : Env} {w : World} {K : Exit → Env → World → Prop} {a : Act}
    (hd : ∀ d, d ∈ wr c → d < n) (hr : Rep [] n a e) (h : lw P fs c an e w K) : c.wp P (CQ [] n (wr c) a K) a w :=
  (wpIn_wide (n := 0)).1 (Code.wpIn_mono (F := Wf none) (fun _ _ _ h => h) (lw_sound (ro := none) hfs hm c an e w K a hd hr h))
theorem lwA_sound {fs : List Nat} (hfs : AllOK P fs) (hm : P.follows .mixedOrders = true) {n l : Nat} {ws : List Nat} {a0 : Act} {K : Exit → Env → World → Prop} {B : Code} (hK : ∀ l e w, ¬ K (.goto l) e w) :
    ∀ (c : Code) (an : Ann) (e : Env) (w : World) (a : Act), spineB l c = some B → (∀ d, d ∈ wr c → d < n) → (∀ d, d ∈ wr c → d ∈ ws) → Rep [] n a e → Same ws a0 a → lwA P fs l c an e w K →
      c.wp P (Exit.jump l (fun a w => ∃ k, JB P l B (CQ [] n ws a0 K) k a w) (CQ [] n ws a0 K)) a w := by
  intro c
  induction c with
  | seq x y ihx ihy =>
    intro an e w a hB hd hw hr hs h
    have hdx : ∀ d, d ∈ wr x → d < n := fun d hh => hd d (List.mem_append_left _ hh)
    have hdy : ∀ d, d ∈ wr y → d < n := fun d hh => hd d (List.mem_append_right _ hh)
    have hwx : ∀ d, d ∈ wr x → d ∈ ws := fun d hh => hw d (List.mem_append_left _ hh)
    have hwy : ∀ d, d ∈ wr y → d ∈ ws := fun d hh => hw d (List.mem_append_right _ hh)
    cases an with
    | seq j aa ab =>
      have hnl : isLabel l x = false → spineB l y = some B := by
        intro hx
        simp only [spineB, hx] at hB
        split at hB
        · exact hB
        · cases hB
      have hB' : spineB l y = some B := by
        refine hnl ?_
        cases hx : isLabel l x with
        | false => rfl
        | true =>
          exfalso
          cases j <;> simp only [lwA, hx] at h
      cases j with
      | none =>
        simp only [lwA] at h
        split at h
        · exact h.elim
        refine wp_seq (Code.wp_mono ?_ (lw_wp hfs hm hdx hr h))
        rintro z a' w' ⟨e', hr', hs', h'⟩
        have hs2 := hs.trans (hs'.mono hwx)
        cases z with
        | normal => exact ihy ab e' w' a' hB' hdy hwy hr' hs2 h'
        | goto l' => exact (hK _ _ _ h').elim
        | _ => exact ⟨e', hr', hs2, h'⟩
      | some j =>
        simp only [lwA] at h
        split at h
        · exact h.elim
        split at h
        · rename_i hk
          obtain ⟨M, h1, h2⟩ := h
          refine wp_seq (Code.wp_mono ?_ (lw_wp hfs hm hdx hr h1))
          rintro z a' w' ⟨e', hr', hs', h'⟩
          have hs2 := hs.trans (hs'.mono hwx)
          cases z with
          | normal =>
            simp only [seqK] at h'
            split at h'
            · rename_i s hg
              exact ihy ab _ w' a' hB' hdy hwy (getSt_put hr' hg (hr.keep hs' hr'.1 hr'.2.1 hk)) hs2 (h2 s w' h')
            · exact h'.elim
          | goto l' => exact (hK _ _ _ h').elim
          | _ => exact ⟨e', hr', hs2, h'⟩
        · exact h.elim
    | loop j ab =>
      simp only [lwA] at h
      split at h
      · rename_i hx
        have hB' : y = B := by
          simp only [spineB, hx] at hB
          exact Option.some.inj hB
        subst hB'
        split at h
        · rename_i hk
          split at h
          · rename_i s hg
            obtain ⟨I, μ, h0, hround⟩ := h
            rw [isLabel_spec hx]
            have pass : ∀ (J : Act → World → Prop) s w' a', I s w' → Rep [] n a' (putSt j.sg s (keepE j.keep e)) → Same ws a0 a' → Same (wr y) a a' →
                (∀ s2 w2 a2, I s2 w2 → μ s2 w2 < μ s w' → Rep [] n a2 (putSt j.sg s2 (keepE j.keep e)) → Same ws a0 a2 → Same (wr y) a a2 → J a2 w2) → y.wp P (Exit.jump l J (CQ [] n ws a0 K)) a' w' := by
              intro J s w' a' hI hr' hs' hsy hJ
              refine Code.wp_mono ?_ (lw_wp hfs hm hdy hr' (hround s w' hI))
              rintro z a2 w2 ⟨e2, hr2, hs2, h2⟩
              have hs3 := hs'.trans (hs2.mono hwy)
              cases z with
              | goto l' =>
                simp only [jumpK] at h2
                split at h2
                · rename_i hl
                  split at h2
                  · rename_i s2 hg2
                    exact ⟨Nat.eq_of_beq_eq_true hl, hJ s2 w2 a2 h2.1 h2.2 (getSt_put hr2 hg2 (hr.keep (hsy.trans hs2) hr2.1 hr2.2.1 hk)) hs3 (hsy.trans hs2)⟩
                  · exact h2.elim
                · exact h2.elim
              | _ => exact ⟨e2, hr2, hs3, h2⟩
            have key : ∀ k s w' a', μ s w' < k → I s w' → Rep [] n a' (putSt j.sg s (keepE j.keep e)) → Same ws a0 a' → Same (wr y) a a' → JB P l y (CQ [] n ws a0 K) k a' w' := by
              intro k
              induction k with
              | zero => intro s w' a' hlt; omega
              | succ k ih =>
                intro s w' a' hlt hI hr' hs' hsy
                refine wp_seq (wp_skip ?_)
                exact pass _ s w' a' hI hr' hs' hsy fun s2 w2 a2 i1 i2 i3 i4 i5 => ih s2 w2 a2 (by omega) i1 i3 i4 i5
            refine wp_seq (wp_label ?_)
            exact pass _ s w a h0 (getSt_put hr hg (hr.keep (Same.refl _ _) hr.1 hr.2.1 hk)) hs (Same.refl _ _) fun s2 w2 a2 i1 i2 i3 i4 i5 => ⟨_, key (μ s2 w2 + 1) s2 w2 a2 (by omega) i1 i3 i4 i5⟩
          · exact h.elim
        · exact h.elim
      · exact h.elim
    | _ => exact h.elim
  | _ => intro an e w a hB; cases hB
/-- **From what a function's code comes to, to the call.** -/
theorem lwJ_calls {l : Nat} {fs : List Nat} (hfs : AllOK P fs) (hm : P.follows .mixedOrders = true) {f : Nat} {fn : Func} {an : Ann} {args : List Value} {w : World} {R : Value → World → Prop}
    (hf : P.funcs[f]? = some fn) (hn : (match fn.body with | some c => dstsOk fn.ntmps c | none => false) = true) (hz : Nat.ble args.length fn.ntmps = true) (h : lwJFn P fs l fn an args w R) :
    Calls P f args.toArray w (Ret R) := by
  unfold lwJFn at h
  split at h
  · rename_i r c hb
    split at h
    · rename_i ar ac
      split at h
      · rename_i B hB
        rw [hb] at hn
        simp only at hn
        have hz' := Nat.le_of_ble_eq_true hz
        have hdst : ∀ d, d ∈ wr (.seq r (.scope c)) → d < fn.ntmps := fun d hd => by simp only [dstsOk, List.all_eq_true] at hn; exact Nat.le_of_ble_eq_true (hn d hd)
        refine calls_of_wp hf hb ?_
        have hr : Rep [] fn.ntmps { tmps := args.toArray ++ Array.replicate (fn.ntmps - args.toArray.size) undef, defers := [] } (argsE args 0) := by
          refine ⟨by simp; omega, rfl, fun t v ht => ?_⟩
          obtain ⟨_, h2⟩ := argsE_spec _ _ _ _ ht
          rw [Nat.sub_zero] at h2
          have hlt : t < args.length := by
            rcases Nat.lt_or_ge t args.length with h | h
            · exact h
            · rw [List.getElem?_eq_none h] at h2; cases h2
          have : args[t] = v := by rw [List.getElem?_eq_getElem hlt] at h2; exact Option.some.inj h2
          have hlt2 : t < args.length + (fn.ntmps - args.length) := by omega
          simp [hlt, hlt2, this]
        have fin : ∀ x a w' e', Rep [] fn.ntmps a e' → scopeK (retK P fn.results.toList R) x e' w' → retK P fn.results.toList R x e' w' := by
          intro x a w' e' _ h
          cases x with
          | goto => exact h.elim
          | _ => exact h
        refine wp_seq (Code.wp_mono ?_ (lw_wp hfs hm (fun d hd => hdst d (List.mem_append_left _ hd)) hr h))
        rintro x a w' ⟨e', hr', _, h'⟩
        cases x with
        | normal =>
          refine Code.wp_mono ?_ (wp_scope_JB (spineB_find hB) (lwA_sound hfs hm (ws := wr c) (a0 := a) (K := scopeK (retK P fn.results.toList R)) (fun _ _ _ h => h) c ac e' w' a hB (fun d hd => hdst d (List.mem_append_right _ hd)) (fun _ hd => hd) hr' (Same.refl _ _) h'))
          rintro x a w' ⟨e', hr', _, h'⟩
          have h' := fin _ _ _ _ hr' h'
          cases x with
          | normal => exact ⟨hr'.2.1, run_results hr' h'⟩
          | ret => exact ⟨hr'.2.1, run_results hr' h'⟩
          | _ => exact h'.elim
        | ret => exact ⟨hr'.2.1, run_results hr' h'⟩
        | _ => exact h'.elim
      · exact h.elim
    · exact h.elim
  · exact h.elim
end
end Go.Gk
namespace Go.Proofs
open Go.Gk
set_option linter.unusedVariables false
set_option maxRecDepth 100000

/-- intaglio.intaglioref05.Check -/
def a_intaglioref05_Check : Ann := (.seq none .nil (.seq none .nil (.seq none (.seq none .nil (.cond (.seq none .nil .nil) .nil)) (.seq none .nil (.seq none .nil (.seq none (.seq none .nil (.one (.loop ⟨[2, 4], [(5, (.b (.int .i64))), (6, (.b (.int .i64)))]⟩ (.seq none (.seq none .nil (.cond .nil .nil)) (.seq (some ⟨[2, 4, 6], [(5, (.b (.int .i64)))]⟩) (.one (.seq none (.seq none .nil (.cond (.seq none .nil .nil) .nil)) (.seq none .nil (.cond .nil .nil)))) .nil))))) (.seq (some ⟨[2], []⟩) (.seq none .nil (.cond (.seq none .nil .nil) .nil)) (.seq none .nil .nil))))))))
def L_intaglioref05_Check (p0 : (Int × Int × Sl × Unit)) (R : Value → World → Prop) (w : World) : Prop :=
 Nw (w.alloc (.cells #[(.int .u32 p0.1), (.int .u32 p0.2.1), (.slice p0.2.2.1.a p0.2.2.1.l p0.2.2.1.c)] 25)) fun w1 =>
 Nw (w1.alloc (.cells #[(.int .i64 (0 : Int)), (.int .i64 (0 : Int))] 33)) fun w2 =>
 ldI w2 ((blk w.heap.size).add 0) .u32 fun x1 =>
 ldI w2 ((blk w.heap.size).add 1) .u32 fun x2 =>
 ldS w2 ((blk w.heap.size).add 2) fun x3 =>
 callR Tryz.prog 77 #[(.agg #[(.int .u32 x1), (.int .u32 x2), (.slice x3.a x3.l x3.c)])] w2 fun v4 w3 =>
 ∃ x5 : (Int × Int × Unit), v4 = (.agg #[(.int .i64 x5.1), (.int .i64 x5.2.1)]) ∧
 Nw (w3.alloc (.cells #[(.int .i64 (0 : Int)), (.int .i64 (0 : Int))] 33)) fun w4 =>
 Wr w4 (blk w3.heap.size) ∧
 Nw (w4.setCell (blk w3.heap.size) (.int .i64 x5.1)) fun w5 =>
 Wr w5 ((blk w3.heap.size).add 1) ∧
 Nw (w5.setCell ((blk w3.heap.size).add 1) (.int .i64 x5.2.1)) fun w6 =>
 ldI w6 (blk w3.heap.size) .i64 fun x6 =>
 ifB (x6 != (0 : Int))
 (ldI w6 ((blk w3.heap.size).add 0) .i64 fun x7 =>
 ldI w6 ((blk w3.heap.size).add 1) .i64 fun x8 =>
 Wr w6 (blk w1.heap.size) ∧
 Nw (w6.setCell (blk w1.heap.size) (.int .i64 x7)) fun w7 =>
 Wr w7 ((blk w1.heap.size).add 1) ∧
 Nw (w7.setCell ((blk w1.heap.size).add 1) (.int .i64 x8)) fun w8 =>
 ldI w8 ((blk w1.heap.size).add 0) .i64 fun x9 =>
 ldI w8 ((blk w1.heap.size).add 1) .i64 fun x10 =>
 R (.agg #[(.int .i64 x9), (.int .i64 x10)]) w8)
 (ldS w6 ((blk w.heap.size).add 2) fun x11 =>
 LoopW (S := Int × Int × Unit) (fun s12 w9 n13 =>
 ifB (decide (s12.2.1 < (x11.l : Int)))
 (JoinW (S := Int × Unit) (fun m14 =>
 callR Tryz.prog 78 #[(.slice x11.a x11.l x11.c), (.int .i64 s12.2.1)] w9 fun v16 w10 =>
 ∃ x17 : Bool, v16 = (.bool x17) ∧
 ifB (!x17)
 (Wr w10 (blk w1.heap.size) ∧
 Nw (w10.setCell (blk w1.heap.size) (.int .i64 (50 : Int))) fun w11 =>
 Wr w11 ((blk w1.heap.size).add 1) ∧
 Nw (w11.setCell ((blk w1.heap.size).add 1) (.int .i64 s12.2.1)) fun w12 =>
 ldI w12 ((blk w1.heap.size).add 0) .i64 fun x18 =>
 ldI w12 ((blk w1.heap.size).add 1) .i64 fun x19 =>
 R (.agg #[(.int .i64 x18), (.int .i64 x19)]) w12)
 ((0 ≤ s12.2.1 ∧ s12.2.1 < (x11.l : Int)) ∧
 derefP x11.a fun a20 =>
 ldI w10 ((a20.add ((Int.toNat s12.2.1) * 4)).add 0) .u16 fun x21 =>
 ldI w10 ((a20.add ((Int.toNat s12.2.1) * 4)).add 1) .u32 fun x22 =>
 ldI w10 ((a20.add ((Int.toNat s12.2.1) * 4)).add 2) .u32 fun x23 =>
 ldS w10 ((a20.add ((Int.toNat s12.2.1) * 4)).add 3) fun x24 =>
 callR Tryz.prog 79 #[(.agg #[(.int .u16 x21), (.int .u32 x22), (.int .u32 x23), (.slice x24.a x24.l x24.c)])] w10 fun v25 w13 =>
 ∃ x26 : Int, v25 = (.int .i64 x26) ∧
 ifB (x26 == (1 : Int))
 (m14 ((IntKind.i64.wrap (s12.1 + (1 : Int))), ()) w13)
 (m14 (s12.1, ()) w13)))
 (fun s15 w14 =>
 n13 (s15.1, (IntKind.i64.wrap (s12.2.1 + (1 : Int))), ()) w14))
 (JoinW (S := Unit) (fun m27 =>
 ifB (s12.1 == (0 : Int))
 (Wr w9 (blk w1.heap.size) ∧
 Nw (w9.setCell (blk w1.heap.size) (.int .i64 (51 : Int))) fun w15 =>
 Wr w15 ((blk w1.heap.size).add 1) ∧
 Nw (w15.setCell ((blk w1.heap.size).add 1) (.int .i64 (x11.l : Int))) fun w16 =>
 ldI w16 ((blk w1.heap.size).add 0) .i64 fun x29 =>
 ldI w16 ((blk w1.heap.size).add 1) .i64 fun x30 =>
 R (.agg #[(.int .i64 x29), (.int .i64 x30)]) w16)
 ((0 ≤ (IntKind.i64.wrap ((x11.l : Int) - (1 : Int))) ∧ (IntKind.i64.wrap ((x11.l : Int) - (1 : Int))) < (x11.l : Int)) ∧
 derefP x11.a fun a31 =>
 ldI w9 ((a31.add ((Int.toNat (IntKind.i64.wrap ((x11.l : Int) - (1 : Int)))) * 4)).add 0) .u16 fun x32 =>
 ldI w9 ((a31.add ((Int.toNat (IntKind.i64.wrap ((x11.l : Int) - (1 : Int)))) * 4)).add 1) .u32 fun x33 =>
 ldI w9 ((a31.add ((Int.toNat (IntKind.i64.wrap ((x11.l : Int) - (1 : Int)))) * 4)).add 2) .u32 fun x34 =>
 ldS w9 ((a31.add ((Int.toNat (IntKind.i64.wrap ((x11.l : Int) - (1 : Int)))) * 4)).add 3) fun x35 =>
 callR Tryz.prog 79 #[(.agg #[(.int .u16 x32), (.int .u32 x33), (.int .u32 x34), (.slice x35.a x35.l x35.c)])] w9 fun v36 w17 =>
 ∃ x37 : Int, v36 = (.int .i64 x37) ∧
 ifB (x37 == (8 : Int))
 ((0 ≤ (IntKind.i64.wrap ((x11.l : Int) - (1 : Int))) ∧ (IntKind.i64.wrap ((x11.l : Int) - (1 : Int))) < (x11.l : Int)) ∧
 derefP x11.a fun a38 =>
 ldI w17 (a38.add ((Int.toNat (IntKind.i64.wrap ((x11.l : Int) - (1 : Int)))) * 4)) .u16 fun x39 =>
 ifB (x39 != (56 : Int))
 (Wr w17 (blk w1.heap.size) ∧
 Nw (w17.setCell (blk w1.heap.size) (.int .i64 (51 : Int))) fun w18 =>
 Wr w18 ((blk w1.heap.size).add 1) ∧
 Nw (w18.setCell ((blk w1.heap.size).add 1) (.int .i64 (x11.l : Int))) fun w19 =>
 ldI w19 ((blk w1.heap.size).add 0) .i64 fun x40 =>
 ldI w19 ((blk w1.heap.size).add 1) .i64 fun x41 =>
 R (.agg #[(.int .i64 x40), (.int .i64 x41)]) w19)
 (m27 (()) w17))
 (m27 (()) w17)))
 (fun s28 w20 =>
 Wr w20 (blk w1.heap.size) ∧
 Nw (w20.setCell (blk w1.heap.size) (.int .i64 (0 : Int))) fun w21 =>
 Wr w21 ((blk w1.heap.size).add 1) ∧
 Nw (w21.setCell ((blk w1.heap.size).add 1) (.int .i64 (0 : Int))) fun w22 =>
 ldI w22 ((blk w1.heap.size).add 0) .i64 fun x42 =>
 ldI w22 ((blk w1.heap.size).add 1) .i64 fun x43 =>
 R (.agg #[(.int .i64 x42), (.int .i64 x43)]) w22)))
 ((0 : Int), (0 : Int), ()) w6)
theorem intaglioref05_Check_calls (p0 : (Int × Int × Sl × Unit)) (R : Value → World → Prop) (w : World) (h : L_intaglioref05_Check p0 R w) : Calls Tryz.prog 30 #[(.agg #[(.int .u32 p0.1), (.int .u32 p0.2.1), (.slice p0.2.2.1.a p0.2.2.1.l p0.2.2.1.c)])] w (Ret R) :=
 lw_calls (fs := Tryz.fs) (an := a_intaglioref05_Check) (args := [(.agg #[(.int .u32 p0.1), (.int .u32 p0.2.1), (.slice p0.2.2.1.a p0.2.2.1.l p0.2.2.1.c)])]) Tryz.fsOK Tryz.mixed Tryz.func30 (by kernel_rfl) (by kernel_rfl)
 (Eq.mpr (by kernel_rfl : lwFn Tryz.prog Tryz.fs Tryz.f30 a_intaglioref05_Check [(.agg #[(.int .u32 p0.1), (.int .u32 p0.2.1), (.slice p0.2.2.1.a p0.2.2.1.l p0.2.2.1.c)])] w R = L_intaglioref05_Check p0 R w) h)

/-- intaglio.intaglioref05.Ends -/
def a_intaglioref05_Ends : Ann := (.seq none .nil (.seq none .nil .nil))
def L_intaglioref05_Ends (p0 : Int) (R : Value → World → Prop) (w : World) : Prop :=
 ifB (p0 == (249 : Int))
 (R (.bool true) w)
 (ifB (p0 == (250 : Int))
 (R (.bool true) w)
 (ifB (p0 == (251 : Int))
 (R (.bool true) w)
 (ifB (p0 == (252 : Int))
 (R (.bool true) w)
 (ifB (p0 == (253 : Int))
 (R (.bool true) w)
 (ifB (p0 == (254 : Int))
 (R (.bool true) w)
 (R (.bool (p0 == (255 : Int))) w))))))
theorem intaglioref05_Ends_calls (p0 : Int) (R : Value → World → Prop) (w : World) (h : L_intaglioref05_Ends p0 R w) : Calls Tryz.prog 31 #[(.int .u16 p0)] w (Ret R) :=
 lw_calls (fs := Tryz.fs) (an := a_intaglioref05_Ends) (args := [(.int .u16 p0)]) Tryz.fsOK Tryz.mixed Tryz.func31 (by kernel_rfl) (by kernel_rfl)
 (Eq.mpr (by kernel_rfl : lwFn Tryz.prog Tryz.fs Tryz.f31 a_intaglioref05_Ends [(.int .u16 p0)] w R = L_intaglioref05_Ends p0 R w) h)

/-- intaglio.layout.Cut -/
def a_layout_Cut : Ann := (.seq none .nil (.seq none .nil (.seq none (.seq none .nil (.cond (.seq none .nil .nil) .nil)) (.seq none .nil .nil))))
def L_layout_Cut (p0 : (Int × Int × Sl × Unit)) (R : Value → World → Prop) (w : World) : Prop :=
 Nw (w.alloc (.cells #[(.int .u32 p0.1), (.int .u32 p0.2.1), (.slice p0.2.2.1.a p0.2.2.1.l p0.2.2.1.c)] 25)) fun w1 =>
 Nw (w1.alloc (.cells #[(.int .i64 (0 : Int)), (.int .i64 (0 : Int))] 33)) fun w2 =>
 ldI w2 ((blk w.heap.size).add 0) .u32 fun x1 =>
 ldI w2 ((blk w.heap.size).add 1) .u32 fun x2 =>
 ldS w2 ((blk w.heap.size).add 2) fun x3 =>
 callR Tryz.prog 103 #[(.agg #[(.int .u32 x1), (.int .u32 x2), (.slice x3.a x3.l x3.c)])] w2 fun v4 w3 =>
 ∃ x5 : Option Addr, ∃ x6 : (Int × Int × Unit), v4 = (.tuple #[(.pointer x5), (.agg #[(.int .i64 x6.1), (.int .i64 x6.2.1)])]) ∧
 Nw (w3.alloc (.cells #[(.int .i64 (0 : Int)), (.int .i64 (0 : Int))] 33)) fun w4 =>
 Wr w4 (blk w3.heap.size) ∧
 Nw (w4.setCell (blk w3.heap.size) (.int .i64 x6.1)) fun w5 =>
 Wr w5 ((blk w3.heap.size).add 1) ∧
 Nw (w5.setCell ((blk w3.heap.size).add 1) (.int .i64 x6.2.1)) fun w6 =>
 ifB (Option.isNone x5)
 (ldI w6.drew ((blk w3.heap.size).add 0) .i64 fun x7 =>
 ldI w6.drew ((blk w3.heap.size).add 1) .i64 fun x8 =>
 Wr w6.drew (blk w1.heap.size) ∧
 Nw (w6.drew.setCell (blk w1.heap.size) (.int .i64 x7)) fun w7 =>
 Wr w7 ((blk w1.heap.size).add 1) ∧
 Nw (w7.setCell ((blk w1.heap.size).add 1) (.int .i64 x8)) fun w8 =>
 ldI w8 ((blk w1.heap.size).add 0) .i64 fun x9 =>
 ldI w8 ((blk w1.heap.size).add 1) .i64 fun x10 =>
 R (.tuple #[(.slice none 0 0), (.agg #[(.int .i64 x9), (.int .i64 x10)])]) w8)
 (derefP x5 fun a11 =>
 ldS w6.drew (a11.add 22) fun x12 =>
 ldI w6.drew ((blk w3.heap.size).add 0) .i64 fun x13 =>
 ldI w6.drew ((blk w3.heap.size).add 1) .i64 fun x14 =>
 Wr w6.drew (blk w1.heap.size) ∧
 Nw (w6.drew.setCell (blk w1.heap.size) (.int .i64 x13)) fun w9 =>
 Wr w9 ((blk w1.heap.size).add 1) ∧
 Nw (w9.setCell ((blk w1.heap.size).add 1) (.int .i64 x14)) fun w10 =>
 ldI w10 ((blk w1.heap.size).add 0) .i64 fun x15 =>
 ldI w10 ((blk w1.heap.size).add 1) .i64 fun x16 =>
 R (.tuple #[(.slice x12.a x12.l x12.c), (.agg #[(.int .i64 x15), (.int .i64 x16)])]) w10)
theorem layout_Cut_calls (p0 : (Int × Int × Sl × Unit)) (R : Value → World → Prop) (w : World) (h : L_layout_Cut p0 R w) : Calls Tryz.prog 45 #[(.agg #[(.int .u32 p0.1), (.int .u32 p0.2.1), (.slice p0.2.2.1.a p0.2.2.1.l p0.2.2.1.c)])] w (Ret R) :=
 lw_calls (fs := Tryz.fs) (an := a_layout_Cut) (args := [(.agg #[(.int .u32 p0.1), (.int .u32 p0.2.1), (.slice p0.2.2.1.a p0.2.2.1.l p0.2.2.1.c)])]) Tryz.fsOK Tryz.mixed Tryz.func45 (by kernel_rfl) (by kernel_rfl)
 (Eq.mpr (by kernel_rfl : lwFn Tryz.prog Tryz.fs Tryz.f45 a_layout_Cut [(.agg #[(.int .u32 p0.1), (.int .u32 p0.2.1), (.slice p0.2.2.1.a p0.2.2.1.l p0.2.2.1.c)])] w R = L_layout_Cut p0 R w) h)

/-- intaglio.intaglioref05.May -/
def a_intaglioref05_May : Ann := (.seq none .nil (.seq none .nil (.seq none .nil (.seq none (.seq none .nil (.one (.loop ⟨[0, 1, 5], [(6, (.b (.int .i64))), (7, (.b (.int .i64)))]⟩ (.seq none (.seq none .nil (.cond .nil .nil)) (.seq (some ⟨[0, 1, 5, 7], [(6, (.b (.int .i64)))]⟩) (.one (.seq none (.seq none .nil (.cond (.seq none .nil .nil) .nil)) (.seq none .nil (.cond .nil .nil)))) .nil))))) (.seq none (.seq none .nil (.cond (.seq none .nil .nil) .nil)) (.seq (some ⟨[0, 1, 5], []⟩) (.seq none .nil (.cond (.seq none .nil .nil) .nil)) (.seq none (.seq none .nil (.cond (.seq none .nil .nil) .nil)) (.seq none .nil (.seq none .nil (.seq (some ⟨[0, 1, 8], [(9, (.b (.int .u16)))]⟩) (.seq none .nil (.cond .nil .nil)) (.seq none (.seq none .nil (.cond (.seq none .nil .nil) .nil)) (.seq none (.seq none .nil (.cond (.seq none .nil .nil) .nil)) (.seq none (.seq none .nil (.cond (.seq none .nil .nil) .nil)) (.seq none (.seq none .nil (.cond (.seq none .nil .nil) .nil)) (.seq (some ⟨[0, 1, 8, 9], []⟩) (.seq none .nil (.cond (.seq none .nil .nil) .nil)) (.seq none (.seq none .nil (.cond (.seq none .nil .nil) .nil)) (.seq none (.seq none .nil (.cond (.seq none .nil .nil) .nil)) (.seq none (.seq none .nil (.cond (.seq none .nil .nil) .nil)) (.seq none (.seq none .nil (.cond (.seq none .nil .nil) .nil)) (.seq none .nil .nil))))))))))))))))))))
def L_intaglioref05_May (p0 : Sl) (p1 : Int) (R : Value → World → Prop) (w : World) : Prop :=
 (0 ≤ p1 ∧ p1 < (p0.l : Int)) ∧
 derefP p0.a fun a1 =>
 ldI w ((a1.add ((Int.toNat p1) * 4)).add 0) .u16 fun x2 =>
 ldI w ((a1.add ((Int.toNat p1) * 4)).add 1) .u32 fun x3 =>
 ldI w ((a1.add ((Int.toNat p1) * 4)).add 2) .u32 fun x4 =>
 ldS w ((a1.add ((Int.toNat p1) * 4)).add 3) fun x5 =>
 callR Tryz.prog 79 #[(.agg #[(.int .u16 x2), (.int .u32 x3), (.int .u32 x4), (.slice x5.a x5.l x5.c)])] w fun v6 w1 =>
 ∃ x7 : Int, v6 = (.int .i64 x7) ∧
 LoopW (S := Int × Int × Unit) (fun s8 w2 n9 =>
 ifB (decide (s8.2.1 < p1))
 (JoinW (S := Int × Unit) (fun m10 =>
 (0 ≤ s8.2.1 ∧ s8.2.1 < (p0.l : Int)) ∧
 derefP p0.a fun a12 =>
 ldI w2 ((a12.add ((Int.toNat s8.2.1) * 4)).add 0) .u16 fun x13 =>
 ldI w2 ((a12.add ((Int.toNat s8.2.1) * 4)).add 1) .u32 fun x14 =>
 ldI w2 ((a12.add ((Int.toNat s8.2.1) * 4)).add 2) .u32 fun x15 =>
 ldS w2 ((a12.add ((Int.toNat s8.2.1) * 4)).add 3) fun x16 =>
 callR Tryz.prog 79 #[(.agg #[(.int .u16 x13), (.int .u32 x14), (.int .u32 x15), (.slice x16.a x16.l x16.c)])] w2 fun v17 w3 =>
 ∃ x18 : Int, v17 = (.int .i64 x18) ∧
 ifB (decide (x18 > x7))
 (R (.bool false) w3)
 ((0 ≤ s8.2.1 ∧ s8.2.1 < (p0.l : Int)) ∧
 derefP p0.a fun a19 =>
 ldI w3 ((a19.add ((Int.toNat s8.2.1) * 4)).add 0) .u16 fun x20 =>
 ldI w3 ((a19.add ((Int.toNat s8.2.1) * 4)).add 1) .u32 fun x21 =>
 ldI w3 ((a19.add ((Int.toNat s8.2.1) * 4)).add 2) .u32 fun x22 =>
 ldS w3 ((a19.add ((Int.toNat s8.2.1) * 4)).add 3) fun x23 =>
 callR Tryz.prog 79 #[(.agg #[(.int .u16 x20), (.int .u32 x21), (.int .u32 x22), (.slice x23.a x23.l x23.c)])] w3 fun v24 w4 =>
 ∃ x25 : Int, v24 = (.int .i64 x25) ∧
 ifB (x25 == (1 : Int))
 (m10 ((IntKind.i64.wrap (s8.1 + (1 : Int))), ()) w4)
 (m10 (s8.1, ()) w4)))
 (fun s11 w5 =>
 n9 (s11.1, (IntKind.i64.wrap (s8.2.1 + (1 : Int))), ()) w5))
 (ifB (x7 == (1 : Int))
 (R (.bool (s8.1 == (0 : Int))) w2)
 (JoinW (S := Unit) (fun m26 =>
 ifB (decide (x7 > (1 : Int)))
 (ifB (s8.1 == (0 : Int))
 (R (.bool false) w2)
 (m26 (()) w2))
 (m26 (()) w2))
 (fun s27 w6 =>
 ifB (decide (x7 < (8 : Int)))
 (R (.bool true) w6)
 ((0 ≤ p1 ∧ p1 < (p0.l : Int)) ∧
 derefP p0.a fun a28 =>
 ldI w6 (a28.add ((Int.toNat p1) * 4)) .u16 fun x29 =>
 JoinW (S := Int × Unit) (fun m30 =>
 ifB (decide (p1 > (0 : Int)))
 ((0 ≤ (IntKind.i64.wrap (p1 - (1 : Int))) ∧ (IntKind.i64.wrap (p1 - (1 : Int))) < (p0.l : Int)) ∧
 derefP p0.a fun a32 =>
 ldI w6 ((a32.add ((Int.toNat (IntKind.i64.wrap (p1 - (1 : Int)))) * 4)).add 0) .u16 fun x33 =>
 ldI w6 ((a32.add ((Int.toNat (IntKind.i64.wrap (p1 - (1 : Int)))) * 4)).add 1) .u32 fun x34 =>
 ldI w6 ((a32.add ((Int.toNat (IntKind.i64.wrap (p1 - (1 : Int)))) * 4)).add 2) .u32 fun x35 =>
 ldS w6 ((a32.add ((Int.toNat (IntKind.i64.wrap (p1 - (1 : Int)))) * 4)).add 3) fun x36 =>
 callR Tryz.prog 79 #[(.agg #[(.int .u16 x33), (.int .u32 x34), (.int .u32 x35), (.slice x36.a x36.l x36.c)])] w6 fun v37 w7 =>
 ∃ x38 : Int, v37 = (.int .i64 x38) ∧
 ifB (x38 == (8 : Int))
 ((0 ≤ (IntKind.i64.wrap (p1 - (1 : Int))) ∧ (IntKind.i64.wrap (p1 - (1 : Int))) < (p0.l : Int)) ∧
 derefP p0.a fun a39 =>
 ldI w7 (a39.add ((Int.toNat (IntKind.i64.wrap (p1 - (1 : Int)))) * 4)) .u16 fun x40 =>
 m30 (x40, ()) w7)
 (m30 ((0 : Int), ()) w7))
 (m30 ((0 : Int), ()) w6))
 (fun s31 w8 =>
 ifB (x29 == (54 : Int))
 (ifB (s31.1 == (0 : Int))
 (R (.bool true) w8)
 (R (.bool (s31.1 == (56 : Int))) w8))
 (ifB (x29 == (55 : Int))
 (ifB (s31.1 == (54 : Int))
 (R (.bool true) w8)
 (R (.bool (s31.1 == (55 : Int))) w8))
 (ifB (x29 == (248 : Int))
 (ifB (s31.1 == (54 : Int))
 (R (.bool true) w8)
 (ifB (s31.1 == (55 : Int))
 (R (.bool true) w8)
 (callR Tryz.prog 31 #[(.int .u16 s31.1)] w8 fun v41 w9 =>
 ∃ x42 : Bool, v41 = (.bool x42) ∧
 R (.bool x42) w9)))
 (ifB (x29 == (56 : Int))
 (callR Tryz.prog 31 #[(.int .u16 s31.1)] w8 fun v43 w10 =>
 ∃ x44 : Bool, v43 = (.bool x44) ∧
 R (.bool x44) w10)
 (JoinW (S := Unit) (fun m45 =>
 ifB (s31.1 == (0 : Int))
 (R (.bool false) w8)
 (ifB (s31.1 == (54 : Int))
 (R (.bool false) w8)
 (ifB (s31.1 == (55 : Int))
 (R (.bool false) w8)
 (ifB (s31.1 == (56 : Int))
 (R (.bool false) w8)
 (callR Tryz.prog 31 #[(.int .u16 s31.1)] w8 fun v47 w11 =>
 ∃ x48 : Bool, v47 = (.bool x48) ∧
 ifB x48
 (R (.bool false) w11)
 (m45 (()) w11))))))
 (fun s46 w12 =>
 ifB (x29 == (245 : Int))
 (ifB (s31.1 == (248 : Int))
 (callR Tryz.prog 127 #[(.slice p0.a p0.l p0.c), (.int .i64 (IntKind.i64.wrap (p1 - (1 : Int))))] w12 fun v49 w13 =>
 ∃ x50 : Bool, v49 = (.bool x50) ∧
 R (.bool (!x50)) w13)
 (ifB (s31.1 == (245 : Int))
 (callR Tryz.prog 127 #[(.slice p0.a p0.l p0.c), (.int .i64 (IntKind.i64.wrap (p1 - (1 : Int))))] w12 fun v51 w14 =>
 ∃ x52 : Bool, v51 = (.bool x52) ∧
 R (.bool (!x52)) w14)
 (R (.bool false) w12)))
 (ifB (x29 == (59 : Int))
 (ifB (s31.1 == (248 : Int))
 (callR Tryz.prog 127 #[(.slice p0.a p0.l p0.c), (.int .i64 (IntKind.i64.wrap (p1 - (1 : Int))))] w12 fun v53 w15 =>
 ∃ x54 : Bool, v53 = (.bool x54) ∧
 R (.bool x54) w15)
 (ifB (s31.1 == (59 : Int))
 (callR Tryz.prog 127 #[(.slice p0.a p0.l p0.c), (.int .i64 (IntKind.i64.wrap (p1 - (1 : Int))))] w12 fun v55 w16 =>
 ∃ x56 : Bool, v55 = (.bool x56) ∧
 R (.bool x56) w16)
 (R (.bool false) w12)))
 (ifB (s31.1 == (246 : Int))
 (ifB (x29 == (249 : Int))
 (R (.bool true) w12)
 (R (.bool (x29 == (250 : Int))) w12))
 (ifB (s31.1 == (247 : Int))
 (ifB (x29 == (250 : Int))
 (R (.bool true) w12)
 (R (.bool (x29 == (251 : Int))) w12))
 (R (.bool true) w12)))))))))))))))
 ((0 : Int), (0 : Int), ()) w1
theorem intaglioref05_May_calls (p0 : Sl) (p1 : Int) (R : Value → World → Prop) (w : World) (h : L_intaglioref05_May p0 p1 R w) : Calls Tryz.prog 78 #[(.slice p0.a p0.l p0.c), (.int .i64 p1)] w (Ret R) :=
 lw_calls (fs := Tryz.fs) (an := a_intaglioref05_May) (args := [(.slice p0.a p0.l p0.c), (.int .i64 p1)]) Tryz.fsOK Tryz.mixed Tryz.func78 (by kernel_rfl) (by kernel_rfl)
 (Eq.mpr (by kernel_rfl : lwFn Tryz.prog Tryz.fs Tryz.f78 a_intaglioref05_May [(.slice p0.a p0.l p0.c), (.int .i64 p1)] w R = L_intaglioref05_May p0 p1 R w) h)

/-- intaglio.intaglioref05.Part -/
def a_intaglioref05_Part : Ann := (.seq none .nil (.seq (some ⟨[1], []⟩) (.seq none .nil (.cond (.seq none .nil .nil) .nil)) (.seq none .nil (.seq none .nil .nil))))
def L_intaglioref05_Part (p0 : (Int × Int × Int × Sl × Unit)) (R : Value → World → Prop) (w : World) : Prop :=
 Nw (w.alloc (.cells #[(.int .u16 p0.1), (.int .u32 p0.2.1), (.int .u32 p0.2.2.1), (.slice p0.2.2.2.1.a p0.2.2.2.1.l p0.2.2.2.1.c)] 41)) fun w1 =>
 JoinW (S := Unit) (fun m1 =>
 ldI w1 (blk w.heap.size) .u16 fun x3 =>
 ifB (x3 == (59 : Int))
 (ldS w1 ((blk w.heap.size).add 3) fun x4 =>
 ifB (decide ((x4.l : Int) > (0 : Int)))
 (ldS w1 ((blk w.heap.size).add 3) fun x5 =>
 (0 ≤ (0 : Int) ∧ (0 : Int) < (x5.l : Int)) ∧
 derefP x5.a fun a6 =>
 ldI w1 ((a6.add (0 * 3)).add 1) .u32 fun x7 =>
 ifB (x7 == (7 : Int))
 (R (.int .i64 (8 : Int)) w1)
 (m1 (()) w1))
 (m1 (()) w1))
 (m1 (()) w1))
 (fun s2 w2 =>
 ldI w2 (blk w.heap.size) .u16 fun x8 =>
 callR Tryz.prog 125 #[(.int .u16 x8)] w2 fun v9 w3 =>
 ∃ x10 : (Int × ByteArray × Bool × Bool × ByteArray × ByteArray × Int × Int × Unit), ∃ x11 : Bool, v9 = (.tuple #[(.agg #[(.int .u16 x10.1), (.string x10.2.1), (.bool x10.2.2.1), (.bool x10.2.2.2.1), (.string x10.2.2.2.2.1), (.string x10.2.2.2.2.2.1), (.int .i64 x10.2.2.2.2.2.2.1), (.int .u8 x10.2.2.2.2.2.2.2.1)]), (.bool x11)]) ∧
 Nw (w3.alloc (.cells #[(.int .u16 (0 : Int)), (.string (ByteArray.mk #[])), (.bool false), (.bool false), (.string (ByteArray.mk #[])), (.string (ByteArray.mk #[])), (.int .i64 (0 : Int)), (.int .u8 (0 : Int))] 178)) fun w4 =>
 Wr w4 (blk w3.heap.size) ∧
 Nw (w4.setCell (blk w3.heap.size) (.int .u16 x10.1)) fun w5 =>
 Wr w5 ((blk w3.heap.size).add 1) ∧
 Nw (w5.setCell ((blk w3.heap.size).add 1) (.string x10.2.1)) fun w6 =>
 Wr w6 ((blk w3.heap.size).add 2) ∧
 Nw (w6.setCell ((blk w3.heap.size).add 2) (.bool x10.2.2.1)) fun w7 =>
 Wr w7 ((blk w3.heap.size).add 3) ∧
 Nw (w7.setCell ((blk w3.heap.size).add 3) (.bool x10.2.2.2.1)) fun w8 =>
 Wr w8 ((blk w3.heap.size).add 4) ∧
 Nw (w8.setCell ((blk w3.heap.size).add 4) (.string x10.2.2.2.2.1)) fun w9 =>
 Wr w9 ((blk w3.heap.size).add 5) ∧
 Nw (w9.setCell ((blk w3.heap.size).add 5) (.string x10.2.2.2.2.2.1)) fun w10 =>
 Wr w10 ((blk w3.heap.size).add 6) ∧
 Nw (w10.setCell ((blk w3.heap.size).add 6) (.int .i64 x10.2.2.2.2.2.2.1)) fun w11 =>
 Wr w11 ((blk w3.heap.size).add 7) ∧
 Nw (w11.setCell ((blk w3.heap.size).add 7) (.int .u8 x10.2.2.2.2.2.2.2.1)) fun w12 =>
 ldI w12 ((blk w3.heap.size).add 7) .u8 fun x12 =>
 R (.int .i64 (IntKind.i64.wrap x12)) w12)
theorem intaglioref05_Part_calls (p0 : (Int × Int × Int × Sl × Unit)) (R : Value → World → Prop) (w : World) (h : L_intaglioref05_Part p0 R w) : Calls Tryz.prog 79 #[(.agg #[(.int .u16 p0.1), (.int .u32 p0.2.1), (.int .u32 p0.2.2.1), (.slice p0.2.2.2.1.a p0.2.2.2.1.l p0.2.2.2.1.c)])] w (Ret R) :=
 lw_calls (fs := Tryz.fs) (an := a_intaglioref05_Part) (args := [(.agg #[(.int .u16 p0.1), (.int .u32 p0.2.1), (.int .u32 p0.2.2.1), (.slice p0.2.2.2.1.a p0.2.2.2.1.l p0.2.2.2.1.c)])]) Tryz.fsOK Tryz.mixed Tryz.func79 (by kernel_rfl) (by kernel_rfl)
 (Eq.mpr (by kernel_rfl : lwFn Tryz.prog Tryz.fs Tryz.f79 a_intaglioref05_Part [(.agg #[(.int .u16 p0.1), (.int .u32 p0.2.1), (.int .u32 p0.2.2.1), (.slice p0.2.2.2.1.a p0.2.2.2.1.l p0.2.2.2.1.c)])] w R = L_intaglioref05_Part p0 R w) h)

/-- intaglio.layout.Parts -/
def a_layout_Parts : Ann := (.seq none .nil (.seq none .nil (.seq none (.seq none .nil (.cond (.seq none .nil .nil) .nil)) (.seq none .nil .nil))))
def L_layout_Parts (p0 : (Int × Int × Sl × Unit)) (R : Value → World → Prop) (w : World) : Prop :=
 Nw (w.alloc (.cells #[(.int .u32 p0.1), (.int .u32 p0.2.1), (.slice p0.2.2.1.a p0.2.2.1.l p0.2.2.1.c)] 25)) fun w1 =>
 Nw (w1.alloc (.cells (List.toArray (List.replicate 20 (.int .i64 (0 : Int)))) 143)) fun w2 =>
 Nw (w2.alloc (.cells #[(.int .i64 (0 : Int)), (.int .i64 (0 : Int))] 33)) fun w3 =>
 ldI w3 ((blk w.heap.size).add 0) .u32 fun x1 =>
 ldI w3 ((blk w.heap.size).add 1) .u32 fun x2 =>
 ldS w3 ((blk w.heap.size).add 2) fun x3 =>
 callR Tryz.prog 103 #[(.agg #[(.int .u32 x1), (.int .u32 x2), (.slice x3.a x3.l x3.c)])] w3 fun v4 w4 =>
 ∃ x5 : Option Addr, ∃ x6 : (Int × Int × Unit), v4 = (.tuple #[(.pointer x5), (.agg #[(.int .i64 x6.1), (.int .i64 x6.2.1)])]) ∧
 Nw (w4.alloc (.cells #[(.int .i64 (0 : Int)), (.int .i64 (0 : Int))] 33)) fun w5 =>
 Wr w5 (blk w4.heap.size) ∧
 Nw (w5.setCell (blk w4.heap.size) (.int .i64 x6.1)) fun w6 =>
 Wr w6 ((blk w4.heap.size).add 1) ∧
 Nw (w6.setCell ((blk w4.heap.size).add 1) (.int .i64 x6.2.1)) fun w7 =>
 ifB (Option.isNone x5)
 (ldI w7.drew ((blk w4.heap.size).add 0) .i64 fun x7 =>
 ldI w7.drew ((blk w4.heap.size).add 1) .i64 fun x8 =>
 Wr w7.drew (blk w1.heap.size) ∧
 Nw (w7.drew.setCell (blk w1.heap.size) (.int .i64 (0 : Int))) fun w8 =>
 Wr w8 ((blk w1.heap.size).add 1) ∧
 Nw (w8.setCell ((blk w1.heap.size).add 1) (.int .i64 (0 : Int))) fun w9 =>
 Wr w9 ((blk w1.heap.size).add 2) ∧
 Nw (w9.setCell ((blk w1.heap.size).add 2) (.int .i64 (0 : Int))) fun w10 =>
 Wr w10 ((blk w1.heap.size).add 3) ∧
 Nw (w10.setCell ((blk w1.heap.size).add 3) (.int .i64 (0 : Int))) fun w11 =>
 Wr w11 ((blk w1.heap.size).add 4) ∧
 Nw (w11.setCell ((blk w1.heap.size).add 4) (.int .i64 (0 : Int))) fun w12 =>
 Wr w12 ((blk w1.heap.size).add 5) ∧
 Nw (w12.setCell ((blk w1.heap.size).add 5) (.int .i64 (0 : Int))) fun w13 =>
 Wr w13 ((blk w1.heap.size).add 6) ∧
 Nw (w13.setCell ((blk w1.heap.size).add 6) (.int .i64 (0 : Int))) fun w14 =>
 Wr w14 ((blk w1.heap.size).add 7) ∧
 Nw (w14.setCell ((blk w1.heap.size).add 7) (.int .i64 (0 : Int))) fun w15 =>
 Wr w15 ((blk w1.heap.size).add 8) ∧
 Nw (w15.setCell ((blk w1.heap.size).add 8) (.int .i64 (0 : Int))) fun w16 =>
 Wr w16 ((blk w1.heap.size).add 9) ∧
 Nw (w16.setCell ((blk w1.heap.size).add 9) (.int .i64 (0 : Int))) fun w17 =>
 Wr w17 ((blk w1.heap.size).add 10) ∧
 Nw (w17.setCell ((blk w1.heap.size).add 10) (.int .i64 (0 : Int))) fun w18 =>
 Wr w18 ((blk w1.heap.size).add 11) ∧
 Nw (w18.setCell ((blk w1.heap.size).add 11) (.int .i64 (0 : Int))) fun w19 =>
 Wr w19 ((blk w1.heap.size).add 12) ∧
 Nw (w19.setCell ((blk w1.heap.size).add 12) (.int .i64 (0 : Int))) fun w20 =>
 Wr w20 ((blk w1.heap.size).add 13) ∧
 Nw (w20.setCell ((blk w1.heap.size).add 13) (.int .i64 (0 : Int))) fun w21 =>
 Wr w21 ((blk w1.heap.size).add 14) ∧
 Nw (w21.setCell ((blk w1.heap.size).add 14) (.int .i64 (0 : Int))) fun w22 =>
 Wr w22 ((blk w1.heap.size).add 15) ∧
 Nw (w22.setCell ((blk w1.heap.size).add 15) (.int .i64 (0 : Int))) fun w23 =>
 Wr w23 ((blk w1.heap.size).add 16) ∧
 Nw (w23.setCell ((blk w1.heap.size).add 16) (.int .i64 (0 : Int))) fun w24 =>
 Wr w24 ((blk w1.heap.size).add 17) ∧
 Nw (w24.setCell ((blk w1.heap.size).add 17) (.int .i64 (0 : Int))) fun w25 =>
 Wr w25 ((blk w1.heap.size).add 18) ∧
 Nw (w25.setCell ((blk w1.heap.size).add 18) (.int .i64 (0 : Int))) fun w26 =>
 Wr w26 ((blk w1.heap.size).add 19) ∧
 Nw (w26.setCell ((blk w1.heap.size).add 19) (.int .i64 (0 : Int))) fun w27 =>
 w27.cell? ((blk w4.heap.size).add 0) = some (.int .i64 x7) ∧
 w27.cell? ((blk w4.heap.size).add 1) = some (.int .i64 x8) ∧
 Wr w27 (blk w2.heap.size) ∧
 Nw (w27.setCell (blk w2.heap.size) (.int .i64 x7)) fun w28 =>
 Wr w28 ((blk w2.heap.size).add 1) ∧
 Nw (w28.setCell ((blk w2.heap.size).add 1) (.int .i64 x8)) fun w29 =>
 ldI w29 ((blk w1.heap.size).add 0) .i64 fun x9 =>
 ldI w29 ((blk w1.heap.size).add 1) .i64 fun x10 =>
 ldI w29 ((blk w1.heap.size).add 2) .i64 fun x11 =>
 ldI w29 ((blk w1.heap.size).add 3) .i64 fun x12 =>
 ldI w29 ((blk w1.heap.size).add 4) .i64 fun x13 =>
 ldI w29 ((blk w1.heap.size).add 5) .i64 fun x14 =>
 ldI w29 ((blk w1.heap.size).add 6) .i64 fun x15 =>
 ldI w29 ((blk w1.heap.size).add 7) .i64 fun x16 =>
 ldI w29 ((blk w1.heap.size).add 8) .i64 fun x17 =>
 ldI w29 ((blk w1.heap.size).add 9) .i64 fun x18 =>
 ldI w29 ((blk w1.heap.size).add 10) .i64 fun x19 =>
 ldI w29 ((blk w1.heap.size).add 11) .i64 fun x20 =>
 ldI w29 ((blk w1.heap.size).add 12) .i64 fun x21 =>
 ldI w29 ((blk w1.heap.size).add 13) .i64 fun x22 =>
 ldI w29 ((blk w1.heap.size).add 14) .i64 fun x23 =>
 ldI w29 ((blk w1.heap.size).add 15) .i64 fun x24 =>
 ldI w29 ((blk w1.heap.size).add 16) .i64 fun x25 =>
 ldI w29 ((blk w1.heap.size).add 17) .i64 fun x26 =>
 ldI w29 ((blk w1.heap.size).add 18) .i64 fun x27 =>
 ldI w29 ((blk w1.heap.size).add 19) .i64 fun x28 =>
 ldI w29 ((blk w2.heap.size).add 0) .i64 fun x29 =>
 ldI w29 ((blk w2.heap.size).add 1) .i64 fun x30 =>
 R (.tuple #[(.agg #[(.int .i64 x9), (.int .i64 x10), (.int .i64 x11), (.int .i64 x12), (.int .i64 x13), (.int .i64 x14), (.int .i64 x15), (.int .i64 x16), (.int .i64 x17), (.int .i64 x18), (.int .i64 x19), (.int .i64 x20), (.int .i64 x21), (.int .i64 x22), (.int .i64 x23), (.int .i64 x24), (.int .i64 x25), (.int .i64 x26), (.int .i64 x27), (.int .i64 x28)]), (.agg #[(.int .i64 x29), (.int .i64 x30)])]) w29)
 (derefP x5 fun a31 =>
 ldI w7.drew ((a31.add 2).add 0) .i64 fun x32 =>
 ldI w7.drew ((a31.add 2).add 1) .i64 fun x33 =>
 ldI w7.drew ((a31.add 2).add 2) .i64 fun x34 =>
 ldI w7.drew ((a31.add 2).add 3) .i64 fun x35 =>
 ldI w7.drew ((a31.add 2).add 4) .i64 fun x36 =>
 ldI w7.drew ((a31.add 2).add 5) .i64 fun x37 =>
 ldI w7.drew ((a31.add 2).add 6) .i64 fun x38 =>
 ldI w7.drew ((a31.add 2).add 7) .i64 fun x39 =>
 ldI w7.drew ((a31.add 2).add 8) .i64 fun x40 =>
 ldI w7.drew ((a31.add 2).add 9) .i64 fun x41 =>
 ldI w7.drew ((a31.add 2).add 10) .i64 fun x42 =>
 ldI w7.drew ((a31.add 2).add 11) .i64 fun x43 =>
 ldI w7.drew ((a31.add 2).add 12) .i64 fun x44 =>
 ldI w7.drew ((a31.add 2).add 13) .i64 fun x45 =>
 ldI w7.drew ((a31.add 2).add 14) .i64 fun x46 =>
 ldI w7.drew ((a31.add 2).add 15) .i64 fun x47 =>
 ldI w7.drew ((a31.add 2).add 16) .i64 fun x48 =>
 ldI w7.drew ((a31.add 2).add 17) .i64 fun x49 =>
 ldI w7.drew ((a31.add 2).add 18) .i64 fun x50 =>
 ldI w7.drew ((a31.add 2).add 19) .i64 fun x51 =>
 ldI w7.drew ((blk w4.heap.size).add 0) .i64 fun x52 =>
 ldI w7.drew ((blk w4.heap.size).add 1) .i64 fun x53 =>
 Wr w7.drew (blk w1.heap.size) ∧
 Nw (w7.drew.setCell (blk w1.heap.size) (.int .i64 x32)) fun w30 =>
 Wr w30 ((blk w1.heap.size).add 1) ∧
 Nw (w30.setCell ((blk w1.heap.size).add 1) (.int .i64 x33)) fun w31 =>
 Wr w31 ((blk w1.heap.size).add 2) ∧
 Nw (w31.setCell ((blk w1.heap.size).add 2) (.int .i64 x34)) fun w32 =>
 Wr w32 ((blk w1.heap.size).add 3) ∧
 Nw (w32.setCell ((blk w1.heap.size).add 3) (.int .i64 x35)) fun w33 =>
 Wr w33 ((blk w1.heap.size).add 4) ∧
 Nw (w33.setCell ((blk w1.heap.size).add 4) (.int .i64 x36)) fun w34 =>
 Wr w34 ((blk w1.heap.size).add 5) ∧
 Nw (w34.setCell ((blk w1.heap.size).add 5) (.int .i64 x37)) fun w35 =>
 Wr w35 ((blk w1.heap.size).add 6) ∧
 Nw (w35.setCell ((blk w1.heap.size).add 6) (.int .i64 x38)) fun w36 =>
 Wr w36 ((blk w1.heap.size).add 7) ∧
 Nw (w36.setCell ((blk w1.heap.size).add 7) (.int .i64 x39)) fun w37 =>
 Wr w37 ((blk w1.heap.size).add 8) ∧
 Nw (w37.setCell ((blk w1.heap.size).add 8) (.int .i64 x40)) fun w38 =>
 Wr w38 ((blk w1.heap.size).add 9) ∧
 Nw (w38.setCell ((blk w1.heap.size).add 9) (.int .i64 x41)) fun w39 =>
 Wr w39 ((blk w1.heap.size).add 10) ∧
 Nw (w39.setCell ((blk w1.heap.size).add 10) (.int .i64 x42)) fun w40 =>
 Wr w40 ((blk w1.heap.size).add 11) ∧
 Nw (w40.setCell ((blk w1.heap.size).add 11) (.int .i64 x43)) fun w41 =>
 Wr w41 ((blk w1.heap.size).add 12) ∧
 Nw (w41.setCell ((blk w1.heap.size).add 12) (.int .i64 x44)) fun w42 =>
 Wr w42 ((blk w1.heap.size).add 13) ∧
 Nw (w42.setCell ((blk w1.heap.size).add 13) (.int .i64 x45)) fun w43 =>
 Wr w43 ((blk w1.heap.size).add 14) ∧
 Nw (w43.setCell ((blk w1.heap.size).add 14) (.int .i64 x46)) fun w44 =>
 Wr w44 ((blk w1.heap.size).add 15) ∧
 Nw (w44.setCell ((blk w1.heap.size).add 15) (.int .i64 x47)) fun w45 =>
 Wr w45 ((blk w1.heap.size).add 16) ∧
 Nw (w45.setCell ((blk w1.heap.size).add 16) (.int .i64 x48)) fun w46 =>
 Wr w46 ((blk w1.heap.size).add 17) ∧
 Nw (w46.setCell ((blk w1.heap.size).add 17) (.int .i64 x49)) fun w47 =>
 Wr w47 ((blk w1.heap.size).add 18) ∧
 Nw (w47.setCell ((blk w1.heap.size).add 18) (.int .i64 x50)) fun w48 =>
 Wr w48 ((blk w1.heap.size).add 19) ∧
 Nw (w48.setCell ((blk w1.heap.size).add 19) (.int .i64 x51)) fun w49 =>
 w49.cell? ((blk w4.heap.size).add 0) = some (.int .i64 x52) ∧
 w49.cell? ((blk w4.heap.size).add 1) = some (.int .i64 x53) ∧
 Wr w49 (blk w2.heap.size) ∧
 Nw (w49.setCell (blk w2.heap.size) (.int .i64 x52)) fun w50 =>
 Wr w50 ((blk w2.heap.size).add 1) ∧
 Nw (w50.setCell ((blk w2.heap.size).add 1) (.int .i64 x53)) fun w51 =>
 ldI w51 ((blk w1.heap.size).add 0) .i64 fun x54 =>
 ldI w51 ((blk w1.heap.size).add 1) .i64 fun x55 =>
 ldI w51 ((blk w1.heap.size).add 2) .i64 fun x56 =>
 ldI w51 ((blk w1.heap.size).add 3) .i64 fun x57 =>
 ldI w51 ((blk w1.heap.size).add 4) .i64 fun x58 =>
 ldI w51 ((blk w1.heap.size).add 5) .i64 fun x59 =>
 ldI w51 ((blk w1.heap.size).add 6) .i64 fun x60 =>
 ldI w51 ((blk w1.heap.size).add 7) .i64 fun x61 =>
 ldI w51 ((blk w1.heap.size).add 8) .i64 fun x62 =>
 ldI w51 ((blk w1.heap.size).add 9) .i64 fun x63 =>
 ldI w51 ((blk w1.heap.size).add 10) .i64 fun x64 =>
 ldI w51 ((blk w1.heap.size).add 11) .i64 fun x65 =>
 ldI w51 ((blk w1.heap.size).add 12) .i64 fun x66 =>
 ldI w51 ((blk w1.heap.size).add 13) .i64 fun x67 =>
 ldI w51 ((blk w1.heap.size).add 14) .i64 fun x68 =>
 ldI w51 ((blk w1.heap.size).add 15) .i64 fun x69 =>
 ldI w51 ((blk w1.heap.size).add 16) .i64 fun x70 =>
 ldI w51 ((blk w1.heap.size).add 17) .i64 fun x71 =>
 ldI w51 ((blk w1.heap.size).add 18) .i64 fun x72 =>
 ldI w51 ((blk w1.heap.size).add 19) .i64 fun x73 =>
 ldI w51 ((blk w2.heap.size).add 0) .i64 fun x74 =>
 ldI w51 ((blk w2.heap.size).add 1) .i64 fun x75 =>
 R (.tuple #[(.agg #[(.int .i64 x54), (.int .i64 x55), (.int .i64 x56), (.int .i64 x57), (.int .i64 x58), (.int .i64 x59), (.int .i64 x60), (.int .i64 x61), (.int .i64 x62), (.int .i64 x63), (.int .i64 x64), (.int .i64 x65), (.int .i64 x66), (.int .i64 x67), (.int .i64 x68), (.int .i64 x69), (.int .i64 x70), (.int .i64 x71), (.int .i64 x72), (.int .i64 x73)]), (.agg #[(.int .i64 x74), (.int .i64 x75)])]) w51)
theorem layout_Parts_calls (p0 : (Int × Int × Sl × Unit)) (R : Value → World → Prop) (w : World) (h : L_layout_Parts p0 R w) : Calls Tryz.prog 100 #[(.agg #[(.int .u32 p0.1), (.int .u32 p0.2.1), (.slice p0.2.2.1.a p0.2.2.1.l p0.2.2.1.c)])] w (Ret R) :=
 lw_calls (fs := Tryz.fs) (an := a_layout_Parts) (args := [(.agg #[(.int .u32 p0.1), (.int .u32 p0.2.1), (.slice p0.2.2.1.a p0.2.2.1.l p0.2.2.1.c)])]) Tryz.fsOK Tryz.mixed Tryz.func100 (by kernel_rfl) (by kernel_rfl)
 (Eq.mpr (by kernel_rfl : lwFn Tryz.prog Tryz.fs Tryz.f100 a_layout_Parts [(.agg #[(.int .u32 p0.1), (.int .u32 p0.2.1), (.slice p0.2.2.1.a p0.2.2.1.l p0.2.2.1.c)])] w R = L_layout_Parts p0 R w) h)

/-- intaglio.layout.read -/
def a_layout_read : Ann := (.seq none .nil (.seq none (.seq none .nil (.seq none .nil (.cond (.seq none .nil .nil) .nil))) (.seq none .nil (.seq none (.one (.seq none .nil (.cond (.seq none .nil .nil) (.seq none .nil (.cond (.seq none .nil .nil) .nil))))) (.seq none .nil .nil)))))
def L_layout_read (p0 : (Int × Int × Sl × Unit)) (R : Value → World → Prop) (w : World) : Prop :=
 Nw (w.alloc (.cells #[(.int .u32 p0.1), (.int .u32 p0.2.1), (.slice p0.2.2.1.a p0.2.2.1.l p0.2.2.1.c)] 25)) fun w1 =>
 Nw (w1.alloc (.cells #[(.int .i64 (0 : Int)), (.int .i64 (0 : Int))] 33)) fun w2 =>
 ldI w2 ((blk w.heap.size).add 0) .u32 fun x1 =>
 ldI w2 ((blk w.heap.size).add 1) .u32 fun x2 =>
 ldS w2 ((blk w.heap.size).add 2) fun x3 =>
 callR Tryz.prog 69 #[(.agg #[(.int .u32 x1), (.int .u32 x2), (.slice x3.a x3.l x3.c)])] w2 fun v4 w3 =>
 ∃ x5 : (Int × Int × Unit), v4 = (.agg #[(.int .i64 x5.1), (.int .i64 x5.2.1)]) ∧
 Nw (w3.alloc (.cells #[(.int .i64 (0 : Int)), (.int .i64 (0 : Int))] 33)) fun w4 =>
 Wr w4 (blk w3.heap.size) ∧
 Nw (w4.setCell (blk w3.heap.size) (.int .i64 x5.1)) fun w5 =>
 Wr w5 ((blk w3.heap.size).add 1) ∧
 Nw (w5.setCell ((blk w3.heap.size).add 1) (.int .i64 x5.2.1)) fun w6 =>
 ldI w6 (blk w3.heap.size) .i64 fun x6 =>
 ifB (x6 != (0 : Int))
 (ldI w6.drew ((blk w3.heap.size).add 0) .i64 fun x7 =>
 ldI w6.drew ((blk w3.heap.size).add 1) .i64 fun x8 =>
 Wr w6.drew (blk w1.heap.size) ∧
 Nw (w6.drew.setCell (blk w1.heap.size) (.int .i64 x7)) fun w7 =>
 Wr w7 ((blk w1.heap.size).add 1) ∧
 Nw (w7.setCell ((blk w1.heap.size).add 1) (.int .i64 x8)) fun w8 =>
 ldI w8 ((blk w1.heap.size).add 0) .i64 fun x9 =>
 ldI w8 ((blk w1.heap.size).add 1) .i64 fun x10 =>
 R (.tuple #[(.pointer none), (.agg #[(.int .i64 x9), (.int .i64 x10)])]) w8)
 (ldS w6 ((blk w.heap.size).add 2) fun x11 =>
 Nw (w6.alloc (.cells (List.toArray ([(.slice x11.a x11.l x11.c)] ++ List.replicate 21 (.int .i64 (0 : Int)) ++ [(.slice none 0 0)])) 151)) fun w9 =>
 callR Tryz.prog 140 #[(.pointer (some (blk w6.heap.size)))] w9 fun v12 w10 =>
 ∃ x13 : Bool, v12 = (.bool x13) ∧
 ifB x13
 (Wr w10 (blk w1.heap.size) ∧
 Nw (w10.setCell (blk w1.heap.size) (.int .i64 (0 : Int))) fun w11 =>
 Wr w11 ((blk w1.heap.size).add 1) ∧
 Nw (w11.setCell ((blk w1.heap.size).add 1) (.int .i64 (0 : Int))) fun w12 =>
 ldI w12 ((blk w1.heap.size).add 0) .i64 fun x14 =>
 ldI w12 ((blk w1.heap.size).add 1) .i64 fun x15 =>
 R (.tuple #[(.pointer (some (blk w6.heap.size))), (.agg #[(.int .i64 x14), (.int .i64 x15)])]) w12)
 (ldI w10.drew ((blk w6.heap.size).add 1) .i64 fun x16 =>
 ldS w10.drew ((blk w.heap.size).add 2) fun x17 =>
 ifB (decide (x16 < (x17.l : Int)))
 (ldI w10.drew.drew ((blk w6.heap.size).add 1) .i64 fun x18 =>
 Wr w10.drew.drew (blk w1.heap.size) ∧
 Nw (w10.drew.drew.setCell (blk w1.heap.size) (.int .i64 (50 : Int))) fun w13 =>
 Wr w13 ((blk w1.heap.size).add 1) ∧
 Nw (w13.setCell ((blk w1.heap.size).add 1) (.int .i64 x18)) fun w14 =>
 ldI w14 ((blk w1.heap.size).add 0) .i64 fun x19 =>
 ldI w14 ((blk w1.heap.size).add 1) .i64 fun x20 =>
 R (.tuple #[(.pointer none), (.agg #[(.int .i64 x19), (.int .i64 x20)])]) w14)
 (ldI w10.drew.drew ((blk w6.heap.size).add 1) .i64 fun x21 =>
 Wr w10.drew.drew (blk w1.heap.size) ∧
 Nw (w10.drew.drew.setCell (blk w1.heap.size) (.int .i64 (51 : Int))) fun w15 =>
 Wr w15 ((blk w1.heap.size).add 1) ∧
 Nw (w15.setCell ((blk w1.heap.size).add 1) (.int .i64 x21)) fun w16 =>
 ldI w16 ((blk w1.heap.size).add 0) .i64 fun x22 =>
 ldI w16 ((blk w1.heap.size).add 1) .i64 fun x23 =>
 R (.tuple #[(.pointer none), (.agg #[(.int .i64 x22), (.int .i64 x23)])]) w16)))
theorem layout_read_calls (p0 : (Int × Int × Sl × Unit)) (R : Value → World → Prop) (w : World) (h : L_layout_read p0 R w) : Calls Tryz.prog 103 #[(.agg #[(.int .u32 p0.1), (.int .u32 p0.2.1), (.slice p0.2.2.1.a p0.2.2.1.l p0.2.2.1.c)])] w (Ret R) :=
 lw_calls (fs := Tryz.fs) (an := a_layout_read) (args := [(.agg #[(.int .u32 p0.1), (.int .u32 p0.2.1), (.slice p0.2.2.1.a p0.2.2.1.l p0.2.2.1.c)])]) Tryz.fsOK Tryz.mixed Tryz.func103 (by kernel_rfl) (by kernel_rfl)
 (Eq.mpr (by kernel_rfl : lwFn Tryz.prog Tryz.fs Tryz.f103 a_layout_read [(.agg #[(.int .u32 p0.1), (.int .u32 p0.2.1), (.slice p0.2.2.1.a p0.2.2.1.l p0.2.2.1.c)])] w R = L_layout_read p0 R w) h)

/-- intaglio.intaglioref05.first -/
def a_intaglioref05_first : Ann := (.seq none .nil (.seq none .nil (.seq none (.one (.loop ⟨[0], [(5, (.b (.int .i64)))]⟩ (.seq none (.seq none .nil (.cond .nil .nil)) (.one .nil)))) (.seq none .nil .nil))))
def L_intaglioref05_first (p0 : Sl) (p1 : Int) (R : Value → World → Prop) (w : World) : Prop :=
 LoopW (S := Int × Unit) (fun s1 w1 n2 =>
 (0 ≤ s1.1 ∧ s1.1 < (p0.l : Int)) ∧
 derefP p0.a fun a3 =>
 ldI w1 (a3.add ((Int.toNat s1.1) * 4)) .u16 fun x4 =>
 ifB (x4 != (248 : Int))
 (n2 ((IntKind.i64.wrap (s1.1 - (1 : Int))), ()) w1)
 ((0 ≤ (IntKind.i64.wrap (s1.1 - (1 : Int))) ∧ (IntKind.i64.wrap (s1.1 - (1 : Int))) < (p0.l : Int)) ∧
 derefP p0.a fun a5 =>
 ldI w1 (a5.add ((Int.toNat (IntKind.i64.wrap (s1.1 - (1 : Int)))) * 4)) .u16 fun x6 =>
 ifB (x6 == (54 : Int))
 (R (.bool true) w1)
 ((0 ≤ (IntKind.i64.wrap (s1.1 - (1 : Int))) ∧ (IntKind.i64.wrap (s1.1 - (1 : Int))) < (p0.l : Int)) ∧
 derefP p0.a fun a7 =>
 ldI w1 (a7.add ((Int.toNat (IntKind.i64.wrap (s1.1 - (1 : Int)))) * 4)) .u16 fun x8 =>
 R (.bool (x8 == (55 : Int))) w1)))
 (p1, ()) w
theorem intaglioref05_first_calls (p0 : Sl) (p1 : Int) (R : Value → World → Prop) (w : World) (h : L_intaglioref05_first p0 p1 R w) : Calls Tryz.prog 127 #[(.slice p0.a p0.l p0.c), (.int .i64 p1)] w (Ret R) :=
 lw_calls (fs := Tryz.fs) (an := a_intaglioref05_first) (args := [(.slice p0.a p0.l p0.c), (.int .i64 p1)]) Tryz.fsOK Tryz.mixed Tryz.func127 (by kernel_rfl) (by kernel_rfl)
 (Eq.mpr (by kernel_rfl : lwFn Tryz.prog Tryz.fs Tryz.f127 a_intaglioref05_first [(.slice p0.a p0.l p0.c), (.int .i64 p1)] w R = L_intaglioref05_first p0 p1 R w) h)

/-- (*intaglio.layout.cutter).cut -/
def a_layout_cutter_cut : Ann := (.seq none .nil (.one (.seq none (.seq none .nil (.cond (.seq none .nil .nil) .nil)) (.seq none .nil (.seq none .nil (.loop ⟨[0], []⟩ (.seq none (.seq none .nil (.cond (.seq none .nil .nil) .nil)) (.seq none (.seq none .nil (.cond (.seq none .nil .nil) .nil)) (.seq none .nil (.seq none .nil (.seq none .nil (.seq none .nil (.seq none (.one (.loop ⟨[0, 3], []⟩ (.seq none (.seq none .nil (.cond .nil .nil)) (.one (.seq none (.seq none .nil (.cond (.seq none .nil .nil) .nil)) .nil))))) (.seq (some ⟨[0, 3], []⟩) (.seq none .nil (.cond (.seq none .nil .nil) .nil)) (.seq none .nil (.seq none .nil (.seq none .nil .nil)))))))))))))))))
def L_layout_cutter_cut (p0 : Option Addr) (R : Value → World → Prop) (w : World) : Prop :=
 callR Tryz.prog 172 #[(.pointer p0)] w fun v1 w1 =>
 ∃ x2 : Bool, v1 = (.bool x2) ∧
 ifB (!x2)
 (R (.bool false) w1)
 (derefP p0 fun a3 =>
 ldI w1.drew (a3.add 1) .i64 fun x4 =>
 derefP p0 fun a5 =>
 ldS w1.drew a5 fun x6 =>
 derefP p0 fun a7 =>
 (0 ≤ (8 : Int) ∧ (8 : Int) < (10 : Int)) ∧
 Wr w1.drew ((a7.add 2).add (8 * 2)) ∧
 Nw (w1.drew.setCell ((a7.add 2).add (8 * 2)) (.int .i64 x4)) fun w2 =>
 Wr w2 (((a7.add 2).add (8 * 2)).add 1) ∧
 Nw (w2.setCell (((a7.add 2).add (8 * 2)).add 1) (.int .i64 (x6.l : Int))) fun w3 =>
 derefP p0 fun a8 =>
 ldS w3.drew a8 fun x9 =>
 derefP p0 fun a10 =>
 ldS w3.drew a10 fun x11 =>
 derefP p0 fun a12 =>
 (0 ≤ (9 : Int) ∧ (9 : Int) < (10 : Int)) ∧
 Wr w3.drew ((a12.add 2).add (9 * 2)) ∧
 Nw (w3.drew.setCell ((a12.add 2).add (9 * 2)) (.int .i64 (x9.l : Int))) fun w4 =>
 Wr w4 (((a12.add 2).add (9 * 2)).add 1) ∧
 Nw (w4.setCell (((a12.add 2).add (9 * 2)).add 1) (.int .i64 (x11.l : Int))) fun w5 =>
 LoopW (S := Unit) (fun s13 w6 n14 =>
 callR Tryz.prog 173 #[(.pointer p0)] w6 fun v15 w7 =>
 ∃ x16 : Int, v15 = (.int .i64 x16) ∧
 ifB (decide (x16 < (0 : Int)))
 (R (.bool true) w7)
 (callR Tryz.prog 173 #[(.pointer p0)] w7 fun v17 w8 =>
 ∃ x18 : Int, v17 = (.int .i64 x18) ∧
 ifB (x18 != (1 : Int))
 (R (.bool false) w8)
 (derefP p0 fun a19 =>
 ldS w8.drew a19 fun x20 =>
 derefP p0 fun a21 =>
 ldI w8.drew (a21.add 1) .i64 fun x22 =>
 (0 ≤ x22 ∧ x22 < (x20.l : Int)) ∧
 derefP x20.a fun a23 =>
 ldI w8.drew ((a23.add ((Int.toNat x22) * 4)).add 2) .u32 fun x24 =>
 derefP p0 fun a25 =>
 ldI w8.drew (a25.add 1) .i64 fun x26 =>
 Nw (w8.drew.alloc (.cells #[(.int .u32 (0 : Int)), (.int .i64 (0 : Int)), (.slice none 0 0), (.slice none 0 0), (.int .i64 (0 : Int))] 29)) fun w9 =>
 w9.cell? (a25.add 1) = some (.int .i64 x26) ∧
 w9.cell? ((a23.add ((Int.toNat x22) * 4)).add 2) = some (.int .u32 x24) ∧
 w9.cell? (a21.add 1) = some (.int .i64 x22) ∧
 w9.cell? a19 = some (.slice x20.a x20.l x20.c) ∧
 Wr w9 (blk w8.drew.heap.size) ∧
 Nw (w9.setCell (blk w8.drew.heap.size) (.int .u32 x24)) fun w10 =>
 Wr w10 ((blk w8.drew.heap.size).add 1) ∧
 Nw (w10.setCell ((blk w8.drew.heap.size).add 1) (.int .i64 x26)) fun w11 =>
 Wr w11 ((blk w8.drew.heap.size).add 2) ∧
 Nw (w11.setCell ((blk w8.drew.heap.size).add 2) (.slice none 0 0)) fun w12 =>
 Wr w12 ((blk w8.drew.heap.size).add 3) ∧
 Nw (w12.setCell ((blk w8.drew.heap.size).add 3) (.slice none 0 0)) fun w13 =>
 Wr w13 ((blk w8.drew.heap.size).add 4) ∧
 Nw (w13.setCell ((blk w8.drew.heap.size).add 4) (.int .i64 (0 : Int))) fun w14 =>
 derefP p0 fun a27 =>
 ldI w14 (a27.add 1) .i64 fun x28 =>
 derefP p0 fun a29 =>
 Wr w14 (a29.add 1) ∧
 Nw (w14.setCell (a29.add 1) (.int .i64 (IntKind.i64.wrap (x28 + (1 : Int))))) fun w15 =>
 callR Tryz.prog 174 #[(.pointer p0), (.int .i64 (2 : Int))] w15 fun v30 w16 =>
 ∃ x31 : Sl, v30 = (.slice x31.a x31.l x31.c) ∧
 Wr w16 ((blk w8.drew.heap.size).add 2) ∧
 Nw (w16.setCell ((blk w8.drew.heap.size).add 2) (.slice x31.a x31.l x31.c)) fun w17 =>
 LoopW (S := Unit) (fun s32 w18 n33 =>
 callR Tryz.prog 173 #[(.pointer p0)] w18 fun v34 w19 =>
 ∃ x35 : Int, v34 = (.int .i64 x35) ∧
 ifB (x35 == (3 : Int))
 (callR Tryz.prog 175 #[(.pointer p0), (.pointer (some (blk w8.drew.heap.size)))] w19 fun v36 w20 =>
 ∃ x37 : Bool, v36 = (.bool x37) ∧
 ifB (!x37)
 (R (.bool false) w20)
 (n33 (()) w20))
 (JoinW (S := Unit) (fun m38 =>
 ldS w19 ((blk w8.drew.heap.size).add 3) fun x40 =>
 ifB ((x40.l : Int) == (0 : Int))
 (R (.bool false) w19)
 (callR Tryz.prog 173 #[(.pointer p0)] w19 fun v41 w21 =>
 ∃ x42 : Int, v41 = (.int .i64 x42) ∧
 ifB (x42 != (8 : Int))
 (R (.bool false) w21)
 (m38 (()) w21)))
 (fun s39 w22 =>
 derefP p0 fun a43 =>
 ldI w22 (a43.add 1) .i64 fun x44 =>
 Wr w22 ((blk w8.drew.heap.size).add 4) ∧
 Nw (w22.setCell ((blk w8.drew.heap.size).add 4) (.int .i64 x44)) fun w23 =>
 derefP p0 fun a45 =>
 ldI w23 (a45.add 1) .i64 fun x46 =>
 derefP p0 fun a47 =>
 Wr w23 (a47.add 1) ∧
 Nw (w23.setCell (a47.add 1) (.int .i64 (IntKind.i64.wrap (x46 + (1 : Int))))) fun w24 =>
 derefP p0 fun a48 =>
 ldS w24.drew (a48.add 22) fun x49 =>
 ldI w24.drew ((blk w8.drew.heap.size).add 0) .u32 fun x50 =>
 ldI w24.drew ((blk w8.drew.heap.size).add 1) .i64 fun x51 =>
 ldS w24.drew ((blk w8.drew.heap.size).add 2) fun x52 =>
 ldS w24.drew ((blk w8.drew.heap.size).add 3) fun x53 =>
 ldI w24.drew ((blk w8.drew.heap.size).add 4) .i64 fun x54 =>
 Nw (w24.drew.alloc (.cells #[(.int .u32 x50), (.int .i64 x51), (.slice x52.a x52.l x52.c), (.slice x53.a x53.l x53.c), (.int .i64 x54)] 29)) fun w25 =>
 w25.cell? (a48.add 22) = some (.slice x49.a x49.l x49.c) ∧
 appendS Tryz.prog 30 (.slice x49.a x49.l x49.c) (.slice (some (blk w24.drew.heap.size)) 1 1) w25 fun r55 w26 =>
 derefP p0 fun a56 =>
 Wr w26 (a56.add 22) ∧
 Nw (w26.setCell (a56.add 22) (.slice r55.a r55.l r55.c)) fun w27 =>
 n14 (()) w27)))
 (()) w17)))
 (()) w5)
theorem layout_cutter_cut_calls (p0 : Option Addr) (R : Value → World → Prop) (w : World) (h : L_layout_cutter_cut p0 R w) : Calls Tryz.prog 140 #[(.pointer p0)] w (Ret R) :=
 lwJ_calls (l := 0) (fs := Tryz.fs) (an := a_layout_cutter_cut) (args := [(.pointer p0)]) Tryz.fsOK Tryz.mixed Tryz.func140 (by kernel_rfl) (by kernel_rfl)
 (Eq.mpr (by kernel_rfl : lwJFn Tryz.prog Tryz.fs 0 Tryz.f140 a_layout_cutter_cut [(.pointer p0)] w R = L_layout_cutter_cut p0 R w) h)

/-- (*intaglio.layout.cutter).top -/
def a_layout_cutter_top : Ann := (.seq none .nil (.seq none (.seq none .nil (.one (.loop ⟨[0], [(5, (.b (.int .u8)))]⟩ (.seq none .nil (.seq none (.cond .nil .nil) (.seq (some ⟨[0, 5], []⟩) (.one (.seq none .nil (.seq none .nil (.seq (some ⟨[0, 3, 4, 5], []⟩) (.one (.loop ⟨[0, 3, 4, 5], []⟩ (.seq (some ⟨[0, 3, 4, 5], []⟩) (.seq none .nil (.cond .nil .nil)) (.one (.seq none .nil (.seq none .nil (.cond .nil .nil))))))) (.seq none .nil (.seq none .nil (.cond (.seq none .nil .nil) .nil))))))) .nil)))))) (.seq none .nil .nil)))
def L_layout_cutter_top (p0 : Option Addr) (R : Value → World → Prop) (w : World) : Prop :=
 LoopW (S := Int × Unit) (fun s1 w1 n2 =>
 ifB (decide (s1.1 < (8 : Int)))
 (JoinW (S := Unit) (fun m3 =>
 derefP p0 fun a5 =>
 ldI w1 (a5.add 1) .i64 fun x6 =>
 JoinW (S := Unit) (fun m7 =>
 LoopW (S := Unit) (fun s9 w2 n10 =>
 JoinW (S := Unit) (fun m11 =>
 callR Tryz.prog 173 #[(.pointer p0)] w2.drew fun v13 w3 =>
 ∃ x14 : Int, v13 = (.int .i64 x14) ∧
 ifB (x14 == (9 : Int))
 (derefP p0 fun a15 =>
 ldS w3 a15 fun x16 =>
 derefP p0 fun a17 =>
 ldI w3 (a17.add 1) .i64 fun x18 =>
 (0 ≤ x18 ∧ x18 < (x16.l : Int)) ∧
 derefP x16.a fun a19 =>
 ldI w3 ((a19.add ((Int.toNat x18) * 4)).add 0) .u16 fun x20 =>
 ldI w3 ((a19.add ((Int.toNat x18) * 4)).add 1) .u32 fun x21 =>
 ldI w3 ((a19.add ((Int.toNat x18) * 4)).add 2) .u32 fun x22 =>
 ldS w3 ((a19.add ((Int.toNat x18) * 4)).add 3) fun x23 =>
 callR Tryz.prog 226 #[(.agg #[(.int .u16 x20), (.int .u32 x21), (.int .u32 x22), (.slice x23.a x23.l x23.c)])] w3 fun v24 w4 =>
 ∃ x25 : Int, v24 = (.int .u8 x25) ∧
 ifB (x25 == s1.1)
 (m11 (()) w4)
 (m7 (()) w4))
 (m7 (()) w3))
 (fun s12 w5 =>
 derefP p0 fun a26 =>
 ldI w5 (a26.add 1) .i64 fun x27 =>
 derefP p0 fun a28 =>
 Wr w5 (a28.add 1) ∧
 Nw (w5.setCell (a28.add 1) (.int .i64 (IntKind.i64.wrap (x27 + (1 : Int))))) fun w6 =>
 ifB (s1.1 == (1 : Int))
 (m7 (()) w6)
 (n10 (()) w6)))
 (()) w1)
 (fun s8 w7 =>
 derefP p0 fun a29 =>
 ldI w7.drew (a29.add 1) .i64 fun x30 =>
 derefP p0 fun a31 =>
 (0 ≤ s1.1 ∧ s1.1 < (10 : Int)) ∧
 Wr w7.drew ((a31.add 2).add ((Int.toNat s1.1) * 2)) ∧
 Nw (w7.drew.setCell ((a31.add 2).add ((Int.toNat s1.1) * 2)) (.int .i64 x6)) fun w8 =>
 Wr w8 (((a31.add 2).add ((Int.toNat s1.1) * 2)).add 1) ∧
 Nw (w8.setCell (((a31.add 2).add ((Int.toNat s1.1) * 2)).add 1) (.int .i64 x30)) fun w9 =>
 ifB (s1.1 == (1 : Int))
 (derefP p0 fun a32 =>
 ldI w9 (a32.add 1) .i64 fun x33 =>
 ifB (x33 == x6)
 (R (.bool false) w9)
 (m3 (()) w9))
 (m3 (()) w9)))
 (fun s4 w10 =>
 n2 ((IntKind.u8.wrap (s1.1 + (1 : Int))), ()) w10))
 (R (.bool true) w1))
 ((0 : Int), ()) w
theorem layout_cutter_top_calls (p0 : Option Addr) (R : Value → World → Prop) (w : World) (h : L_layout_cutter_top p0 R w) : Calls Tryz.prog 172 #[(.pointer p0)] w (Ret R) :=
 lw_calls (fs := Tryz.fs) (an := a_layout_cutter_top) (args := [(.pointer p0)]) Tryz.fsOK Tryz.mixed Tryz.func172 (by kernel_rfl) (by kernel_rfl)
 (Eq.mpr (by kernel_rfl : lwFn Tryz.prog Tryz.fs Tryz.f172 a_layout_cutter_top [(.pointer p0)] w R = L_layout_cutter_top p0 R w) h)

/-- (*intaglio.layout.cutter).next -/
def a_layout_cutter_next : Ann := (.seq none .nil (.seq none (.seq none .nil (.cond (.seq none .nil .nil) .nil)) (.seq none .nil .nil)))
def L_layout_cutter_next (p0 : Option Addr) (R : Value → World → Prop) (w : World) : Prop :=
 derefP p0 fun a1 =>
 ldI w.drew (a1.add 1) .i64 fun x2 =>
 derefP p0 fun a3 =>
 ldS w.drew a3 fun x4 =>
 ifB (x2 == (x4.l : Int))
 (R (.int .i64 (-1 : Int)) w.drew)
 (derefP p0 fun a5 =>
 ldS w.drew.drew a5 fun x6 =>
 derefP p0 fun a7 =>
 ldI w.drew.drew (a7.add 1) .i64 fun x8 =>
 (0 ≤ x8 ∧ x8 < (x6.l : Int)) ∧
 derefP x6.a fun a9 =>
 ldI w.drew.drew ((a9.add ((Int.toNat x8) * 4)).add 0) .u16 fun x10 =>
 ldI w.drew.drew ((a9.add ((Int.toNat x8) * 4)).add 1) .u32 fun x11 =>
 ldI w.drew.drew ((a9.add ((Int.toNat x8) * 4)).add 2) .u32 fun x12 =>
 ldS w.drew.drew ((a9.add ((Int.toNat x8) * 4)).add 3) fun x13 =>
 callR Tryz.prog 227 #[(.agg #[(.int .u16 x10), (.int .u32 x11), (.int .u32 x12), (.slice x13.a x13.l x13.c)])] w.drew.drew fun v14 w1 =>
 ∃ x15 : Int, v14 = (.int .i64 x15) ∧
 R (.int .i64 x15) w1)
theorem layout_cutter_next_calls (p0 : Option Addr) (R : Value → World → Prop) (w : World) (h : L_layout_cutter_next p0 R w) : Calls Tryz.prog 173 #[(.pointer p0)] w (Ret R) :=
 lw_calls (fs := Tryz.fs) (an := a_layout_cutter_next) (args := [(.pointer p0)]) Tryz.fsOK Tryz.mixed Tryz.func173 (by kernel_rfl) (by kernel_rfl)
 (Eq.mpr (by kernel_rfl : lwFn Tryz.prog Tryz.fs Tryz.f173 a_layout_cutter_next [(.pointer p0)] w R = L_layout_cutter_next p0 R w) h)

/-- (*intaglio.layout.cutter).row -/
def a_layout_cutter_row : Ann := (.seq none .nil (.seq none .nil (.seq none (.one (.loop ⟨[0, 1], [(5, (.b .slice))]⟩ (.seq none (.seq none .nil (.cond .nil .nil)) (.one (.seq none .nil .nil))))) (.seq none .nil .nil))))
def L_layout_cutter_row (p0 : Option Addr) (p1 : Int) (R : Value → World → Prop) (w : World) : Prop :=
 LoopW (S := Sl × Unit) (fun s1 w1 n2 =>
 callR Tryz.prog 173 #[(.pointer p0)] w1 fun v3 w2 =>
 ∃ x4 : Int, v3 = (.int .i64 x4) ∧
 ifB (x4 == p1)
 (derefP p0 fun a5 =>
 ldI w2 (a5.add 1) .i64 fun x6 =>
 Nw (w2.alloc (.cells #[(.int .i64 x6)] 3)) fun w3 =>
 appendS Tryz.prog 26 (.slice s1.1.a s1.1.l s1.1.c) (.slice (some (blk w2.heap.size)) 1 1) w3 fun r7 w4 =>
 derefP p0 fun a8 =>
 ldI w4 (a8.add 1) .i64 fun x9 =>
 derefP p0 fun a10 =>
 Wr w4 (a10.add 1) ∧
 Nw (w4.setCell (a10.add 1) (.int .i64 (IntKind.i64.wrap (x9 + (1 : Int))))) fun w5 =>
 n2 (r7, ()) w5)
 (R (.slice s1.1.a s1.1.l s1.1.c) w2))
 ((Sl.mk none 0 0), ()) w
theorem layout_cutter_row_calls (p0 : Option Addr) (p1 : Int) (R : Value → World → Prop) (w : World) (h : L_layout_cutter_row p0 p1 R w) : Calls Tryz.prog 174 #[(.pointer p0), (.int .i64 p1)] w (Ret R) :=
 lw_calls (fs := Tryz.fs) (an := a_layout_cutter_row) (args := [(.pointer p0), (.int .i64 p1)]) Tryz.fsOK Tryz.mixed Tryz.func174 (by kernel_rfl) (by kernel_rfl)
 (Eq.mpr (by kernel_rfl : lwFn Tryz.prog Tryz.fs Tryz.f174 a_layout_cutter_row [(.pointer p0), (.int .i64 p1)] w R = L_layout_cutter_row p0 p1 R w) h)

/-- (*intaglio.layout.cutter).block -/
def a_layout_cutter_block : Ann := (.seq none .nil (.seq none .nil (.seq none .nil (.seq (some ⟨[0, 1, 5], []⟩) (.seq none .nil (.cond .nil .nil)) (.seq none .nil (.seq none (.seq none .nil (.one (.seq (some ⟨[0, 1, 5], []⟩) (.one (.seq none (.one (.seq none (.seq none (.seq none .nil (.cond .nil .nil)) (.seq none .nil (.cond .nil .nil))) .nil)) (.seq none .nil (.seq none .nil (.cond (.seq none .nil .nil) .nil))))) (.seq none (.seq none .nil (.seq none .nil (.seq none .nil (.seq none .nil .nil)))) .nil)))) (.seq none .nil .nil)))))))
def L_layout_cutter_block (p0 : Option Addr) (p1 : Option Addr) (R : Value → World → Prop) (w : World) : Prop :=
 derefP p0 fun a1 =>
 ldS w.drew a1 fun x2 =>
 derefP p0 fun a3 =>
 ldI w.drew (a3.add 1) .i64 fun x4 =>
 (0 ≤ x4 ∧ x4 < (x2.l : Int)) ∧
 derefP x2.a fun a5 =>
 ldI w.drew ((a5.add ((Int.toNat x4) * 4)).add 2) .u32 fun x6 =>
 derefP p0 fun a7 =>
 ldI w.drew (a7.add 1) .i64 fun x8 =>
 Nw (w.drew.alloc (.cells #[(.int .u32 (0 : Int)), (.int .i64 (0 : Int)), (.int .i64 (0 : Int))] 69)) fun w1 =>
 w1.cell? (a7.add 1) = some (.int .i64 x8) ∧
 w1.cell? ((a5.add ((Int.toNat x4) * 4)).add 2) = some (.int .u32 x6) ∧
 w1.cell? (a3.add 1) = some (.int .i64 x4) ∧
 w1.cell? a1 = some (.slice x2.a x2.l x2.c) ∧
 Wr w1 (blk w.drew.heap.size) ∧
 Nw (w1.setCell (blk w.drew.heap.size) (.int .u32 x6)) fun w2 =>
 Wr w2 ((blk w.drew.heap.size).add 1) ∧
 Nw (w2.setCell ((blk w.drew.heap.size).add 1) (.int .i64 x8)) fun w3 =>
 Wr w3 ((blk w.drew.heap.size).add 2) ∧
 Nw (w3.setCell ((blk w.drew.heap.size).add 2) (.int .i64 (0 : Int))) fun w4 =>
 derefP p0 fun a9 =>
 ldI w4 (a9.add 1) .i64 fun x10 =>
 derefP p0 fun a11 =>
 Wr w4 (a11.add 1) ∧
 Nw (w4.setCell (a11.add 1) (.int .i64 (IntKind.i64.wrap (x10 + (1 : Int))))) fun w5 =>
 JoinW (S := Unit) (fun m12 =>
 derefP p1 fun a14 =>
 ldS w5 (a14.add 3) fun x15 =>
 ifB ((x15.l : Int) == (0 : Int))
 (callR Tryz.prog 174 #[(.pointer p0), (.int .i64 (5 : Int))] w5 fun v16 w6 =>
 ∃ x17 : Sl, v16 = (.slice x17.a x17.l x17.c) ∧
 m12 (()) w6)
 (callR Tryz.prog 174 #[(.pointer p0), (.int .i64 (4 : Int))] w5 fun v18 w7 =>
 ∃ x19 : Sl, v18 = (.slice x19.a x19.l x19.c) ∧
 m12 (()) w7))
 (fun s13 w8 =>
 callR Tryz.prog 174 #[(.pointer p0), (.int .i64 (0 : Int))] w8 fun v20 w9 =>
 ∃ x21 : Sl, v20 = (.slice x21.a x21.l x21.c) ∧
 callR Tryz.prog 173 #[(.pointer p0)] w9 fun v22 w10 =>
 ∃ x23 : Int, v22 = (.int .i64 x23) ∧
 JoinW (S := Unit) (fun m24 =>
 ifB (x23 == (6 : Int))
 (derefP p0 fun a26 =>
 ldI w10 (a26.add 1) .i64 fun x27 =>
 derefP p0 fun a28 =>
 Wr w10 (a28.add 1) ∧
 Nw (w10.setCell (a28.add 1) (.int .i64 (IntKind.i64.wrap (x27 + (1 : Int))))) fun w11 =>
 callR Tryz.prog 173 #[(.pointer p0)] w11.drew fun v29 w12 =>
 ∃ x30 : Int, v29 = (.int .i64 x30) ∧
 ifB (x30 != (7 : Int))
 (R (.bool false) w12)
 (derefP p0 fun a31 =>
 ldS w12 a31 fun x32 =>
 derefP p0 fun a33 =>
 ldI w12 (a33.add 1) .i64 fun x34 =>
 (0 ≤ (IntKind.i64.wrap (x34 - (1 : Int))) ∧ (IntKind.i64.wrap (x34 - (1 : Int))) < (x32.l : Int)) ∧
 derefP x32.a fun a35 =>
 ldI w12 (a35.add ((Int.toNat (IntKind.i64.wrap (x34 - (1 : Int)))) * 4)) .u16 fun x36 =>
 derefP p0 fun a37 =>
 ldS w12 a37 fun x38 =>
 derefP p0 fun a39 =>
 ldI w12 (a39.add 1) .i64 fun x40 =>
 (0 ≤ x40 ∧ x40 < (x38.l : Int)) ∧
 derefP x38.a fun a41 =>
 ldI w12 (a41.add ((Int.toNat x40) * 4)) .u16 fun x42 =>
 callR Tryz.prog 228 #[(.int .u16 x36), (.int .u16 x42)] w12 fun v43 w13 =>
 ∃ x44 : Bool, v43 = (.bool x44) ∧
 ifB (!x44)
 (R (.bool false) w13)
 (m24 (()) w13)))
 (ifB (x23 == (7 : Int))
 (m24 (()) w10)
 (R (.bool false) w10)))
 (fun s25 w14 =>
 derefP p0 fun a45 =>
 ldI w14 (a45.add 1) .i64 fun x46 =>
 derefP p0 fun a47 =>
 Wr w14 (a47.add 1) ∧
 Nw (w14.setCell (a47.add 1) (.int .i64 (IntKind.i64.wrap (x46 + (1 : Int))))) fun w15 =>
 derefP p0 fun a48 =>
 ldI w15 (a48.add 1) .i64 fun x49 =>
 Wr w15 ((blk w.drew.heap.size).add 2) ∧
 Nw (w15.setCell ((blk w.drew.heap.size).add 2) (.int .i64 x49)) fun w16 =>
 derefP p1 fun a50 =>
 ldS w16.drew (a50.add 3) fun x51 =>
 ldI w16.drew ((blk w.drew.heap.size).add 0) .u32 fun x52 =>
 ldI w16.drew ((blk w.drew.heap.size).add 1) .i64 fun x53 =>
 ldI w16.drew ((blk w.drew.heap.size).add 2) .i64 fun x54 =>
 Nw (w16.drew.alloc (.cells #[(.int .u32 x52), (.int .i64 x53), (.int .i64 x54)] 69)) fun w17 =>
 w17.cell? (a50.add 3) = some (.slice x51.a x51.l x51.c) ∧
 appendS Tryz.prog 27 (.slice x51.a x51.l x51.c) (.slice (some (blk w16.drew.heap.size)) 1 1) w17 fun r55 w18 =>
 derefP p1 fun a56 =>
 Wr w18 (a56.add 3) ∧
 Nw (w18.setCell (a56.add 3) (.slice r55.a r55.l r55.c)) fun w19 =>
 R (.bool true) w19))
theorem layout_cutter_block_calls (p0 : Option Addr) (p1 : Option Addr) (R : Value → World → Prop) (w : World) (h : L_layout_cutter_block p0 p1 R w) : Calls Tryz.prog 175 #[(.pointer p0), (.pointer p1)] w (Ret R) :=
 lw_calls (fs := Tryz.fs) (an := a_layout_cutter_block) (args := [(.pointer p0), (.pointer p1)]) Tryz.fsOK Tryz.mixed Tryz.func175 (by kernel_rfl) (by kernel_rfl)
 (Eq.mpr (by kernel_rfl : lwFn Tryz.prog Tryz.fs Tryz.f175 a_layout_cutter_block [(.pointer p0), (.pointer p1)] w R = L_layout_cutter_block p0 p1 R w) h)

/-- intaglio.layout.part -/
def a_layout_part : Ann := (.seq none .nil (.seq none (.seq none .nil (.cond (.seq none .nil .nil) .nil)) (.seq none .nil (.seq none .nil .nil))))
def L_layout_part (p0 : (Int × Int × Int × Sl × Unit)) (R : Value → World → Prop) (w : World) : Prop :=
 Nw (w.alloc (.cells #[(.int .u16 p0.1), (.int .u32 p0.2.1), (.int .u32 p0.2.2.1), (.slice p0.2.2.2.1.a p0.2.2.2.1.l p0.2.2.2.1.c)] 41)) fun w1 =>
 ldI w1 ((blk w.heap.size).add 0) .u16 fun x1 =>
 ldI w1 ((blk w.heap.size).add 1) .u32 fun x2 =>
 ldI w1 ((blk w.heap.size).add 2) .u32 fun x3 =>
 ldS w1 ((blk w.heap.size).add 3) fun x4 =>
 callR Tryz.prog 257 #[(.agg #[(.int .u16 x1), (.int .u32 x2), (.int .u32 x3), (.slice x4.a x4.l x4.c)])] w1 fun v5 w2 =>
 ∃ x6 : Bool, v5 = (.bool x6) ∧
 ifB x6
 (R (.int .u8 (8 : Int)) w2)
 (ldI w2 (blk w.heap.size) .u16 fun x7 =>
 callR Tryz.prog 168 #[(.int .u16 x7)] w2 fun v8 w3 =>
 ∃ x9 : (Int × ByteArray × Bool × Bool × ByteArray × ByteArray × Int × Int × Unit), ∃ x10 : Bool, v8 = (.tuple #[(.agg #[(.int .u16 x9.1), (.string x9.2.1), (.bool x9.2.2.1), (.bool x9.2.2.2.1), (.string x9.2.2.2.2.1), (.string x9.2.2.2.2.2.1), (.int .i64 x9.2.2.2.2.2.2.1), (.int .u8 x9.2.2.2.2.2.2.2.1)]), (.bool x10)]) ∧
 Nw (w3.alloc (.cells #[(.int .u16 (0 : Int)), (.string (ByteArray.mk #[])), (.bool false), (.bool false), (.string (ByteArray.mk #[])), (.string (ByteArray.mk #[])), (.int .i64 (0 : Int)), (.int .u8 (0 : Int))] 178)) fun w4 =>
 Wr w4 (blk w3.heap.size) ∧
 Nw (w4.setCell (blk w3.heap.size) (.int .u16 x9.1)) fun w5 =>
 Wr w5 ((blk w3.heap.size).add 1) ∧
 Nw (w5.setCell ((blk w3.heap.size).add 1) (.string x9.2.1)) fun w6 =>
 Wr w6 ((blk w3.heap.size).add 2) ∧
 Nw (w6.setCell ((blk w3.heap.size).add 2) (.bool x9.2.2.1)) fun w7 =>
 Wr w7 ((blk w3.heap.size).add 3) ∧
 Nw (w7.setCell ((blk w3.heap.size).add 3) (.bool x9.2.2.2.1)) fun w8 =>
 Wr w8 ((blk w3.heap.size).add 4) ∧
 Nw (w8.setCell ((blk w3.heap.size).add 4) (.string x9.2.2.2.2.1)) fun w9 =>
 Wr w9 ((blk w3.heap.size).add 5) ∧
 Nw (w9.setCell ((blk w3.heap.size).add 5) (.string x9.2.2.2.2.2.1)) fun w10 =>
 Wr w10 ((blk w3.heap.size).add 6) ∧
 Nw (w10.setCell ((blk w3.heap.size).add 6) (.int .i64 x9.2.2.2.2.2.2.1)) fun w11 =>
 Wr w11 ((blk w3.heap.size).add 7) ∧
 Nw (w11.setCell ((blk w3.heap.size).add 7) (.int .u8 x9.2.2.2.2.2.2.2.1)) fun w12 =>
 ldI w12 ((blk w3.heap.size).add 7) .u8 fun x11 =>
 R (.int .u8 x11) w12)
theorem layout_part_calls (p0 : (Int × Int × Int × Sl × Unit)) (R : Value → World → Prop) (w : World) (h : L_layout_part p0 R w) : Calls Tryz.prog 226 #[(.agg #[(.int .u16 p0.1), (.int .u32 p0.2.1), (.int .u32 p0.2.2.1), (.slice p0.2.2.2.1.a p0.2.2.2.1.l p0.2.2.2.1.c)])] w (Ret R) :=
 lw_calls (fs := Tryz.fs) (an := a_layout_part) (args := [(.agg #[(.int .u16 p0.1), (.int .u32 p0.2.1), (.int .u32 p0.2.2.1), (.slice p0.2.2.2.1.a p0.2.2.2.1.l p0.2.2.2.1.c)])]) Tryz.fsOK Tryz.mixed Tryz.func226 (by kernel_rfl) (by kernel_rfl)
 (Eq.mpr (by kernel_rfl : lwFn Tryz.prog Tryz.fs Tryz.f226 a_layout_part [(.agg #[(.int .u16 p0.1), (.int .u32 p0.2.1), (.int .u32 p0.2.2.1), (.slice p0.2.2.2.1.a p0.2.2.2.1.l p0.2.2.2.1.c)])] w R = L_layout_part p0 R w) h)

/-- intaglio.layout.kind -/
def a_layout_kind : Ann := (.seq none .nil (.seq none (.seq none .nil (.cond (.seq none .nil .nil) .nil)) (.seq none (.seq none .nil (.one (.seq none (.one (.one (.seq none (.one (.seq none (.one (.seq none (.one (.seq none (.one (.seq none (.one (.seq none (.one (.seq none (.seq none (.seq none .nil (.cond .nil .nil)) (.seq none (.seq none .nil (.cond .nil .nil)) (.seq none (.seq none .nil (.cond .nil .nil)) (.seq none (.seq none .nil (.cond .nil .nil)) (.seq none (.seq none .nil (.cond .nil .nil)) (.seq none (.seq none .nil (.cond .nil .nil)) (.seq none (.seq none .nil (.cond .nil .nil)) (.seq none .nil (.cond .nil .nil))))))))) .nil)) (.seq none (.seq none .nil .nil) .nil))) (.seq none (.seq none .nil .nil) .nil))) (.seq none (.seq none .nil .nil) .nil))) (.seq none (.seq none .nil .nil) .nil))) (.seq none (.seq none .nil .nil) .nil))) (.seq none (.seq none .nil .nil) .nil)))) (.seq none (.seq none .nil .nil) .nil)))) (.seq none (.seq none .nil (.cond (.seq none .nil .nil) .nil)) (.seq none .nil .nil)))))
def L_layout_kind (p0 : (Int × Int × Int × Sl × Unit)) (R : Value → World → Prop) (w : World) : Prop :=
 Nw (w.alloc (.cells #[(.int .u16 p0.1), (.int .u32 p0.2.1), (.int .u32 p0.2.2.1), (.slice p0.2.2.2.1.a p0.2.2.2.1.l p0.2.2.2.1.c)] 41)) fun w1 =>
 ldI w1 ((blk w.heap.size).add 0) .u16 fun x1 =>
 ldI w1 ((blk w.heap.size).add 1) .u32 fun x2 =>
 ldI w1 ((blk w.heap.size).add 2) .u32 fun x3 =>
 ldS w1 ((blk w.heap.size).add 3) fun x4 =>
 callR Tryz.prog 226 #[(.agg #[(.int .u16 x1), (.int .u32 x2), (.int .u32 x3), (.slice x4.a x4.l x4.c)])] w1 fun v5 w2 =>
 ∃ x6 : Int, v5 = (.int .u8 x6) ∧
 ifB (x6 != (8 : Int))
 (R (.int .i64 (9 : Int)) w2)
 (ldI w2 (blk w.heap.size) .u16 fun x7 =>
 ifB (x7 == (54 : Int))
 (R (.int .i64 (1 : Int)) w2)
 (ifB (x7 == (55 : Int))
 (R (.int .i64 (2 : Int)) w2)
 (ifB (x7 == (56 : Int))
 (R (.int .i64 (8 : Int)) w2)
 (ifB (x7 == (248 : Int))
 (R (.int .i64 (3 : Int)) w2)
 (ifB (x7 == (245 : Int))
 (R (.int .i64 (4 : Int)) w2)
 (ifB (x7 == (59 : Int))
 (R (.int .i64 (5 : Int)) w2)
 (ifB (x7 == (246 : Int))
 (R (.int .i64 (6 : Int)) w2)
 (ifB (x7 == (247 : Int))
 (R (.int .i64 (6 : Int)) w2)
 (ldI w2 (blk w.heap.size) .u16 fun x8 =>
 callR Tryz.prog 258 #[(.int .u16 x8)] w2 fun v9 w3 =>
 ∃ x10 : Bool, v9 = (.bool x10) ∧
 ifB x10
 (R (.int .i64 (7 : Int)) w3)
 (R (.int .i64 (0 : Int)) w3))))))))))
theorem layout_kind_calls (p0 : (Int × Int × Int × Sl × Unit)) (R : Value → World → Prop) (w : World) (h : L_layout_kind p0 R w) : Calls Tryz.prog 227 #[(.agg #[(.int .u16 p0.1), (.int .u32 p0.2.1), (.int .u32 p0.2.2.1), (.slice p0.2.2.2.1.a p0.2.2.2.1.l p0.2.2.2.1.c)])] w (Ret R) :=
 lw_calls (fs := Tryz.fs) (an := a_layout_kind) (args := [(.agg #[(.int .u16 p0.1), (.int .u32 p0.2.1), (.int .u32 p0.2.2.1), (.slice p0.2.2.2.1.a p0.2.2.2.1.l p0.2.2.2.1.c)])]) Tryz.fsOK Tryz.mixed Tryz.func227 (by kernel_rfl) (by kernel_rfl)
 (Eq.mpr (by kernel_rfl : lwFn Tryz.prog Tryz.fs Tryz.f227 a_layout_kind [(.agg #[(.int .u16 p0.1), (.int .u32 p0.2.1), (.int .u32 p0.2.2.1), (.slice p0.2.2.2.1.a p0.2.2.2.1.l p0.2.2.2.1.c)])] w R = L_layout_kind p0 R w) h)

/-- intaglio.layout.may -/
def a_layout_may : Ann := (.seq none .nil (.seq none (.seq none .nil (.one (.seq none .nil (.cond (.seq none .nil .nil) (.seq none .nil (.cond (.seq none .nil .nil) (.seq none .nil (.cond (.seq none .nil .nil) .nil)))))))) (.seq none .nil .nil)))
def L_layout_may (p0 : Int) (p1 : Int) (R : Value → World → Prop) (w : World) : Prop :=
 ifB (p1 == (251 : Int))
 (R (.bool (p0 == (247 : Int))) w)
 (ifB (p1 == (249 : Int))
 (R (.bool (p0 == (246 : Int))) w)
 (ifB (p1 == (250 : Int))
 (R (.bool true) w)
 (R (.bool false) w)))
theorem layout_may_calls (p0 : Int) (p1 : Int) (R : Value → World → Prop) (w : World) (h : L_layout_may p0 p1 R w) : Calls Tryz.prog 228 #[(.int .u16 p0), (.int .u16 p1)] w (Ret R) :=
 lw_calls (fs := Tryz.fs) (an := a_layout_may) (args := [(.int .u16 p0), (.int .u16 p1)]) Tryz.fsOK Tryz.mixed Tryz.func228 (by kernel_rfl) (by kernel_rfl)
 (Eq.mpr (by kernel_rfl : lwFn Tryz.prog Tryz.fs Tryz.f228 a_layout_may [(.int .u16 p0), (.int .u16 p1)] w R = L_layout_may p0 p1 R w) h)

/-- intaglio.layout.variable -/
def a_layout_variable : Ann := (.seq none .nil (.seq none .nil .nil))
def L_layout_variable (p0 : (Int × Int × Int × Sl × Unit)) (R : Value → World → Prop) (w : World) : Prop :=
 Nw (w.alloc (.cells #[(.int .u16 p0.1), (.int .u32 p0.2.1), (.int .u32 p0.2.2.1), (.slice p0.2.2.2.1.a p0.2.2.2.1.l p0.2.2.2.1.c)] 41)) fun w1 =>
 ldI w1 (blk w.heap.size) .u16 fun x1 =>
 ifB (x1 == (59 : Int))
 (ldS w1 ((blk w.heap.size).add 3) fun x2 =>
 ifB (decide ((x2.l : Int) > (0 : Int)))
 (ldS w1 ((blk w.heap.size).add 3) fun x3 =>
 (0 ≤ (0 : Int) ∧ (0 : Int) < (x3.l : Int)) ∧
 derefP x3.a fun a4 =>
 ldI w1 ((a4.add (0 * 3)).add 1) .u32 fun x5 =>
 R (.bool (x5 == (7 : Int))) w1)
 (R (.bool false) w1))
 (R (.bool false) w1)
theorem layout_variable_calls (p0 : (Int × Int × Int × Sl × Unit)) (R : Value → World → Prop) (w : World) (h : L_layout_variable p0 R w) : Calls Tryz.prog 257 #[(.agg #[(.int .u16 p0.1), (.int .u32 p0.2.1), (.int .u32 p0.2.2.1), (.slice p0.2.2.2.1.a p0.2.2.2.1.l p0.2.2.2.1.c)])] w (Ret R) :=
 lw_calls (fs := Tryz.fs) (an := a_layout_variable) (args := [(.agg #[(.int .u16 p0.1), (.int .u32 p0.2.1), (.int .u32 p0.2.2.1), (.slice p0.2.2.2.1.a p0.2.2.2.1.l p0.2.2.2.1.c)])]) Tryz.fsOK Tryz.mixed Tryz.func257 (by kernel_rfl) (by kernel_rfl)
 (Eq.mpr (by kernel_rfl : lwFn Tryz.prog Tryz.fs Tryz.f257 a_layout_variable [(.agg #[(.int .u16 p0.1), (.int .u32 p0.2.1), (.int .u32 p0.2.2.1), (.slice p0.2.2.2.1.a p0.2.2.2.1.l p0.2.2.2.1.c)])] w R = L_layout_variable p0 R w) h)

/-- intaglio.layout.Ends -/
def a_layout_Ends : Ann := (.seq none .nil (.seq none .nil .nil))
def L_layout_Ends (p0 : Int) (R : Value → World → Prop) (w : World) : Prop :=
 ifB (decide (p0 ≥ (249 : Int)))
 (R (.bool (decide (p0 ≤ (255 : Int)))) w)
 (R (.bool false) w)
theorem layout_Ends_calls (p0 : Int) (R : Value → World → Prop) (w : World) (h : L_layout_Ends p0 R w) : Calls Tryz.prog 258 #[(.int .u16 p0)] w (Ret R) :=
 lw_calls (fs := Tryz.fs) (an := a_layout_Ends) (args := [(.int .u16 p0)]) Tryz.fsOK Tryz.mixed Tryz.func258 (by kernel_rfl) (by kernel_rfl)
 (Eq.mpr (by kernel_rfl : lwFn Tryz.prog Tryz.fs Tryz.f258 a_layout_Ends [(.int .u16 p0)] w R = L_layout_Ends p0 R w) h)

end Go.Proofs
namespace Go.Proofs
open Go.Gk
set_option linter.unusedVariables false
set_option maxRecDepth 100000

/-- intaglio.intaglioref03.Of -/
def a_intaglioref03_Of : Ann := (.seq none .nil (.seq none (.seq none .nil (.one (.seq none .nil (.cond (.seq none .nil .nil) (.seq none .nil (.cond (.seq none .nil .nil) (.seq none .nil (.cond (.seq none .nil .nil) (.seq none .nil (.cond (.seq none .nil .nil) (.seq none .nil (.cond (.seq none .nil .nil) (.seq none .nil (.cond (.seq none .nil .nil) (.seq none .nil (.cond (.seq none .nil .nil) (.seq none .nil (.cond (.seq none .nil .nil) (.seq none .nil (.cond (.seq none .nil .nil) (.seq none .nil (.cond (.seq none .nil .nil) (.seq none .nil (.cond (.seq none .nil .nil) (.seq none .nil (.cond (.seq none .nil .nil) (.seq none .nil (.cond (.seq none .nil .nil) (.seq none .nil (.cond (.seq none .nil .nil) (.seq none .nil (.cond (.seq none .nil .nil) (.seq none .nil (.cond (.seq none .nil .nil) (.seq none .nil (.cond (.seq none .nil .nil) (.seq none .nil (.cond (.seq none .nil .nil) (.seq none .nil (.cond (.seq none .nil .nil) (.seq none .nil (.cond (.seq none .nil .nil) (.seq none .nil (.cond (.seq none .nil .nil) (.seq none .nil (.cond (.seq none .nil .nil) (.seq none .nil (.cond (.seq none .nil .nil) (.seq none .nil (.cond (.seq none .nil .nil) (.seq none .nil (.cond (.seq none .nil .nil) (.seq none .nil (.cond (.seq none .nil .nil) (.seq none .nil (.cond (.seq none .nil .nil) (.seq none .nil (.cond (.seq none .nil .nil) (.seq none .nil (.cond (.seq none .nil .nil) (.seq none .nil (.cond (.seq none .nil .nil) (.seq none .nil (.cond (.seq none .nil .nil) (.seq none .nil (.cond (.seq none .nil .nil) (.seq none .nil (.cond (.seq none .nil .nil) (.seq none .nil (.cond (.seq none .nil .nil) (.seq none .nil (.cond (.seq none .nil .nil) (.seq none .nil (.cond (.seq none .nil .nil) (.seq none .nil (.cond (.seq none .nil .nil) (.seq none .nil (.cond (.seq none .nil .nil) (.seq none .nil (.cond (.seq none .nil .nil) (.seq none .nil (.cond (.seq none .nil .nil) (.seq none .nil (.cond (.seq none .nil .nil) (.seq none .nil (.cond (.seq none .nil .nil) (.seq none .nil (.cond (.seq none .nil .nil) (.seq none .nil (.cond (.seq none .nil .nil) (.seq none .nil (.cond (.seq none .nil .nil) (.seq none .nil (.cond (.seq none .nil .nil) (.seq none .nil (.cond (.seq none .nil .nil) (.seq none .nil (.cond (.seq none .nil .nil) (.seq none .nil (.cond (.seq none .nil .nil) (.seq none .nil (.cond (.seq none .nil .nil) (.seq none .nil (.cond (.seq none .nil .nil) (.seq none .nil (.cond (.seq none .nil .nil) (.seq none .nil (.cond (.seq none .nil .nil) (.seq none .nil (.cond (.seq none .nil .nil) (.seq none .nil (.cond (.seq none .nil .nil) (.seq none .nil (.cond (.seq none .nil .nil) (.seq none .nil (.cond (.seq none .nil .nil) (.seq none .nil (.cond (.seq none .nil .nil) (.seq none .nil (.cond (.seq none .nil .nil) (.seq none .nil (.cond (.seq none .nil .nil) (.seq none .nil (.cond (.seq none .nil .nil) (.seq none .nil (.cond (.seq none .nil .nil) (.seq none .nil (.cond (.seq none .nil .nil) (.seq none .nil (.cond (.seq none .nil .nil) (.seq none .nil (.cond (.seq none .nil .nil) (.seq none .nil (.cond (.seq none .nil .nil) (.seq none .nil (.cond (.seq none .nil .nil) (.seq none .nil (.cond (.seq none .nil .nil) (.seq none .nil (.cond (.seq none .nil .nil) (.seq none .nil (.cond (.seq none .nil .nil) (.seq none .nil (.cond (.seq none .nil .nil) (.seq none .nil (.cond (.seq none .nil .nil) (.seq none .nil (.cond (.seq none .nil .nil) (.seq none .nil (.cond (.seq none .nil .nil) (.seq none .nil (.cond (.seq none .nil .nil) (.seq none .nil (.cond (.seq none .nil .nil) (.seq none .nil (.cond (.seq none .nil .nil) (.seq none .nil (.cond (.seq none .nil .nil) (.seq none .nil (.cond (.seq none .nil .nil) (.seq none .nil (.cond (.seq none .nil .nil) (.seq none .nil (.cond (.seq none .nil .nil) (.seq none .nil (.cond (.seq none .nil .nil) (.seq none .nil (.cond (.seq none .nil .nil) (.seq none .nil (.cond (.seq none .nil .nil) (.seq none .nil (.cond (.seq none .nil .nil) (.seq none .nil (.cond (.seq none .nil .nil) (.seq none .nil (.cond (.seq none .nil .nil) (.seq none .nil (.cond (.seq none .nil .nil) (.seq none .nil (.cond (.seq none .nil .nil) (.seq none .nil (.cond (.seq none .nil .nil) (.seq none .nil (.cond (.seq none .nil .nil) (.seq none .nil (.cond (.seq none .nil .nil) (.seq none .nil (.cond (.seq none .nil .nil) .nil)))))))))))))))))))))))))))))))))))))))))))))))))))))))))))))))))))))))))))))))))))))))))))))))))))))))))))))))))))))))))))))))))))))))))))))))))))))))))))))))))))))))))))))))))))))))))))) (.seq none .nil .nil)))
abbrev K_intaglioref03_Of_0 (p0 : Int) (R : Value → World → Prop) (w : World) (v_0 : Value) (w_1 : World) : Prop :=
 ∃ x_2 : (Int × ByteArray × Bool × Bool × ByteArray × ByteArray × Int × Int × Unit), v_0 = (.agg #[(.int .u16 x_2.1), (.string x_2.2.1), (.bool x_2.2.2.1), (.bool x_2.2.2.2.1), (.string x_2.2.2.2.2.1), (.string x_2.2.2.2.2.2.1), (.int .i64 x_2.2.2.2.2.2.2.1), (.int .u8 x_2.2.2.2.2.2.2.2.1)]) ∧
 Wr w_1 (blk w.heap.size) ∧
 Nw (w_1.setCell (blk w.heap.size) (.int .u16 x_2.1)) fun w_3 =>
 Wr w_3 ((blk w.heap.size).add 1) ∧
 Nw (w_3.setCell ((blk w.heap.size).add 1) (.string x_2.2.1)) fun w_4 =>
 Wr w_4 ((blk w.heap.size).add 2) ∧
 Nw (w_4.setCell ((blk w.heap.size).add 2) (.bool x_2.2.2.1)) fun w_5 =>
 Wr w_5 ((blk w.heap.size).add 3) ∧
 Nw (w_5.setCell ((blk w.heap.size).add 3) (.bool x_2.2.2.2.1)) fun w_6 =>
 Wr w_6 ((blk w.heap.size).add 4) ∧
 Nw (w_6.setCell ((blk w.heap.size).add 4) (.string x_2.2.2.2.2.1)) fun w_7 =>
 Wr w_7 ((blk w.heap.size).add 5) ∧
 Nw (w_7.setCell ((blk w.heap.size).add 5) (.string x_2.2.2.2.2.2.1)) fun w_8 =>
 Wr w_8 ((blk w.heap.size).add 6) ∧
 Nw (w_8.setCell ((blk w.heap.size).add 6) (.int .i64 x_2.2.2.2.2.2.2.1)) fun w_9 =>
 Wr w_9 ((blk w.heap.size).add 7) ∧
 Nw (w_9.setCell ((blk w.heap.size).add 7) (.int .u8 x_2.2.2.2.2.2.2.2.1)) fun w_10 =>
 ldI w_10 ((blk w.heap.size).add 0) .u16 fun x_11 =>
 ldStr w_10 ((blk w.heap.size).add 1) fun x_12 =>
 ldB w_10 ((blk w.heap.size).add 2) fun x_13 =>
 ldB w_10 ((blk w.heap.size).add 3) fun x_14 =>
 ldStr w_10 ((blk w.heap.size).add 4) fun x_15 =>
 ldStr w_10 ((blk w.heap.size).add 5) fun x_16 =>
 ldI w_10 ((blk w.heap.size).add 6) .i64 fun x_17 =>
 ldI w_10 ((blk w.heap.size).add 7) .u8 fun x_18 =>
 R (.tuple #[(.agg #[(.int .u16 x_11), (.string x_12), (.bool x_13), (.bool x_14), (.string x_15), (.string x_16), (.int .i64 x_17), (.int .u8 x_18)]), (.bool true)]) w_10
def L_intaglioref03_Of (p0 : Int) (R : Value → World → Prop) (w : World) : Prop :=
 Nw (w.alloc (.cells #[(.int .u16 (0 : Int)), (.string (ByteArray.mk #[])), (.bool false), (.bool false), (.string (ByteArray.mk #[])), (.string (ByteArray.mk #[])), (.int .i64 (0 : Int)), (.int .u8 (0 : Int))] 178)) fun w1 =>
 ifB (p0 == (1 : Int))
 (callR Tryz.prog 165 #[(.int .u16 p0), (.string (ByteArray.mk #[79, 112, 85, 110, 100, 101, 102])), (.bool true), (.bool true), (.string (ByteArray.mk #[])), (.string (ByteArray.mk #[])), (.int .i64 (0 : Int)), (.int .u8 (7 : Int))] w1 fun v w_ => K_intaglioref03_Of_0 p0 R w v w_)
 (ifB (p0 == (3 : Int))
 (callR Tryz.prog 165 #[(.int .u16 p0), (.string (ByteArray.mk #[79, 112, 83, 111, 117, 114, 99, 101])), (.bool false), (.bool false), (.string (ByteArray.mk #[108, 110])), (.string (ByteArray.mk #[])), (.int .i64 (0 : Int)), (.int .u8 (4 : Int))] w1 fun v w_ => K_intaglioref03_Of_0 p0 R w v w_)
 (ifB (p0 == (5 : Int))
 (callR Tryz.prog 165 #[(.int .u16 p0), (.string (ByteArray.mk #[79, 112, 78, 97, 109, 101])), (.bool false), (.bool false), (.string (ByteArray.mk #[105, 115])), (.string (ByteArray.mk #[])), (.int .i64 (0 : Int)), (.int .u8 (5 : Int))] w1 fun v w_ => K_intaglioref03_Of_0 p0 R w v w_)
 (ifB (p0 == (6 : Int))
 (callR Tryz.prog 165 #[(.int .u16 p0), (.string (ByteArray.mk #[79, 112, 77, 101, 109, 98, 101, 114, 78, 97, 109, 101])), (.bool false), (.bool false), (.string (ByteArray.mk #[105, 110, 115])), (.string (ByteArray.mk #[])), (.int .i64 (0 : Int)), (.int .u8 (5 : Int))] w1 fun v w_ => K_intaglioref03_Of_0 p0 R w v w_)
 (ifB (p0 == (7 : Int))
 (callR Tryz.prog 165 #[(.int .u16 p0), (.string (ByteArray.mk #[79, 112, 83, 116, 114, 105, 110, 103])), (.bool false), (.bool true), (.string (ByteArray.mk #[115])), (.string (ByteArray.mk #[])), (.int .i64 (0 : Int)), (.int .u8 (4 : Int))] w1 fun v w_ => K_intaglioref03_Of_0 p0 R w v w_)
 (ifB (p0 == (14 : Int))
 (callR Tryz.prog 165 #[(.int .u16 p0), (.string (ByteArray.mk #[79, 112, 77, 101, 109, 111, 114, 121, 77, 111, 100, 101, 108])), (.bool false), (.bool false), (.string (ByteArray.mk #[97, 109])), (.string (ByteArray.mk #[])), (.int .i64 (0 : Int)), (.int .u8 (1 : Int))] w1 fun v w_ => K_intaglioref03_Of_0 p0 R w v w_)
 (ifB (p0 == (15 : Int))
 (callR Tryz.prog 165 #[(.int .u16 p0), (.string (ByteArray.mk #[79, 112, 69, 110, 116, 114, 121, 80, 111, 105, 110, 116])), (.bool false), (.bool false), (.string (ByteArray.mk #[101, 105, 115])), (.string (ByteArray.mk #[105])), (.int .i64 (0 : Int)), (.int .u8 (2 : Int))] w1 fun v w_ => K_intaglioref03_Of_0 p0 R w v w_)
 (ifB (p0 == (16 : Int))
 (callR Tryz.prog 165 #[(.int .u16 p0), (.string (ByteArray.mk #[79, 112, 69, 120, 101, 99, 117, 116, 105, 111, 110, 77, 111, 100, 101])), (.bool false), (.bool false), (.string (ByteArray.mk #[105, 120])), (.string (ByteArray.mk #[])), (.int .i64 (0 : Int)), (.int .u8 (3 : Int))] w1 fun v w_ => K_intaglioref03_Of_0 p0 R w v w_)
 (ifB (p0 == (17 : Int))
 (callR Tryz.prog 165 #[(.int .u16 p0), (.string (ByteArray.mk #[79, 112, 67, 97, 112, 97, 98, 105, 108, 105, 116, 121])), (.bool false), (.bool false), (.string (ByteArray.mk #[107])), (.string (ByteArray.mk #[])), (.int .i64 (0 : Int)), (.int .u8 (0 : Int))] w1 fun v w_ => K_intaglioref03_Of_0 p0 R w v w_)
 (ifB (p0 == (19 : Int))
 (callR Tryz.prog 165 #[(.int .u16 p0), (.string (ByteArray.mk #[79, 112, 84, 121, 112, 101, 86, 111, 105, 100])), (.bool false), (.bool true), (.string (ByteArray.mk #[])), (.string (ByteArray.mk #[])), (.int .i64 (0 : Int)), (.int .u8 (7 : Int))] w1 fun v w_ => K_intaglioref03_Of_0 p0 R w v w_)
 (ifB (p0 == (20 : Int))
 (callR Tryz.prog 165 #[(.int .u16 p0), (.string (ByteArray.mk #[79, 112, 84, 121, 112, 101, 66, 111, 111, 108])), (.bool false), (.bool true), (.string (ByteArray.mk #[])), (.string (ByteArray.mk #[])), (.int .i64 (0 : Int)), (.int .u8 (7 : Int))] w1 fun v w_ => K_intaglioref03_Of_0 p0 R w v w_)
 (ifB (p0 == (21 : Int))
 (callR Tryz.prog 165 #[(.int .u16 p0), (.string (ByteArray.mk #[79, 112, 84, 121, 112, 101, 73, 110, 116])), (.bool false), (.bool true), (.string (ByteArray.mk #[110, 110])), (.string (ByteArray.mk #[])), (.int .i64 (0 : Int)), (.int .u8 (7 : Int))] w1 fun v w_ => K_intaglioref03_Of_0 p0 R w v w_)
 (ifB (p0 == (23 : Int))
 (callR Tryz.prog 165 #[(.int .u16 p0), (.string (ByteArray.mk #[79, 112, 84, 121, 112, 101, 86, 101, 99, 116, 111, 114])), (.bool false), (.bool true), (.string (ByteArray.mk #[105, 110])), (.string (ByteArray.mk #[])), (.int .i64 (0 : Int)), (.int .u8 (7 : Int))] w1 fun v w_ => K_intaglioref03_Of_0 p0 R w v w_)
 (ifB (p0 == (28 : Int))
 (callR Tryz.prog 165 #[(.int .u16 p0), (.string (ByteArray.mk #[79, 112, 84, 121, 112, 101, 65, 114, 114, 97, 121])), (.bool false), (.bool true), (.string (ByteArray.mk #[105, 105])), (.string (ByteArray.mk #[])), (.int .i64 (0 : Int)), (.int .u8 (7 : Int))] w1 fun v w_ => K_intaglioref03_Of_0 p0 R w v w_)
 (ifB (p0 == (30 : Int))
 (callR Tryz.prog 165 #[(.int .u16 p0), (.string (ByteArray.mk #[79, 112, 84, 121, 112, 101, 83, 116, 114, 117, 99, 116])), (.bool false), (.bool true), (.string (ByteArray.mk #[])), (.string (ByteArray.mk #[105])), (.int .i64 (0 : Int)), (.int .u8 (7 : Int))] w1 fun v w_ => K_intaglioref03_Of_0 p0 R w v w_)
 (ifB (p0 == (32 : Int))
 (callR Tryz.prog 165 #[(.int .u16 p0), (.string (ByteArray.mk #[79, 112, 84, 121, 112, 101, 80, 111, 105, 110, 116, 101, 114])), (.bool false), (.bool true), (.string (ByteArray.mk #[99, 105])), (.string (ByteArray.mk #[])), (.int .i64 (0 : Int)), (.int .u8 (7 : Int))] w1 fun v w_ => K_intaglioref03_Of_0 p0 R w v w_)
 (ifB (p0 == (33 : Int))
 (callR Tryz.prog 165 #[(.int .u16 p0), (.string (ByteArray.mk #[79, 112, 84, 121, 112, 101, 70, 117, 110, 99, 116, 105, 111, 110])), (.bool false), (.bool true), (.string (ByteArray.mk #[105])), (.string (ByteArray.mk #[105])), (.int .i64 (0 : Int)), (.int .u8 (7 : Int))] w1 fun v w_ => K_intaglioref03_Of_0 p0 R w v w_)
 (ifB (p0 == (41 : Int))
 (callR Tryz.prog 165 #[(.int .u16 p0), (.string (ByteArray.mk #[79, 112, 67, 111, 110, 115, 116, 97, 110, 116, 84, 114, 117, 101])), (.bool true), (.bool true), (.string (ByteArray.mk #[])), (.string (ByteArray.mk #[])), (.int .i64 (0 : Int)), (.int .u8 (7 : Int))] w1 fun v w_ => K_intaglioref03_Of_0 p0 R w v w_)
 (ifB (p0 == (42 : Int))
 (callR Tryz.prog 165 #[(.int .u16 p0), (.string (ByteArray.mk #[79, 112, 67, 111, 110, 115, 116, 97, 110, 116, 70, 97, 108, 115, 101])), (.bool true), (.bool true), (.string (ByteArray.mk #[])), (.string (ByteArray.mk #[])), (.int .i64 (0 : Int)), (.int .u8 (7 : Int))] w1 fun v w_ => K_intaglioref03_Of_0 p0 R w v w_)
 (ifB (p0 == (43 : Int))
 (callR Tryz.prog 165 #[(.int .u16 p0), (.string (ByteArray.mk #[79, 112, 67, 111, 110, 115, 116, 97, 110, 116])), (.bool true), (.bool true), (.string (ByteArray.mk #[110])), (.string (ByteArray.mk #[])), (.int .i64 (0 : Int)), (.int .u8 (7 : Int))] w1 fun v w_ => K_intaglioref03_Of_0 p0 R w v w_)
 (ifB (p0 == (44 : Int))
 (callR Tryz.prog 165 #[(.int .u16 p0), (.string (ByteArray.mk #[79, 112, 67, 111, 110, 115, 116, 97, 110, 116, 67, 111, 109, 112, 111, 115, 105, 116, 101])), (.bool true), (.bool true), (.string (ByteArray.mk #[])), (.string (ByteArray.mk #[105])), (.int .i64 (0 : Int)), (.int .u8 (7 : Int))] w1 fun v w_ => K_intaglioref03_Of_0 p0 R w v w_)
 (ifB (p0 == (46 : Int))
 (callR Tryz.prog 165 #[(.int .u16 p0), (.string (ByteArray.mk #[79, 112, 67, 111, 110, 115, 116, 97, 110, 116, 78, 117, 108, 108])), (.bool true), (.bool true), (.string (ByteArray.mk #[])), (.string (ByteArray.mk #[])), (.int .i64 (0 : Int)), (.int .u8 (7 : Int))] w1 fun v w_ => K_intaglioref03_Of_0 p0 R w v w_)
 (ifB (p0 == (54 : Int))
 (callR Tryz.prog 165 #[(.int .u16 p0), (.string (ByteArray.mk #[79, 112, 70, 117, 110, 99, 116, 105, 111, 110])), (.bool true), (.bool true), (.string (ByteArray.mk #[102, 105])), (.string (ByteArray.mk #[])), (.int .i64 (0 : Int)), (.int .u8 (8 : Int))] w1 fun v w_ => K_intaglioref03_Of_0 p0 R w v w_)
 (ifB (p0 == (55 : Int))
 (callR Tryz.prog 165 #[(.int .u16 p0), (.string (ByteArray.mk #[79, 112, 70, 117, 110, 99, 116, 105, 111, 110, 80, 97, 114, 97, 109, 101, 116, 101, 114])), (.bool true), (.bool true), (.string (ByteArray.mk #[])), (.string (ByteArray.mk #[])), (.int .i64 (0 : Int)), (.int .u8 (8 : Int))] w1 fun v w_ => K_intaglioref03_Of_0 p0 R w v w_)
 (ifB (p0 == (56 : Int))
 (callR Tryz.prog 165 #[(.int .u16 p0), (.string (ByteArray.mk #[79, 112, 70, 117, 110, 99, 116, 105, 111, 110, 69, 110, 100])), (.bool false), (.bool false), (.string (ByteArray.mk #[])), (.string (ByteArray.mk #[])), (.int .i64 (0 : Int)), (.int .u8 (8 : Int))] w1 fun v w_ => K_intaglioref03_Of_0 p0 R w v w_)
 (ifB (p0 == (57 : Int))
 (callR Tryz.prog 165 #[(.int .u16 p0), (.string (ByteArray.mk #[79, 112, 70, 117, 110, 99, 116, 105, 111, 110, 67, 97, 108, 108])), (.bool true), (.bool true), (.string (ByteArray.mk #[105])), (.string (ByteArray.mk #[105])), (.int .i64 (0 : Int)), (.int .u8 (8 : Int))] w1 fun v w_ => K_intaglioref03_Of_0 p0 R w v w_)
 (ifB (p0 == (59 : Int))
 (callR Tryz.prog 165 #[(.int .u16 p0), (.string (ByteArray.mk #[79, 112, 86, 97, 114, 105, 97, 98, 108, 101])), (.bool true), (.bool true), (.string (ByteArray.mk #[99])), (.string (ByteArray.mk #[105])), (.int .i64 (1 : Int)), (.int .u8 (7 : Int))] w1 fun v w_ => K_intaglioref03_Of_0 p0 R w v w_)
 (ifB (p0 == (61 : Int))
 (callR Tryz.prog 165 #[(.int .u16 p0), (.string (ByteArray.mk #[79, 112, 76, 111, 97, 100])), (.bool true), (.bool true), (.string (ByteArray.mk #[105])), (.string (ByteArray.mk #[])), (.int .i64 (0 : Int)), (.int .u8 (8 : Int))] w1 fun v w_ => K_intaglioref03_Of_0 p0 R w v w_)
 (ifB (p0 == (62 : Int))
 (callR Tryz.prog 165 #[(.int .u16 p0), (.string (ByteArray.mk #[79, 112, 83, 116, 111, 114, 101])), (.bool false), (.bool false), (.string (ByteArray.mk #[105, 105])), (.string (ByteArray.mk #[])), (.int .i64 (0 : Int)), (.int .u8 (8 : Int))] w1 fun v w_ => K_intaglioref03_Of_0 p0 R w v w_)
 (ifB (p0 == (65 : Int))
 (callR Tryz.prog 165 #[(.int .u16 p0), (.string (ByteArray.mk #[79, 112, 65, 99, 99, 101, 115, 115, 67, 104, 97, 105, 110])), (.bool true), (.bool true), (.string (ByteArray.mk #[105])), (.string (ByteArray.mk #[105])), (.int .i64 (0 : Int)), (.int .u8 (8 : Int))] w1 fun v w_ => K_intaglioref03_Of_0 p0 R w v w_)
 (ifB (p0 == (71 : Int))
 (callR Tryz.prog 165 #[(.int .u16 p0), (.string (ByteArray.mk #[79, 112, 68, 101, 99, 111, 114, 97, 116, 101])), (.bool false), (.bool false), (.string (ByteArray.mk #[105, 100])), (.string (ByteArray.mk #[110])), (.int .i64 (0 : Int)), (.int .u8 (6 : Int))] w1 fun v w_ => K_intaglioref03_Of_0 p0 R w v w_)
 (ifB (p0 == (77 : Int))
 (callR Tryz.prog 165 #[(.int .u16 p0), (.string (ByteArray.mk #[79, 112, 86, 101, 99, 116, 111, 114, 69, 120, 116, 114, 97, 99, 116, 68, 121, 110, 97, 109, 105, 99])), (.bool true), (.bool true), (.string (ByteArray.mk #[105, 105])), (.string (ByteArray.mk #[])), (.int .i64 (0 : Int)), (.int .u8 (8 : Int))] w1 fun v w_ => K_intaglioref03_Of_0 p0 R w v w_)
 (ifB (p0 == (78 : Int))
 (callR Tryz.prog 165 #[(.int .u16 p0), (.string (ByteArray.mk #[79, 112, 86, 101, 99, 116, 111, 114, 73, 110, 115, 101, 114, 116, 68, 121, 110, 97, 109, 105, 99])), (.bool true), (.bool true), (.string (ByteArray.mk #[105, 105, 105])), (.string (ByteArray.mk #[])), (.int .i64 (0 : Int)), (.int .u8 (8 : Int))] w1 fun v w_ => K_intaglioref03_Of_0 p0 R w v w_)
 (ifB (p0 == (79 : Int))
 (callR Tryz.prog 165 #[(.int .u16 p0), (.string (ByteArray.mk #[79, 112, 86, 101, 99, 116, 111, 114, 83, 104, 117, 102, 102, 108, 101])), (.bool true), (.bool true), (.string (ByteArray.mk #[105, 105])), (.string (ByteArray.mk #[110])), (.int .i64 (0 : Int)), (.int .u8 (8 : Int))] w1 fun v w_ => K_intaglioref03_Of_0 p0 R w v w_)
 (ifB (p0 == (80 : Int))
 (callR Tryz.prog 165 #[(.int .u16 p0), (.string (ByteArray.mk #[79, 112, 67, 111, 109, 112, 111, 115, 105, 116, 101, 67, 111, 110, 115, 116, 114, 117, 99, 116])), (.bool true), (.bool true), (.string (ByteArray.mk #[])), (.string (ByteArray.mk #[105])), (.int .i64 (0 : Int)), (.int .u8 (8 : Int))] w1 fun v w_ => K_intaglioref03_Of_0 p0 R w v w_)
 (ifB (p0 == (81 : Int))
 (callR Tryz.prog 165 #[(.int .u16 p0), (.string (ByteArray.mk #[79, 112, 67, 111, 109, 112, 111, 115, 105, 116, 101, 69, 120, 116, 114, 97, 99, 116])), (.bool true), (.bool true), (.string (ByteArray.mk #[105])), (.string (ByteArray.mk #[110])), (.int .i64 (0 : Int)), (.int .u8 (8 : Int))] w1 fun v w_ => K_intaglioref03_Of_0 p0 R w v w_)
 (ifB (p0 == (82 : Int))
 (callR Tryz.prog 165 #[(.int .u16 p0), (.string (ByteArray.mk #[79, 112, 67, 111, 109, 112, 111, 115, 105, 116, 101, 73, 110, 115, 101, 114, 116])), (.bool true), (.bool true), (.string (ByteArray.mk #[105, 105])), (.string (ByteArray.mk #[110])), (.int .i64 (0 : Int)), (.int .u8 (8 : Int))] w1 fun v w_ => K_intaglioref03_Of_0 p0 R w v w_)
 (ifB (p0 == (83 : Int))
 (callR Tryz.prog 165 #[(.int .u16 p0), (.string (ByteArray.mk #[79, 112, 67, 111, 112, 121, 79, 98, 106, 101, 99, 116])), (.bool true), (.bool true), (.string (ByteArray.mk #[105])), (.string (ByteArray.mk #[])), (.int .i64 (0 : Int)), (.int .u8 (8 : Int))] w1 fun v w_ => K_intaglioref03_Of_0 p0 R w v w_)
 (ifB (p0 == (124 : Int))
 (callR Tryz.prog 165 #[(.int .u16 p0), (.string (ByteArray.mk #[79, 112, 66, 105, 116, 99, 97, 115, 116])), (.bool true), (.bool true), (.string (ByteArray.mk #[105])), (.string (ByteArray.mk #[])), (.int .i64 (0 : Int)), (.int .u8 (8 : Int))] w1 fun v w_ => K_intaglioref03_Of_0 p0 R w v w_)
 (ifB (p0 == (126 : Int))
 (callR Tryz.prog 165 #[(.int .u16 p0), (.string (ByteArray.mk #[79, 112, 83, 78, 101, 103, 97, 116, 101])), (.bool true), (.bool true), (.string (ByteArray.mk #[105])), (.string (ByteArray.mk #[])), (.int .i64 (0 : Int)), (.int .u8 (8 : Int))] w1 fun v w_ => K_intaglioref03_Of_0 p0 R w v w_)
 (ifB (p0 == (128 : Int))
 (callR Tryz.prog 165 #[(.int .u16 p0), (.string (ByteArray.mk #[79, 112, 73, 65, 100, 100])), (.bool true), (.bool true), (.string (ByteArray.mk #[105, 105])), (.string (ByteArray.mk #[])), (.int .i64 (0 : Int)), (.int .u8 (8 : Int))] w1 fun v w_ => K_intaglioref03_Of_0 p0 R w v w_)
 (ifB (p0 == (130 : Int))
 (callR Tryz.prog 165 #[(.int .u16 p0), (.string (ByteArray.mk #[79, 112, 73, 83, 117, 98])), (.bool true), (.bool true), (.string (ByteArray.mk #[105, 105])), (.string (ByteArray.mk #[])), (.int .i64 (0 : Int)), (.int .u8 (8 : Int))] w1 fun v w_ => K_intaglioref03_Of_0 p0 R w v w_)
 (ifB (p0 == (132 : Int))
 (callR Tryz.prog 165 #[(.int .u16 p0), (.string (ByteArray.mk #[79, 112, 73, 77, 117, 108])), (.bool true), (.bool true), (.string (ByteArray.mk #[105, 105])), (.string (ByteArray.mk #[])), (.int .i64 (0 : Int)), (.int .u8 (8 : Int))] w1 fun v w_ => K_intaglioref03_Of_0 p0 R w v w_)
 (ifB (p0 == (134 : Int))
 (callR Tryz.prog 165 #[(.int .u16 p0), (.string (ByteArray.mk #[79, 112, 85, 68, 105, 118])), (.bool true), (.bool true), (.string (ByteArray.mk #[105, 105])), (.string (ByteArray.mk #[])), (.int .i64 (0 : Int)), (.int .u8 (8 : Int))] w1 fun v w_ => K_intaglioref03_Of_0 p0 R w v w_)
 (ifB (p0 == (135 : Int))
 (callR Tryz.prog 165 #[(.int .u16 p0), (.string (ByteArray.mk #[79, 112, 83, 68, 105, 118])), (.bool true), (.bool true), (.string (ByteArray.mk #[105, 105])), (.string (ByteArray.mk #[])), (.int .i64 (0 : Int)), (.int .u8 (8 : Int))] w1 fun v w_ => K_intaglioref03_Of_0 p0 R w v w_)
 (ifB (p0 == (137 : Int))
 (callR Tryz.prog 165 #[(.int .u16 p0), (.string (ByteArray.mk #[79, 112, 85, 77, 111, 100])), (.bool true), (.bool true), (.string (ByteArray.mk #[105, 105])), (.string (ByteArray.mk #[])), (.int .i64 (0 : Int)), (.int .u8 (8 : Int))] w1 fun v w_ => K_intaglioref03_Of_0 p0 R w v w_)
 (ifB (p0 == (138 : Int))
 (callR Tryz.prog 165 #[(.int .u16 p0), (.string (ByteArray.mk #[79, 112, 83, 82, 101, 109])), (.bool true), (.bool true), (.string (ByteArray.mk #[105, 105])), (.string (ByteArray.mk #[])), (.int .i64 (0 : Int)), (.int .u8 (8 : Int))] w1 fun v w_ => K_intaglioref03_Of_0 p0 R w v w_)
 (ifB (p0 == (139 : Int))
 (callR Tryz.prog 165 #[(.int .u16 p0), (.string (ByteArray.mk #[79, 112, 83, 77, 111, 100])), (.bool true), (.bool true), (.string (ByteArray.mk #[105, 105])), (.string (ByteArray.mk #[])), (.int .i64 (0 : Int)), (.int .u8 (8 : Int))] w1 fun v w_ => K_intaglioref03_Of_0 p0 R w v w_)
 (ifB (p0 == (149 : Int))
 (callR Tryz.prog 165 #[(.int .u16 p0), (.string (ByteArray.mk #[79, 112, 73, 65, 100, 100, 67, 97, 114, 114, 121])), (.bool true), (.bool true), (.string (ByteArray.mk #[105, 105])), (.string (ByteArray.mk #[])), (.int .i64 (0 : Int)), (.int .u8 (8 : Int))] w1 fun v w_ => K_intaglioref03_Of_0 p0 R w v w_)
 (ifB (p0 == (150 : Int))
 (callR Tryz.prog 165 #[(.int .u16 p0), (.string (ByteArray.mk #[79, 112, 73, 83, 117, 98, 66, 111, 114, 114, 111, 119])), (.bool true), (.bool true), (.string (ByteArray.mk #[105, 105])), (.string (ByteArray.mk #[])), (.int .i64 (0 : Int)), (.int .u8 (8 : Int))] w1 fun v w_ => K_intaglioref03_Of_0 p0 R w v w_)
 (ifB (p0 == (151 : Int))
 (callR Tryz.prog 165 #[(.int .u16 p0), (.string (ByteArray.mk #[79, 112, 85, 77, 117, 108, 69, 120, 116, 101, 110, 100, 101, 100])), (.bool true), (.bool true), (.string (ByteArray.mk #[105, 105])), (.string (ByteArray.mk #[])), (.int .i64 (0 : Int)), (.int .u8 (8 : Int))] w1 fun v w_ => K_intaglioref03_Of_0 p0 R w v w_)
 (ifB (p0 == (152 : Int))
 (callR Tryz.prog 165 #[(.int .u16 p0), (.string (ByteArray.mk #[79, 112, 83, 77, 117, 108, 69, 120, 116, 101, 110, 100, 101, 100])), (.bool true), (.bool true), (.string (ByteArray.mk #[105, 105])), (.string (ByteArray.mk #[])), (.int .i64 (0 : Int)), (.int .u8 (8 : Int))] w1 fun v w_ => K_intaglioref03_Of_0 p0 R w v w_)
 (ifB (p0 == (154 : Int))
 (callR Tryz.prog 165 #[(.int .u16 p0), (.string (ByteArray.mk #[79, 112, 65, 110, 121])), (.bool true), (.bool true), (.string (ByteArray.mk #[105])), (.string (ByteArray.mk #[])), (.int .i64 (0 : Int)), (.int .u8 (8 : Int))] w1 fun v w_ => K_intaglioref03_Of_0 p0 R w v w_)
 (ifB (p0 == (155 : Int))
 (callR Tryz.prog 165 #[(.int .u16 p0), (.string (ByteArray.mk #[79, 112, 65, 108, 108])), (.bool true), (.bool true), (.string (ByteArray.mk #[105])), (.string (ByteArray.mk #[])), (.int .i64 (0 : Int)), (.int .u8 (8 : Int))] w1 fun v w_ => K_intaglioref03_Of_0 p0 R w v w_)
 (ifB (p0 == (164 : Int))
 (callR Tryz.prog 165 #[(.int .u16 p0), (.string (ByteArray.mk #[79, 112, 76, 111, 103, 105, 99, 97, 108, 69, 113, 117, 97, 108])), (.bool true), (.bool true), (.string (ByteArray.mk #[105, 105])), (.string (ByteArray.mk #[])), (.int .i64 (0 : Int)), (.int .u8 (8 : Int))] w1 fun v w_ => K_intaglioref03_Of_0 p0 R w v w_)
 (ifB (p0 == (165 : Int))
 (callR Tryz.prog 165 #[(.int .u16 p0), (.string (ByteArray.mk #[79, 112, 76, 111, 103, 105, 99, 97, 108, 78, 111, 116, 69, 113, 117, 97, 108])), (.bool true), (.bool true), (.string (ByteArray.mk #[105, 105])), (.string (ByteArray.mk #[])), (.int .i64 (0 : Int)), (.int .u8 (8 : Int))] w1 fun v w_ => K_intaglioref03_Of_0 p0 R w v w_)
 (ifB (p0 == (166 : Int))
 (callR Tryz.prog 165 #[(.int .u16 p0), (.string (ByteArray.mk #[79, 112, 76, 111, 103, 105, 99, 97, 108, 79, 114])), (.bool true), (.bool true), (.string (ByteArray.mk #[105, 105])), (.string (ByteArray.mk #[])), (.int .i64 (0 : Int)), (.int .u8 (8 : Int))] w1 fun v w_ => K_intaglioref03_Of_0 p0 R w v w_)
 (ifB (p0 == (167 : Int))
 (callR Tryz.prog 165 #[(.int .u16 p0), (.string (ByteArray.mk #[79, 112, 76, 111, 103, 105, 99, 97, 108, 65, 110, 100])), (.bool true), (.bool true), (.string (ByteArray.mk #[105, 105])), (.string (ByteArray.mk #[])), (.int .i64 (0 : Int)), (.int .u8 (8 : Int))] w1 fun v w_ => K_intaglioref03_Of_0 p0 R w v w_)
 (ifB (p0 == (168 : Int))
 (callR Tryz.prog 165 #[(.int .u16 p0), (.string (ByteArray.mk #[79, 112, 76, 111, 103, 105, 99, 97, 108, 78, 111, 116])), (.bool true), (.bool true), (.string (ByteArray.mk #[105])), (.string (ByteArray.mk #[])), (.int .i64 (0 : Int)), (.int .u8 (8 : Int))] w1 fun v w_ => K_intaglioref03_Of_0 p0 R w v w_)
 (ifB (p0 == (169 : Int))
 (callR Tryz.prog 165 #[(.int .u16 p0), (.string (ByteArray.mk #[79, 112, 83, 101, 108, 101, 99, 116])), (.bool true), (.bool true), (.string (ByteArray.mk #[105, 105, 105])), (.string (ByteArray.mk #[])), (.int .i64 (0 : Int)), (.int .u8 (8 : Int))] w1 fun v w_ => K_intaglioref03_Of_0 p0 R w v w_)
 (ifB (p0 == (170 : Int))
 (callR Tryz.prog 165 #[(.int .u16 p0), (.string (ByteArray.mk #[79, 112, 73, 69, 113, 117, 97, 108])), (.bool true), (.bool true), (.string (ByteArray.mk #[105, 105])), (.string (ByteArray.mk #[])), (.int .i64 (0 : Int)), (.int .u8 (8 : Int))] w1 fun v w_ => K_intaglioref03_Of_0 p0 R w v w_)
 (ifB (p0 == (171 : Int))
 (callR Tryz.prog 165 #[(.int .u16 p0), (.string (ByteArray.mk #[79, 112, 73, 78, 111, 116, 69, 113, 117, 97, 108])), (.bool true), (.bool true), (.string (ByteArray.mk #[105, 105])), (.string (ByteArray.mk #[])), (.int .i64 (0 : Int)), (.int .u8 (8 : Int))] w1 fun v w_ => K_intaglioref03_Of_0 p0 R w v w_)
 (ifB (p0 == (172 : Int))
 (callR Tryz.prog 165 #[(.int .u16 p0), (.string (ByteArray.mk #[79, 112, 85, 71, 114, 101, 97, 116, 101, 114, 84, 104, 97, 110])), (.bool true), (.bool true), (.string (ByteArray.mk #[105, 105])), (.string (ByteArray.mk #[])), (.int .i64 (0 : Int)), (.int .u8 (8 : Int))] w1 fun v w_ => K_intaglioref03_Of_0 p0 R w v w_)
 (ifB (p0 == (173 : Int))
 (callR Tryz.prog 165 #[(.int .u16 p0), (.string (ByteArray.mk #[79, 112, 83, 71, 114, 101, 97, 116, 101, 114, 84, 104, 97, 110])), (.bool true), (.bool true), (.string (ByteArray.mk #[105, 105])), (.string (ByteArray.mk #[])), (.int .i64 (0 : Int)), (.int .u8 (8 : Int))] w1 fun v w_ => K_intaglioref03_Of_0 p0 R w v w_)
 (ifB (p0 == (174 : Int))
 (callR Tryz.prog 165 #[(.int .u16 p0), (.string (ByteArray.mk #[79, 112, 85, 71, 114, 101, 97, 116, 101, 114, 84, 104, 97, 110, 69, 113, 117, 97, 108])), (.bool true), (.bool true), (.string (ByteArray.mk #[105, 105])), (.string (ByteArray.mk #[])), (.int .i64 (0 : Int)), (.int .u8 (8 : Int))] w1 fun v w_ => K_intaglioref03_Of_0 p0 R w v w_)
 (ifB (p0 == (175 : Int))
 (callR Tryz.prog 165 #[(.int .u16 p0), (.string (ByteArray.mk #[79, 112, 83, 71, 114, 101, 97, 116, 101, 114, 84, 104, 97, 110, 69, 113, 117, 97, 108])), (.bool true), (.bool true), (.string (ByteArray.mk #[105, 105])), (.string (ByteArray.mk #[])), (.int .i64 (0 : Int)), (.int .u8 (8 : Int))] w1 fun v w_ => K_intaglioref03_Of_0 p0 R w v w_)
 (ifB (p0 == (176 : Int))
 (callR Tryz.prog 165 #[(.int .u16 p0), (.string (ByteArray.mk #[79, 112, 85, 76, 101, 115, 115, 84, 104, 97, 110])), (.bool true), (.bool true), (.string (ByteArray.mk #[105, 105])), (.string (ByteArray.mk #[])), (.int .i64 (0 : Int)), (.int .u8 (8 : Int))] w1 fun v w_ => K_intaglioref03_Of_0 p0 R w v w_)
 (ifB (p0 == (177 : Int))
 (callR Tryz.prog 165 #[(.int .u16 p0), (.string (ByteArray.mk #[79, 112, 83, 76, 101, 115, 115, 84, 104, 97, 110])), (.bool true), (.bool true), (.string (ByteArray.mk #[105, 105])), (.string (ByteArray.mk #[])), (.int .i64 (0 : Int)), (.int .u8 (8 : Int))] w1 fun v w_ => K_intaglioref03_Of_0 p0 R w v w_)
 (ifB (p0 == (178 : Int))
 (callR Tryz.prog 165 #[(.int .u16 p0), (.string (ByteArray.mk #[79, 112, 85, 76, 101, 115, 115, 84, 104, 97, 110, 69, 113, 117, 97, 108])), (.bool true), (.bool true), (.string (ByteArray.mk #[105, 105])), (.string (ByteArray.mk #[])), (.int .i64 (0 : Int)), (.int .u8 (8 : Int))] w1 fun v w_ => K_intaglioref03_Of_0 p0 R w v w_)
 (ifB (p0 == (179 : Int))
 (callR Tryz.prog 165 #[(.int .u16 p0), (.string (ByteArray.mk #[79, 112, 83, 76, 101, 115, 115, 84, 104, 97, 110, 69, 113, 117, 97, 108])), (.bool true), (.bool true), (.string (ByteArray.mk #[105, 105])), (.string (ByteArray.mk #[])), (.int .i64 (0 : Int)), (.int .u8 (8 : Int))] w1 fun v w_ => K_intaglioref03_Of_0 p0 R w v w_)
 (ifB (p0 == (194 : Int))
 (callR Tryz.prog 165 #[(.int .u16 p0), (.string (ByteArray.mk #[79, 112, 83, 104, 105, 102, 116, 82, 105, 103, 104, 116, 76, 111, 103, 105, 99, 97, 108])), (.bool true), (.bool true), (.string (ByteArray.mk #[105, 105])), (.string (ByteArray.mk #[])), (.int .i64 (0 : Int)), (.int .u8 (8 : Int))] w1 fun v w_ => K_intaglioref03_Of_0 p0 R w v w_)
 (ifB (p0 == (195 : Int))
 (callR Tryz.prog 165 #[(.int .u16 p0), (.string (ByteArray.mk #[79, 112, 83, 104, 105, 102, 116, 82, 105, 103, 104, 116, 65, 114, 105, 116, 104, 109, 101, 116, 105, 99])), (.bool true), (.bool true), (.string (ByteArray.mk #[105, 105])), (.string (ByteArray.mk #[])), (.int .i64 (0 : Int)), (.int .u8 (8 : Int))] w1 fun v w_ => K_intaglioref03_Of_0 p0 R w v w_)
 (ifB (p0 == (196 : Int))
 (callR Tryz.prog 165 #[(.int .u16 p0), (.string (ByteArray.mk #[79, 112, 83, 104, 105, 102, 116, 76, 101, 102, 116, 76, 111, 103, 105, 99, 97, 108])), (.bool true), (.bool true), (.string (ByteArray.mk #[105, 105])), (.string (ByteArray.mk #[])), (.int .i64 (0 : Int)), (.int .u8 (8 : Int))] w1 fun v w_ => K_intaglioref03_Of_0 p0 R w v w_)
 (ifB (p0 == (197 : Int))
 (callR Tryz.prog 165 #[(.int .u16 p0), (.string (ByteArray.mk #[79, 112, 66, 105, 116, 119, 105, 115, 101, 79, 114])), (.bool true), (.bool true), (.string (ByteArray.mk #[105, 105])), (.string (ByteArray.mk #[])), (.int .i64 (0 : Int)), (.int .u8 (8 : Int))] w1 fun v w_ => K_intaglioref03_Of_0 p0 R w v w_)
 (ifB (p0 == (198 : Int))
 (callR Tryz.prog 165 #[(.int .u16 p0), (.string (ByteArray.mk #[79, 112, 66, 105, 116, 119, 105, 115, 101, 88, 111, 114])), (.bool true), (.bool true), (.string (ByteArray.mk #[105, 105])), (.string (ByteArray.mk #[])), (.int .i64 (0 : Int)), (.int .u8 (8 : Int))] w1 fun v w_ => K_intaglioref03_Of_0 p0 R w v w_)
 (ifB (p0 == (199 : Int))
 (callR Tryz.prog 165 #[(.int .u16 p0), (.string (ByteArray.mk #[79, 112, 66, 105, 116, 119, 105, 115, 101, 65, 110, 100])), (.bool true), (.bool true), (.string (ByteArray.mk #[105, 105])), (.string (ByteArray.mk #[])), (.int .i64 (0 : Int)), (.int .u8 (8 : Int))] w1 fun v w_ => K_intaglioref03_Of_0 p0 R w v w_)
 (ifB (p0 == (200 : Int))
 (callR Tryz.prog 165 #[(.int .u16 p0), (.string (ByteArray.mk #[79, 112, 78, 111, 116])), (.bool true), (.bool true), (.string (ByteArray.mk #[105])), (.string (ByteArray.mk #[])), (.int .i64 (0 : Int)), (.int .u8 (8 : Int))] w1 fun v w_ => K_intaglioref03_Of_0 p0 R w v w_)
 (ifB (p0 == (201 : Int))
 (callR Tryz.prog 165 #[(.int .u16 p0), (.string (ByteArray.mk #[79, 112, 66, 105, 116, 70, 105, 101, 108, 100, 73, 110, 115, 101, 114, 116])), (.bool true), (.bool true), (.string (ByteArray.mk #[105, 105, 105, 105])), (.string (ByteArray.mk #[])), (.int .i64 (0 : Int)), (.int .u8 (8 : Int))] w1 fun v w_ => K_intaglioref03_Of_0 p0 R w v w_)
 (ifB (p0 == (202 : Int))
 (callR Tryz.prog 165 #[(.int .u16 p0), (.string (ByteArray.mk #[79, 112, 66, 105, 116, 70, 105, 101, 108, 100, 83, 69, 120, 116, 114, 97, 99, 116])), (.bool true), (.bool true), (.string (ByteArray.mk #[105, 105, 105])), (.string (ByteArray.mk #[])), (.int .i64 (0 : Int)), (.int .u8 (8 : Int))] w1 fun v w_ => K_intaglioref03_Of_0 p0 R w v w_)
 (ifB (p0 == (203 : Int))
 (callR Tryz.prog 165 #[(.int .u16 p0), (.string (ByteArray.mk #[79, 112, 66, 105, 116, 70, 105, 101, 108, 100, 85, 69, 120, 116, 114, 97, 99, 116])), (.bool true), (.bool true), (.string (ByteArray.mk #[105, 105, 105])), (.string (ByteArray.mk #[])), (.int .i64 (0 : Int)), (.int .u8 (8 : Int))] w1 fun v w_ => K_intaglioref03_Of_0 p0 R w v w_)
 (ifB (p0 == (204 : Int))
 (callR Tryz.prog 165 #[(.int .u16 p0), (.string (ByteArray.mk #[79, 112, 66, 105, 116, 82, 101, 118, 101, 114, 115, 101])), (.bool true), (.bool true), (.string (ByteArray.mk #[105])), (.string (ByteArray.mk #[])), (.int .i64 (0 : Int)), (.int .u8 (8 : Int))] w1 fun v w_ => K_intaglioref03_Of_0 p0 R w v w_)
 (ifB (p0 == (205 : Int))
 (callR Tryz.prog 165 #[(.int .u16 p0), (.string (ByteArray.mk #[79, 112, 66, 105, 116, 67, 111, 117, 110, 116])), (.bool true), (.bool true), (.string (ByteArray.mk #[105])), (.string (ByteArray.mk #[])), (.int .i64 (0 : Int)), (.int .u8 (8 : Int))] w1 fun v w_ => K_intaglioref03_Of_0 p0 R w v w_)
 (ifB (p0 == (245 : Int))
 (callR Tryz.prog 165 #[(.int .u16 p0), (.string (ByteArray.mk #[79, 112, 80, 104, 105])), (.bool true), (.bool true), (.string (ByteArray.mk #[])), (.string (ByteArray.mk #[105, 105])), (.int .i64 (0 : Int)), (.int .u8 (8 : Int))] w1 fun v w_ => K_intaglioref03_Of_0 p0 R w v w_)
 (ifB (p0 == (246 : Int))
 (callR Tryz.prog 165 #[(.int .u16 p0), (.string (ByteArray.mk #[79, 112, 76, 111, 111, 112, 77, 101, 114, 103, 101])), (.bool false), (.bool false), (.string (ByteArray.mk #[105, 105, 103])), (.string (ByteArray.mk #[])), (.int .i64 (0 : Int)), (.int .u8 (8 : Int))] w1 fun v w_ => K_intaglioref03_Of_0 p0 R w v w_)
 (ifB (p0 == (247 : Int))
 (callR Tryz.prog 165 #[(.int .u16 p0), (.string (ByteArray.mk #[79, 112, 83, 101, 108, 101, 99, 116, 105, 111, 110, 77, 101, 114, 103, 101])), (.bool false), (.bool false), (.string (ByteArray.mk #[105, 104])), (.string (ByteArray.mk #[])), (.int .i64 (0 : Int)), (.int .u8 (8 : Int))] w1 fun v w_ => K_intaglioref03_Of_0 p0 R w v w_)
 (ifB (p0 == (248 : Int))
 (callR Tryz.prog 165 #[(.int .u16 p0), (.string (ByteArray.mk #[79, 112, 76, 97, 98, 101, 108])), (.bool false), (.bool true), (.string (ByteArray.mk #[])), (.string (ByteArray.mk #[])), (.int .i64 (0 : Int)), (.int .u8 (8 : Int))] w1 fun v w_ => K_intaglioref03_Of_0 p0 R w v w_)
 (ifB (p0 == (249 : Int))
 (callR Tryz.prog 165 #[(.int .u16 p0), (.string (ByteArray.mk #[79, 112, 66, 114, 97, 110, 99, 104])), (.bool false), (.bool false), (.string (ByteArray.mk #[105])), (.string (ByteArray.mk #[])), (.int .i64 (0 : Int)), (.int .u8 (8 : Int))] w1 fun v w_ => K_intaglioref03_Of_0 p0 R w v w_)
 (ifB (p0 == (250 : Int))
 (callR Tryz.prog 165 #[(.int .u16 p0), (.string (ByteArray.mk #[79, 112, 66, 114, 97, 110, 99, 104, 67, 111, 110, 100, 105, 116, 105, 111, 110, 97, 108])), (.bool false), (.bool false), (.string (ByteArray.mk #[105, 105, 105])), (.string (ByteArray.mk #[])), (.int .i64 (0 : Int)), (.int .u8 (8 : Int))] w1 fun v w_ => K_intaglioref03_Of_0 p0 R w v w_)
 (ifB (p0 == (251 : Int))
 (callR Tryz.prog 165 #[(.int .u16 p0), (.string (ByteArray.mk #[79, 112, 83, 119, 105, 116, 99, 104])), (.bool false), (.bool false), (.string (ByteArray.mk #[105, 105])), (.string (ByteArray.mk #[110, 105])), (.int .i64 (0 : Int)), (.int .u8 (8 : Int))] w1 fun v w_ => K_intaglioref03_Of_0 p0 R w v w_)
 (ifB (p0 == (252 : Int))
 (callR Tryz.prog 165 #[(.int .u16 p0), (.string (ByteArray.mk #[79, 112, 75, 105, 108, 108])), (.bool false), (.bool false), (.string (ByteArray.mk #[])), (.string (ByteArray.mk #[])), (.int .i64 (0 : Int)), (.int .u8 (8 : Int))] w1 fun v w_ => K_intaglioref03_Of_0 p0 R w v w_)
 (ifB (p0 == (253 : Int))
 (callR Tryz.prog 165 #[(.int .u16 p0), (.string (ByteArray.mk #[79, 112, 82, 101, 116, 117, 114, 110])), (.bool false), (.bool false), (.string (ByteArray.mk #[])), (.string (ByteArray.mk #[])), (.int .i64 (0 : Int)), (.int .u8 (8 : Int))] w1 fun v w_ => K_intaglioref03_Of_0 p0 R w v w_)
 (ifB (p0 == (254 : Int))
 (callR Tryz.prog 165 #[(.int .u16 p0), (.string (ByteArray.mk #[79, 112, 82, 101, 116, 117, 114, 110, 86, 97, 108, 117, 101])), (.bool false), (.bool false), (.string (ByteArray.mk #[105])), (.string (ByteArray.mk #[])), (.int .i64 (0 : Int)), (.int .u8 (8 : Int))] w1 fun v w_ => K_intaglioref03_Of_0 p0 R w v w_)
 (ifB (p0 == (255 : Int))
 (callR Tryz.prog 165 #[(.int .u16 p0), (.string (ByteArray.mk #[79, 112, 85, 110, 114, 101, 97, 99, 104, 97, 98, 108, 101])), (.bool false), (.bool false), (.string (ByteArray.mk #[])), (.string (ByteArray.mk #[])), (.int .i64 (0 : Int)), (.int .u8 (8 : Int))] w1 fun v w_ => K_intaglioref03_Of_0 p0 R w v w_)
 (Wr w1 (blk w.heap.size) ∧
 Nw (w1.setCell (blk w.heap.size) (.int .u16 (0 : Int))) fun w839 =>
 Wr w839 ((blk w.heap.size).add 1) ∧
 Nw (w839.setCell ((blk w.heap.size).add 1) (.string (ByteArray.mk #[]))) fun w840 =>
 Wr w840 ((blk w.heap.size).add 2) ∧
 Nw (w840.setCell ((blk w.heap.size).add 2) (.bool false)) fun w841 =>
 Wr w841 ((blk w.heap.size).add 3) ∧
 Nw (w841.setCell ((blk w.heap.size).add 3) (.bool false)) fun w842 =>
 Wr w842 ((blk w.heap.size).add 4) ∧
 Nw (w842.setCell ((blk w.heap.size).add 4) (.string (ByteArray.mk #[]))) fun w843 =>
 Wr w843 ((blk w.heap.size).add 5) ∧
 Nw (w843.setCell ((blk w.heap.size).add 5) (.string (ByteArray.mk #[]))) fun w844 =>
 Wr w844 ((blk w.heap.size).add 6) ∧
 Nw (w844.setCell ((blk w.heap.size).add 6) (.int .i64 (0 : Int))) fun w845 =>
 Wr w845 ((blk w.heap.size).add 7) ∧
 Nw (w845.setCell ((blk w.heap.size).add 7) (.int .u8 (0 : Int))) fun w846 =>
 ldI w846 ((blk w.heap.size).add 0) .u16 fun x931 =>
 ldStr w846 ((blk w.heap.size).add 1) fun x932 =>
 ldB w846 ((blk w.heap.size).add 2) fun x933 =>
 ldB w846 ((blk w.heap.size).add 3) fun x934 =>
 ldStr w846 ((blk w.heap.size).add 4) fun x935 =>
 ldStr w846 ((blk w.heap.size).add 5) fun x936 =>
 ldI w846 ((blk w.heap.size).add 6) .i64 fun x937 =>
 ldI w846 ((blk w.heap.size).add 7) .u8 fun x938 =>
 R (.tuple #[(.agg #[(.int .u16 x931), (.string x932), (.bool x933), (.bool x934), (.string x935), (.string x936), (.int .i64 x937), (.int .u8 x938)]), (.bool false)]) w846)))))))))))))))))))))))))))))))))))))))))))))))))))))))))))))))))))))))))))))))))))))))))))))
theorem intaglioref03_Of_calls (p0 : Int) (R : Value → World → Prop) (w : World) (h : L_intaglioref03_Of p0 R w) : Calls Tryz.prog 125 #[(.int .u16 p0)] w (Ret R) :=
 lw_calls (fs := Tryz.fs) (an := a_intaglioref03_Of) (args := [(.int .u16 p0)]) Tryz.fsOK Tryz.mixed Tryz.func125 (by kernel_rfl) (by kernel_rfl)
 (Eq.mpr (by kernel_rfl : lwFn Tryz.prog Tryz.fs Tryz.f125 a_intaglioref03_Of [(.int .u16 p0)] w R = L_intaglioref03_Of p0 R w) h)

/-- intaglio.intaglioref03.Letter -/
def a_intaglioref03_Letter : Ann := (.seq none .nil (.seq none .nil (.seq (some ⟨[1, 5], []⟩) (.seq none .nil (.cond (.seq none .nil .nil) .nil)) (.seq none (.seq none .nil (.cond (.seq none .nil .nil) .nil)) (.seq none (.seq none .nil (.cond (.seq none .nil .nil) .nil)) (.seq none .nil (.seq (some ⟨[5, 7], []⟩) (.seq none .nil (.cond (.seq none .nil .nil) .nil)) (.seq none .nil .nil))))))))
def L_intaglioref03_Letter (p0 : Int) (p1 : Int) (R : Value → World → Prop) (w : World) : Prop :=
 callR Tryz.prog 125 #[(.int .u16 p0)] w fun v1 w1 =>
 ∃ x2 : (Int × ByteArray × Bool × Bool × ByteArray × ByteArray × Int × Int × Unit), ∃ x3 : Bool, v1 = (.tuple #[(.agg #[(.int .u16 x2.1), (.string x2.2.1), (.bool x2.2.2.1), (.bool x2.2.2.2.1), (.string x2.2.2.2.2.1), (.string x2.2.2.2.2.2.1), (.int .i64 x2.2.2.2.2.2.2.1), (.int .u8 x2.2.2.2.2.2.2.2.1)]), (.bool x3)]) ∧
 Nw (w1.alloc (.cells #[(.int .u16 (0 : Int)), (.string (ByteArray.mk #[])), (.bool false), (.bool false), (.string (ByteArray.mk #[])), (.string (ByteArray.mk #[])), (.int .i64 (0 : Int)), (.int .u8 (0 : Int))] 178)) fun w2 =>
 Wr w2 (blk w1.heap.size) ∧
 Nw (w2.setCell (blk w1.heap.size) (.int .u16 x2.1)) fun w3 =>
 Wr w3 ((blk w1.heap.size).add 1) ∧
 Nw (w3.setCell ((blk w1.heap.size).add 1) (.string x2.2.1)) fun w4 =>
 Wr w4 ((blk w1.heap.size).add 2) ∧
 Nw (w4.setCell ((blk w1.heap.size).add 2) (.bool x2.2.2.1)) fun w5 =>
 Wr w5 ((blk w1.heap.size).add 3) ∧
 Nw (w5.setCell ((blk w1.heap.size).add 3) (.bool x2.2.2.2.1)) fun w6 =>
 Wr w6 ((blk w1.heap.size).add 4) ∧
 Nw (w6.setCell ((blk w1.heap.size).add 4) (.string x2.2.2.2.2.1)) fun w7 =>
 Wr w7 ((blk w1.heap.size).add 5) ∧
 Nw (w7.setCell ((blk w1.heap.size).add 5) (.string x2.2.2.2.2.2.1)) fun w8 =>
 Wr w8 ((blk w1.heap.size).add 6) ∧
 Nw (w8.setCell ((blk w1.heap.size).add 6) (.int .i64 x2.2.2.2.2.2.2.1)) fun w9 =>
 Wr w9 ((blk w1.heap.size).add 7) ∧
 Nw (w9.setCell ((blk w1.heap.size).add 7) (.int .u8 x2.2.2.2.2.2.2.2.1)) fun w10 =>
 JoinW (S := Unit) (fun m4 =>
 ifB (!x3)
 (R (.int .u8 (0 : Int)) w10)
 (ifB (decide (p1 < (0 : Int)))
 (R (.int .u8 (0 : Int)) w10)
 (m4 (()) w10)))
 (fun s5 w11 =>
 ldStr w11 ((blk w1.heap.size).add 4) fun x6 =>
 ifB (decide (p1 < (x6.size : Int)))
 (ldStr w11 ((blk w1.heap.size).add 4) fun x7 =>
 (0 ≤ p1 ∧ p1 < (x7.size : Int)) ∧
 R (.int .u8 (byteI x7 p1)) w11)
 (ldStr w11 ((blk w1.heap.size).add 5) fun x8 =>
 ifB ((x8.size : Int) == (0 : Int))
 (R (.int .u8 (0 : Int)) w11)
 (ldStr w11 ((blk w1.heap.size).add 4) fun x9 =>
 JoinW (S := Unit) (fun m10 =>
 ldI w11.drew ((blk w1.heap.size).add 6) .i64 fun x12 =>
 ifB (decide (x12 > (0 : Int)))
 (ldStr w11.drew ((blk w1.heap.size).add 5) fun x13 =>
 ifB (decide ((x13.size : Int) = 0))
 (False)
 (ldI w11.drew ((blk w1.heap.size).add 6) .i64 fun x14 =>
 ifB (decide ((IntKind.i64.wrap (Int.tdiv (IntKind.i64.wrap (p1 - (x9.size : Int))) (x13.size : Int))) ≥ x14))
 (R (.int .u8 (0 : Int)) w11.drew)
 (m10 (()) w11.drew)))
 (m10 (()) w11.drew))
 (fun s11 w12 =>
 ldStr w12.drew ((blk w1.heap.size).add 5) fun x15 =>
 ldStr w12.drew ((blk w1.heap.size).add 5) fun x16 =>
 ifB (decide ((x16.size : Int) = 0))
 (False)
 ((0 ≤ (Int.tmod (IntKind.i64.wrap (p1 - (x9.size : Int))) (x16.size : Int)) ∧ (Int.tmod (IntKind.i64.wrap (p1 - (x9.size : Int))) (x16.size : Int)) < (x15.size : Int)) ∧
 R (.int .u8 (byteI x15 (Int.tmod (IntKind.i64.wrap (p1 - (x9.size : Int))) (x16.size : Int)))) w12.drew)))))
theorem intaglioref03_Letter_calls (p0 : Int) (p1 : Int) (R : Value → World → Prop) (w : World) (h : L_intaglioref03_Letter p0 p1 R w) : Calls Tryz.prog 163 #[(.int .u16 p0), (.int .i64 p1)] w (Ret R) :=
 lw_calls (fs := Tryz.fs) (an := a_intaglioref03_Letter) (args := [(.int .u16 p0), (.int .i64 p1)]) Tryz.fsOK Tryz.mixed Tryz.func163 (by kernel_rfl) (by kernel_rfl)
 (Eq.mpr (by kernel_rfl : lwFn Tryz.prog Tryz.fs Tryz.f163 a_intaglioref03_Letter [(.int .u16 p0), (.int .i64 p1)] w R = L_intaglioref03_Letter p0 p1 R w) h)

/-- intaglio.intaglioref03.form -/
def a_intaglioref03_form : Ann := (.seq none .nil (.seq none .nil .nil))
def L_intaglioref03_form (p0 : Int) (p1 : ByteArray) (p2 : Bool) (p3 : Bool) (p4 : ByteArray) (p5 : ByteArray) (p6 : Int) (p7 : Int) (R : Value → World → Prop) (w : World) : Prop :=
 Nw (w.alloc (.cells #[(.int .u16 (0 : Int)), (.string (ByteArray.mk #[])), (.bool false), (.bool false), (.string (ByteArray.mk #[])), (.string (ByteArray.mk #[])), (.int .i64 (0 : Int)), (.int .u8 (0 : Int))] 178)) fun w1 =>
 Wr w1 (blk w.heap.size) ∧
 Nw (w1.setCell (blk w.heap.size) (.int .u16 p0)) fun w2 =>
 Wr w2 ((blk w.heap.size).add 1) ∧
 Nw (w2.setCell ((blk w.heap.size).add 1) (.string p1)) fun w3 =>
 Wr w3 ((blk w.heap.size).add 2) ∧
 Nw (w3.setCell ((blk w.heap.size).add 2) (.bool p2)) fun w4 =>
 Wr w4 ((blk w.heap.size).add 3) ∧
 Nw (w4.setCell ((blk w.heap.size).add 3) (.bool p3)) fun w5 =>
 Wr w5 ((blk w.heap.size).add 4) ∧
 Nw (w5.setCell ((blk w.heap.size).add 4) (.string p4)) fun w6 =>
 Wr w6 ((blk w.heap.size).add 5) ∧
 Nw (w6.setCell ((blk w.heap.size).add 5) (.string p5)) fun w7 =>
 Wr w7 ((blk w.heap.size).add 6) ∧
 Nw (w7.setCell ((blk w.heap.size).add 6) (.int .i64 p6)) fun w8 =>
 Wr w8 ((blk w.heap.size).add 7) ∧
 Nw (w8.setCell ((blk w.heap.size).add 7) (.int .u8 p7)) fun w9 =>
 ldI w9 ((blk w.heap.size).add 0) .u16 fun x1 =>
 ldStr w9 ((blk w.heap.size).add 1) fun x2 =>
 ldB w9 ((blk w.heap.size).add 2) fun x3 =>
 ldB w9 ((blk w.heap.size).add 3) fun x4 =>
 ldStr w9 ((blk w.heap.size).add 4) fun x5 =>
 ldStr w9 ((blk w.heap.size).add 5) fun x6 =>
 ldI w9 ((blk w.heap.size).add 6) .i64 fun x7 =>
 ldI w9 ((blk w.heap.size).add 7) .u8 fun x8 =>
 R (.agg #[(.int .u16 x1), (.string x2), (.bool x3), (.bool x4), (.string x5), (.string x6), (.int .i64 x7), (.int .u8 x8)]) w9
theorem intaglioref03_form_calls (p0 : Int) (p1 : ByteArray) (p2 : Bool) (p3 : Bool) (p4 : ByteArray) (p5 : ByteArray) (p6 : Int) (p7 : Int) (R : Value → World → Prop) (w : World) (h : L_intaglioref03_form p0 p1 p2 p3 p4 p5 p6 p7 R w) : Calls Tryz.prog 165 #[(.int .u16 p0), (.string p1), (.bool p2), (.bool p3), (.string p4), (.string p5), (.int .i64 p6), (.int .u8 p7)] w (Ret R) :=
 lw_calls (fs := Tryz.fs) (an := a_intaglioref03_form) (args := [(.int .u16 p0), (.string p1), (.bool p2), (.bool p3), (.string p4), (.string p5), (.int .i64 p6), (.int .u8 p7)]) Tryz.fsOK Tryz.mixed Tryz.func165 (by kernel_rfl) (by kernel_rfl)
 (Eq.mpr (by kernel_rfl : lwFn Tryz.prog Tryz.fs Tryz.f165 a_intaglioref03_form [(.int .u16 p0), (.string p1), (.bool p2), (.bool p3), (.string p4), (.string p5), (.int .i64 p6), (.int .u8 p7)] w R = L_intaglioref03_form p0 p1 p2 p3 p4 p5 p6 p7 R w) h)

/-- intaglio.intaglioref03.Kind -/
def a_intaglioref03_Kind : Ann := (.seq none .nil (.seq none (.seq none .nil (.cond (.seq none .nil .nil) .nil)) (.seq none (.seq none .nil (.cond (.seq none .nil .nil) .nil)) (.seq none (.seq none .nil (.cond (.seq none .nil .nil) .nil)) (.seq none .nil (.seq none (.seq none .nil (.one (.loop ⟨[0, 3], [(4, (.b (.int .i64)))]⟩ (.seq none (.seq none .nil (.cond .nil .nil)) (.seq none (.one (.seq none .nil (.cond (.seq none .nil .nil) .nil))) .nil))))) (.seq none .nil .nil)))))))
def L_intaglioref03_Kind (p0 : Int) (R : Value → World → Prop) (w : World) : Prop :=
 ifB (p0 == (105 : Int))
 (R (.int .u8 (1 : Int)) w)
 (ifB (p0 == (110 : Int))
 (R (.int .u8 (2 : Int)) w)
 (ifB (p0 == (115 : Int))
 (R (.int .u8 (3 : Int)) w)
 (callR Tryz.prog 220 #[] w fun v1 w1 =>
 ∃ x2 : Sl, v1 = (.slice x2.a x2.l x2.c) ∧
 LoopW (S := Int × Unit) (fun s3 w2 n4 =>
 ifB (decide (s3.1 < (x2.l : Int)))
 ((0 ≤ s3.1 ∧ s3.1 < (x2.l : Int)) ∧
 derefP x2.a fun a5 =>
 ldI w2 (a5.add ((Int.toNat s3.1) * 3)) .u8 fun x6 =>
 ifB (x6 == p0)
 (R (.int .u8 (4 : Int)) w2)
 (n4 ((IntKind.i64.wrap (s3.1 + (1 : Int))), ()) w2))
 (R (.int .u8 (0 : Int)) w2))
 ((0 : Int), ()) w1)))
theorem intaglioref03_Kind_calls (p0 : Int) (R : Value → World → Prop) (w : World) (h : L_intaglioref03_Kind p0 R w) : Calls Tryz.prog 167 #[(.int .u8 p0)] w (Ret R) :=
 lw_calls (fs := Tryz.fs) (an := a_intaglioref03_Kind) (args := [(.int .u8 p0)]) Tryz.fsOK Tryz.mixed Tryz.func167 (by kernel_rfl) (by kernel_rfl)
 (Eq.mpr (by kernel_rfl : lwFn Tryz.prog Tryz.fs Tryz.f167 a_intaglioref03_Kind [(.int .u8 p0)] w R = L_intaglioref03_Kind p0 R w) h)

/-- intaglio.intaglioref03.Enum -/
def a_intaglioref03_Enum : Ann := (.seq none .nil (.seq none .nil (.seq none (.seq none .nil (.one (.loop ⟨[0, 1, 6], [(7, (.b (.int .i64)))]⟩ (.seq none (.seq none .nil (.cond .nil .nil)) (.seq (some ⟨[0, 1, 6, 7], []⟩) (.one (.seq none .nil (.cond (.seq none .nil .nil) .nil))) .nil))))) (.seq none .nil .nil))))
def L_intaglioref03_Enum (p0 : Int) (p1 : Int) (R : Value → World → Prop) (w : World) : Prop :=
 callR Tryz.prog 220 #[] w fun v1 w1 =>
 ∃ x2 : Sl, v1 = (.slice x2.a x2.l x2.c) ∧
 LoopW (S := Int × Unit) (fun s3 w2 n4 =>
 ifB (decide (s3.1 < (x2.l : Int)))
 (JoinW (S := Unit) (fun m5 =>
 (0 ≤ s3.1 ∧ s3.1 < (x2.l : Int)) ∧
 derefP x2.a fun a7 =>
 ldI w2 (a7.add ((Int.toNat s3.1) * 3)) .u8 fun x8 =>
 ifB (x8 == p0)
 ((0 ≤ s3.1 ∧ s3.1 < (x2.l : Int)) ∧
 derefP x2.a fun a9 =>
 ldI w2 ((a9.add ((Int.toNat s3.1) * 3)).add 1) .u32 fun x10 =>
 ifB (x10 == p1)
 ((0 ≤ s3.1 ∧ s3.1 < (x2.l : Int)) ∧
 derefP x2.a fun a11 =>
 ldStr w2 ((a11.add ((Int.toNat s3.1) * 3)).add 2) fun x12 =>
 R (.tuple #[(.string x12), (.bool true)]) w2)
 (m5 (()) w2))
 (m5 (()) w2))
 (fun s6 w3 =>
 n4 ((IntKind.i64.wrap (s3.1 + (1 : Int))), ()) w3))
 (R (.tuple #[(.string (ByteArray.mk #[])), (.bool false)]) w2))
 ((0 : Int), ()) w1
theorem intaglioref03_Enum_calls (p0 : Int) (p1 : Int) (R : Value → World → Prop) (w : World) (h : L_intaglioref03_Enum p0 p1 R w) : Calls Tryz.prog 219 #[(.int .u8 p0), (.int .u32 p1)] w (Ret R) :=
 lw_calls (fs := Tryz.fs) (an := a_intaglioref03_Enum) (args := [(.int .u8 p0), (.int .u32 p1)]) Tryz.fsOK Tryz.mixed Tryz.func219 (by kernel_rfl) (by kernel_rfl)
 (Eq.mpr (by kernel_rfl : lwFn Tryz.prog Tryz.fs Tryz.f219 a_intaglioref03_Enum [(.int .u8 p0), (.int .u32 p1)] w R = L_intaglioref03_Enum p0 p1 R w) h)

/-- intaglio.intaglioref03.Names -/
def a_intaglioref03_Names : Ann := (.seq none .nil (.seq none .nil (.seq none .nil (.seq none .nil (.seq none .nil (.seq none .nil (.seq none .nil (.seq none .nil (.seq none .nil (.seq none .nil (.seq none .nil (.seq none .nil (.seq none .nil (.seq none .nil (.seq none .nil (.seq none .nil (.seq none .nil (.seq none .nil (.seq none .nil (.seq none .nil (.seq none .nil (.seq none .nil (.seq none .nil (.seq none .nil (.seq none .nil (.seq none .nil (.seq none .nil (.seq none .nil (.seq none .nil (.seq none .nil (.seq none .nil (.seq none .nil (.seq none .nil .nil)))))))))))))))))))))))))))))))))
def L_intaglioref03_Names  (R : Value → World → Prop) (w : World) : Prop :=
 Nw (w.alloc (.cells #[(.int .u8 (107 : Int)), (.int .u32 (0 : Int)), (.string (ByteArray.mk #[77, 97, 116, 114, 105, 120]))] 281)) fun w1 =>
 appendS Tryz.prog 278 (.slice none 0 0) (.slice (some (blk w.heap.size)) 1 1) w1 fun r1 w2 =>
 Nw (w2.alloc (.cells #[(.int .u8 (107 : Int)), (.int .u32 (1 : Int)), (.string (ByteArray.mk #[83, 104, 97, 100, 101, 114]))] 281)) fun w3 =>
 appendS Tryz.prog 278 (.slice r1.a r1.l r1.c) (.slice (some (blk w2.heap.size)) 1 1) w3 fun r2 w4 =>
 Nw (w4.alloc (.cells #[(.int .u8 (97 : Int)), (.int .u32 (0 : Int)), (.string (ByteArray.mk #[76, 111, 103, 105, 99, 97, 108]))] 281)) fun w5 =>
 appendS Tryz.prog 278 (.slice r2.a r2.l r2.c) (.slice (some (blk w4.heap.size)) 1 1) w5 fun r3 w6 =>
 Nw (w6.alloc (.cells #[(.int .u8 (109 : Int)), (.int .u32 (0 : Int)), (.string (ByteArray.mk #[83, 105, 109, 112, 108, 101]))] 281)) fun w7 =>
 appendS Tryz.prog 278 (.slice r3.a r3.l r3.c) (.slice (some (blk w6.heap.size)) 1 1) w7 fun r4 w8 =>
 Nw (w8.alloc (.cells #[(.int .u8 (109 : Int)), (.int .u32 (1 : Int)), (.string (ByteArray.mk #[71, 76, 83, 76, 52, 53, 48]))] 281)) fun w9 =>
 appendS Tryz.prog 278 (.slice r4.a r4.l r4.c) (.slice (some (blk w8.heap.size)) 1 1) w9 fun r5 w10 =>
 Nw (w10.alloc (.cells #[(.int .u8 (101 : Int)), (.int .u32 (0 : Int)), (.string (ByteArray.mk #[86, 101, 114, 116, 101, 120]))] 281)) fun w11 =>
 appendS Tryz.prog 278 (.slice r5.a r5.l r5.c) (.slice (some (blk w10.heap.size)) 1 1) w11 fun r6 w12 =>
 Nw (w12.alloc (.cells #[(.int .u8 (101 : Int)), (.int .u32 (4 : Int)), (.string (ByteArray.mk #[70, 114, 97, 103, 109, 101, 110, 116]))] 281)) fun w13 =>
 appendS Tryz.prog 278 (.slice r6.a r6.l r6.c) (.slice (some (blk w12.heap.size)) 1 1) w13 fun r7 w14 =>
 Nw (w14.alloc (.cells #[(.int .u8 (120 : Int)), (.int .u32 (7 : Int)), (.string (ByteArray.mk #[79, 114, 105, 103, 105, 110, 85, 112, 112, 101, 114, 76, 101, 102, 116]))] 281)) fun w15 =>
 appendS Tryz.prog 278 (.slice r7.a r7.l r7.c) (.slice (some (blk w14.heap.size)) 1 1) w15 fun r8 w16 =>
 Nw (w16.alloc (.cells #[(.int .u8 (108 : Int)), (.int .u32 (0 : Int)), (.string (ByteArray.mk #[85, 110, 107, 110, 111, 119, 110]))] 281)) fun w17 =>
 appendS Tryz.prog 278 (.slice r8.a r8.l r8.c) (.slice (some (blk w16.heap.size)) 1 1) w17 fun r9 w18 =>
 Nw (w18.alloc (.cells #[(.int .u8 (108 : Int)), (.int .u32 (1 : Int)), (.string (ByteArray.mk #[69, 83, 83, 76]))] 281)) fun w19 =>
 appendS Tryz.prog 278 (.slice r9.a r9.l r9.c) (.slice (some (blk w18.heap.size)) 1 1) w19 fun r10 w20 =>
 Nw (w20.alloc (.cells #[(.int .u8 (108 : Int)), (.int .u32 (2 : Int)), (.string (ByteArray.mk #[71, 76, 83, 76]))] 281)) fun w21 =>
 appendS Tryz.prog 278 (.slice r10.a r10.l r10.c) (.slice (some (blk w20.heap.size)) 1 1) w21 fun r11 w22 =>
 Nw (w22.alloc (.cells #[(.int .u8 (99 : Int)), (.int .u32 (1 : Int)), (.string (ByteArray.mk #[73, 110, 112, 117, 116]))] 281)) fun w23 =>
 appendS Tryz.prog 278 (.slice r11.a r11.l r11.c) (.slice (some (blk w22.heap.size)) 1 1) w23 fun r12 w24 =>
 Nw (w24.alloc (.cells #[(.int .u8 (99 : Int)), (.int .u32 (3 : Int)), (.string (ByteArray.mk #[79, 117, 116, 112, 117, 116]))] 281)) fun w25 =>
 appendS Tryz.prog 278 (.slice r12.a r12.l r12.c) (.slice (some (blk w24.heap.size)) 1 1) w25 fun r13 w26 =>
 Nw (w26.alloc (.cells #[(.int .u8 (99 : Int)), (.int .u32 (6 : Int)), (.string (ByteArray.mk #[80, 114, 105, 118, 97, 116, 101]))] 281)) fun w27 =>
 appendS Tryz.prog 278 (.slice r13.a r13.l r13.c) (.slice (some (blk w26.heap.size)) 1 1) w27 fun r14 w28 =>
 Nw (w28.alloc (.cells #[(.int .u8 (99 : Int)), (.int .u32 (7 : Int)), (.string (ByteArray.mk #[70, 117, 110, 99, 116, 105, 111, 110]))] 281)) fun w29 =>
 appendS Tryz.prog 278 (.slice r14.a r14.l r14.c) (.slice (some (blk w28.heap.size)) 1 1) w29 fun r15 w30 =>
 Nw (w30.alloc (.cells #[(.int .u8 (100 : Int)), (.int .u32 (0 : Int)), (.string (ByteArray.mk #[82, 101, 108, 97, 120, 101, 100, 80, 114, 101, 99, 105, 115, 105, 111, 110]))] 281)) fun w31 =>
 appendS Tryz.prog 278 (.slice r15.a r15.l r15.c) (.slice (some (blk w30.heap.size)) 1 1) w31 fun r16 w32 =>
 Nw (w32.alloc (.cells #[(.int .u8 (100 : Int)), (.int .u32 (11 : Int)), (.string (ByteArray.mk #[66, 117, 105, 108, 116, 73, 110]))] 281)) fun w33 =>
 appendS Tryz.prog 278 (.slice r16.a r16.l r16.c) (.slice (some (blk w32.heap.size)) 1 1) w33 fun r17 w34 =>
 Nw (w34.alloc (.cells #[(.int .u8 (100 : Int)), (.int .u32 (14 : Int)), (.string (ByteArray.mk #[70, 108, 97, 116]))] 281)) fun w35 =>
 appendS Tryz.prog 278 (.slice r17.a r17.l r17.c) (.slice (some (blk w34.heap.size)) 1 1) w35 fun r18 w36 =>
 Nw (w36.alloc (.cells #[(.int .u8 (100 : Int)), (.int .u32 (30 : Int)), (.string (ByteArray.mk #[76, 111, 99, 97, 116, 105, 111, 110]))] 281)) fun w37 =>
 appendS Tryz.prog 278 (.slice r18.a r18.l r18.c) (.slice (some (blk w36.heap.size)) 1 1) w37 fun r19 w38 =>
 Nw (w38.alloc (.cells #[(.int .u8 (102 : Int)), (.int .u32 (0 : Int)), (.string (ByteArray.mk #[78, 111, 110, 101]))] 281)) fun w39 =>
 appendS Tryz.prog 278 (.slice r19.a r19.l r19.c) (.slice (some (blk w38.heap.size)) 1 1) w39 fun r20 w40 =>
 Nw (w40.alloc (.cells #[(.int .u8 (102 : Int)), (.int .u32 (1 : Int)), (.string (ByteArray.mk #[73, 110, 108, 105, 110, 101]))] 281)) fun w41 =>
 appendS Tryz.prog 278 (.slice r20.a r20.l r20.c) (.slice (some (blk w40.heap.size)) 1 1) w41 fun r21 w42 =>
 Nw (w42.alloc (.cells #[(.int .u8 (102 : Int)), (.int .u32 (2 : Int)), (.string (ByteArray.mk #[68, 111, 110, 116, 73, 110, 108, 105, 110, 101]))] 281)) fun w43 =>
 appendS Tryz.prog 278 (.slice r21.a r21.l r21.c) (.slice (some (blk w42.heap.size)) 1 1) w43 fun r22 w44 =>
 Nw (w44.alloc (.cells #[(.int .u8 (102 : Int)), (.int .u32 (4 : Int)), (.string (ByteArray.mk #[80, 117, 114, 101]))] 281)) fun w45 =>
 appendS Tryz.prog 278 (.slice r22.a r22.l r22.c) (.slice (some (blk w44.heap.size)) 1 1) w45 fun r23 w46 =>
 Nw (w46.alloc (.cells #[(.int .u8 (102 : Int)), (.int .u32 (8 : Int)), (.string (ByteArray.mk #[67, 111, 110, 115, 116]))] 281)) fun w47 =>
 appendS Tryz.prog 278 (.slice r23.a r23.l r23.c) (.slice (some (blk w46.heap.size)) 1 1) w47 fun r24 w48 =>
 Nw (w48.alloc (.cells #[(.int .u8 (104 : Int)), (.int .u32 (0 : Int)), (.string (ByteArray.mk #[78, 111, 110, 101]))] 281)) fun w49 =>
 appendS Tryz.prog 278 (.slice r24.a r24.l r24.c) (.slice (some (blk w48.heap.size)) 1 1) w49 fun r25 w50 =>
 Nw (w50.alloc (.cells #[(.int .u8 (104 : Int)), (.int .u32 (1 : Int)), (.string (ByteArray.mk #[70, 108, 97, 116, 116, 101, 110]))] 281)) fun w51 =>
 appendS Tryz.prog 278 (.slice r25.a r25.l r25.c) (.slice (some (blk w50.heap.size)) 1 1) w51 fun r26 w52 =>
 Nw (w52.alloc (.cells #[(.int .u8 (104 : Int)), (.int .u32 (2 : Int)), (.string (ByteArray.mk #[68, 111, 110, 116, 70, 108, 97, 116, 116, 101, 110]))] 281)) fun w53 =>
 appendS Tryz.prog 278 (.slice r26.a r26.l r26.c) (.slice (some (blk w52.heap.size)) 1 1) w53 fun r27 w54 =>
 Nw (w54.alloc (.cells #[(.int .u8 (103 : Int)), (.int .u32 (0 : Int)), (.string (ByteArray.mk #[78, 111, 110, 101]))] 281)) fun w55 =>
 appendS Tryz.prog 278 (.slice r27.a r27.l r27.c) (.slice (some (blk w54.heap.size)) 1 1) w55 fun r28 w56 =>
 Nw (w56.alloc (.cells #[(.int .u8 (103 : Int)), (.int .u32 (1 : Int)), (.string (ByteArray.mk #[85, 110, 114, 111, 108, 108]))] 281)) fun w57 =>
 appendS Tryz.prog 278 (.slice r28.a r28.l r28.c) (.slice (some (blk w56.heap.size)) 1 1) w57 fun r29 w58 =>
 Nw (w58.alloc (.cells #[(.int .u8 (103 : Int)), (.int .u32 (2 : Int)), (.string (ByteArray.mk #[68, 111, 110, 116, 85, 110, 114, 111, 108, 108]))] 281)) fun w59 =>
 appendS Tryz.prog 278 (.slice r29.a r29.l r29.c) (.slice (some (blk w58.heap.size)) 1 1) w59 fun r30 w60 =>
 R (.slice r30.a r30.l r30.c) w60
theorem intaglioref03_Names_calls  (R : Value → World → Prop) (w : World) (h : L_intaglioref03_Names  R w) : Calls Tryz.prog 220 #[] w (Ret R) :=
 lw_calls (fs := Tryz.fs) (an := a_intaglioref03_Names) (args := []) Tryz.fsOK Tryz.mixed Tryz.func220 (by kernel_rfl) (by kernel_rfl)
 (Eq.mpr (by kernel_rfl : lwFn Tryz.prog Tryz.fs Tryz.f220 a_intaglioref03_Names [] w R = L_intaglioref03_Names  R w) h)

end Go.Proofs
namespace Go.Proofs
open Go.Gk
set_option linter.unusedVariables false
set_option maxRecDepth 100000

/-- intaglio.grammar.Fits -/
def a_grammar_Fits : Ann := (.seq none .nil (.seq none .nil (.seq none (.seq none .nil (.cond (.seq none .nil .nil) .nil)) (.seq none .nil (.seq none (.seq none .nil (.one (.loop ⟨[1, 8, 21, 22], [(23, (.b (.int .i64)))]⟩ (.seq none .nil (.seq none (.cond .nil .nil) (.seq (some ⟨[1, 8, 21, 22, 23], []⟩) (.one (.seq none .nil (.seq none .nil (.cond (.seq none .nil .nil) .nil)))) .nil)))))) (.seq none .nil (.seq none (.seq none .nil (.cond (.seq none .nil .nil) .nil)) (.seq none .nil .nil))))))))
def L_grammar_Fits (p0 : Int) (p1 : Sl) (R : Value → World → Prop) (w : World) : Prop :=
 callR Tryz.prog 168 #[(.int .u16 p0)] w fun v1 w1 =>
 ∃ x2 : (Int × ByteArray × Bool × Bool × ByteArray × ByteArray × Int × Int × Unit), ∃ x3 : Bool, v1 = (.tuple #[(.agg #[(.int .u16 x2.1), (.string x2.2.1), (.bool x2.2.2.1), (.bool x2.2.2.2.1), (.string x2.2.2.2.2.1), (.string x2.2.2.2.2.2.1), (.int .i64 x2.2.2.2.2.2.2.1), (.int .u8 x2.2.2.2.2.2.2.2.1)]), (.bool x3)]) ∧
 Nw (w1.alloc (.cells #[(.int .u16 (0 : Int)), (.string (ByteArray.mk #[])), (.bool false), (.bool false), (.string (ByteArray.mk #[])), (.string (ByteArray.mk #[])), (.int .i64 (0 : Int)), (.int .u8 (0 : Int))] 178)) fun w2 =>
 Wr w2 (blk w1.heap.size) ∧
 Nw (w2.setCell (blk w1.heap.size) (.int .u16 x2.1)) fun w3 =>
 Wr w3 ((blk w1.heap.size).add 1) ∧
 Nw (w3.setCell ((blk w1.heap.size).add 1) (.string x2.2.1)) fun w4 =>
 Wr w4 ((blk w1.heap.size).add 2) ∧
 Nw (w4.setCell ((blk w1.heap.size).add 2) (.bool x2.2.2.1)) fun w5 =>
 Wr w5 ((blk w1.heap.size).add 3) ∧
 Nw (w5.setCell ((blk w1.heap.size).add 3) (.bool x2.2.2.2.1)) fun w6 =>
 Wr w6 ((blk w1.heap.size).add 4) ∧
 Nw (w6.setCell ((blk w1.heap.size).add 4) (.string x2.2.2.2.2.1)) fun w7 =>
 Wr w7 ((blk w1.heap.size).add 5) ∧
 Nw (w7.setCell ((blk w1.heap.size).add 5) (.string x2.2.2.2.2.2.1)) fun w8 =>
 Wr w8 ((blk w1.heap.size).add 6) ∧
 Nw (w8.setCell ((blk w1.heap.size).add 6) (.int .i64 x2.2.2.2.2.2.2.1)) fun w9 =>
 Wr w9 ((blk w1.heap.size).add 7) ∧
 Nw (w9.setCell ((blk w1.heap.size).add 7) (.int .u8 x2.2.2.2.2.2.2.2.1)) fun w10 =>
 ifB (!x3)
 (R (.tuple #[(.int .i64 (0 : Int)), (.bool false)]) w10)
 (ldI w10 ((blk w1.heap.size).add 0) .u16 fun x4 =>
 ldStr w10 ((blk w1.heap.size).add 1) fun x5 =>
 ldB w10 ((blk w1.heap.size).add 2) fun x6 =>
 ldB w10 ((blk w1.heap.size).add 3) fun x7 =>
 ldStr w10 ((blk w1.heap.size).add 4) fun x8 =>
 ldStr w10 ((blk w1.heap.size).add 5) fun x9 =>
 ldI w10 ((blk w1.heap.size).add 6) .i64 fun x10 =>
 ldI w10 ((blk w1.heap.size).add 7) .u8 fun x11 =>
 Nw (w10.alloc (.cells #[(.int .u16 (0 : Int)), (.string (ByteArray.mk #[])), (.bool false), (.bool false), (.string (ByteArray.mk #[])), (.string (ByteArray.mk #[])), (.int .i64 (0 : Int)), (.int .u8 (0 : Int))] 230)) fun w11 =>
 Wr w11 (blk w10.heap.size) ∧
 Nw (w11.setCell (blk w10.heap.size) (.int .u16 x4)) fun w12 =>
 Wr w12 ((blk w10.heap.size).add 1) ∧
 Nw (w12.setCell ((blk w10.heap.size).add 1) (.string x5)) fun w13 =>
 Wr w13 ((blk w10.heap.size).add 2) ∧
 Nw (w13.setCell ((blk w10.heap.size).add 2) (.bool x6)) fun w14 =>
 Wr w14 ((blk w10.heap.size).add 3) ∧
 Nw (w14.setCell ((blk w10.heap.size).add 3) (.bool x7)) fun w15 =>
 Wr w15 ((blk w10.heap.size).add 4) ∧
 Nw (w15.setCell ((blk w10.heap.size).add 4) (.string x8)) fun w16 =>
 Wr w16 ((blk w10.heap.size).add 5) ∧
 Nw (w16.setCell ((blk w10.heap.size).add 5) (.string x9)) fun w17 =>
 Wr w17 ((blk w10.heap.size).add 6) ∧
 Nw (w17.setCell ((blk w10.heap.size).add 6) (.int .i64 x10)) fun w18 =>
 Wr w18 ((blk w10.heap.size).add 7) ∧
 Nw (w18.setCell ((blk w10.heap.size).add 7) (.int .u8 x11)) fun w19 =>
 LoopW (S := Int × Unit) (fun s12 w20 n13 =>
 ifB (decide (s12.1 < (p1.l : Int)))
 (JoinW (S := Unit) (fun m14 =>
 (0 ≤ s12.1 ∧ s12.1 < (p1.l : Int)) ∧
 derefP p1.a fun a16 =>
 ldI w20 (a16.add (Int.toNat s12.1)) .u8 fun x17 =>
 ifB (x17 == (0 : Int))
 (R (.tuple #[(.int .i64 s12.1), (.bool false)]) w20)
 (ldI w20 ((blk w10.heap.size).add 0) .u16 fun x18 =>
 ldStr w20 ((blk w10.heap.size).add 1) fun x19 =>
 ldB w20 ((blk w10.heap.size).add 2) fun x20 =>
 ldB w20 ((blk w10.heap.size).add 3) fun x21 =>
 ldStr w20 ((blk w10.heap.size).add 4) fun x22 =>
 ldStr w20 ((blk w10.heap.size).add 5) fun x23 =>
 ldI w20 ((blk w10.heap.size).add 6) .i64 fun x24 =>
 ldI w20 ((blk w10.heap.size).add 7) .u8 fun x25 =>
 callR Tryz.prog 170 #[(.agg #[(.int .u16 x18), (.string x19), (.bool x20), (.bool x21), (.string x22), (.string x23), (.int .i64 x24), (.int .u8 x25)]), (.int .i64 s12.1)] w20 fun v26 w21 =>
 ∃ x27 : Int, v26 = (.int .u8 x27) ∧
 callR Tryz.prog 169 #[(.int .u8 x27)] w21 fun v28 w22 =>
 ∃ x29 : Int, v28 = (.int .u8 x29) ∧
 ifB (x29 != x17)
 (R (.tuple #[(.int .i64 s12.1), (.bool false)]) w22)
 (m14 (()) w22)))
 (fun s15 w23 =>
 n13 ((IntKind.i64.wrap (s12.1 + (1 : Int))), ()) w23))
 (ldStr w20 ((blk w10.heap.size).add 4) fun x30 =>
 ifB (decide ((IntKind.i64.wrap ((p1.l : Int) - (x30.size : Int))) < (0 : Int)))
 (R (.tuple #[(.int .i64 (p1.l : Int)), (.bool false)]) w20)
 (ldStr w20 ((blk w10.heap.size).add 5) fun x31 =>
 ifB (!(x31.toList == (ByteArray.mk #[]).toList))
 (ldStr w20 ((blk w10.heap.size).add 5) fun x32 =>
 ifB (decide ((x32.size : Int) = 0))
 (False)
 (ifB ((Int.tmod (IntKind.i64.wrap ((p1.l : Int) - (x30.size : Int))) (x32.size : Int)) != (0 : Int))
 (R (.tuple #[(.int .i64 (p1.l : Int)), (.bool false)]) w20)
 (R (.tuple #[(.int .i64 (0 : Int)), (.bool true)]) w20)))
 (R (.tuple #[(.int .i64 (0 : Int)), (.bool true)]) w20))))
 ((0 : Int), ()) w19)
theorem grammar_Fits_calls (p0 : Int) (p1 : Sl) (R : Value → World → Prop) (w : World) (h : L_grammar_Fits p0 p1 R w) : Calls Tryz.prog 134 #[(.int .u16 p0), (.slice p1.a p1.l p1.c)] w (Ret R) :=
 lw_calls (fs := Tryz.fs) (an := a_grammar_Fits) (args := [(.int .u16 p0), (.slice p1.a p1.l p1.c)]) Tryz.fsOK Tryz.mixed Tryz.func134 (by kernel_rfl) (by kernel_rfl)
 (Eq.mpr (by kernel_rfl : lwFn Tryz.prog Tryz.fs Tryz.f134 a_grammar_Fits [(.int .u16 p0), (.slice p1.a p1.l p1.c)] w R = L_grammar_Fits p0 p1 R w) h)

/-- intaglio.grammar.Of -/
def a_grammar_Of : Ann := (.seq none .nil (.seq none .nil (.seq none (.seq none .nil (.cond (.seq none .nil .nil) .nil)) (.seq none .nil (.seq none .nil (.seq none (.seq none .nil (.one (.loop ⟨[2, 5, 6, 30], []⟩ (.seq none .nil (.seq none (.cond .nil .nil) (.one (.seq none .nil (.seq (some ⟨[2, 5, 6, 8, 30], []⟩) .nil .nil)))))))) (.seq (some ⟨[2, 6], []⟩) (.seq none .nil (.cond .nil .nil)) (.seq none .nil .nil))))))))
def L_grammar_Of (p0 : Int) (R : Value → World → Prop) (w : World) : Prop :=
 Nw (w.alloc (.cells #[(.int .u16 (0 : Int)), (.string (ByteArray.mk #[])), (.bool false), (.bool false), (.string (ByteArray.mk #[])), (.string (ByteArray.mk #[])), (.int .i64 (0 : Int)), (.int .u8 (0 : Int))] 178)) fun w1 =>
 callR Tryz.prog 221 #[(.int .u16 p0)] w1 fun v1 w2 =>
 ∃ x2 : ByteArray, v1 = (.string x2) ∧
 ifB (x2.toList == (ByteArray.mk #[]).toList)
 (Wr w2 (blk w.heap.size) ∧
 Nw (w2.setCell (blk w.heap.size) (.int .u16 (0 : Int))) fun w3 =>
 Wr w3 ((blk w.heap.size).add 1) ∧
 Nw (w3.setCell ((blk w.heap.size).add 1) (.string (ByteArray.mk #[]))) fun w4 =>
 Wr w4 ((blk w.heap.size).add 2) ∧
 Nw (w4.setCell ((blk w.heap.size).add 2) (.bool false)) fun w5 =>
 Wr w5 ((blk w.heap.size).add 3) ∧
 Nw (w5.setCell ((blk w.heap.size).add 3) (.bool false)) fun w6 =>
 Wr w6 ((blk w.heap.size).add 4) ∧
 Nw (w6.setCell ((blk w.heap.size).add 4) (.string (ByteArray.mk #[]))) fun w7 =>
 Wr w7 ((blk w.heap.size).add 5) ∧
 Nw (w7.setCell ((blk w.heap.size).add 5) (.string (ByteArray.mk #[]))) fun w8 =>
 Wr w8 ((blk w.heap.size).add 6) ∧
 Nw (w8.setCell ((blk w.heap.size).add 6) (.int .i64 (0 : Int))) fun w9 =>
 Wr w9 ((blk w.heap.size).add 7) ∧
 Nw (w9.setCell ((blk w.heap.size).add 7) (.int .u8 (0 : Int))) fun w10 =>
 ldI w10 ((blk w.heap.size).add 0) .u16 fun x3 =>
 ldStr w10 ((blk w.heap.size).add 1) fun x4 =>
 ldB w10 ((blk w.heap.size).add 2) fun x5 =>
 ldB w10 ((blk w.heap.size).add 3) fun x6 =>
 ldStr w10 ((blk w.heap.size).add 4) fun x7 =>
 ldStr w10 ((blk w.heap.size).add 5) fun x8 =>
 ldI w10 ((blk w.heap.size).add 6) .i64 fun x9 =>
 ldI w10 ((blk w.heap.size).add 7) .u8 fun x10 =>
 R (.tuple #[(.agg #[(.int .u16 x3), (.string x4), (.bool x5), (.bool x6), (.string x7), (.string x8), (.int .i64 x9), (.int .u8 x10)]), (.bool false)]) w10)
 (callR Tryz.prog 222 #[(.string x2)] w2 fun v11 w11 =>
 ∃ x12 : (ByteArray × ByteArray × ByteArray × ByteArray × ByteArray × ByteArray × Unit), v11 = (.agg #[(.string x12.1), (.string x12.2.1), (.string x12.2.2.1), (.string x12.2.2.2.1), (.string x12.2.2.2.2.1), (.string x12.2.2.2.2.2.1)]) ∧
 Nw (w11.alloc (.cells #[(.string (ByteArray.mk #[])), (.string (ByteArray.mk #[])), (.string (ByteArray.mk #[])), (.string (ByteArray.mk #[])), (.string (ByteArray.mk #[])), (.string (ByteArray.mk #[]))] 283)) fun w12 =>
 Wr w12 (blk w11.heap.size) ∧
 Nw (w12.setCell (blk w11.heap.size) (.string x12.1)) fun w13 =>
 Wr w13 ((blk w11.heap.size).add 1) ∧
 Nw (w13.setCell ((blk w11.heap.size).add 1) (.string x12.2.1)) fun w14 =>
 Wr w14 ((blk w11.heap.size).add 2) ∧
 Nw (w14.setCell ((blk w11.heap.size).add 2) (.string x12.2.2.1)) fun w15 =>
 Wr w15 ((blk w11.heap.size).add 3) ∧
 Nw (w15.setCell ((blk w11.heap.size).add 3) (.string x12.2.2.2.1)) fun w16 =>
 Wr w16 ((blk w11.heap.size).add 4) ∧
 Nw (w16.setCell ((blk w11.heap.size).add 4) (.string x12.2.2.2.2.1)) fun w17 =>
 Wr w17 ((blk w11.heap.size).add 5) ∧
 Nw (w17.setCell ((blk w11.heap.size).add 5) (.string x12.2.2.2.2.2.1)) fun w18 =>
 (0 ≤ (0 : Int) ∧ (0 : Int) < (6 : Int)) ∧
 ldStr w18.drew ((blk w11.heap.size).add 0) fun x13 =>
 (0 ≤ (2 : Int) ∧ (2 : Int) < (6 : Int)) ∧
 ldStr w18.drew ((blk w11.heap.size).add 2) fun x14 =>
 (0 ≤ (3 : Int) ∧ (3 : Int) < (6 : Int)) ∧
 ldStr w18.drew ((blk w11.heap.size).add 3) fun x15 =>
 (0 ≤ (5 : Int) ∧ (5 : Int) < (6 : Int)) ∧
 ldStr w18.drew ((blk w11.heap.size).add 5) fun x16 =>
 (0 ≤ (0 : Int) ∧ (0 : Int) < (x16.size : Int)) ∧
 Nw (w18.drew.alloc (.cells #[(.int .u16 (0 : Int)), (.string (ByteArray.mk #[])), (.bool false), (.bool false), (.string (ByteArray.mk #[])), (.string (ByteArray.mk #[])), (.int .i64 (0 : Int)), (.int .u8 (0 : Int))] 178)) fun w19 =>
 w19.cell? ((blk w11.heap.size).add 5) = some (.string x16) ∧
 w19.cell? ((blk w11.heap.size).add 3) = some (.string x15) ∧
 w19.cell? ((blk w11.heap.size).add 2) = some (.string x14) ∧
 w19.cell? ((blk w11.heap.size).add 0) = some (.string x13) ∧
 Wr w19 (blk w18.drew.heap.size) ∧
 Nw (w19.setCell (blk w18.drew.heap.size) (.int .u16 p0)) fun w20 =>
 Wr w20 ((blk w18.drew.heap.size).add 1) ∧
 Nw (w20.setCell ((blk w18.drew.heap.size).add 1) (.string x13)) fun w21 =>
 Wr w21 ((blk w18.drew.heap.size).add 2) ∧
 Nw (w21.setCell ((blk w18.drew.heap.size).add 2) (.bool false)) fun w22 =>
 Wr w22 ((blk w18.drew.heap.size).add 3) ∧
 Nw (w22.setCell ((blk w18.drew.heap.size).add 3) (.bool false)) fun w23 =>
 Wr w23 ((blk w18.drew.heap.size).add 4) ∧
 Nw (w23.setCell ((blk w18.drew.heap.size).add 4) (.string x14)) fun w24 =>
 Wr w24 ((blk w18.drew.heap.size).add 5) ∧
 Nw (w24.setCell ((blk w18.drew.heap.size).add 5) (.string x15)) fun w25 =>
 Wr w25 ((blk w18.drew.heap.size).add 6) ∧
 Nw (w25.setCell ((blk w18.drew.heap.size).add 6) (.int .i64 (0 : Int))) fun w26 =>
 Wr w26 ((blk w18.drew.heap.size).add 7) ∧
 Nw (w26.setCell ((blk w18.drew.heap.size).add 7) (.int .u8 (IntKind.u8.wrap ((byteI x16 (0 : Int)) - (48 : Int))))) fun w27 =>
 (0 ≤ (1 : Int) ∧ (1 : Int) < (6 : Int)) ∧
 ldStr w27 ((blk w11.heap.size).add 1) fun x17 =>
 Nw (w27.alloc (.stringIter x17 0)) fun w28 =>
 LoopW (S := Unit) (fun s18 w29 n19 =>
 nextW w27.heap.size w29 (fun i20 c21 w30 =>
 JoinW (S := Unit) (fun m22 =>
 ldB w30 ((blk w18.drew.heap.size).add 2) fun x24 =>
 ifB x24
 (Wr w30 ((blk w18.drew.heap.size).add 2) ∧
 Nw (w30.setCell ((blk w18.drew.heap.size).add 2) (.bool true)) fun w31 =>
 m22 (()) w31)
 (Wr w30 ((blk w18.drew.heap.size).add 2) ∧
 Nw (w30.setCell ((blk w18.drew.heap.size).add 2) (.bool (c21 == (84 : Int)))) fun w32 =>
 m22 (()) w32))
 (fun s23 w33 =>
 ldB w33 ((blk w18.drew.heap.size).add 3) fun x25 =>
 ifB x25
 (Wr w33 ((blk w18.drew.heap.size).add 3) ∧
 Nw (w33.setCell ((blk w18.drew.heap.size).add 3) (.bool true)) fun w34 =>
 n19 (()) w34)
 (Wr w33 ((blk w18.drew.heap.size).add 3) ∧
 Nw (w33.setCell ((blk w18.drew.heap.size).add 3) (.bool (c21 == (82 : Int)))) fun w35 =>
 n19 (()) w35)))
 (JoinW (S := Unit) (fun m26 =>
 (0 ≤ (4 : Int) ∧ (4 : Int) < (6 : Int)) ∧
 ldStr w29 ((blk w11.heap.size).add 4) fun x28 =>
 ifB (!(x28.toList == (ByteArray.mk #[]).toList))
 ((0 ≤ (4 : Int) ∧ (4 : Int) < (6 : Int)) ∧
 ldStr w29 ((blk w11.heap.size).add 4) fun x29 =>
 (0 ≤ (0 : Int) ∧ (0 : Int) < (x29.size : Int)) ∧
 Wr w29 ((blk w18.drew.heap.size).add 6) ∧
 Nw (w29.setCell ((blk w18.drew.heap.size).add 6) (.int .i64 (IntKind.i64.wrap (IntKind.u8.wrap ((byteI x29 (0 : Int)) - (48 : Int)))))) fun w36 =>
 m26 (()) w36)
 (m26 (()) w29))
 (fun s27 w37 =>
 ldI w37 ((blk w18.drew.heap.size).add 0) .u16 fun x30 =>
 ldStr w37 ((blk w18.drew.heap.size).add 1) fun x31 =>
 ldB w37 ((blk w18.drew.heap.size).add 2) fun x32 =>
 ldB w37 ((blk w18.drew.heap.size).add 3) fun x33 =>
 ldStr w37 ((blk w18.drew.heap.size).add 4) fun x34 =>
 ldStr w37 ((blk w18.drew.heap.size).add 5) fun x35 =>
 ldI w37 ((blk w18.drew.heap.size).add 6) .i64 fun x36 =>
 ldI w37 ((blk w18.drew.heap.size).add 7) .u8 fun x37 =>
 Wr w37 (blk w.heap.size) ∧
 Nw (w37.setCell (blk w.heap.size) (.int .u16 x30)) fun w38 =>
 Wr w38 ((blk w.heap.size).add 1) ∧
 Nw (w38.setCell ((blk w.heap.size).add 1) (.string x31)) fun w39 =>
 Wr w39 ((blk w.heap.size).add 2) ∧
 Nw (w39.setCell ((blk w.heap.size).add 2) (.bool x32)) fun w40 =>
 Wr w40 ((blk w.heap.size).add 3) ∧
 Nw (w40.setCell ((blk w.heap.size).add 3) (.bool x33)) fun w41 =>
 Wr w41 ((blk w.heap.size).add 4) ∧
 Nw (w41.setCell ((blk w.heap.size).add 4) (.string x34)) fun w42 =>
 Wr w42 ((blk w.heap.size).add 5) ∧
 Nw (w42.setCell ((blk w.heap.size).add 5) (.string x35)) fun w43 =>
 Wr w43 ((blk w.heap.size).add 6) ∧
 Nw (w43.setCell ((blk w.heap.size).add 6) (.int .i64 x36)) fun w44 =>
 Wr w44 ((blk w.heap.size).add 7) ∧
 Nw (w44.setCell ((blk w.heap.size).add 7) (.int .u8 x37)) fun w45 =>
 ldI w45 ((blk w.heap.size).add 0) .u16 fun x38 =>
 ldStr w45 ((blk w.heap.size).add 1) fun x39 =>
 ldB w45 ((blk w.heap.size).add 2) fun x40 =>
 ldB w45 ((blk w.heap.size).add 3) fun x41 =>
 ldStr w45 ((blk w.heap.size).add 4) fun x42 =>
 ldStr w45 ((blk w.heap.size).add 5) fun x43 =>
 ldI w45 ((blk w.heap.size).add 6) .i64 fun x44 =>
 ldI w45 ((blk w.heap.size).add 7) .u8 fun x45 =>
 R (.tuple #[(.agg #[(.int .u16 x38), (.string x39), (.bool x40), (.bool x41), (.string x42), (.string x43), (.int .i64 x44), (.int .u8 x45)]), (.bool true)]) w45)))
 (()) w28)
theorem grammar_Of_calls (p0 : Int) (R : Value → World → Prop) (w : World) (h : L_grammar_Of p0 R w) : Calls Tryz.prog 168 #[(.int .u16 p0)] w (Ret R) :=
 lw_calls (fs := Tryz.fs) (an := a_grammar_Of) (args := [(.int .u16 p0)]) Tryz.fsOK Tryz.mixed Tryz.func168 (by kernel_rfl) (by kernel_rfl)
 (Eq.mpr (by kernel_rfl : lwFn Tryz.prog Tryz.fs Tryz.f168 a_grammar_Of [(.int .u16 p0)] w R = L_grammar_Of p0 R w) h)

/-- intaglio.grammar.Kind -/
def a_grammar_Kind : Ann := (.seq none .nil (.seq none (.seq none .nil (.one (.seq none .nil (.cond (.seq none .nil .nil) (.seq none .nil (.cond (.seq none .nil .nil) (.seq none .nil (.cond (.seq none .nil .nil) .nil)))))))) (.seq none (.seq none .nil (.cond (.seq none .nil .nil) .nil)) (.seq none .nil .nil))))
def L_grammar_Kind (p0 : Int) (R : Value → World → Prop) (w : World) : Prop :=
 ifB (p0 == (105 : Int))
 (R (.int .u8 (1 : Int)) w)
 (ifB (p0 == (110 : Int))
 (R (.int .u8 (2 : Int)) w)
 (ifB (p0 == (115 : Int))
 (R (.int .u8 (3 : Int)) w)
 (callR Tryz.prog 223 #[(.int .u8 p0)] w fun v1 w1 =>
 ∃ x2 : ByteArray, v1 = (.string x2) ∧
 ifB (!(x2.toList == (ByteArray.mk #[]).toList))
 (R (.int .u8 (4 : Int)) w1)
 (R (.int .u8 (0 : Int)) w1))))
theorem grammar_Kind_calls (p0 : Int) (R : Value → World → Prop) (w : World) (h : L_grammar_Kind p0 R w) : Calls Tryz.prog 169 #[(.int .u8 p0)] w (Ret R) :=
 lw_calls (fs := Tryz.fs) (an := a_grammar_Kind) (args := [(.int .u8 p0)]) Tryz.fsOK Tryz.mixed Tryz.func169 (by kernel_rfl) (by kernel_rfl)
 (Eq.mpr (by kernel_rfl : lwFn Tryz.prog Tryz.fs Tryz.f169 a_grammar_Kind [(.int .u8 p0)] w R = L_grammar_Kind p0 R w) h)

/-- (intaglio.grammar.form).letter -/
def a_grammar_form_letter : Ann := (.seq none .nil (.seq none (.seq none .nil (.cond (.seq none .nil .nil) .nil)) (.seq none (.seq none .nil (.one (.loop ⟨[1, 14, 15], [(16, (.b (.int .i64)))]⟩ (.seq none .nil (.seq none (.cond .nil .nil) (.seq none (.one (.seq none .nil (.seq none .nil (.seq none .nil (.cond (.seq none .nil .nil) .nil))))) .nil)))))) (.seq none .nil .nil))))
def L_grammar_form_letter (p0 : (Int × ByteArray × Bool × Bool × ByteArray × ByteArray × Int × Int × Unit)) (p1 : Int) (R : Value → World → Prop) (w : World) : Prop :=
 Nw (w.alloc (.cells #[(.int .u16 p0.1), (.string p0.2.1), (.bool p0.2.2.1), (.bool p0.2.2.2.1), (.string p0.2.2.2.2.1), (.string p0.2.2.2.2.2.1), (.int .i64 p0.2.2.2.2.2.2.1), (.int .u8 p0.2.2.2.2.2.2.2.1)] 230)) fun w1 =>
 ifB (decide (p1 < (0 : Int)))
 (R (.int .u8 (0 : Int)) w1)
 (ldI w1 ((blk w.heap.size).add 0) .u16 fun x1 =>
 ldStr w1 ((blk w.heap.size).add 1) fun x2 =>
 ldB w1 ((blk w.heap.size).add 2) fun x3 =>
 ldB w1 ((blk w.heap.size).add 3) fun x4 =>
 ldStr w1 ((blk w.heap.size).add 4) fun x5 =>
 ldStr w1 ((blk w.heap.size).add 5) fun x6 =>
 ldI w1 ((blk w.heap.size).add 6) .i64 fun x7 =>
 ldI w1 ((blk w.heap.size).add 7) .u8 fun x8 =>
 ldI w1 ((blk w.heap.size).add 0) .u16 fun x9 =>
 ldStr w1 ((blk w.heap.size).add 1) fun x10 =>
 ldB w1 ((blk w.heap.size).add 2) fun x11 =>
 ldB w1 ((blk w.heap.size).add 3) fun x12 =>
 ldStr w1 ((blk w.heap.size).add 4) fun x13 =>
 ldStr w1 ((blk w.heap.size).add 5) fun x14 =>
 ldI w1 ((blk w.heap.size).add 6) .i64 fun x15 =>
 ldI w1 ((blk w.heap.size).add 7) .u8 fun x16 =>
 Nw (w1.alloc (.cells #[(.func (.func 224) #[(.agg #[(.int .u16 x1), (.string x2), (.bool x3), (.bool x4), (.string x5), (.string x6), (.int .i64 x7), (.int .u8 x8)])] #[]), (.func (.func 225) #[(.agg #[(.int .u16 x9), (.string x10), (.bool x11), (.bool x12), (.string x13), (.string x14), (.int .i64 x15), (.int .u8 x16)])] #[])] 231)) fun w2 =>
 LoopW (S := Int × Unit) (fun s17 w3 n18 =>
 ifB (decide (s17.1 < (2 : Int)))
 ((0 ≤ s17.1 ∧ s17.1 < (2 : Int)) ∧
 ldR w3 ((blk w1.heap.size).add (Int.toNat s17.1)) fun x19 =>
 callV Tryz.prog Tryz.fs x19 [(.int .i64 p1)] w3 fun v20 w4 =>
 ∃ x21 : Int, v20 = (.int .u8 x21) ∧
 ifB (x21 != (0 : Int))
 (R (.int .u8 x21) w4)
 (n18 ((IntKind.i64.wrap (s17.1 + (1 : Int))), ()) w4))
 (R (.int .u8 (0 : Int)) w3))
 ((0 : Int), ()) w2)
theorem grammar_form_letter_calls (p0 : (Int × ByteArray × Bool × Bool × ByteArray × ByteArray × Int × Int × Unit)) (p1 : Int) (R : Value → World → Prop) (w : World) (h : L_grammar_form_letter p0 p1 R w) : Calls Tryz.prog 170 #[(.agg #[(.int .u16 p0.1), (.string p0.2.1), (.bool p0.2.2.1), (.bool p0.2.2.2.1), (.string p0.2.2.2.2.1), (.string p0.2.2.2.2.2.1), (.int .i64 p0.2.2.2.2.2.2.1), (.int .u8 p0.2.2.2.2.2.2.2.1)]), (.int .i64 p1)] w (Ret R) :=
 lw_calls (fs := Tryz.fs) (an := a_grammar_form_letter) (args := [(.agg #[(.int .u16 p0.1), (.string p0.2.1), (.bool p0.2.2.1), (.bool p0.2.2.2.1), (.string p0.2.2.2.2.1), (.string p0.2.2.2.2.2.1), (.int .i64 p0.2.2.2.2.2.2.1), (.int .u8 p0.2.2.2.2.2.2.2.1)]), (.int .i64 p1)]) Tryz.fsOK Tryz.mixed Tryz.func170 (by kernel_rfl) (by kernel_rfl)
 (Eq.mpr (by kernel_rfl : lwFn Tryz.prog Tryz.fs Tryz.f170 a_grammar_form_letter [(.agg #[(.int .u16 p0.1), (.string p0.2.1), (.bool p0.2.2.1), (.bool p0.2.2.2.1), (.string p0.2.2.2.2.1), (.string p0.2.2.2.2.2.1), (.int .i64 p0.2.2.2.2.2.2.1), (.int .u8 p0.2.2.2.2.2.2.2.1)]), (.int .i64 p1)] w R = L_grammar_form_letter p0 p1 R w) h)

/-- intaglio.grammar.row -/
def a_grammar_row : Ann := (.seq none .nil (.seq none (.one (.seq none .nil (.cond (.seq none .nil .nil) (.seq none .nil (.cond (.seq none .nil .nil) .nil))))) (.seq none .nil .nil)))
def L_grammar_row (p0 : Int) (R : Value → World → Prop) (w : World) : Prop :=
 ifB (decide (p0 ≤ (71 : Int)))
 (callR Tryz.prog 254 #[(.int .u16 p0)] w fun v1 w1 =>
 ∃ x2 : ByteArray, v1 = (.string x2) ∧
 R (.string x2) w1)
 (ifB (decide (p0 ≤ (171 : Int)))
 (callR Tryz.prog 255 #[(.int .u16 p0)] w fun v3 w2 =>
 ∃ x4 : ByteArray, v3 = (.string x4) ∧
 R (.string x4) w2)
 (callR Tryz.prog 256 #[(.int .u16 p0)] w fun v5 w3 =>
 ∃ x6 : ByteArray, v5 = (.string x6) ∧
 R (.string x6) w3))
theorem grammar_row_calls (p0 : Int) (R : Value → World → Prop) (w : World) (h : L_grammar_row p0 R w) : Calls Tryz.prog 221 #[(.int .u16 p0)] w (Ret R) :=
 lw_calls (fs := Tryz.fs) (an := a_grammar_row) (args := [(.int .u16 p0)]) Tryz.fsOK Tryz.mixed Tryz.func221 (by kernel_rfl) (by kernel_rfl)
 (Eq.mpr (by kernel_rfl : lwFn Tryz.prog Tryz.fs Tryz.f221 a_grammar_row [(.int .u16 p0)] w R = L_grammar_row p0 R w) h)

/-- intaglio.grammar.fields -/
def a_grammar_fields : Ann := (.seq none .nil (.seq none .nil (.seq none .nil (.seq none (.seq none .nil (.one (.loop ⟨[2, 3, 8], [(4, (.b (.int .i64)))]⟩ (.seq none .nil (.seq none (.cond .nil .nil) (.one (.seq none .nil (.seq none .nil (.cond .nil .nil))))))))) (.seq none .nil .nil)))))
def L_grammar_fields (p0 : ByteArray) (R : Value → World → Prop) (w : World) : Prop :=
 Nw (w.alloc (.cells #[(.string (ByteArray.mk #[])), (.string (ByteArray.mk #[])), (.string (ByteArray.mk #[])), (.string (ByteArray.mk #[])), (.string (ByteArray.mk #[])), (.string (ByteArray.mk #[]))] 283)) fun w1 =>
 Nw (w1.alloc (.cells #[(.string (ByteArray.mk #[])), (.string (ByteArray.mk #[])), (.string (ByteArray.mk #[])), (.string (ByteArray.mk #[])), (.string (ByteArray.mk #[])), (.string (ByteArray.mk #[]))] 283)) fun w2 =>
 Nw (w2.alloc (.stringIter p0 0)) fun w3 =>
 LoopW (S := Int × Unit) (fun s1 w4 n2 =>
 nextW w2.heap.size w4 (fun i3 c4 w5 =>
 ifB (c4 == (32 : Int))
 (n2 ((IntKind.i64.wrap (s1.1 + (1 : Int))), ()) w5)
 ((0 ≤ s1.1 ∧ s1.1 < (6 : Int)) ∧
 ldStr w5 ((blk w1.heap.size).add (Int.toNat s1.1)) fun x5 =>
 sumFits x5 (Utf8.encode c4) ∧
 (0 ≤ s1.1 ∧ s1.1 < (6 : Int)) ∧
 Wr w5 ((blk w1.heap.size).add (Int.toNat s1.1)) ∧
 Nw (w5.setCell ((blk w1.heap.size).add (Int.toNat s1.1)) (.string (x5 ++ (Utf8.encode c4)))) fun w6 =>
 n2 (s1.1, ()) w6))
 (ldStr w4 ((blk w1.heap.size).add 0) fun x6 =>
 ldStr w4 ((blk w1.heap.size).add 1) fun x7 =>
 ldStr w4 ((blk w1.heap.size).add 2) fun x8 =>
 ldStr w4 ((blk w1.heap.size).add 3) fun x9 =>
 ldStr w4 ((blk w1.heap.size).add 4) fun x10 =>
 ldStr w4 ((blk w1.heap.size).add 5) fun x11 =>
 Wr w4 (blk w.heap.size) ∧
 Nw (w4.setCell (blk w.heap.size) (.string x6)) fun w7 =>
 Wr w7 ((blk w.heap.size).add 1) ∧
 Nw (w7.setCell ((blk w.heap.size).add 1) (.string x7)) fun w8 =>
 Wr w8 ((blk w.heap.size).add 2) ∧
 Nw (w8.setCell ((blk w.heap.size).add 2) (.string x8)) fun w9 =>
 Wr w9 ((blk w.heap.size).add 3) ∧
 Nw (w9.setCell ((blk w.heap.size).add 3) (.string x9)) fun w10 =>
 Wr w10 ((blk w.heap.size).add 4) ∧
 Nw (w10.setCell ((blk w.heap.size).add 4) (.string x10)) fun w11 =>
 Wr w11 ((blk w.heap.size).add 5) ∧
 Nw (w11.setCell ((blk w.heap.size).add 5) (.string x11)) fun w12 =>
 ldStr w12 ((blk w.heap.size).add 0) fun x12 =>
 ldStr w12 ((blk w.heap.size).add 1) fun x13 =>
 ldStr w12 ((blk w.heap.size).add 2) fun x14 =>
 ldStr w12 ((blk w.heap.size).add 3) fun x15 =>
 ldStr w12 ((blk w.heap.size).add 4) fun x16 =>
 ldStr w12 ((blk w.heap.size).add 5) fun x17 =>
 R (.agg #[(.string x12), (.string x13), (.string x14), (.string x15), (.string x16), (.string x17)]) w12))
 ((0 : Int), ()) w3
theorem grammar_fields_calls (p0 : ByteArray) (R : Value → World → Prop) (w : World) (h : L_grammar_fields p0 R w) : Calls Tryz.prog 222 #[(.string p0)] w (Ret R) :=
 lw_calls (fs := Tryz.fs) (an := a_grammar_fields) (args := [(.string p0)]) Tryz.fsOK Tryz.mixed Tryz.func222 (by kernel_rfl) (by kernel_rfl)
 (Eq.mpr (by kernel_rfl : lwFn Tryz.prog Tryz.fs Tryz.f222 a_grammar_fields [(.string p0)] w R = L_grammar_fields p0 R w) h)

/-- intaglio.grammar.names -/
def a_grammar_names : Ann := (.seq none .nil (.seq none (.seq none .nil (.one (.seq none .nil (.cond (.seq none .nil .nil) (.seq none .nil (.cond (.seq none .nil .nil) (.seq none .nil (.cond (.seq none .nil .nil) (.seq none .nil (.cond (.seq none .nil .nil) (.seq none .nil (.cond (.seq none .nil .nil) (.seq none .nil (.cond (.seq none .nil .nil) (.seq none .nil (.cond (.seq none .nil .nil) (.seq none .nil (.cond (.seq none .nil .nil) (.seq none .nil (.cond (.seq none .nil .nil) (.seq none .nil (.cond (.seq none .nil .nil) (.seq none .nil (.cond (.seq none .nil .nil) .nil)))))))))))))))))))))))) (.seq none .nil .nil)))
def L_grammar_names (p0 : Int) (R : Value → World → Prop) (w : World) : Prop :=
 ifB (p0 == (107 : Int))
 (R (.string (ByteArray.mk #[48, 32, 77, 97, 116, 114, 105, 120, 32, 49, 32, 83, 104, 97, 100, 101, 114, 32])) w)
 (ifB (p0 == (97 : Int))
 (R (.string (ByteArray.mk #[48, 32, 76, 111, 103, 105, 99, 97, 108, 32])) w)
 (ifB (p0 == (109 : Int))
 (R (.string (ByteArray.mk #[48, 32, 83, 105, 109, 112, 108, 101, 32, 49, 32, 71, 76, 83, 76, 52, 53, 48, 32])) w)
 (ifB (p0 == (101 : Int))
 (R (.string (ByteArray.mk #[48, 32, 86, 101, 114, 116, 101, 120, 32, 52, 32, 70, 114, 97, 103, 109, 101, 110, 116, 32])) w)
 (ifB (p0 == (120 : Int))
 (R (.string (ByteArray.mk #[55, 32, 79, 114, 105, 103, 105, 110, 85, 112, 112, 101, 114, 76, 101, 102, 116, 32])) w)
 (ifB (p0 == (108 : Int))
 (R (.string (ByteArray.mk #[48, 32, 85, 110, 107, 110, 111, 119, 110, 32, 49, 32, 69, 83, 83, 76, 32, 50, 32, 71, 76, 83, 76, 32])) w)
 (ifB (p0 == (99 : Int))
 (R (.string (ByteArray.mk #[49, 32, 73, 110, 112, 117, 116, 32, 51, 32, 79, 117, 116, 112, 117, 116, 32, 54, 32, 80, 114, 105, 118, 97, 116, 101, 32, 55, 32, 70, 117, 110, 99, 116, 105, 111, 110, 32])) w)
 (ifB (p0 == (100 : Int))
 (R (.string (ByteArray.mk #[48, 32, 82, 101, 108, 97, 120, 101, 100, 80, 114, 101, 99, 105, 115, 105, 111, 110, 32, 49, 49, 32, 66, 117, 105, 108, 116, 73, 110, 32, 49, 52, 32, 70, 108, 97, 116, 32, 51, 48, 32, 76, 111, 99, 97, 116, 105, 111, 110, 32])) w)
 (ifB (p0 == (102 : Int))
 (R (.string (ByteArray.mk #[48, 32, 78, 111, 110, 101, 32, 49, 32, 73, 110, 108, 105, 110, 101, 32, 50, 32, 68, 111, 110, 116, 73, 110, 108, 105, 110, 101, 32, 52, 32, 80, 117, 114, 101, 32, 56, 32, 67, 111, 110, 115, 116, 32])) w)
 (ifB (p0 == (104 : Int))
 (R (.string (ByteArray.mk #[48, 32, 78, 111, 110, 101, 32, 49, 32, 70, 108, 97, 116, 116, 101, 110, 32, 50, 32, 68, 111, 110, 116, 70, 108, 97, 116, 116, 101, 110, 32])) w)
 (ifB (p0 == (103 : Int))
 (R (.string (ByteArray.mk #[48, 32, 78, 111, 110, 101, 32, 49, 32, 85, 110, 114, 111, 108, 108, 32, 50, 32, 68, 111, 110, 116, 85, 110, 114, 111, 108, 108, 32])) w)
 (R (.string (ByteArray.mk #[])) w)))))))))))
theorem grammar_names_calls (p0 : Int) (R : Value → World → Prop) (w : World) (h : L_grammar_names p0 R w) : Calls Tryz.prog 223 #[(.int .u8 p0)] w (Ret R) :=
 lw_calls (fs := Tryz.fs) (an := a_grammar_names) (args := [(.int .u8 p0)]) Tryz.fsOK Tryz.mixed Tryz.func223 (by kernel_rfl) (by kernel_rfl)
 (Eq.mpr (by kernel_rfl : lwFn Tryz.prog Tryz.fs Tryz.f223 a_grammar_names [(.int .u8 p0)] w R = L_grammar_names p0 R w) h)

/-- (intaglio.grammar.form).fixed -/
def a_grammar_form_fixed : Ann := (.seq none .nil (.seq (some ⟨[1, 2], []⟩) (.seq none .nil (.cond (.seq none .nil .nil) .nil)) (.seq none .nil .nil)))
def L_grammar_form_fixed (p0 : (Int × ByteArray × Bool × Bool × ByteArray × ByteArray × Int × Int × Unit)) (p1 : Int) (R : Value → World → Prop) (w : World) : Prop :=
 Nw (w.alloc (.cells #[(.int .u16 p0.1), (.string p0.2.1), (.bool p0.2.2.1), (.bool p0.2.2.2.1), (.string p0.2.2.2.2.1), (.string p0.2.2.2.2.2.1), (.int .i64 p0.2.2.2.2.2.2.1), (.int .u8 p0.2.2.2.2.2.2.2.1)] 230)) fun w1 =>
 JoinW (S := Unit) (fun m1 =>
 ifB (decide (p1 < (0 : Int)))
 (R (.int .u8 (0 : Int)) w1)
 (ldStr w1 ((blk w.heap.size).add 4) fun x3 =>
 ifB (decide (p1 ≥ (x3.size : Int)))
 (R (.int .u8 (0 : Int)) w1)
 (m1 (()) w1)))
 (fun s2 w2 =>
 ldStr w2 ((blk w.heap.size).add 4) fun x4 =>
 (0 ≤ p1 ∧ p1 < (x4.size : Int)) ∧
 R (.int .u8 (byteI x4 p1)) w2)
theorem grammar_form_fixed_calls (p0 : (Int × ByteArray × Bool × Bool × ByteArray × ByteArray × Int × Int × Unit)) (p1 : Int) (R : Value → World → Prop) (w : World) (h : L_grammar_form_fixed p0 p1 R w) : Calls Tryz.prog 224 #[(.agg #[(.int .u16 p0.1), (.string p0.2.1), (.bool p0.2.2.1), (.bool p0.2.2.2.1), (.string p0.2.2.2.2.1), (.string p0.2.2.2.2.2.1), (.int .i64 p0.2.2.2.2.2.2.1), (.int .u8 p0.2.2.2.2.2.2.2.1)]), (.int .i64 p1)] w (Ret R) :=
 lw_calls (fs := Tryz.fs) (an := a_grammar_form_fixed) (args := [(.agg #[(.int .u16 p0.1), (.string p0.2.1), (.bool p0.2.2.1), (.bool p0.2.2.2.1), (.string p0.2.2.2.2.1), (.string p0.2.2.2.2.2.1), (.int .i64 p0.2.2.2.2.2.2.1), (.int .u8 p0.2.2.2.2.2.2.2.1)]), (.int .i64 p1)]) Tryz.fsOK Tryz.mixed Tryz.func224 (by kernel_rfl) (by kernel_rfl)
 (Eq.mpr (by kernel_rfl : lwFn Tryz.prog Tryz.fs Tryz.f224 a_grammar_form_fixed [(.agg #[(.int .u16 p0.1), (.string p0.2.1), (.bool p0.2.2.1), (.bool p0.2.2.2.1), (.string p0.2.2.2.2.1), (.string p0.2.2.2.2.2.1), (.int .i64 p0.2.2.2.2.2.2.1), (.int .u8 p0.2.2.2.2.2.2.2.1)]), (.int .i64 p1)] w R = L_grammar_form_fixed p0 p1 R w) h)

/-- (intaglio.grammar.form).rest -/
def a_grammar_form_rest : Ann := (.seq none .nil (.seq none .nil (.seq (some ⟨[1, 2], []⟩) (.seq none .nil (.cond (.seq none .nil .nil) .nil)) (.seq none .nil .nil))))
def L_grammar_form_rest (p0 : (Int × ByteArray × Bool × Bool × ByteArray × ByteArray × Int × Int × Unit)) (p1 : Int) (R : Value → World → Prop) (w : World) : Prop :=
 Nw (w.alloc (.cells #[(.int .u16 p0.1), (.string p0.2.1), (.bool p0.2.2.1), (.bool p0.2.2.2.1), (.string p0.2.2.2.2.1), (.string p0.2.2.2.2.2.1), (.int .i64 p0.2.2.2.2.2.2.1), (.int .u8 p0.2.2.2.2.2.2.2.1)] 230)) fun w1 =>
 ldStr w1 ((blk w.heap.size).add 4) fun x1 =>
 JoinW (S := Unit) (fun m2 =>
 ifB (decide ((IntKind.i64.wrap (p1 - (x1.size : Int))) < (0 : Int)))
 (R (.int .u8 (0 : Int)) w1)
 (ldStr w1 ((blk w.heap.size).add 5) fun x4 =>
 ifB (x4.toList == (ByteArray.mk #[]).toList)
 (R (.int .u8 (0 : Int)) w1)
 (ldI w1 ((blk w.heap.size).add 6) .i64 fun x5 =>
 ifB (decide (x5 > (0 : Int)))
 (ldI w1 ((blk w.heap.size).add 6) .i64 fun x6 =>
 ldStr w1 ((blk w.heap.size).add 5) fun x7 =>
 ifB (decide ((IntKind.i64.wrap (p1 - (x1.size : Int))) ≥ (IntKind.i64.wrap (x6 * (x7.size : Int)))))
 (R (.int .u8 (0 : Int)) w1)
 (m2 (()) w1))
 (m2 (()) w1))))
 (fun s3 w2 =>
 ldStr w2.drew ((blk w.heap.size).add 5) fun x8 =>
 ldStr w2.drew ((blk w.heap.size).add 5) fun x9 =>
 ifB (decide ((x9.size : Int) = 0))
 (False)
 ((0 ≤ (Int.tmod (IntKind.i64.wrap (p1 - (x1.size : Int))) (x9.size : Int)) ∧ (Int.tmod (IntKind.i64.wrap (p1 - (x1.size : Int))) (x9.size : Int)) < (x8.size : Int)) ∧
 R (.int .u8 (byteI x8 (Int.tmod (IntKind.i64.wrap (p1 - (x1.size : Int))) (x9.size : Int)))) w2.drew))
theorem grammar_form_rest_calls (p0 : (Int × ByteArray × Bool × Bool × ByteArray × ByteArray × Int × Int × Unit)) (p1 : Int) (R : Value → World → Prop) (w : World) (h : L_grammar_form_rest p0 p1 R w) : Calls Tryz.prog 225 #[(.agg #[(.int .u16 p0.1), (.string p0.2.1), (.bool p0.2.2.1), (.bool p0.2.2.2.1), (.string p0.2.2.2.2.1), (.string p0.2.2.2.2.2.1), (.int .i64 p0.2.2.2.2.2.2.1), (.int .u8 p0.2.2.2.2.2.2.2.1)]), (.int .i64 p1)] w (Ret R) :=
 lw_calls (fs := Tryz.fs) (an := a_grammar_form_rest) (args := [(.agg #[(.int .u16 p0.1), (.string p0.2.1), (.bool p0.2.2.1), (.bool p0.2.2.2.1), (.string p0.2.2.2.2.1), (.string p0.2.2.2.2.2.1), (.int .i64 p0.2.2.2.2.2.2.1), (.int .u8 p0.2.2.2.2.2.2.2.1)]), (.int .i64 p1)]) Tryz.fsOK Tryz.mixed Tryz.func225 (by kernel_rfl) (by kernel_rfl)
 (Eq.mpr (by kernel_rfl : lwFn Tryz.prog Tryz.fs Tryz.f225 a_grammar_form_rest [(.agg #[(.int .u16 p0.1), (.string p0.2.1), (.bool p0.2.2.1), (.bool p0.2.2.2.1), (.string p0.2.2.2.2.1), (.string p0.2.2.2.2.2.1), (.int .i64 p0.2.2.2.2.2.2.1), (.int .u8 p0.2.2.2.2.2.2.2.1)]), (.int .i64 p1)] w R = L_grammar_form_rest p0 p1 R w) h)

/-- intaglio.grammar.Letter -/
def a_grammar_Letter : Ann := (.seq none .nil (.seq none .nil (.seq none .nil .nil)))
def L_grammar_Letter (p0 : Int) (p1 : Int) (R : Value → World → Prop) (w : World) : Prop :=
 callR Tryz.prog 168 #[(.int .u16 p0)] w fun v1 w1 =>
 ∃ x2 : (Int × ByteArray × Bool × Bool × ByteArray × ByteArray × Int × Int × Unit), ∃ x3 : Bool, v1 = (.tuple #[(.agg #[(.int .u16 x2.1), (.string x2.2.1), (.bool x2.2.2.1), (.bool x2.2.2.2.1), (.string x2.2.2.2.2.1), (.string x2.2.2.2.2.2.1), (.int .i64 x2.2.2.2.2.2.2.1), (.int .u8 x2.2.2.2.2.2.2.2.1)]), (.bool x3)]) ∧
 Nw (w1.alloc (.cells #[(.int .u16 (0 : Int)), (.string (ByteArray.mk #[])), (.bool false), (.bool false), (.string (ByteArray.mk #[])), (.string (ByteArray.mk #[])), (.int .i64 (0 : Int)), (.int .u8 (0 : Int))] 178)) fun w2 =>
 Wr w2 (blk w1.heap.size) ∧
 Nw (w2.setCell (blk w1.heap.size) (.int .u16 x2.1)) fun w3 =>
 Wr w3 ((blk w1.heap.size).add 1) ∧
 Nw (w3.setCell ((blk w1.heap.size).add 1) (.string x2.2.1)) fun w4 =>
 Wr w4 ((blk w1.heap.size).add 2) ∧
 Nw (w4.setCell ((blk w1.heap.size).add 2) (.bool x2.2.2.1)) fun w5 =>
 Wr w5 ((blk w1.heap.size).add 3) ∧
 Nw (w5.setCell ((blk w1.heap.size).add 3) (.bool x2.2.2.2.1)) fun w6 =>
 Wr w6 ((blk w1.heap.size).add 4) ∧
 Nw (w6.setCell ((blk w1.heap.size).add 4) (.string x2.2.2.2.2.1)) fun w7 =>
 Wr w7 ((blk w1.heap.size).add 5) ∧
 Nw (w7.setCell ((blk w1.heap.size).add 5) (.string x2.2.2.2.2.2.1)) fun w8 =>
 Wr w8 ((blk w1.heap.size).add 6) ∧
 Nw (w8.setCell ((blk w1.heap.size).add 6) (.int .i64 x2.2.2.2.2.2.2.1)) fun w9 =>
 Wr w9 ((blk w1.heap.size).add 7) ∧
 Nw (w9.setCell ((blk w1.heap.size).add 7) (.int .u8 x2.2.2.2.2.2.2.2.1)) fun w10 =>
 ldI w10 ((blk w1.heap.size).add 0) .u16 fun x4 =>
 ldStr w10 ((blk w1.heap.size).add 1) fun x5 =>
 ldB w10 ((blk w1.heap.size).add 2) fun x6 =>
 ldB w10 ((blk w1.heap.size).add 3) fun x7 =>
 ldStr w10 ((blk w1.heap.size).add 4) fun x8 =>
 ldStr w10 ((blk w1.heap.size).add 5) fun x9 =>
 ldI w10 ((blk w1.heap.size).add 6) .i64 fun x10 =>
 ldI w10 ((blk w1.heap.size).add 7) .u8 fun x11 =>
 callR Tryz.prog 170 #[(.agg #[(.int .u16 x4), (.string x5), (.bool x6), (.bool x7), (.string x8), (.string x9), (.int .i64 x10), (.int .u8 x11)]), (.int .i64 p1)] w10 fun v12 w11 =>
 ∃ x13 : Int, v12 = (.int .u8 x13) ∧
 R (.int .u8 x13) w11
theorem grammar_Letter_calls (p0 : Int) (p1 : Int) (R : Value → World → Prop) (w : World) (h : L_grammar_Letter p0 p1 R w) : Calls Tryz.prog 246 #[(.int .u16 p0), (.int .i64 p1)] w (Ret R) :=
 lw_calls (fs := Tryz.fs) (an := a_grammar_Letter) (args := [(.int .u16 p0), (.int .i64 p1)]) Tryz.fsOK Tryz.mixed Tryz.func246 (by kernel_rfl) (by kernel_rfl)
 (Eq.mpr (by kernel_rfl : lwFn Tryz.prog Tryz.fs Tryz.f246 a_grammar_Letter [(.int .u16 p0), (.int .i64 p1)] w R = L_grammar_Letter p0 p1 R w) h)

/-- intaglio.grammar.first -/
def a_grammar_first : Ann := (.seq none .nil (.seq none (.seq none .nil (.one (.seq none .nil (.cond (.seq none .nil .nil) (.seq none .nil (.cond (.seq none .nil .nil) (.seq none .nil (.cond (.seq none .nil .nil) (.seq none .nil (.cond (.seq none .nil .nil) (.seq none .nil (.cond (.seq none .nil .nil) (.seq none .nil (.cond (.seq none .nil .nil) (.seq none .nil (.cond (.seq none .nil .nil) (.seq none .nil (.cond (.seq none .nil .nil) (.seq none .nil (.cond (.seq none .nil .nil) (.seq none .nil (.cond (.seq none .nil .nil) (.seq none .nil (.cond (.seq none .nil .nil) (.seq none .nil (.cond (.seq none .nil .nil) (.seq none .nil (.cond (.seq none .nil .nil) (.seq none .nil (.cond (.seq none .nil .nil) (.seq none .nil (.cond (.seq none .nil .nil) (.seq none .nil (.cond (.seq none .nil .nil) (.seq none .nil (.cond (.seq none .nil .nil) (.seq none .nil (.cond (.seq none .nil .nil) (.seq none .nil (.cond (.seq none .nil .nil) (.seq none .nil (.cond (.seq none .nil .nil) (.seq none .nil (.cond (.seq none .nil .nil) (.seq none .nil (.cond (.seq none .nil .nil) (.seq none .nil (.cond (.seq none .nil .nil) (.seq none .nil (.cond (.seq none .nil .nil) (.seq none .nil (.cond (.seq none .nil .nil) (.seq none .nil (.cond (.seq none .nil .nil) (.seq none .nil (.cond (.seq none .nil .nil) (.seq none .nil (.cond (.seq none .nil .nil) (.seq none .nil (.cond (.seq none .nil .nil) (.seq none .nil (.cond (.seq none .nil .nil) (.seq none .nil (.cond (.seq none .nil .nil) .nil)))))))))))))))))))))))))))))))))))))))))))))))))))))))))))))))) (.seq none .nil .nil)))
def L_grammar_first (p0 : Int) (R : Value → World → Prop) (w : World) : Prop :=
 ifB (p0 == (1 : Int))
 (R (.string (ByteArray.mk #[79, 112, 85, 110, 100, 101, 102, 32, 84, 82, 32, 32, 32, 32, 55])) w)
 (ifB (p0 == (3 : Int))
 (R (.string (ByteArray.mk #[79, 112, 83, 111, 117, 114, 99, 101, 32, 32, 108, 110, 32, 32, 32, 52])) w)
 (ifB (p0 == (5 : Int))
 (R (.string (ByteArray.mk #[79, 112, 78, 97, 109, 101, 32, 32, 105, 115, 32, 32, 32, 53])) w)
 (ifB (p0 == (6 : Int))
 (R (.string (ByteArray.mk #[79, 112, 77, 101, 109, 98, 101, 114, 78, 97, 109, 101, 32, 32, 105, 110, 115, 32, 32, 32, 53])) w)
 (ifB (p0 == (7 : Int))
 (R (.string (ByteArray.mk #[79, 112, 83, 116, 114, 105, 110, 103, 32, 82, 32, 115, 32, 32, 32, 52])) w)
 (ifB (p0 == (14 : Int))
 (R (.string (ByteArray.mk #[79, 112, 77, 101, 109, 111, 114, 121, 77, 111, 100, 101, 108, 32, 32, 97, 109, 32, 32, 32, 49])) w)
 (ifB (p0 == (15 : Int))
 (R (.string (ByteArray.mk #[79, 112, 69, 110, 116, 114, 121, 80, 111, 105, 110, 116, 32, 32, 101, 105, 115, 32, 105, 32, 32, 50])) w)
 (ifB (p0 == (16 : Int))
 (R (.string (ByteArray.mk #[79, 112, 69, 120, 101, 99, 117, 116, 105, 111, 110, 77, 111, 100, 101, 32, 32, 105, 120, 32, 32, 32, 51])) w)
 (ifB (p0 == (17 : Int))
 (R (.string (ByteArray.mk #[79, 112, 67, 97, 112, 97, 98, 105, 108, 105, 116, 121, 32, 32, 107, 32, 32, 32, 48])) w)
 (ifB (p0 == (19 : Int))
 (R (.string (ByteArray.mk #[79, 112, 84, 121, 112, 101, 86, 111, 105, 100, 32, 82, 32, 32, 32, 32, 55])) w)
 (ifB (p0 == (20 : Int))
 (R (.string (ByteArray.mk #[79, 112, 84, 121, 112, 101, 66, 111, 111, 108, 32, 82, 32, 32, 32, 32, 55])) w)
 (ifB (p0 == (21 : Int))
 (R (.string (ByteArray.mk #[79, 112, 84, 121, 112, 101, 73, 110, 116, 32, 82, 32, 110, 110, 32, 32, 32, 55])) w)
 (ifB (p0 == (23 : Int))
 (R (.string (ByteArray.mk #[79, 112, 84, 121, 112, 101, 86, 101, 99, 116, 111, 114, 32, 82, 32, 105, 110, 32, 32, 32, 55])) w)
 (ifB (p0 == (28 : Int))
 (R (.string (ByteArray.mk #[79, 112, 84, 121, 112, 101, 65, 114, 114, 97, 121, 32, 82, 32, 105, 105, 32, 32, 32, 55])) w)
 (ifB (p0 == (30 : Int))
 (R (.string (ByteArray.mk #[79, 112, 84, 121, 112, 101, 83, 116, 114, 117, 99, 116, 32, 82, 32, 32, 105, 32, 32, 55])) w)
 (ifB (p0 == (32 : Int))
 (R (.string (ByteArray.mk #[79, 112, 84, 121, 112, 101, 80, 111, 105, 110, 116, 101, 114, 32, 82, 32, 99, 105, 32, 32, 32, 55])) w)
 (ifB (p0 == (33 : Int))
 (R (.string (ByteArray.mk #[79, 112, 84, 121, 112, 101, 70, 117, 110, 99, 116, 105, 111, 110, 32, 82, 32, 105, 32, 105, 32, 32, 55])) w)
 (ifB (p0 == (41 : Int))
 (R (.string (ByteArray.mk #[79, 112, 67, 111, 110, 115, 116, 97, 110, 116, 84, 114, 117, 101, 32, 84, 82, 32, 32, 32, 32, 55])) w)
 (ifB (p0 == (42 : Int))
 (R (.string (ByteArray.mk #[79, 112, 67, 111, 110, 115, 116, 97, 110, 116, 70, 97, 108, 115, 101, 32, 84, 82, 32, 32, 32, 32, 55])) w)
 (ifB (p0 == (43 : Int))
 (R (.string (ByteArray.mk #[79, 112, 67, 111, 110, 115, 116, 97, 110, 116, 32, 84, 82, 32, 110, 32, 32, 32, 55])) w)
 (ifB (p0 == (44 : Int))
 (R (.string (ByteArray.mk #[79, 112, 67, 111, 110, 115, 116, 97, 110, 116, 67, 111, 109, 112, 111, 115, 105, 116, 101, 32, 84, 82, 32, 32, 105, 32, 32, 55])) w)
 (ifB (p0 == (46 : Int))
 (R (.string (ByteArray.mk #[79, 112, 67, 111, 110, 115, 116, 97, 110, 116, 78, 117, 108, 108, 32, 84, 82, 32, 32, 32, 32, 55])) w)
 (ifB (p0 == (54 : Int))
 (R (.string (ByteArray.mk #[79, 112, 70, 117, 110, 99, 116, 105, 111, 110, 32, 84, 82, 32, 102, 105, 32, 32, 32, 56])) w)
 (ifB (p0 == (55 : Int))
 (R (.string (ByteArray.mk #[79, 112, 70, 117, 110, 99, 116, 105, 111, 110, 80, 97, 114, 97, 109, 101, 116, 101, 114, 32, 84, 82, 32, 32, 32, 32, 56])) w)
 (ifB (p0 == (56 : Int))
 (R (.string (ByteArray.mk #[79, 112, 70, 117, 110, 99, 116, 105, 111, 110, 69, 110, 100, 32, 32, 32, 32, 32, 56])) w)
 (ifB (p0 == (57 : Int))
 (R (.string (ByteArray.mk #[79, 112, 70, 117, 110, 99, 116, 105, 111, 110, 67, 97, 108, 108, 32, 84, 82, 32, 105, 32, 105, 32, 32, 56])) w)
 (ifB (p0 == (59 : Int))
 (R (.string (ByteArray.mk #[79, 112, 86, 97, 114, 105, 97, 98, 108, 101, 32, 84, 82, 32, 99, 32, 105, 32, 49, 32, 55])) w)
 (ifB (p0 == (61 : Int))
 (R (.string (ByteArray.mk #[79, 112, 76, 111, 97, 100, 32, 84, 82, 32, 105, 32, 32, 32, 56])) w)
 (ifB (p0 == (62 : Int))
 (R (.string (ByteArray.mk #[79, 112, 83, 116, 111, 114, 101, 32, 32, 105, 105, 32, 32, 32, 56])) w)
 (ifB (p0 == (65 : Int))
 (R (.string (ByteArray.mk #[79, 112, 65, 99, 99, 101, 115, 115, 67, 104, 97, 105, 110, 32, 84, 82, 32, 105, 32, 105, 32, 32, 56])) w)
 (ifB (p0 == (71 : Int))
 (R (.string (ByteArray.mk #[79, 112, 68, 101, 99, 111, 114, 97, 116, 101, 32, 32, 105, 100, 32, 110, 32, 32, 54])) w)
 (R (.string (ByteArray.mk #[])) w)))))))))))))))))))))))))))))))
theorem grammar_first_calls (p0 : Int) (R : Value → World → Prop) (w : World) (h : L_grammar_first p0 R w) : Calls Tryz.prog 254 #[(.int .u16 p0)] w (Ret R) :=
 lw_calls (fs := Tryz.fs) (an := a_grammar_first) (args := [(.int .u16 p0)]) Tryz.fsOK Tryz.mixed Tryz.func254 (by kernel_rfl) (by kernel_rfl)
 (Eq.mpr (by kernel_rfl : lwFn Tryz.prog Tryz.fs Tryz.f254 a_grammar_first [(.int .u16 p0)] w R = L_grammar_first p0 R w) h)

/-- intaglio.grammar.second -/
def a_grammar_second : Ann := (.seq none .nil (.seq none (.seq none .nil (.one (.seq none .nil (.cond (.seq none .nil .nil) (.seq none .nil (.cond (.seq none .nil .nil) (.seq none .nil (.cond (.seq none .nil .nil) (.seq none .nil (.cond (.seq none .nil .nil) (.seq none .nil (.cond (.seq none .nil .nil) (.seq none .nil (.cond (.seq none .nil .nil) (.seq none .nil (.cond (.seq none .nil .nil) (.seq none .nil (.cond (.seq none .nil .nil) (.seq none .nil (.cond (.seq none .nil .nil) (.seq none .nil (.cond (.seq none .nil .nil) (.seq none .nil (.cond (.seq none .nil .nil) (.seq none .nil (.cond (.seq none .nil .nil) (.seq none .nil (.cond (.seq none .nil .nil) (.seq none .nil (.cond (.seq none .nil .nil) (.seq none .nil (.cond (.seq none .nil .nil) (.seq none .nil (.cond (.seq none .nil .nil) (.seq none .nil (.cond (.seq none .nil .nil) (.seq none .nil (.cond (.seq none .nil .nil) (.seq none .nil (.cond (.seq none .nil .nil) (.seq none .nil (.cond (.seq none .nil .nil) (.seq none .nil (.cond (.seq none .nil .nil) (.seq none .nil (.cond (.seq none .nil .nil) (.seq none .nil (.cond (.seq none .nil .nil) (.seq none .nil (.cond (.seq none .nil .nil) (.seq none .nil (.cond (.seq none .nil .nil) (.seq none .nil (.cond (.seq none .nil .nil) (.seq none .nil (.cond (.seq none .nil .nil) (.seq none .nil (.cond (.seq none .nil .nil) (.seq none .nil (.cond (.seq none .nil .nil) (.seq none .nil (.cond (.seq none .nil .nil) (.seq none .nil (.cond (.seq none .nil .nil) .nil)))))))))))))))))))))))))))))))))))))))))))))))))))))))))))))))) (.seq none .nil .nil)))
def L_grammar_second (p0 : Int) (R : Value → World → Prop) (w : World) : Prop :=
 ifB (p0 == (77 : Int))
 (R (.string (ByteArray.mk #[79, 112, 86, 101, 99, 116, 111, 114, 69, 120, 116, 114, 97, 99, 116, 68, 121, 110, 97, 109, 105, 99, 32, 84, 82, 32, 105, 105, 32, 32, 32, 56])) w)
 (ifB (p0 == (78 : Int))
 (R (.string (ByteArray.mk #[79, 112, 86, 101, 99, 116, 111, 114, 73, 110, 115, 101, 114, 116, 68, 121, 110, 97, 109, 105, 99, 32, 84, 82, 32, 105, 105, 105, 32, 32, 32, 56])) w)
 (ifB (p0 == (79 : Int))
 (R (.string (ByteArray.mk #[79, 112, 86, 101, 99, 116, 111, 114, 83, 104, 117, 102, 102, 108, 101, 32, 84, 82, 32, 105, 105, 32, 110, 32, 32, 56])) w)
 (ifB (p0 == (80 : Int))
 (R (.string (ByteArray.mk #[79, 112, 67, 111, 109, 112, 111, 115, 105, 116, 101, 67, 111, 110, 115, 116, 114, 117, 99, 116, 32, 84, 82, 32, 32, 105, 32, 32, 56])) w)
 (ifB (p0 == (81 : Int))
 (R (.string (ByteArray.mk #[79, 112, 67, 111, 109, 112, 111, 115, 105, 116, 101, 69, 120, 116, 114, 97, 99, 116, 32, 84, 82, 32, 105, 32, 110, 32, 32, 56])) w)
 (ifB (p0 == (82 : Int))
 (R (.string (ByteArray.mk #[79, 112, 67, 111, 109, 112, 111, 115, 105, 116, 101, 73, 110, 115, 101, 114, 116, 32, 84, 82, 32, 105, 105, 32, 110, 32, 32, 56])) w)
 (ifB (p0 == (83 : Int))
 (R (.string (ByteArray.mk #[79, 112, 67, 111, 112, 121, 79, 98, 106, 101, 99, 116, 32, 84, 82, 32, 105, 32, 32, 32, 56])) w)
 (ifB (p0 == (124 : Int))
 (R (.string (ByteArray.mk #[79, 112, 66, 105, 116, 99, 97, 115, 116, 32, 84, 82, 32, 105, 32, 32, 32, 56])) w)
 (ifB (p0 == (126 : Int))
 (R (.string (ByteArray.mk #[79, 112, 83, 78, 101, 103, 97, 116, 101, 32, 84, 82, 32, 105, 32, 32, 32, 56])) w)
 (ifB (p0 == (128 : Int))
 (R (.string (ByteArray.mk #[79, 112, 73, 65, 100, 100, 32, 84, 82, 32, 105, 105, 32, 32, 32, 56])) w)
 (ifB (p0 == (130 : Int))
 (R (.string (ByteArray.mk #[79, 112, 73, 83, 117, 98, 32, 84, 82, 32, 105, 105, 32, 32, 32, 56])) w)
 (ifB (p0 == (132 : Int))
 (R (.string (ByteArray.mk #[79, 112, 73, 77, 117, 108, 32, 84, 82, 32, 105, 105, 32, 32, 32, 56])) w)
 (ifB (p0 == (134 : Int))
 (R (.string (ByteArray.mk #[79, 112, 85, 68, 105, 118, 32, 84, 82, 32, 105, 105, 32, 32, 32, 56])) w)
 (ifB (p0 == (135 : Int))
 (R (.string (ByteArray.mk #[79, 112, 83, 68, 105, 118, 32, 84, 82, 32, 105, 105, 32, 32, 32, 56])) w)
 (ifB (p0 == (137 : Int))
 (R (.string (ByteArray.mk #[79, 112, 85, 77, 111, 100, 32, 84, 82, 32, 105, 105, 32, 32, 32, 56])) w)
 (ifB (p0 == (138 : Int))
 (R (.string (ByteArray.mk #[79, 112, 83, 82, 101, 109, 32, 84, 82, 32, 105, 105, 32, 32, 32, 56])) w)
 (ifB (p0 == (139 : Int))
 (R (.string (ByteArray.mk #[79, 112, 83, 77, 111, 100, 32, 84, 82, 32, 105, 105, 32, 32, 32, 56])) w)
 (ifB (p0 == (149 : Int))
 (R (.string (ByteArray.mk #[79, 112, 73, 65, 100, 100, 67, 97, 114, 114, 121, 32, 84, 82, 32, 105, 105, 32, 32, 32, 56])) w)
 (ifB (p0 == (150 : Int))
 (R (.string (ByteArray.mk #[79, 112, 73, 83, 117, 98, 66, 111, 114, 114, 111, 119, 32, 84, 82, 32, 105, 105, 32, 32, 32, 56])) w)
 (ifB (p0 == (151 : Int))
 (R (.string (ByteArray.mk #[79, 112, 85, 77, 117, 108, 69, 120, 116, 101, 110, 100, 101, 100, 32, 84, 82, 32, 105, 105, 32, 32, 32, 56])) w)
 (ifB (p0 == (152 : Int))
 (R (.string (ByteArray.mk #[79, 112, 83, 77, 117, 108, 69, 120, 116, 101, 110, 100, 101, 100, 32, 84, 82, 32, 105, 105, 32, 32, 32, 56])) w)
 (ifB (p0 == (154 : Int))
 (R (.string (ByteArray.mk #[79, 112, 65, 110, 121, 32, 84, 82, 32, 105, 32, 32, 32, 56])) w)
 (ifB (p0 == (155 : Int))
 (R (.string (ByteArray.mk #[79, 112, 65, 108, 108, 32, 84, 82, 32, 105, 32, 32, 32, 56])) w)
 (ifB (p0 == (164 : Int))
 (R (.string (ByteArray.mk #[79, 112, 76, 111, 103, 105, 99, 97, 108, 69, 113, 117, 97, 108, 32, 84, 82, 32, 105, 105, 32, 32, 32, 56])) w)
 (ifB (p0 == (165 : Int))
 (R (.string (ByteArray.mk #[79, 112, 76, 111, 103, 105, 99, 97, 108, 78, 111, 116, 69, 113, 117, 97, 108, 32, 84, 82, 32, 105, 105, 32, 32, 32, 56])) w)
 (ifB (p0 == (166 : Int))
 (R (.string (ByteArray.mk #[79, 112, 76, 111, 103, 105, 99, 97, 108, 79, 114, 32, 84, 82, 32, 105, 105, 32, 32, 32, 56])) w)
 (ifB (p0 == (167 : Int))
 (R (.string (ByteArray.mk #[79, 112, 76, 111, 103, 105, 99, 97, 108, 65, 110, 100, 32, 84, 82, 32, 105, 105, 32, 32, 32, 56])) w)
 (ifB (p0 == (168 : Int))
 (R (.string (ByteArray.mk #[79, 112, 76, 111, 103, 105, 99, 97, 108, 78, 111, 116, 32, 84, 82, 32, 105, 32, 32, 32, 56])) w)
 (ifB (p0 == (169 : Int))
 (R (.string (ByteArray.mk #[79, 112, 83, 101, 108, 101, 99, 116, 32, 84, 82, 32, 105, 105, 105, 32, 32, 32, 56])) w)
 (ifB (p0 == (170 : Int))
 (R (.string (ByteArray.mk #[79, 112, 73, 69, 113, 117, 97, 108, 32, 84, 82, 32, 105, 105, 32, 32, 32, 56])) w)
 (ifB (p0 == (171 : Int))
 (R (.string (ByteArray.mk #[79, 112, 73, 78, 111, 116, 69, 113, 117, 97, 108, 32, 84, 82, 32, 105, 105, 32, 32, 32, 56])) w)
 (R (.string (ByteArray.mk #[])) w)))))))))))))))))))))))))))))))
theorem grammar_second_calls (p0 : Int) (R : Value → World → Prop) (w : World) (h : L_grammar_second p0 R w) : Calls Tryz.prog 255 #[(.int .u16 p0)] w (Ret R) :=
 lw_calls (fs := Tryz.fs) (an := a_grammar_second) (args := [(.int .u16 p0)]) Tryz.fsOK Tryz.mixed Tryz.func255 (by kernel_rfl) (by kernel_rfl)
 (Eq.mpr (by kernel_rfl : lwFn Tryz.prog Tryz.fs Tryz.f255 a_grammar_second [(.int .u16 p0)] w R = L_grammar_second p0 R w) h)

/-- intaglio.grammar.third -/
def a_grammar_third : Ann := (.seq none .nil (.seq none (.seq none .nil (.one (.seq none .nil (.cond (.seq none .nil .nil) (.seq none .nil (.cond (.seq none .nil .nil) (.seq none .nil (.cond (.seq none .nil .nil) (.seq none .nil (.cond (.seq none .nil .nil) (.seq none .nil (.cond (.seq none .nil .nil) (.seq none .nil (.cond (.seq none .nil .nil) (.seq none .nil (.cond (.seq none .nil .nil) (.seq none .nil (.cond (.seq none .nil .nil) (.seq none .nil (.cond (.seq none .nil .nil) (.seq none .nil (.cond (.seq none .nil .nil) (.seq none .nil (.cond (.seq none .nil .nil) (.seq none .nil (.cond (.seq none .nil .nil) (.seq none .nil (.cond (.seq none .nil .nil) (.seq none .nil (.cond (.seq none .nil .nil) (.seq none .nil (.cond (.seq none .nil .nil) (.seq none .nil (.cond (.seq none .nil .nil) (.seq none .nil (.cond (.seq none .nil .nil) (.seq none .nil (.cond (.seq none .nil .nil) (.seq none .nil (.cond (.seq none .nil .nil) (.seq none .nil (.cond (.seq none .nil .nil) (.seq none .nil (.cond (.seq none .nil .nil) (.seq none .nil (.cond (.seq none .nil .nil) (.seq none .nil (.cond (.seq none .nil .nil) (.seq none .nil (.cond (.seq none .nil .nil) (.seq none .nil (.cond (.seq none .nil .nil) (.seq none .nil (.cond (.seq none .nil .nil) (.seq none .nil (.cond (.seq none .nil .nil) (.seq none .nil (.cond (.seq none .nil .nil) (.seq none .nil (.cond (.seq none .nil .nil) (.seq none .nil (.cond (.seq none .nil .nil) (.seq none .nil (.cond (.seq none .nil .nil) .nil)))))))))))))))))))))))))))))))))))))))))))))))))))))))))))))))) (.seq none .nil .nil)))
def L_grammar_third (p0 : Int) (R : Value → World → Prop) (w : World) : Prop :=
 ifB (p0 == (172 : Int))
 (R (.string (ByteArray.mk #[79, 112, 85, 71, 114, 101, 97, 116, 101, 114, 84, 104, 97, 110, 32, 84, 82, 32, 105, 105, 32, 32, 32, 56])) w)
 (ifB (p0 == (173 : Int))
 (R (.string (ByteArray.mk #[79, 112, 83, 71, 114, 101, 97, 116, 101, 114, 84, 104, 97, 110, 32, 84, 82, 32, 105, 105, 32, 32, 32, 56])) w)
 (ifB (p0 == (174 : Int))
 (R (.string (ByteArray.mk #[79, 112, 85, 71, 114, 101, 97, 116, 101, 114, 84, 104, 97, 110, 69, 113, 117, 97, 108, 32, 84, 82, 32, 105, 105, 32, 32, 32, 56])) w)
 (ifB (p0 == (175 : Int))
 (R (.string (ByteArray.mk #[79, 112, 83, 71, 114, 101, 97, 116, 101, 114, 84, 104, 97, 110, 69, 113, 117, 97, 108, 32, 84, 82, 32, 105, 105, 32, 32, 32, 56])) w)
 (ifB (p0 == (176 : Int))
 (R (.string (ByteArray.mk #[79, 112, 85, 76, 101, 115, 115, 84, 104, 97, 110, 32, 84, 82, 32, 105, 105, 32, 32, 32, 56])) w)
 (ifB (p0 == (177 : Int))
 (R (.string (ByteArray.mk #[79, 112, 83, 76, 101, 115, 115, 84, 104, 97, 110, 32, 84, 82, 32, 105, 105, 32, 32, 32, 56])) w)
 (ifB (p0 == (178 : Int))
 (R (.string (ByteArray.mk #[79, 112, 85, 76, 101, 115, 115, 84, 104, 97, 110, 69, 113, 117, 97, 108, 32, 84, 82, 32, 105, 105, 32, 32, 32, 56])) w)
 (ifB (p0 == (179 : Int))
 (R (.string (ByteArray.mk #[79, 112, 83, 76, 101, 115, 115, 84, 104, 97, 110, 69, 113, 117, 97, 108, 32, 84, 82, 32, 105, 105, 32, 32, 32, 56])) w)
 (ifB (p0 == (194 : Int))
 (R (.string (ByteArray.mk #[79, 112, 83, 104, 105, 102, 116, 82, 105, 103, 104, 116, 76, 111, 103, 105, 99, 97, 108, 32, 84, 82, 32, 105, 105, 32, 32, 32, 56])) w)
 (ifB (p0 == (195 : Int))
 (R (.string (ByteArray.mk #[79, 112, 83, 104, 105, 102, 116, 82, 105, 103, 104, 116, 65, 114, 105, 116, 104, 109, 101, 116, 105, 99, 32, 84, 82, 32, 105, 105, 32, 32, 32, 56])) w)
 (ifB (p0 == (196 : Int))
 (R (.string (ByteArray.mk #[79, 112, 83, 104, 105, 102, 116, 76, 101, 102, 116, 76, 111, 103, 105, 99, 97, 108, 32, 84, 82, 32, 105, 105, 32, 32, 32, 56])) w)
 (ifB (p0 == (197 : Int))
 (R (.string (ByteArray.mk #[79, 112, 66, 105, 116, 119, 105, 115, 101, 79, 114, 32, 84, 82, 32, 105, 105, 32, 32, 32, 56])) w)
 (ifB (p0 == (198 : Int))
 (R (.string (ByteArray.mk #[79, 112, 66, 105, 116, 119, 105, 115, 101, 88, 111, 114, 32, 84, 82, 32, 105, 105, 32, 32, 32, 56])) w)
 (ifB (p0 == (199 : Int))
 (R (.string (ByteArray.mk #[79, 112, 66, 105, 116, 119, 105, 115, 101, 65, 110, 100, 32, 84, 82, 32, 105, 105, 32, 32, 32, 56])) w)
 (ifB (p0 == (200 : Int))
 (R (.string (ByteArray.mk #[79, 112, 78, 111, 116, 32, 84, 82, 32, 105, 32, 32, 32, 56])) w)
 (ifB (p0 == (201 : Int))
 (R (.string (ByteArray.mk #[79, 112, 66, 105, 116, 70, 105, 101, 108, 100, 73, 110, 115, 101, 114, 116, 32, 84, 82, 32, 105, 105, 105, 105, 32, 32, 32, 56])) w)
 (ifB (p0 == (202 : Int))
 (R (.string (ByteArray.mk #[79, 112, 66, 105, 116, 70, 105, 101, 108, 100, 83, 69, 120, 116, 114, 97, 99, 116, 32, 84, 82, 32, 105, 105, 105, 32, 32, 32, 56])) w)
 (ifB (p0 == (203 : Int))
 (R (.string (ByteArray.mk #[79, 112, 66, 105, 116, 70, 105, 101, 108, 100, 85, 69, 120, 116, 114, 97, 99, 116, 32, 84, 82, 32, 105, 105, 105, 32, 32, 32, 56])) w)
 (ifB (p0 == (204 : Int))
 (R (.string (ByteArray.mk #[79, 112, 66, 105, 116, 82, 101, 118, 101, 114, 115, 101, 32, 84, 82, 32, 105, 32, 32, 32, 56])) w)
 (ifB (p0 == (205 : Int))
 (R (.string (ByteArray.mk #[79, 112, 66, 105, 116, 67, 111, 117, 110, 116, 32, 84, 82, 32, 105, 32, 32, 32, 56])) w)
 (ifB (p0 == (245 : Int))
 (R (.string (ByteArray.mk #[79, 112, 80, 104, 105, 32, 84, 82, 32, 32, 105, 105, 32, 32, 56])) w)
 (ifB (p0 == (246 : Int))
 (R (.string (ByteArray.mk #[79, 112, 76, 111, 111, 112, 77, 101, 114, 103, 101, 32, 32, 105, 105, 103, 32, 32, 32, 56])) w)
 (ifB (p0 == (247 : Int))
 (R (.string (ByteArray.mk #[79, 112, 83, 101, 108, 101, 99, 116, 105, 111, 110, 77, 101, 114, 103, 101, 32, 32, 105, 104, 32, 32, 32, 56])) w)
 (ifB (p0 == (248 : Int))
 (R (.string (ByteArray.mk #[79, 112, 76, 97, 98, 101, 108, 32, 82, 32, 32, 32, 32, 56])) w)
 (ifB (p0 == (249 : Int))
 (R (.string (ByteArray.mk #[79, 112, 66, 114, 97, 110, 99, 104, 32, 32, 105, 32, 32, 32, 56])) w)
 (ifB (p0 == (250 : Int))
 (R (.string (ByteArray.mk #[79, 112, 66, 114, 97, 110, 99, 104, 67, 111, 110, 100, 105, 116, 105, 111, 110, 97, 108, 32, 32, 105, 105, 105, 32, 32, 32, 56])) w)
 (ifB (p0 == (251 : Int))
 (R (.string (ByteArray.mk #[79, 112, 83, 119, 105, 116, 99, 104, 32, 32, 105, 105, 32, 110, 105, 32, 32, 56])) w)
 (ifB (p0 == (252 : Int))
 (R (.string (ByteArray.mk #[79, 112, 75, 105, 108, 108, 32, 32, 32, 32, 32, 56])) w)
 (ifB (p0 == (253 : Int))
 (R (.string (ByteArray.mk #[79, 112, 82, 101, 116, 117, 114, 110, 32, 32, 32, 32, 32, 56])) w)
 (ifB (p0 == (254 : Int))
 (R (.string (ByteArray.mk #[79, 112, 82, 101, 116, 117, 114, 110, 86, 97, 108, 117, 101, 32, 32, 105, 32, 32, 32, 56])) w)
 (ifB (p0 == (255 : Int))
 (R (.string (ByteArray.mk #[79, 112, 85, 110, 114, 101, 97, 99, 104, 97, 98, 108, 101, 32, 32, 32, 32, 32, 56])) w)
 (R (.string (ByteArray.mk #[])) w)))))))))))))))))))))))))))))))
theorem grammar_third_calls (p0 : Int) (R : Value → World → Prop) (w : World) (h : L_grammar_third p0 R w) : Calls Tryz.prog 256 #[(.int .u16 p0)] w (Ret R) :=
 lw_calls (fs := Tryz.fs) (an := a_grammar_third) (args := [(.int .u16 p0)]) Tryz.fsOK Tryz.mixed Tryz.func256 (by kernel_rfl) (by kernel_rfl)
 (Eq.mpr (by kernel_rfl : lwFn Tryz.prog Tryz.fs Tryz.f256 a_grammar_third [(.int .u16 p0)] w R = L_grammar_third p0 R w) h)

/-- intaglio.grammar.Enum -/
def a_grammar_Enum : Ann := (.seq none .nil (.seq none (.seq none .nil (.one (.loop ⟨[], [(10, (.b (.int .u32))), (11, (.b .str))]⟩ (.seq none (.seq none .nil .nil) (.one (.seq none .nil (.cond (.seq none .nil .nil) .nil))))))) (.seq none .nil .nil)))
def L_grammar_Enum (p0 : Int) (p1 : Int) (R : Value → World → Prop) (w : World) : Prop :=
 Nw (w.alloc (.cells #[(.int .u32 p1)] 22)) fun w1 =>
 Nw (w1.alloc (.cells #[(.string (ByteArray.mk #[]))] 9)) fun w2 =>
 Nw (w2.alloc (.cells #[(.bool false)] 4)) fun w3 =>
 callR Tryz.prog 276 #[(.int .u8 p0)] w3 fun v1 w4 =>
 ∃ x2 : Value, v1 = x2 ∧
 RangeW Tryz.prog Tryz.fs x2 w4 (T := Int × ByteArray × Unit) (fun s3 => [(.int .u32 s3.1), (.string s3.2.1)])
 (fun mk4 l5 s3 w5 S6 =>
 w5.heap[l5]? = some (mk4 .ready none) ∧
 Nw (w5.putObj l5 (mk4 .busy none)) fun w6 =>
 ldI w6 (blk w.heap.size) .u32 fun x8 =>
 ifB (s3.1 == x8)
 (Wr w6 (blk w1.heap.size) ∧
 Nw (w6.setCell (blk w1.heap.size) (.string s3.2.1)) fun w7 =>
 Wr w7 (blk w2.heap.size) ∧
 Nw (w7.setCell (blk w2.heap.size) (.bool true)) fun w8 =>
 w8.heap[l5]? = some (mk4 .busy none) ∧
 S6 (.bool false) (w8.putObj l5 (mk4 .done (some .ret))))
 (w6.heap[l5]? = some (mk4 .busy none) ∧
 S6 (.bool true) (w6.putObj l5 (mk4 .ready none))))
 (fun mk4 l5 d7 w9 =>
 (rangeOut mk4 l5 .ready none w9 fun w10 =>
 Wr w10 (blk w1.heap.size) ∧
 Nw (w10.setCell (blk w1.heap.size) (.string (ByteArray.mk #[]))) fun w11 =>
 Wr w11 (blk w2.heap.size) ∧
 Nw (w11.setCell (blk w2.heap.size) (.bool false)) fun w12 =>
 closeM (d7 :: []) w12 fun w13 =>
 ldStr w13 (blk w1.heap.size) fun x9 =>
 ldB w13 (blk w2.heap.size) fun x10 =>
 R (.tuple #[(.string x9), (.bool x10)]) w13) ∨
 (rangeOut mk4 l5 .done (some .ret) w9 fun w14 =>
 closeM (d7 :: []) w14 fun w15 =>
 ldStr w15 (blk w1.heap.size) fun x11 =>
 ldB w15 (blk w2.heap.size) fun x12 =>
 R (.tuple #[(.string x11), (.bool x12)]) w15))
theorem grammar_Enum_calls (p0 : Int) (p1 : Int) (R : Value → World → Prop) (w : World) (h : L_grammar_Enum p0 p1 R w) : Calls Tryz.prog 270 #[(.int .u8 p0), (.int .u32 p1)] w (Ret R) :=
 lwR_calls (fs := Tryz.fs) (an := a_grammar_Enum) (args := [(.int .u8 p0), (.int .u32 p1)]) Tryz.fsOK Tryz.mixed Tryz.func270 (by kernel_rfl) (by kernel_rfl)
 (Eq.mpr (by kernel_rfl : lwRFn Tryz.prog Tryz.fs Tryz.f270 a_grammar_Enum [(.int .u8 p0), (.int .u32 p1)] w R = L_grammar_Enum p0 p1 R w) h)

/-- intaglio.grammar.Enums -/
def a_grammar_Enums : Ann := (.seq none .nil (.seq none .nil .nil))
def L_grammar_Enums (p0 : Int) (R : Value → World → Prop) (w : World) : Prop :=
 Nw (w.alloc (.cells #[(.int .u8 p0)] 5)) fun w1 =>
 R (.func (.func 279) #[] #[(.pointer (some (blk w.heap.size)))]) w1
theorem grammar_Enums_calls (p0 : Int) (R : Value → World → Prop) (w : World) (h : L_grammar_Enums p0 R w) : Calls Tryz.prog 276 #[(.int .u8 p0)] w (Ret R) :=
 lw_calls (fs := Tryz.fs) (an := a_grammar_Enums) (args := [(.int .u8 p0)]) Tryz.fsOK Tryz.mixed Tryz.func276 (by kernel_rfl) (by kernel_rfl)
 (Eq.mpr (by kernel_rfl : lwFn Tryz.prog Tryz.fs Tryz.f276 a_grammar_Enums [(.int .u8 p0)] w R = L_grammar_Enums p0 R w) h)

/-- intaglio.grammar.Enums 1 -/
def a_grammar_Enums_1 : Ann := (.seq none .nil (.seq none .nil (.seq none .nil (.seq none .nil (.one (.loop ⟨[0, 11], [(3, (.b (.int .u32))), (5, (.b .str)), (6, (.b .bool))]⟩ (.seq none .nil (.seq none (.cond .nil .nil) (.one (.seq none .nil (.seq (some ⟨[0, 6, 11], [(3, (.b (.int .u32)))]⟩) (.one (.seq none .nil (.cond (.seq none .nil .nil) (.seq none .nil (.cond .nil (.seq none .nil (.seq none .nil (.cond .nil .nil)))))))) (.seq none .nil .nil))))))))))))
def L_grammar_Enums_1 (p0 : Value) (c0 : Addr) (R : Value → World → Prop) (w : World) : Prop :=
 ldI w c0 .u8 fun x1 =>
 callR Tryz.prog 223 #[(.int .u8 x1)] w fun v2 w1 =>
 ∃ x3 : ByteArray, v2 = (.string x3) ∧
 Nw (w1.alloc (.stringIter x3 0)) fun w2 =>
 LoopW (S := Int × ByteArray × Bool × Unit) (fun s4 w3 n5 =>
 nextW w1.heap.size w3 (fun i6 c7 w4 =>
 JoinW (S := Int × Unit) (fun m8 =>
 ifB (c7 != (32 : Int))
 (sumFits s4.2.1 (Utf8.encode c7) ∧
 n5 (s4.1, (s4.2.1 ++ (Utf8.encode c7)), s4.2.2.1, ()) w4)
 (ifB (!s4.2.2.1)
 (callR Tryz.prog 280 #[(.string s4.2.1)] w4 fun v10 w5 =>
 ∃ x11 : Int, v10 = (.int .u32 x11) ∧
 m8 (x11, ()) w5)
 (callV Tryz.prog Tryz.fs p0 [(.int .u32 s4.1), (.string s4.2.1)] w4 fun v12 w6 =>
 ∃ x13 : Bool, v12 = (.bool x13) ∧
 ifB (!x13)
 (R (.tuple #[]) w6)
 (m8 (s4.1, ()) w6))))
 (fun s9 w7 =>
 n5 (s9.1, (ByteArray.mk #[]), (!s4.2.2.1), ()) w7))
 (R (.tuple #[]) w3))
 ((0 : Int), (ByteArray.mk #[]), false, ()) w2
theorem grammar_Enums_1_calls (p0 : Value) (c0 : Addr) (R : Value → World → Prop) (w : World) (h : L_grammar_Enums_1 p0 c0 R w) : Calls Tryz.prog 279 #[p0, (.pointer (some c0))] w (Ret R) :=
 lw_calls (fs := Tryz.fs) (an := a_grammar_Enums_1) (args := [p0, (.pointer (some c0))]) Tryz.fsOK Tryz.mixed Tryz.func279 (by kernel_rfl) (by kernel_rfl)
 (Eq.mpr (by kernel_rfl : lwFn Tryz.prog Tryz.fs Tryz.f279 a_grammar_Enums_1 [p0, (.pointer (some c0))] w R = L_grammar_Enums_1 p0 c0 R w) h)

/-- intaglio.grammar.number -/
def a_grammar_number : Ann := (.seq none .nil (.seq none .nil (.seq none (.seq none .nil (.one (.loop ⟨[7], [(3, (.b (.int .u32)))]⟩ (.seq none .nil (.seq none (.cond .nil .nil) (.one (.seq none .nil .nil))))))) (.seq none .nil .nil))))
def L_grammar_number (p0 : ByteArray) (R : Value → World → Prop) (w : World) : Prop :=
 Nw (w.alloc (.stringIter p0 0)) fun w1 =>
 LoopW (S := Int × Unit) (fun s1 w2 n2 =>
 nextW w.heap.size w2 (fun i3 c4 w3 =>
 n2 ((IntKind.u32.wrap ((IntKind.u32.wrap ((10 : Int) * s1.1)) + (IntKind.u32.wrap (IntKind.i32.wrap (c4 - (48 : Int)))))), ()) w3)
 (R (.int .u32 s1.1) w2))
 ((0 : Int), ()) w1
theorem grammar_number_calls (p0 : ByteArray) (R : Value → World → Prop) (w : World) (h : L_grammar_number p0 R w) : Calls Tryz.prog 280 #[(.string p0)] w (Ret R) :=
 lw_calls (fs := Tryz.fs) (an := a_grammar_number) (args := [(.string p0)]) Tryz.fsOK Tryz.mixed Tryz.func280 (by kernel_rfl) (by kernel_rfl)
 (Eq.mpr (by kernel_rfl : lwFn Tryz.prog Tryz.fs Tryz.f280 a_grammar_number [(.string p0)] w R = L_grammar_number p0 R w) h)

end Go.Proofs
