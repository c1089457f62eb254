/-
 Printed by a program of the author: what each function comes to.
-/
import Derived.Test.YtpeonjpjphhenaaProg
import Derived.Test.YtpeonjpjphhenaaGkR
import Derived.Test.YtpeonjpjphhenaaLb
namespace Go.Proofs
open Go.Gk
set_option linter.unusedVariables false
set_option maxRecDepth 100000

/-- intaglio.ids.Alike -/
def a_ids_Alike : Ann := (.seq none .nil (.seq (some ⟨[2, 3], []⟩) (.seq none .nil (.cond (.seq none .nil .nil) .nil)) (.seq none .nil (.seq none (.seq none .nil (.one (.loop ⟨[3, 5, 40, 41], [(42, (.b (.int .i64)))]⟩ (.seq none .nil (.seq none (.cond .nil .nil) (.seq none (.one (.seq none .nil (.seq none .nil (.cond (.seq none .nil .nil) .nil)))) .nil)))))) (.seq none .nil .nil)))))
def L_ids_Alike (p0 : (Int × Int × Sl × Unit)) (p1 : (Int × Int × Sl × Unit)) (R : Value → World → Prop) (w : World) : Prop :=
 Nw (w.alloc (.cells #[(.int .u32 p0.1), (.int .u32 p0.2.1), (.slice p0.2.2.1.a p0.2.2.1.l p0.2.2.1.c)] 25)) fun w1 =>
 Nw (w1.alloc (.cells #[(.int .u32 p1.1), (.int .u32 p1.2.1), (.slice p1.2.2.1.a p1.2.2.1.l p1.2.2.1.c)] 25)) fun w2 =>
 JoinW (S := Unit) (fun m1 =>
 ldI w2 ((blk w.heap.size).add 0) .u32 fun x3 =>
 ldI w2 ((blk w.heap.size).add 1) .u32 fun x4 =>
 ldS w2 ((blk w.heap.size).add 2) fun x5 =>
 callR Try.prog 48 #[(.agg #[(.int .u32 x3), (.int .u32 x4), (.slice x5.a x5.l x5.c)])] w2 fun v6 w3 =>
 ∃ x7 : (Int × Int × Unit), v6 = (.agg #[(.int .i64 x7.1), (.int .i64 x7.2.1)]) ∧
 ifB (x7.1 != (0 : Int))
 (R (.bool false) w3)
 (ldI w3 ((blk w1.heap.size).add 0) .u32 fun x8 =>
 ldI w3 ((blk w1.heap.size).add 1) .u32 fun x9 =>
 ldS w3 ((blk w1.heap.size).add 2) fun x10 =>
 callR Try.prog 48 #[(.agg #[(.int .u32 x8), (.int .u32 x9), (.slice x10.a x10.l x10.c)])] w3 fun v11 w4 =>
 ∃ x12 : (Int × Int × Unit), v11 = (.agg #[(.int .i64 x12.1), (.int .i64 x12.2.1)]) ∧
 ifB (x12.1 != (0 : Int))
 (R (.bool false) w4)
 (ldI w4 (blk w.heap.size) .u32 fun x13 =>
 ldI w4 (blk w1.heap.size) .u32 fun x14 =>
 ifB (x13 != x14)
 (R (.bool false) w4)
 (ldS w4 ((blk w.heap.size).add 2) fun x15 =>
 ldS w4 ((blk w1.heap.size).add 2) fun x16 =>
 ifB ((x15.l : Int) != (x16.l : Int))
 (R (.bool false) w4)
 (m1 (()) w4)))))
 (fun s2 w5 =>
 Nw (w5.alloc (.map #[] 0)) fun w6 =>
 updW Try.prog 83 (.map (some w5.heap.size)) (.int .u32 (0 : Int)) (.int .u32 (0 : Int)) w6 fun w7 =>
 Nw (w7.alloc (.map #[] 0)) fun w8 =>
 updW Try.prog 83 (.map (some w7.heap.size)) (.int .u32 (0 : Int)) (.int .u32 (0 : Int)) w8 fun w9 =>
 Nw (w9.alloc (.cells #[(.map none), (.map none)] 94)) fun w10 =>
 Wr w10 (blk w9.heap.size) ∧
 Nw (w10.setCell (blk w9.heap.size) (.map (some w5.heap.size))) fun w11 =>
 Wr w11 ((blk w9.heap.size).add 1) ∧
 Nw (w11.setCell ((blk w9.heap.size).add 1) (.map (some w7.heap.size))) fun w12 =>
 ldS w12 ((blk w.heap.size).add 2) fun x17 =>
 LoopW (S := Int × Unit) (fun s18 w13 n19 =>
 ifB (decide (s18.1 < (x17.l : Int)))
 ((0 ≤ s18.1 ∧ s18.1 < (x17.l : Int)) ∧
 derefP x17.a fun a20 =>
 ldI w13 ((a20.add ((Int.toNat s18.1) * 4)).add 0) .u16 fun x21 =>
 ldI w13 ((a20.add ((Int.toNat s18.1) * 4)).add 1) .u32 fun x22 =>
 ldI w13 ((a20.add ((Int.toNat s18.1) * 4)).add 2) .u32 fun x23 =>
 ldS w13 ((a20.add ((Int.toNat s18.1) * 4)).add 3) fun x24 =>
 Nw (w13.alloc (.cells #[(.int .u16 (0 : Int)), (.int .u32 (0 : Int)), (.int .u32 (0 : Int)), (.slice none 0 0)] 45)) fun w14 =>
 Wr w14 (blk w13.heap.size) ∧
 Nw (w14.setCell (blk w13.heap.size) (.int .u16 x21)) fun w15 =>
 Wr w15 ((blk w13.heap.size).add 1) ∧
 Nw (w15.setCell ((blk w13.heap.size).add 1) (.int .u32 x22)) fun w16 =>
 Wr w16 ((blk w13.heap.size).add 2) ∧
 Nw (w16.setCell ((blk w13.heap.size).add 2) (.int .u32 x23)) fun w17 =>
 Wr w17 ((blk w13.heap.size).add 3) ∧
 Nw (w17.setCell ((blk w13.heap.size).add 3) (.slice x24.a x24.l x24.c)) fun w18 =>
 ldM w18.drew ((blk w9.heap.size).add 0) fun x25 =>
 ldM w18.drew ((blk w9.heap.size).add 1) fun x26 =>
 ldI w18.drew ((blk w13.heap.size).add 0) .u16 fun x27 =>
 ldI w18.drew ((blk w13.heap.size).add 1) .u32 fun x28 =>
 ldI w18.drew ((blk w13.heap.size).add 2) .u32 fun x29 =>
 ldS w18.drew ((blk w13.heap.size).add 3) fun x30 =>
 ldS w18.drew ((blk w1.heap.size).add 2) fun x31 =>
 (0 ≤ s18.1 ∧ s18.1 < (x31.l : Int)) ∧
 derefP x31.a fun a32 =>
 ldI w18.drew ((a32.add ((Int.toNat s18.1) * 4)).add 0) .u16 fun x33 =>
 ldI w18.drew ((a32.add ((Int.toNat s18.1) * 4)).add 1) .u32 fun x34 =>
 ldI w18.drew ((a32.add ((Int.toNat s18.1) * 4)).add 2) .u32 fun x35 =>
 ldS w18.drew ((a32.add ((Int.toNat s18.1) * 4)).add 3) fun x36 =>
 callR Try.prog 52 #[(.agg #[(.map x25), (.map x26)]), (.agg #[(.int .u16 x27), (.int .u32 x28), (.int .u32 x29), (.slice x30.a x30.l x30.c)]), (.agg #[(.int .u16 x33), (.int .u32 x34), (.int .u32 x35), (.slice x36.a x36.l x36.c)])] w18.drew fun v37 w19 =>
 ∃ x38 : Bool, v37 = (.bool x38) ∧
 ifB (!x38)
 (R (.bool false) w19)
 (n19 ((IntKind.i64.wrap (s18.1 + (1 : Int))), ()) w19))
 (R (.bool true) w13))
 ((0 : Int), ()) w12)
theorem ids_Alike_calls (p0 : (Int × Int × Sl × Unit)) (p1 : (Int × Int × Sl × Unit)) (R : Value → World → Prop) (w : World) (h : L_ids_Alike p0 p1 R w) : Calls Try.prog 23 #[(.agg #[(.int .u32 p0.1), (.int .u32 p0.2.1), (.slice p0.2.2.1.a p0.2.2.1.l p0.2.2.1.c)]), (.agg #[(.int .u32 p1.1), (.int .u32 p1.2.1), (.slice p1.2.2.1.a p1.2.2.1.l p1.2.2.1.c)])] w (Ret R) :=
 lw_calls (fs := Try.fs) (an := a_ids_Alike) (args := [(.agg #[(.int .u32 p0.1), (.int .u32 p0.2.1), (.slice p0.2.2.1.a p0.2.2.1.l p0.2.2.1.c)]), (.agg #[(.int .u32 p1.1), (.int .u32 p1.2.1), (.slice p1.2.2.1.a p1.2.2.1.l p1.2.2.1.c)])]) Try.fsOK Try.mixed Try.func23 (by kernel_rfl) (by kernel_rfl)
 (Eq.mpr (by kernel_rfl : lwFn Try.prog Try.fs Try.f23 a_ids_Alike [(.agg #[(.int .u32 p0.1), (.int .u32 p0.2.1), (.slice p0.2.2.1.a p0.2.2.1.l p0.2.2.1.c)]), (.agg #[(.int .u32 p1.1), (.int .u32 p1.2.1), (.slice p1.2.2.1.a p1.2.2.1.l p1.2.2.1.c)])] w R = L_ids_Alike p0 p1 R w) h)

/-- (intaglio.ids.pairs).inst -/
def a_ids_pairs_inst : Ann := (.seq none .nil (.seq (some ⟨[3, 4, 5], []⟩) (.seq none .nil (.cond (.seq none .nil .nil) .nil)) (.seq none (.seq none .nil (.one (.loop ⟨[3, 5, 43, 44], [(45, (.b (.int .i64)))]⟩ (.seq none .nil (.seq none (.cond .nil .nil) (.seq (some ⟨[3, 5, 43, 44, 45], []⟩) (.one (.seq none .nil (.seq none .nil (.seq (some ⟨[3, 5, 8, 9, 43, 44, 45], []⟩) (.seq none .nil (.cond (.seq none (.seq none .nil (.cond (.seq none .nil .nil) .nil)) .nil) .nil)) (.seq none .nil (.cond (.seq none .nil .nil) .nil)))))) .nil)))))) (.seq none .nil .nil))))
def L_ids_pairs_inst (p0 : ((Option Nat) × (Option Nat) × Unit)) (p1 : (Int × Int × Int × Sl × Unit)) (p2 : (Int × Int × Int × Sl × Unit)) (R : Value → World → Prop) (w : World) : Prop :=
 Nw (w.alloc (.cells #[(.map p0.1), (.map p0.2.1)] 94)) fun w1 =>
 Nw (w1.alloc (.cells #[(.int .u16 p1.1), (.int .u32 p1.2.1), (.int .u32 p1.2.2.1), (.slice p1.2.2.2.1.a p1.2.2.2.1.l p1.2.2.2.1.c)] 45)) fun w2 =>
 Nw (w2.alloc (.cells #[(.int .u16 p2.1), (.int .u32 p2.2.1), (.int .u32 p2.2.2.1), (.slice p2.2.2.2.1.a p2.2.2.2.1.l p2.2.2.2.1.c)] 45)) fun w3 =>
 JoinW (S := Unit) (fun m1 =>
 ldI w3 (blk w1.heap.size) .u16 fun x3 =>
 ldI w3 (blk w2.heap.size) .u16 fun x4 =>
 ifB (x3 != x4)
 (R (.bool false) w3)
 (ldS w3 ((blk w1.heap.size).add 3) fun x5 =>
 ldS w3 ((blk w2.heap.size).add 3) fun x6 =>
 ifB ((x5.l : Int) != (x6.l : Int))
 (R (.bool false) w3)
 (ldM w3 ((blk w.heap.size).add 0) fun x7 =>
 ldM w3 ((blk w.heap.size).add 1) fun x8 =>
 ldI w3 ((blk w1.heap.size).add 1) .u32 fun x9 =>
 ldI w3 ((blk w2.heap.size).add 1) .u32 fun x10 =>
 callR Try.prog 81 #[(.agg #[(.map x7), (.map x8)]), (.int .u32 x9), (.int .u32 x10)] w3 fun v11 w4 =>
 ∃ x12 : Bool, v11 = (.bool x12) ∧
 ifB (!x12)
 (R (.bool false) w4)
 (ldM w4 ((blk w.heap.size).add 0) fun x13 =>
 ldM w4 ((blk w.heap.size).add 1) fun x14 =>
 ldI w4 ((blk w1.heap.size).add 2) .u32 fun x15 =>
 ldI w4 ((blk w2.heap.size).add 2) .u32 fun x16 =>
 callR Try.prog 81 #[(.agg #[(.map x13), (.map x14)]), (.int .u32 x15), (.int .u32 x16)] w4 fun v17 w5 =>
 ∃ x18 : Bool, v17 = (.bool x18) ∧
 ifB (!x18)
 (R (.bool false) w5)
 (m1 (()) w5)))))
 (fun s2 w6 =>
 ldS w6 ((blk w1.heap.size).add 3) fun x19 =>
 LoopW (S := Int × Unit) (fun s20 w7 n21 =>
 ifB (decide (s20.1 < (x19.l : Int)))
 (JoinW (S := Unit) (fun m22 =>
 (0 ≤ s20.1 ∧ s20.1 < (x19.l : Int)) ∧
 derefP x19.a fun a24 =>
 ldI w7 ((a24.add ((Int.toNat s20.1) * 3)).add 0) .u8 fun x25 =>
 ldI w7 ((a24.add ((Int.toNat s20.1) * 3)).add 1) .u32 fun x26 =>
 ldStr w7 ((a24.add ((Int.toNat s20.1) * 3)).add 2) fun x27 =>
 Nw (w7.alloc (.cells #[(.int .u8 (0 : Int)), (.int .u32 (0 : Int)), (.string (ByteArray.mk #[]))] 87)) fun w8 =>
 Wr w8 (blk w7.heap.size) ∧
 Nw (w8.setCell (blk w7.heap.size) (.int .u8 x25)) fun w9 =>
 Wr w9 ((blk w7.heap.size).add 1) ∧
 Nw (w9.setCell ((blk w7.heap.size).add 1) (.int .u32 x26)) fun w10 =>
 Wr w10 ((blk w7.heap.size).add 2) ∧
 Nw (w10.setCell ((blk w7.heap.size).add 2) (.string x27)) fun w11 =>
 ldS w11 ((blk w2.heap.size).add 3) fun x28 =>
 (0 ≤ s20.1 ∧ s20.1 < (x28.l : Int)) ∧
 derefP x28.a fun a29 =>
 ldI w11 ((a29.add ((Int.toNat s20.1) * 3)).add 0) .u8 fun x30 =>
 ldI w11 ((a29.add ((Int.toNat s20.1) * 3)).add 1) .u32 fun x31 =>
 ldStr w11 ((a29.add ((Int.toNat s20.1) * 3)).add 2) fun x32 =>
 Nw (w11.alloc (.cells #[(.int .u8 (0 : Int)), (.int .u32 (0 : Int)), (.string (ByteArray.mk #[]))] 87)) fun w12 =>
 Wr w12 (blk w11.heap.size) ∧
 Nw (w12.setCell (blk w11.heap.size) (.int .u8 x30)) fun w13 =>
 Wr w13 ((blk w11.heap.size).add 1) ∧
 Nw (w13.setCell ((blk w11.heap.size).add 1) (.int .u32 x31)) fun w14 =>
 Wr w14 ((blk w11.heap.size).add 2) ∧
 Nw (w14.setCell ((blk w11.heap.size).add 2) (.string x32)) fun w15 =>
 JoinW (S := Unit) (fun m33 =>
 ldI w15 (blk w7.heap.size) .u8 fun x35 =>
 ifB (x35 == (1 : Int))
 (ldI w15 (blk w11.heap.size) .u8 fun x36 =>
 ifB (x36 == (1 : Int))
 (ldM w15 ((blk w.heap.size).add 0) fun x37 =>
 ldM w15 ((blk w.heap.size).add 1) fun x38 =>
 ldI w15 ((blk w7.heap.size).add 1) .u32 fun x39 =>
 ldI w15 ((blk w11.heap.size).add 1) .u32 fun x40 =>
 callR Try.prog 81 #[(.agg #[(.map x37), (.map x38)]), (.int .u32 x39), (.int .u32 x40)] w15 fun v41 w16 =>
 ∃ x42 : Bool, v41 = (.bool x42) ∧
 ifB (!x42)
 (R (.bool false) w16)
 (m22 (()) w16))
 (m33 (()) w15))
 (m33 (()) w15))
 (fun s34 w17 =>
 ldI w17 ((blk w7.heap.size).add 0) .u8 fun x43 =>
 ldI w17 ((blk w7.heap.size).add 1) .u32 fun x44 =>
 ldStr w17 ((blk w7.heap.size).add 2) fun x45 =>
 ldI w17 ((blk w11.heap.size).add 0) .u8 fun x46 =>
 ldI w17 ((blk w11.heap.size).add 1) .u32 fun x47 =>
 ldStr w17 ((blk w11.heap.size).add 2) fun x48 =>
 ifB (!(x43 == x46 && (x44 == x47 && (x45 == x48 && true))))
 (R (.bool false) w17)
 (m22 (()) w17)))
 (fun s23 w18 =>
 n21 ((IntKind.i64.wrap (s20.1 + (1 : Int))), ()) w18))
 (R (.bool true) w7))
 ((0 : Int), ()) w6)
theorem ids_pairs_inst_calls (p0 : ((Option Nat) × (Option Nat) × Unit)) (p1 : (Int × Int × Int × Sl × Unit)) (p2 : (Int × Int × Int × Sl × Unit)) (R : Value → World → Prop) (w : World) (h : L_ids_pairs_inst p0 p1 p2 R w) : Calls Try.prog 52 #[(.agg #[(.map p0.1), (.map p0.2.1)]), (.agg #[(.int .u16 p1.1), (.int .u32 p1.2.1), (.int .u32 p1.2.2.1), (.slice p1.2.2.2.1.a p1.2.2.2.1.l p1.2.2.2.1.c)]), (.agg #[(.int .u16 p2.1), (.int .u32 p2.2.1), (.int .u32 p2.2.2.1), (.slice p2.2.2.2.1.a p2.2.2.2.1.l p2.2.2.2.1.c)])] w (Ret R) :=
 lw_calls (fs := Try.fs) (an := a_ids_pairs_inst) (args := [(.agg #[(.map p0.1), (.map p0.2.1)]), (.agg #[(.int .u16 p1.1), (.int .u32 p1.2.1), (.int .u32 p1.2.2.1), (.slice p1.2.2.2.1.a p1.2.2.2.1.l p1.2.2.2.1.c)]), (.agg #[(.int .u16 p2.1), (.int .u32 p2.2.1), (.int .u32 p2.2.2.1), (.slice p2.2.2.2.1.a p2.2.2.2.1.l p2.2.2.2.1.c)])]) Try.fsOK Try.mixed Try.func52 (by kernel_rfl) (by kernel_rfl)
 (Eq.mpr (by kernel_rfl : lwFn Try.prog Try.fs Try.f52 a_ids_pairs_inst [(.agg #[(.map p0.1), (.map p0.2.1)]), (.agg #[(.int .u16 p1.1), (.int .u32 p1.2.1), (.int .u32 p1.2.2.1), (.slice p1.2.2.2.1.a p1.2.2.2.1.l p1.2.2.2.1.c)]), (.agg #[(.int .u16 p2.1), (.int .u32 p2.2.1), (.int .u32 p2.2.2.1), (.slice p2.2.2.2.1.a p2.2.2.2.1.l p2.2.2.2.1.c)])] w R = L_ids_pairs_inst p0 p1 p2 R w) h)

/-- (intaglio.ids.pairs).pair -/
def a_ids_pairs_pair : Ann := (.seq none .nil (.seq none .nil (.seq none .nil (.seq (some ⟨[1, 2, 3], []⟩) (.seq none .nil (.cond (.seq none .nil .nil) .nil)) (.seq none .nil (.seq none .nil .nil))))))
def L_ids_pairs_pair (p0 : ((Option Nat) × (Option Nat) × Unit)) (p1 : Int) (p2 : Int) (R : Value → World → Prop) (w : World) : Prop :=
 Nw (w.alloc (.cells #[(.map p0.1), (.map p0.2.1)] 94)) fun w1 =>
 ldM w1 (blk w.heap.size) fun x1 =>
 lookOk Try.prog 83 (.map x1) (.int .u32 p1) (BK.int .u32) w1 fun (x2 : Int) (b3 : Bool) =>
 ldM w1 ((blk w.heap.size).add 1) fun x4 =>
 lookOk Try.prog 83 (.map x4) (.int .u32 p2) (BK.int .u32) w1 fun (x5 : Int) (b6 : Bool) =>
 JoinW (S := Unit) (fun m7 =>
 ifB b3
 (ifB b3
 (ifB b6
 (ifB (x2 == p2)
 (R (.bool (x5 == p1)) w1)
 (R (.bool false) w1))
 (R (.bool false) w1))
 (R (.bool false) w1))
 (ifB b6
 (ifB b3
 (ifB b6
 (ifB (x2 == p2)
 (R (.bool (x5 == p1)) w1)
 (R (.bool false) w1))
 (R (.bool false) w1))
 (R (.bool false) w1))
 (m7 (()) w1)))
 (fun s8 w2 =>
 ldM w2.drew (blk w.heap.size) fun x9 =>
 ldM w2.drew ((blk w.heap.size).add 1) fun x10 =>
 updW Try.prog 83 (.map x9) (.int .u32 p1) (.int .u32 p2) w2.drew fun w3 =>
 w3.cell? ((blk w.heap.size).add 1) = some (.map x10) ∧
 updW Try.prog 83 (.map x10) (.int .u32 p2) (.int .u32 p1) w3 fun w4 =>
 R (.bool true) w4)
theorem ids_pairs_pair_calls (p0 : ((Option Nat) × (Option Nat) × Unit)) (p1 : Int) (p2 : Int) (R : Value → World → Prop) (w : World) (h : L_ids_pairs_pair p0 p1 p2 R w) : Calls Try.prog 81 #[(.agg #[(.map p0.1), (.map p0.2.1)]), (.int .u32 p1), (.int .u32 p2)] w (Ret R) :=
 lw_calls (fs := Try.fs) (an := a_ids_pairs_pair) (args := [(.agg #[(.map p0.1), (.map p0.2.1)]), (.int .u32 p1), (.int .u32 p2)]) Try.fsOK Try.mixed Try.func81 (by kernel_rfl) (by kernel_rfl)
 (Eq.mpr (by kernel_rfl : lwFn Try.prog Try.fs Try.f81 a_ids_pairs_pair [(.agg #[(.map p0.1), (.map p0.2.1)]), (.int .u32 p1), (.int .u32 p2)] w R = L_ids_pairs_pair p0 p1 p2 R w) h)

end Go.Proofs
