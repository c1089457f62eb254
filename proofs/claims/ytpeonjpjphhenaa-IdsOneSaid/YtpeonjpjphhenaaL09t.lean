/-
 Printed by a program of the author: what each function comes to.
-/
import Derived.Test.YtpeonjpjphhenaaProg
import Derived.Test.YtpeonjpjphhenaaGkR
import Derived.Test.YtpeonjpjphhenaaLb
namespace Go.Proofs
open Go.Gk
set_option linter.unusedVariables false
set_option maxRecDepth 100000

/-- intaglio.intaglioref09.Rename -/
def a_intaglioref09_Rename : Ann := (.seq none .nil (.seq none .nil (.seq none (.seq none .nil (.cond (.seq none .nil .nil) .nil)) (.seq none (.seq none .nil (.cond (.seq none .nil .nil) .nil)) (.seq none .nil .nil)))))
def L_intaglioref09_Rename (p0 : (Int × Int × Sl × Unit)) (p1 : Sl) (R : Value → World → Prop) (w : World) : Prop :=
 Nw (w.alloc (.cells #[(.int .u32 p0.1), (.int .u32 p0.2.1), (.slice p0.2.2.1.a p0.2.2.1.l p0.2.2.1.c)] 25)) fun w1 =>
 Nw (w1.alloc (.cells #[(.int .u32 (0 : Int)), (.int .u32 (0 : Int)), (.slice none 0 0)] 25)) fun w2 =>
 Nw (w2.alloc (.cells #[(.int .i64 (0 : Int)), (.int .i64 (0 : Int))] 29)) fun w3 =>
 ldI w3 ((blk w.heap.size).add 0) .u32 fun x1 =>
 ldI w3 ((blk w.heap.size).add 1) .u32 fun x2 =>
 ldS w3 ((blk w.heap.size).add 2) fun x3 =>
 callR Try.prog 46 #[(.agg #[(.int .u32 x1), (.int .u32 x2), (.slice x3.a x3.l x3.c)])] w3 fun v4 w4 =>
 ∃ x5 : (Int × Int × Unit), v4 = (.agg #[(.int .i64 x5.1), (.int .i64 x5.2.1)]) ∧
 Nw (w4.alloc (.cells #[(.int .i64 (0 : Int)), (.int .i64 (0 : Int))] 29)) fun w5 =>
 Wr w5 (blk w4.heap.size) ∧
 Nw (w5.setCell (blk w4.heap.size) (.int .i64 x5.1)) fun w6 =>
 Wr w6 ((blk w4.heap.size).add 1) ∧
 Nw (w6.setCell ((blk w4.heap.size).add 1) (.int .i64 x5.2.1)) fun w7 =>
 ldI w7 (blk w4.heap.size) .i64 fun x6 =>
 ifB (x6 != (0 : Int))
 (ldI w7.drew ((blk w4.heap.size).add 0) .i64 fun x7 =>
 ldI w7.drew ((blk w4.heap.size).add 1) .i64 fun x8 =>
 Wr w7.drew (blk w1.heap.size) ∧
 Nw (w7.drew.setCell (blk w1.heap.size) (.int .u32 (0 : Int))) fun w8 =>
 Wr w8 ((blk w1.heap.size).add 1) ∧
 Nw (w8.setCell ((blk w1.heap.size).add 1) (.int .u32 (0 : Int))) fun w9 =>
 Wr w9 ((blk w1.heap.size).add 2) ∧
 Nw (w9.setCell ((blk w1.heap.size).add 2) (.slice none 0 0)) fun w10 =>
 w10.cell? ((blk w4.heap.size).add 0) = some (.int .i64 x7) ∧
 w10.cell? ((blk w4.heap.size).add 1) = some (.int .i64 x8) ∧
 Wr w10 (blk w2.heap.size) ∧
 Nw (w10.setCell (blk w2.heap.size) (.int .i64 x7)) fun w11 =>
 Wr w11 ((blk w2.heap.size).add 1) ∧
 Nw (w11.setCell ((blk w2.heap.size).add 1) (.int .i64 x8)) fun w12 =>
 ldI w12 ((blk w1.heap.size).add 0) .u32 fun x9 =>
 ldI w12 ((blk w1.heap.size).add 1) .u32 fun x10 =>
 ldS w12 ((blk w1.heap.size).add 2) fun x11 =>
 ldI w12 ((blk w2.heap.size).add 0) .i64 fun x12 =>
 ldI w12 ((blk w2.heap.size).add 1) .i64 fun x13 =>
 R (.tuple #[(.agg #[(.int .u32 x9), (.int .u32 x10), (.slice x11.a x11.l x11.c)]), (.agg #[(.int .i64 x12), (.int .i64 x13)])]) w12)
 (ldI w7 ((blk w.heap.size).add 1) .u32 fun x14 =>
 callR Try.prog 47 #[(.int .u32 x14), (.slice p1.a p1.l p1.c)] w7 fun v15 w13 =>
 ∃ x16 : Bool, v15 = (.bool x16) ∧
 ifB (!x16)
 (Wr w13 (blk w1.heap.size) ∧
 Nw (w13.setCell (blk w1.heap.size) (.int .u32 (0 : Int))) fun w14 =>
 Wr w14 ((blk w1.heap.size).add 1) ∧
 Nw (w14.setCell ((blk w1.heap.size).add 1) (.int .u32 (0 : Int))) fun w15 =>
 Wr w15 ((blk w1.heap.size).add 2) ∧
 Nw (w15.setCell ((blk w1.heap.size).add 2) (.slice none 0 0)) fun w16 =>
 Wr w16 (blk w2.heap.size) ∧
 Nw (w16.setCell (blk w2.heap.size) (.int .i64 (2 : Int))) fun w17 =>
 Wr w17 ((blk w2.heap.size).add 1) ∧
 Nw (w17.setCell ((blk w2.heap.size).add 1) (.int .i64 (0 : Int))) fun w18 =>
 ldI w18 ((blk w1.heap.size).add 0) .u32 fun x17 =>
 ldI w18 ((blk w1.heap.size).add 1) .u32 fun x18 =>
 ldS w18 ((blk w1.heap.size).add 2) fun x19 =>
 ldI w18 ((blk w2.heap.size).add 0) .i64 fun x20 =>
 ldI w18 ((blk w2.heap.size).add 1) .i64 fun x21 =>
 R (.tuple #[(.agg #[(.int .u32 x17), (.int .u32 x18), (.slice x19.a x19.l x19.c)]), (.agg #[(.int .i64 x20), (.int .i64 x21)])]) w18)
 (ldI w13.drew ((blk w.heap.size).add 0) .u32 fun x22 =>
 ldI w13.drew ((blk w.heap.size).add 1) .u32 fun x23 =>
 ldS w13.drew ((blk w.heap.size).add 2) fun x24 =>
 ldI w13.drew ((blk w4.heap.size).add 0) .i64 fun x25 =>
 ldI w13.drew ((blk w4.heap.size).add 1) .i64 fun x26 =>
 callR Try.prog 43 #[(.agg #[(.int .u32 x22), (.int .u32 x23), (.slice x24.a x24.l x24.c)]), (.slice p1.a p1.l p1.c)] w13.drew fun v27 w19 =>
 ∃ x28 : (Int × Int × Sl × Unit), v27 = (.agg #[(.int .u32 x28.1), (.int .u32 x28.2.1), (.slice x28.2.2.1.a x28.2.2.1.l x28.2.2.1.c)]) ∧
 w19.cell? ((blk w4.heap.size).add 0) = some (.int .i64 x25) ∧
 w19.cell? ((blk w4.heap.size).add 1) = some (.int .i64 x26) ∧
 Wr w19 (blk w1.heap.size) ∧
 Nw (w19.setCell (blk w1.heap.size) (.int .u32 x28.1)) fun w20 =>
 Wr w20 ((blk w1.heap.size).add 1) ∧
 Nw (w20.setCell ((blk w1.heap.size).add 1) (.int .u32 x28.2.1)) fun w21 =>
 Wr w21 ((blk w1.heap.size).add 2) ∧
 Nw (w21.setCell ((blk w1.heap.size).add 2) (.slice x28.2.2.1.a x28.2.2.1.l x28.2.2.1.c)) fun w22 =>
 w22.cell? ((blk w4.heap.size).add 0) = some (.int .i64 x25) ∧
 w22.cell? ((blk w4.heap.size).add 1) = some (.int .i64 x26) ∧
 Wr w22 (blk w2.heap.size) ∧
 Nw (w22.setCell (blk w2.heap.size) (.int .i64 x25)) fun w23 =>
 Wr w23 ((blk w2.heap.size).add 1) ∧
 Nw (w23.setCell ((blk w2.heap.size).add 1) (.int .i64 x26)) fun w24 =>
 ldI w24 ((blk w1.heap.size).add 0) .u32 fun x29 =>
 ldI w24 ((blk w1.heap.size).add 1) .u32 fun x30 =>
 ldS w24 ((blk w1.heap.size).add 2) fun x31 =>
 ldI w24 ((blk w2.heap.size).add 0) .i64 fun x32 =>
 ldI w24 ((blk w2.heap.size).add 1) .i64 fun x33 =>
 R (.tuple #[(.agg #[(.int .u32 x29), (.int .u32 x30), (.slice x31.a x31.l x31.c)]), (.agg #[(.int .i64 x32), (.int .i64 x33)])]) w24))
theorem intaglioref09_Rename_calls (p0 : (Int × Int × Sl × Unit)) (p1 : Sl) (R : Value → World → Prop) (w : World) (h : L_intaglioref09_Rename p0 p1 R w) : Calls Try.prog 17 #[(.agg #[(.int .u32 p0.1), (.int .u32 p0.2.1), (.slice p0.2.2.1.a p0.2.2.1.l p0.2.2.1.c)]), (.slice p1.a p1.l p1.c)] w (Ret R) :=
 lw_calls (fs := Try.fs) (an := a_intaglioref09_Rename) (args := [(.agg #[(.int .u32 p0.1), (.int .u32 p0.2.1), (.slice p0.2.2.1.a p0.2.2.1.l p0.2.2.1.c)]), (.slice p1.a p1.l p1.c)]) Try.fsOK Try.mixed Try.func17 (by kernel_rfl) (by kernel_rfl)
 (Eq.mpr (by kernel_rfl : lwFn Try.prog Try.fs Try.f17 a_intaglioref09_Rename [(.agg #[(.int .u32 p0.1), (.int .u32 p0.2.1), (.slice p0.2.2.1.a p0.2.2.1.l p0.2.2.1.c)]), (.slice p1.a p1.l p1.c)] w R = L_intaglioref09_Rename p0 p1 R w) h)

/-- intaglio.intagliokit.CopyWords -/
def a_intagliokit_CopyWords : Ann := (.seq none .nil (.seq none .nil (.seq none (.seq none .nil (.one (.loop ⟨[0, 3], [(4, (.b (.int .i64)))]⟩ (.seq none (.seq none .nil (.cond .nil .nil)) (.seq none (.one .nil) .nil))))) (.seq none .nil .nil))))
def L_intagliokit_CopyWords (p0 : Sl) (R : Value → World → Prop) (w : World) : Prop :=
 (0 ≤ (p0.l : Int) ∧ (p0.l : Int) ≤ (p0.l : Int) ∧ (4 : Int) * (p0.l : Int) ≤ 281474976710656 ∧ (p0.l : Int) ≤ 9223372036854775807) ∧
 Nw (w.alloc (.cells (madeCells #[(.int .u32 (0 : Int))] (p0.l * 1)) 22)) fun w1 =>
 LoopW (S := Int × Unit) (fun s1 w2 n2 =>
 ifB (decide (s1.1 < (p0.l : Int)))
 ((0 ≤ s1.1 ∧ s1.1 < (p0.l : Int)) ∧
 derefP p0.a fun a3 =>
 ldI w2 (a3.add (Int.toNat s1.1)) .u32 fun x4 =>
 (0 ≤ s1.1 ∧ s1.1 < (p0.l : Int)) ∧
 Wr w2 ((blk w.heap.size).add (Int.toNat s1.1)) ∧
 Nw (w2.setCell ((blk w.heap.size).add (Int.toNat s1.1)) (.int .u32 x4)) fun w3 =>
 n2 ((IntKind.i64.wrap (s1.1 + (1 : Int))), ()) w3)
 (R (.slice (some (blk w.heap.size)) p0.l p0.l) w2))
 ((0 : Int), ()) w1
theorem intagliokit_CopyWords_calls (p0 : Sl) (R : Value → World → Prop) (w : World) (h : L_intagliokit_CopyWords p0 R w) : Calls Try.prog 18 #[(.slice p0.a p0.l p0.c)] w (Ret R) :=
 lw_calls (fs := Try.fs) (an := a_intagliokit_CopyWords) (args := [(.slice p0.a p0.l p0.c)]) Try.fsOK Try.mixed Try.func18 (by kernel_rfl) (by kernel_rfl)
 (Eq.mpr (by kernel_rfl : lwFn Try.prog Try.fs Try.f18 a_intagliokit_CopyWords [(.slice p0.a p0.l p0.c)] w R = L_intagliokit_CopyWords p0 R w) h)

/-- intaglio.ids.Rename -/
def a_ids_Rename : Ann := (.seq none .nil (.seq none (.seq none .nil (.seq none .nil (.cond (.seq none .nil .nil) .nil))) (.seq none .nil (.seq (some ⟨[2, 3, 4, 5, 7], [(8, (.b .bool))]⟩) .nil (.seq none (.seq none .nil (.one (.loop ⟨[2, 3, 4, 5, 33, 34], [(8, (.b .bool)), (35, (.b (.int .i64)))]⟩ (.seq none .nil (.seq none (.cond .nil .nil) (.seq (some ⟨[2, 3, 4, 5, 33, 34, 35], [(8, (.b .bool))]⟩) (.one (.seq none .nil .nil)) .nil)))))) (.seq none (.seq none .nil (.cond (.seq none .nil .nil) .nil)) (.seq none .nil .nil)))))))
def L_ids_Rename (p0 : (Int × Int × Sl × Unit)) (p1 : Sl) (R : Value → World → Prop) (w : World) : Prop :=
 Nw (w.alloc (.cells #[(.int .u32 p0.1), (.int .u32 p0.2.1), (.slice p0.2.2.1.a p0.2.2.1.l p0.2.2.1.c)] 25)) fun w1 =>
 Nw (w1.alloc (.cells #[(.slice p1.a p1.l p1.c)] 36)) fun w2 =>
 Nw (w2.alloc (.cells #[(.int .u32 (0 : Int)), (.int .u32 (0 : Int)), (.slice none 0 0)] 25)) fun w3 =>
 Nw (w3.alloc (.cells #[(.int .i64 (0 : Int)), (.int .i64 (0 : Int))] 29)) fun w4 =>
 ldI w4 ((blk w.heap.size).add 0) .u32 fun x1 =>
 ldI w4 ((blk w.heap.size).add 1) .u32 fun x2 =>
 ldS w4 ((blk w.heap.size).add 2) fun x3 =>
 callR Try.prog 48 #[(.agg #[(.int .u32 x1), (.int .u32 x2), (.slice x3.a x3.l x3.c)])] w4 fun v4 w5 =>
 ∃ x5 : (Int × Int × Unit), v4 = (.agg #[(.int .i64 x5.1), (.int .i64 x5.2.1)]) ∧
 Nw (w5.alloc (.cells #[(.int .i64 (0 : Int)), (.int .i64 (0 : Int))] 29)) fun w6 =>
 Wr w6 (blk w5.heap.size) ∧
 Nw (w6.setCell (blk w5.heap.size) (.int .i64 x5.1)) fun w7 =>
 Wr w7 ((blk w5.heap.size).add 1) ∧
 Nw (w7.setCell ((blk w5.heap.size).add 1) (.int .i64 x5.2.1)) fun w8 =>
 ldI w8 (blk w5.heap.size) .i64 fun x6 =>
 ifB (x6 != (0 : Int))
 (ldI w8.drew ((blk w5.heap.size).add 0) .i64 fun x7 =>
 ldI w8.drew ((blk w5.heap.size).add 1) .i64 fun x8 =>
 Wr w8.drew (blk w2.heap.size) ∧
 Nw (w8.drew.setCell (blk w2.heap.size) (.int .u32 (0 : Int))) fun w9 =>
 Wr w9 ((blk w2.heap.size).add 1) ∧
 Nw (w9.setCell ((blk w2.heap.size).add 1) (.int .u32 (0 : Int))) fun w10 =>
 Wr w10 ((blk w2.heap.size).add 2) ∧
 Nw (w10.setCell ((blk w2.heap.size).add 2) (.slice none 0 0)) fun w11 =>
 w11.cell? ((blk w5.heap.size).add 0) = some (.int .i64 x7) ∧
 w11.cell? ((blk w5.heap.size).add 1) = some (.int .i64 x8) ∧
 Wr w11 (blk w3.heap.size) ∧
 Nw (w11.setCell (blk w3.heap.size) (.int .i64 x7)) fun w12 =>
 Wr w12 ((blk w3.heap.size).add 1) ∧
 Nw (w12.setCell ((blk w3.heap.size).add 1) (.int .i64 x8)) fun w13 =>
 ldI w13 ((blk w2.heap.size).add 0) .u32 fun x9 =>
 ldI w13 ((blk w2.heap.size).add 1) .u32 fun x10 =>
 ldS w13 ((blk w2.heap.size).add 2) fun x11 =>
 ldI w13 ((blk w3.heap.size).add 0) .i64 fun x12 =>
 ldI w13 ((blk w3.heap.size).add 1) .i64 fun x13 =>
 R (.tuple #[(.agg #[(.int .u32 x9), (.int .u32 x10), (.slice x11.a x11.l x11.c)]), (.agg #[(.int .i64 x12), (.int .i64 x13)])]) w13)
 (ldS w8 (blk w1.heap.size) fun x14 =>
 callR Try.prog 50 #[(.slice x14.a x14.l x14.c)] w8 fun v15 w14 =>
 ∃ x16 : Value, v15 = x16 ∧
 callR Try.prog 49 #[x16] w14 fun v17 w15 =>
 ∃ x18 : Sl, v17 = (.slice x18.a x18.l x18.c) ∧
 JoinW (S := Bool × Unit) (fun m19 =>
 ldS w15 (blk w1.heap.size) fun x21 =>
 ldI w15 ((blk w.heap.size).add 1) .u32 fun x22 =>
 ifB ((x21.l : Int) == (IntKind.i64.wrap x22))
 (ldS w15 (blk w1.heap.size) fun x23 =>
 (0 ≤ (0 : Int) ∧ (0 : Int) < (x23.l : Int)) ∧
 derefP x23.a fun a24 =>
 ldI w15 (a24.add 0) .u32 fun x25 =>
 m19 ((x25 == (0 : Int)), ()) w15)
 (m19 (false, ()) w15))
 (fun s20 w16 =>
 LoopW (S := Bool × Int × Unit) (fun s26 w17 n27 =>
 ifB (decide (s26.2.1 < (x18.l : Int)))
 (JoinW (S := Bool × Unit) (fun m28 =>
 (0 ≤ s26.2.1 ∧ s26.2.1 < (x18.l : Int)) ∧
 derefP x18.a fun a30 =>
 ldI w17 (a30.add (Int.toNat s26.2.1)) .u32 fun x31 =>
 ifB s26.1
 (m28 ((x31 == (IntKind.u32.wrap s26.2.1)), ()) w17)
 (m28 (false, ()) w17))
 (fun s29 w18 =>
 n27 (s29.1, (IntKind.i64.wrap (s26.2.1 + (1 : Int))), ()) w18))
 (ifB (!s26.1)
 (Wr w17 (blk w2.heap.size) ∧
 Nw (w17.setCell (blk w2.heap.size) (.int .u32 (0 : Int))) fun w19 =>
 Wr w19 ((blk w2.heap.size).add 1) ∧
 Nw (w19.setCell ((blk w2.heap.size).add 1) (.int .u32 (0 : Int))) fun w20 =>
 Wr w20 ((blk w2.heap.size).add 2) ∧
 Nw (w20.setCell ((blk w2.heap.size).add 2) (.slice none 0 0)) fun w21 =>
 Wr w21 (blk w3.heap.size) ∧
 Nw (w21.setCell (blk w3.heap.size) (.int .i64 (2 : Int))) fun w22 =>
 Wr w22 ((blk w3.heap.size).add 1) ∧
 Nw (w22.setCell ((blk w3.heap.size).add 1) (.int .i64 (0 : Int))) fun w23 =>
 ldI w23 ((blk w2.heap.size).add 0) .u32 fun x32 =>
 ldI w23 ((blk w2.heap.size).add 1) .u32 fun x33 =>
 ldS w23 ((blk w2.heap.size).add 2) fun x34 =>
 ldI w23 ((blk w3.heap.size).add 0) .i64 fun x35 =>
 ldI w23 ((blk w3.heap.size).add 1) .i64 fun x36 =>
 R (.tuple #[(.agg #[(.int .u32 x32), (.int .u32 x33), (.slice x34.a x34.l x34.c)]), (.agg #[(.int .i64 x35), (.int .i64 x36)])]) w23)
 (ldI w17 ((blk w.heap.size).add 0) .u32 fun x37 =>
 ldI w17 ((blk w.heap.size).add 1) .u32 fun x38 =>
 ldS w17 ((blk w.heap.size).add 2) fun x39 =>
 callR Try.prog 44 #[(.agg #[(.int .u32 x37), (.int .u32 x38), (.slice x39.a x39.l x39.c)]), (.func (.func 51) #[] #[(.pointer (some (blk w1.heap.size)))])] w17 fun v40 w24 =>
 ∃ x41 : (Int × Int × Sl × Unit), v40 = (.agg #[(.int .u32 x41.1), (.int .u32 x41.2.1), (.slice x41.2.2.1.a x41.2.2.1.l x41.2.2.1.c)]) ∧
 Wr w24 (blk w2.heap.size) ∧
 Nw (w24.setCell (blk w2.heap.size) (.int .u32 x41.1)) fun w25 =>
 Wr w25 ((blk w2.heap.size).add 1) ∧
 Nw (w25.setCell ((blk w2.heap.size).add 1) (.int .u32 x41.2.1)) fun w26 =>
 Wr w26 ((blk w2.heap.size).add 2) ∧
 Nw (w26.setCell ((blk w2.heap.size).add 2) (.slice x41.2.2.1.a x41.2.2.1.l x41.2.2.1.c)) fun w27 =>
 Wr w27 (blk w3.heap.size) ∧
 Nw (w27.setCell (blk w3.heap.size) (.int .i64 (0 : Int))) fun w28 =>
 Wr w28 ((blk w3.heap.size).add 1) ∧
 Nw (w28.setCell ((blk w3.heap.size).add 1) (.int .i64 (0 : Int))) fun w29 =>
 ldI w29 ((blk w2.heap.size).add 0) .u32 fun x42 =>
 ldI w29 ((blk w2.heap.size).add 1) .u32 fun x43 =>
 ldS w29 ((blk w2.heap.size).add 2) fun x44 =>
 ldI w29 ((blk w3.heap.size).add 0) .i64 fun x45 =>
 ldI w29 ((blk w3.heap.size).add 1) .i64 fun x46 =>
 R (.tuple #[(.agg #[(.int .u32 x42), (.int .u32 x43), (.slice x44.a x44.l x44.c)]), (.agg #[(.int .i64 x45), (.int .i64 x46)])]) w29)))
 (s20.1, (0 : Int), ()) w16))
theorem ids_Rename_calls (p0 : (Int × Int × Sl × Unit)) (p1 : Sl) (R : Value → World → Prop) (w : World) (h : L_ids_Rename p0 p1 R w) : Calls Try.prog 19 #[(.agg #[(.int .u32 p0.1), (.int .u32 p0.2.1), (.slice p0.2.2.1.a p0.2.2.1.l p0.2.2.1.c)]), (.slice p1.a p1.l p1.c)] w (Ret R) :=
 lw_calls (fs := Try.fs) (an := a_ids_Rename) (args := [(.agg #[(.int .u32 p0.1), (.int .u32 p0.2.1), (.slice p0.2.2.1.a p0.2.2.1.l p0.2.2.1.c)]), (.slice p1.a p1.l p1.c)]) Try.fsOK Try.mixed Try.func19 (by kernel_rfl) (by kernel_rfl)
 (Eq.mpr (by kernel_rfl : lwFn Try.prog Try.fs Try.f19 a_ids_Rename [(.agg #[(.int .u32 p0.1), (.int .u32 p0.2.1), (.slice p0.2.2.1.a p0.2.2.1.l p0.2.2.1.c)]), (.slice p1.a p1.l p1.c)] w R = L_ids_Rename p0 p1 R w) h)

/-- intaglio.intaglioref09.Way -/
def a_intaglioref09_Way : Ann := (.seq none .nil (.seq (some ⟨[1], []⟩) (.seq none .nil (.cond (.seq none .nil .nil) .nil)) (.seq none (.seq none .nil (.one (.loop ⟨[1], [(5, (.b (.int .i64)))]⟩ (.seq none (.seq none .nil (.cond .nil .nil)) (.seq none (.one (.seq none .nil (.seq none (.seq none .nil (.one (.loop ⟨[1, 5], [(6, (.b (.int .i64))), (7, (.b (.int .i64)))]⟩ (.seq none (.seq none .nil (.cond .nil .nil)) (.seq (some ⟨[1, 5, 7], [(6, (.b (.int .i64)))]⟩) (.one (.seq none .nil (.cond .nil .nil))) .nil))))) (.seq none .nil (.cond (.seq none .nil .nil) .nil))))) .nil))))) (.seq none .nil .nil))))
def L_intaglioref09_Way (p0 : Int) (p1 : Sl) (R : Value → World → Prop) (w : World) : Prop :=
 JoinW (S := Unit) (fun m1 =>
 ifB ((p1.l : Int) != (IntKind.i64.wrap p0))
 (R (.bool false) w)
 ((0 ≤ (0 : Int) ∧ (0 : Int) < (p1.l : Int)) ∧
 derefP p1.a fun a3 =>
 ldI w (a3.add 0) .u32 fun x4 =>
 ifB (x4 != (0 : Int))
 (R (.bool false) w)
 (m1 (()) w)))
 (fun s2 w1 =>
 LoopW (S := Int × Unit) (fun s5 w2 n6 =>
 ifB (decide (s5.1 < (p1.l : Int)))
 (LoopW (S := Int × Int × Unit) (fun s7 w3 n8 =>
 ifB (decide (s7.2.1 < (p1.l : Int)))
 (JoinW (S := Int × Unit) (fun m9 =>
 (0 ≤ s7.2.1 ∧ s7.2.1 < (p1.l : Int)) ∧
 derefP p1.a fun a11 =>
 ldI w3 (a11.add (Int.toNat s7.2.1)) .u32 fun x12 =>
 ifB (x12 == (IntKind.u32.wrap s5.1))
 (m9 ((IntKind.i64.wrap (s7.1 + (1 : Int))), ()) w3)
 (m9 (s7.1, ()) w3))
 (fun s10 w4 =>
 n8 (s10.1, (IntKind.i64.wrap (s7.2.1 + (1 : Int))), ()) w4))
 (ifB (s7.1 != (1 : Int))
 (R (.bool false) w3)
 (n6 ((IntKind.i64.wrap (s5.1 + (1 : Int))), ()) w3)))
 ((0 : Int), (1 : Int), ()) w2)
 (R (.bool true) w2))
 ((1 : Int), ()) w1)
theorem intaglioref09_Way_calls (p0 : Int) (p1 : Sl) (R : Value → World → Prop) (w : World) (h : L_intaglioref09_Way p0 p1 R w) : Calls Try.prog 47 #[(.int .u32 p0), (.slice p1.a p1.l p1.c)] w (Ret R) :=
 lw_calls (fs := Try.fs) (an := a_intaglioref09_Way) (args := [(.int .u32 p0), (.slice p1.a p1.l p1.c)]) Try.fsOK Try.mixed Try.func47 (by kernel_rfl) (by kernel_rfl)
 (Eq.mpr (by kernel_rfl : lwFn Try.prog Try.fs Try.f47 a_intaglioref09_Way [(.int .u32 p0), (.slice p1.a p1.l p1.c)] w R = L_intaglioref09_Way p0 p1 R w) h)

/-- intaglio.ids.Rename 1 -/
def a_ids_Rename_1 : Ann := (.seq none .nil (.seq none .nil .nil))
def L_ids_Rename_1 (p0 : Int) (c0 : Addr) (R : Value → World → Prop) (w : World) : Prop :=
 ldS w c0 fun x1 =>
 (0 ≤ p0 ∧ p0 < (x1.l : Int)) ∧
 derefP x1.a fun a2 =>
 ldI w (a2.add (Int.toNat p0)) .u32 fun x3 =>
 R (.int .u32 x3) w
theorem ids_Rename_1_calls (p0 : Int) (c0 : Addr) (R : Value → World → Prop) (w : World) (h : L_ids_Rename_1 p0 c0 R w) : Calls Try.prog 51 #[(.int .u32 p0), (.pointer (some c0))] w (Ret R) :=
 lw_calls (fs := Try.fs) (an := a_ids_Rename_1) (args := [(.int .u32 p0), (.pointer (some c0))]) Try.fsOK Try.mixed Try.func51 (by kernel_rfl) (by kernel_rfl)
 (Eq.mpr (by kernel_rfl : lwFn Try.prog Try.fs Try.f51 a_ids_Rename_1 [(.int .u32 p0), (.pointer (some c0))] w R = L_ids_Rename_1 p0 c0 R w) h)

end Go.Proofs
