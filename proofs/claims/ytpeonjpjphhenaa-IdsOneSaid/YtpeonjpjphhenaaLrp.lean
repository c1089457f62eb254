/-
 Printed by a program of the author: what each function comes to.
-/
import Derived.Test.YtpeonjpjphhenaaProg
import Derived.Test.YtpeonjpjphhenaaGkR
import Derived.Test.YtpeonjpjphhenaaLb
namespace Go.Proofs
open Go.Gk
set_option linter.unusedVariables false
set_option maxRecDepth 100000

/-- slices.Repeat[[]int,int] -/
def a_slices_Repeat_sint_int : Ann := (.seq none .nil (.seq (some ⟨[0, 1], []⟩) (.seq none .nil (.cond .nil .nil)) (.seq none .nil (.seq (some ⟨[0, 6], []⟩) (.seq none .nil (.cond .nil .nil)) (.seq none .nil (.seq none .nil (.seq none (.one (.loop ⟨[7], [(8, (.b (.int .i64)))]⟩ (.seq none (.seq none .nil (.cond .nil .nil)) (.one .nil)))) (.seq none .nil .nil))))))))
def L_slices_Repeat_sint_int (p0 : Sl) (p1 : Int) (R : Value → World → Prop) (w : World) : Prop :=
 JoinW (S := Unit) (fun m1 =>
 ifB (decide (p1 < (0 : Int)))
 (False)
 (m1 (()) w))
 (fun s2 w1 =>
 callR Try.prog 82 #[(.int .u64 (IntKind.u64.wrap (p0.l : Int))), (.int .u64 (IntKind.u64.wrap p1))] w1 fun v3 w2 =>
 ∃ x4 : Int, ∃ x5 : Int, v3 = (.tuple #[(.int .u64 x4), (.int .u64 x5)]) ∧
 JoinW (S := Unit) (fun m6 =>
 ifB (decide (x4 > (0 : Int)))
 (False)
 (ifB (decide (x5 > (9223372036854775807 : Int)))
 (False)
 (m6 (()) w2)))
 (fun s7 w3 =>
 (0 ≤ (IntKind.i64.wrap x5) ∧ (IntKind.i64.wrap x5) ≤ (IntKind.i64.wrap x5) ∧ (8 : Int) * (IntKind.i64.wrap x5) ≤ 281474976710656 ∧ (IntKind.i64.wrap x5) ≤ 9223372036854775807) ∧
 Nw (w3.alloc (.cells (madeCells #[(.int .i64 (0 : Int))] ((Int.toNat (IntKind.i64.wrap x5)) * 1)) 3)) fun w4 =>
 copyS Try.prog #[46, 46] (.slice (some (blk w3.heap.size)) (Int.toNat (IntKind.i64.wrap x5)) (Int.toNat (IntKind.i64.wrap x5))) (.slice p0.a p0.l p0.c) w4 fun x8 w5 =>
 LoopW (S := Int × Unit) (fun s9 w6 n10 =>
 ifB (decide (s9.1 < ((Int.toNat (IntKind.i64.wrap x5)) : Int)))
 ((0 ≤ s9.1 ∧ s9.1 ≤ ((Int.toNat (IntKind.i64.wrap x5)) : Int) ∧ ((Int.toNat (IntKind.i64.wrap x5)) : Int) ≤ ((Int.toNat (IntKind.i64.wrap x5)) : Int)) ∧
 (0 ≤ (0 : Int) ∧ (0 : Int) ≤ s9.1 ∧ s9.1 ≤ ((Int.toNat (IntKind.i64.wrap x5)) : Int)) ∧
 copyS Try.prog #[46, 46] (.slice (if (Int.toNat (IntKind.i64.wrap x5)) = (Int.toNat s9.1) then (some (blk w3.heap.size)) else Option.map (fun a => a.add (Int.toNat s9.1)) (some (blk w3.heap.size))) ((Int.toNat (IntKind.i64.wrap x5)) - (Int.toNat s9.1)) ((Int.toNat (IntKind.i64.wrap x5)) - (Int.toNat s9.1))) (.slice (if (Int.toNat (IntKind.i64.wrap x5)) = 0 then (some (blk w3.heap.size)) else Option.map (fun a => a.add 0) (some (blk w3.heap.size))) ((Int.toNat s9.1) - 0) ((Int.toNat (IntKind.i64.wrap x5)) - 0)) w6.drew fun x11 w7 =>
 n10 ((IntKind.i64.wrap (s9.1 + x11)), ()) w7)
 (R (.slice (some (blk w3.heap.size)) (Int.toNat (IntKind.i64.wrap x5)) (Int.toNat (IntKind.i64.wrap x5))) w6))
 (x8, ()) w5))
theorem slices_Repeat_sint_int_calls (p0 : Sl) (p1 : Int) (R : Value → World → Prop) (w : World) (h : L_slices_Repeat_sint_int p0 p1 R w) : Calls Try.prog 53 #[(.slice p0.a p0.l p0.c), (.int .i64 p1)] w (Ret R) :=
 lw_calls (fs := Try.fs) (an := a_slices_Repeat_sint_int) (args := [(.slice p0.a p0.l p0.c), (.int .i64 p1)]) Try.fsOK Try.mixed Try.func53 (by kernel_rfl) (by kernel_rfl)
 (Eq.mpr (by kernel_rfl : lwFn Try.prog Try.fs Try.f53 a_slices_Repeat_sint_int [(.slice p0.a p0.l p0.c), (.int .i64 p1)] w R = L_slices_Repeat_sint_int p0 p1 R w) h)

/-- math.bits.Mul -/
def a_math_bits_Mul : Ann := (.seq none .nil (.seq none (.cond (.seq none .nil (.seq none .nil .nil)) .nil) (.seq none .nil (.seq none .nil .nil))))
def L_math_bits_Mul (p0 : Int) (p1 : Int) (R : Value → World → Prop) (w : World) : Prop :=
 callR Try.prog 108 #[(.int .u64 p0), (.int .u64 p1)] w fun v1 w1 =>
 ∃ x2 : Int, ∃ x3 : Int, v1 = (.tuple #[(.int .u64 x2), (.int .u64 x3)]) ∧
 R (.tuple #[(.int .u64 x2), (.int .u64 x3)]) w1
theorem math_bits_Mul_calls (p0 : Int) (p1 : Int) (R : Value → World → Prop) (w : World) (h : L_math_bits_Mul p0 p1 R w) : Calls Try.prog 82 #[(.int .u64 p0), (.int .u64 p1)] w (Ret R) :=
 lw_calls (fs := Try.fs) (an := a_math_bits_Mul) (args := [(.int .u64 p0), (.int .u64 p1)]) Try.fsOK Try.mixed Try.func82 (by kernel_rfl) (by kernel_rfl)
 (Eq.mpr (by kernel_rfl : lwFn Try.prog Try.fs Try.f82 a_math_bits_Mul [(.int .u64 p0), (.int .u64 p1)] w R = L_math_bits_Mul p0 p1 R w) h)

/-- math.bits.Mul64 -/
def a_math_bits_Mul64 : Ann := (.seq none .nil (.seq none .nil (.seq none .nil (.seq none .nil (.seq none .nil (.seq none .nil (.seq none .nil (.seq none .nil (.seq none .nil (.seq none .nil (.seq none .nil (.seq none .nil .nil))))))))))))
def L_math_bits_Mul64 (p0 : Int) (p1 : Int) (R : Value → World → Prop) (w : World) : Prop :=
 R (.tuple #[(.int .u64 (IntKind.u64.wrap ((IntKind.u64.wrap ((IntKind.u64.wrap ((Int.fdiv p0 (2 ^ (min 32 (IntKind.bits .u64)))) * (Int.fdiv p1 (2 ^ (min 32 (IntKind.bits .u64)))))) + (Int.fdiv (IntKind.u64.wrap ((IntKind.u64.wrap ((Int.fdiv p0 (2 ^ (min 32 (IntKind.bits .u64)))) * (IntKind.u64.wrap (BitVec.toNat (BitVec.ofInt (IntKind.bits .u64) p1 &&& BitVec.ofInt (IntKind.bits .u64) (4294967295 : Int)) : Int)))) + (Int.fdiv (IntKind.u64.wrap ((IntKind.u64.wrap (BitVec.toNat (BitVec.ofInt (IntKind.bits .u64) p0 &&& BitVec.ofInt (IntKind.bits .u64) (4294967295 : Int)) : Int)) * (IntKind.u64.wrap (BitVec.toNat (BitVec.ofInt (IntKind.bits .u64) p1 &&& BitVec.ofInt (IntKind.bits .u64) (4294967295 : Int)) : Int)))) (2 ^ (min 32 (IntKind.bits .u64)))))) (2 ^ (min 32 (IntKind.bits .u64)))))) + (Int.fdiv (IntKind.u64.wrap ((IntKind.u64.wrap (BitVec.toNat (BitVec.ofInt (IntKind.bits .u64) (IntKind.u64.wrap ((IntKind.u64.wrap ((Int.fdiv p0 (2 ^ (min 32 (IntKind.bits .u64)))) * (IntKind.u64.wrap (BitVec.toNat (BitVec.ofInt (IntKind.bits .u64) p1 &&& BitVec.ofInt (IntKind.bits .u64) (4294967295 : Int)) : Int)))) + (Int.fdiv (IntKind.u64.wrap ((IntKind.u64.wrap (BitVec.toNat (BitVec.ofInt (IntKind.bits .u64) p0 &&& BitVec.ofInt (IntKind.bits .u64) (4294967295 : Int)) : Int)) * (IntKind.u64.wrap (BitVec.toNat (BitVec.ofInt (IntKind.bits .u64) p1 &&& BitVec.ofInt (IntKind.bits .u64) (4294967295 : Int)) : Int)))) (2 ^ (min 32 (IntKind.bits .u64)))))) &&& BitVec.ofInt (IntKind.bits .u64) (4294967295 : Int)) : Int)) + (IntKind.u64.wrap ((IntKind.u64.wrap (BitVec.toNat (BitVec.ofInt (IntKind.bits .u64) p0 &&& BitVec.ofInt (IntKind.bits .u64) (4294967295 : Int)) : Int)) * (Int.fdiv p1 (2 ^ (min 32 (IntKind.bits .u64)))))))) (2 ^ (min 32 (IntKind.bits .u64))))))), (.int .u64 (IntKind.u64.wrap (p0 * p1)))]) w
theorem math_bits_Mul64_calls (p0 : Int) (p1 : Int) (R : Value → World → Prop) (w : World) (h : L_math_bits_Mul64 p0 p1 R w) : Calls Try.prog 108 #[(.int .u64 p0), (.int .u64 p1)] w (Ret R) :=
 lw_calls (fs := Try.fs) (an := a_math_bits_Mul64) (args := [(.int .u64 p0), (.int .u64 p1)]) Try.fsOK Try.mixed Try.func108 (by kernel_rfl) (by kernel_rfl)
 (Eq.mpr (by kernel_rfl : lwFn Try.prog Try.fs Try.f108 a_math_bits_Mul64 [(.int .u64 p0), (.int .u64 p1)] w R = L_math_bits_Mul64 p0 p1 R w) h)

end Go.Proofs
