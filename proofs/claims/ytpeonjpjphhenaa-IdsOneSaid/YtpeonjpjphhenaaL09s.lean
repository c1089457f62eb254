/-
 Printed by a program of the author: what each function comes to.
-/
import Derived.Test.YtpeonjpjphhenaaProg
import Derived.Test.YtpeonjpjphhenaaGkR
import Derived.Test.YtpeonjpjphhenaaLb
namespace Go.Proofs
open Go.Gk
set_option linter.unusedVariables false
set_option maxRecDepth 100000

/-- slices.Sorted[uint32] -/
def a_slices_Sorted_uint32 : Ann := (.seq none .nil (.seq none .nil (.seq none .nil (.seq none .nil .nil))))
def L_slices_Sorted_uint32 (p0 : Value) (R : Value → World → Prop) (w : World) : Prop :=
 callR Try.prog 78 #[p0] w fun v1 w1 =>
 ∃ x2 : Sl, v1 = (.slice x2.a x2.l x2.c) ∧
 callR Try.prog 79 #[(.slice x2.a x2.l x2.c)] w1 fun v3 w2 =>
 v3 = (.tuple #[]) ∧
 R (.slice x2.a x2.l x2.c) w2
theorem slices_Sorted_uint32_calls (p0 : Value) (R : Value → World → Prop) (w : World) (h : L_slices_Sorted_uint32 p0 R w) : Calls Try.prog 49 #[p0] w (Ret R) :=
 lw_calls (fs := Try.fs) (an := a_slices_Sorted_uint32) (args := [p0]) Try.fsOK Try.mixed Try.func49 (by kernel_rfl) (by kernel_rfl)
 (Eq.mpr (by kernel_rfl : lwFn Try.prog Try.fs Try.f49 a_slices_Sorted_uint32 [p0] w R = L_slices_Sorted_uint32 p0 R w) h)

/-- slices.Values[[]uint32,uint32] -/
def a_slices_Values_suint32_uint32 : Ann := (.seq none .nil (.seq none .nil .nil))
def L_slices_Values_suint32_uint32 (p0 : Sl) (R : Value → World → Prop) (w : World) : Prop :=
 Nw (w.alloc (.cells #[(.slice p0.a p0.l p0.c)] 36)) fun w1 =>
 R (.func (.func 80) #[] #[(.pointer (some (blk w.heap.size)))]) w1
theorem slices_Values_suint32_uint32_calls (p0 : Sl) (R : Value → World → Prop) (w : World) (h : L_slices_Values_suint32_uint32 p0 R w) : Calls Try.prog 50 #[(.slice p0.a p0.l p0.c)] w (Ret R) :=
 lw_calls (fs := Try.fs) (an := a_slices_Values_suint32_uint32) (args := [(.slice p0.a p0.l p0.c)]) Try.fsOK Try.mixed Try.func50 (by kernel_rfl) (by kernel_rfl)
 (Eq.mpr (by kernel_rfl : lwFn Try.prog Try.fs Try.f50 a_slices_Values_suint32_uint32 [(.slice p0.a p0.l p0.c)] w R = L_slices_Values_suint32_uint32 p0 R w) h)

/-- slices.Collect[uint32] -/
def a_slices_Collect_uint32 : Ann := (.seq none .nil (.seq none .nil .nil))
def L_slices_Collect_uint32 (p0 : Value) (R : Value → World → Prop) (w : World) : Prop :=
 callR Try.prog 104 #[(.slice none 0 0), p0] w fun v1 w1 =>
 ∃ x2 : Sl, v1 = (.slice x2.a x2.l x2.c) ∧
 R (.slice x2.a x2.l x2.c) w1
theorem slices_Collect_uint32_calls (p0 : Value) (R : Value → World → Prop) (w : World) (h : L_slices_Collect_uint32 p0 R w) : Calls Try.prog 78 #[p0] w (Ret R) :=
 lw_calls (fs := Try.fs) (an := a_slices_Collect_uint32) (args := [p0]) Try.fsOK Try.mixed Try.func78 (by kernel_rfl) (by kernel_rfl)
 (Eq.mpr (by kernel_rfl : lwFn Try.prog Try.fs Try.f78 a_slices_Collect_uint32 [p0] w R = L_slices_Collect_uint32 p0 R w) h)

/-- slices.Sort[[]uint32,uint32] -/
def a_slices_Sort_suint32_uint32 : Ann := (.seq none .nil .nil)
def L_slices_Sort_suint32_uint32 (p0 : Sl) (R : Value → World → Prop) (w : World) : Prop :=
 callR Try.prog 106 #[(.int .u64 (IntKind.u64.wrap (p0.l : Int)))] w fun v1 w1 =>
 ∃ x2 : Int, v1 = (.int .i64 x2) ∧
 callR Try.prog 105 #[(.slice p0.a p0.l p0.c), (.int .i64 (0 : Int)), (.int .i64 (p0.l : Int)), (.int .i64 x2)] w1 fun v3 w2 =>
 v3 = (.tuple #[]) ∧
 R (.tuple #[]) w2
theorem slices_Sort_suint32_uint32_calls (p0 : Sl) (R : Value → World → Prop) (w : World) (h : L_slices_Sort_suint32_uint32 p0 R w) : Calls Try.prog 79 #[(.slice p0.a p0.l p0.c)] w (Ret R) :=
 lw_calls (fs := Try.fs) (an := a_slices_Sort_suint32_uint32) (args := [(.slice p0.a p0.l p0.c)]) Try.fsOK Try.mixed Try.func79 (by kernel_rfl) (by kernel_rfl)
 (Eq.mpr (by kernel_rfl : lwFn Try.prog Try.fs Try.f79 a_slices_Sort_suint32_uint32 [(.slice p0.a p0.l p0.c)] w R = L_slices_Sort_suint32_uint32 p0 R w) h)

/-- slices.Values[[]uint32,uint32] 1 -/
def a_slices_Values_suint32_uint32__1 : Ann := (.seq none .nil (.one (.loop ⟨[0, 5, 6], [(7, (.b (.int .i64)))]⟩ (.seq none .nil (.seq none (.cond .nil .nil) (.seq none (.one (.seq none .nil (.seq none .nil (.cond .nil .nil)))) .nil))))))
def L_slices_Values_suint32_uint32__1 (p0 : Value) (c0 : Addr) (R : Value → World → Prop) (w : World) : Prop :=
 ldS w c0 fun x1 =>
 LoopW (S := Int × Unit) (fun s2 w1 n3 =>
 ifB (decide (s2.1 < (x1.l : Int)))
 ((0 ≤ s2.1 ∧ s2.1 < (x1.l : Int)) ∧
 derefP x1.a fun a4 =>
 ldI w1 (a4.add (Int.toNat s2.1)) .u32 fun x5 =>
 callV Try.prog Try.fs p0 [(.int .u32 x5)] w1 fun v6 w2 =>
 ∃ x7 : Bool, v6 = (.bool x7) ∧
 ifB (!x7)
 (R (.tuple #[]) w2)
 (n3 ((IntKind.i64.wrap (s2.1 + (1 : Int))), ()) w2))
 (R (.tuple #[]) w1))
 ((0 : Int), ()) w
theorem slices_Values_suint32_uint32__1_calls (p0 : Value) (c0 : Addr) (R : Value → World → Prop) (w : World) (h : L_slices_Values_suint32_uint32__1 p0 c0 R w) : Calls Try.prog 80 #[p0, (.pointer (some c0))] w (Ret R) :=
 lw_calls (fs := Try.fs) (an := a_slices_Values_suint32_uint32__1) (args := [p0, (.pointer (some c0))]) Try.fsOK Try.mixed Try.func80 (by kernel_rfl) (by kernel_rfl)
 (Eq.mpr (by kernel_rfl : lwFn Try.prog Try.fs Try.f80 a_slices_Values_suint32_uint32__1 [p0, (.pointer (some c0))] w R = L_slices_Values_suint32_uint32__1 p0 c0 R w) h)

/-- slices.AppendSeq[[]uint32,uint32] -/
def a_slices_AppendSeq_suint32_uint32 : Ann := (.seq none .nil (.seq none (.seq none .nil (.one (.loop ⟨[], [(7, (.b (.int .u32)))]⟩ (.seq none .nil (.one .nil))))) (.seq none .nil .nil)))
def L_slices_AppendSeq_suint32_uint32 (p0 : Sl) (p1 : Value) (R : Value → World → Prop) (w : World) : Prop :=
 Nw (w.alloc (.cells #[(.slice p0.a p0.l p0.c)] 36)) fun w1 =>
 RangeW Try.prog Try.fs p1 w1 (T := Int × Unit) (fun s1 => [(.int .u32 s1.1)])
 (fun mk2 l3 s1 w2 S4 =>
 w2.heap[l3]? = some (mk2 .ready none) ∧
 Nw (w2.putObj l3 (mk2 .busy none)) fun w3 =>
 ldS w3 (blk w.heap.size) fun x6 =>
 Nw (w3.alloc (.cells #[(.int .u32 s1.1)] 22)) fun w4 =>
 appendS Try.prog 36 (.slice x6.a x6.l x6.c) (.slice (some (blk w3.heap.size)) 1 1) w4 fun r7 w5 =>
 Wr w5 (blk w.heap.size) ∧
 Nw (w5.setCell (blk w.heap.size) (.slice r7.a r7.l r7.c)) fun w6 =>
 w6.heap[l3]? = some (mk2 .busy none) ∧
 S4 (.bool true) (w6.putObj l3 (mk2 .ready none)))
 (fun mk2 l3 d5 w7 =>
 rangeOut mk2 l3 .ready none w7 fun w8 =>
 ldS w8 (blk w.heap.size) fun x8 =>
 closeM (d5 :: []) w8 fun w9 =>
 R (.slice x8.a x8.l x8.c) w9)
theorem slices_AppendSeq_suint32_uint32_calls (p0 : Sl) (p1 : Value) (R : Value → World → Prop) (w : World) (h : L_slices_AppendSeq_suint32_uint32 p0 p1 R w) : Calls Try.prog 104 #[(.slice p0.a p0.l p0.c), p1] w (Ret R) :=
 lwR_calls (fs := Try.fs) (an := a_slices_AppendSeq_suint32_uint32) (args := [(.slice p0.a p0.l p0.c), p1]) Try.fsOK Try.mixed Try.func104 (by kernel_rfl) (by kernel_rfl)
 (Eq.mpr (by kernel_rfl : lwRFn Try.prog Try.fs Try.f104 a_slices_AppendSeq_suint32_uint32 [(.slice p0.a p0.l p0.c), p1] w R = L_slices_AppendSeq_suint32_uint32 p0 p1 R w) h)

/-- slices.pdqsortOrdered[uint32] -/
def a_slices_pdqsortOrdered_uint32 : Ann := (.seq none .nil (.seq none .nil (.one (.loop ⟨[0], [(1, (.b (.int .i64))), (2, (.b (.int .i64))), (3, (.b (.int .i64))), (8, (.b .bool)), (9, (.b .bool))]⟩ (.one (.seq none .nil (.seq none (.seq none .nil (.cond (.seq none .nil .nil) .nil)) (.seq none (.seq none .nil (.cond (.seq none .nil .nil) .nil)) (.seq (some ⟨[0, 1, 2, 8, 9, 10], [(3, (.b (.int .i64)))]⟩) (.seq none .nil (.cond (.seq none .nil .nil) .nil)) (.seq none .nil (.seq (some ⟨[0, 1, 2, 3, 8, 9, 10], [(11, (.b (.int .i64))), (12, (.b (.int .i64)))]⟩) (.seq none .nil (.cond (.seq none .nil (.seq none .nil .nil)) .nil)) (.seq (some ⟨[0, 1, 2, 3, 8, 9, 10, 11], []⟩) (.seq none .nil (.cond (.seq none .nil (.cond .nil .nil)) .nil)) (.seq (some ⟨[0, 2, 3, 10, 11], [(1, (.b (.int .i64)))]⟩) (.seq none .nil (.cond (.seq none .nil (.seq none .nil .nil)) .nil)) (.seq none .nil (.seq none .nil (.seq none .nil (.seq none .nil (.seq none .nil (.cond (.seq none .nil (.seq none .nil .nil)) (.seq none .nil (.seq none .nil .nil)))))))))))))))))))))
def L_slices_pdqsortOrdered_uint32 (p0 : Sl) (p1 : Int) (p2 : Int) (p3 : Int) (R : Value → World → Prop) (w : World) : Prop :=
 LoopW (S := Int × Int × Int × Bool × Bool × Unit) (fun s1 w1 n2 =>
 ifB (decide ((IntKind.i64.wrap (s1.2.1 - s1.1)) ≤ (12 : Int)))
 (callR Try.prog 127 #[(.slice p0.a p0.l p0.c), (.int .i64 s1.1), (.int .i64 s1.2.1)] w1 fun v3 w2 =>
 v3 = (.tuple #[]) ∧
 R (.tuple #[]) w2)
 (ifB (s1.2.2.1 == (0 : Int))
 (callR Try.prog 128 #[(.slice p0.a p0.l p0.c), (.int .i64 s1.1), (.int .i64 s1.2.1)] w1 fun v4 w3 =>
 v4 = (.tuple #[]) ∧
 R (.tuple #[]) w3)
 (JoinW (S := Int × Unit) (fun m5 =>
 ifB (!s1.2.2.2.1)
 (callR Try.prog 129 #[(.slice p0.a p0.l p0.c), (.int .i64 s1.1), (.int .i64 s1.2.1)] w1 fun v7 w4 =>
 v7 = (.tuple #[]) ∧
 m5 ((IntKind.i64.wrap (s1.2.2.1 - (1 : Int))), ()) w4)
 (m5 (s1.2.2.1, ()) w1))
 (fun s6 w5 =>
 callR Try.prog 130 #[(.slice p0.a p0.l p0.c), (.int .i64 s1.1), (.int .i64 s1.2.1)] w5 fun v8 w6 =>
 ∃ x9 : Int, ∃ x10 : Int, v8 = (.tuple #[(.int .i64 x9), (.int .i64 x10)]) ∧
 JoinW (S := Int × Int × Unit) (fun m11 =>
 ifB (x10 == (2 : Int))
 (callR Try.prog 131 #[(.slice p0.a p0.l p0.c), (.int .i64 s1.1), (.int .i64 s1.2.1)] w6 fun v13 w7 =>
 v13 = (.tuple #[]) ∧
 m11 ((IntKind.i64.wrap ((IntKind.i64.wrap (s1.2.1 - (1 : Int))) - (IntKind.i64.wrap (x9 - s1.1)))), (1 : Int), ()) w7)
 (m11 (x9, x10, ()) w6))
 (fun s12 w8 =>
 JoinW (S := Unit) (fun m14 =>
 ifB s1.2.2.2.1
 (ifB s1.2.2.2.2.1
 (ifB (s12.2.1 == (1 : Int))
 (callR Try.prog 132 #[(.slice p0.a p0.l p0.c), (.int .i64 s1.1), (.int .i64 s1.2.1)] w8 fun v16 w9 =>
 ∃ x17 : Bool, v16 = (.bool x17) ∧
 ifB x17
 (R (.tuple #[]) w9)
 (m14 (()) w9))
 (m14 (()) w8))
 (m14 (()) w8))
 (m14 (()) w8))
 (fun s15 w10 =>
 JoinW (S := Int × Unit) (fun m18 =>
 ifB (decide (s1.1 > (0 : Int)))
 ((0 ≤ (IntKind.i64.wrap (s1.1 - (1 : Int))) ∧ (IntKind.i64.wrap (s1.1 - (1 : Int))) < (p0.l : Int)) ∧
 derefP p0.a fun a20 =>
 ldI w10.drew (a20.add (Int.toNat (IntKind.i64.wrap (s1.1 - (1 : Int))))) .u32 fun x21 =>
 (0 ≤ s12.1 ∧ s12.1 < (p0.l : Int)) ∧
 derefP p0.a fun a22 =>
 ldI w10.drew (a22.add (Int.toNat s12.1)) .u32 fun x23 =>
 callR Try.prog 133 #[(.int .u32 x21), (.int .u32 x23)] w10.drew fun v24 w11 =>
 ∃ x25 : Bool, v24 = (.bool x25) ∧
 ifB (!x25)
 (callR Try.prog 134 #[(.slice p0.a p0.l p0.c), (.int .i64 s1.1), (.int .i64 s1.2.1), (.int .i64 s12.1)] w11 fun v26 w12 =>
 ∃ x27 : Int, v26 = (.int .i64 x27) ∧
 n2 (x27, s1.2.1, s6.1, s1.2.2.2.1, s1.2.2.2.2.1, ()) w12)
 (m18 (s1.1, ()) w11))
 (m18 (s1.1, ()) w10.drew))
 (fun s19 w13 =>
 callR Try.prog 135 #[(.slice p0.a p0.l p0.c), (.int .i64 s19.1), (.int .i64 s1.2.1), (.int .i64 s12.1)] w13 fun v28 w14 =>
 ∃ x29 : Int, ∃ x30 : Bool, v28 = (.tuple #[(.int .i64 x29), (.bool x30)]) ∧
 ifB (decide ((IntKind.i64.wrap (x29 - s19.1)) < (IntKind.i64.wrap (s1.2.1 - x29))))
 (callR Try.prog 105 #[(.slice p0.a p0.l p0.c), (.int .i64 s19.1), (.int .i64 x29), (.int .i64 s6.1)] w14 fun v31 w15 =>
 v31 = (.tuple #[]) ∧
 n2 ((IntKind.i64.wrap (x29 + (1 : Int))), s1.2.1, s6.1, (decide ((IntKind.i64.wrap (x29 - s19.1)) ≥ (IntKind.i64.wrap (Int.tdiv (IntKind.i64.wrap (s1.2.1 - s1.1)) (8 : Int))))), x30, ()) w15)
 (callR Try.prog 105 #[(.slice p0.a p0.l p0.c), (.int .i64 (IntKind.i64.wrap (x29 + (1 : Int)))), (.int .i64 s1.2.1), (.int .i64 s6.1)] w14 fun v32 w16 =>
 v32 = (.tuple #[]) ∧
 n2 (s19.1, x29, s6.1, (decide ((IntKind.i64.wrap (s1.2.1 - x29)) ≥ (IntKind.i64.wrap (Int.tdiv (IntKind.i64.wrap (s1.2.1 - s1.1)) (8 : Int))))), x30, ()) w16))))))))
 (p1, p2, p3, true, true, ()) w
theorem slices_pdqsortOrdered_uint32_calls (p0 : Sl) (p1 : Int) (p2 : Int) (p3 : Int) (R : Value → World → Prop) (w : World) (h : L_slices_pdqsortOrdered_uint32 p0 p1 p2 p3 R w) : Calls Try.prog 105 #[(.slice p0.a p0.l p0.c), (.int .i64 p1), (.int .i64 p2), (.int .i64 p3)] w (Ret R) :=
 lw_calls (fs := Try.fs) (an := a_slices_pdqsortOrdered_uint32) (args := [(.slice p0.a p0.l p0.c), (.int .i64 p1), (.int .i64 p2), (.int .i64 p3)]) Try.fsOK Try.mixed Try.func105 (by kernel_rfl) (by kernel_rfl)
 (Eq.mpr (by kernel_rfl : lwFn Try.prog Try.fs Try.f105 a_slices_pdqsortOrdered_uint32 [(.slice p0.a p0.l p0.c), (.int .i64 p1), (.int .i64 p2), (.int .i64 p3)] w R = L_slices_pdqsortOrdered_uint32 p0 p1 p2 p3 R w) h)

/-- math.bits.Len -/
def a_math_bits_Len : Ann := (.seq none .nil (.seq none (.cond (.seq none .nil .nil) .nil) (.seq none .nil .nil)))
def L_math_bits_Len (p0 : Int) (R : Value → World → Prop) (w : World) : Prop :=
 callR Try.prog 137 #[(.int .u64 p0)] w fun v1 w1 =>
 ∃ x2 : Int, v1 = (.int .i64 x2) ∧
 R (.int .i64 x2) w1
theorem math_bits_Len_calls (p0 : Int) (R : Value → World → Prop) (w : World) (h : L_math_bits_Len p0 R w) : Calls Try.prog 106 #[(.int .u64 p0)] w (Ret R) :=
 lw_calls (fs := Try.fs) (an := a_math_bits_Len) (args := [(.int .u64 p0)]) Try.fsOK Try.mixed Try.func106 (by kernel_rfl) (by kernel_rfl)
 (Eq.mpr (by kernel_rfl : lwFn Try.prog Try.fs Try.f106 a_math_bits_Len [(.int .u64 p0)] w R = L_math_bits_Len p0 R w) h)

/-- slices.insertionSortOrdered[uint32] -/
def a_slices_insertionSortOrdered_uint32 : Ann := (.seq none .nil (.one (.loop ⟨[0, 1, 2], [(6, (.b (.int .i64)))]⟩ (.seq none (.seq none .nil (.cond .nil .nil)) (.seq (some ⟨[0, 1, 2, 6], []⟩) (.one (.seq none .nil (.one (.loop ⟨[0, 1, 2, 6], [(7, (.b (.int .i64)))]⟩ (.seq (some ⟨[0, 1, 2, 6, 7], []⟩) (.seq none .nil (.cond .nil .nil)) (.seq none (.one .nil) .nil)))))) .nil)))))
def L_slices_insertionSortOrdered_uint32 (p0 : Sl) (p1 : Int) (p2 : Int) (R : Value → World → Prop) (w : World) : Prop :=
 LoopW (S := Int × Unit) (fun s1 w1 n2 =>
 ifB (decide (s1.1 < p2))
 (JoinW (S := Unit) (fun m3 =>
 LoopW (S := Int × Unit) (fun s5 w2 n6 =>
 JoinW (S := Unit) (fun m7 =>
 ifB (decide (s5.1 > p1))
 ((0 ≤ s5.1 ∧ s5.1 < (p0.l : Int)) ∧
 derefP p0.a fun a9 =>
 ldI w2.drew (a9.add (Int.toNat s5.1)) .u32 fun x10 =>
 (0 ≤ (IntKind.i64.wrap (s5.1 - (1 : Int))) ∧ (IntKind.i64.wrap (s5.1 - (1 : Int))) < (p0.l : Int)) ∧
 derefP p0.a fun a11 =>
 ldI w2.drew (a11.add (Int.toNat (IntKind.i64.wrap (s5.1 - (1 : Int))))) .u32 fun x12 =>
 callR Try.prog 133 #[(.int .u32 x10), (.int .u32 x12)] w2.drew fun v13 w3 =>
 ∃ x14 : Bool, v13 = (.bool x14) ∧
 ifB x14
 (m7 (()) w3)
 (m3 (()) w3))
 (m3 (()) w2.drew))
 (fun s8 w4 =>
 (0 ≤ (IntKind.i64.wrap (s5.1 - (1 : Int))) ∧ (IntKind.i64.wrap (s5.1 - (1 : Int))) < (p0.l : Int)) ∧
 derefP p0.a fun a15 =>
 ldI w4.drew (a15.add (Int.toNat (IntKind.i64.wrap (s5.1 - (1 : Int))))) .u32 fun x16 =>
 (0 ≤ s5.1 ∧ s5.1 < (p0.l : Int)) ∧
 derefP p0.a fun a17 =>
 ldI w4.drew (a17.add (Int.toNat s5.1)) .u32 fun x18 =>
 (0 ≤ s5.1 ∧ s5.1 < (p0.l : Int)) ∧
 derefP p0.a fun a19 =>
 Wr w4.drew (a19.add (Int.toNat s5.1)) ∧
 Nw (w4.drew.setCell (a19.add (Int.toNat s5.1)) (.int .u32 x16)) fun w5 =>
 (0 ≤ (IntKind.i64.wrap (s5.1 - (1 : Int))) ∧ (IntKind.i64.wrap (s5.1 - (1 : Int))) < (p0.l : Int)) ∧
 derefP p0.a fun a20 =>
 Wr w5 (a20.add (Int.toNat (IntKind.i64.wrap (s5.1 - (1 : Int))))) ∧
 Nw (w5.setCell (a20.add (Int.toNat (IntKind.i64.wrap (s5.1 - (1 : Int))))) (.int .u32 x18)) fun w6 =>
 n6 ((IntKind.i64.wrap (s5.1 - (1 : Int))), ()) w6))
 (s1.1, ()) w1)
 (fun s4 w7 =>
 n2 ((IntKind.i64.wrap (s1.1 + (1 : Int))), ()) w7))
 (R (.tuple #[]) w1))
 ((IntKind.i64.wrap (p1 + (1 : Int))), ()) w
theorem slices_insertionSortOrdered_uint32_calls (p0 : Sl) (p1 : Int) (p2 : Int) (R : Value → World → Prop) (w : World) (h : L_slices_insertionSortOrdered_uint32 p0 p1 p2 R w) : Calls Try.prog 127 #[(.slice p0.a p0.l p0.c), (.int .i64 p1), (.int .i64 p2)] w (Ret R) :=
 lw_calls (fs := Try.fs) (an := a_slices_insertionSortOrdered_uint32) (args := [(.slice p0.a p0.l p0.c), (.int .i64 p1), (.int .i64 p2)]) Try.fsOK Try.mixed Try.func127 (by kernel_rfl) (by kernel_rfl)
 (Eq.mpr (by kernel_rfl : lwFn Try.prog Try.fs Try.f127 a_slices_insertionSortOrdered_uint32 [(.slice p0.a p0.l p0.c), (.int .i64 p1), (.int .i64 p2)] w R = L_slices_insertionSortOrdered_uint32 p0 p1 p2 R w) h)

/-- slices.heapSortOrdered[uint32] -/
def a_slices_heapSortOrdered_uint32 : Ann := (.seq none .nil (.seq none .nil (.seq none .nil (.seq none (.seq none .nil (.one (.loop ⟨[0, 6, 7, 8], [(9, (.b (.int .i64)))]⟩ (.seq none (.seq none .nil (.cond .nil .nil)) (.seq none (.one .nil) .nil))))) (.seq none .nil (.one (.loop ⟨[0, 6, 7], [(10, (.b (.int .i64)))]⟩ (.seq none (.seq none .nil (.cond .nil .nil)) (.seq none (.one (.seq none .nil .nil)) .nil)))))))))
def L_slices_heapSortOrdered_uint32 (p0 : Sl) (p1 : Int) (p2 : Int) (R : Value → World → Prop) (w : World) : Prop :=
 LoopW (S := Int × Unit) (fun s1 w1 n2 =>
 ifB (decide (s1.1 ≥ (0 : Int)))
 (callR Try.prog 150 #[(.slice p0.a p0.l p0.c), (.int .i64 s1.1), (.int .i64 (IntKind.i64.wrap (p2 - p1))), (.int .i64 p1)] w1 fun v3 w2 =>
 v3 = (.tuple #[]) ∧
 n2 ((IntKind.i64.wrap (s1.1 - (1 : Int))), ()) w2)
 (LoopW (S := Int × Unit) (fun s4 w3 n5 =>
 ifB (decide (s4.1 ≥ (0 : Int)))
 ((0 ≤ (IntKind.i64.wrap (p1 + s4.1)) ∧ (IntKind.i64.wrap (p1 + s4.1)) < (p0.l : Int)) ∧
 derefP p0.a fun a6 =>
 ldI w3.drew (a6.add (Int.toNat (IntKind.i64.wrap (p1 + s4.1)))) .u32 fun x7 =>
 (0 ≤ p1 ∧ p1 < (p0.l : Int)) ∧
 derefP p0.a fun a8 =>
 ldI w3.drew (a8.add (Int.toNat p1)) .u32 fun x9 =>
 (0 ≤ p1 ∧ p1 < (p0.l : Int)) ∧
 derefP p0.a fun a10 =>
 Wr w3.drew (a10.add (Int.toNat p1)) ∧
 Nw (w3.drew.setCell (a10.add (Int.toNat p1)) (.int .u32 x7)) fun w4 =>
 (0 ≤ (IntKind.i64.wrap (p1 + s4.1)) ∧ (IntKind.i64.wrap (p1 + s4.1)) < (p0.l : Int)) ∧
 derefP p0.a fun a11 =>
 Wr w4 (a11.add (Int.toNat (IntKind.i64.wrap (p1 + s4.1)))) ∧
 Nw (w4.setCell (a11.add (Int.toNat (IntKind.i64.wrap (p1 + s4.1)))) (.int .u32 x9)) fun w5 =>
 callR Try.prog 150 #[(.slice p0.a p0.l p0.c), (.int .i64 (0 : Int)), (.int .i64 s4.1), (.int .i64 p1)] w5 fun v12 w6 =>
 v12 = (.tuple #[]) ∧
 n5 ((IntKind.i64.wrap (s4.1 - (1 : Int))), ()) w6)
 (R (.tuple #[]) w3))
 ((IntKind.i64.wrap ((IntKind.i64.wrap (p2 - p1)) - (1 : Int))), ()) w1))
 ((IntKind.i64.wrap (Int.tdiv (IntKind.i64.wrap ((IntKind.i64.wrap (p2 - p1)) - (1 : Int))) (2 : Int))), ()) w
theorem slices_heapSortOrdered_uint32_calls (p0 : Sl) (p1 : Int) (p2 : Int) (R : Value → World → Prop) (w : World) (h : L_slices_heapSortOrdered_uint32 p0 p1 p2 R w) : Calls Try.prog 128 #[(.slice p0.a p0.l p0.c), (.int .i64 p1), (.int .i64 p2)] w (Ret R) :=
 lw_calls (fs := Try.fs) (an := a_slices_heapSortOrdered_uint32) (args := [(.slice p0.a p0.l p0.c), (.int .i64 p1), (.int .i64 p2)]) Try.fsOK Try.mixed Try.func128 (by kernel_rfl) (by kernel_rfl)
 (Eq.mpr (by kernel_rfl : lwFn Try.prog Try.fs Try.f128 a_slices_heapSortOrdered_uint32 [(.slice p0.a p0.l p0.c), (.int .i64 p1), (.int .i64 p2)] w R = L_slices_heapSortOrdered_uint32 p0 p1 p2 R w) h)

/-- slices.breakPatternsOrdered[uint32] -/
def a_slices_breakPatternsOrdered_uint32 : Ann := (.seq none .nil (.seq none .nil (.cond (.seq none .nil (.seq none .nil (.seq none .nil (.one (.loop ⟨[0, 1, 6, 7, 8], [(9, (.b (.int .i64)))]⟩ (.seq none (.seq none .nil (.cond .nil .nil)) (.seq none (.one (.seq none .nil (.seq (some ⟨[0, 1, 6, 7, 8, 9], [(10, (.b (.int .i64)))]⟩) (.seq none .nil (.cond .nil .nil)) .nil))) .nil))))))) .nil)))
def L_slices_breakPatternsOrdered_uint32 (p0 : Sl) (p1 : Int) (p2 : Int) (R : Value → World → Prop) (w : World) : Prop :=
 ifB (decide ((IntKind.i64.wrap (p2 - p1)) ≥ (8 : Int)))
 (Nw (w.alloc (.cells #[(.int .u64 (0 : Int))] 212)) fun w1 =>
 Wr w1 (blk w.heap.size) ∧
 Nw (w1.setCell (blk w.heap.size) (.int .u64 (IntKind.u64.wrap (IntKind.i64.wrap (p2 - p1))))) fun w2 =>
 callR Try.prog 151 #[(.int .i64 (IntKind.i64.wrap (p2 - p1)))] w2 fun v1 w3 =>
 ∃ x2 : Int, v1 = (.int .u64 x2) ∧
 LoopW (S := Int × Unit) (fun s3 w4 n4 =>
 ifB (decide (s3.1 ≤ (IntKind.i64.wrap ((IntKind.i64.wrap (p1 + (IntKind.i64.wrap ((IntKind.i64.wrap (Int.tdiv (IntKind.i64.wrap (p2 - p1)) (4 : Int))) * (2 : Int))))) + (1 : Int)))))
 (callR Try.prog 152 #[(.pointer (some (blk w.heap.size)))] w4 fun v5 w5 =>
 ∃ x6 : Int, v5 = (.int .u64 x6) ∧
 JoinW (S := Int × Unit) (fun m7 =>
 ifB (decide ((IntKind.i64.wrap (IntKind.u64.wrap (BitVec.toNat (BitVec.ofInt (IntKind.bits .u64) x6 &&& BitVec.ofInt (IntKind.bits .u64) (IntKind.u64.wrap (x2 - (1 : Int)))) : Int))) ≥ (IntKind.i64.wrap (p2 - p1))))
 (m7 ((IntKind.i64.wrap ((IntKind.i64.wrap (IntKind.u64.wrap (BitVec.toNat (BitVec.ofInt (IntKind.bits .u64) x6 &&& BitVec.ofInt (IntKind.bits .u64) (IntKind.u64.wrap (x2 - (1 : Int)))) : Int))) - (IntKind.i64.wrap (p2 - p1)))), ()) w5)
 (m7 ((IntKind.i64.wrap (IntKind.u64.wrap (BitVec.toNat (BitVec.ofInt (IntKind.bits .u64) x6 &&& BitVec.ofInt (IntKind.bits .u64) (IntKind.u64.wrap (x2 - (1 : Int)))) : Int))), ()) w5))
 (fun s8 w6 =>
 (0 ≤ (IntKind.i64.wrap (p1 + s8.1)) ∧ (IntKind.i64.wrap (p1 + s8.1)) < (p0.l : Int)) ∧
 derefP p0.a fun a9 =>
 ldI w6.drew (a9.add (Int.toNat (IntKind.i64.wrap (p1 + s8.1)))) .u32 fun x10 =>
 (0 ≤ s3.1 ∧ s3.1 < (p0.l : Int)) ∧
 derefP p0.a fun a11 =>
 ldI w6.drew (a11.add (Int.toNat s3.1)) .u32 fun x12 =>
 (0 ≤ s3.1 ∧ s3.1 < (p0.l : Int)) ∧
 derefP p0.a fun a13 =>
 Wr w6.drew (a13.add (Int.toNat s3.1)) ∧
 Nw (w6.drew.setCell (a13.add (Int.toNat s3.1)) (.int .u32 x10)) fun w7 =>
 (0 ≤ (IntKind.i64.wrap (p1 + s8.1)) ∧ (IntKind.i64.wrap (p1 + s8.1)) < (p0.l : Int)) ∧
 derefP p0.a fun a14 =>
 Wr w7 (a14.add (Int.toNat (IntKind.i64.wrap (p1 + s8.1)))) ∧
 Nw (w7.setCell (a14.add (Int.toNat (IntKind.i64.wrap (p1 + s8.1)))) (.int .u32 x12)) fun w8 =>
 n4 ((IntKind.i64.wrap (s3.1 + (1 : Int))), ()) w8))
 (R (.tuple #[]) w4))
 ((IntKind.i64.wrap ((IntKind.i64.wrap (p1 + (IntKind.i64.wrap ((IntKind.i64.wrap (Int.tdiv (IntKind.i64.wrap (p2 - p1)) (4 : Int))) * (2 : Int))))) - (1 : Int))), ()) w3)
 (R (.tuple #[]) w)
theorem slices_breakPatternsOrdered_uint32_calls (p0 : Sl) (p1 : Int) (p2 : Int) (R : Value → World → Prop) (w : World) (h : L_slices_breakPatternsOrdered_uint32 p0 p1 p2 R w) : Calls Try.prog 129 #[(.slice p0.a p0.l p0.c), (.int .i64 p1), (.int .i64 p2)] w (Ret R) :=
 lw_calls (fs := Try.fs) (an := a_slices_breakPatternsOrdered_uint32) (args := [(.slice p0.a p0.l p0.c), (.int .i64 p1), (.int .i64 p2)]) Try.fsOK Try.mixed Try.func129 (by kernel_rfl) (by kernel_rfl)
 (Eq.mpr (by kernel_rfl : lwFn Try.prog Try.fs Try.f129 a_slices_breakPatternsOrdered_uint32 [(.slice p0.a p0.l p0.c), (.int .i64 p1), (.int .i64 p2)] w R = L_slices_breakPatternsOrdered_uint32 p0 p1 p2 R w) h)

/-- slices.choosePivotOrdered[uint32] -/
def a_slices_choosePivotOrdered_uint32 : Ann := (.seq none .nil (.seq none .nil (.seq none .nil (.seq none .nil (.seq none .nil (.seq none .nil (.seq (some ⟨[9], [(11, (.b (.int .i64)))]⟩) (.seq none .nil (.cond (.seq (some ⟨[0, 9], [(10, (.b (.int .i64))), (11, (.b (.int .i64))), (12, (.b (.int .i64)))]⟩) (.seq none .nil (.cond (.seq none .nil (.seq none .nil .nil)) .nil)) .nil) .nil)) (.seq none .nil (.one (.seq none .nil (.cond (.seq none .nil .nil) (.seq none .nil (.cond (.seq none .nil .nil) (.seq none .nil .nil))))))))))))))
def L_slices_choosePivotOrdered_uint32 (p0 : Sl) (p1 : Int) (p2 : Int) (R : Value → World → Prop) (w : World) : Prop :=
 Nw (w.alloc (.cells #[(.int .i64 (0 : Int))] 3)) fun w1 =>
 JoinW (S := Int × Unit) (fun m1 =>
 ifB (decide ((IntKind.i64.wrap (p2 - p1)) ≥ (8 : Int)))
 (JoinW (S := Int × Int × Int × Unit) (fun m3 =>
 ifB (decide ((IntKind.i64.wrap (p2 - p1)) ≥ (50 : Int)))
 (callR Try.prog 153 #[(.slice p0.a p0.l p0.c), (.int .i64 (IntKind.i64.wrap (p1 + (IntKind.i64.wrap ((IntKind.i64.wrap (Int.tdiv (IntKind.i64.wrap (p2 - p1)) (4 : Int))) * (1 : Int)))))), (.pointer (some (blk w.heap.size)))] w1 fun v5 w2 =>
 ∃ x6 : Int, v5 = (.int .i64 x6) ∧
 callR Try.prog 153 #[(.slice p0.a p0.l p0.c), (.int .i64 (IntKind.i64.wrap (p1 + (IntKind.i64.wrap ((IntKind.i64.wrap (Int.tdiv (IntKind.i64.wrap (p2 - p1)) (4 : Int))) * (2 : Int)))))), (.pointer (some (blk w.heap.size)))] w2 fun v7 w3 =>
 ∃ x8 : Int, v7 = (.int .i64 x8) ∧
 callR Try.prog 153 #[(.slice p0.a p0.l p0.c), (.int .i64 (IntKind.i64.wrap (p1 + (IntKind.i64.wrap ((IntKind.i64.wrap (Int.tdiv (IntKind.i64.wrap (p2 - p1)) (4 : Int))) * (3 : Int)))))), (.pointer (some (blk w.heap.size)))] w3 fun v9 w4 =>
 ∃ x10 : Int, v9 = (.int .i64 x10) ∧
 m3 (x6, x8, x10, ()) w4)
 (m3 ((IntKind.i64.wrap (p1 + (IntKind.i64.wrap ((IntKind.i64.wrap (Int.tdiv (IntKind.i64.wrap (p2 - p1)) (4 : Int))) * (1 : Int))))), (IntKind.i64.wrap (p1 + (IntKind.i64.wrap ((IntKind.i64.wrap (Int.tdiv (IntKind.i64.wrap (p2 - p1)) (4 : Int))) * (2 : Int))))), (IntKind.i64.wrap (p1 + (IntKind.i64.wrap ((IntKind.i64.wrap (Int.tdiv (IntKind.i64.wrap (p2 - p1)) (4 : Int))) * (3 : Int))))), ()) w1))
 (fun s4 w5 =>
 callR Try.prog 154 #[(.slice p0.a p0.l p0.c), (.int .i64 s4.1), (.int .i64 s4.2.1), (.int .i64 s4.2.2.1), (.pointer (some (blk w.heap.size)))] w5 fun v11 w6 =>
 ∃ x12 : Int, v11 = (.int .i64 x12) ∧
 m1 (x12, ()) w6))
 (m1 ((IntKind.i64.wrap (p1 + (IntKind.i64.wrap ((IntKind.i64.wrap (Int.tdiv (IntKind.i64.wrap (p2 - p1)) (4 : Int))) * (2 : Int))))), ()) w1))
 (fun s2 w7 =>
 ldI w7 (blk w.heap.size) .i64 fun x13 =>
 ifB (x13 == (0 : Int))
 (R (.tuple #[(.int .i64 s2.1), (.int .i64 (1 : Int))]) w7)
 (ifB (x13 == (12 : Int))
 (R (.tuple #[(.int .i64 s2.1), (.int .i64 (2 : Int))]) w7)
 (R (.tuple #[(.int .i64 s2.1), (.int .i64 (0 : Int))]) w7)))
theorem slices_choosePivotOrdered_uint32_calls (p0 : Sl) (p1 : Int) (p2 : Int) (R : Value → World → Prop) (w : World) (h : L_slices_choosePivotOrdered_uint32 p0 p1 p2 R w) : Calls Try.prog 130 #[(.slice p0.a p0.l p0.c), (.int .i64 p1), (.int .i64 p2)] w (Ret R) :=
 lw_calls (fs := Try.fs) (an := a_slices_choosePivotOrdered_uint32) (args := [(.slice p0.a p0.l p0.c), (.int .i64 p1), (.int .i64 p2)]) Try.fsOK Try.mixed Try.func130 (by kernel_rfl) (by kernel_rfl)
 (Eq.mpr (by kernel_rfl : lwFn Try.prog Try.fs Try.f130 a_slices_choosePivotOrdered_uint32 [(.slice p0.a p0.l p0.c), (.int .i64 p1), (.int .i64 p2)] w R = L_slices_choosePivotOrdered_uint32 p0 p1 p2 R w) h)

/-- slices.reverseRangeOrdered[uint32] -/
def a_slices_reverseRangeOrdered_uint32 : Ann := (.seq none .nil (.seq none .nil (.one (.loop ⟨[0], [(6, (.b (.int .i64))), (7, (.b (.int .i64)))]⟩ (.seq none (.seq none .nil (.cond .nil .nil)) (.one (.seq none .nil (.seq none .nil .nil))))))))
def L_slices_reverseRangeOrdered_uint32 (p0 : Sl) (p1 : Int) (p2 : Int) (R : Value → World → Prop) (w : World) : Prop :=
 LoopW (S := Int × Int × Unit) (fun s1 w1 n2 =>
 ifB (decide (s1.1 < s1.2.1))
 ((0 ≤ s1.2.1 ∧ s1.2.1 < (p0.l : Int)) ∧
 derefP p0.a fun a3 =>
 ldI w1.drew (a3.add (Int.toNat s1.2.1)) .u32 fun x4 =>
 (0 ≤ s1.1 ∧ s1.1 < (p0.l : Int)) ∧
 derefP p0.a fun a5 =>
 ldI w1.drew (a5.add (Int.toNat s1.1)) .u32 fun x6 =>
 (0 ≤ s1.1 ∧ s1.1 < (p0.l : Int)) ∧
 derefP p0.a fun a7 =>
 Wr w1.drew (a7.add (Int.toNat s1.1)) ∧
 Nw (w1.drew.setCell (a7.add (Int.toNat s1.1)) (.int .u32 x4)) fun w2 =>
 (0 ≤ s1.2.1 ∧ s1.2.1 < (p0.l : Int)) ∧
 derefP p0.a fun a8 =>
 Wr w2 (a8.add (Int.toNat s1.2.1)) ∧
 Nw (w2.setCell (a8.add (Int.toNat s1.2.1)) (.int .u32 x6)) fun w3 =>
 n2 ((IntKind.i64.wrap (s1.1 + (1 : Int))), (IntKind.i64.wrap (s1.2.1 - (1 : Int))), ()) w3)
 (R (.tuple #[]) w1))
 (p1, (IntKind.i64.wrap (p2 - (1 : Int))), ()) w
theorem slices_reverseRangeOrdered_uint32_calls (p0 : Sl) (p1 : Int) (p2 : Int) (R : Value → World → Prop) (w : World) (h : L_slices_reverseRangeOrdered_uint32 p0 p1 p2 R w) : Calls Try.prog 131 #[(.slice p0.a p0.l p0.c), (.int .i64 p1), (.int .i64 p2)] w (Ret R) :=
 lw_calls (fs := Try.fs) (an := a_slices_reverseRangeOrdered_uint32) (args := [(.slice p0.a p0.l p0.c), (.int .i64 p1), (.int .i64 p2)]) Try.fsOK Try.mixed Try.func131 (by kernel_rfl) (by kernel_rfl)
 (Eq.mpr (by kernel_rfl : lwFn Try.prog Try.fs Try.f131 a_slices_reverseRangeOrdered_uint32 [(.slice p0.a p0.l p0.c), (.int .i64 p1), (.int .i64 p2)] w R = L_slices_reverseRangeOrdered_uint32 p0 p1 p2 R w) h)

/-- slices.partialInsertionSortOrdered[uint32] -/
def a_slices_partialInsertionSortOrdered_uint32 : Ann := (.seq none .nil (.seq none .nil (.seq none (.seq none .nil (.one (.loop ⟨[0, 1, 2], [(7, (.b (.int .i64))), (8, (.b (.int .i64)))]⟩ (.seq none (.seq none .nil (.cond .nil .nil)) (.seq (some ⟨[0, 1, 2, 8], [(7, (.b (.int .i64)))]⟩) (.one (.seq (some ⟨[0, 1, 2, 8], [(7, (.b (.int .i64)))]⟩) (.one (.loop ⟨[0, 1, 2, 8], [(7, (.b (.int .i64)))]⟩ (.seq (some ⟨[0, 1, 2, 7, 8], []⟩) (.seq none .nil (.cond .nil .nil)) (.one .nil)))) (.seq none (.seq none .nil (.cond (.seq none .nil .nil) .nil)) (.seq none (.seq none .nil (.cond (.seq none .nil .nil) .nil)) (.seq none .nil (.seq (some ⟨[0, 1, 2, 7, 8], []⟩) (.seq none .nil (.cond (.seq none .nil (.one (.loop ⟨[0, 1, 2, 7, 8], [(9, (.b (.int .i64)))]⟩ (.seq none (.seq none .nil (.cond .nil .nil)) (.seq none (.one (.seq none (.seq none .nil (.cond .nil .nil)) .nil)) .nil))))) .nil)) (.seq none .nil (.cond (.seq none .nil (.one (.loop ⟨[0, 1, 2, 7, 8], [(10, (.b (.int .i64)))]⟩ (.seq none (.seq none .nil (.cond .nil .nil)) (.seq none (.one (.seq none (.seq none .nil (.cond .nil .nil)) .nil)) .nil))))) .nil)))))))) .nil))))) (.seq none .nil .nil))))
def L_slices_partialInsertionSortOrdered_uint32 (p0 : Sl) (p1 : Int) (p2 : Int) (R : Value → World → Prop) (w : World) : Prop :=
 LoopW (S := Int × Int × Unit) (fun s1 w1 n2 =>
 ifB (decide (s1.2.1 < (5 : Int)))
 (JoinW (S := Int × Unit) (fun m3 =>
 JoinW (S := Int × Unit) (fun m5 =>
 LoopW (S := Int × Unit) (fun s7 w2 n8 =>
 JoinW (S := Unit) (fun m9 =>
 ifB (decide (s7.1 < p2))
 ((0 ≤ s7.1 ∧ s7.1 < (p0.l : Int)) ∧
 derefP p0.a fun a11 =>
 ldI w2.drew (a11.add (Int.toNat s7.1)) .u32 fun x12 =>
 (0 ≤ (IntKind.i64.wrap (s7.1 - (1 : Int))) ∧ (IntKind.i64.wrap (s7.1 - (1 : Int))) < (p0.l : Int)) ∧
 derefP p0.a fun a13 =>
 ldI w2.drew (a13.add (Int.toNat (IntKind.i64.wrap (s7.1 - (1 : Int))))) .u32 fun x14 =>
 callR Try.prog 133 #[(.int .u32 x12), (.int .u32 x14)] w2.drew fun v15 w3 =>
 ∃ x16 : Bool, v15 = (.bool x16) ∧
 ifB (!x16)
 (m9 (()) w3)
 (m5 (s7.1, ()) w3))
 (m5 (s7.1, ()) w2.drew))
 (fun s10 w4 =>
 n8 ((IntKind.i64.wrap (s7.1 + (1 : Int))), ()) w4))
 (s1.1, ()) w1)
 (fun s6 w5 =>
 ifB (s6.1 == p2)
 (R (.bool true) w5)
 (ifB (decide ((IntKind.i64.wrap (p2 - p1)) < (50 : Int)))
 (R (.bool false) w5)
 ((0 ≤ (IntKind.i64.wrap (s6.1 - (1 : Int))) ∧ (IntKind.i64.wrap (s6.1 - (1 : Int))) < (p0.l : Int)) ∧
 derefP p0.a fun a17 =>
 ldI w5.drew (a17.add (Int.toNat (IntKind.i64.wrap (s6.1 - (1 : Int))))) .u32 fun x18 =>
 (0 ≤ s6.1 ∧ s6.1 < (p0.l : Int)) ∧
 derefP p0.a fun a19 =>
 ldI w5.drew (a19.add (Int.toNat s6.1)) .u32 fun x20 =>
 (0 ≤ s6.1 ∧ s6.1 < (p0.l : Int)) ∧
 derefP p0.a fun a21 =>
 Wr w5.drew (a21.add (Int.toNat s6.1)) ∧
 Nw (w5.drew.setCell (a21.add (Int.toNat s6.1)) (.int .u32 x18)) fun w6 =>
 (0 ≤ (IntKind.i64.wrap (s6.1 - (1 : Int))) ∧ (IntKind.i64.wrap (s6.1 - (1 : Int))) < (p0.l : Int)) ∧
 derefP p0.a fun a22 =>
 Wr w6 (a22.add (Int.toNat (IntKind.i64.wrap (s6.1 - (1 : Int))))) ∧
 Nw (w6.setCell (a22.add (Int.toNat (IntKind.i64.wrap (s6.1 - (1 : Int))))) (.int .u32 x20)) fun w7 =>
 JoinW (S := Unit) (fun m23 =>
 ifB (decide ((IntKind.i64.wrap (s6.1 - p1)) ≥ (2 : Int)))
 (LoopW (S := Int × Unit) (fun s25 w8 n26 =>
 ifB (decide (s25.1 ≥ (1 : Int)))
 ((0 ≤ s25.1 ∧ s25.1 < (p0.l : Int)) ∧
 derefP p0.a fun a27 =>
 ldI w8.drew (a27.add (Int.toNat s25.1)) .u32 fun x28 =>
 (0 ≤ (IntKind.i64.wrap (s25.1 - (1 : Int))) ∧ (IntKind.i64.wrap (s25.1 - (1 : Int))) < (p0.l : Int)) ∧
 derefP p0.a fun a29 =>
 ldI w8.drew (a29.add (Int.toNat (IntKind.i64.wrap (s25.1 - (1 : Int))))) .u32 fun x30 =>
 callR Try.prog 133 #[(.int .u32 x28), (.int .u32 x30)] w8.drew fun v31 w9 =>
 ∃ x32 : Bool, v31 = (.bool x32) ∧
 ifB (!x32)
 (m23 (()) w9)
 ((0 ≤ (IntKind.i64.wrap (s25.1 - (1 : Int))) ∧ (IntKind.i64.wrap (s25.1 - (1 : Int))) < (p0.l : Int)) ∧
 derefP p0.a fun a33 =>
 ldI w9.drew (a33.add (Int.toNat (IntKind.i64.wrap (s25.1 - (1 : Int))))) .u32 fun x34 =>
 (0 ≤ s25.1 ∧ s25.1 < (p0.l : Int)) ∧
 derefP p0.a fun a35 =>
 ldI w9.drew (a35.add (Int.toNat s25.1)) .u32 fun x36 =>
 (0 ≤ s25.1 ∧ s25.1 < (p0.l : Int)) ∧
 derefP p0.a fun a37 =>
 Wr w9.drew (a37.add (Int.toNat s25.1)) ∧
 Nw (w9.drew.setCell (a37.add (Int.toNat s25.1)) (.int .u32 x34)) fun w10 =>
 (0 ≤ (IntKind.i64.wrap (s25.1 - (1 : Int))) ∧ (IntKind.i64.wrap (s25.1 - (1 : Int))) < (p0.l : Int)) ∧
 derefP p0.a fun a38 =>
 Wr w10 (a38.add (Int.toNat (IntKind.i64.wrap (s25.1 - (1 : Int))))) ∧
 Nw (w10.setCell (a38.add (Int.toNat (IntKind.i64.wrap (s25.1 - (1 : Int))))) (.int .u32 x36)) fun w11 =>
 n26 ((IntKind.i64.wrap (s25.1 - (1 : Int))), ()) w11))
 (m23 (()) w8))
 ((IntKind.i64.wrap (s6.1 - (1 : Int))), ()) w7)
 (m23 (()) w7))
 (fun s24 w12 =>
 ifB (decide ((IntKind.i64.wrap (p2 - s6.1)) ≥ (2 : Int)))
 (LoopW (S := Int × Unit) (fun s39 w13 n40 =>
 ifB (decide (s39.1 < p2))
 ((0 ≤ s39.1 ∧ s39.1 < (p0.l : Int)) ∧
 derefP p0.a fun a41 =>
 ldI w13.drew (a41.add (Int.toNat s39.1)) .u32 fun x42 =>
 (0 ≤ (IntKind.i64.wrap (s39.1 - (1 : Int))) ∧ (IntKind.i64.wrap (s39.1 - (1 : Int))) < (p0.l : Int)) ∧
 derefP p0.a fun a43 =>
 ldI w13.drew (a43.add (Int.toNat (IntKind.i64.wrap (s39.1 - (1 : Int))))) .u32 fun x44 =>
 callR Try.prog 133 #[(.int .u32 x42), (.int .u32 x44)] w13.drew fun v45 w14 =>
 ∃ x46 : Bool, v45 = (.bool x46) ∧
 ifB (!x46)
 (m3 (s6.1, ()) w14)
 ((0 ≤ (IntKind.i64.wrap (s39.1 - (1 : Int))) ∧ (IntKind.i64.wrap (s39.1 - (1 : Int))) < (p0.l : Int)) ∧
 derefP p0.a fun a47 =>
 ldI w14.drew (a47.add (Int.toNat (IntKind.i64.wrap (s39.1 - (1 : Int))))) .u32 fun x48 =>
 (0 ≤ s39.1 ∧ s39.1 < (p0.l : Int)) ∧
 derefP p0.a fun a49 =>
 ldI w14.drew (a49.add (Int.toNat s39.1)) .u32 fun x50 =>
 (0 ≤ s39.1 ∧ s39.1 < (p0.l : Int)) ∧
 derefP p0.a fun a51 =>
 Wr w14.drew (a51.add (Int.toNat s39.1)) ∧
 Nw (w14.drew.setCell (a51.add (Int.toNat s39.1)) (.int .u32 x48)) fun w15 =>
 (0 ≤ (IntKind.i64.wrap (s39.1 - (1 : Int))) ∧ (IntKind.i64.wrap (s39.1 - (1 : Int))) < (p0.l : Int)) ∧
 derefP p0.a fun a52 =>
 Wr w15 (a52.add (Int.toNat (IntKind.i64.wrap (s39.1 - (1 : Int))))) ∧
 Nw (w15.setCell (a52.add (Int.toNat (IntKind.i64.wrap (s39.1 - (1 : Int))))) (.int .u32 x50)) fun w16 =>
 n40 ((IntKind.i64.wrap (s39.1 + (1 : Int))), ()) w16))
 (m3 (s6.1, ()) w13))
 ((IntKind.i64.wrap (s6.1 + (1 : Int))), ()) w12)
 (m3 (s6.1, ()) w12))))))
 (fun s4 w17 =>
 n2 (s4.1, (IntKind.i64.wrap (s1.2.1 + (1 : Int))), ()) w17))
 (R (.bool false) w1))
 ((IntKind.i64.wrap (p1 + (1 : Int))), (0 : Int), ()) w
theorem slices_partialInsertionSortOrdered_uint32_calls (p0 : Sl) (p1 : Int) (p2 : Int) (R : Value → World → Prop) (w : World) (h : L_slices_partialInsertionSortOrdered_uint32 p0 p1 p2 R w) : Calls Try.prog 132 #[(.slice p0.a p0.l p0.c), (.int .i64 p1), (.int .i64 p2)] w (Ret R) :=
 lw_calls (fs := Try.fs) (an := a_slices_partialInsertionSortOrdered_uint32) (args := [(.slice p0.a p0.l p0.c), (.int .i64 p1), (.int .i64 p2)]) Try.fsOK Try.mixed Try.func132 (by kernel_rfl) (by kernel_rfl)
 (Eq.mpr (by kernel_rfl : lwFn Try.prog Try.fs Try.f132 a_slices_partialInsertionSortOrdered_uint32 [(.slice p0.a p0.l p0.c), (.int .i64 p1), (.int .i64 p2)] w R = L_slices_partialInsertionSortOrdered_uint32 p0 p1 p2 R w) h)

/-- cmp.Less[uint32] -/
def a_cmp_Less_uint32 : Ann := (.seq none .nil (.seq none .nil .nil))
def L_cmp_Less_uint32 (p0 : Int) (p1 : Int) (R : Value → World → Prop) (w : World) : Prop :=
 callR Try.prog 155 #[(.int .u32 p0)] w fun v1 w1 =>
 ∃ x2 : Bool, v1 = (.bool x2) ∧
 ifB x2
 (callR Try.prog 155 #[(.int .u32 p1)] w1 fun v3 w2 =>
 ∃ x4 : Bool, v3 = (.bool x4) ∧
 ifB (!x4)
 (R (.bool true) w2)
 (R (.bool (decide (p0 < p1))) w2))
 (R (.bool (decide (p0 < p1))) w1)
theorem cmp_Less_uint32_calls (p0 : Int) (p1 : Int) (R : Value → World → Prop) (w : World) (h : L_cmp_Less_uint32 p0 p1 R w) : Calls Try.prog 133 #[(.int .u32 p0), (.int .u32 p1)] w (Ret R) :=
 lw_calls (fs := Try.fs) (an := a_cmp_Less_uint32) (args := [(.int .u32 p0), (.int .u32 p1)]) Try.fsOK Try.mixed Try.func133 (by kernel_rfl) (by kernel_rfl)
 (Eq.mpr (by kernel_rfl : lwFn Try.prog Try.fs Try.f133 a_cmp_Less_uint32 [(.int .u32 p0), (.int .u32 p1)] w R = L_cmp_Less_uint32 p0 p1 R w) h)

/-- slices.partitionEqualOrdered[uint32] -/
def a_slices_partitionEqualOrdered_uint32 : Ann := (.seq none .nil (.seq none .nil (.seq none .nil (.seq none (.one (.loop ⟨[0, 1], [(9, (.b (.int .i64))), (10, (.b (.int .i64)))]⟩ (.one (.seq (some ⟨[0, 1, 10], [(9, (.b (.int .i64)))]⟩) (.one (.loop ⟨[0, 1, 10], [(9, (.b (.int .i64)))]⟩ (.seq (some ⟨[0, 1, 9, 10], []⟩) (.seq none .nil (.cond .nil .nil)) (.one .nil)))) (.seq (some ⟨[0, 1, 9], [(10, (.b (.int .i64)))]⟩) (.one (.loop ⟨[0, 1, 9], [(10, (.b (.int .i64)))]⟩ (.seq (some ⟨[0, 1, 9, 10], []⟩) (.seq none .nil (.cond .nil .nil)) (.one .nil)))) (.seq none (.seq none .nil (.cond .nil .nil)) (.seq none .nil (.seq none .nil .nil)))))))) (.seq none .nil .nil)))))
def L_slices_partitionEqualOrdered_uint32 (p0 : Sl) (p1 : Int) (p2 : Int) (p3 : Int) (R : Value → World → Prop) (w : World) : Prop :=
 (0 ≤ p3 ∧ p3 < (p0.l : Int)) ∧
 derefP p0.a fun a1 =>
 ldI w.drew (a1.add (Int.toNat p3)) .u32 fun x2 =>
 (0 ≤ p1 ∧ p1 < (p0.l : Int)) ∧
 derefP p0.a fun a3 =>
 ldI w.drew (a3.add (Int.toNat p1)) .u32 fun x4 =>
 (0 ≤ p1 ∧ p1 < (p0.l : Int)) ∧
 derefP p0.a fun a5 =>
 Wr w.drew (a5.add (Int.toNat p1)) ∧
 Nw (w.drew.setCell (a5.add (Int.toNat p1)) (.int .u32 x2)) fun w1 =>
 (0 ≤ p3 ∧ p3 < (p0.l : Int)) ∧
 derefP p0.a fun a6 =>
 Wr w1 (a6.add (Int.toNat p3)) ∧
 Nw (w1.setCell (a6.add (Int.toNat p3)) (.int .u32 x4)) fun w2 =>
 LoopW (S := Int × Int × Unit) (fun s7 w3 n8 =>
 JoinW (S := Int × Unit) (fun m9 =>
 LoopW (S := Int × Unit) (fun s11 w4 n12 =>
 JoinW (S := Unit) (fun m13 =>
 ifB (decide (s11.1 ≤ s7.2.1))
 ((0 ≤ p1 ∧ p1 < (p0.l : Int)) ∧
 derefP p0.a fun a15 =>
 ldI w4.drew (a15.add (Int.toNat p1)) .u32 fun x16 =>
 (0 ≤ s11.1 ∧ s11.1 < (p0.l : Int)) ∧
 derefP p0.a fun a17 =>
 ldI w4.drew (a17.add (Int.toNat s11.1)) .u32 fun x18 =>
 callR Try.prog 133 #[(.int .u32 x16), (.int .u32 x18)] w4.drew fun v19 w5 =>
 ∃ x20 : Bool, v19 = (.bool x20) ∧
 ifB (!x20)
 (m13 (()) w5)
 (m9 (s11.1, ()) w5))
 (m9 (s11.1, ()) w4.drew))
 (fun s14 w6 =>
 n12 ((IntKind.i64.wrap (s11.1 + (1 : Int))), ()) w6))
 (s7.1, ()) w3)
 (fun s10 w7 =>
 JoinW (S := Int × Unit) (fun m21 =>
 LoopW (S := Int × Unit) (fun s23 w8 n24 =>
 JoinW (S := Unit) (fun m25 =>
 ifB (decide (s10.1 ≤ s23.1))
 ((0 ≤ p1 ∧ p1 < (p0.l : Int)) ∧
 derefP p0.a fun a27 =>
 ldI w8.drew (a27.add (Int.toNat p1)) .u32 fun x28 =>
 (0 ≤ s23.1 ∧ s23.1 < (p0.l : Int)) ∧
 derefP p0.a fun a29 =>
 ldI w8.drew (a29.add (Int.toNat s23.1)) .u32 fun x30 =>
 callR Try.prog 133 #[(.int .u32 x28), (.int .u32 x30)] w8.drew fun v31 w9 =>
 ∃ x32 : Bool, v31 = (.bool x32) ∧
 ifB x32
 (m25 (()) w9)
 (m21 (s23.1, ()) w9))
 (m21 (s23.1, ()) w8.drew))
 (fun s26 w10 =>
 n24 ((IntKind.i64.wrap (s23.1 - (1 : Int))), ()) w10))
 (s7.2.1, ()) w7)
 (fun s22 w11 =>
 ifB (decide (s10.1 > s22.1))
 (R (.int .i64 s10.1) w11)
 ((0 ≤ s22.1 ∧ s22.1 < (p0.l : Int)) ∧
 derefP p0.a fun a33 =>
 ldI w11.drew (a33.add (Int.toNat s22.1)) .u32 fun x34 =>
 (0 ≤ s10.1 ∧ s10.1 < (p0.l : Int)) ∧
 derefP p0.a fun a35 =>
 ldI w11.drew (a35.add (Int.toNat s10.1)) .u32 fun x36 =>
 (0 ≤ s10.1 ∧ s10.1 < (p0.l : Int)) ∧
 derefP p0.a fun a37 =>
 Wr w11.drew (a37.add (Int.toNat s10.1)) ∧
 Nw (w11.drew.setCell (a37.add (Int.toNat s10.1)) (.int .u32 x34)) fun w12 =>
 (0 ≤ s22.1 ∧ s22.1 < (p0.l : Int)) ∧
 derefP p0.a fun a38 =>
 Wr w12 (a38.add (Int.toNat s22.1)) ∧
 Nw (w12.setCell (a38.add (Int.toNat s22.1)) (.int .u32 x36)) fun w13 =>
 n8 ((IntKind.i64.wrap (s10.1 + (1 : Int))), (IntKind.i64.wrap (s22.1 - (1 : Int))), ()) w13))))
 ((IntKind.i64.wrap (p1 + (1 : Int))), (IntKind.i64.wrap (p2 - (1 : Int))), ()) w2
theorem slices_partitionEqualOrdered_uint32_calls (p0 : Sl) (p1 : Int) (p2 : Int) (p3 : Int) (R : Value → World → Prop) (w : World) (h : L_slices_partitionEqualOrdered_uint32 p0 p1 p2 p3 R w) : Calls Try.prog 134 #[(.slice p0.a p0.l p0.c), (.int .i64 p1), (.int .i64 p2), (.int .i64 p3)] w (Ret R) :=
 lw_calls (fs := Try.fs) (an := a_slices_partitionEqualOrdered_uint32) (args := [(.slice p0.a p0.l p0.c), (.int .i64 p1), (.int .i64 p2), (.int .i64 p3)]) Try.fsOK Try.mixed Try.func134 (by kernel_rfl) (by kernel_rfl)
 (Eq.mpr (by kernel_rfl : lwFn Try.prog Try.fs Try.f134 a_slices_partitionEqualOrdered_uint32 [(.slice p0.a p0.l p0.c), (.int .i64 p1), (.int .i64 p2), (.int .i64 p3)] w R = L_slices_partitionEqualOrdered_uint32 p0 p1 p2 p3 R w) h)

/-- slices.partitionOrdered[uint32] -/
def a_slices_partitionOrdered_uint32 : Ann := (.seq none .nil (.seq none .nil (.seq none .nil (.seq (some ⟨[0, 1, 11], [(10, (.b (.int .i64)))]⟩) (.one (.loop ⟨[0, 1, 11], [(10, (.b (.int .i64)))]⟩ (.seq (some ⟨[0, 1, 10, 11], []⟩) (.seq none .nil (.cond .nil .nil)) (.one .nil)))) (.seq (some ⟨[0, 1, 10], [(11, (.b (.int .i64)))]⟩) (.one (.loop ⟨[0, 1, 10], [(11, (.b (.int .i64)))]⟩ (.seq (some ⟨[0, 1, 10, 11], []⟩) (.seq none .nil (.cond .nil .nil)) (.one .nil)))) (.seq none (.seq none .nil (.cond (.seq none .nil (.seq none .nil .nil)) .nil)) (.seq none .nil (.seq none .nil (.seq none .nil (.seq none (.one (.loop ⟨[0, 1], [(10, (.b (.int .i64))), (11, (.b (.int .i64)))]⟩ (.one (.seq (some ⟨[0, 1, 11], [(10, (.b (.int .i64)))]⟩) (.one (.loop ⟨[0, 1, 11], [(10, (.b (.int .i64)))]⟩ (.seq (some ⟨[0, 1, 10, 11], []⟩) (.seq none .nil (.cond .nil .nil)) (.one .nil)))) (.seq (some ⟨[0, 1, 10], [(11, (.b (.int .i64)))]⟩) (.one (.loop ⟨[0, 1, 10], [(11, (.b (.int .i64)))]⟩ (.seq (some ⟨[0, 1, 10, 11], []⟩) (.seq none .nil (.cond .nil .nil)) (.one .nil)))) (.seq none (.seq none .nil (.cond .nil .nil)) (.seq none .nil (.seq none .nil .nil)))))))) (.seq none .nil (.seq none .nil .nil))))))))))))
def L_slices_partitionOrdered_uint32 (p0 : Sl) (p1 : Int) (p2 : Int) (p3 : Int) (R : Value → World → Prop) (w : World) : Prop :=
 (0 ≤ p3 ∧ p3 < (p0.l : Int)) ∧
 derefP p0.a fun a1 =>
 ldI w.drew (a1.add (Int.toNat p3)) .u32 fun x2 =>
 (0 ≤ p1 ∧ p1 < (p0.l : Int)) ∧
 derefP p0.a fun a3 =>
 ldI w.drew (a3.add (Int.toNat p1)) .u32 fun x4 =>
 (0 ≤ p1 ∧ p1 < (p0.l : Int)) ∧
 derefP p0.a fun a5 =>
 Wr w.drew (a5.add (Int.toNat p1)) ∧
 Nw (w.drew.setCell (a5.add (Int.toNat p1)) (.int .u32 x2)) fun w1 =>
 (0 ≤ p3 ∧ p3 < (p0.l : Int)) ∧
 derefP p0.a fun a6 =>
 Wr w1 (a6.add (Int.toNat p3)) ∧
 Nw (w1.setCell (a6.add (Int.toNat p3)) (.int .u32 x4)) fun w2 =>
 JoinW (S := Int × Unit) (fun m7 =>
 LoopW (S := Int × Unit) (fun s9 w3 n10 =>
 JoinW (S := Unit) (fun m11 =>
 ifB (decide (s9.1 ≤ (IntKind.i64.wrap (p2 - (1 : Int)))))
 ((0 ≤ s9.1 ∧ s9.1 < (p0.l : Int)) ∧
 derefP p0.a fun a13 =>
 ldI w3.drew (a13.add (Int.toNat s9.1)) .u32 fun x14 =>
 (0 ≤ p1 ∧ p1 < (p0.l : Int)) ∧
 derefP p0.a fun a15 =>
 ldI w3.drew (a15.add (Int.toNat p1)) .u32 fun x16 =>
 callR Try.prog 133 #[(.int .u32 x14), (.int .u32 x16)] w3.drew fun v17 w4 =>
 ∃ x18 : Bool, v17 = (.bool x18) ∧
 ifB x18
 (m11 (()) w4)
 (m7 (s9.1, ()) w4))
 (m7 (s9.1, ()) w3.drew))
 (fun s12 w5 =>
 n10 ((IntKind.i64.wrap (s9.1 + (1 : Int))), ()) w5))
 ((IntKind.i64.wrap (p1 + (1 : Int))), ()) w2)
 (fun s8 w6 =>
 JoinW (S := Int × Unit) (fun m19 =>
 LoopW (S := Int × Unit) (fun s21 w7 n22 =>
 JoinW (S := Unit) (fun m23 =>
 ifB (decide (s8.1 ≤ s21.1))
 ((0 ≤ s21.1 ∧ s21.1 < (p0.l : Int)) ∧
 derefP p0.a fun a25 =>
 ldI w7.drew (a25.add (Int.toNat s21.1)) .u32 fun x26 =>
 (0 ≤ p1 ∧ p1 < (p0.l : Int)) ∧
 derefP p0.a fun a27 =>
 ldI w7.drew (a27.add (Int.toNat p1)) .u32 fun x28 =>
 callR Try.prog 133 #[(.int .u32 x26), (.int .u32 x28)] w7.drew fun v29 w8 =>
 ∃ x30 : Bool, v29 = (.bool x30) ∧
 ifB (!x30)
 (m23 (()) w8)
 (m19 (s21.1, ()) w8))
 (m19 (s21.1, ()) w7.drew))
 (fun s24 w9 =>
 n22 ((IntKind.i64.wrap (s21.1 - (1 : Int))), ()) w9))
 ((IntKind.i64.wrap (p2 - (1 : Int))), ()) w6)
 (fun s20 w10 =>
 ifB (decide (s8.1 > s20.1))
 ((0 ≤ p1 ∧ p1 < (p0.l : Int)) ∧
 derefP p0.a fun a31 =>
 ldI w10.drew (a31.add (Int.toNat p1)) .u32 fun x32 =>
 (0 ≤ s20.1 ∧ s20.1 < (p0.l : Int)) ∧
 derefP p0.a fun a33 =>
 ldI w10.drew (a33.add (Int.toNat s20.1)) .u32 fun x34 =>
 (0 ≤ s20.1 ∧ s20.1 < (p0.l : Int)) ∧
 derefP p0.a fun a35 =>
 Wr w10.drew (a35.add (Int.toNat s20.1)) ∧
 Nw (w10.drew.setCell (a35.add (Int.toNat s20.1)) (.int .u32 x32)) fun w11 =>
 (0 ≤ p1 ∧ p1 < (p0.l : Int)) ∧
 derefP p0.a fun a36 =>
 Wr w11 (a36.add (Int.toNat p1)) ∧
 Nw (w11.setCell (a36.add (Int.toNat p1)) (.int .u32 x34)) fun w12 =>
 R (.tuple #[(.int .i64 s20.1), (.bool true)]) w12)
 ((0 ≤ s20.1 ∧ s20.1 < (p0.l : Int)) ∧
 derefP p0.a fun a37 =>
 ldI w10.drew (a37.add (Int.toNat s20.1)) .u32 fun x38 =>
 (0 ≤ s8.1 ∧ s8.1 < (p0.l : Int)) ∧
 derefP p0.a fun a39 =>
 ldI w10.drew (a39.add (Int.toNat s8.1)) .u32 fun x40 =>
 (0 ≤ s8.1 ∧ s8.1 < (p0.l : Int)) ∧
 derefP p0.a fun a41 =>
 Wr w10.drew (a41.add (Int.toNat s8.1)) ∧
 Nw (w10.drew.setCell (a41.add (Int.toNat s8.1)) (.int .u32 x38)) fun w13 =>
 (0 ≤ s20.1 ∧ s20.1 < (p0.l : Int)) ∧
 derefP p0.a fun a42 =>
 Wr w13 (a42.add (Int.toNat s20.1)) ∧
 Nw (w13.setCell (a42.add (Int.toNat s20.1)) (.int .u32 x40)) fun w14 =>
 LoopW (S := Int × Int × Unit) (fun s43 w15 n44 =>
 JoinW (S := Int × Unit) (fun m45 =>
 LoopW (S := Int × Unit) (fun s47 w16 n48 =>
 JoinW (S := Unit) (fun m49 =>
 ifB (decide (s47.1 ≤ s43.2.1))
 ((0 ≤ s47.1 ∧ s47.1 < (p0.l : Int)) ∧
 derefP p0.a fun a51 =>
 ldI w16.drew (a51.add (Int.toNat s47.1)) .u32 fun x52 =>
 (0 ≤ p1 ∧ p1 < (p0.l : Int)) ∧
 derefP p0.a fun a53 =>
 ldI w16.drew (a53.add (Int.toNat p1)) .u32 fun x54 =>
 callR Try.prog 133 #[(.int .u32 x52), (.int .u32 x54)] w16.drew fun v55 w17 =>
 ∃ x56 : Bool, v55 = (.bool x56) ∧
 ifB x56
 (m49 (()) w17)
 (m45 (s47.1, ()) w17))
 (m45 (s47.1, ()) w16.drew))
 (fun s50 w18 =>
 n48 ((IntKind.i64.wrap (s47.1 + (1 : Int))), ()) w18))
 (s43.1, ()) w15)
 (fun s46 w19 =>
 JoinW (S := Int × Unit) (fun m57 =>
 LoopW (S := Int × Unit) (fun s59 w20 n60 =>
 JoinW (S := Unit) (fun m61 =>
 ifB (decide (s46.1 ≤ s59.1))
 ((0 ≤ s59.1 ∧ s59.1 < (p0.l : Int)) ∧
 derefP p0.a fun a63 =>
 ldI w20.drew (a63.add (Int.toNat s59.1)) .u32 fun x64 =>
 (0 ≤ p1 ∧ p1 < (p0.l : Int)) ∧
 derefP p0.a fun a65 =>
 ldI w20.drew (a65.add (Int.toNat p1)) .u32 fun x66 =>
 callR Try.prog 133 #[(.int .u32 x64), (.int .u32 x66)] w20.drew fun v67 w21 =>
 ∃ x68 : Bool, v67 = (.bool x68) ∧
 ifB (!x68)
 (m61 (()) w21)
 (m57 (s59.1, ()) w21))
 (m57 (s59.1, ()) w20.drew))
 (fun s62 w22 =>
 n60 ((IntKind.i64.wrap (s59.1 - (1 : Int))), ()) w22))
 (s43.2.1, ()) w19)
 (fun s58 w23 =>
 ifB (decide (s46.1 > s58.1))
 ((0 ≤ p1 ∧ p1 < (p0.l : Int)) ∧
 derefP p0.a fun a69 =>
 ldI w23.drew (a69.add (Int.toNat p1)) .u32 fun x70 =>
 (0 ≤ s58.1 ∧ s58.1 < (p0.l : Int)) ∧
 derefP p0.a fun a71 =>
 ldI w23.drew (a71.add (Int.toNat s58.1)) .u32 fun x72 =>
 (0 ≤ s58.1 ∧ s58.1 < (p0.l : Int)) ∧
 derefP p0.a fun a73 =>
 Wr w23.drew (a73.add (Int.toNat s58.1)) ∧
 Nw (w23.drew.setCell (a73.add (Int.toNat s58.1)) (.int .u32 x70)) fun w24 =>
 (0 ≤ p1 ∧ p1 < (p0.l : Int)) ∧
 derefP p0.a fun a74 =>
 Wr w24 (a74.add (Int.toNat p1)) ∧
 Nw (w24.setCell (a74.add (Int.toNat p1)) (.int .u32 x72)) fun w25 =>
 R (.tuple #[(.int .i64 s58.1), (.bool false)]) w25)
 ((0 ≤ s58.1 ∧ s58.1 < (p0.l : Int)) ∧
 derefP p0.a fun a75 =>
 ldI w23.drew (a75.add (Int.toNat s58.1)) .u32 fun x76 =>
 (0 ≤ s46.1 ∧ s46.1 < (p0.l : Int)) ∧
 derefP p0.a fun a77 =>
 ldI w23.drew (a77.add (Int.toNat s46.1)) .u32 fun x78 =>
 (0 ≤ s46.1 ∧ s46.1 < (p0.l : Int)) ∧
 derefP p0.a fun a79 =>
 Wr w23.drew (a79.add (Int.toNat s46.1)) ∧
 Nw (w23.drew.setCell (a79.add (Int.toNat s46.1)) (.int .u32 x76)) fun w26 =>
 (0 ≤ s58.1 ∧ s58.1 < (p0.l : Int)) ∧
 derefP p0.a fun a80 =>
 Wr w26 (a80.add (Int.toNat s58.1)) ∧
 Nw (w26.setCell (a80.add (Int.toNat s58.1)) (.int .u32 x78)) fun w27 =>
 n44 ((IntKind.i64.wrap (s46.1 + (1 : Int))), (IntKind.i64.wrap (s58.1 - (1 : Int))), ()) w27))))
 ((IntKind.i64.wrap (s8.1 + (1 : Int))), (IntKind.i64.wrap (s20.1 - (1 : Int))), ()) w14)))
theorem slices_partitionOrdered_uint32_calls (p0 : Sl) (p1 : Int) (p2 : Int) (p3 : Int) (R : Value → World → Prop) (w : World) (h : L_slices_partitionOrdered_uint32 p0 p1 p2 p3 R w) : Calls Try.prog 135 #[(.slice p0.a p0.l p0.c), (.int .i64 p1), (.int .i64 p2), (.int .i64 p3)] w (Ret R) :=
 lw_calls (fs := Try.fs) (an := a_slices_partitionOrdered_uint32) (args := [(.slice p0.a p0.l p0.c), (.int .i64 p1), (.int .i64 p2), (.int .i64 p3)]) Try.fsOK Try.mixed Try.func135 (by kernel_rfl) (by kernel_rfl)
 (Eq.mpr (by kernel_rfl : lwFn Try.prog Try.fs Try.f135 a_slices_partitionOrdered_uint32 [(.slice p0.a p0.l p0.c), (.int .i64 p1), (.int .i64 p2), (.int .i64 p3)] w R = L_slices_partitionOrdered_uint32 p0 p1 p2 p3 R w) h)

/-- math.bits.Len64 -/
def a_math_bits_Len64 : Ann := (.seq none .nil (.seq (some ⟨[], [(0, (.b (.int .u64))), (2, (.b (.int .i64)))]⟩) (.seq none .nil (.cond (.seq none .nil .nil) .nil)) (.seq (some ⟨[], [(0, (.b (.int .u64))), (2, (.b (.int .i64)))]⟩) (.seq none .nil (.cond (.seq none .nil .nil) .nil)) (.seq (some ⟨[], [(0, (.b (.int .u64))), (2, (.b (.int .i64)))]⟩) (.seq none .nil (.cond (.seq none .nil .nil) .nil)) (.seq none .nil .nil)))))
def L_math_bits_Len64 (p0 : Int) (R : Value → World → Prop) (w : World) : Prop :=
 JoinW (S := Int × Int × Unit) (fun m1 =>
 ifB (decide (p0 ≥ (4294967296 : Int)))
 (m1 ((Int.fdiv p0 (2 ^ (min 32 (IntKind.bits .u64)))), (32 : Int), ()) w)
 (m1 (p0, (0 : Int), ()) w))
 (fun s2 w1 =>
 JoinW (S := Int × Int × Unit) (fun m3 =>
 ifB (decide (s2.1 ≥ (65536 : Int)))
 (m3 ((Int.fdiv s2.1 (2 ^ (min 16 (IntKind.bits .u64)))), (IntKind.i64.wrap (s2.2.1 + (16 : Int))), ()) w1)
 (m3 (s2.1, s2.2.1, ()) w1))
 (fun s4 w2 =>
 JoinW (S := Int × Int × Unit) (fun m5 =>
 ifB (decide (s4.1 ≥ (256 : Int)))
 (m5 ((Int.fdiv s4.1 (2 ^ (min 8 (IntKind.bits .u64)))), (IntKind.i64.wrap (s4.2.1 + (8 : Int))), ()) w2)
 (m5 (s4.1, s4.2.1, ()) w2))
 (fun s6 w3 =>
 (0 ≤ (IntKind.u8.wrap s6.1) ∧ (IntKind.u8.wrap s6.1) < ((ByteArray.mk #[0, 1, 2, 2, 3, 3, 3, 3, 4, 4, 4, 4, 4, 4, 4, 4, 5, 5, 5, 5, 5, 5, 5, 5, 5, 5, 5, 5, 5, 5, 5, 5, 6, 6, 6, 6, 6, 6, 6, 6, 6, 6, 6, 6, 6, 6, 6, 6, 6, 6, 6, 6, 6, 6, 6, 6, 6, 6, 6, 6, 6, 6, 6, 6, 7, 7, 7, 7, 7, 7, 7, 7, 7, 7, 7, 7, 7, 7, 7, 7, 7, 7, 7, 7, 7, 7, 7, 7, 7, 7, 7, 7, 7, 7, 7, 7, 7, 7, 7, 7, 7, 7, 7, 7, 7, 7, 7, 7, 7, 7, 7, 7, 7, 7, 7, 7, 7, 7, 7, 7, 7, 7, 7, 7, 7, 7, 7, 7, 8, 8, 8, 8, 8, 8, 8, 8, 8, 8, 8, 8, 8, 8, 8, 8, 8, 8, 8, 8, 8, 8, 8, 8, 8, 8, 8, 8, 8, 8, 8, 8, 8, 8, 8, 8, 8, 8, 8, 8, 8, 8, 8, 8, 8, 8, 8, 8, 8, 8, 8, 8, 8, 8, 8, 8, 8, 8, 8, 8, 8, 8, 8, 8, 8, 8, 8, 8, 8, 8, 8, 8, 8, 8, 8, 8, 8, 8, 8, 8, 8, 8, 8, 8, 8, 8, 8, 8, 8, 8, 8, 8, 8, 8, 8, 8, 8, 8, 8, 8, 8, 8, 8, 8, 8, 8, 8, 8, 8, 8, 8, 8, 8, 8, 8, 8, 8, 8, 8, 8, 8, 8, 8, 8, 8, 8, 8, 8]).size : Int)) ∧
 R (.int .i64 (IntKind.i64.wrap (s6.2.1 + (IntKind.i64.wrap (byteI (ByteArray.mk #[0, 1, 2, 2, 3, 3, 3, 3, 4, 4, 4, 4, 4, 4, 4, 4, 5, 5, 5, 5, 5, 5, 5, 5, 5, 5, 5, 5, 5, 5, 5, 5, 6, 6, 6, 6, 6, 6, 6, 6, 6, 6, 6, 6, 6, 6, 6, 6, 6, 6, 6, 6, 6, 6, 6, 6, 6, 6, 6, 6, 6, 6, 6, 6, 7, 7, 7, 7, 7, 7, 7, 7, 7, 7, 7, 7, 7, 7, 7, 7, 7, 7, 7, 7, 7, 7, 7, 7, 7, 7, 7, 7, 7, 7, 7, 7, 7, 7, 7, 7, 7, 7, 7, 7, 7, 7, 7, 7, 7, 7, 7, 7, 7, 7, 7, 7, 7, 7, 7, 7, 7, 7, 7, 7, 7, 7, 7, 7, 8, 8, 8, 8, 8, 8, 8, 8, 8, 8, 8, 8, 8, 8, 8, 8, 8, 8, 8, 8, 8, 8, 8, 8, 8, 8, 8, 8, 8, 8, 8, 8, 8, 8, 8, 8, 8, 8, 8, 8, 8, 8, 8, 8, 8, 8, 8, 8, 8, 8, 8, 8, 8, 8, 8, 8, 8, 8, 8, 8, 8, 8, 8, 8, 8, 8, 8, 8, 8, 8, 8, 8, 8, 8, 8, 8, 8, 8, 8, 8, 8, 8, 8, 8, 8, 8, 8, 8, 8, 8, 8, 8, 8, 8, 8, 8, 8, 8, 8, 8, 8, 8, 8, 8, 8, 8, 8, 8, 8, 8, 8, 8, 8, 8, 8, 8, 8, 8, 8, 8, 8, 8, 8, 8, 8, 8, 8, 8]) (IntKind.u8.wrap s6.1)))))) w3)))
theorem math_bits_Len64_calls (p0 : Int) (R : Value → World → Prop) (w : World) (h : L_math_bits_Len64 p0 R w) : Calls Try.prog 137 #[(.int .u64 p0)] w (Ret R) :=
 lw_calls (fs := Try.fs) (an := a_math_bits_Len64) (args := [(.int .u64 p0)]) Try.fsOK Try.mixed Try.func137 (by kernel_rfl) (by kernel_rfl)
 (Eq.mpr (by kernel_rfl : lwFn Try.prog Try.fs Try.f137 a_math_bits_Len64 [(.int .u64 p0)] w R = L_math_bits_Len64 p0 R w) h)

/-- slices.siftDownOrdered[uint32] -/
def a_slices_siftDownOrdered_uint32 : Ann := (.seq none .nil (.one (.loop ⟨[0, 2, 3], [(8, (.b (.int .i64)))]⟩ (.one (.seq none .nil (.seq none (.seq none .nil (.cond .nil .nil)) (.seq (some ⟨[0, 2, 3, 8], [(9, (.b (.int .i64)))]⟩) (.seq none .nil (.cond .nil .nil)) (.seq none (.seq none .nil (.cond .nil .nil)) (.seq none .nil .nil)))))))))
def L_slices_siftDownOrdered_uint32 (p0 : Sl) (p1 : Int) (p2 : Int) (p3 : Int) (R : Value → World → Prop) (w : World) : Prop :=
 LoopW (S := Int × Unit) (fun s1 w1 n2 =>
 ifB (decide ((IntKind.i64.wrap ((IntKind.i64.wrap ((2 : Int) * s1.1)) + (1 : Int))) ≥ p2))
 (R (.tuple #[]) w1)
 (JoinW (S := Int × Unit) (fun m3 =>
 ifB (decide ((IntKind.i64.wrap ((IntKind.i64.wrap ((IntKind.i64.wrap ((2 : Int) * s1.1)) + (1 : Int))) + (1 : Int))) < p2))
 ((0 ≤ (IntKind.i64.wrap (p3 + (IntKind.i64.wrap ((IntKind.i64.wrap ((2 : Int) * s1.1)) + (1 : Int))))) ∧ (IntKind.i64.wrap (p3 + (IntKind.i64.wrap ((IntKind.i64.wrap ((2 : Int) * s1.1)) + (1 : Int))))) < (p0.l : Int)) ∧
 derefP p0.a fun a5 =>
 ldI w1.drew (a5.add (Int.toNat (IntKind.i64.wrap (p3 + (IntKind.i64.wrap ((IntKind.i64.wrap ((2 : Int) * s1.1)) + (1 : Int))))))) .u32 fun x6 =>
 (0 ≤ (IntKind.i64.wrap ((IntKind.i64.wrap (p3 + (IntKind.i64.wrap ((IntKind.i64.wrap ((2 : Int) * s1.1)) + (1 : Int))))) + (1 : Int))) ∧ (IntKind.i64.wrap ((IntKind.i64.wrap (p3 + (IntKind.i64.wrap ((IntKind.i64.wrap ((2 : Int) * s1.1)) + (1 : Int))))) + (1 : Int))) < (p0.l : Int)) ∧
 derefP p0.a fun a7 =>
 ldI w1.drew (a7.add (Int.toNat (IntKind.i64.wrap ((IntKind.i64.wrap (p3 + (IntKind.i64.wrap ((IntKind.i64.wrap ((2 : Int) * s1.1)) + (1 : Int))))) + (1 : Int))))) .u32 fun x8 =>
 callR Try.prog 133 #[(.int .u32 x6), (.int .u32 x8)] w1.drew fun v9 w2 =>
 ∃ x10 : Bool, v9 = (.bool x10) ∧
 ifB x10
 (m3 ((IntKind.i64.wrap ((IntKind.i64.wrap ((IntKind.i64.wrap ((2 : Int) * s1.1)) + (1 : Int))) + (1 : Int))), ()) w2)
 (m3 ((IntKind.i64.wrap ((IntKind.i64.wrap ((2 : Int) * s1.1)) + (1 : Int))), ()) w2))
 (m3 ((IntKind.i64.wrap ((IntKind.i64.wrap ((2 : Int) * s1.1)) + (1 : Int))), ()) w1.drew))
 (fun s4 w3 =>
 (0 ≤ (IntKind.i64.wrap (p3 + s1.1)) ∧ (IntKind.i64.wrap (p3 + s1.1)) < (p0.l : Int)) ∧
 derefP p0.a fun a11 =>
 ldI w3.drew (a11.add (Int.toNat (IntKind.i64.wrap (p3 + s1.1)))) .u32 fun x12 =>
 (0 ≤ (IntKind.i64.wrap (p3 + s4.1)) ∧ (IntKind.i64.wrap (p3 + s4.1)) < (p0.l : Int)) ∧
 derefP p0.a fun a13 =>
 ldI w3.drew (a13.add (Int.toNat (IntKind.i64.wrap (p3 + s4.1)))) .u32 fun x14 =>
 callR Try.prog 133 #[(.int .u32 x12), (.int .u32 x14)] w3.drew fun v15 w4 =>
 ∃ x16 : Bool, v15 = (.bool x16) ∧
 ifB (!x16)
 (R (.tuple #[]) w4)
 ((0 ≤ (IntKind.i64.wrap (p3 + s4.1)) ∧ (IntKind.i64.wrap (p3 + s4.1)) < (p0.l : Int)) ∧
 derefP p0.a fun a17 =>
 ldI w4.drew (a17.add (Int.toNat (IntKind.i64.wrap (p3 + s4.1)))) .u32 fun x18 =>
 (0 ≤ (IntKind.i64.wrap (p3 + s1.1)) ∧ (IntKind.i64.wrap (p3 + s1.1)) < (p0.l : Int)) ∧
 derefP p0.a fun a19 =>
 ldI w4.drew (a19.add (Int.toNat (IntKind.i64.wrap (p3 + s1.1)))) .u32 fun x20 =>
 (0 ≤ (IntKind.i64.wrap (p3 + s1.1)) ∧ (IntKind.i64.wrap (p3 + s1.1)) < (p0.l : Int)) ∧
 derefP p0.a fun a21 =>
 Wr w4.drew (a21.add (Int.toNat (IntKind.i64.wrap (p3 + s1.1)))) ∧
 Nw (w4.drew.setCell (a21.add (Int.toNat (IntKind.i64.wrap (p3 + s1.1)))) (.int .u32 x18)) fun w5 =>
 (0 ≤ (IntKind.i64.wrap (p3 + s4.1)) ∧ (IntKind.i64.wrap (p3 + s4.1)) < (p0.l : Int)) ∧
 derefP p0.a fun a22 =>
 Wr w5 (a22.add (Int.toNat (IntKind.i64.wrap (p3 + s4.1)))) ∧
 Nw (w5.setCell (a22.add (Int.toNat (IntKind.i64.wrap (p3 + s4.1)))) (.int .u32 x20)) fun w6 =>
 n2 (s4.1, ()) w6))))
 (p1, ()) w
theorem slices_siftDownOrdered_uint32_calls (p0 : Sl) (p1 : Int) (p2 : Int) (p3 : Int) (R : Value → World → Prop) (w : World) (h : L_slices_siftDownOrdered_uint32 p0 p1 p2 p3 R w) : Calls Try.prog 150 #[(.slice p0.a p0.l p0.c), (.int .i64 p1), (.int .i64 p2), (.int .i64 p3)] w (Ret R) :=
 lw_calls (fs := Try.fs) (an := a_slices_siftDownOrdered_uint32) (args := [(.slice p0.a p0.l p0.c), (.int .i64 p1), (.int .i64 p2), (.int .i64 p3)]) Try.fsOK Try.mixed Try.func150 (by kernel_rfl) (by kernel_rfl)
 (Eq.mpr (by kernel_rfl : lwFn Try.prog Try.fs Try.f150 a_slices_siftDownOrdered_uint32 [(.slice p0.a p0.l p0.c), (.int .i64 p1), (.int .i64 p2), (.int .i64 p3)] w R = L_slices_siftDownOrdered_uint32 p0 p1 p2 p3 R w) h)

/-- slices.nextPowerOfTwo -/
def a_slices_nextPowerOfTwo : Ann := (.seq none .nil (.seq none .nil .nil))
def L_slices_nextPowerOfTwo (p0 : Int) (R : Value → World → Prop) (w : World) : Prop :=
 callR Try.prog 106 #[(.int .u64 (IntKind.u64.wrap p0))] w fun v1 w1 =>
 ∃ x2 : Int, v1 = (.int .i64 x2) ∧
 ifB (decide (x2 < 0))
 (False)
 (R (.int .u64 (IntKind.u64.wrap ((1 : Int) * 2 ^ (min (Int.toNat x2) (IntKind.bits .u64))))) w1)
theorem slices_nextPowerOfTwo_calls (p0 : Int) (R : Value → World → Prop) (w : World) (h : L_slices_nextPowerOfTwo p0 R w) : Calls Try.prog 151 #[(.int .i64 p0)] w (Ret R) :=
 lw_calls (fs := Try.fs) (an := a_slices_nextPowerOfTwo) (args := [(.int .i64 p0)]) Try.fsOK Try.mixed Try.func151 (by kernel_rfl) (by kernel_rfl)
 (Eq.mpr (by kernel_rfl : lwFn Try.prog Try.fs Try.f151 a_slices_nextPowerOfTwo [(.int .i64 p0)] w R = L_slices_nextPowerOfTwo p0 R w) h)

/-- (*slices.xorshift).Next -/
def a_slices_xorshift_Next : Ann := (.seq none .nil (.seq none .nil (.seq none .nil (.seq none .nil (.seq none .nil .nil)))))
def L_slices_xorshift_Next (p0 : Option Addr) (R : Value → World → Prop) (w : World) : Prop :=
 derefP p0 fun a1 =>
 ldI w.drew a1 .u64 fun x2 =>
 derefP p0 fun a3 =>
 ldI w.drew a3 .u64 fun x4 =>
 derefP p0 fun a5 =>
 Wr w.drew a5 ∧
 Nw (w.drew.setCell a5 (.int .u64 (IntKind.u64.wrap (BitVec.toNat (BitVec.ofInt (IntKind.bits .u64) x2 ^^^ BitVec.ofInt (IntKind.bits .u64) (IntKind.u64.wrap (x4 * 2 ^ (min 13 (IntKind.bits .u64))))) : Int)))) fun w1 =>
 derefP p0 fun a6 =>
 ldI w1.drew a6 .u64 fun x7 =>
 derefP p0 fun a8 =>
 ldI w1.drew a8 .u64 fun x9 =>
 derefP p0 fun a10 =>
 Wr w1.drew a10 ∧
 Nw (w1.drew.setCell a10 (.int .u64 (IntKind.u64.wrap (BitVec.toNat (BitVec.ofInt (IntKind.bits .u64) x7 ^^^ BitVec.ofInt (IntKind.bits .u64) (Int.fdiv x9 (2 ^ (min 7 (IntKind.bits .u64))))) : Int)))) fun w2 =>
 derefP p0 fun a11 =>
 ldI w2.drew a11 .u64 fun x12 =>
 derefP p0 fun a13 =>
 ldI w2.drew a13 .u64 fun x14 =>
 derefP p0 fun a15 =>
 Wr w2.drew a15 ∧
 Nw (w2.drew.setCell a15 (.int .u64 (IntKind.u64.wrap (BitVec.toNat (BitVec.ofInt (IntKind.bits .u64) x12 ^^^ BitVec.ofInt (IntKind.bits .u64) (IntKind.u64.wrap (x14 * 2 ^ (min 17 (IntKind.bits .u64))))) : Int)))) fun w3 =>
 derefP p0 fun a16 =>
 ldI w3 a16 .u64 fun x17 =>
 R (.int .u64 x17) w3
theorem slices_xorshift_Next_calls (p0 : Option Addr) (R : Value → World → Prop) (w : World) (h : L_slices_xorshift_Next p0 R w) : Calls Try.prog 152 #[(.pointer p0)] w (Ret R) :=
 lw_calls (fs := Try.fs) (an := a_slices_xorshift_Next) (args := [(.pointer p0)]) Try.fsOK Try.mixed Try.func152 (by kernel_rfl) (by kernel_rfl)
 (Eq.mpr (by kernel_rfl : lwFn Try.prog Try.fs Try.f152 a_slices_xorshift_Next [(.pointer p0)] w R = L_slices_xorshift_Next p0 R w) h)

/-- slices.medianAdjacentOrdered[uint32] -/
def a_slices_medianAdjacentOrdered_uint32 : Ann := (.seq none .nil (.seq none .nil .nil))
def L_slices_medianAdjacentOrdered_uint32 (p0 : Sl) (p1 : Int) (p2 : Option Addr) (R : Value → World → Prop) (w : World) : Prop :=
 callR Try.prog 154 #[(.slice p0.a p0.l p0.c), (.int .i64 (IntKind.i64.wrap (p1 - (1 : Int)))), (.int .i64 p1), (.int .i64 (IntKind.i64.wrap (p1 + (1 : Int)))), (.pointer p2)] w fun v1 w1 =>
 ∃ x2 : Int, v1 = (.int .i64 x2) ∧
 R (.int .i64 x2) w1
theorem slices_medianAdjacentOrdered_uint32_calls (p0 : Sl) (p1 : Int) (p2 : Option Addr) (R : Value → World → Prop) (w : World) (h : L_slices_medianAdjacentOrdered_uint32 p0 p1 p2 R w) : Calls Try.prog 153 #[(.slice p0.a p0.l p0.c), (.int .i64 p1), (.pointer p2)] w (Ret R) :=
 lw_calls (fs := Try.fs) (an := a_slices_medianAdjacentOrdered_uint32) (args := [(.slice p0.a p0.l p0.c), (.int .i64 p1), (.pointer p2)]) Try.fsOK Try.mixed Try.func153 (by kernel_rfl) (by kernel_rfl)
 (Eq.mpr (by kernel_rfl : lwFn Try.prog Try.fs Try.f153 a_slices_medianAdjacentOrdered_uint32 [(.slice p0.a p0.l p0.c), (.int .i64 p1), (.pointer p2)] w R = L_slices_medianAdjacentOrdered_uint32 p0 p1 p2 R w) h)

/-- slices.medianOrdered[uint32] -/
def a_slices_medianOrdered_uint32 : Ann := (.seq none .nil (.seq none .nil (.seq none .nil (.seq none .nil (.seq none .nil .nil)))))
def L_slices_medianOrdered_uint32 (p0 : Sl) (p1 : Int) (p2 : Int) (p3 : Int) (p4 : Option Addr) (R : Value → World → Prop) (w : World) : Prop :=
 callR Try.prog 162 #[(.slice p0.a p0.l p0.c), (.int .i64 p1), (.int .i64 p2), (.pointer p4)] w fun v1 w1 =>
 ∃ x2 : Int, ∃ x3 : Int, v1 = (.tuple #[(.int .i64 x2), (.int .i64 x3)]) ∧
 callR Try.prog 162 #[(.slice p0.a p0.l p0.c), (.int .i64 x3), (.int .i64 p3), (.pointer p4)] w1 fun v4 w2 =>
 ∃ x5 : Int, ∃ x6 : Int, v4 = (.tuple #[(.int .i64 x5), (.int .i64 x6)]) ∧
 callR Try.prog 162 #[(.slice p0.a p0.l p0.c), (.int .i64 x2), (.int .i64 x5), (.pointer p4)] w2 fun v7 w3 =>
 ∃ x8 : Int, ∃ x9 : Int, v7 = (.tuple #[(.int .i64 x8), (.int .i64 x9)]) ∧
 R (.int .i64 x9) w3
theorem slices_medianOrdered_uint32_calls (p0 : Sl) (p1 : Int) (p2 : Int) (p3 : Int) (p4 : Option Addr) (R : Value → World → Prop) (w : World) (h : L_slices_medianOrdered_uint32 p0 p1 p2 p3 p4 R w) : Calls Try.prog 154 #[(.slice p0.a p0.l p0.c), (.int .i64 p1), (.int .i64 p2), (.int .i64 p3), (.pointer p4)] w (Ret R) :=
 lw_calls (fs := Try.fs) (an := a_slices_medianOrdered_uint32) (args := [(.slice p0.a p0.l p0.c), (.int .i64 p1), (.int .i64 p2), (.int .i64 p3), (.pointer p4)]) Try.fsOK Try.mixed Try.func154 (by kernel_rfl) (by kernel_rfl)
 (Eq.mpr (by kernel_rfl : lwFn Try.prog Try.fs Try.f154 a_slices_medianOrdered_uint32 [(.slice p0.a p0.l p0.c), (.int .i64 p1), (.int .i64 p2), (.int .i64 p3), (.pointer p4)] w R = L_slices_medianOrdered_uint32 p0 p1 p2 p3 p4 R w) h)

/-- cmp.isNaN[uint32] -/
def a_cmp_isNaN_uint32 : Ann := (.seq none .nil (.seq none .nil .nil))
def L_cmp_isNaN_uint32 (p0 : Int) (R : Value → World → Prop) (w : World) : Prop :=
 R (.bool (p0 != p0)) w
theorem cmp_isNaN_uint32_calls (p0 : Int) (R : Value → World → Prop) (w : World) (h : L_cmp_isNaN_uint32 p0 R w) : Calls Try.prog 155 #[(.int .u32 p0)] w (Ret R) :=
 lw_calls (fs := Try.fs) (an := a_cmp_isNaN_uint32) (args := [(.int .u32 p0)]) Try.fsOK Try.mixed Try.func155 (by kernel_rfl) (by kernel_rfl)
 (Eq.mpr (by kernel_rfl : lwFn Try.prog Try.fs Try.f155 a_cmp_isNaN_uint32 [(.int .u32 p0)] w R = L_cmp_isNaN_uint32 p0 R w) h)

/-- slices.order2Ordered[uint32] -/
def a_slices_order2Ordered_uint32 : Ann := (.seq none .nil (.seq none (.seq none .nil (.cond (.seq none .nil (.seq none .nil .nil)) .nil)) (.seq none .nil .nil)))
def L_slices_order2Ordered_uint32 (p0 : Sl) (p1 : Int) (p2 : Int) (p3 : Option Addr) (R : Value → World → Prop) (w : World) : Prop :=
 (0 ≤ p2 ∧ p2 < (p0.l : Int)) ∧
 derefP p0.a fun a1 =>
 ldI w.drew (a1.add (Int.toNat p2)) .u32 fun x2 =>
 (0 ≤ p1 ∧ p1 < (p0.l : Int)) ∧
 derefP p0.a fun a3 =>
 ldI w.drew (a3.add (Int.toNat p1)) .u32 fun x4 =>
 callR Try.prog 133 #[(.int .u32 x2), (.int .u32 x4)] w.drew fun v5 w1 =>
 ∃ x6 : Bool, v5 = (.bool x6) ∧
 ifB x6
 (derefP p3 fun a7 =>
 ldI w1 a7 .i64 fun x8 =>
 derefP p3 fun a9 =>
 Wr w1 a9 ∧
 Nw (w1.setCell a9 (.int .i64 (IntKind.i64.wrap (x8 + (1 : Int))))) fun w2 =>
 R (.tuple #[(.int .i64 p2), (.int .i64 p1)]) w2)
 (R (.tuple #[(.int .i64 p1), (.int .i64 p2)]) w1)
theorem slices_order2Ordered_uint32_calls (p0 : Sl) (p1 : Int) (p2 : Int) (p3 : Option Addr) (R : Value → World → Prop) (w : World) (h : L_slices_order2Ordered_uint32 p0 p1 p2 p3 R w) : Calls Try.prog 162 #[(.slice p0.a p0.l p0.c), (.int .i64 p1), (.int .i64 p2), (.pointer p3)] w (Ret R) :=
 lw_calls (fs := Try.fs) (an := a_slices_order2Ordered_uint32) (args := [(.slice p0.a p0.l p0.c), (.int .i64 p1), (.int .i64 p2), (.pointer p3)]) Try.fsOK Try.mixed Try.func162 (by kernel_rfl) (by kernel_rfl)
 (Eq.mpr (by kernel_rfl : lwFn Try.prog Try.fs Try.f162 a_slices_order2Ordered_uint32 [(.slice p0.a p0.l p0.c), (.int .i64 p1), (.int .i64 p2), (.pointer p3)] w R = L_slices_order2Ordered_uint32 p0 p1 p2 p3 R w) h)

end Go.Proofs
