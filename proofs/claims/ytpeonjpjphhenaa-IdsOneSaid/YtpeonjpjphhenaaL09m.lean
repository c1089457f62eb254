/-
 Printed by a program of the author: what each function comes to.
-/
import Derived.Test.YtpeonjpjphhenaaProg
import Derived.Test.YtpeonjpjphhenaaGkR
import Derived.Test.YtpeonjpjphhenaaLb
namespace Go.Proofs
open Go.Gk
set_option linter.unusedVariables false
set_option maxRecDepth 100000

/-- intaglio.ids.Made -/
def a_ids_Made : Ann := (.seq none .nil (.seq none (.seq none .nil (.seq none .nil (.cond (.seq none .nil .nil) .nil))) (.seq none .nil (.seq none (.seq none .nil (.one (.loop ⟨[3, 5, 22], []⟩ (.seq none .nil (.seq none (.cond .nil .nil) (.one (.seq none .nil .nil))))))) (.seq none .nil .nil)))))
def L_ids_Made (p0 : (Int × Int × Sl × Unit)) (R : Value → World → Prop) (w : World) : Prop :=
 Nw (w.alloc (.cells #[(.int .u32 p0.1), (.int .u32 p0.2.1), (.slice p0.2.2.1.a p0.2.2.1.l p0.2.2.1.c)] 25)) fun w1 =>
 Nw (w1.alloc (.cells #[(.int .i64 (0 : Int)), (.int .i64 (0 : Int))] 29)) fun w2 =>
 ldI w2 ((blk w.heap.size).add 0) .u32 fun x1 =>
 ldI w2 ((blk w.heap.size).add 1) .u32 fun x2 =>
 ldS w2 ((blk w.heap.size).add 2) fun x3 =>
 callR Try.prog 48 #[(.agg #[(.int .u32 x1), (.int .u32 x2), (.slice x3.a x3.l x3.c)])] w2 fun v4 w3 =>
 ∃ x5 : (Int × Int × Unit), v4 = (.agg #[(.int .i64 x5.1), (.int .i64 x5.2.1)]) ∧
 Nw (w3.alloc (.cells #[(.int .i64 (0 : Int)), (.int .i64 (0 : Int))] 29)) fun w4 =>
 Wr w4 (blk w3.heap.size) ∧
 Nw (w4.setCell (blk w3.heap.size) (.int .i64 x5.1)) fun w5 =>
 Wr w5 ((blk w3.heap.size).add 1) ∧
 Nw (w5.setCell ((blk w3.heap.size).add 1) (.int .i64 x5.2.1)) fun w6 =>
 ldI w6 (blk w3.heap.size) .i64 fun x6 =>
 ifB (x6 != (0 : Int))
 (ldI w6.drew ((blk w3.heap.size).add 0) .i64 fun x7 =>
 ldI w6.drew ((blk w3.heap.size).add 1) .i64 fun x8 =>
 Wr w6.drew (blk w1.heap.size) ∧
 Nw (w6.drew.setCell (blk w1.heap.size) (.int .i64 x7)) fun w7 =>
 Wr w7 ((blk w1.heap.size).add 1) ∧
 Nw (w7.setCell ((blk w1.heap.size).add 1) (.int .i64 x8)) fun w8 =>
 ldI w8 ((blk w1.heap.size).add 0) .i64 fun x9 =>
 ldI w8 ((blk w1.heap.size).add 1) .i64 fun x10 =>
 R (.tuple #[(.slice none 0 0), (.agg #[(.int .i64 x9), (.int .i64 x10)])]) w8)
 (Nw (w6.alloc (.cells #[(.int .i64 (-1 : Int))] 3)) fun w9 =>
 ldI w9 ((blk w.heap.size).add 1) .u32 fun x11 =>
 callR Try.prog 53 #[(.slice (some (blk w6.heap.size)) 1 1), (.int .i64 (IntKind.i64.wrap x11))] w9 fun v12 w10 =>
 ∃ x13 : Sl, v12 = (.slice x13.a x13.l x13.c) ∧
 ldS w10 ((blk w.heap.size).add 2) fun x14 =>
 callR Try.prog 38 #[(.slice x14.a x14.l x14.c)] w10 fun v15 w11 =>
 ∃ x16 : Option Nat, v15 = (.map x16) ∧
 rngW Try.prog 77 (.map x16) w11 fun w12 =>
 LoopW (S := Unit) (fun s17 w13 n18 =>
 nxtM Try.prog (.pointer (some (blk w11.heap.size))) 0 w13 (fun x19 x20 w14 =>
 entW Try.prog (.pointer (some (blk w11.heap.size))) (BK.int .u32) (BK.int .i64) w14 fun (x21 : Int) (x22 : Int) =>
 (0 ≤ x21 ∧ x21 < (x13.l : Int)) ∧
 derefP x13.a fun a23 =>
 Wr w14 (a23.add (Int.toNat x21)) ∧
 Nw (w14.setCell (a23.add (Int.toNat x21)) (.int .i64 x22)) fun w16 =>
 n18 (()) w16)
 (fun w15 =>
 Wr w15 (blk w1.heap.size) ∧
 Nw (w15.setCell (blk w1.heap.size) (.int .i64 (0 : Int))) fun w17 =>
 Wr w17 ((blk w1.heap.size).add 1) ∧
 Nw (w17.setCell ((blk w1.heap.size).add 1) (.int .i64 (0 : Int))) fun w18 =>
 ldI w18 ((blk w1.heap.size).add 0) .i64 fun x24 =>
 ldI w18 ((blk w1.heap.size).add 1) .i64 fun x25 =>
 R (.tuple #[(.slice x13.a x13.l x13.c), (.agg #[(.int .i64 x24), (.int .i64 x25)])]) w18))
 (()) w12)
theorem ids_Made_calls (p0 : (Int × Int × Sl × Unit)) (R : Value → World → Prop) (w : World) (h : L_ids_Made p0 R w) : Calls Try.prog 24 #[(.agg #[(.int .u32 p0.1), (.int .u32 p0.2.1), (.slice p0.2.2.1.a p0.2.2.1.l p0.2.2.1.c)])] w (Ret R) :=
 lw_calls (fs := Try.fs) (an := a_ids_Made) (args := [(.agg #[(.int .u32 p0.1), (.int .u32 p0.2.1), (.slice p0.2.2.1.a p0.2.2.1.l p0.2.2.1.c)])]) Try.fsOK Try.mixed Try.func24 (by kernel_rfl) (by kernel_rfl)
 (Eq.mpr (by kernel_rfl : lwFn Try.prog Try.fs Try.f24 a_ids_Made [(.agg #[(.int .u32 p0.1), (.int .u32 p0.2.1), (.slice p0.2.2.1.a p0.2.2.1.l p0.2.2.1.c)])] w R = L_ids_Made p0 R w) h)

/-- intaglio.ids.makers -/
def a_ids_makers : Ann := (.seq none .nil (.seq none .nil (.seq none (.seq none .nil (.one (.loop ⟨[], [(9, (.b (.int .i64))), (10, (.agg [(.int .u16), (.int .u32), (.int .u32), .slice]))]⟩ (.seq none (.seq none .nil .nil) (.one (.seq none .nil (.cond .nil .nil))))))) (.seq none .nil .nil))))
def L_ids_makers (p0 : Sl) (R : Value → World → Prop) (w : World) : Prop :=
 Nw (w.alloc (.map #[] 0)) fun w1 =>
 Nw (w1.alloc (.cells #[(.map none)] 77)) fun w2 =>
 Wr w2 (blk w1.heap.size) ∧
 Nw (w2.setCell (blk w1.heap.size) (.map (some w.heap.size))) fun w3 =>
 callR Try.prog 67 #[(.slice p0.a p0.l p0.c)] w3 fun v1 w4 =>
 ∃ x2 : Value, v1 = x2 ∧
 RangeW Try.prog Try.fs x2 w4 (T := Int × (Int × Int × Int × Sl × Unit) × Unit) (fun s3 => [(.int .i64 s3.1), (.agg #[(.int .u16 s3.2.1.1), (.int .u32 s3.2.1.2.1), (.int .u32 s3.2.1.2.2.1), (.slice s3.2.1.2.2.2.1.a s3.2.1.2.2.2.1.l s3.2.1.2.2.2.1.c)])])
 (fun mk4 l5 s3 w5 S6 =>
 Nw (w5.alloc (.cells #[(.int .u16 (0 : Int)), (.int .u32 (0 : Int)), (.int .u32 (0 : Int)), (.slice none 0 0)] 45)) fun w6 =>
 Wr w6 (blk w5.heap.size) ∧
 Nw (w6.setCell (blk w5.heap.size) (.int .u16 s3.2.1.1)) fun w7 =>
 Wr w7 ((blk w5.heap.size).add 1) ∧
 Nw (w7.setCell ((blk w5.heap.size).add 1) (.int .u32 s3.2.1.2.1)) fun w8 =>
 Wr w8 ((blk w5.heap.size).add 2) ∧
 Nw (w8.setCell ((blk w5.heap.size).add 2) (.int .u32 s3.2.1.2.2.1)) fun w9 =>
 Wr w9 ((blk w5.heap.size).add 3) ∧
 Nw (w9.setCell ((blk w5.heap.size).add 3) (.slice s3.2.1.2.2.2.1.a s3.2.1.2.2.2.1.l s3.2.1.2.2.2.1.c)) fun w10 =>
 w10.heap[l5]? = some (mk4 .ready none) ∧
 Nw (w10.putObj l5 (mk4 .busy none)) fun w11 =>
 ldI w11 ((blk w5.heap.size).add 2) .u32 fun x8 =>
 ifB (x8 != (0 : Int))
 (ldM w11 (blk w1.heap.size) fun x9 =>
 ldI w11 ((blk w5.heap.size).add 2) .u32 fun x10 =>
 updW Try.prog 77 (.map x9) (.int .u32 x10) (.int .i64 s3.1) w11 fun w12 =>
 w12.heap[l5]? = some (mk4 .busy none) ∧
 S6 (.bool true) (w12.putObj l5 (mk4 .ready none)))
 (w11.heap[l5]? = some (mk4 .busy none) ∧
 S6 (.bool true) (w11.putObj l5 (mk4 .ready none))))
 (fun mk4 l5 d7 w13 =>
 rangeOut mk4 l5 .ready none w13 fun w14 =>
 ldM w14 (blk w1.heap.size) fun x11 =>
 closeM (d7 :: []) w14 fun w15 =>
 R (.map x11) w15)
theorem ids_makers_calls (p0 : Sl) (R : Value → World → Prop) (w : World) (h : L_ids_makers p0 R w) : Calls Try.prog 38 #[(.slice p0.a p0.l p0.c)] w (Ret R) :=
 lwR_calls (fs := Try.fs) (an := a_ids_makers) (args := [(.slice p0.a p0.l p0.c)]) Try.fsOK Try.mixed Try.func38 (by kernel_rfl) (by kernel_rfl)
 (Eq.mpr (by kernel_rfl : lwRFn Try.prog Try.fs Try.f38 a_ids_makers [(.slice p0.a p0.l p0.c)] w R = L_ids_makers p0 R w) h)

/-- slices.Backward[[]intaglio.api.Inst,intaglio.api.Inst] -/
def a_slices_Backward_sapi_Inst_api_Inst : Ann := (.seq none .nil (.seq none .nil .nil))
def L_slices_Backward_sapi_Inst_api_Inst (p0 : Sl) (R : Value → World → Prop) (w : World) : Prop :=
 Nw (w.alloc (.cells #[(.slice p0.a p0.l p0.c)] 23)) fun w1 =>
 R (.func (.func 93) #[] #[(.pointer (some (blk w.heap.size)))]) w1
theorem slices_Backward_sapi_Inst_api_Inst_calls (p0 : Sl) (R : Value → World → Prop) (w : World) (h : L_slices_Backward_sapi_Inst_api_Inst p0 R w) : Calls Try.prog 67 #[(.slice p0.a p0.l p0.c)] w (Ret R) :=
 lw_calls (fs := Try.fs) (an := a_slices_Backward_sapi_Inst_api_Inst) (args := [(.slice p0.a p0.l p0.c)]) Try.fsOK Try.mixed Try.func67 (by kernel_rfl) (by kernel_rfl)
 (Eq.mpr (by kernel_rfl : lwFn Try.prog Try.fs Try.f67 a_slices_Backward_sapi_Inst_api_Inst [(.slice p0.a p0.l p0.c)] w R = L_slices_Backward_sapi_Inst_api_Inst p0 R w) h)

/-- intaglio.intaglioref09.Maker -/
def a_intaglioref09_Maker : Ann := (.seq none .nil (.seq none (.seq none .nil (.one (.loop ⟨[0, 1, 2], [(7, (.b (.int .i64)))]⟩ (.seq none (.seq none .nil (.cond .nil .nil)) (.seq (some ⟨[0, 1, 2, 7], []⟩) (.one (.seq none .nil (.cond (.seq none .nil .nil) .nil))) .nil))))) (.seq none .nil .nil)))
def L_intaglioref09_Maker (p0 : Sl) (p1 : Int) (p2 : Int) (R : Value → World → Prop) (w : World) : Prop :=
 LoopW (S := Int × Unit) (fun s1 w1 n2 =>
 ifB (decide (s1.1 < p2))
 (JoinW (S := Unit) (fun m3 =>
 (0 ≤ s1.1 ∧ s1.1 < (p0.l : Int)) ∧
 derefP p0.a fun a5 =>
 ldI w1 ((a5.add ((Int.toNat s1.1) * 4)).add 2) .u32 fun x6 =>
 ifB (x6 == p1)
 (ifB (p1 != (0 : Int))
 (R (.int .i64 s1.1) w1)
 (m3 (()) w1))
 (m3 (()) w1))
 (fun s4 w2 =>
 n2 ((IntKind.i64.wrap (s1.1 + (1 : Int))), ()) w2))
 (R (.int .i64 (-1 : Int)) w1))
 ((0 : Int), ()) w
theorem intaglioref09_Maker_calls (p0 : Sl) (p1 : Int) (p2 : Int) (R : Value → World → Prop) (w : World) (h : L_intaglioref09_Maker p0 p1 p2 R w) : Calls Try.prog 70 #[(.slice p0.a p0.l p0.c), (.int .u32 p1), (.int .i64 p2)] w (Ret R) :=
 lw_calls (fs := Try.fs) (an := a_intaglioref09_Maker) (args := [(.slice p0.a p0.l p0.c), (.int .u32 p1), (.int .i64 p2)]) Try.fsOK Try.mixed Try.func70 (by kernel_rfl) (by kernel_rfl)
 (Eq.mpr (by kernel_rfl : lwFn Try.prog Try.fs Try.f70 a_intaglioref09_Maker [(.slice p0.a p0.l p0.c), (.int .u32 p1), (.int .i64 p2)] w R = L_intaglioref09_Maker p0 p1 p2 R w) h)

/-- slices.Backward[[]intaglio.api.Inst,intaglio.api.Inst] 1 -/
def a_slices_Backward_sapi_Inst_api_Inst__1 : Ann := (.seq none .nil (.one (.loop ⟨[0, 1], [(3, (.b (.int .i64)))]⟩ (.seq none (.seq none .nil (.cond .nil .nil)) (.seq none (.one (.seq none .nil (.cond .nil .nil))) .nil)))))
def L_slices_Backward_sapi_Inst_api_Inst__1 (p0 : Value) (c0 : Addr) (R : Value → World → Prop) (w : World) : Prop :=
 ldS w c0 fun x1 =>
 LoopW (S := Int × Unit) (fun s2 w1 n3 =>
 ifB (decide (s2.1 ≥ (0 : Int)))
 (ldS w1 c0 fun x4 =>
 (0 ≤ s2.1 ∧ s2.1 < (x4.l : Int)) ∧
 derefP x4.a fun a5 =>
 ldI w1 ((a5.add ((Int.toNat s2.1) * 4)).add 0) .u16 fun x6 =>
 ldI w1 ((a5.add ((Int.toNat s2.1) * 4)).add 1) .u32 fun x7 =>
 ldI w1 ((a5.add ((Int.toNat s2.1) * 4)).add 2) .u32 fun x8 =>
 ldS w1 ((a5.add ((Int.toNat s2.1) * 4)).add 3) fun x9 =>
 callV Try.prog Try.fs p0 [(.int .i64 s2.1), (.agg #[(.int .u16 x6), (.int .u32 x7), (.int .u32 x8), (.slice x9.a x9.l x9.c)])] w1 fun v10 w2 =>
 ∃ x11 : Bool, v10 = (.bool x11) ∧
 ifB (!x11)
 (R (.tuple #[]) w2)
 (n3 ((IntKind.i64.wrap (s2.1 - (1 : Int))), ()) w2))
 (R (.tuple #[]) w1))
 ((IntKind.i64.wrap ((x1.l : Int) - (1 : Int))), ()) w
theorem slices_Backward_sapi_Inst_api_Inst__1_calls (p0 : Value) (c0 : Addr) (R : Value → World → Prop) (w : World) (h : L_slices_Backward_sapi_Inst_api_Inst__1 p0 c0 R w) : Calls Try.prog 93 #[p0, (.pointer (some c0))] w (Ret R) :=
 lw_calls (fs := Try.fs) (an := a_slices_Backward_sapi_Inst_api_Inst__1) (args := [p0, (.pointer (some c0))]) Try.fsOK Try.mixed Try.func93 (by kernel_rfl) (by kernel_rfl)
 (Eq.mpr (by kernel_rfl : lwFn Try.prog Try.fs Try.f93 a_slices_Backward_sapi_Inst_api_Inst__1 [p0, (.pointer (some c0))] w R = L_slices_Backward_sapi_Inst_api_Inst__1 p0 c0 R w) h)

end Go.Proofs
