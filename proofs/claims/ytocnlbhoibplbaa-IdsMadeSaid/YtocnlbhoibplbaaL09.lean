/-
  Printed by a program of the author: what each function comes to.
-/
import Derived.Test.YtocnlbhoibplbaaProg
import Derived.Test.YtocnlbhoibplbaaGkR
import Derived.Test.YtocnlbhoibplbaaLb
namespace Go.Proofs
open Go.Gk
set_option linter.unusedVariables false
set_option maxRecDepth 100000

/-- intaglio.intagliolaw09.IdsUses -/
def a_intagliolaw09_IdsUses : Ann := (.seq none .nil (.seq none .nil (.seq none .nil (.seq none .nil (.seq none .nil (.seq none .nil .nil))))))
def L_intagliolaw09_IdsUses (p0 : (Int × Int × Sl × Unit)) (p1 : Int) (R : Value → World → Prop) (w : World) : Prop :=
  Nw (w.alloc (.cells #[(.int .u32 p0.1), (.int .u32 p0.2.1), (.slice p0.2.2.1.a p0.2.2.1.l p0.2.2.1.c)] 37)) fun w1 =>
  ldI w1 ((blk w.heap.size).add 0) .u32 fun x1 =>
  ldI w1 ((blk w.heap.size).add 1) .u32 fun x2 =>
  ldS w1 ((blk w.heap.size).add 2) fun x3 =>
  callR Try.prog 19 #[(.agg #[(.int .u32 x1), (.int .u32 x2), (.slice x3.a x3.l x3.c)]), (.int .u32 p1)] w1 fun v4 w2 =>
  ∃ x5 : Sl, ∃ x6 : (Int × Int × Unit), v4 = (.tuple #[(.slice x5.a x5.l x5.c), (.agg #[(.int .i64 x6.1), (.int .i64 x6.2.1)])]) ∧
  Nw (w2.alloc (.cells #[(.int .i64 (0 : Int)), (.int .i64 (0 : Int))] 43)) fun w3 =>
  Wr w3 (blk w2.heap.size) ∧
  Nw (w3.setCell (blk w2.heap.size) (.int .i64 x6.1)) fun w4 =>
  Wr w4 ((blk w2.heap.size).add 1) ∧
  Nw (w4.setCell ((blk w2.heap.size).add 1) (.int .i64 x6.2.1)) fun w5 =>
  ldI w5 ((blk w.heap.size).add 0) .u32 fun x7 =>
  ldI w5 ((blk w.heap.size).add 1) .u32 fun x8 =>
  ldS w5 ((blk w.heap.size).add 2) fun x9 =>
  callR Try.prog 17 #[(.agg #[(.int .u32 x7), (.int .u32 x8), (.slice x9.a x9.l x9.c)])] w5 fun v10 w6 =>
  ∃ x11 : (Int × Int × Sl × Unit), v10 = (.agg #[(.int .u32 x11.1), (.int .u32 x11.2.1), (.slice x11.2.2.1.a x11.2.2.1.l x11.2.2.1.c)]) ∧
  callR Try.prog 20 #[(.agg #[(.int .u32 x11.1), (.int .u32 x11.2.1), (.slice x11.2.2.1.a x11.2.2.1.l x11.2.2.1.c)]), (.int .u32 p1)] w6 fun v12 w7 =>
  ∃ x13 : Sl, ∃ x14 : (Int × Int × Unit), v12 = (.tuple #[(.slice x13.a x13.l x13.c), (.agg #[(.int .i64 x14.1), (.int .i64 x14.2.1)])]) ∧
  Nw (w7.alloc (.cells #[(.int .i64 (0 : Int)), (.int .i64 (0 : Int))] 43)) fun w8 =>
  Wr w8 (blk w7.heap.size) ∧
  Nw (w8.setCell (blk w7.heap.size) (.int .i64 x14.1)) fun w9 =>
  Wr w9 ((blk w7.heap.size).add 1) ∧
  Nw (w9.setCell ((blk w7.heap.size).add 1) (.int .i64 x14.2.1)) fun w10 =>
  ldI w10 ((blk w.heap.size).add 0) .u32 fun x15 =>
  ldI w10 ((blk w.heap.size).add 1) .u32 fun x16 =>
  ldS w10 ((blk w.heap.size).add 2) fun x17 =>
  callR Try.prog 21 #[(.agg #[(.int .u32 x15), (.int .u32 x16), (.slice x17.a x17.l x17.c)]), (.int .u32 p1)] w10 fun v18 w11 =>
  ∃ x19 : ByteArray, ∃ x20 : Bool, v18 = (.tuple #[(.string x19), (.bool x20)]) ∧
  ldI w11 ((blk w.heap.size).add 0) .u32 fun x21 =>
  ldI w11 ((blk w.heap.size).add 1) .u32 fun x22 =>
  ldS w11 ((blk w.heap.size).add 2) fun x23 =>
  callR Try.prog 17 #[(.agg #[(.int .u32 x21), (.int .u32 x22), (.slice x23.a x23.l x23.c)])] w11 fun v24 w12 =>
  ∃ x25 : (Int × Int × Sl × Unit), v24 = (.agg #[(.int .u32 x25.1), (.int .u32 x25.2.1), (.slice x25.2.2.1.a x25.2.2.1.l x25.2.2.1.c)]) ∧
  callR Try.prog 22 #[(.agg #[(.int .u32 x25.1), (.int .u32 x25.2.1), (.slice x25.2.2.1.a x25.2.2.1.l x25.2.2.1.c)]), (.int .u32 p1)] w12 fun v26 w13 =>
  ∃ x27 : ByteArray, ∃ x28 : Bool, v26 = (.tuple #[(.string x27), (.bool x28)]) ∧
  ldI w13 ((blk w7.heap.size).add 0) .i64 fun x29 =>
  ldI w13 ((blk w7.heap.size).add 1) .i64 fun x30 =>
  ldI w13 ((blk w2.heap.size).add 0) .i64 fun x31 =>
  ldI w13 ((blk w2.heap.size).add 1) .i64 fun x32 =>
  ifB (x29 == x31 && (x30 == x32 && true))
    (callR Try.prog 23 #[(.slice x13.a x13.l x13.c), (.slice x5.a x5.l x5.c)] w13 fun v33 w14 =>
    ∃ x34 : Bool, v33 = (.bool x34) ∧
    ifB x34
      (ifB (x19.toList == x27.toList)
        (R (.bool (x20 == x28)) w14)
        (R (.bool false) w14))
      (R (.bool false) w14))
    (R (.bool false) w13)
theorem intagliolaw09_IdsUses_calls (p0 : (Int × Int × Sl × Unit)) (p1 : Int) (R : Value → World → Prop) (w : World) (h : L_intagliolaw09_IdsUses p0 p1 R w) : Calls Try.prog 5 #[(.agg #[(.int .u32 p0.1), (.int .u32 p0.2.1), (.slice p0.2.2.1.a p0.2.2.1.l p0.2.2.1.c)]), (.int .u32 p1)] w (Ret R) :=
  lw_calls (fs := Try.fs) (an := a_intagliolaw09_IdsUses) (args := [(.agg #[(.int .u32 p0.1), (.int .u32 p0.2.1), (.slice p0.2.2.1.a p0.2.2.1.l p0.2.2.1.c)]), (.int .u32 p1)]) Try.fsOK Try.mixed Try.func5 (by kernel_rfl) (by kernel_rfl)
    (Eq.mpr (by kernel_rfl : lwFn Try.prog Try.fs Try.f5 a_intagliolaw09_IdsUses [(.agg #[(.int .u32 p0.1), (.int .u32 p0.2.1), (.slice p0.2.2.1.a p0.2.2.1.l p0.2.2.1.c)]), (.int .u32 p1)] w R = L_intagliolaw09_IdsUses p0 p1 R w) h)

/-- intaglio.intagliokit.CopyModule -/
def a_intagliokit_CopyModule : Ann := (.seq none .nil (.seq none .nil (.seq none (.seq none .nil (.one (.loop ⟨[1, 2, 3], [(4, (.b (.int .i64)))]⟩ (.seq none (.seq none .nil (.cond .nil .nil)) (.seq none (.one .nil) .nil))))) (.seq none .nil (.seq none .nil .nil)))))
def L_intagliokit_CopyModule (p0 : (Int × Int × Sl × Unit)) (R : Value → World → Prop) (w : World) : Prop :=
  Nw (w.alloc (.cells #[(.int .u32 p0.1), (.int .u32 p0.2.1), (.slice p0.2.2.1.a p0.2.2.1.l p0.2.2.1.c)] 37)) fun w1 =>
  Nw (w1.alloc (.cells #[(.int .u32 (0 : Int)), (.int .u32 (0 : Int)), (.slice none 0 0)] 37)) fun w2 =>
  ldS w2 ((blk w.heap.size).add 2) fun x1 =>
  (0 ≤ (x1.l : Int) ∧ (x1.l : Int) ≤ (x1.l : Int) ∧ (40 : Int) * (x1.l : Int) ≤ 281474976710656 ∧ (x1.l : Int) ≤ 9223372036854775807) ∧
  Nw (w2.alloc (.cells (madeCells #[(.int .u16 (0 : Int)), (.int .u32 (0 : Int)), (.int .u32 (0 : Int)), (.slice none 0 0)] (x1.l * 4)) 26)) fun w3 =>
  LoopW (S := Int × Unit) (fun s2 w4 n3 =>
      ldS w4 ((blk w.heap.size).add 2) fun x4 =>
      ifB (decide (s2.1 < (x4.l : Int)))
        (ldS w4 ((blk w.heap.size).add 2) fun x5 =>
        (0 ≤ s2.1 ∧ s2.1 < (x5.l : Int)) ∧
        derefP x5.a fun a6 =>
        ldI w4 ((a6.add ((Int.toNat s2.1) * 4)).add 0) .u16 fun x7 =>
        ldI w4 ((a6.add ((Int.toNat s2.1) * 4)).add 1) .u32 fun x8 =>
        ldI w4 ((a6.add ((Int.toNat s2.1) * 4)).add 2) .u32 fun x9 =>
        ldS w4 ((a6.add ((Int.toNat s2.1) * 4)).add 3) fun x10 =>
        callR Try.prog 9 #[(.agg #[(.int .u16 x7), (.int .u32 x8), (.int .u32 x9), (.slice x10.a x10.l x10.c)])] w4 fun v11 w5 =>
        ∃ x12 : (Int × Int × Int × Sl × Unit), v11 = (.agg #[(.int .u16 x12.1), (.int .u32 x12.2.1), (.int .u32 x12.2.2.1), (.slice x12.2.2.2.1.a x12.2.2.2.1.l x12.2.2.2.1.c)]) ∧
        (0 ≤ s2.1 ∧ s2.1 < (x1.l : Int)) ∧
        Wr w5 ((blk w2.heap.size).add ((Int.toNat s2.1) * 4)) ∧
        Nw (w5.setCell ((blk w2.heap.size).add ((Int.toNat s2.1) * 4)) (.int .u16 x12.1)) fun w6 =>
        Wr w6 (((blk w2.heap.size).add ((Int.toNat s2.1) * 4)).add 1) ∧
        Nw (w6.setCell (((blk w2.heap.size).add ((Int.toNat s2.1) * 4)).add 1) (.int .u32 x12.2.1)) fun w7 =>
        Wr w7 (((blk w2.heap.size).add ((Int.toNat s2.1) * 4)).add 2) ∧
        Nw (w7.setCell (((blk w2.heap.size).add ((Int.toNat s2.1) * 4)).add 2) (.int .u32 x12.2.2.1)) fun w8 =>
        Wr w8 (((blk w2.heap.size).add ((Int.toNat s2.1) * 4)).add 3) ∧
        Nw (w8.setCell (((blk w2.heap.size).add ((Int.toNat s2.1) * 4)).add 3) (.slice x12.2.2.2.1.a x12.2.2.2.1.l x12.2.2.2.1.c)) fun w9 =>
        n3 ((IntKind.i64.wrap (s2.1 + (1 : Int))), ()) w9)
        (Wr w4 ((blk w.heap.size).add 2) ∧
        Nw (w4.setCell ((blk w.heap.size).add 2) (.slice (some (blk w2.heap.size)) x1.l x1.l)) fun w10 =>
        ldI w10 ((blk w.heap.size).add 0) .u32 fun x13 =>
        ldI w10 ((blk w.heap.size).add 1) .u32 fun x14 =>
        ldS w10 ((blk w.heap.size).add 2) fun x15 =>
        Wr w10 (blk w1.heap.size) ∧
        Nw (w10.setCell (blk w1.heap.size) (.int .u32 x13)) fun w11 =>
        Wr w11 ((blk w1.heap.size).add 1) ∧
        Nw (w11.setCell ((blk w1.heap.size).add 1) (.int .u32 x14)) fun w12 =>
        Wr w12 ((blk w1.heap.size).add 2) ∧
        Nw (w12.setCell ((blk w1.heap.size).add 2) (.slice x15.a x15.l x15.c)) fun w13 =>
        ldI w13 ((blk w1.heap.size).add 0) .u32 fun x16 =>
        ldI w13 ((blk w1.heap.size).add 1) .u32 fun x17 =>
        ldS w13 ((blk w1.heap.size).add 2) fun x18 =>
        R (.agg #[(.int .u32 x16), (.int .u32 x17), (.slice x18.a x18.l x18.c)]) w13))
    ((0 : Int), ()) w3
theorem intagliokit_CopyModule_calls (p0 : (Int × Int × Sl × Unit)) (R : Value → World → Prop) (w : World) (h : L_intagliokit_CopyModule p0 R w) : Calls Try.prog 17 #[(.agg #[(.int .u32 p0.1), (.int .u32 p0.2.1), (.slice p0.2.2.1.a p0.2.2.1.l p0.2.2.1.c)])] w (Ret R) :=
  lw_calls (fs := Try.fs) (an := a_intagliokit_CopyModule) (args := [(.agg #[(.int .u32 p0.1), (.int .u32 p0.2.1), (.slice p0.2.2.1.a p0.2.2.1.l p0.2.2.1.c)])]) Try.fsOK Try.mixed Try.func17 (by kernel_rfl) (by kernel_rfl)
    (Eq.mpr (by kernel_rfl : lwFn Try.prog Try.fs Try.f17 a_intagliokit_CopyModule [(.agg #[(.int .u32 p0.1), (.int .u32 p0.2.1), (.slice p0.2.2.1.a p0.2.2.1.l p0.2.2.1.c)])] w R = L_intagliokit_CopyModule p0 R w) h)

/-- intaglio.intaglioref09.Uses -/
def a_intaglioref09_Uses : Ann := (.seq none .nil (.seq none .nil (.seq none (.seq none .nil (.cond (.seq none .nil .nil) .nil)) (.seq none .nil (.seq none (.seq none .nil (.one (.loop ⟨[1, 2, 5, 6], [(7, (.b .slice)), (8, (.b (.int .i64)))]⟩ (.seq none (.seq none .nil (.cond .nil .nil)) (.seq (some ⟨[1, 2, 5, 6, 8], [(7, (.b .slice))]⟩) (.one (.seq none .nil (.cond .nil .nil))) .nil))))) (.seq none .nil .nil))))))
def L_intaglioref09_Uses (p0 : (Int × Int × Sl × Unit)) (p1 : Int) (R : Value → World → Prop) (w : World) : Prop :=
  Nw (w.alloc (.cells #[(.int .u32 p0.1), (.int .u32 p0.2.1), (.slice p0.2.2.1.a p0.2.2.1.l p0.2.2.1.c)] 37)) fun w1 =>
  Nw (w1.alloc (.cells #[(.int .i64 (0 : Int)), (.int .i64 (0 : Int))] 43)) fun w2 =>
  ldI w2 ((blk w.heap.size).add 0) .u32 fun x1 =>
  ldI w2 ((blk w.heap.size).add 1) .u32 fun x2 =>
  ldS w2 ((blk w.heap.size).add 2) fun x3 =>
  callR Try.prog 43 #[(.agg #[(.int .u32 x1), (.int .u32 x2), (.slice x3.a x3.l x3.c)])] w2 fun v4 w3 =>
  ∃ x5 : (Int × Int × Unit), v4 = (.agg #[(.int .i64 x5.1), (.int .i64 x5.2.1)]) ∧
  Nw (w3.alloc (.cells #[(.int .i64 (0 : Int)), (.int .i64 (0 : Int))] 43)) fun w4 =>
  Wr w4 (blk w3.heap.size) ∧
  Nw (w4.setCell (blk w3.heap.size) (.int .i64 x5.1)) fun w5 =>
  Wr w5 ((blk w3.heap.size).add 1) ∧
  Nw (w5.setCell ((blk w3.heap.size).add 1) (.int .i64 x5.2.1)) fun w6 =>
  ldI w6 (blk w3.heap.size) .i64 fun x6 =>
  ifB (x6 != (0 : Int))
    (ldI w6.drew ((blk w3.heap.size).add 0) .i64 fun x7 =>
    ldI w6.drew ((blk w3.heap.size).add 1) .i64 fun x8 =>
    Wr w6.drew (blk w1.heap.size) ∧
    Nw (w6.drew.setCell (blk w1.heap.size) (.int .i64 x7)) fun w7 =>
    Wr w7 ((blk w1.heap.size).add 1) ∧
    Nw (w7.setCell ((blk w1.heap.size).add 1) (.int .i64 x8)) fun w8 =>
    ldI w8 ((blk w1.heap.size).add 0) .i64 fun x9 =>
    ldI w8 ((blk w1.heap.size).add 1) .i64 fun x10 =>
    R (.tuple #[(.slice none 0 0), (.agg #[(.int .i64 x9), (.int .i64 x10)])]) w8)
    (LoopW (S := Sl × Int × Unit) (fun s11 w9 n12 =>
        ldS w9 ((blk w.heap.size).add 2) fun x13 =>
        ifB (decide (s11.2.1 < (x13.l : Int)))
          (JoinW (S := Sl × Unit) (fun m14 =>
              ldS w9 ((blk w.heap.size).add 2) fun x16 =>
              (0 ≤ s11.2.1 ∧ s11.2.1 < (x16.l : Int)) ∧
              derefP x16.a fun a17 =>
              ldI w9 ((a17.add ((Int.toNat s11.2.1) * 4)).add 0) .u16 fun x18 =>
              ldI w9 ((a17.add ((Int.toNat s11.2.1) * 4)).add 1) .u32 fun x19 =>
              ldI w9 ((a17.add ((Int.toNat s11.2.1) * 4)).add 2) .u32 fun x20 =>
              ldS w9 ((a17.add ((Int.toNat s11.2.1) * 4)).add 3) fun x21 =>
              callR Try.prog 45 #[(.agg #[(.int .u16 x18), (.int .u32 x19), (.int .u32 x20), (.slice x21.a x21.l x21.c)]), (.int .u32 p1)] w9 fun v22 w10 =>
              ∃ x23 : Bool, v22 = (.bool x23) ∧
              ifB x23
                (Nw (w10.alloc (.cells #[(.int .i64 s11.2.1)] 3)) fun w11 =>
                appendS Try.prog 40 (.slice s11.1.a s11.1.l s11.1.c) (.slice (some (blk w10.heap.size)) 1 1) w11 fun r24 w12 =>
                m14 (r24, ()) w12)
                (m14 (s11.1, ()) w10))
            (fun s15 w13 =>
              n12 (s15.1, (IntKind.i64.wrap (s11.2.1 + (1 : Int))), ()) w13))
          (ldI w9.drew ((blk w3.heap.size).add 0) .i64 fun x25 =>
          ldI w9.drew ((blk w3.heap.size).add 1) .i64 fun x26 =>
          Wr w9.drew (blk w1.heap.size) ∧
          Nw (w9.drew.setCell (blk w1.heap.size) (.int .i64 x25)) fun w14 =>
          Wr w14 ((blk w1.heap.size).add 1) ∧
          Nw (w14.setCell ((blk w1.heap.size).add 1) (.int .i64 x26)) fun w15 =>
          ldI w15 ((blk w1.heap.size).add 0) .i64 fun x27 =>
          ldI w15 ((blk w1.heap.size).add 1) .i64 fun x28 =>
          R (.tuple #[(.slice s11.1.a s11.1.l s11.1.c), (.agg #[(.int .i64 x27), (.int .i64 x28)])]) w15))
      ((Sl.mk none 0 0), (0 : Int), ()) w6)
theorem intaglioref09_Uses_calls (p0 : (Int × Int × Sl × Unit)) (p1 : Int) (R : Value → World → Prop) (w : World) (h : L_intaglioref09_Uses p0 p1 R w) : Calls Try.prog 19 #[(.agg #[(.int .u32 p0.1), (.int .u32 p0.2.1), (.slice p0.2.2.1.a p0.2.2.1.l p0.2.2.1.c)]), (.int .u32 p1)] w (Ret R) :=
  lw_calls (fs := Try.fs) (an := a_intaglioref09_Uses) (args := [(.agg #[(.int .u32 p0.1), (.int .u32 p0.2.1), (.slice p0.2.2.1.a p0.2.2.1.l p0.2.2.1.c)]), (.int .u32 p1)]) Try.fsOK Try.mixed Try.func19 (by kernel_rfl) (by kernel_rfl)
    (Eq.mpr (by kernel_rfl : lwFn Try.prog Try.fs Try.f19 a_intaglioref09_Uses [(.agg #[(.int .u32 p0.1), (.int .u32 p0.2.1), (.slice p0.2.2.1.a p0.2.2.1.l p0.2.2.1.c)]), (.int .u32 p1)] w R = L_intaglioref09_Uses p0 p1 R w) h)

/-- intaglio.ids.Uses -/
def a_ids_Uses : Ann := (.seq none .nil (.seq none (.seq none .nil (.seq none .nil (.cond (.seq none .nil .nil) .nil))) (.seq none .nil (.seq none (.seq none .nil (.one (.loop ⟨[1, 5, 17, 18], [(7, (.b .slice)), (19, (.b (.int .i64)))]⟩ (.seq none .nil (.seq none (.cond .nil .nil) (.seq (some ⟨[1, 5, 17, 18, 19], [(7, (.b .slice))]⟩) (.one (.seq none .nil (.seq none .nil (.cond .nil .nil)))) .nil)))))) (.seq none .nil .nil)))))
def L_ids_Uses (p0 : (Int × Int × Sl × Unit)) (p1 : Int) (R : Value → World → Prop) (w : World) : Prop :=
  Nw (w.alloc (.cells #[(.int .u32 p0.1), (.int .u32 p0.2.1), (.slice p0.2.2.1.a p0.2.2.1.l p0.2.2.1.c)] 37)) fun w1 =>
  Nw (w1.alloc (.cells #[(.int .i64 (0 : Int)), (.int .i64 (0 : Int))] 43)) fun w2 =>
  ldI w2 ((blk w.heap.size).add 0) .u32 fun x1 =>
  ldI w2 ((blk w.heap.size).add 1) .u32 fun x2 =>
  ldS w2 ((blk w.heap.size).add 2) fun x3 =>
  callR Try.prog 41 #[(.agg #[(.int .u32 x1), (.int .u32 x2), (.slice x3.a x3.l x3.c)])] w2 fun v4 w3 =>
  ∃ x5 : (Int × Int × Unit), v4 = (.agg #[(.int .i64 x5.1), (.int .i64 x5.2.1)]) ∧
  Nw (w3.alloc (.cells #[(.int .i64 (0 : Int)), (.int .i64 (0 : Int))] 43)) fun w4 =>
  Wr w4 (blk w3.heap.size) ∧
  Nw (w4.setCell (blk w3.heap.size) (.int .i64 x5.1)) fun w5 =>
  Wr w5 ((blk w3.heap.size).add 1) ∧
  Nw (w5.setCell ((blk w3.heap.size).add 1) (.int .i64 x5.2.1)) fun w6 =>
  ldI w6 (blk w3.heap.size) .i64 fun x6 =>
  ifB (x6 != (0 : Int))
    (ldI w6.drew ((blk w3.heap.size).add 0) .i64 fun x7 =>
    ldI w6.drew ((blk w3.heap.size).add 1) .i64 fun x8 =>
    Wr w6.drew (blk w1.heap.size) ∧
    Nw (w6.drew.setCell (blk w1.heap.size) (.int .i64 x7)) fun w7 =>
    Wr w7 ((blk w1.heap.size).add 1) ∧
    Nw (w7.setCell ((blk w1.heap.size).add 1) (.int .i64 x8)) fun w8 =>
    ldI w8 ((blk w1.heap.size).add 0) .i64 fun x9 =>
    ldI w8 ((blk w1.heap.size).add 1) .i64 fun x10 =>
    R (.tuple #[(.slice none 0 0), (.agg #[(.int .i64 x9), (.int .i64 x10)])]) w8)
    (ldS w6 ((blk w.heap.size).add 2) fun x11 =>
    LoopW (S := Sl × Int × Unit) (fun s12 w9 n13 =>
        ifB (decide (s12.2.1 < (x11.l : Int)))
          (JoinW (S := Sl × Unit) (fun m14 =>
              (0 ≤ s12.2.1 ∧ s12.2.1 < (x11.l : Int)) ∧
              derefP x11.a fun a16 =>
              ldI w9 ((a16.add ((Int.toNat s12.2.1) * 4)).add 0) .u16 fun x17 =>
              ldI w9 ((a16.add ((Int.toNat s12.2.1) * 4)).add 1) .u32 fun x18 =>
              ldI w9 ((a16.add ((Int.toNat s12.2.1) * 4)).add 2) .u32 fun x19 =>
              ldS w9 ((a16.add ((Int.toNat s12.2.1) * 4)).add 3) fun x20 =>
              Nw (w9.alloc (.cells #[(.int .u16 (0 : Int)), (.int .u32 (0 : Int)), (.int .u32 (0 : Int)), (.slice none 0 0)] 26)) fun w10 =>
              Wr w10 (blk w9.heap.size) ∧
              Nw (w10.setCell (blk w9.heap.size) (.int .u16 x17)) fun w11 =>
              Wr w11 ((blk w9.heap.size).add 1) ∧
              Nw (w11.setCell ((blk w9.heap.size).add 1) (.int .u32 x18)) fun w12 =>
              Wr w12 ((blk w9.heap.size).add 2) ∧
              Nw (w12.setCell ((blk w9.heap.size).add 2) (.int .u32 x19)) fun w13 =>
              Wr w13 ((blk w9.heap.size).add 3) ∧
              Nw (w13.setCell ((blk w9.heap.size).add 3) (.slice x20.a x20.l x20.c)) fun w14 =>
              ldI w14 ((blk w9.heap.size).add 0) .u16 fun x21 =>
              ldI w14 ((blk w9.heap.size).add 1) .u32 fun x22 =>
              ldI w14 ((blk w9.heap.size).add 2) .u32 fun x23 =>
              ldS w14 ((blk w9.heap.size).add 3) fun x24 =>
              callR Try.prog 47 #[(.agg #[(.int .u16 x21), (.int .u32 x22), (.int .u32 x23), (.slice x24.a x24.l x24.c)])] w14 fun v25 w15 =>
              ∃ x26 : Sl, v25 = (.slice x26.a x26.l x26.c) ∧
              callR Try.prog 46 #[(.slice x26.a x26.l x26.c), (.int .u32 p1)] w15 fun v27 w16 =>
              ∃ x28 : Bool, v27 = (.bool x28) ∧
              ifB x28
                (Nw (w16.alloc (.cells #[(.int .i64 s12.2.1)] 3)) fun w17 =>
                appendS Try.prog 40 (.slice s12.1.a s12.1.l s12.1.c) (.slice (some (blk w16.heap.size)) 1 1) w17 fun r29 w18 =>
                m14 (r29, ()) w18)
                (m14 (s12.1, ()) w16))
            (fun s15 w19 =>
              n13 (s15.1, (IntKind.i64.wrap (s12.2.1 + (1 : Int))), ()) w19))
          (Wr w9 (blk w1.heap.size) ∧
          Nw (w9.setCell (blk w1.heap.size) (.int .i64 (0 : Int))) fun w20 =>
          Wr w20 ((blk w1.heap.size).add 1) ∧
          Nw (w20.setCell ((blk w1.heap.size).add 1) (.int .i64 (0 : Int))) fun w21 =>
          ldI w21 ((blk w1.heap.size).add 0) .i64 fun x30 =>
          ldI w21 ((blk w1.heap.size).add 1) .i64 fun x31 =>
          R (.tuple #[(.slice s12.1.a s12.1.l s12.1.c), (.agg #[(.int .i64 x30), (.int .i64 x31)])]) w21))
      ((Sl.mk none 0 0), (0 : Int), ()) w6)
theorem ids_Uses_calls (p0 : (Int × Int × Sl × Unit)) (p1 : Int) (R : Value → World → Prop) (w : World) (h : L_ids_Uses p0 p1 R w) : Calls Try.prog 20 #[(.agg #[(.int .u32 p0.1), (.int .u32 p0.2.1), (.slice p0.2.2.1.a p0.2.2.1.l p0.2.2.1.c)]), (.int .u32 p1)] w (Ret R) :=
  lw_calls (fs := Try.fs) (an := a_ids_Uses) (args := [(.agg #[(.int .u32 p0.1), (.int .u32 p0.2.1), (.slice p0.2.2.1.a p0.2.2.1.l p0.2.2.1.c)]), (.int .u32 p1)]) Try.fsOK Try.mixed Try.func20 (by kernel_rfl) (by kernel_rfl)
    (Eq.mpr (by kernel_rfl : lwFn Try.prog Try.fs Try.f20 a_ids_Uses [(.agg #[(.int .u32 p0.1), (.int .u32 p0.2.1), (.slice p0.2.2.1.a p0.2.2.1.l p0.2.2.1.c)]), (.int .u32 p1)] w R = L_ids_Uses p0 p1 R w) h)

/-- intaglio.intaglioref09.Name -/
def a_intaglioref09_Name : Ann := (.seq none .nil (.seq none .nil (.seq none (.seq none .nil (.one (.loop ⟨[1, 2, 6], [(7, (.b (.int .i64)))]⟩ (.seq (some ⟨[1, 2, 6, 7], []⟩) (.seq none .nil (.cond .nil .nil)) (.seq (some ⟨[1, 2, 6, 7], []⟩) (.one (.seq none .nil (.cond (.seq none .nil .nil) .nil))) .nil))))) (.seq none .nil .nil))))
def L_intaglioref09_Name (p0 : (Int × Int × Sl × Unit)) (p1 : Int) (R : Value → World → Prop) (w : World) : Prop :=
  Nw (w.alloc (.cells #[(.int .u32 p0.1), (.int .u32 p0.2.1), (.slice p0.2.2.1.a p0.2.2.1.l p0.2.2.1.c)] 37)) fun w1 =>
  ldI w1 ((blk w.heap.size).add 0) .u32 fun x1 =>
  ldI w1 ((blk w.heap.size).add 1) .u32 fun x2 =>
  ldS w1 ((blk w.heap.size).add 2) fun x3 =>
  callR Try.prog 43 #[(.agg #[(.int .u32 x1), (.int .u32 x2), (.slice x3.a x3.l x3.c)])] w1 fun v4 w2 =>
  ∃ x5 : (Int × Int × Unit), v4 = (.agg #[(.int .i64 x5.1), (.int .i64 x5.2.1)]) ∧
  Nw (w2.alloc (.cells #[(.int .i64 (0 : Int)), (.int .i64 (0 : Int))] 43)) fun w3 =>
  Wr w3 (blk w2.heap.size) ∧
  Nw (w3.setCell (blk w2.heap.size) (.int .i64 x5.1)) fun w4 =>
  Wr w4 ((blk w2.heap.size).add 1) ∧
  Nw (w4.setCell ((blk w2.heap.size).add 1) (.int .i64 x5.2.1)) fun w5 =>
  LoopW (S := Int × Unit) (fun s6 w6 n7 =>
      JoinW (S := Unit) (fun m8 =>
          ldS w6 ((blk w.heap.size).add 2) fun x10 =>
          ifB (decide (s6.1 < (x10.l : Int)))
            (ldI w6 (blk w2.heap.size) .i64 fun x11 =>
            ifB (x11 == (0 : Int))
              (m8 (()) w6)
              (R (.tuple #[(.string (ByteArray.mk #[])), (.bool false)]) w6))
            (R (.tuple #[(.string (ByteArray.mk #[])), (.bool false)]) w6))
        (fun s9 w7 =>
          JoinW (S := Unit) (fun m12 =>
              ldS w7 ((blk w.heap.size).add 2) fun x14 =>
              (0 ≤ s6.1 ∧ s6.1 < (x14.l : Int)) ∧
              derefP x14.a fun a15 =>
              ldI w7 (a15.add ((Int.toNat s6.1) * 4)) .u16 fun x16 =>
              ifB (x16 == (5 : Int))
                (ldS w7 ((blk w.heap.size).add 2) fun x17 =>
                (0 ≤ s6.1 ∧ s6.1 < (x17.l : Int)) ∧
                derefP x17.a fun a18 =>
                ldS w7 ((a18.add ((Int.toNat s6.1) * 4)).add 3) fun x19 =>
                (0 ≤ (0 : Int) ∧ (0 : Int) < (x19.l : Int)) ∧
                derefP x19.a fun a20 =>
                ldI w7 ((a20.add (0 * 3)).add 1) .u32 fun x21 =>
                ifB (x21 == p1)
                  (ldS w7 ((blk w.heap.size).add 2) fun x22 =>
                  (0 ≤ s6.1 ∧ s6.1 < (x22.l : Int)) ∧
                  derefP x22.a fun a23 =>
                  ldS w7 ((a23.add ((Int.toNat s6.1) * 4)).add 3) fun x24 =>
                  (0 ≤ (1 : Int) ∧ (1 : Int) < (x24.l : Int)) ∧
                  derefP x24.a fun a25 =>
                  ldStr w7 ((a25.add (1 * 3)).add 2) fun x26 =>
                  R (.tuple #[(.string x26), (.bool true)]) w7)
                  (m12 (()) w7))
                (m12 (()) w7))
            (fun s13 w8 =>
              n7 ((IntKind.i64.wrap (s6.1 + (1 : Int))), ()) w8)))
    ((0 : Int), ()) w5
theorem intaglioref09_Name_calls (p0 : (Int × Int × Sl × Unit)) (p1 : Int) (R : Value → World → Prop) (w : World) (h : L_intaglioref09_Name p0 p1 R w) : Calls Try.prog 21 #[(.agg #[(.int .u32 p0.1), (.int .u32 p0.2.1), (.slice p0.2.2.1.a p0.2.2.1.l p0.2.2.1.c)]), (.int .u32 p1)] w (Ret R) :=
  lw_calls (fs := Try.fs) (an := a_intaglioref09_Name) (args := [(.agg #[(.int .u32 p0.1), (.int .u32 p0.2.1), (.slice p0.2.2.1.a p0.2.2.1.l p0.2.2.1.c)]), (.int .u32 p1)]) Try.fsOK Try.mixed Try.func21 (by kernel_rfl) (by kernel_rfl)
    (Eq.mpr (by kernel_rfl : lwFn Try.prog Try.fs Try.f21 a_intaglioref09_Name [(.agg #[(.int .u32 p0.1), (.int .u32 p0.2.1), (.slice p0.2.2.1.a p0.2.2.1.l p0.2.2.1.c)]), (.int .u32 p1)] w R = L_intaglioref09_Name p0 p1 R w) h)

/-- intaglio.ids.Name -/
def a_ids_Name : Ann := (.seq none .nil (.seq none (.seq none .nil (.cond (.seq none .nil .nil) .nil)) (.seq none (.seq none .nil (.one (.loop ⟨[1, 13, 14], [(15, (.b (.int .i64)))]⟩ (.seq none .nil (.seq none (.cond .nil .nil) (.seq (some ⟨[1, 13, 14, 15], []⟩) (.one (.seq none .nil (.seq none .nil (.cond (.seq none .nil .nil) .nil)))) .nil)))))) (.seq none .nil .nil))))
def L_ids_Name (p0 : (Int × Int × Sl × Unit)) (p1 : Int) (R : Value → World → Prop) (w : World) : Prop :=
  Nw (w.alloc (.cells #[(.int .u32 p0.1), (.int .u32 p0.2.1), (.slice p0.2.2.1.a p0.2.2.1.l p0.2.2.1.c)] 37)) fun w1 =>
  ldI w1 ((blk w.heap.size).add 0) .u32 fun x1 =>
  ldI w1 ((blk w.heap.size).add 1) .u32 fun x2 =>
  ldS w1 ((blk w.heap.size).add 2) fun x3 =>
  callR Try.prog 41 #[(.agg #[(.int .u32 x1), (.int .u32 x2), (.slice x3.a x3.l x3.c)])] w1 fun v4 w2 =>
  ∃ x5 : (Int × Int × Unit), v4 = (.agg #[(.int .i64 x5.1), (.int .i64 x5.2.1)]) ∧
  ifB (x5.1 != (0 : Int))
    (R (.tuple #[(.string (ByteArray.mk #[])), (.bool false)]) w2)
    (ldS w2 ((blk w.heap.size).add 2) fun x6 =>
    LoopW (S := Int × Unit) (fun s7 w3 n8 =>
        ifB (decide (s7.1 < (x6.l : Int)))
          (JoinW (S := Unit) (fun m9 =>
              (0 ≤ s7.1 ∧ s7.1 < (x6.l : Int)) ∧
              derefP x6.a fun a11 =>
              ldI w3 ((a11.add ((Int.toNat s7.1) * 4)).add 0) .u16 fun x12 =>
              ldI w3 ((a11.add ((Int.toNat s7.1) * 4)).add 1) .u32 fun x13 =>
              ldI w3 ((a11.add ((Int.toNat s7.1) * 4)).add 2) .u32 fun x14 =>
              ldS w3 ((a11.add ((Int.toNat s7.1) * 4)).add 3) fun x15 =>
              Nw (w3.alloc (.cells #[(.int .u16 (0 : Int)), (.int .u32 (0 : Int)), (.int .u32 (0 : Int)), (.slice none 0 0)] 26)) fun w4 =>
              Wr w4 (blk w3.heap.size) ∧
              Nw (w4.setCell (blk w3.heap.size) (.int .u16 x12)) fun w5 =>
              Wr w5 ((blk w3.heap.size).add 1) ∧
              Nw (w5.setCell ((blk w3.heap.size).add 1) (.int .u32 x13)) fun w6 =>
              Wr w6 ((blk w3.heap.size).add 2) ∧
              Nw (w6.setCell ((blk w3.heap.size).add 2) (.int .u32 x14)) fun w7 =>
              Wr w7 ((blk w3.heap.size).add 3) ∧
              Nw (w7.setCell ((blk w3.heap.size).add 3) (.slice x15.a x15.l x15.c)) fun w8 =>
              ldI w8 (blk w3.heap.size) .u16 fun x16 =>
              ifB (x16 == (5 : Int))
                (ldS w8 ((blk w3.heap.size).add 3) fun x17 =>
                (0 ≤ (0 : Int) ∧ (0 : Int) < (x17.l : Int)) ∧
                derefP x17.a fun a18 =>
                ldI w8 ((a18.add (0 * 3)).add 1) .u32 fun x19 =>
                ifB (x19 == p1)
                  (ldS w8 ((blk w3.heap.size).add 3) fun x20 =>
                  (0 ≤ (1 : Int) ∧ (1 : Int) < (x20.l : Int)) ∧
                  derefP x20.a fun a21 =>
                  ldStr w8 ((a21.add (1 * 3)).add 2) fun x22 =>
                  R (.tuple #[(.string x22), (.bool true)]) w8)
                  (m9 (()) w8))
                (m9 (()) w8))
            (fun s10 w9 =>
              n8 ((IntKind.i64.wrap (s7.1 + (1 : Int))), ()) w9))
          (R (.tuple #[(.string (ByteArray.mk #[])), (.bool false)]) w3))
      ((0 : Int), ()) w2)
theorem ids_Name_calls (p0 : (Int × Int × Sl × Unit)) (p1 : Int) (R : Value → World → Prop) (w : World) (h : L_ids_Name p0 p1 R w) : Calls Try.prog 22 #[(.agg #[(.int .u32 p0.1), (.int .u32 p0.2.1), (.slice p0.2.2.1.a p0.2.2.1.l p0.2.2.1.c)]), (.int .u32 p1)] w (Ret R) :=
  lw_calls (fs := Try.fs) (an := a_ids_Name) (args := [(.agg #[(.int .u32 p0.1), (.int .u32 p0.2.1), (.slice p0.2.2.1.a p0.2.2.1.l p0.2.2.1.c)]), (.int .u32 p1)]) Try.fsOK Try.mixed Try.func22 (by kernel_rfl) (by kernel_rfl)
    (Eq.mpr (by kernel_rfl : lwFn Try.prog Try.fs Try.f22 a_ids_Name [(.agg #[(.int .u32 p0.1), (.int .u32 p0.2.1), (.slice p0.2.2.1.a p0.2.2.1.l p0.2.2.1.c)]), (.int .u32 p1)] w R = L_ids_Name p0 p1 R w) h)

/-- intaglio.intaglioref09.Names -/
def a_intaglioref09_Names : Ann := (.seq none .nil (.seq none .nil (.seq none (.seq none .nil (.one (.loop ⟨[1, 5], [(6, (.b (.int .i64)))]⟩ (.seq none (.seq none .nil (.cond .nil .nil)) (.seq none (.one (.seq none .nil (.cond (.seq none .nil .nil) .nil))) .nil))))) (.seq none .nil .nil))))
def L_intaglioref09_Names (p0 : (Int × Int × Int × Sl × Unit)) (p1 : Int) (R : Value → World → Prop) (w : World) : Prop :=
  Nw (w.alloc (.cells #[(.int .u16 p0.1), (.int .u32 p0.2.1), (.int .u32 p0.2.2.1), (.slice p0.2.2.2.1.a p0.2.2.2.1.l p0.2.2.2.1.c)] 26)) fun w1 =>
  ldI w1 ((blk w.heap.size).add 0) .u16 fun x1 =>
  ldI w1 ((blk w.heap.size).add 1) .u32 fun x2 =>
  ldI w1 ((blk w.heap.size).add 2) .u32 fun x3 =>
  ldS w1 ((blk w.heap.size).add 3) fun x4 =>
  callR Try.prog 72 #[(.agg #[(.int .u16 x1), (.int .u32 x2), (.int .u32 x3), (.slice x4.a x4.l x4.c)])] w1 fun v5 w2 =>
  ∃ x6 : Sl, v5 = (.slice x6.a x6.l x6.c) ∧
  LoopW (S := Int × Unit) (fun s7 w3 n8 =>
      ifB (decide (s7.1 < (x6.l : Int)))
        ((0 ≤ s7.1 ∧ s7.1 < (x6.l : Int)) ∧
        derefP x6.a fun a9 =>
        ldI w3 (a9.add (Int.toNat s7.1)) .u32 fun x10 =>
        ifB (x10 == p1)
          (R (.bool true) w3)
          (n8 ((IntKind.i64.wrap (s7.1 + (1 : Int))), ()) w3))
        (R (.bool false) w3))
    ((0 : Int), ()) w2
theorem intaglioref09_Names_calls (p0 : (Int × Int × Int × Sl × Unit)) (p1 : Int) (R : Value → World → Prop) (w : World) (h : L_intaglioref09_Names p0 p1 R w) : Calls Try.prog 45 #[(.agg #[(.int .u16 p0.1), (.int .u32 p0.2.1), (.int .u32 p0.2.2.1), (.slice p0.2.2.2.1.a p0.2.2.2.1.l p0.2.2.2.1.c)]), (.int .u32 p1)] w (Ret R) :=
  lw_calls (fs := Try.fs) (an := a_intaglioref09_Names) (args := [(.agg #[(.int .u16 p0.1), (.int .u32 p0.2.1), (.int .u32 p0.2.2.1), (.slice p0.2.2.2.1.a p0.2.2.2.1.l p0.2.2.2.1.c)]), (.int .u32 p1)]) Try.fsOK Try.mixed Try.func45 (by kernel_rfl) (by kernel_rfl)
    (Eq.mpr (by kernel_rfl : lwFn Try.prog Try.fs Try.f45 a_intaglioref09_Names [(.agg #[(.int .u16 p0.1), (.int .u32 p0.2.1), (.int .u32 p0.2.2.1), (.slice p0.2.2.2.1.a p0.2.2.2.1.l p0.2.2.2.1.c)]), (.int .u32 p1)] w R = L_intaglioref09_Names p0 p1 R w) h)

/-- slices.Contains[[]uint32,uint32] -/
def a_slices_Contains_suint32_uint32 : Ann := (.seq none .nil (.seq none .nil .nil))
def L_slices_Contains_suint32_uint32 (p0 : Sl) (p1 : Int) (R : Value → World → Prop) (w : World) : Prop :=
  callR Try.prog 73 #[(.slice p0.a p0.l p0.c), (.int .u32 p1)] w fun v1 w1 =>
  ∃ x2 : Int, v1 = (.int .i64 x2) ∧
  R (.bool (decide (x2 ≥ (0 : Int)))) w1
theorem slices_Contains_suint32_uint32_calls (p0 : Sl) (p1 : Int) (R : Value → World → Prop) (w : World) (h : L_slices_Contains_suint32_uint32 p0 p1 R w) : Calls Try.prog 46 #[(.slice p0.a p0.l p0.c), (.int .u32 p1)] w (Ret R) :=
  lw_calls (fs := Try.fs) (an := a_slices_Contains_suint32_uint32) (args := [(.slice p0.a p0.l p0.c), (.int .u32 p1)]) Try.fsOK Try.mixed Try.func46 (by kernel_rfl) (by kernel_rfl)
    (Eq.mpr (by kernel_rfl : lwFn Try.prog Try.fs Try.f46 a_slices_Contains_suint32_uint32 [(.slice p0.a p0.l p0.c), (.int .u32 p1)] w R = L_slices_Contains_suint32_uint32 p0 p1 R w) h)

/-- slices.Index[[]uint32,uint32] -/
def a_slices_Index_suint32_uint32 : Ann := (.seq none .nil (.seq none (.seq none .nil (.one (.loop ⟨[0, 1, 7], [(8, (.b (.int .i64)))]⟩ (.seq none .nil (.seq none (.cond .nil .nil) (.seq none (.one (.seq none .nil (.seq none .nil (.cond (.seq none .nil .nil) .nil)))) .nil)))))) (.seq none .nil .nil)))
def L_slices_Index_suint32_uint32 (p0 : Sl) (p1 : Int) (R : Value → World → Prop) (w : World) : Prop :=
  LoopW (S := Int × Unit) (fun s1 w1 n2 =>
      ifB (decide (s1.1 < (p0.l : Int)))
        ((0 ≤ s1.1 ∧ s1.1 < (p0.l : Int)) ∧
        derefP p0.a fun a3 =>
        ldI w1 (a3.add (Int.toNat s1.1)) .u32 fun x4 =>
        ifB (p1 == x4)
          (R (.int .i64 s1.1) w1)
          (n2 ((IntKind.i64.wrap (s1.1 + (1 : Int))), ()) w1))
        (R (.int .i64 (-1 : Int)) w1))
    ((0 : Int), ()) w
theorem slices_Index_suint32_uint32_calls (p0 : Sl) (p1 : Int) (R : Value → World → Prop) (w : World) (h : L_slices_Index_suint32_uint32 p0 p1 R w) : Calls Try.prog 73 #[(.slice p0.a p0.l p0.c), (.int .u32 p1)] w (Ret R) :=
  lw_calls (fs := Try.fs) (an := a_slices_Index_suint32_uint32) (args := [(.slice p0.a p0.l p0.c), (.int .u32 p1)]) Try.fsOK Try.mixed Try.func73 (by kernel_rfl) (by kernel_rfl)
    (Eq.mpr (by kernel_rfl : lwFn Try.prog Try.fs Try.f73 a_slices_Index_suint32_uint32 [(.slice p0.a p0.l p0.c), (.int .u32 p1)] w R = L_slices_Index_suint32_uint32 p0 p1 R w) h)

end Go.Proofs
