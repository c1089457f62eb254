/-
  Printed by a program of the author: what each function comes to.
-/
import Derived.Test.YtocnlbhoibplbaaProg
import Derived.Test.YtocnlbhoibplbaaGkR
import Derived.Test.YtocnlbhoibplbaaLb
namespace Go.Proofs
open Go.Gk
set_option linter.unusedVariables false
set_option maxRecDepth 100000

/-- intaglio.intagliolaw09.IdsAlikes -/
def a_intagliolaw09_IdsAlikes : Ann := (.seq none .nil (.seq none .nil .nil))
def L_intagliolaw09_IdsAlikes (p0 : (Int × Int × Sl × Unit)) (p1 : (Int × Int × Sl × Unit)) (R : Value → World → Prop) (w : World) : Prop :=
  Nw (w.alloc (.cells #[(.int .u32 p0.1), (.int .u32 p0.2.1), (.slice p0.2.2.1.a p0.2.2.1.l p0.2.2.1.c)] 37)) fun w1 =>
  Nw (w1.alloc (.cells #[(.int .u32 p1.1), (.int .u32 p1.2.1), (.slice p1.2.2.1.a p1.2.2.1.l p1.2.2.1.c)] 37)) fun w2 =>
  ldI w2.drew ((blk w.heap.size).add 0) .u32 fun x1 =>
  ldI w2.drew ((blk w.heap.size).add 1) .u32 fun x2 =>
  ldS w2.drew ((blk w.heap.size).add 2) fun x3 =>
  ldI w2.drew ((blk w1.heap.size).add 0) .u32 fun x4 =>
  ldI w2.drew ((blk w1.heap.size).add 1) .u32 fun x5 =>
  ldS w2.drew ((blk w1.heap.size).add 2) fun x6 =>
  ldI w2.drew ((blk w.heap.size).add 0) .u32 fun x7 =>
  ldI w2.drew ((blk w.heap.size).add 1) .u32 fun x8 =>
  ldS w2.drew ((blk w.heap.size).add 2) fun x9 =>
  ldI w2.drew ((blk w1.heap.size).add 0) .u32 fun x10 =>
  ldI w2.drew ((blk w1.heap.size).add 1) .u32 fun x11 =>
  ldS w2.drew ((blk w1.heap.size).add 2) fun x12 =>
  callR Try.prog 17 #[(.agg #[(.int .u32 x1), (.int .u32 x2), (.slice x3.a x3.l x3.c)])] w2.drew fun v13 w3 =>
  ∃ x14 : (Int × Int × Sl × Unit), v13 = (.agg #[(.int .u32 x14.1), (.int .u32 x14.2.1), (.slice x14.2.2.1.a x14.2.2.1.l x14.2.2.1.c)]) ∧
  w3.cell? ((blk w1.heap.size).add 0) = some (.int .u32 x10) ∧
  w3.cell? ((blk w1.heap.size).add 1) = some (.int .u32 x11) ∧
  w3.cell? ((blk w1.heap.size).add 2) = some (.slice x12.a x12.l x12.c) ∧
  w3.cell? ((blk w.heap.size).add 0) = some (.int .u32 x7) ∧
  w3.cell? ((blk w.heap.size).add 1) = some (.int .u32 x8) ∧
  w3.cell? ((blk w.heap.size).add 2) = some (.slice x9.a x9.l x9.c) ∧
  w3.cell? ((blk w1.heap.size).add 0) = some (.int .u32 x4) ∧
  w3.cell? ((blk w1.heap.size).add 1) = some (.int .u32 x5) ∧
  w3.cell? ((blk w1.heap.size).add 2) = some (.slice x6.a x6.l x6.c) ∧
  callR Try.prog 17 #[(.agg #[(.int .u32 x4), (.int .u32 x5), (.slice x6.a x6.l x6.c)])] w3 fun v15 w4 =>
  ∃ x16 : (Int × Int × Sl × Unit), v15 = (.agg #[(.int .u32 x16.1), (.int .u32 x16.2.1), (.slice x16.2.2.1.a x16.2.2.1.l x16.2.2.1.c)]) ∧
  w4.cell? ((blk w1.heap.size).add 0) = some (.int .u32 x10) ∧
  w4.cell? ((blk w1.heap.size).add 1) = some (.int .u32 x11) ∧
  w4.cell? ((blk w1.heap.size).add 2) = some (.slice x12.a x12.l x12.c) ∧
  w4.cell? ((blk w.heap.size).add 0) = some (.int .u32 x7) ∧
  w4.cell? ((blk w.heap.size).add 1) = some (.int .u32 x8) ∧
  w4.cell? ((blk w.heap.size).add 2) = some (.slice x9.a x9.l x9.c) ∧
  callR Try.prog 16 #[(.agg #[(.int .u32 x14.1), (.int .u32 x14.2.1), (.slice x14.2.2.1.a x14.2.2.1.l x14.2.2.1.c)]), (.agg #[(.int .u32 x16.1), (.int .u32 x16.2.1), (.slice x16.2.2.1.a x16.2.2.1.l x16.2.2.1.c)])] w4 fun v17 w5 =>
  ∃ x18 : Bool, v17 = (.bool x18) ∧
  w5.cell? ((blk w1.heap.size).add 0) = some (.int .u32 x10) ∧
  w5.cell? ((blk w1.heap.size).add 1) = some (.int .u32 x11) ∧
  w5.cell? ((blk w1.heap.size).add 2) = some (.slice x12.a x12.l x12.c) ∧
  w5.cell? ((blk w.heap.size).add 0) = some (.int .u32 x7) ∧
  w5.cell? ((blk w.heap.size).add 1) = some (.int .u32 x8) ∧
  w5.cell? ((blk w.heap.size).add 2) = some (.slice x9.a x9.l x9.c) ∧
  callR Try.prog 18 #[(.agg #[(.int .u32 x7), (.int .u32 x8), (.slice x9.a x9.l x9.c)]), (.agg #[(.int .u32 x10), (.int .u32 x11), (.slice x12.a x12.l x12.c)])] w5 fun v19 w6 =>
  ∃ x20 : Bool, v19 = (.bool x20) ∧
  R (.bool (x18 == x20)) w6
theorem intagliolaw09_IdsAlikes_calls (p0 : (Int × Int × Sl × Unit)) (p1 : (Int × Int × Sl × Unit)) (R : Value → World → Prop) (w : World) (h : L_intagliolaw09_IdsAlikes p0 p1 R w) : Calls Try.prog 4 #[(.agg #[(.int .u32 p0.1), (.int .u32 p0.2.1), (.slice p0.2.2.1.a p0.2.2.1.l p0.2.2.1.c)]), (.agg #[(.int .u32 p1.1), (.int .u32 p1.2.1), (.slice p1.2.2.1.a p1.2.2.1.l p1.2.2.1.c)])] w (Ret R) :=
  lw_calls (fs := Try.fs) (an := a_intagliolaw09_IdsAlikes) (args := [(.agg #[(.int .u32 p0.1), (.int .u32 p0.2.1), (.slice p0.2.2.1.a p0.2.2.1.l p0.2.2.1.c)]), (.agg #[(.int .u32 p1.1), (.int .u32 p1.2.1), (.slice p1.2.2.1.a p1.2.2.1.l p1.2.2.1.c)])]) Try.fsOK Try.mixed Try.func4 (by kernel_rfl) (by kernel_rfl)
    (Eq.mpr (by kernel_rfl : lwFn Try.prog Try.fs Try.f4 a_intagliolaw09_IdsAlikes [(.agg #[(.int .u32 p0.1), (.int .u32 p0.2.1), (.slice p0.2.2.1.a p0.2.2.1.l p0.2.2.1.c)]), (.agg #[(.int .u32 p1.1), (.int .u32 p1.2.1), (.slice p1.2.2.1.a p1.2.2.1.l p1.2.2.1.c)])] w R = L_intagliolaw09_IdsAlikes p0 p1 R w) h)

/-- intaglio.ids.Alike -/
def a_ids_Alike : Ann := (.seq none .nil (.seq (some ⟨[2, 3], []⟩) (.seq none .nil (.cond (.seq none .nil .nil) .nil)) (.seq none .nil (.seq none (.seq none .nil (.one (.loop ⟨[3, 5, 40, 41], [(42, (.b (.int .i64)))]⟩ (.seq none .nil (.seq none (.cond .nil .nil) (.seq none (.one (.seq none .nil (.seq none .nil (.cond (.seq none .nil .nil) .nil)))) .nil)))))) (.seq none .nil .nil)))))
def L_ids_Alike (p0 : (Int × Int × Sl × Unit)) (p1 : (Int × Int × Sl × Unit)) (R : Value → World → Prop) (w : World) : Prop :=
  Nw (w.alloc (.cells #[(.int .u32 p0.1), (.int .u32 p0.2.1), (.slice p0.2.2.1.a p0.2.2.1.l p0.2.2.1.c)] 37)) fun w1 =>
  Nw (w1.alloc (.cells #[(.int .u32 p1.1), (.int .u32 p1.2.1), (.slice p1.2.2.1.a p1.2.2.1.l p1.2.2.1.c)] 37)) fun w2 =>
  JoinW (S := Unit) (fun m1 =>
      ldI w2 ((blk w.heap.size).add 0) .u32 fun x3 =>
      ldI w2 ((blk w.heap.size).add 1) .u32 fun x4 =>
      ldS w2 ((blk w.heap.size).add 2) fun x5 =>
      callR Try.prog 41 #[(.agg #[(.int .u32 x3), (.int .u32 x4), (.slice x5.a x5.l x5.c)])] w2 fun v6 w3 =>
      ∃ x7 : (Int × Int × Unit), v6 = (.agg #[(.int .i64 x7.1), (.int .i64 x7.2.1)]) ∧
      ifB (x7.1 != (0 : Int))
        (R (.bool false) w3)
        (ldI w3 ((blk w1.heap.size).add 0) .u32 fun x8 =>
        ldI w3 ((blk w1.heap.size).add 1) .u32 fun x9 =>
        ldS w3 ((blk w1.heap.size).add 2) fun x10 =>
        callR Try.prog 41 #[(.agg #[(.int .u32 x8), (.int .u32 x9), (.slice x10.a x10.l x10.c)])] w3 fun v11 w4 =>
        ∃ x12 : (Int × Int × Unit), v11 = (.agg #[(.int .i64 x12.1), (.int .i64 x12.2.1)]) ∧
        ifB (x12.1 != (0 : Int))
          (R (.bool false) w4)
          (ldI w4 (blk w.heap.size) .u32 fun x13 =>
          ldI w4 (blk w1.heap.size) .u32 fun x14 =>
          ifB (x13 != x14)
            (R (.bool false) w4)
            (ldS w4 ((blk w.heap.size).add 2) fun x15 =>
            ldS w4 ((blk w1.heap.size).add 2) fun x16 =>
            ifB ((x15.l : Int) != (x16.l : Int))
              (R (.bool false) w4)
              (m1 (()) w4)))))
    (fun s2 w5 =>
      Nw (w5.alloc (.map #[] 0)) fun w6 =>
      updW Try.prog 70 (.map (some w5.heap.size)) (.int .u32 (0 : Int)) (.int .u32 (0 : Int)) w6 fun w7 =>
      Nw (w7.alloc (.map #[] 0)) fun w8 =>
      updW Try.prog 70 (.map (some w7.heap.size)) (.int .u32 (0 : Int)) (.int .u32 (0 : Int)) w8 fun w9 =>
      Nw (w9.alloc (.cells #[(.map none), (.map none)] 72)) fun w10 =>
      Wr w10 (blk w9.heap.size) ∧
      Nw (w10.setCell (blk w9.heap.size) (.map (some w5.heap.size))) fun w11 =>
      Wr w11 ((blk w9.heap.size).add 1) ∧
      Nw (w11.setCell ((blk w9.heap.size).add 1) (.map (some w7.heap.size))) fun w12 =>
      ldS w12 ((blk w.heap.size).add 2) fun x17 =>
      LoopW (S := Int × Unit) (fun s18 w13 n19 =>
          ifB (decide (s18.1 < (x17.l : Int)))
            ((0 ≤ s18.1 ∧ s18.1 < (x17.l : Int)) ∧
            derefP x17.a fun a20 =>
            ldI w13 ((a20.add ((Int.toNat s18.1) * 4)).add 0) .u16 fun x21 =>
            ldI w13 ((a20.add ((Int.toNat s18.1) * 4)).add 1) .u32 fun x22 =>
            ldI w13 ((a20.add ((Int.toNat s18.1) * 4)).add 2) .u32 fun x23 =>
            ldS w13 ((a20.add ((Int.toNat s18.1) * 4)).add 3) fun x24 =>
            Nw (w13.alloc (.cells #[(.int .u16 (0 : Int)), (.int .u32 (0 : Int)), (.int .u32 (0 : Int)), (.slice none 0 0)] 26)) fun w14 =>
            Wr w14 (blk w13.heap.size) ∧
            Nw (w14.setCell (blk w13.heap.size) (.int .u16 x21)) fun w15 =>
            Wr w15 ((blk w13.heap.size).add 1) ∧
            Nw (w15.setCell ((blk w13.heap.size).add 1) (.int .u32 x22)) fun w16 =>
            Wr w16 ((blk w13.heap.size).add 2) ∧
            Nw (w16.setCell ((blk w13.heap.size).add 2) (.int .u32 x23)) fun w17 =>
            Wr w17 ((blk w13.heap.size).add 3) ∧
            Nw (w17.setCell ((blk w13.heap.size).add 3) (.slice x24.a x24.l x24.c)) fun w18 =>
            ldM w18.drew ((blk w9.heap.size).add 0) fun x25 =>
            ldM w18.drew ((blk w9.heap.size).add 1) fun x26 =>
            ldI w18.drew ((blk w13.heap.size).add 0) .u16 fun x27 =>
            ldI w18.drew ((blk w13.heap.size).add 1) .u32 fun x28 =>
            ldI w18.drew ((blk w13.heap.size).add 2) .u32 fun x29 =>
            ldS w18.drew ((blk w13.heap.size).add 3) fun x30 =>
            ldS w18.drew ((blk w1.heap.size).add 2) fun x31 =>
            (0 ≤ s18.1 ∧ s18.1 < (x31.l : Int)) ∧
            derefP x31.a fun a32 =>
            ldI w18.drew ((a32.add ((Int.toNat s18.1) * 4)).add 0) .u16 fun x33 =>
            ldI w18.drew ((a32.add ((Int.toNat s18.1) * 4)).add 1) .u32 fun x34 =>
            ldI w18.drew ((a32.add ((Int.toNat s18.1) * 4)).add 2) .u32 fun x35 =>
            ldS w18.drew ((a32.add ((Int.toNat s18.1) * 4)).add 3) fun x36 =>
            callR Try.prog 42 #[(.agg #[(.map x25), (.map x26)]), (.agg #[(.int .u16 x27), (.int .u32 x28), (.int .u32 x29), (.slice x30.a x30.l x30.c)]), (.agg #[(.int .u16 x33), (.int .u32 x34), (.int .u32 x35), (.slice x36.a x36.l x36.c)])] w18.drew fun v37 w19 =>
            ∃ x38 : Bool, v37 = (.bool x38) ∧
            ifB (!x38)
              (R (.bool false) w19)
              (n19 ((IntKind.i64.wrap (s18.1 + (1 : Int))), ()) w19))
            (R (.bool true) w13))
        ((0 : Int), ()) w12)
theorem ids_Alike_calls (p0 : (Int × Int × Sl × Unit)) (p1 : (Int × Int × Sl × Unit)) (R : Value → World → Prop) (w : World) (h : L_ids_Alike p0 p1 R w) : Calls Try.prog 16 #[(.agg #[(.int .u32 p0.1), (.int .u32 p0.2.1), (.slice p0.2.2.1.a p0.2.2.1.l p0.2.2.1.c)]), (.agg #[(.int .u32 p1.1), (.int .u32 p1.2.1), (.slice p1.2.2.1.a p1.2.2.1.l p1.2.2.1.c)])] w (Ret R) :=
  lw_calls (fs := Try.fs) (an := a_ids_Alike) (args := [(.agg #[(.int .u32 p0.1), (.int .u32 p0.2.1), (.slice p0.2.2.1.a p0.2.2.1.l p0.2.2.1.c)]), (.agg #[(.int .u32 p1.1), (.int .u32 p1.2.1), (.slice p1.2.2.1.a p1.2.2.1.l p1.2.2.1.c)])]) Try.fsOK Try.mixed Try.func16 (by kernel_rfl) (by kernel_rfl)
    (Eq.mpr (by kernel_rfl : lwFn Try.prog Try.fs Try.f16 a_ids_Alike [(.agg #[(.int .u32 p0.1), (.int .u32 p0.2.1), (.slice p0.2.2.1.a p0.2.2.1.l p0.2.2.1.c)]), (.agg #[(.int .u32 p1.1), (.int .u32 p1.2.1), (.slice p1.2.2.1.a p1.2.2.1.l p1.2.2.1.c)])] w R = L_ids_Alike p0 p1 R w) h)

/-- intaglio.intaglioref09.Alike -/
def a_intaglioref09_Alike : Ann := (.seq none .nil (.seq none .nil (.seq none .nil (.seq (some ⟨[2, 3], []⟩) (.seq none .nil (.cond (.seq none .nil .nil) .nil)) (.seq none (.seq none .nil (.one (.loop ⟨[2, 3], [(7, (.b (.int .i64)))]⟩ (.seq none (.seq none .nil (.cond .nil .nil)) (.seq none (.one (.seq none .nil (.seq none .nil (.seq (some ⟨[2, 3, 7, 8, 9], []⟩) (.seq none .nil (.cond (.seq none .nil .nil) .nil)) (.seq none .nil (.one (.loop ⟨[2, 3, 7, 8, 9], [(10, (.b (.int .i64)))]⟩ (.seq none (.seq none .nil (.cond .nil .nil)) (.seq (some ⟨[2, 3, 7, 8, 9, 10], []⟩) (.one (.seq none .nil (.cond (.seq none .nil .nil) .nil))) .nil))))))))) .nil))))) (.seq none .nil (.seq none .nil (.seq none (.seq none .nil (.cond (.seq none .nil .nil) .nil)) (.seq none .nil (.seq none .nil (.seq none (.seq none .nil (.one (.loop ⟨[11, 12, 13, 14], [(15, (.b (.int .i64)))]⟩ (.seq none (.seq none .nil (.cond .nil .nil)) (.seq (some ⟨[11, 12, 13, 14, 15], []⟩) (.one (.seq none (.seq none .nil (.cond (.seq none .nil .nil) .nil)) (.seq none .nil (.cond (.seq (some ⟨[11, 12, 13, 14, 15], []⟩) (.seq none .nil (.cond (.seq none .nil .nil) .nil)) (.seq (some ⟨[11, 12, 13, 14, 15], []⟩) (.seq none .nil (.cond (.seq none .nil .nil) .nil)) (.seq none .nil .nil))) .nil)))) .nil))))) (.seq none .nil .nil))))))))))))
def L_intaglioref09_Alike (p0 : (Int × Int × Sl × Unit)) (p1 : (Int × Int × Sl × Unit)) (R : Value → World → Prop) (w : World) : Prop :=
  Nw (w.alloc (.cells #[(.int .u32 p0.1), (.int .u32 p0.2.1), (.slice p0.2.2.1.a p0.2.2.1.l p0.2.2.1.c)] 37)) fun w1 =>
  Nw (w1.alloc (.cells #[(.int .u32 p1.1), (.int .u32 p1.2.1), (.slice p1.2.2.1.a p1.2.2.1.l p1.2.2.1.c)] 37)) fun w2 =>
  ldI w2 ((blk w.heap.size).add 0) .u32 fun x1 =>
  ldI w2 ((blk w.heap.size).add 1) .u32 fun x2 =>
  ldS w2 ((blk w.heap.size).add 2) fun x3 =>
  callR Try.prog 43 #[(.agg #[(.int .u32 x1), (.int .u32 x2), (.slice x3.a x3.l x3.c)])] w2 fun v4 w3 =>
  ∃ x5 : (Int × Int × Unit), v4 = (.agg #[(.int .i64 x5.1), (.int .i64 x5.2.1)]) ∧
  Nw (w3.alloc (.cells #[(.int .i64 (0 : Int)), (.int .i64 (0 : Int))] 43)) fun w4 =>
  Wr w4 (blk w3.heap.size) ∧
  Nw (w4.setCell (blk w3.heap.size) (.int .i64 x5.1)) fun w5 =>
  Wr w5 ((blk w3.heap.size).add 1) ∧
  Nw (w5.setCell ((blk w3.heap.size).add 1) (.int .i64 x5.2.1)) fun w6 =>
  ldI w6 ((blk w1.heap.size).add 0) .u32 fun x6 =>
  ldI w6 ((blk w1.heap.size).add 1) .u32 fun x7 =>
  ldS w6 ((blk w1.heap.size).add 2) fun x8 =>
  callR Try.prog 43 #[(.agg #[(.int .u32 x6), (.int .u32 x7), (.slice x8.a x8.l x8.c)])] w6 fun v9 w7 =>
  ∃ x10 : (Int × Int × Unit), v9 = (.agg #[(.int .i64 x10.1), (.int .i64 x10.2.1)]) ∧
  Nw (w7.alloc (.cells #[(.int .i64 (0 : Int)), (.int .i64 (0 : Int))] 43)) fun w8 =>
  Wr w8 (blk w7.heap.size) ∧
  Nw (w8.setCell (blk w7.heap.size) (.int .i64 x10.1)) fun w9 =>
  Wr w9 ((blk w7.heap.size).add 1) ∧
  Nw (w9.setCell ((blk w7.heap.size).add 1) (.int .i64 x10.2.1)) fun w10 =>
  JoinW (S := Unit) (fun m11 =>
      ldI w10 (blk w3.heap.size) .i64 fun x13 =>
      ifB (x13 != (0 : Int))
        (R (.bool false) w10)
        (ldI w10 (blk w7.heap.size) .i64 fun x14 =>
        ifB (x14 != (0 : Int))
          (R (.bool false) w10)
          (ldI w10 (blk w.heap.size) .u32 fun x15 =>
          ldI w10 (blk w1.heap.size) .u32 fun x16 =>
          ifB (x15 != x16)
            (R (.bool false) w10)
            (ldS w10 ((blk w.heap.size).add 2) fun x17 =>
            ldS w10 ((blk w1.heap.size).add 2) fun x18 =>
            ifB ((x17.l : Int) != (x18.l : Int))
              (R (.bool false) w10)
              (m11 (()) w10)))))
    (fun s12 w11 =>
      LoopW (S := Int × Unit) (fun s19 w12 n20 =>
          ldS w12 ((blk w.heap.size).add 2) fun x21 =>
          ifB (decide (s19.1 < (x21.l : Int)))
            (ldS w12 ((blk w.heap.size).add 2) fun x22 =>
            (0 ≤ s19.1 ∧ s19.1 < (x22.l : Int)) ∧
            derefP x22.a fun a23 =>
            ldI w12 ((a23.add ((Int.toNat s19.1) * 4)).add 0) .u16 fun x24 =>
            ldI w12 ((a23.add ((Int.toNat s19.1) * 4)).add 1) .u32 fun x25 =>
            ldI w12 ((a23.add ((Int.toNat s19.1) * 4)).add 2) .u32 fun x26 =>
            ldS w12 ((a23.add ((Int.toNat s19.1) * 4)).add 3) fun x27 =>
            Nw (w12.alloc (.cells #[(.int .u16 (0 : Int)), (.int .u32 (0 : Int)), (.int .u32 (0 : Int)), (.slice none 0 0)] 26)) fun w13 =>
            Wr w13 (blk w12.heap.size) ∧
            Nw (w13.setCell (blk w12.heap.size) (.int .u16 x24)) fun w14 =>
            Wr w14 ((blk w12.heap.size).add 1) ∧
            Nw (w14.setCell ((blk w12.heap.size).add 1) (.int .u32 x25)) fun w15 =>
            Wr w15 ((blk w12.heap.size).add 2) ∧
            Nw (w15.setCell ((blk w12.heap.size).add 2) (.int .u32 x26)) fun w16 =>
            Wr w16 ((blk w12.heap.size).add 3) ∧
            Nw (w16.setCell ((blk w12.heap.size).add 3) (.slice x27.a x27.l x27.c)) fun w17 =>
            ldS w17 ((blk w1.heap.size).add 2) fun x28 =>
            (0 ≤ s19.1 ∧ s19.1 < (x28.l : Int)) ∧
            derefP x28.a fun a29 =>
            ldI w17 ((a29.add ((Int.toNat s19.1) * 4)).add 0) .u16 fun x30 =>
            ldI w17 ((a29.add ((Int.toNat s19.1) * 4)).add 1) .u32 fun x31 =>
            ldI w17 ((a29.add ((Int.toNat s19.1) * 4)).add 2) .u32 fun x32 =>
            ldS w17 ((a29.add ((Int.toNat s19.1) * 4)).add 3) fun x33 =>
            Nw (w17.alloc (.cells #[(.int .u16 (0 : Int)), (.int .u32 (0 : Int)), (.int .u32 (0 : Int)), (.slice none 0 0)] 26)) fun w18 =>
            Wr w18 (blk w17.heap.size) ∧
            Nw (w18.setCell (blk w17.heap.size) (.int .u16 x30)) fun w19 =>
            Wr w19 ((blk w17.heap.size).add 1) ∧
            Nw (w19.setCell ((blk w17.heap.size).add 1) (.int .u32 x31)) fun w20 =>
            Wr w20 ((blk w17.heap.size).add 2) ∧
            Nw (w20.setCell ((blk w17.heap.size).add 2) (.int .u32 x32)) fun w21 =>
            Wr w21 ((blk w17.heap.size).add 3) ∧
            Nw (w21.setCell ((blk w17.heap.size).add 3) (.slice x33.a x33.l x33.c)) fun w22 =>
            JoinW (S := Unit) (fun m34 =>
                ldI w22 (blk w12.heap.size) .u16 fun x36 =>
                ldI w22 (blk w17.heap.size) .u16 fun x37 =>
                ifB (x36 != x37)
                  (R (.bool false) w22)
                  (ldS w22 ((blk w12.heap.size).add 3) fun x38 =>
                  ldS w22 ((blk w17.heap.size).add 3) fun x39 =>
                  ifB ((x38.l : Int) != (x39.l : Int))
                    (R (.bool false) w22)
                    (m34 (()) w22)))
              (fun s35 w23 =>
                LoopW (S := Int × Unit) (fun s40 w24 n41 =>
                    ldS w24 ((blk w12.heap.size).add 3) fun x42 =>
                    ifB (decide (s40.1 < (x42.l : Int)))
                      (JoinW (S := Unit) (fun m43 =>
                        ldS w24.drew ((blk w12.heap.size).add 3) fun x45 =>
                        (0 ≤ s40.1 ∧ s40.1 < (x45.l : Int)) ∧
                        derefP x45.a fun a46 =>
                        ldI w24.drew (a46.add ((Int.toNat s40.1) * 3)) .u8 fun x47 =>
                        ldS w24.drew ((blk w17.heap.size).add 3) fun x48 =>
                        (0 ≤ s40.1 ∧ s40.1 < (x48.l : Int)) ∧
                        derefP x48.a fun a49 =>
                        ldI w24.drew (a49.add ((Int.toNat s40.1) * 3)) .u8 fun x50 =>
                        ifB (x47 != x50)
                        (R (.bool false) w24.drew)
                        (ldS w24.drew ((blk w12.heap.size).add 3) fun x51 =>
                        (0 ≤ s40.1 ∧ s40.1 < (x51.l : Int)) ∧
                        derefP x51.a fun a52 =>
                        ldStr w24.drew ((a52.add ((Int.toNat s40.1) * 3)).add 2) fun x53 =>
                        ldS w24.drew ((blk w17.heap.size).add 3) fun x54 =>
                        (0 ≤ s40.1 ∧ s40.1 < (x54.l : Int)) ∧
                        derefP x54.a fun a55 =>
                        ldStr w24.drew ((a55.add ((Int.toNat s40.1) * 3)).add 2) fun x56 =>
                        ifB (!(x53.toList == x56.toList))
                        (R (.bool false) w24.drew)
                        (ldS w24.drew ((blk w12.heap.size).add 3) fun x57 =>
                        (0 ≤ s40.1 ∧ s40.1 < (x57.l : Int)) ∧
                        derefP x57.a fun a58 =>
                        ldI w24.drew (a58.add ((Int.toNat s40.1) * 3)) .u8 fun x59 =>
                        ifB (x59 != (1 : Int))
                        (ldS w24.drew ((blk w12.heap.size).add 3) fun x60 =>
                        (0 ≤ s40.1 ∧ s40.1 < (x60.l : Int)) ∧
                        derefP x60.a fun a61 =>
                        ldI w24.drew ((a61.add ((Int.toNat s40.1) * 3)).add 1) .u32 fun x62 =>
                        ldS w24.drew ((blk w17.heap.size).add 3) fun x63 =>
                        (0 ≤ s40.1 ∧ s40.1 < (x63.l : Int)) ∧
                        derefP x63.a fun a64 =>
                        ldI w24.drew ((a64.add ((Int.toNat s40.1) * 3)).add 1) .u32 fun x65 =>
                        ifB (x62 != x65)
                        (R (.bool false) w24.drew)
                        (m43 (()) w24.drew))
                        (m43 (()) w24.drew))))
                        (fun s44 w25 =>
                        n41 ((IntKind.i64.wrap (s40.1 + (1 : Int))), ()) w25))
                      (n20 ((IntKind.i64.wrap (s19.1 + (1 : Int))), ()) w24))
                  ((0 : Int), ()) w23))
            (ldI w12 ((blk w.heap.size).add 0) .u32 fun x66 =>
            ldI w12 ((blk w.heap.size).add 1) .u32 fun x67 =>
            ldS w12 ((blk w.heap.size).add 2) fun x68 =>
            callR Try.prog 44 #[(.agg #[(.int .u32 x66), (.int .u32 x67), (.slice x68.a x68.l x68.c)])] w12 fun v69 w26 =>
            ∃ x70 : Sl, v69 = (.slice x70.a x70.l x70.c) ∧
            ldI w26 ((blk w1.heap.size).add 0) .u32 fun x71 =>
            ldI w26 ((blk w1.heap.size).add 1) .u32 fun x72 =>
            ldS w26 ((blk w1.heap.size).add 2) fun x73 =>
            callR Try.prog 44 #[(.agg #[(.int .u32 x71), (.int .u32 x72), (.slice x73.a x73.l x73.c)])] w26 fun v74 w27 =>
            ∃ x75 : Sl, v74 = (.slice x75.a x75.l x75.c) ∧
            ifB ((x70.l : Int) != (x75.l : Int))
              (R (.bool false) w27)
              ((0 ≤ (65536 : Int) ∧ (65536 : Int) ≤ (65536 : Int) ∧ (4 : Int) * (65536 : Int) ≤ 281474976710656 ∧ (65536 : Int) ≤ 9223372036854775807) ∧
              Nw (w27.alloc (.cells (madeCells #[(.int .u32 (0 : Int))] (65536 * 1)) 23)) fun w28 =>
              (0 ≤ (65536 : Int) ∧ (65536 : Int) ≤ (65536 : Int) ∧ (4 : Int) * (65536 : Int) ≤ 281474976710656 ∧ (65536 : Int) ≤ 9223372036854775807) ∧
              Nw (w28.alloc (.cells (madeCells #[(.int .u32 (0 : Int))] (65536 * 1)) 23)) fun w29 =>
              LoopW (S := Int × Unit) (fun s76 w30 n77 =>
                  ifB (decide (s76.1 < (x70.l : Int)))
                    (JoinW (S := Unit) (fun m78 =>
                        (0 ≤ s76.1 ∧ s76.1 < (x70.l : Int)) ∧
                        derefP x70.a fun a80 =>
                        ldI w30.drew (a80.add (Int.toNat s76.1)) .u32 fun x81 =>
                        (0 ≤ s76.1 ∧ s76.1 < (x75.l : Int)) ∧
                        derefP x75.a fun a82 =>
                        ldI w30.drew (a82.add (Int.toNat s76.1)) .u32 fun x83 =>
                        ifB (!((x81 == (0 : Int)) == (x83 == (0 : Int))))
                        (R (.bool false) w30.drew)
                        ((0 ≤ s76.1 ∧ s76.1 < (x70.l : Int)) ∧
                        derefP x70.a fun a84 =>
                        ldI w30.drew (a84.add (Int.toNat s76.1)) .u32 fun x85 =>
                        ifB (x85 != (0 : Int))
                        (JoinW (S := Unit) (fun m86 =>
                        (0 ≤ s76.1 ∧ s76.1 < (x70.l : Int)) ∧
                        derefP x70.a fun a88 =>
                        ldI w30.drew.drew (a88.add (Int.toNat s76.1)) .u32 fun x89 =>
                        (0 ≤ x89 ∧ x89 < (65536 : Int)) ∧
                        ldI w30.drew.drew ((blk w27.heap.size).add (Int.toNat x89)) .u32 fun x90 =>
                        ifB (x90 != (0 : Int))
                        ((0 ≤ s76.1 ∧ s76.1 < (x70.l : Int)) ∧
                        derefP x70.a fun a91 =>
                        ldI w30.drew.drew (a91.add (Int.toNat s76.1)) .u32 fun x92 =>
                        (0 ≤ x92 ∧ x92 < (65536 : Int)) ∧
                        ldI w30.drew.drew ((blk w27.heap.size).add (Int.toNat x92)) .u32 fun x93 =>
                        (0 ≤ s76.1 ∧ s76.1 < (x75.l : Int)) ∧
                        derefP x75.a fun a94 =>
                        ldI w30.drew.drew (a94.add (Int.toNat s76.1)) .u32 fun x95 =>
                        ifB (x93 != x95)
                        (R (.bool false) w30.drew.drew)
                        (m86 (()) w30.drew.drew))
                        (m86 (()) w30.drew.drew))
                        (fun s87 w31 =>
                        JoinW (S := Unit) (fun m96 =>
                        (0 ≤ s76.1 ∧ s76.1 < (x75.l : Int)) ∧
                        derefP x75.a fun a98 =>
                        ldI w31.drew (a98.add (Int.toNat s76.1)) .u32 fun x99 =>
                        (0 ≤ x99 ∧ x99 < (65536 : Int)) ∧
                        ldI w31.drew ((blk w28.heap.size).add (Int.toNat x99)) .u32 fun x100 =>
                        ifB (x100 != (0 : Int))
                        ((0 ≤ s76.1 ∧ s76.1 < (x75.l : Int)) ∧
                        derefP x75.a fun a101 =>
                        ldI w31.drew (a101.add (Int.toNat s76.1)) .u32 fun x102 =>
                        (0 ≤ x102 ∧ x102 < (65536 : Int)) ∧
                        ldI w31.drew ((blk w28.heap.size).add (Int.toNat x102)) .u32 fun x103 =>
                        (0 ≤ s76.1 ∧ s76.1 < (x70.l : Int)) ∧
                        derefP x70.a fun a104 =>
                        ldI w31.drew (a104.add (Int.toNat s76.1)) .u32 fun x105 =>
                        ifB (x103 != x105)
                        (R (.bool false) w31.drew)
                        (m96 (()) w31.drew))
                        (m96 (()) w31.drew))
                        (fun s97 w32 =>
                        (0 ≤ s76.1 ∧ s76.1 < (x70.l : Int)) ∧
                        derefP x70.a fun a106 =>
                        ldI w32.drew (a106.add (Int.toNat s76.1)) .u32 fun x107 =>
                        (0 ≤ s76.1 ∧ s76.1 < (x75.l : Int)) ∧
                        derefP x75.a fun a108 =>
                        ldI w32.drew (a108.add (Int.toNat s76.1)) .u32 fun x109 =>
                        (0 ≤ x107 ∧ x107 < (65536 : Int)) ∧
                        Wr w32.drew ((blk w27.heap.size).add (Int.toNat x107)) ∧
                        Nw (w32.drew.setCell ((blk w27.heap.size).add (Int.toNat x107)) (.int .u32 x109)) fun w33 =>
                        (0 ≤ s76.1 ∧ s76.1 < (x75.l : Int)) ∧
                        derefP x75.a fun a110 =>
                        ldI w33.drew (a110.add (Int.toNat s76.1)) .u32 fun x111 =>
                        (0 ≤ s76.1 ∧ s76.1 < (x70.l : Int)) ∧
                        derefP x70.a fun a112 =>
                        ldI w33.drew (a112.add (Int.toNat s76.1)) .u32 fun x113 =>
                        (0 ≤ x111 ∧ x111 < (65536 : Int)) ∧
                        Wr w33.drew ((blk w28.heap.size).add (Int.toNat x111)) ∧
                        Nw (w33.drew.setCell ((blk w28.heap.size).add (Int.toNat x111)) (.int .u32 x113)) fun w34 =>
                        m78 (()) w34)))
                        (m78 (()) w30.drew)))
                      (fun s79 w35 =>
                        n77 ((IntKind.i64.wrap (s76.1 + (1 : Int))), ()) w35))
                    (R (.bool true) w30))
                ((0 : Int), ()) w29)))
        ((0 : Int), ()) w11)
theorem intaglioref09_Alike_calls (p0 : (Int × Int × Sl × Unit)) (p1 : (Int × Int × Sl × Unit)) (R : Value → World → Prop) (w : World) (h : L_intaglioref09_Alike p0 p1 R w) : Calls Try.prog 18 #[(.agg #[(.int .u32 p0.1), (.int .u32 p0.2.1), (.slice p0.2.2.1.a p0.2.2.1.l p0.2.2.1.c)]), (.agg #[(.int .u32 p1.1), (.int .u32 p1.2.1), (.slice p1.2.2.1.a p1.2.2.1.l p1.2.2.1.c)])] w (Ret R) :=
  lw_calls (fs := Try.fs) (an := a_intaglioref09_Alike) (args := [(.agg #[(.int .u32 p0.1), (.int .u32 p0.2.1), (.slice p0.2.2.1.a p0.2.2.1.l p0.2.2.1.c)]), (.agg #[(.int .u32 p1.1), (.int .u32 p1.2.1), (.slice p1.2.2.1.a p1.2.2.1.l p1.2.2.1.c)])]) Try.fsOK Try.mixed Try.func18 (by kernel_rfl) (by kernel_rfl)
    (Eq.mpr (by kernel_rfl : lwFn Try.prog Try.fs Try.f18 a_intaglioref09_Alike [(.agg #[(.int .u32 p0.1), (.int .u32 p0.2.1), (.slice p0.2.2.1.a p0.2.2.1.l p0.2.2.1.c)]), (.agg #[(.int .u32 p1.1), (.int .u32 p1.2.1), (.slice p1.2.2.1.a p1.2.2.1.l p1.2.2.1.c)])] w R = L_intaglioref09_Alike p0 p1 R w) h)

/-- (intaglio.ids.pairs).inst -/
def a_ids_pairs_inst : Ann := (.seq none .nil (.seq (some ⟨[3, 4, 5], []⟩) (.seq none .nil (.cond (.seq none .nil .nil) .nil)) (.seq none (.seq none .nil (.one (.loop ⟨[3, 5, 43, 44], [(45, (.b (.int .i64)))]⟩ (.seq none .nil (.seq none (.cond .nil .nil) (.seq (some ⟨[3, 5, 43, 44, 45], []⟩) (.one (.seq none .nil (.seq none .nil (.seq (some ⟨[3, 5, 8, 9, 43, 44, 45], []⟩) (.seq none .nil (.cond (.seq none (.seq none .nil (.cond (.seq none .nil .nil) .nil)) .nil) .nil)) (.seq none .nil (.cond (.seq none .nil .nil) .nil)))))) .nil)))))) (.seq none .nil .nil))))
def L_ids_pairs_inst (p0 : ((Option Nat) × (Option Nat) × Unit)) (p1 : (Int × Int × Int × Sl × Unit)) (p2 : (Int × Int × Int × Sl × Unit)) (R : Value → World → Prop) (w : World) : Prop :=
  Nw (w.alloc (.cells #[(.map p0.1), (.map p0.2.1)] 72)) fun w1 =>
  Nw (w1.alloc (.cells #[(.int .u16 p1.1), (.int .u32 p1.2.1), (.int .u32 p1.2.2.1), (.slice p1.2.2.2.1.a p1.2.2.2.1.l p1.2.2.2.1.c)] 26)) fun w2 =>
  Nw (w2.alloc (.cells #[(.int .u16 p2.1), (.int .u32 p2.2.1), (.int .u32 p2.2.2.1), (.slice p2.2.2.2.1.a p2.2.2.2.1.l p2.2.2.2.1.c)] 26)) fun w3 =>
  JoinW (S := Unit) (fun m1 =>
      ldI w3 (blk w1.heap.size) .u16 fun x3 =>
      ldI w3 (blk w2.heap.size) .u16 fun x4 =>
      ifB (x3 != x4)
        (R (.bool false) w3)
        (ldS w3 ((blk w1.heap.size).add 3) fun x5 =>
        ldS w3 ((blk w2.heap.size).add 3) fun x6 =>
        ifB ((x5.l : Int) != (x6.l : Int))
          (R (.bool false) w3)
          (ldM w3 ((blk w.heap.size).add 0) fun x7 =>
          ldM w3 ((blk w.heap.size).add 1) fun x8 =>
          ldI w3 ((blk w1.heap.size).add 1) .u32 fun x9 =>
          ldI w3 ((blk w2.heap.size).add 1) .u32 fun x10 =>
          callR Try.prog 69 #[(.agg #[(.map x7), (.map x8)]), (.int .u32 x9), (.int .u32 x10)] w3 fun v11 w4 =>
          ∃ x12 : Bool, v11 = (.bool x12) ∧
          ifB (!x12)
            (R (.bool false) w4)
            (ldM w4 ((blk w.heap.size).add 0) fun x13 =>
            ldM w4 ((blk w.heap.size).add 1) fun x14 =>
            ldI w4 ((blk w1.heap.size).add 2) .u32 fun x15 =>
            ldI w4 ((blk w2.heap.size).add 2) .u32 fun x16 =>
            callR Try.prog 69 #[(.agg #[(.map x13), (.map x14)]), (.int .u32 x15), (.int .u32 x16)] w4 fun v17 w5 =>
            ∃ x18 : Bool, v17 = (.bool x18) ∧
            ifB (!x18)
              (R (.bool false) w5)
              (m1 (()) w5)))))
    (fun s2 w6 =>
      ldS w6 ((blk w1.heap.size).add 3) fun x19 =>
      LoopW (S := Int × Unit) (fun s20 w7 n21 =>
          ifB (decide (s20.1 < (x19.l : Int)))
            (JoinW (S := Unit) (fun m22 =>
                (0 ≤ s20.1 ∧ s20.1 < (x19.l : Int)) ∧
                derefP x19.a fun a24 =>
                ldI w7 ((a24.add ((Int.toNat s20.1) * 3)).add 0) .u8 fun x25 =>
                ldI w7 ((a24.add ((Int.toNat s20.1) * 3)).add 1) .u32 fun x26 =>
                ldStr w7 ((a24.add ((Int.toNat s20.1) * 3)).add 2) fun x27 =>
                Nw (w7.alloc (.cells #[(.int .u8 (0 : Int)), (.int .u32 (0 : Int)), (.string (ByteArray.mk #[]))] 57)) fun w8 =>
                Wr w8 (blk w7.heap.size) ∧
                Nw (w8.setCell (blk w7.heap.size) (.int .u8 x25)) fun w9 =>
                Wr w9 ((blk w7.heap.size).add 1) ∧
                Nw (w9.setCell ((blk w7.heap.size).add 1) (.int .u32 x26)) fun w10 =>
                Wr w10 ((blk w7.heap.size).add 2) ∧
                Nw (w10.setCell ((blk w7.heap.size).add 2) (.string x27)) fun w11 =>
                ldS w11 ((blk w2.heap.size).add 3) fun x28 =>
                (0 ≤ s20.1 ∧ s20.1 < (x28.l : Int)) ∧
                derefP x28.a fun a29 =>
                ldI w11 ((a29.add ((Int.toNat s20.1) * 3)).add 0) .u8 fun x30 =>
                ldI w11 ((a29.add ((Int.toNat s20.1) * 3)).add 1) .u32 fun x31 =>
                ldStr w11 ((a29.add ((Int.toNat s20.1) * 3)).add 2) fun x32 =>
                Nw (w11.alloc (.cells #[(.int .u8 (0 : Int)), (.int .u32 (0 : Int)), (.string (ByteArray.mk #[]))] 57)) fun w12 =>
                Wr w12 (blk w11.heap.size) ∧
                Nw (w12.setCell (blk w11.heap.size) (.int .u8 x30)) fun w13 =>
                Wr w13 ((blk w11.heap.size).add 1) ∧
                Nw (w13.setCell ((blk w11.heap.size).add 1) (.int .u32 x31)) fun w14 =>
                Wr w14 ((blk w11.heap.size).add 2) ∧
                Nw (w14.setCell ((blk w11.heap.size).add 2) (.string x32)) fun w15 =>
                JoinW (S := Unit) (fun m33 =>
                    ldI w15 (blk w7.heap.size) .u8 fun x35 =>
                    ifB (x35 == (1 : Int))
                      (ldI w15 (blk w11.heap.size) .u8 fun x36 =>
                      ifB (x36 == (1 : Int))
                        (ldM w15 ((blk w.heap.size).add 0) fun x37 =>
                        ldM w15 ((blk w.heap.size).add 1) fun x38 =>
                        ldI w15 ((blk w7.heap.size).add 1) .u32 fun x39 =>
                        ldI w15 ((blk w11.heap.size).add 1) .u32 fun x40 =>
                        callR Try.prog 69 #[(.agg #[(.map x37), (.map x38)]), (.int .u32 x39), (.int .u32 x40)] w15 fun v41 w16 =>
                        ∃ x42 : Bool, v41 = (.bool x42) ∧
                        ifB (!x42)
                        (R (.bool false) w16)
                        (m22 (()) w16))
                        (m33 (()) w15))
                      (m33 (()) w15))
                  (fun s34 w17 =>
                    ldI w17 ((blk w7.heap.size).add 0) .u8 fun x43 =>
                    ldI w17 ((blk w7.heap.size).add 1) .u32 fun x44 =>
                    ldStr w17 ((blk w7.heap.size).add 2) fun x45 =>
                    ldI w17 ((blk w11.heap.size).add 0) .u8 fun x46 =>
                    ldI w17 ((blk w11.heap.size).add 1) .u32 fun x47 =>
                    ldStr w17 ((blk w11.heap.size).add 2) fun x48 =>
                    ifB (!(x43 == x46 && (x44 == x47 && (x45 == x48 && true))))
                      (R (.bool false) w17)
                      (m22 (()) w17)))
              (fun s23 w18 =>
                n21 ((IntKind.i64.wrap (s20.1 + (1 : Int))), ()) w18))
            (R (.bool true) w7))
        ((0 : Int), ()) w6)
theorem ids_pairs_inst_calls (p0 : ((Option Nat) × (Option Nat) × Unit)) (p1 : (Int × Int × Int × Sl × Unit)) (p2 : (Int × Int × Int × Sl × Unit)) (R : Value → World → Prop) (w : World) (h : L_ids_pairs_inst p0 p1 p2 R w) : Calls Try.prog 42 #[(.agg #[(.map p0.1), (.map p0.2.1)]), (.agg #[(.int .u16 p1.1), (.int .u32 p1.2.1), (.int .u32 p1.2.2.1), (.slice p1.2.2.2.1.a p1.2.2.2.1.l p1.2.2.2.1.c)]), (.agg #[(.int .u16 p2.1), (.int .u32 p2.2.1), (.int .u32 p2.2.2.1), (.slice p2.2.2.2.1.a p2.2.2.2.1.l p2.2.2.2.1.c)])] w (Ret R) :=
  lw_calls (fs := Try.fs) (an := a_ids_pairs_inst) (args := [(.agg #[(.map p0.1), (.map p0.2.1)]), (.agg #[(.int .u16 p1.1), (.int .u32 p1.2.1), (.int .u32 p1.2.2.1), (.slice p1.2.2.2.1.a p1.2.2.2.1.l p1.2.2.2.1.c)]), (.agg #[(.int .u16 p2.1), (.int .u32 p2.2.1), (.int .u32 p2.2.2.1), (.slice p2.2.2.2.1.a p2.2.2.2.1.l p2.2.2.2.1.c)])]) Try.fsOK Try.mixed Try.func42 (by kernel_rfl) (by kernel_rfl)
    (Eq.mpr (by kernel_rfl : lwFn Try.prog Try.fs Try.f42 a_ids_pairs_inst [(.agg #[(.map p0.1), (.map p0.2.1)]), (.agg #[(.int .u16 p1.1), (.int .u32 p1.2.1), (.int .u32 p1.2.2.1), (.slice p1.2.2.2.1.a p1.2.2.2.1.l p1.2.2.2.1.c)]), (.agg #[(.int .u16 p2.1), (.int .u32 p2.2.1), (.int .u32 p2.2.2.1), (.slice p2.2.2.2.1.a p2.2.2.2.1.l p2.2.2.2.1.c)])] w R = L_ids_pairs_inst p0 p1 p2 R w) h)

/-- intaglio.intaglioref09.all -/
def a_intaglioref09_all : Ann := (.seq none .nil (.seq none .nil (.seq none (.seq none .nil (.one (.loop ⟨[1], [(3, (.b .slice)), (4, (.b (.int .i64)))]⟩ (.seq none (.seq none .nil (.cond .nil .nil)) (.seq none (.one (.seq none .nil (.seq none .nil (.seq none .nil (.one (.loop ⟨[1, 4, 5], [(3, (.b .slice)), (6, (.b (.int .i64)))]⟩ (.seq none (.seq none .nil (.cond .nil .nil)) (.seq (some ⟨[1, 4, 5, 6], [(3, (.b .slice))]⟩) (.one (.seq none .nil (.cond .nil .nil))) .nil)))))))) .nil))))) (.seq none .nil .nil))))
def L_intaglioref09_all (p0 : (Int × Int × Sl × Unit)) (R : Value → World → Prop) (w : World) : Prop :=
  Nw (w.alloc (.cells #[(.int .u32 p0.1), (.int .u32 p0.2.1), (.slice p0.2.2.1.a p0.2.2.1.l p0.2.2.1.c)] 37)) fun w1 =>
  LoopW (S := Sl × Int × Unit) (fun s1 w2 n2 =>
      ldS w2 ((blk w.heap.size).add 2) fun x3 =>
      ifB (decide (s1.2.1 < (x3.l : Int)))
        (ldS w2 ((blk w.heap.size).add 2) fun x4 =>
        (0 ≤ s1.2.1 ∧ s1.2.1 < (x4.l : Int)) ∧
        derefP x4.a fun a5 =>
        ldI w2 ((a5.add ((Int.toNat s1.2.1) * 4)).add 0) .u16 fun x6 =>
        ldI w2 ((a5.add ((Int.toNat s1.2.1) * 4)).add 1) .u32 fun x7 =>
        ldI w2 ((a5.add ((Int.toNat s1.2.1) * 4)).add 2) .u32 fun x8 =>
        ldS w2 ((a5.add ((Int.toNat s1.2.1) * 4)).add 3) fun x9 =>
        Nw (w2.alloc (.cells #[(.int .u16 (0 : Int)), (.int .u32 (0 : Int)), (.int .u32 (0 : Int)), (.slice none 0 0)] 26)) fun w3 =>
        Wr w3 (blk w2.heap.size) ∧
        Nw (w3.setCell (blk w2.heap.size) (.int .u16 x6)) fun w4 =>
        Wr w4 ((blk w2.heap.size).add 1) ∧
        Nw (w4.setCell ((blk w2.heap.size).add 1) (.int .u32 x7)) fun w5 =>
        Wr w5 ((blk w2.heap.size).add 2) ∧
        Nw (w5.setCell ((blk w2.heap.size).add 2) (.int .u32 x8)) fun w6 =>
        Wr w6 ((blk w2.heap.size).add 3) ∧
        Nw (w6.setCell ((blk w2.heap.size).add 3) (.slice x9.a x9.l x9.c)) fun w7 =>
        ldI w7 ((blk w2.heap.size).add 1) .u32 fun x10 =>
        ldI w7 ((blk w2.heap.size).add 2) .u32 fun x11 =>
        Nw (w7.alloc (.cells #[(.int .u32 x10), (.int .u32 x11)] 23)) fun w8 =>
        appendS Try.prog 28 (.slice s1.1.a s1.1.l s1.1.c) (.slice (some (blk w7.heap.size)) 2 2) w8 fun r12 w9 =>
        LoopW (S := Sl × Int × Unit) (fun s13 w10 n14 =>
            ldS w10 ((blk w2.heap.size).add 3) fun x15 =>
            ifB (decide (s13.2.1 < (x15.l : Int)))
              (JoinW (S := Sl × Unit) (fun m16 =>
                  ldS w10 ((blk w2.heap.size).add 3) fun x18 =>
                  (0 ≤ s13.2.1 ∧ s13.2.1 < (x18.l : Int)) ∧
                  derefP x18.a fun a19 =>
                  ldI w10 (a19.add ((Int.toNat s13.2.1) * 3)) .u8 fun x20 =>
                  ifB (x20 == (1 : Int))
                    (ldS w10 ((blk w2.heap.size).add 3) fun x21 =>
                    (0 ≤ s13.2.1 ∧ s13.2.1 < (x21.l : Int)) ∧
                    derefP x21.a fun a22 =>
                    ldI w10 ((a22.add ((Int.toNat s13.2.1) * 3)).add 1) .u32 fun x23 =>
                    Nw (w10.alloc (.cells #[(.int .u32 x23)] 23)) fun w11 =>
                    appendS Try.prog 28 (.slice s13.1.a s13.1.l s13.1.c) (.slice (some (blk w10.heap.size)) 1 1) w11 fun r24 w12 =>
                    m16 (r24, ()) w12)
                    (m16 (s13.1, ()) w10))
                (fun s17 w13 =>
                  n14 (s17.1, (IntKind.i64.wrap (s13.2.1 + (1 : Int))), ()) w13))
              (n2 (s13.1, (IntKind.i64.wrap (s1.2.1 + (1 : Int))), ()) w10))
          (r12, (0 : Int), ()) w9)
        (R (.slice s1.1.a s1.1.l s1.1.c) w2))
    ((Sl.mk none 0 0), (0 : Int), ()) w1
theorem intaglioref09_all_calls (p0 : (Int × Int × Sl × Unit)) (R : Value → World → Prop) (w : World) (h : L_intaglioref09_all p0 R w) : Calls Try.prog 44 #[(.agg #[(.int .u32 p0.1), (.int .u32 p0.2.1), (.slice p0.2.2.1.a p0.2.2.1.l p0.2.2.1.c)])] w (Ret R) :=
  lw_calls (fs := Try.fs) (an := a_intaglioref09_all) (args := [(.agg #[(.int .u32 p0.1), (.int .u32 p0.2.1), (.slice p0.2.2.1.a p0.2.2.1.l p0.2.2.1.c)])]) Try.fsOK Try.mixed Try.func44 (by kernel_rfl) (by kernel_rfl)
    (Eq.mpr (by kernel_rfl : lwFn Try.prog Try.fs Try.f44 a_intaglioref09_all [(.agg #[(.int .u32 p0.1), (.int .u32 p0.2.1), (.slice p0.2.2.1.a p0.2.2.1.l p0.2.2.1.c)])] w R = L_intaglioref09_all p0 R w) h)

/-- (intaglio.ids.pairs).pair -/
def a_ids_pairs_pair : Ann := (.seq none .nil (.seq none .nil (.seq none .nil (.seq (some ⟨[1, 2, 3], []⟩) (.seq none .nil (.cond (.seq none .nil .nil) .nil)) (.seq none .nil (.seq none .nil .nil))))))
def L_ids_pairs_pair (p0 : ((Option Nat) × (Option Nat) × Unit)) (p1 : Int) (p2 : Int) (R : Value → World → Prop) (w : World) : Prop :=
  Nw (w.alloc (.cells #[(.map p0.1), (.map p0.2.1)] 72)) fun w1 =>
  ldM w1 (blk w.heap.size) fun x1 =>
  lookOk Try.prog 70 (.map x1) (.int .u32 p1) (BK.int .u32) w1 fun (x2 : Int) (b3 : Bool) =>
  ldM w1 ((blk w.heap.size).add 1) fun x4 =>
  lookOk Try.prog 70 (.map x4) (.int .u32 p2) (BK.int .u32) w1 fun (x5 : Int) (b6 : Bool) =>
  JoinW (S := Unit) (fun m7 =>
      ifB b3
        (ifB b3
          (ifB b6
            (ifB (x2 == p2)
              (R (.bool (x5 == p1)) w1)
              (R (.bool false) w1))
            (R (.bool false) w1))
          (R (.bool false) w1))
        (ifB b6
          (ifB b3
            (ifB b6
              (ifB (x2 == p2)
                (R (.bool (x5 == p1)) w1)
                (R (.bool false) w1))
              (R (.bool false) w1))
            (R (.bool false) w1))
          (m7 (()) w1)))
    (fun s8 w2 =>
      ldM w2.drew (blk w.heap.size) fun x9 =>
      ldM w2.drew ((blk w.heap.size).add 1) fun x10 =>
      updW Try.prog 70 (.map x9) (.int .u32 p1) (.int .u32 p2) w2.drew fun w3 =>
      w3.cell? ((blk w.heap.size).add 1) = some (.map x10) ∧
      updW Try.prog 70 (.map x10) (.int .u32 p2) (.int .u32 p1) w3 fun w4 =>
      R (.bool true) w4)
theorem ids_pairs_pair_calls (p0 : ((Option Nat) × (Option Nat) × Unit)) (p1 : Int) (p2 : Int) (R : Value → World → Prop) (w : World) (h : L_ids_pairs_pair p0 p1 p2 R w) : Calls Try.prog 69 #[(.agg #[(.map p0.1), (.map p0.2.1)]), (.int .u32 p1), (.int .u32 p2)] w (Ret R) :=
  lw_calls (fs := Try.fs) (an := a_ids_pairs_pair) (args := [(.agg #[(.map p0.1), (.map p0.2.1)]), (.int .u32 p1), (.int .u32 p2)]) Try.fsOK Try.mixed Try.func69 (by kernel_rfl) (by kernel_rfl)
    (Eq.mpr (by kernel_rfl : lwFn Try.prog Try.fs Try.f69 a_ids_pairs_pair [(.agg #[(.map p0.1), (.map p0.2.1)]), (.int .u32 p1), (.int .u32 p2)] w R = L_ids_pairs_pair p0 p1 p2 R w) h)

end Go.Proofs
