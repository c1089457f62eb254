/-
  Printed by a program of the author: what each function comes to.
-/
import Derived.Test.YtjplhoollkeihaaProg
import Derived.Test.YtjplhoollkeihaaGkR
import Derived.Test.YtjplhoollkeihaaLb
namespace Go.Proofs
open Go.Gk
set_option linter.unusedVariables false
set_option maxRecDepth 100000

/-- intaglio.intagliolaw17.CallsNil -/
def a_intagliolaw17_CallsNil : Ann := (.seq none .nil (.seq none .nil (.seq none .nil .nil)))
def L_intagliolaw17_CallsNil (p0 : Int) (R : Value → World → Prop) (w : World) : Prop :=
  callR Try.prog 59 #[(.pointer none)] w fun v1 w1 =>
  ∃ x2 : Int, v1 = (.int .i64 x2) ∧
  ifB (x2 == (0 : Int))
    (callR Try.prog 60 #[(.pointer none), (.int .i64 p0)] w1 fun v3 w2 =>
    ∃ x4 : Sl, v3 = (.slice x4.a x4.l x4.c) ∧
    ifB ((x4.l : Int) == (0 : Int))
      (callR Try.prog 61 #[(.pointer none), (.int .i64 p0)] w2 fun v5 w3 =>
      ∃ x6 : Sl, v5 = (.slice x6.a x6.l x6.c) ∧
      ifB ((x6.l : Int) == (0 : Int))
        (callR Try.prog 62 #[(.pointer none)] w3 fun v7 w4 =>
        ∃ x8 : Sl, v7 = (.slice x8.a x8.l x8.c) ∧
        ifB ((x8.l : Int) == (0 : Int))
          (callR Try.prog 63 #[(.pointer none), (.int .i64 p0)] w4 fun v9 w5 =>
          ∃ x10 : Int, v9 = (.int .i64 x10) ∧
          ifB (x10 == (-1 : Int))
            (callR Try.prog 64 #[(.pointer none), (.int .i64 p0)] w5 fun v11 w6 =>
            ∃ x12 : Sl, v11 = (.slice x12.a x12.l x12.c) ∧
            R (.bool ((x12.l : Int) == (0 : Int))) w6)
            (R (.bool false) w5))
          (R (.bool false) w4))
        (R (.bool false) w3))
      (R (.bool false) w2))
    (R (.bool false) w1)
theorem intagliolaw17_CallsNil_calls (p0 : Int) (R : Value → World → Prop) (w : World) (h : L_intagliolaw17_CallsNil p0 R w) : Calls Try.prog 13 #[(.int .i64 p0)] w (Ret R) :=
  lw_calls (fs := Try.fs) (an := a_intagliolaw17_CallsNil) (args := [(.int .i64 p0)]) Try.fsOK Try.mixed Try.func13 (by kernel_rfl) (by kernel_rfl)
    (Eq.mpr (by kernel_rfl : lwFn Try.prog Try.fs Try.f13 a_intagliolaw17_CallsNil [(.int .i64 p0)] w R = L_intagliolaw17_CallsNil p0 R w) h)

/-- intaglio.intagliolaw17.CallsOf -/
def a_intagliolaw17_CallsOf : Ann := (.seq none .nil (.seq none .nil (.seq none .nil (.seq none .nil (.seq (some ⟨[0, 1, 5, 6, 8], []⟩) (.seq none .nil (.cond (.seq none .nil .nil) .nil)) (.seq none (.seq none .nil (.one (.loop ⟨[0, 1, 5, 6, 8], [(9, (.b (.int .i64)))]⟩ (.seq none (.seq none .nil (.cond .nil .nil)) (.seq none (.one .nil) .nil))))) (.seq none .nil .nil)))))))
def L_intagliolaw17_CallsOf (p0 : Sl) (p1 : Int) (R : Value → World → Prop) (w : World) : Prop :=
  callR Try.prog 88 #[(.slice p0.a p0.l p0.c)] w fun v1 w1 =>
  ∃ x2 : Sl, v1 = (.slice x2.a x2.l x2.c) ∧
  callR Try.prog 89 #[(.slice x2.a x2.l x2.c)] w1 fun v3 w2 =>
  ∃ x4 : Option Addr, ∃ x5 : Int, v3 = (.tuple #[(.pointer x4), (.int .i64 x5)]) ∧
  callR Try.prog 90 #[(.slice p0.a p0.l p0.c)] w2 fun v6 w3 =>
  ∃ x7 : Int, v6 = (.int .i64 x7) ∧
  JoinW (S := Unit) (fun m8 =>
      ifB (x5 != x7)
        (R (.bool false) w3)
        (ifB (!((!(Option.isNone x4)) == (x7 == (0 : Int))))
          (R (.bool false) w3)
          (m8 (()) w3)))
    (fun s9 w4 =>
      LoopW (S := Int × Unit) (fun s10 w5 n11 =>
          ifB (decide (s10.1 < (x2.l : Int)))
            ((0 ≤ s10.1 ∧ s10.1 < (x2.l : Int)) ∧
            derefP x2.a fun a12 =>
            ldS w5 (a12.add (Int.toNat s10.1)) fun x13 =>
            callR Try.prog 30 #[(.slice x13.a x13.l x13.c)] w5 fun v14 w6 =>
            v14 = (.tuple #[]) ∧
            n11 ((IntKind.i64.wrap (s10.1 + (1 : Int))), ()) w6)
            (ifB (x7 != (0 : Int))
              (R (.bool true) w5)
              (callR Try.prog 91 #[(.pointer x4), (.slice p0.a p0.l p0.c), (.int .i64 p1)] w5 fun v15 w7 =>
              ∃ x16 : Bool, v15 = (.bool x16) ∧
              R (.bool x16) w7)))
        ((0 : Int), ()) w4)
theorem intagliolaw17_CallsOf_calls (p0 : Sl) (p1 : Int) (R : Value → World → Prop) (w : World) (h : L_intagliolaw17_CallsOf p0 p1 R w) : Calls Try.prog 24 #[(.slice p0.a p0.l p0.c), (.int .i64 p1)] w (Ret R) :=
  lw_calls (fs := Try.fs) (an := a_intagliolaw17_CallsOf) (args := [(.slice p0.a p0.l p0.c), (.int .i64 p1)]) Try.fsOK Try.mixed Try.func24 (by kernel_rfl) (by kernel_rfl)
    (Eq.mpr (by kernel_rfl : lwFn Try.prog Try.fs Try.f24 a_intagliolaw17_CallsOf [(.slice p0.a p0.l p0.c), (.int .i64 p1)] w R = L_intagliolaw17_CallsOf p0 p1 R w) h)

/-- intaglio.intagliolaw17.CallsOrder -/
def a_intagliolaw17_CallsOrder : Ann := (.seq none .nil (.seq none .nil (.seq (some ⟨[0], []⟩) (.seq none .nil (.cond (.seq none .nil .nil) .nil)) (.seq none .nil (.seq none (.seq none .nil (.cond (.seq none .nil .nil) .nil)) (.seq none .nil (.seq none (.seq none .nil (.cond (.seq none .nil .nil) .nil)) (.seq none .nil (.seq (some ⟨[0, 3, 5], []⟩) (.seq none .nil (.cond (.seq none .nil .nil) .nil)) (.seq none .nil (.seq none (.seq none .nil (.one (.loop ⟨[0, 3, 5, 6], [(7, (.b (.int .i64)))]⟩ (.seq none (.seq none .nil (.cond .nil .nil)) (.seq none (.one (.seq (some ⟨[0, 3, 5, 6, 7], []⟩) (.seq none .nil (.cond (.seq none .nil .nil) .nil)) .nil)) .nil))))) (.seq none (.seq none .nil (.one (.loop ⟨[0, 3, 5, 6], [(8, (.b (.int .i64)))]⟩ (.seq none (.seq none .nil (.cond .nil .nil)) (.seq none (.one (.seq none .nil (.cond (.seq none .nil .nil) .nil))) .nil))))) (.seq none (.seq none .nil (.one (.loop ⟨[0, 3, 5, 6], [(9, (.b (.int .i64)))]⟩ (.seq none (.seq none .nil (.cond .nil .nil)) (.seq none (.one .nil) .nil))))) (.seq none (.seq none .nil (.one (.loop ⟨[0, 3, 6], [(10, (.b (.int .i64)))]⟩ (.seq none (.seq none .nil (.cond .nil .nil)) (.seq none (.one (.seq none (.seq none .nil (.one (.loop ⟨[0, 3, 6, 10], [(11, (.b (.int .i64)))]⟩ (.seq none (.seq none .nil (.cond .nil .nil)) (.seq none (.one (.seq none .nil (.seq (some ⟨[0, 3, 6, 10, 11, 12], []⟩) (.seq none .nil (.cond (.seq none .nil .nil) .nil)) (.seq none .nil (.seq none .nil (.one (.loop ⟨[0, 3, 6, 10, 11, 13], [(14, (.b (.int .i64)))]⟩ (.seq none (.seq none .nil (.cond .nil .nil)) (.seq none (.one (.seq none .nil (.cond (.seq none .nil .nil) .nil))) .nil))))))))) .nil))))) (.seq none .nil (.cond (.seq none .nil .nil) .nil)))) .nil))))) (.seq none .nil .nil)))))))))))))))
def L_intagliolaw17_CallsOrder (p0 : Sl) (R : Value → World → Prop) (w : World) : Prop :=
  Nw (w.alloc (.cells #[(.int .i64 (1 : Int))] 3)) fun w1 =>
  Nw (w1.alloc (.cells #[] 3)) fun w2 =>
  Nw (w2.alloc (.cells #[(.slice (some (blk w.heap.size)) 1 1), (.slice (some (blk w1.heap.size)) 0 0)] 32)) fun w3 =>
  callR Try.prog 89 #[(.slice (some (blk w2.heap.size)) 2 2)] w3 fun v1 w4 =>
  ∃ x2 : Option Addr, ∃ x3 : Int, v1 = (.tuple #[(.pointer x2), (.int .i64 x3)]) ∧
  JoinW (S := Unit) (fun m4 =>
      ifB (x3 != (0 : Int))
        (R (.bool false) w4)
        (callR Try.prog 63 #[(.pointer x2), (.int .i64 (0 : Int))] w4 fun v6 w5 =>
        ∃ x7 : Int, v6 = (.int .i64 x7) ∧
        ifB (x7 != (1 : Int))
          (R (.bool false) w5)
          (callR Try.prog 63 #[(.pointer x2), (.int .i64 (1 : Int))] w5 fun v8 w6 =>
          ∃ x9 : Int, v8 = (.int .i64 x9) ∧
          ifB (x9 != (0 : Int))
            (R (.bool false) w6)
            (m4 (()) w6))))
    (fun s5 w7 =>
      Nw (w7.alloc (.cells #[(.int .i64 (1 : Int))] 3)) fun w8 =>
      Nw (w8.alloc (.cells #[(.int .i64 (0 : Int))] 3)) fun w9 =>
      Nw (w9.alloc (.cells #[(.slice (some (blk w7.heap.size)) 1 1), (.slice (some (blk w8.heap.size)) 1 1)] 32)) fun w10 =>
      callR Try.prog 89 #[(.slice (some (blk w9.heap.size)) 2 2)] w10 fun v10 w11 =>
      ∃ x11 : Option Addr, ∃ x12 : Int, v10 = (.tuple #[(.pointer x11), (.int .i64 x12)]) ∧
      ifB (x12 != (171 : Int))
        (R (.bool false) w11)
        (callR Try.prog 88 #[(.slice p0.a p0.l p0.c)] w11 fun v13 w12 =>
        ∃ x14 : Sl, v13 = (.slice x14.a x14.l x14.c) ∧
        callR Try.prog 89 #[(.slice x14.a x14.l x14.c)] w12 fun v15 w13 =>
        ∃ x16 : Option Addr, ∃ x17 : Int, v15 = (.tuple #[(.pointer x16), (.int .i64 x17)]) ∧
        ifB (x17 != (0 : Int))
          (R (.bool (Option.isNone x16)) w13)
          (callR Try.prog 62 #[(.pointer x16)] w13 fun v18 w14 =>
          ∃ x19 : Sl, v18 = (.slice x19.a x19.l x19.c) ∧
          JoinW (S := Unit) (fun m20 =>
              ifB ((x19.l : Int) != (p0.l : Int))
                (R (.bool false) w14)
                (callR Try.prog 59 #[(.pointer x16)] w14 fun v22 w15 =>
                ∃ x23 : Int, v22 = (.int .i64 x23) ∧
                ifB (x23 != (p0.l : Int))
                  (R (.bool false) w15)
                  (m20 (()) w15)))
            (fun s21 w16 =>
              (0 ≤ (p0.l : Int) ∧ (p0.l : Int) ≤ (p0.l : Int) ∧ (8 : Int) * (p0.l : Int) ≤ 281474976710656 ∧ (p0.l : Int) ≤ 9223372036854775807) ∧
              Nw (w16.alloc (.cells (madeCells #[(.int .i64 (0 : Int))] (p0.l * 1)) 3)) fun w17 =>
              LoopW (S := Int × Unit) (fun s24 w18 n25 =>
                  ifB (decide (s24.1 < (x19.l : Int)))
                    (JoinW (S := Unit) (fun m26 =>
                        (0 ≤ s24.1 ∧ s24.1 < (x19.l : Int)) ∧
                        derefP x19.a fun a28 =>
                        ldI w18 (a28.add (Int.toNat s24.1)) .i64 fun x29 =>
                        ifB (decide (x29 < (0 : Int)))
                          (R (.bool false) w18)
                          ((0 ≤ s24.1 ∧ s24.1 < (x19.l : Int)) ∧
                          derefP x19.a fun a30 =>
                          ldI w18 (a30.add (Int.toNat s24.1)) .i64 fun x31 =>
                          ifB (decide (x31 ≥ (p0.l : Int)))
                            (R (.bool false) w18)
                            (m26 (()) w18)))
                      (fun s27 w19 =>
                        (0 ≤ s24.1 ∧ s24.1 < (x19.l : Int)) ∧
                        derefP x19.a fun a32 =>
                        ldI w19 (a32.add (Int.toNat s24.1)) .i64 fun x33 =>
                        (0 ≤ x33 ∧ x33 < (p0.l : Int)) ∧
                        ldI w19 ((blk w16.heap.size).add (Int.toNat x33)) .i64 fun x34 =>
                        (0 ≤ x33 ∧ x33 < (p0.l : Int)) ∧
                        Wr w19 ((blk w16.heap.size).add (Int.toNat x33)) ∧
                        Nw (w19.setCell ((blk w16.heap.size).add (Int.toNat x33)) (.int .i64 (IntKind.i64.wrap (x34 + (1 : Int))))) fun w20 =>
                        n25 ((IntKind.i64.wrap (s24.1 + (1 : Int))), ()) w20))
                    (LoopW (S := Int × Unit) (fun s35 w21 n36 =>
                        ifB (decide (s35.1 < (p0.l : Int)))
                          ((0 ≤ s35.1 ∧ s35.1 < (p0.l : Int)) ∧
                          ldI w21 ((blk w16.heap.size).add (Int.toNat s35.1)) .i64 fun x37 =>
                          ifB (x37 != (1 : Int))
                            (R (.bool false) w21)
                            (n36 ((IntKind.i64.wrap (s35.1 + (1 : Int))), ()) w21))
                          (LoopW (S := Int × Unit) (fun s38 w22 n39 =>
                              ifB (decide (s38.1 < (x19.l : Int)))
                                ((0 ≤ s38.1 ∧ s38.1 < (x19.l : Int)) ∧
                                derefP x19.a fun a40 =>
                                ldI w22 (a40.add (Int.toNat s38.1)) .i64 fun x41 =>
                                (0 ≤ x41 ∧ x41 < (p0.l : Int)) ∧
                                Wr w22 ((blk w16.heap.size).add (Int.toNat x41)) ∧
                                Nw (w22.setCell ((blk w16.heap.size).add (Int.toNat x41)) (.int .i64 s38.1)) fun w23 =>
                                n39 ((IntKind.i64.wrap (s38.1 + (1 : Int))), ()) w23)
                                (LoopW (S := Int × Unit) (fun s42 w24 n43 =>
                                    ifB (decide (s42.1 < (p0.l : Int)))
                                      (LoopW (S := Int × Unit) (fun s44 w25 n45 =>
                                          (0 ≤ s42.1 ∧ s42.1 < (p0.l : Int)) ∧
                                          derefP p0.a fun a46 =>
                                          ldS w25 (a46.add (Int.toNat s42.1)) fun x47 =>
                                          ifB (decide (s44.1 < (x47.l : Int)))
                                            ((0 ≤ s42.1 ∧ s42.1 < (p0.l : Int)) ∧
                                            derefP p0.a fun a48 =>
                                            ldS w25 (a48.add (Int.toNat s42.1)) fun x49 =>
                                            (0 ≤ s44.1 ∧ s44.1 < (x49.l : Int)) ∧
                                            derefP x49.a fun a50 =>
                                            ldI w25 (a50.add (Int.toNat s44.1)) .i64 fun x51 =>
                                            JoinW (S := Unit) (fun m52 =>
                                                (0 ≤ x51 ∧ x51 < (p0.l : Int)) ∧
                                                ldI w25.drew ((blk w16.heap.size).add (Int.toNat x51)) .i64 fun x54 =>
                                                (0 ≤ s42.1 ∧ s42.1 < (p0.l : Int)) ∧
                                                ldI w25.drew ((blk w16.heap.size).add (Int.toNat s42.1)) .i64 fun x55 =>
                                                ifB (decide (x54 ≥ x55))
                                                  (R (.bool false) w25.drew)
                                                  (callR Try.prog 63 #[(.pointer x16), (.int .i64 x51)] w25.drew fun v56 w26 =>
                                                  ∃ x57 : Int, v56 = (.int .i64 x57) ∧
                                                  callR Try.prog 63 #[(.pointer x16), (.int .i64 s42.1)] w26 fun v58 w27 =>
                                                  ∃ x59 : Int, v58 = (.int .i64 x59) ∧
                                                  ifB (decide (x57 ≥ x59))
                                                    (R (.bool false) w27)
                                                    (callR Try.prog 60 #[(.pointer x16), (.int .i64 s42.1)] w27 fun v60 w28 =>
                                                    ∃ x61 : Sl, v60 = (.slice x61.a x61.l x61.c) ∧
                                                    callR Try.prog 92 #[(.slice x61.a x61.l x61.c), (.int .i64 x51)] w28 fun v62 w29 =>
                                                    ∃ x63 : Bool, v62 = (.bool x63) ∧
                                                    ifB (!x63)
                                                      (R (.bool false) w29)
                                                      (callR Try.prog 61 #[(.pointer x16), (.int .i64 x51)] w29 fun v64 w30 =>
                                                      ∃ x65 : Sl, v64 = (.slice x65.a x65.l x65.c) ∧
                                                      callR Try.prog 92 #[(.slice x65.a x65.l x65.c), (.int .i64 s42.1)] w30 fun v66 w31 =>
                                                      ∃ x67 : Bool, v66 = (.bool x67) ∧
                                                      ifB (!x67)
                                                        (R (.bool false) w31)
                                                        (callR Try.prog 64 #[(.pointer x16), (.int .i64 x51)] w31 fun v68 w32 =>
                                                        ∃ x69 : Sl, v68 = (.slice x69.a x69.l x69.c) ∧
                                                        callR Try.prog 92 #[(.slice x69.a x69.l x69.c), (.int .i64 s42.1)] w32 fun v70 w33 =>
                                                        ∃ x71 : Bool, v70 = (.bool x71) ∧
                                                        ifB x71
                                                          (R (.bool false) w33)
                                                          (m52 (()) w33))))))
                                              (fun s53 w34 =>
                                                callR Try.prog 64 #[(.pointer x16), (.int .i64 x51)] w34 fun v72 w35 =>
                                                ∃ x73 : Sl, v72 = (.slice x73.a x73.l x73.c) ∧
                                                LoopW (S := Int × Unit) (fun s74 w36 n75 =>
                                                    ifB (decide (s74.1 < (x73.l : Int)))
                                                      ((0 ≤ s74.1 ∧ s74.1 < (x73.l : Int)) ∧
                                                      derefP x73.a fun a76 =>
                                                      ldI w36.drew (a76.add (Int.toNat s74.1)) .i64 fun x77 =>
                                                      callR Try.prog 64 #[(.pointer x16), (.int .i64 s42.1)] w36.drew fun v78 w37 =>
                                                      ∃ x79 : Sl, v78 = (.slice x79.a x79.l x79.c) ∧
                                                      w37.cell? (a76.add (Int.toNat s74.1)) = some (.int .i64 x77) ∧
                                                      callR Try.prog 92 #[(.slice x79.a x79.l x79.c), (.int .i64 x77)] w37 fun v80 w38 =>
                                                      ∃ x81 : Bool, v80 = (.bool x81) ∧
                                                      ifB (!x81)
                                                        (R (.bool false) w38)
                                                        (n75 ((IntKind.i64.wrap (s74.1 + (1 : Int))), ()) w38))
                                                      (n45 ((IntKind.i64.wrap (s44.1 + (1 : Int))), ()) w36))
                                                  ((0 : Int), ()) w35))
                                            (callR Try.prog 64 #[(.pointer x16), (.int .i64 s42.1)] w25 fun v82 w39 =>
                                            ∃ x83 : Sl, v82 = (.slice x83.a x83.l x83.c) ∧
                                            callR Try.prog 92 #[(.slice x83.a x83.l x83.c), (.int .i64 s42.1)] w39 fun v84 w40 =>
                                            ∃ x85 : Bool, v84 = (.bool x85) ∧
                                            ifB (!x85)
                                              (R (.bool false) w40)
                                              (n43 ((IntKind.i64.wrap (s42.1 + (1 : Int))), ()) w40)))
                                        ((0 : Int), ()) w24)
                                      (R (.bool true) w24))
                                  ((0 : Int), ()) w22))
                            ((0 : Int), ()) w21))
                      ((0 : Int), ()) w18))
                ((0 : Int), ()) w17))))
theorem intagliolaw17_CallsOrder_calls (p0 : Sl) (R : Value → World → Prop) (w : World) (h : L_intagliolaw17_CallsOrder p0 R w) : Calls Try.prog 25 #[(.slice p0.a p0.l p0.c)] w (Ret R) :=
  lw_calls (fs := Try.fs) (an := a_intagliolaw17_CallsOrder) (args := [(.slice p0.a p0.l p0.c)]) Try.fsOK Try.mixed Try.func25 (by kernel_rfl) (by kernel_rfl)
    (Eq.mpr (by kernel_rfl : lwFn Try.prog Try.fs Try.f25 a_intagliolaw17_CallsOrder [(.slice p0.a p0.l p0.c)] w R = L_intagliolaw17_CallsOrder p0 R w) h)

/-- intaglio.intagliolaw17.copied -/
def a_intagliolaw17_copied : Ann := (.seq none .nil (.seq none .nil (.seq none (.seq none .nil (.one (.loop ⟨[0], [(3, (.b .slice)), (4, (.b (.int .i64)))]⟩ (.seq none (.seq none .nil (.cond .nil .nil)) (.seq none (.one (.seq none .nil (.seq none (.seq none .nil (.one (.loop ⟨[0, 3, 4], [(5, (.b .slice)), (6, (.b (.int .i64)))]⟩ (.seq none (.seq none .nil (.cond .nil .nil)) (.seq none (.one .nil) .nil))))) .nil))) .nil))))) (.seq none .nil .nil))))
def L_intagliolaw17_copied (p0 : Sl) (R : Value → World → Prop) (w : World) : Prop :=
  LoopW (S := Sl × Int × Unit) (fun s1 w1 n2 =>
      ifB (decide (s1.2.1 < (p0.l : Int)))
        (LoopW (S := Sl × Int × Unit) (fun s3 w2 n4 =>
            (0 ≤ s1.2.1 ∧ s1.2.1 < (p0.l : Int)) ∧
            derefP p0.a fun a5 =>
            ldS w2 (a5.add (Int.toNat s1.2.1)) fun x6 =>
            ifB (decide (s3.2.1 < (x6.l : Int)))
              ((0 ≤ s1.2.1 ∧ s1.2.1 < (p0.l : Int)) ∧
              derefP p0.a fun a7 =>
              ldS w2 (a7.add (Int.toNat s1.2.1)) fun x8 =>
              (0 ≤ s3.2.1 ∧ s3.2.1 < (x8.l : Int)) ∧
              derefP x8.a fun a9 =>
              ldI w2 (a9.add (Int.toNat s3.2.1)) .i64 fun x10 =>
              Nw (w2.alloc (.cells #[(.int .i64 x10)] 3)) fun w3 =>
              appendS Try.prog 32 (.slice s3.1.a s3.1.l s3.1.c) (.slice (some (blk w2.heap.size)) 1 1) w3 fun r11 w4 =>
              n4 (r11, (IntKind.i64.wrap (s3.2.1 + (1 : Int))), ()) w4)
              (Nw (w2.alloc (.cells #[(.slice s3.1.a s3.1.l s3.1.c)] 32)) fun w5 =>
              appendS Try.prog 22 (.slice s1.1.a s1.1.l s1.1.c) (.slice (some (blk w2.heap.size)) 1 1) w5 fun r12 w6 =>
              n2 (r12, (IntKind.i64.wrap (s1.2.1 + (1 : Int))), ()) w6))
          ((Sl.mk none 0 0), (0 : Int), ()) w1)
        (R (.slice s1.1.a s1.1.l s1.1.c) w1))
    ((Sl.mk none 0 0), (0 : Int), ()) w
theorem intagliolaw17_copied_calls (p0 : Sl) (R : Value → World → Prop) (w : World) (h : L_intagliolaw17_copied p0 R w) : Calls Try.prog 88 #[(.slice p0.a p0.l p0.c)] w (Ret R) :=
  lw_calls (fs := Try.fs) (an := a_intagliolaw17_copied) (args := [(.slice p0.a p0.l p0.c)]) Try.fsOK Try.mixed Try.func88 (by kernel_rfl) (by kernel_rfl)
    (Eq.mpr (by kernel_rfl : lwFn Try.prog Try.fs Try.f88 a_intagliolaw17_copied [(.slice p0.a p0.l p0.c)] w R = L_intagliolaw17_copied p0 R w) h)

/-- intaglio.intagliolaw17.agree -/
def a_intagliolaw17_agree : Ann := (.seq none .nil (.seq none .nil (.seq (some ⟨[0, 1, 2, 7], []⟩) (.seq none .nil (.cond (.seq none .nil .nil) .nil)) (.seq none .nil (.seq none .nil .nil)))))
def L_intagliolaw17_agree (p0 : Option Addr) (p1 : Sl) (p2 : Int) (R : Value → World → Prop) (w : World) : Prop :=
  callR Try.prog 60 #[(.pointer p0), (.int .i64 p2)] w fun v1 w1 =>
  ∃ x2 : Sl, v1 = (.slice x2.a x2.l x2.c) ∧
  JoinW (S := Unit) (fun m3 =>
      callR Try.prog 59 #[(.pointer p0)] w1 fun v5 w2 =>
      ∃ x6 : Int, v5 = (.int .i64 x6) ∧
      ifB (x6 != (p1.l : Int))
        (R (.bool false) w2)
        (callR Try.prog 142 #[(.slice p1.a p1.l p1.c), (.int .i64 p2)] w2 fun v7 w3 =>
        ∃ x8 : Sl, v7 = (.slice x8.a x8.l x8.c) ∧
        callR Try.prog 29 #[(.slice x2.a x2.l x2.c), (.slice x8.a x8.l x8.c)] w3 fun v9 w4 =>
        ∃ x10 : Bool, v9 = (.bool x10) ∧
        ifB (!x10)
          (R (.bool false) w4)
          (callR Try.prog 61 #[(.pointer p0), (.int .i64 p2)] w4 fun v11 w5 =>
          ∃ x12 : Sl, v11 = (.slice x12.a x12.l x12.c) ∧
          callR Try.prog 143 #[(.slice p1.a p1.l p1.c), (.int .i64 p2)] w5 fun v13 w6 =>
          ∃ x14 : Sl, v13 = (.slice x14.a x14.l x14.c) ∧
          callR Try.prog 29 #[(.slice x12.a x12.l x12.c), (.slice x14.a x14.l x14.c)] w6 fun v15 w7 =>
          ∃ x16 : Bool, v15 = (.bool x16) ∧
          ifB (!x16)
            (R (.bool false) w7)
            (callR Try.prog 63 #[(.pointer p0), (.int .i64 p2)] w7 fun v17 w8 =>
            ∃ x18 : Int, v17 = (.int .i64 x18) ∧
            callR Try.prog 144 #[(.slice p1.a p1.l p1.c), (.int .i64 p2)] w8 fun v19 w9 =>
            ∃ x20 : Int, v19 = (.int .i64 x20) ∧
            ifB (x18 != x20)
              (R (.bool false) w9)
              (m3 (()) w9)))))
    (fun s4 w10 =>
      callR Try.prog 30 #[(.slice x2.a x2.l x2.c)] w10 fun v21 w11 =>
      v21 = (.tuple #[]) ∧
      callR Try.prog 60 #[(.pointer p0), (.int .i64 p2)] w11 fun v22 w12 =>
      ∃ x23 : Sl, v22 = (.slice x23.a x23.l x23.c) ∧
      callR Try.prog 142 #[(.slice p1.a p1.l p1.c), (.int .i64 p2)] w12 fun v24 w13 =>
      ∃ x25 : Sl, v24 = (.slice x25.a x25.l x25.c) ∧
      callR Try.prog 29 #[(.slice x23.a x23.l x23.c), (.slice x25.a x25.l x25.c)] w13 fun v26 w14 =>
      ∃ x27 : Bool, v26 = (.bool x27) ∧
      ifB x27
        (callR Try.prog 64 #[(.pointer p0), (.int .i64 p2)] w14 fun v28 w15 =>
        ∃ x29 : Sl, v28 = (.slice x29.a x29.l x29.c) ∧
        callR Try.prog 145 #[(.slice p1.a p1.l p1.c), (.int .i64 p2)] w15 fun v30 w16 =>
        ∃ x31 : Sl, v30 = (.slice x31.a x31.l x31.c) ∧
        callR Try.prog 29 #[(.slice x29.a x29.l x29.c), (.slice x31.a x31.l x31.c)] w16 fun v32 w17 =>
        ∃ x33 : Bool, v32 = (.bool x33) ∧
        ifB x33
          (callR Try.prog 62 #[(.pointer p0)] w17 fun v34 w18 =>
          ∃ x35 : Sl, v34 = (.slice x35.a x35.l x35.c) ∧
          callR Try.prog 146 #[(.slice p1.a p1.l p1.c)] w18 fun v36 w19 =>
          ∃ x37 : Sl, v36 = (.slice x37.a x37.l x37.c) ∧
          callR Try.prog 29 #[(.slice x35.a x35.l x35.c), (.slice x37.a x37.l x37.c)] w19 fun v38 w20 =>
          ∃ x39 : Bool, v38 = (.bool x39) ∧
          R (.bool x39) w20)
          (R (.bool false) w17))
        (R (.bool false) w14))
theorem intagliolaw17_agree_calls (p0 : Option Addr) (p1 : Sl) (p2 : Int) (R : Value → World → Prop) (w : World) (h : L_intagliolaw17_agree p0 p1 p2 R w) : Calls Try.prog 91 #[(.pointer p0), (.slice p1.a p1.l p1.c), (.int .i64 p2)] w (Ret R) :=
  lw_calls (fs := Try.fs) (an := a_intagliolaw17_agree) (args := [(.pointer p0), (.slice p1.a p1.l p1.c), (.int .i64 p2)]) Try.fsOK Try.mixed Try.func91 (by kernel_rfl) (by kernel_rfl)
    (Eq.mpr (by kernel_rfl : lwFn Try.prog Try.fs Try.f91 a_intagliolaw17_agree [(.pointer p0), (.slice p1.a p1.l p1.c), (.int .i64 p2)] w R = L_intagliolaw17_agree p0 p1 p2 R w) h)

/-- intaglio.intagliolaw17.has -/
def a_intagliolaw17_has : Ann := (.seq none .nil (.seq none (.seq none .nil (.one (.loop ⟨[0, 1], [(5, (.b (.int .i64)))]⟩ (.seq none (.seq none .nil (.cond .nil .nil)) (.seq none (.one (.seq none .nil (.cond (.seq none .nil .nil) .nil))) .nil))))) (.seq none .nil .nil)))
def L_intagliolaw17_has (p0 : Sl) (p1 : Int) (R : Value → World → Prop) (w : World) : Prop :=
  LoopW (S := Int × Unit) (fun s1 w1 n2 =>
      ifB (decide (s1.1 < (p0.l : Int)))
        ((0 ≤ s1.1 ∧ s1.1 < (p0.l : Int)) ∧
        derefP p0.a fun a3 =>
        ldI w1 (a3.add (Int.toNat s1.1)) .i64 fun x4 =>
        ifB (x4 == p1)
          (R (.bool true) w1)
          (n2 ((IntKind.i64.wrap (s1.1 + (1 : Int))), ()) w1))
        (R (.bool false) w1))
    ((0 : Int), ()) w
theorem intagliolaw17_has_calls (p0 : Sl) (p1 : Int) (R : Value → World → Prop) (w : World) (h : L_intagliolaw17_has p0 p1 R w) : Calls Try.prog 92 #[(.slice p0.a p0.l p0.c), (.int .i64 p1)] w (Ret R) :=
  lw_calls (fs := Try.fs) (an := a_intagliolaw17_has) (args := [(.slice p0.a p0.l p0.c), (.int .i64 p1)]) Try.fsOK Try.mixed Try.func92 (by kernel_rfl) (by kernel_rfl)
    (Eq.mpr (by kernel_rfl : lwFn Try.prog Try.fs Try.f92 a_intagliolaw17_has [(.slice p0.a p0.l p0.c), (.int .i64 p1)] w R = L_intagliolaw17_has p0 p1 R w) h)

end Go.Proofs
