/-
  Printed by a program of the author: what each function comes to.
-/
import Derived.Test.YtjplhoollkeihaaProg
import Derived.Test.YtjplhoollkeihaaGkR
import Derived.Test.YtjplhoollkeihaaLb
namespace Go.Proofs
open Go.Gk
set_option linter.unusedVariables false
set_option maxRecDepth 100000

/-- intaglio.intagliolaw16.NestFlaws -/
def a_intagliolaw16_NestFlaws : Ann := (.seq none .nil (.seq none (.seq none .nil (.cond (.seq none .nil .nil) .nil)) (.seq none .nil (.seq none .nil (.seq none (.seq none .nil (.cond (.seq none .nil .nil) .nil)) (.seq none .nil (.seq none .nil (.seq none .nil (.seq (some ⟨[], []⟩) (.seq none .nil (.cond (.seq none .nil .nil) .nil)) (.seq none .nil .nil))))))))))
def L_intagliolaw16_NestFlaws (p0 : Sl) (p1 : Sl) (R : Value → World → Prop) (w : World) : Prop :=
  ifB (decide ((p0.l : Int) > (64 : Int)))
    (R (.bool true) w)
    (callR Try.prog 26 #[(.slice p0.a p0.l p0.c)] w fun v1 w1 =>
    ∃ x2 : Option Addr, ∃ x3 : Int, v1 = (.tuple #[(.pointer x2), (.int .i64 x3)]) ∧
    callR Try.prog 28 #[(.slice p0.a p0.l p0.c)] w1 fun v4 w2 =>
    ∃ x5 : Option Addr, ∃ x6 : Int, v4 = (.tuple #[(.pointer x5), (.int .i64 x6)]) ∧
    ifB (x6 != x3)
      (R (.bool false) w2)
      (callR Try.prog 65 #[(.pointer x2), (.slice p1.a p1.l p1.c)] w2 fun v7 w3 =>
      ∃ x8 : Sl, ∃ x9 : Int, v7 = (.tuple #[(.slice x8.a x8.l x8.c), (.int .i64 x9)]) ∧
      callR Try.prog 66 #[(.slice p1.a p1.l p1.c)] w3 fun v10 w4 =>
      ∃ x11 : Sl, v10 = (.slice x11.a x11.l x11.c) ∧
      callR Try.prog 67 #[(.pointer x5), (.slice x11.a x11.l x11.c)] w4 fun v12 w5 =>
      ∃ x13 : Sl, ∃ x14 : Int, v12 = (.tuple #[(.slice x13.a x13.l x13.c), (.int .i64 x14)]) ∧
      JoinW (S := Unit) (fun m15 =>
          ifB (x14 != x9)
            (R (.bool false) w5)
            (callR Try.prog 68 #[(.slice x13.a x13.l x13.c), (.slice x8.a x8.l x8.c)] w5 fun v17 w6 =>
            ∃ x18 : Bool, v17 = (.bool x18) ∧
            ifB (!x18)
              (R (.bool false) w6)
              (callR Try.prog 69 #[(.slice x11.a x11.l x11.c), (.slice p1.a p1.l p1.c)] w6 fun v19 w7 =>
              ∃ x20 : Bool, v19 = (.bool x20) ∧
              ifB (!x20)
                (R (.bool false) w7)
                (callR Try.prog 70 #[(.pointer x5), (.slice x11.a x11.l x11.c)] w7 fun v21 w8 =>
                ∃ x22 : (Int × Int × Unit), v21 = (.agg #[(.int .i64 x22.1), (.int .i64 x22.2.1)]) ∧
                callR Try.prog 71 #[(.pointer x2), (.slice p1.a p1.l p1.c)] w8 fun v23 w9 =>
                ∃ x24 : (Int × Int × Unit), v23 = (.agg #[(.int .i64 x24.1), (.int .i64 x24.2.1)]) ∧
                ifB (!(x22.1 == x24.1 && (x22.2.1 == x24.2.1 && true)))
                  (R (.bool false) w9)
                  (m15 (()) w9)))))
        (fun s16 w10 =>
          callR Try.prog 72 #[] w10 fun v25 w11 =>
          ∃ x26 : Bool, v25 = (.bool x26) ∧
          R (.bool x26) w11)))
theorem intagliolaw16_NestFlaws_calls (p0 : Sl) (p1 : Sl) (R : Value → World → Prop) (w : World) (h : L_intagliolaw16_NestFlaws p0 p1 R w) : Calls Try.prog 14 #[(.slice p0.a p0.l p0.c), (.slice p1.a p1.l p1.c)] w (Ret R) :=
  lw_calls (fs := Try.fs) (an := a_intagliolaw16_NestFlaws) (args := [(.slice p0.a p0.l p0.c), (.slice p1.a p1.l p1.c)]) Try.fsOK Try.mixed Try.func14 (by kernel_rfl) (by kernel_rfl)
    (Eq.mpr (by kernel_rfl : lwFn Try.prog Try.fs Try.f14 a_intagliolaw16_NestFlaws [(.slice p0.a p0.l p0.c), (.slice p1.a p1.l p1.c)] w R = L_intagliolaw16_NestFlaws p0 p1 R w) h)

/-- intaglio.intagliolaw16.NestEnters -/
def a_intagliolaw16_NestEnters : Ann := (.seq none .nil (.seq none .nil (.seq (some ⟨[1, 5], []⟩) (.seq none .nil (.cond (.seq none .nil .nil) .nil)) (.seq none (.seq none .nil (.one (.loop ⟨[1, 5], [(7, (.b (.int .i64)))]⟩ (.seq none (.seq none .nil (.cond .nil .nil)) (.seq (some ⟨[1, 5, 7], []⟩) (.one (.seq none .nil (.seq none (.seq none .nil (.cond .nil .nil)) (.seq (some ⟨[1, 5, 7, 8], []⟩) (.seq none .nil (.cond (.seq none .nil .nil) .nil)) (.seq none .nil (.one (.loop ⟨[1, 5, 7, 8], [(10, (.b (.int .i64)))]⟩ (.seq none (.seq none .nil (.cond .nil .nil)) (.seq (some ⟨[1, 5, 7, 8, 10], []⟩) (.one (.seq none .nil (.seq none (.seq none .nil (.one (.loop ⟨[1, 5, 7, 8, 10, 11], [(12, (.b (.int .i64)))]⟩ (.seq none (.seq none .nil (.cond .nil .nil)) (.seq (some ⟨[1, 5, 7, 8, 10, 11, 12], []⟩) (.one (.seq none .nil (.cond (.seq none .nil .nil) .nil))) .nil))))) (.seq none .nil (.cond (.seq none .nil .nil) .nil))))) .nil))))))))) .nil))))) (.seq none .nil .nil)))))
def L_intagliolaw16_NestEnters (p0 : Sl) (p1 : Sl) (R : Value → World → Prop) (w : World) : Prop :=
  callR Try.prog 28 #[(.slice p0.a p0.l p0.c)] w fun v1 w1 =>
  ∃ x2 : Option Addr, ∃ x3 : Int, v1 = (.tuple #[(.pointer x2), (.int .i64 x3)]) ∧
  JoinW (S := Unit) (fun m4 =>
      ifB (x3 != (0 : Int))
        (callR Try.prog 72 #[] w1 fun v6 w2 =>
        ∃ x7 : Bool, v6 = (.bool x7) ∧
        R (.bool x7) w2)
        (ifB (decide ((p0.l : Int) > (64 : Int)))
          (callR Try.prog 72 #[] w1 fun v8 w3 =>
          ∃ x9 : Bool, v8 = (.bool x9) ∧
          R (.bool x9) w3)
          (callR Try.prog 66 #[(.slice p1.a p1.l p1.c)] w1 fun v10 w4 =>
          ∃ x11 : Sl, v10 = (.slice x11.a x11.l x11.c) ∧
          callR Try.prog 70 #[(.pointer x2), (.slice x11.a x11.l x11.c)] w4 fun v12 w5 =>
          ∃ x13 : (Int × Int × Unit), v12 = (.agg #[(.int .i64 x13.1), (.int .i64 x13.2.1)]) ∧
          ifB (x13.1 != (0 : Int))
            (callR Try.prog 72 #[] w5 fun v14 w6 =>
            ∃ x15 : Bool, v14 = (.bool x15) ∧
            R (.bool x15) w6)
            (m4 (()) w5))))
    (fun s5 w7 =>
      LoopW (S := Int × Unit) (fun s16 w8 n17 =>
          ifB (decide (s16.1 < (p1.l : Int)))
            (JoinW (S := Unit) (fun m18 =>
                callR Try.prog 66 #[(.slice p1.a p1.l p1.c)] w8 fun v20 w9 =>
                ∃ x21 : Sl, v20 = (.slice x21.a x21.l x21.c) ∧
                callR Try.prog 73 #[(.pointer x2), (.slice x21.a x21.l x21.c), (.int .i64 s16.1)] w9 fun v22 w10 =>
                ∃ x23 : Sl, ∃ x24 : Int, v22 = (.tuple #[(.slice x23.a x23.l x23.c), (.int .i64 x24)]) ∧
                ifB (x24 != (0 : Int))
                  (m18 (()) w10)
                  (JoinW (S := Unit) (fun m25 =>
                      callR Try.prog 74 #[(.slice x23.a x23.l x23.c), (.int .i64 s16.1)] w10 fun v27 w11 =>
                      ∃ x28 : Bool, v27 = (.bool x28) ∧
                      ifB (!x28)
                        (R (.bool false) w11)
                        ((0 ≤ s16.1 ∧ s16.1 < (p1.l : Int)) ∧
                        derefP p1.a fun a29 =>
                        ldI w11 ((a29.add ((Int.toNat s16.1) * 3)).add 1) .i64 fun x30 =>
                        callR Try.prog 74 #[(.slice x23.a x23.l x23.c), (.int .i64 x30)] w11 fun v31 w12 =>
                        ∃ x32 : Bool, v31 = (.bool x32) ∧
                        ifB x32
                          (R (.bool false) w12)
                          ((0 ≤ s16.1 ∧ s16.1 < (p1.l : Int)) ∧
                          derefP p1.a fun a33 =>
                          ldI w12 (a33.add ((Int.toNat s16.1) * 3)) .u8 fun x34 =>
                          ifB (x34 == (2 : Int))
                            ((0 ≤ s16.1 ∧ s16.1 < (p1.l : Int)) ∧
                            derefP p1.a fun a35 =>
                            ldI w12 ((a35.add ((Int.toNat s16.1) * 3)).add 2) .i64 fun x36 =>
                            callR Try.prog 74 #[(.slice x23.a x23.l x23.c), (.int .i64 x36)] w12 fun v37 w13 =>
                            ∃ x38 : Bool, v37 = (.bool x38) ∧
                            ifB (!x38)
                              (R (.bool false) w13)
                              (m25 (()) w13))
                            (m25 (()) w12))))
                    (fun s26 w14 =>
                      LoopW (S := Int × Unit) (fun s39 w15 n40 =>
                          ifB (decide (s39.1 < (p1.l : Int)))
                            (JoinW (S := Unit) (fun m41 =>
                                callR Try.prog 34 #[(.pointer x2), (.int .i64 s39.1)] w15 fun v43 w16 =>
                                ∃ x44 : Sl, v43 = (.slice x44.a x44.l x44.c) ∧
                                LoopW (S := Int × Unit) (fun s45 w17 n46 =>
                                    ifB (decide (s45.1 < (x44.l : Int)))
                                      (JoinW (S := Unit) (fun m47 =>
                                          callR Try.prog 38 #[(.pointer x2), (.int .i64 s39.1)] w17 fun v49 w18 =>
                                          ∃ x50 : Bool, v49 = (.bool x50) ∧
                                          ifB x50
                                            (callR Try.prog 74 #[(.slice x23.a x23.l x23.c), (.int .i64 s39.1)] w18 fun v51 w19 =>
                                            ∃ x52 : Bool, v51 = (.bool x52) ∧
                                            ifB (!x52)
                                              ((0 ≤ s45.1 ∧ s45.1 < (x44.l : Int)) ∧
                                              derefP x44.a fun a53 =>
                                              ldI w19 (a53.add (Int.toNat s45.1)) .i64 fun x54 =>
                                              callR Try.prog 74 #[(.slice x23.a x23.l x23.c), (.int .i64 x54)] w19 fun v55 w20 =>
                                              ∃ x56 : Bool, v55 = (.bool x56) ∧
                                              ifB x56
                                                ((0 ≤ s45.1 ∧ s45.1 < (x44.l : Int)) ∧
                                                derefP x44.a fun a57 =>
                                                ldI w20 (a57.add (Int.toNat s45.1)) .i64 fun x58 =>
                                                ifB (x58 != s16.1)
                                                  (R (.bool false) w20)
                                                  (m47 (()) w20))
                                                (m47 (()) w20))
                                              (m47 (()) w19))
                                            (m47 (()) w18))
                                        (fun s48 w21 =>
                                          n46 ((IntKind.i64.wrap (s45.1 + (1 : Int))), ()) w21))
                                      (callR Try.prog 38 #[(.pointer x2), (.int .i64 s39.1)] w17 fun v59 w22 =>
                                      ∃ x60 : Bool, v59 = (.bool x60) ∧
                                      ifB x60
                                        (ifB (decide ((x44.l : Int) > (1 : Int)))
                                          ((0 ≤ s39.1 ∧ s39.1 < (p1.l : Int)) ∧
                                          derefP p1.a fun a61 =>
                                          ldI w22 (a61.add ((Int.toNat s39.1) * 3)) .u8 fun x62 =>
                                          ifB (x62 == (0 : Int))
                                            (R (.bool false) w22)
                                            (m41 (()) w22))
                                          (m41 (()) w22))
                                        (m41 (()) w22)))
                                  ((0 : Int), ()) w16)
                              (fun s42 w23 =>
                                n40 ((IntKind.i64.wrap (s39.1 + (1 : Int))), ()) w23))
                            (m18 (()) w15))
                        ((0 : Int), ()) w14)))
              (fun s19 w24 =>
                n17 ((IntKind.i64.wrap (s16.1 + (1 : Int))), ()) w24))
            (callR Try.prog 72 #[] w8 fun v63 w25 =>
            ∃ x64 : Bool, v63 = (.bool x64) ∧
            R (.bool x64) w25))
        ((0 : Int), ()) w7)
theorem intagliolaw16_NestEnters_calls (p0 : Sl) (p1 : Sl) (R : Value → World → Prop) (w : World) (h : L_intagliolaw16_NestEnters p0 p1 R w) : Calls Try.prog 15 #[(.slice p0.a p0.l p0.c), (.slice p1.a p1.l p1.c)] w (Ret R) :=
  lw_calls (fs := Try.fs) (an := a_intagliolaw16_NestEnters) (args := [(.slice p0.a p0.l p0.c), (.slice p1.a p1.l p1.c)]) Try.fsOK Try.mixed Try.func15 (by kernel_rfl) (by kernel_rfl)
    (Eq.mpr (by kernel_rfl : lwFn Try.prog Try.fs Try.f15 a_intagliolaw16_NestEnters [(.slice p0.a p0.l p0.c), (.slice p1.a p1.l p1.c)] w R = L_intagliolaw16_NestEnters p0 p1 R w) h)

/-- intaglio.intagliolaw16.NestRings -/
def a_intagliolaw16_NestRings : Ann := (.seq none .nil (.seq none .nil (.seq (some ⟨[1, 5], []⟩) (.seq none .nil (.cond (.seq none .nil .nil) .nil)) (.seq none .nil (.seq none (.seq none .nil (.one (.loop ⟨[1, 5], [(7, (.b .slice)), (8, (.b (.int .i64)))]⟩ (.seq none (.seq none .nil (.cond .nil .nil)) (.seq none (.one (.seq none .nil (.seq none .nil (.seq none (.seq none .nil (.one (.loop ⟨[1, 5, 7, 8, 10], [(9, (.b .slice)), (11, (.b (.int .i64)))]⟩ (.seq none (.seq none .nil (.cond .nil .nil)) (.seq (some ⟨[1, 5, 7, 8, 10, 11], [(9, (.b .slice))]⟩) (.one (.seq none .nil (.cond .nil .nil))) .nil))))) .nil)))) .nil))))) (.seq (some ⟨[1, 5], []⟩) (.seq none .nil (.one (.loop ⟨[1, 5, 7], [(12, (.b (.int .i64)))]⟩ (.seq none (.seq none .nil (.cond .nil .nil)) (.seq none (.one (.seq none .nil (.seq none (.seq none .nil (.one (.loop ⟨[1, 5, 7, 12], [(13, (.b (.int .i64))), (14, (.b (.int .i64)))]⟩ (.seq none (.seq none .nil (.cond .nil .nil)) (.seq none (.one (.seq none .nil (.seq none (.seq none .nil (.one (.loop ⟨[1, 5, 7, 12, 13, 14], [(15, (.b .slice)), (16, (.b (.int .i64)))]⟩ (.seq none (.seq none .nil (.cond .nil .nil)) (.seq (some ⟨[1, 5, 7, 12, 13, 14, 16], [(15, (.b .slice))]⟩) (.one (.seq none .nil (.cond .nil .nil))) .nil))))) (.seq none .nil .nil)))) .nil))))) (.seq none (.seq none .nil (.cond .nil .nil)) (.seq none .nil (.cond (.seq none .nil .nil) .nil)))))) .nil))))) (.seq none (.seq none .nil (.one (.loop ⟨[1, 5], [(17, (.b (.int .i64)))]⟩ (.seq none (.seq none .nil (.cond .nil .nil)) (.seq (some ⟨[1, 5, 17], []⟩) (.one (.seq none .nil (.seq none .nil (.cond (.seq none .nil .nil) .nil)))) .nil))))) (.seq none .nil .nil))))))))
def L_intagliolaw16_NestRings (p0 : Sl) (p1 : Sl) (R : Value → World → Prop) (w : World) : Prop :=
  callR Try.prog 28 #[(.slice p0.a p0.l p0.c)] w fun v1 w1 =>
  ∃ x2 : Option Addr, ∃ x3 : Int, v1 = (.tuple #[(.pointer x2), (.int .i64 x3)]) ∧
  JoinW (S := Unit) (fun m4 =>
      ifB (x3 != (0 : Int))
        (callR Try.prog 72 #[] w1 fun v6 w2 =>
        ∃ x7 : Bool, v6 = (.bool x7) ∧
        R (.bool x7) w2)
        (ifB (decide ((p0.l : Int) > (64 : Int)))
          (callR Try.prog 72 #[] w1 fun v8 w3 =>
          ∃ x9 : Bool, v8 = (.bool x9) ∧
          R (.bool x9) w3)
          (callR Try.prog 66 #[(.slice p1.a p1.l p1.c)] w1 fun v10 w4 =>
          ∃ x11 : Sl, v10 = (.slice x11.a x11.l x11.c) ∧
          callR Try.prog 70 #[(.pointer x2), (.slice x11.a x11.l x11.c)] w4 fun v12 w5 =>
          ∃ x13 : (Int × Int × Unit), v12 = (.agg #[(.int .i64 x13.1), (.int .i64 x13.2.1)]) ∧
          ifB (x13.1 != (0 : Int))
            (callR Try.prog 72 #[] w5 fun v14 w6 =>
            ∃ x15 : Bool, v14 = (.bool x15) ∧
            R (.bool x15) w6)
            (m4 (()) w5))))
    (fun s5 w7 =>
      LoopW (S := Sl × Int × Unit) (fun s16 w8 n17 =>
          ifB (decide (s16.2.1 < (p1.l : Int)))
            (callR Try.prog 34 #[(.pointer x2), (.int .i64 s16.2.1)] w8 fun v18 w9 =>
            ∃ x19 : Sl, v18 = (.slice x19.a x19.l x19.c) ∧
            LoopW (S := Sl × Int × Unit) (fun s20 w10 n21 =>
                ifB (decide (s20.2.1 < (x19.l : Int)))
                  (JoinW (S := Sl × Unit) (fun m22 =>
                      (0 ≤ s20.2.1 ∧ s20.2.1 < (x19.l : Int)) ∧
                      derefP x19.a fun a24 =>
                      ldI w10 (a24.add (Int.toNat s20.2.1)) .i64 fun x25 =>
                      (0 ≤ x25 ∧ x25 < (p1.l : Int)) ∧
                      derefP p1.a fun a26 =>
                      ldI w10 (a26.add ((Int.toNat x25) * 3)) .u8 fun x27 =>
                      ifB (x27 != (2 : Int))
                        (callR Try.prog 38 #[(.pointer x2), (.int .i64 s16.2.1)] w10 fun v28 w11 =>
                        ∃ x29 : Bool, v28 = (.bool x29) ∧
                        ifB x29
                          ((0 ≤ s20.2.1 ∧ s20.2.1 < (x19.l : Int)) ∧
                          derefP x19.a fun a30 =>
                          ldI w11 (a30.add (Int.toNat s20.2.1)) .i64 fun x31 =>
                          Nw (w11.alloc (.cells #[(.int .i64 x31)] 3)) fun w12 =>
                          appendS Try.prog 32 (.slice s20.1.a s20.1.l s20.1.c) (.slice (some (blk w11.heap.size)) 1 1) w12 fun r32 w13 =>
                          m22 (r32, ()) w13)
                          (m22 (s20.1, ()) w11))
                        (m22 (s20.1, ()) w10))
                    (fun s23 w14 =>
                      n21 (s23.1, (IntKind.i64.wrap (s20.2.1 + (1 : Int))), ()) w14))
                  (Nw (w10.alloc (.cells #[(.slice s20.1.a s20.1.l s20.1.c)] 32)) fun w15 =>
                  appendS Try.prog 22 (.slice s16.1.a s16.1.l s16.1.c) (.slice (some (blk w10.heap.size)) 1 1) w15 fun r33 w16 =>
                  n17 (r33, (IntKind.i64.wrap (s16.2.1 + (1 : Int))), ()) w16))
              ((Sl.mk none 0 0), (0 : Int), ()) w9)
            (JoinW (S := Unit) (fun m34 =>
                LoopW (S := Int × Unit) (fun s36 w17 n37 =>
                    ifB (decide (s36.1 ≤ (p1.l : Int)))
                      (LoopW (S := Int × Int × Unit) (fun s38 w18 n39 =>
                          ifB (decide (s38.2.1 < (p1.l : Int)))
                            (LoopW (S := Sl × Int × Unit) (fun s40 w19 n41 =>
                                (0 ≤ s38.2.1 ∧ s38.2.1 < (s16.1.l : Int)) ∧
                                derefP s16.1.a fun a42 =>
                                ldS w19 (a42.add (Int.toNat s38.2.1)) fun x43 =>
                                ifB (decide (s40.2.1 < (x43.l : Int)))
                                  (JoinW (S := Sl × Unit) (fun m44 =>
                                      (0 ≤ s38.2.1 ∧ s38.2.1 < (s16.1.l : Int)) ∧
                                      derefP s16.1.a fun a46 =>
                                      ldS w19 (a46.add (Int.toNat s38.2.1)) fun x47 =>
                                      (0 ≤ s40.2.1 ∧ s40.2.1 < (x47.l : Int)) ∧
                                      derefP x47.a fun a48 =>
                                      ldI w19 (a48.add (Int.toNat s40.2.1)) .i64 fun x49 =>
                                      (0 ≤ x49 ∧ x49 < (s16.1.l : Int)) ∧
                                      derefP s16.1.a fun a50 =>
                                      ldS w19 (a50.add (Int.toNat x49)) fun x51 =>
                                      ifB (decide ((x51.l : Int) > (0 : Int)))
                                        ((0 ≤ s38.2.1 ∧ s38.2.1 < (s16.1.l : Int)) ∧
                                        derefP s16.1.a fun a52 =>
                                        ldS w19 (a52.add (Int.toNat s38.2.1)) fun x53 =>
                                        (0 ≤ s40.2.1 ∧ s40.2.1 < (x53.l : Int)) ∧
                                        derefP x53.a fun a54 =>
                                        ldI w19 (a54.add (Int.toNat s40.2.1)) .i64 fun x55 =>
                                        Nw (w19.alloc (.cells #[(.int .i64 x55)] 3)) fun w20 =>
                                        appendS Try.prog 32 (.slice s40.1.a s40.1.l s40.1.c) (.slice (some (blk w19.heap.size)) 1 1) w20 fun r56 w21 =>
                                        m44 (r56, ()) w21)
                                        (m44 (s40.1, ()) w19))
                                    (fun s45 w22 =>
                                      n41 (s45.1, (IntKind.i64.wrap (s40.2.1 + (1 : Int))), ()) w22))
                                  ((0 ≤ s38.2.1 ∧ s38.2.1 < (s16.1.l : Int)) ∧
                                  derefP s16.1.a fun a57 =>
                                  Wr w19 (a57.add (Int.toNat s38.2.1)) ∧
                                  Nw (w19.setCell (a57.add (Int.toNat s38.2.1)) (.slice s40.1.a s40.1.l s40.1.c)) fun w23 =>
                                  n39 ((IntKind.i64.wrap (s38.1 + (s40.1.l : Int))), (IntKind.i64.wrap (s38.2.1 + (1 : Int))), ()) w23))
                              ((Sl.mk none 0 0), (0 : Int), ()) w18)
                            (ifB (s38.1 == (0 : Int))
                              (m34 (()) w18)
                              (ifB (s36.1 == (p1.l : Int))
                                (R (.bool false) w18)
                                (n37 ((IntKind.i64.wrap (s36.1 + (1 : Int))), ()) w18))))
                        ((0 : Int), (0 : Int), ()) w17)
                      (m34 (()) w17))
                  ((0 : Int), ()) w8)
              (fun s35 w24 =>
                LoopW (S := Int × Unit) (fun s58 w25 n59 =>
                    ifB (decide (s58.1 < (p1.l : Int)))
                      (JoinW (S := Unit) (fun m60 =>
                          callR Try.prog 66 #[(.slice p1.a p1.l p1.c)] w25 fun v62 w26 =>
                          ∃ x63 : Sl, v62 = (.slice x63.a x63.l x63.c) ∧
                          callR Try.prog 73 #[(.pointer x2), (.slice x63.a x63.l x63.c), (.int .i64 s58.1)] w26 fun v64 w27 =>
                          ∃ x65 : Sl, ∃ x66 : Int, v64 = (.tuple #[(.slice x65.a x65.l x65.c), (.int .i64 x66)]) ∧
                          ifB (x66 == (0 : Int))
                            ((0 ≤ s58.1 ∧ s58.1 < (p1.l : Int)) ∧
                            derefP p1.a fun a67 =>
                            ldI w27 (a67.add ((Int.toNat s58.1) * 3)) .u8 fun x68 =>
                            ifB (x68 == (2 : Int))
                              (callR Try.prog 36 #[(.pointer x2), (.int .i64 s58.1)] w27 fun v69 w28 =>
                              ∃ x70 : Sl, v69 = (.slice x70.a x70.l x70.c) ∧
                              callR Try.prog 75 #[(.slice x70.a x70.l x70.c), (.slice x65.a x65.l x65.c)] w28 fun v71 w29 =>
                              ∃ x72 : Int, v71 = (.int .i64 x72) ∧
                              ifB (decide (x72 > (1 : Int)))
                                (R (.bool false) w29)
                                (m60 (()) w29))
                              (m60 (()) w27))
                            (m60 (()) w27))
                        (fun s61 w30 =>
                          n59 ((IntKind.i64.wrap (s58.1 + (1 : Int))), ()) w30))
                      (callR Try.prog 72 #[] w25 fun v73 w31 =>
                      ∃ x74 : Bool, v73 = (.bool x74) ∧
                      R (.bool x74) w31))
                  ((0 : Int), ()) w24)))
        ((Sl.mk none 0 0), (0 : Int), ()) w7)
theorem intagliolaw16_NestRings_calls (p0 : Sl) (p1 : Sl) (R : Value → World → Prop) (w : World) (h : L_intagliolaw16_NestRings p0 p1 R w) : Calls Try.prog 16 #[(.slice p0.a p0.l p0.c), (.slice p1.a p1.l p1.c)] w (Ret R) :=
  lw_calls (fs := Try.fs) (an := a_intagliolaw16_NestRings) (args := [(.slice p0.a p0.l p0.c), (.slice p1.a p1.l p1.c)]) Try.fsOK Try.mixed Try.func16 (by kernel_rfl) (by kernel_rfl)
    (Eq.mpr (by kernel_rfl : lwFn Try.prog Try.fs Try.f16 a_intagliolaw16_NestRings [(.slice p0.a p0.l p0.c), (.slice p1.a p1.l p1.c)] w R = L_intagliolaw16_NestRings p0 p1 R w) h)

/-- intaglio.intagliolaw16.NestConstructs -/
def a_intagliolaw16_NestConstructs : Ann := (.seq none .nil (.seq none (.seq none .nil (.cond (.seq none .nil .nil) .nil)) (.seq none .nil (.seq none .nil (.seq none (.seq none .nil (.cond (.seq none .nil .nil) .nil)) (.seq none (.seq none .nil (.one (.loop ⟨[0, 1, 2, 7, 9], [(11, (.b (.int .i64)))]⟩ (.seq none (.seq none .nil (.cond .nil .nil)) (.seq (some ⟨[0, 1, 2, 7, 9, 11], []⟩) (.one (.seq none .nil (.seq (some ⟨[0, 1, 2, 7, 9, 11], [(12, (.b (.int .i64)))]⟩) (.seq none .nil (.cond .nil .nil)) (.seq none .nil (.seq none .nil (.seq (some ⟨[0, 1, 2, 7, 9, 11, 12], []⟩) (.seq none .nil (.cond (.seq none .nil .nil) .nil)) (.seq none .nil (.seq none .nil (.seq none .nil (.cond (.seq none .nil .nil) .nil)))))))))) .nil))))) (.seq none .nil .nil)))))))
def L_intagliolaw16_NestConstructs (p0 : Sl) (p1 : Sl) (p2 : Int) (R : Value → World → Prop) (w : World) : Prop :=
  ifB (decide ((p0.l : Int) > (64 : Int)))
    (R (.bool true) w)
    (callR Try.prog 26 #[(.slice p0.a p0.l p0.c)] w fun v1 w1 =>
    ∃ x2 : Option Addr, ∃ x3 : Int, v1 = (.tuple #[(.pointer x2), (.int .i64 x3)]) ∧
    callR Try.prog 28 #[(.slice p0.a p0.l p0.c)] w1 fun v4 w2 =>
    ∃ x5 : Option Addr, ∃ x6 : Int, v4 = (.tuple #[(.pointer x5), (.int .i64 x6)]) ∧
    ifB (x6 != x3)
      (R (.bool false) w2)
      (LoopW (S := Int × Unit) (fun s7 w3 n8 =>
          ifB (decide (s7.1 ≤ (IntKind.i64.wrap ((p0.l : Int) + (1 : Int)))))
            (JoinW (S := Unit) (fun m9 =>
                JoinW (S := Int × Unit) (fun m11 =>
                    ifB (decide (s7.1 > (p0.l : Int)))
                      (m11 (p2, ()) w3)
                      (m11 (s7.1, ()) w3))
                  (fun s12 w4 =>
                    callR Try.prog 82 #[(.pointer x2), (.slice p1.a p1.l p1.c), (.int .i64 s12.1)] w4 fun v13 w5 =>
                    ∃ x14 : Sl, ∃ x15 : Int, v13 = (.tuple #[(.slice x14.a x14.l x14.c), (.int .i64 x15)]) ∧
                    callR Try.prog 66 #[(.slice p1.a p1.l p1.c)] w5 fun v16 w6 =>
                    ∃ x17 : Sl, v16 = (.slice x17.a x17.l x17.c) ∧
                    callR Try.prog 73 #[(.pointer x5), (.slice x17.a x17.l x17.c), (.int .i64 s12.1)] w6 fun v18 w7 =>
                    ∃ x19 : Sl, ∃ x20 : Int, v18 = (.tuple #[(.slice x19.a x19.l x19.c), (.int .i64 x20)]) ∧
                    JoinW (S := Unit) (fun m21 =>
                        ifB (x20 != x15)
                          (R (.bool false) w7)
                          (callR Try.prog 29 #[(.slice x19.a x19.l x19.c), (.slice x14.a x14.l x14.c)] w7 fun v23 w8 =>
                          ∃ x24 : Bool, v23 = (.bool x24) ∧
                          ifB (!x24)
                            (R (.bool false) w8)
                            (m21 (()) w8)))
                      (fun s22 w9 =>
                        callR Try.prog 83 #[(.pointer x2), (.slice p1.a p1.l p1.c), (.int .i64 s12.1)] w9 fun v25 w10 =>
                        ∃ x26 : Int, ∃ x27 : Int, v25 = (.tuple #[(.int .i64 x26), (.int .i64 x27)]) ∧
                        callR Try.prog 66 #[(.slice p1.a p1.l p1.c)] w10 fun v28 w11 =>
                        ∃ x29 : Sl, v28 = (.slice x29.a x29.l x29.c) ∧
                        callR Try.prog 84 #[(.pointer x5), (.slice x29.a x29.l x29.c), (.int .i64 s12.1)] w11 fun v30 w12 =>
                        ∃ x31 : Int, ∃ x32 : Int, v30 = (.tuple #[(.int .i64 x31), (.int .i64 x32)]) ∧
                        ifB (x31 != x26)
                          (R (.bool false) w12)
                          (ifB (x32 != x27)
                            (R (.bool false) w12)
                            (m9 (()) w12)))))
              (fun s10 w13 =>
                n8 ((IntKind.i64.wrap (s7.1 + (1 : Int))), ()) w13))
            (callR Try.prog 72 #[] w3 fun v33 w14 =>
            ∃ x34 : Bool, v33 = (.bool x34) ∧
            R (.bool x34) w14))
        ((-1 : Int), ()) w2))
theorem intagliolaw16_NestConstructs_calls (p0 : Sl) (p1 : Sl) (p2 : Int) (R : Value → World → Prop) (w : World) (h : L_intagliolaw16_NestConstructs p0 p1 p2 R w) : Calls Try.prog 18 #[(.slice p0.a p0.l p0.c), (.slice p1.a p1.l p1.c), (.int .i64 p2)] w (Ret R) :=
  lw_calls (fs := Try.fs) (an := a_intagliolaw16_NestConstructs) (args := [(.slice p0.a p0.l p0.c), (.slice p1.a p1.l p1.c), (.int .i64 p2)]) Try.fsOK Try.mixed Try.func18 (by kernel_rfl) (by kernel_rfl)
    (Eq.mpr (by kernel_rfl : lwFn Try.prog Try.fs Try.f18 a_intagliolaw16_NestConstructs [(.slice p0.a p0.l p0.c), (.slice p1.a p1.l p1.c), (.int .i64 p2)] w R = L_intagliolaw16_NestConstructs p0 p1 p2 R w) h)

/-- intaglio.intagliolaw16.NestNil -/
def a_intagliolaw16_NestNil : Ann := (.seq none .nil (.seq none .nil (.seq none .nil (.seq none .nil (.seq none .nil .nil)))))
def L_intagliolaw16_NestNil (p0 : Sl) (p1 : Int) (R : Value → World → Prop) (w : World) : Prop :=
  callR Try.prog 66 #[(.slice p0.a p0.l p0.c)] w fun v1 w1 =>
  ∃ x2 : Sl, v1 = (.slice x2.a x2.l x2.c) ∧
  callR Try.prog 67 #[(.pointer none), (.slice x2.a x2.l x2.c)] w1 fun v3 w2 =>
  ∃ x4 : Sl, ∃ x5 : Int, v3 = (.tuple #[(.slice x4.a x4.l x4.c), (.int .i64 x5)]) ∧
  callR Try.prog 66 #[(.slice p0.a p0.l p0.c)] w2 fun v6 w3 =>
  ∃ x7 : Sl, v6 = (.slice x7.a x7.l x7.c) ∧
  callR Try.prog 73 #[(.pointer none), (.slice x7.a x7.l x7.c), (.int .i64 p1)] w3 fun v8 w4 =>
  ∃ x9 : Sl, ∃ x10 : Int, v8 = (.tuple #[(.slice x9.a x9.l x9.c), (.int .i64 x10)]) ∧
  callR Try.prog 66 #[(.slice p0.a p0.l p0.c)] w4 fun v11 w5 =>
  ∃ x12 : Sl, v11 = (.slice x12.a x12.l x12.c) ∧
  callR Try.prog 84 #[(.pointer none), (.slice x12.a x12.l x12.c), (.int .i64 p1)] w5 fun v13 w6 =>
  ∃ x14 : Int, ∃ x15 : Int, v13 = (.tuple #[(.int .i64 x14), (.int .i64 x15)]) ∧
  ifB ((x4.l : Int) == (0 : Int))
    (ifB (x5 == (1 : Int))
      (ifB ((x9.l : Int) == (0 : Int))
        (ifB (x10 == (1 : Int))
          (ifB (x14 == (0 : Int))
            (ifB (x15 == (1 : Int))
              (callR Try.prog 66 #[(.slice p0.a p0.l p0.c)] w6 fun v16 w7 =>
              ∃ x17 : Sl, v16 = (.slice x17.a x17.l x17.c) ∧
              callR Try.prog 70 #[(.pointer none), (.slice x17.a x17.l x17.c)] w7 fun v18 w8 =>
              ∃ x19 : (Int × Int × Unit), v18 = (.agg #[(.int .i64 x19.1), (.int .i64 x19.2.1)]) ∧
              ifB (x19.1 == (1 : Int) && (x19.2.1 == (0 : Int) && true))
                (callR Try.prog 72 #[] w8 fun v20 w9 =>
                ∃ x21 : Bool, v20 = (.bool x21) ∧
                R (.bool x21) w9)
                (R (.bool false) w8))
              (R (.bool false) w6))
            (R (.bool false) w6))
          (R (.bool false) w6))
        (R (.bool false) w6))
      (R (.bool false) w6))
    (R (.bool false) w6)
theorem intagliolaw16_NestNil_calls (p0 : Sl) (p1 : Int) (R : Value → World → Prop) (w : World) (h : L_intagliolaw16_NestNil p0 p1 R w) : Calls Try.prog 19 #[(.slice p0.a p0.l p0.c), (.int .i64 p1)] w (Ret R) :=
  lw_calls (fs := Try.fs) (an := a_intagliolaw16_NestNil) (args := [(.slice p0.a p0.l p0.c), (.int .i64 p1)]) Try.fsOK Try.mixed Try.func19 (by kernel_rfl) (by kernel_rfl)
    (Eq.mpr (by kernel_rfl : lwFn Try.prog Try.fs Try.f19 a_intagliolaw16_NestNil [(.slice p0.a p0.l p0.c), (.int .i64 p1)] w R = L_intagliolaw16_NestNil p0 p1 R w) h)

/-- intaglio.intagliolaw16.NestWithin -/
def a_intagliolaw16_NestWithin : Ann := (.seq none .nil (.seq none .nil (.seq (some ⟨[1, 5], []⟩) (.seq none .nil (.cond (.seq none .nil .nil) .nil)) (.seq none .nil (.seq none (.seq none .nil (.cond (.seq none .nil .nil) .nil)) (.seq none .nil (.seq none (.seq none .nil (.one (.loop ⟨[1, 5, 7], [(8, (.b (.int .i64)))]⟩ (.seq none (.seq none .nil (.cond .nil .nil)) (.seq none (.one (.seq none .nil (.seq (some ⟨[1, 5, 7, 8, 9], []⟩) (.seq none .nil (.cond (.seq none .nil .nil) .nil)) (.seq none .nil (.seq none .nil (.one (.loop ⟨[1, 5, 7, 8, 9], [(11, (.b (.int .i64)))]⟩ (.seq none (.seq none .nil (.cond .nil .nil)) (.seq (some ⟨[1, 5, 7, 8, 9, 11], []⟩) (.one (.seq none .nil (.seq none .nil (.cond (.seq none .nil .nil) .nil)))) .nil))))))))) .nil))))) (.seq none (.seq none .nil (.one (.loop ⟨[1, 5, 7], [(13, (.b (.int .i64)))]⟩ (.seq none (.seq none .nil (.cond .nil .nil)) (.seq (some ⟨[1, 5, 7, 13], []⟩) (.one (.seq none .nil (.seq none (.seq none .nil (.one (.loop ⟨[1, 5, 7, 13], [(14, (.b (.int .i64))), (15, (.b (.int .i64)))]⟩ (.seq none (.seq none .nil (.cond .nil .nil)) (.seq (some ⟨[1, 5, 7, 13, 15], [(14, (.b (.int .i64)))]⟩) (.one (.seq none .nil (.cond .nil .nil))) .nil))))) (.seq none .nil (.seq none .nil (.cond (.seq none .nil .nil) .nil)))))) .nil))))) (.seq none .nil .nil)))))))))
def L_intagliolaw16_NestWithin (p0 : Sl) (p1 : Sl) (R : Value → World → Prop) (w : World) : Prop :=
  callR Try.prog 28 #[(.slice p0.a p0.l p0.c)] w fun v1 w1 =>
  ∃ x2 : Option Addr, ∃ x3 : Int, v1 = (.tuple #[(.pointer x2), (.int .i64 x3)]) ∧
  JoinW (S := Unit) (fun m4 =>
      ifB (x3 != (0 : Int))
        (callR Try.prog 72 #[] w1 fun v6 w2 =>
        ∃ x7 : Bool, v6 = (.bool x7) ∧
        R (.bool x7) w2)
        (ifB (decide ((p0.l : Int) > (64 : Int)))
          (callR Try.prog 72 #[] w1 fun v8 w3 =>
          ∃ x9 : Bool, v8 = (.bool x9) ∧
          R (.bool x9) w3)
          (m4 (()) w1)))
    (fun s5 w4 =>
      callR Try.prog 66 #[(.slice p1.a p1.l p1.c)] w4 fun v10 w5 =>
      ∃ x11 : Sl, v10 = (.slice x11.a x11.l x11.c) ∧
      callR Try.prog 67 #[(.pointer x2), (.slice x11.a x11.l x11.c)] w5 fun v12 w6 =>
      ∃ x13 : Sl, ∃ x14 : Int, v12 = (.tuple #[(.slice x13.a x13.l x13.c), (.int .i64 x14)]) ∧
      ifB (x14 != (0 : Int))
        (callR Try.prog 72 #[] w6 fun v15 w7 =>
        ∃ x16 : Bool, v15 = (.bool x16) ∧
        R (.bool x16) w7)
        ((0 ≤ (p1.l : Int) ∧ (p1.l : Int) ≤ (p1.l : Int) ∧ (24 : Int) * (p1.l : Int) ≤ 281474976710656 ∧ (p1.l : Int) ≤ 9223372036854775807) ∧
        Nw (w6.alloc (.cells (madeCells #[(.slice none 0 0)] (p1.l * 1)) 32)) fun w8 =>
        LoopW (S := Int × Unit) (fun s17 w9 n18 =>
            ifB (decide (s17.1 < (p1.l : Int)))
              (callR Try.prog 66 #[(.slice p1.a p1.l p1.c)] w9 fun v19 w10 =>
              ∃ x20 : Sl, v19 = (.slice x20.a x20.l x20.c) ∧
              callR Try.prog 73 #[(.pointer x2), (.slice x20.a x20.l x20.c), (.int .i64 s17.1)] w10 fun v21 w11 =>
              ∃ x22 : Sl, ∃ x23 : Int, v21 = (.tuple #[(.slice x22.a x22.l x22.c), (.int .i64 x23)]) ∧
              JoinW (S := Unit) (fun m24 =>
                  ifB (x23 != (0 : Int))
                    (ifB ((x22.l : Int) != (0 : Int))
                      (R (.bool false) w11)
                      (m24 (()) w11))
                    (m24 (()) w11))
                (fun s25 w12 =>
                  (0 ≤ s17.1 ∧ s17.1 < (p1.l : Int)) ∧
                  Wr w12 ((blk w6.heap.size).add (Int.toNat s17.1)) ∧
                  Nw (w12.setCell ((blk w6.heap.size).add (Int.toNat s17.1)) (.slice x22.a x22.l x22.c)) fun w13 =>
                  LoopW (S := Int × Unit) (fun s26 w14 n27 =>
                      ifB (decide (s26.1 < s17.1))
                        (JoinW (S := Unit) (fun m28 =>
                            (0 ≤ s26.1 ∧ s26.1 < (p1.l : Int)) ∧
                            ldS w14 ((blk w6.heap.size).add (Int.toNat s26.1)) fun x30 =>
                            callR Try.prog 75 #[(.slice x22.a x22.l x22.c), (.slice x30.a x30.l x30.c)] w14 fun v31 w15 =>
                            ∃ x32 : Int, v31 = (.int .i64 x32) ∧
                            ifB (x32 != (0 : Int))
                              (ifB (x32 != (x22.l : Int))
                                ((0 ≤ s26.1 ∧ s26.1 < (p1.l : Int)) ∧
                                ldS w15 ((blk w6.heap.size).add (Int.toNat s26.1)) fun x33 =>
                                ifB (x32 != (x33.l : Int))
                                  (R (.bool false) w15)
                                  (m28 (()) w15))
                                (m28 (()) w15))
                              (m28 (()) w15))
                          (fun s29 w16 =>
                            n27 ((IntKind.i64.wrap (s26.1 + (1 : Int))), ()) w16))
                        (n18 ((IntKind.i64.wrap (s17.1 + (1 : Int))), ()) w14))
                    ((0 : Int), ()) w13))
              (LoopW (S := Int × Unit) (fun s34 w17 n35 =>
                  ifB (decide (s34.1 < (p1.l : Int)))
                    (JoinW (S := Unit) (fun m36 =>
                        LoopW (S := Int × Int × Unit) (fun s38 w18 n39 =>
                            ifB (decide (s38.2.1 < (p1.l : Int)))
                              (JoinW (S := Int × Unit) (fun m40 =>
                                  (0 ≤ s38.2.1 ∧ s38.2.1 < (p1.l : Int)) ∧
                                  ldS w18.drew ((blk w6.heap.size).add (Int.toNat s38.2.1)) fun x42 =>
                                  callR Try.prog 74 #[(.slice x42.a x42.l x42.c), (.int .i64 s34.1)] w18.drew fun v43 w19 =>
                                  ∃ x44 : Bool, v43 = (.bool x44) ∧
                                  ifB x44
                                    (ifB (decide (s38.1 < (0 : Int)))
                                      (m40 (s38.2.1, ()) w19)
                                      ((0 ≤ s38.2.1 ∧ s38.2.1 < (p1.l : Int)) ∧
                                      ldS w19 ((blk w6.heap.size).add (Int.toNat s38.2.1)) fun x45 =>
                                      (0 ≤ s38.1 ∧ s38.1 < (p1.l : Int)) ∧
                                      ldS w19 ((blk w6.heap.size).add (Int.toNat s38.1)) fun x46 =>
                                      ifB (decide ((x45.l : Int) < (x46.l : Int)))
                                        (m40 (s38.2.1, ()) w19)
                                        (m40 (s38.1, ()) w19)))
                                    (m40 (s38.1, ()) w19))
                                (fun s41 w20 =>
                                  n39 (s41.1, (IntKind.i64.wrap (s38.2.1 + (1 : Int))), ()) w20))
                              (callR Try.prog 66 #[(.slice p1.a p1.l p1.c)] w18 fun v47 w21 =>
                              ∃ x48 : Sl, v47 = (.slice x48.a x48.l x48.c) ∧
                              callR Try.prog 84 #[(.pointer x2), (.slice x48.a x48.l x48.c), (.int .i64 s34.1)] w21 fun v49 w22 =>
                              ∃ x50 : Int, ∃ x51 : Int, v49 = (.tuple #[(.int .i64 x50), (.int .i64 x51)]) ∧
                              ifB (x51 != (0 : Int))
                                (R (.bool false) w22.drew)
                                (ifB (!((decide (x50 < (0 : Int))) == (decide (s38.1 < (0 : Int)))))
                                  (R (.bool false) w22.drew)
                                  (ifB (decide (x50 ≥ (0 : Int)))
                                    ((0 ≤ x50 ∧ x50 < (p1.l : Int)) ∧
                                    ldS w22.drew ((blk w6.heap.size).add (Int.toNat x50)) fun x52 =>
                                    (0 ≤ s38.1 ∧ s38.1 < (p1.l : Int)) ∧
                                    ldS w22.drew ((blk w6.heap.size).add (Int.toNat s38.1)) fun x53 =>
                                    ifB ((x52.l : Int) != (x53.l : Int))
                                      (R (.bool false) w22.drew)
                                      ((0 ≤ x50 ∧ x50 < (p1.l : Int)) ∧
                                      ldS w22.drew ((blk w6.heap.size).add (Int.toNat x50)) fun x54 =>
                                      callR Try.prog 74 #[(.slice x54.a x54.l x54.c), (.int .i64 s34.1)] w22.drew fun v55 w23 =>
                                      ∃ x56 : Bool, v55 = (.bool x56) ∧
                                      ifB (!x56)
                                        (R (.bool false) w23)
                                        (m36 (()) w23)))
                                    (m36 (()) w22.drew)))))
                          ((-1 : Int), (0 : Int), ()) w17)
                      (fun s37 w24 =>
                        n35 ((IntKind.i64.wrap (s34.1 + (1 : Int))), ()) w24))
                    (callR Try.prog 72 #[] w17 fun v57 w25 =>
                    ∃ x58 : Bool, v57 = (.bool x58) ∧
                    R (.bool x58) w25))
                ((0 : Int), ()) w9))
          ((0 : Int), ()) w8))
theorem intagliolaw16_NestWithin_calls (p0 : Sl) (p1 : Sl) (R : Value → World → Prop) (w : World) (h : L_intagliolaw16_NestWithin p0 p1 R w) : Calls Try.prog 20 #[(.slice p0.a p0.l p0.c), (.slice p1.a p1.l p1.c)] w (Ret R) :=
  lw_calls (fs := Try.fs) (an := a_intagliolaw16_NestWithin) (args := [(.slice p0.a p0.l p0.c), (.slice p1.a p1.l p1.c)]) Try.fsOK Try.mixed Try.func20 (by kernel_rfl) (by kernel_rfl)
    (Eq.mpr (by kernel_rfl : lwFn Try.prog Try.fs Try.f20 a_intagliolaw16_NestWithin [(.slice p0.a p0.l p0.c), (.slice p1.a p1.l p1.c)] w R = L_intagliolaw16_NestWithin p0 p1 R w) h)

/-- intaglio.intagliolaw16.copied -/
def a_intagliolaw16_copied : Ann := (.seq none .nil (.seq none .nil (.seq none (.seq none .nil (.one (.loop ⟨[0, 3], [(4, (.b (.int .i64)))]⟩ (.seq none (.seq none .nil (.cond .nil .nil)) (.seq none (.one .nil) .nil))))) (.seq none .nil .nil))))
def L_intagliolaw16_copied (p0 : Sl) (R : Value → World → Prop) (w : World) : Prop :=
  (0 ≤ (p0.l : Int) ∧ (p0.l : Int) ≤ (p0.l : Int) ∧ (24 : Int) * (p0.l : Int) ≤ 281474976710656 ∧ (p0.l : Int) ≤ 9223372036854775807) ∧
  Nw (w.alloc (.cells (madeCells #[(.int .u8 (0 : Int)), (.int .i64 (0 : Int)), (.int .i64 (0 : Int))] (p0.l * 3)) 82)) fun w1 =>
  LoopW (S := Int × Unit) (fun s1 w2 n2 =>
      ifB (decide (s1.1 < (p0.l : Int)))
        ((0 ≤ s1.1 ∧ s1.1 < (p0.l : Int)) ∧
        derefP p0.a fun a3 =>
        ldI w2 ((a3.add ((Int.toNat s1.1) * 3)).add 0) .u8 fun x4 =>
        ldI w2 ((a3.add ((Int.toNat s1.1) * 3)).add 1) .i64 fun x5 =>
        ldI w2 ((a3.add ((Int.toNat s1.1) * 3)).add 2) .i64 fun x6 =>
        (0 ≤ s1.1 ∧ s1.1 < (p0.l : Int)) ∧
        Wr w2 ((blk w.heap.size).add ((Int.toNat s1.1) * 3)) ∧
        Nw (w2.setCell ((blk w.heap.size).add ((Int.toNat s1.1) * 3)) (.int .u8 x4)) fun w3 =>
        Wr w3 (((blk w.heap.size).add ((Int.toNat s1.1) * 3)).add 1) ∧
        Nw (w3.setCell (((blk w.heap.size).add ((Int.toNat s1.1) * 3)).add 1) (.int .i64 x5)) fun w4 =>
        Wr w4 (((blk w.heap.size).add ((Int.toNat s1.1) * 3)).add 2) ∧
        Nw (w4.setCell (((blk w.heap.size).add ((Int.toNat s1.1) * 3)).add 2) (.int .i64 x6)) fun w5 =>
        n2 ((IntKind.i64.wrap (s1.1 + (1 : Int))), ()) w5)
        (R (.slice (some (blk w.heap.size)) p0.l p0.l) w2))
    ((0 : Int), ()) w1
theorem intagliolaw16_copied_calls (p0 : Sl) (R : Value → World → Prop) (w : World) (h : L_intagliolaw16_copied p0 R w) : Calls Try.prog 66 #[(.slice p0.a p0.l p0.c)] w (Ret R) :=
  lw_calls (fs := Try.fs) (an := a_intagliolaw16_copied) (args := [(.slice p0.a p0.l p0.c)]) Try.fsOK Try.mixed Try.func66 (by kernel_rfl) (by kernel_rfl)
    (Eq.mpr (by kernel_rfl : lwFn Try.prog Try.fs Try.f66 a_intagliolaw16_copied [(.slice p0.a p0.l p0.c)] w R = L_intagliolaw16_copied p0 R w) h)

/-- intaglio.nest.Flaws -/
def a_nest_Flaws : Ann := (.seq none .nil (.seq none .nil (.seq none (.seq none .nil (.cond (.seq none .nil .nil) .nil)) (.seq none .nil .nil))))
def L_nest_Flaws (p0 : Option Addr) (p1 : Sl) (R : Value → World → Prop) (w : World) : Prop :=
  callR Try.prog 120 #[(.pointer p0), (.slice p1.a p1.l p1.c)] w fun v1 w1 =>
  ∃ x2 : Option Addr, ∃ x3 : Int, v1 = (.tuple #[(.pointer x2), (.int .i64 x3)]) ∧
  ifB (x3 != (0 : Int))
    (R (.tuple #[(.slice none 0 0), (.int .i64 x3)]) w1)
    (callR Try.prog 121 #[(.pointer x2)] w1 fun v4 w2 =>
    ∃ x5 : Sl, v4 = (.slice x5.a x5.l x5.c) ∧
    R (.tuple #[(.slice x5.a x5.l x5.c), (.int .i64 (0 : Int))]) w2)
theorem nest_Flaws_calls (p0 : Option Addr) (p1 : Sl) (R : Value → World → Prop) (w : World) (h : L_nest_Flaws p0 p1 R w) : Calls Try.prog 67 #[(.pointer p0), (.slice p1.a p1.l p1.c)] w (Ret R) :=
  lw_calls (fs := Try.fs) (an := a_nest_Flaws) (args := [(.pointer p0), (.slice p1.a p1.l p1.c)]) Try.fsOK Try.mixed Try.func67 (by kernel_rfl) (by kernel_rfl)
    (Eq.mpr (by kernel_rfl : lwFn Try.prog Try.fs Try.f67 a_nest_Flaws [(.pointer p0), (.slice p1.a p1.l p1.c)] w R = L_nest_Flaws p0 p1 R w) h)

/-- intaglio.intagliolaw16.flaws -/
def a_intagliolaw16_flaws : Ann := (.seq none .nil (.seq none (.seq none .nil (.cond (.seq none .nil .nil) .nil)) (.seq none (.seq none .nil (.one (.loop ⟨[0, 1], [(5, (.b (.int .i64)))]⟩ (.seq none (.seq none .nil (.cond .nil .nil)) (.seq none (.one (.seq none .nil (.cond (.seq none .nil .nil) .nil))) .nil))))) (.seq none .nil .nil))))
def L_intagliolaw16_flaws (p0 : Sl) (p1 : Sl) (R : Value → World → Prop) (w : World) : Prop :=
  ifB ((p0.l : Int) != (p1.l : Int))
    (R (.bool false) w)
    (LoopW (S := Int × Unit) (fun s1 w1 n2 =>
        ifB (decide (s1.1 < (p0.l : Int)))
          ((0 ≤ s1.1 ∧ s1.1 < (p0.l : Int)) ∧
          derefP p0.a fun a3 =>
          ldI w1.drew ((a3.add ((Int.toNat s1.1) * 2)).add 0) .i64 fun x4 =>
          ldI w1.drew ((a3.add ((Int.toNat s1.1) * 2)).add 1) .i64 fun x5 =>
          (0 ≤ s1.1 ∧ s1.1 < (p1.l : Int)) ∧
          derefP p1.a fun a6 =>
          ldI w1.drew ((a6.add ((Int.toNat s1.1) * 2)).add 0) .i64 fun x7 =>
          ldI w1.drew ((a6.add ((Int.toNat s1.1) * 2)).add 1) .i64 fun x8 =>
          ifB (!(x4 == x7 && (x5 == x8 && true)))
            (R (.bool false) w1.drew)
            (n2 ((IntKind.i64.wrap (s1.1 + (1 : Int))), ()) w1.drew))
          (R (.bool true) w1))
      ((0 : Int), ()) w)
theorem intagliolaw16_flaws_calls (p0 : Sl) (p1 : Sl) (R : Value → World → Prop) (w : World) (h : L_intagliolaw16_flaws p0 p1 R w) : Calls Try.prog 68 #[(.slice p0.a p0.l p0.c), (.slice p1.a p1.l p1.c)] w (Ret R) :=
  lw_calls (fs := Try.fs) (an := a_intagliolaw16_flaws) (args := [(.slice p0.a p0.l p0.c), (.slice p1.a p1.l p1.c)]) Try.fsOK Try.mixed Try.func68 (by kernel_rfl) (by kernel_rfl)
    (Eq.mpr (by kernel_rfl : lwFn Try.prog Try.fs Try.f68 a_intagliolaw16_flaws [(.slice p0.a p0.l p0.c), (.slice p1.a p1.l p1.c)] w R = L_intagliolaw16_flaws p0 p1 R w) h)

/-- intaglio.intagliolaw16.same -/
def a_intagliolaw16_same : Ann := (.seq none .nil (.seq none (.seq none .nil (.cond (.seq none .nil .nil) .nil)) (.seq none (.seq none .nil (.one (.loop ⟨[0, 1], [(5, (.b (.int .i64)))]⟩ (.seq none (.seq none .nil (.cond .nil .nil)) (.seq none (.one (.seq none .nil (.cond (.seq none .nil .nil) .nil))) .nil))))) (.seq none .nil .nil))))
def L_intagliolaw16_same (p0 : Sl) (p1 : Sl) (R : Value → World → Prop) (w : World) : Prop :=
  ifB ((p0.l : Int) != (p1.l : Int))
    (R (.bool false) w)
    (LoopW (S := Int × Unit) (fun s1 w1 n2 =>
        ifB (decide (s1.1 < (p0.l : Int)))
          ((0 ≤ s1.1 ∧ s1.1 < (p0.l : Int)) ∧
          derefP p0.a fun a3 =>
          ldI w1.drew ((a3.add ((Int.toNat s1.1) * 3)).add 0) .u8 fun x4 =>
          ldI w1.drew ((a3.add ((Int.toNat s1.1) * 3)).add 1) .i64 fun x5 =>
          ldI w1.drew ((a3.add ((Int.toNat s1.1) * 3)).add 2) .i64 fun x6 =>
          (0 ≤ s1.1 ∧ s1.1 < (p1.l : Int)) ∧
          derefP p1.a fun a7 =>
          ldI w1.drew ((a7.add ((Int.toNat s1.1) * 3)).add 0) .u8 fun x8 =>
          ldI w1.drew ((a7.add ((Int.toNat s1.1) * 3)).add 1) .i64 fun x9 =>
          ldI w1.drew ((a7.add ((Int.toNat s1.1) * 3)).add 2) .i64 fun x10 =>
          ifB (!(x4 == x8 && (x5 == x9 && (x6 == x10 && true))))
            (R (.bool false) w1.drew)
            (n2 ((IntKind.i64.wrap (s1.1 + (1 : Int))), ()) w1.drew))
          (R (.bool true) w1))
      ((0 : Int), ()) w)
theorem intagliolaw16_same_calls (p0 : Sl) (p1 : Sl) (R : Value → World → Prop) (w : World) (h : L_intagliolaw16_same p0 p1 R w) : Calls Try.prog 69 #[(.slice p0.a p0.l p0.c), (.slice p1.a p1.l p1.c)] w (Ret R) :=
  lw_calls (fs := Try.fs) (an := a_intagliolaw16_same) (args := [(.slice p0.a p0.l p0.c), (.slice p1.a p1.l p1.c)]) Try.fsOK Try.mixed Try.func69 (by kernel_rfl) (by kernel_rfl)
    (Eq.mpr (by kernel_rfl : lwFn Try.prog Try.fs Try.f69 a_intagliolaw16_same [(.slice p0.a p0.l p0.c), (.slice p1.a p1.l p1.c)] w R = L_intagliolaw16_same p0 p1 R w) h)

/-- intaglio.nest.Check -/
def a_nest_Check : Ann := (.seq none .nil (.seq none .nil (.seq none (.one (.seq none .nil (.cond (.seq none .nil .nil) (.seq none .nil (.cond (.seq none .nil .nil) .nil))))) (.seq none .nil .nil))))
def L_nest_Check (p0 : Option Addr) (p1 : Sl) (R : Value → World → Prop) (w : World) : Prop :=
  Nw (w.alloc (.cells #[(.int .i64 (0 : Int)), (.int .i64 (0 : Int))] 75)) fun w1 =>
  callR Try.prog 67 #[(.pointer p0), (.slice p1.a p1.l p1.c)] w1 fun v1 w2 =>
  ∃ x2 : Sl, ∃ x3 : Int, v1 = (.tuple #[(.slice x2.a x2.l x2.c), (.int .i64 x3)]) ∧
  ifB (x3 != (0 : Int))
    (Wr w2 (blk w.heap.size) ∧
    Nw (w2.setCell (blk w.heap.size) (.int .i64 x3)) fun w3 =>
    Wr w3 ((blk w.heap.size).add 1) ∧
    Nw (w3.setCell ((blk w.heap.size).add 1) (.int .i64 (0 : Int))) fun w4 =>
    ldI w4 ((blk w.heap.size).add 0) .i64 fun x4 =>
    ldI w4 ((blk w.heap.size).add 1) .i64 fun x5 =>
    R (.agg #[(.int .i64 x4), (.int .i64 x5)]) w4)
    (ifB (decide ((x2.l : Int) > (0 : Int)))
      ((0 ≤ (0 : Int) ∧ (0 : Int) < (x2.l : Int)) ∧
      derefP x2.a fun a6 =>
      ldI w2.drew ((a6.add (0 * 2)).add 1) .i64 fun x7 =>
      (0 ≤ (0 : Int) ∧ (0 : Int) < (x2.l : Int)) ∧
      derefP x2.a fun a8 =>
      ldI w2.drew (a8.add (0 * 2)) .i64 fun x9 =>
      Wr w2.drew (blk w.heap.size) ∧
      Nw (w2.drew.setCell (blk w.heap.size) (.int .i64 x7)) fun w5 =>
      Wr w5 ((blk w.heap.size).add 1) ∧
      Nw (w5.setCell ((blk w.heap.size).add 1) (.int .i64 x9)) fun w6 =>
      ldI w6 ((blk w.heap.size).add 0) .i64 fun x10 =>
      ldI w6 ((blk w.heap.size).add 1) .i64 fun x11 =>
      R (.agg #[(.int .i64 x10), (.int .i64 x11)]) w6)
      (Wr w2 (blk w.heap.size) ∧
      Nw (w2.setCell (blk w.heap.size) (.int .i64 (0 : Int))) fun w7 =>
      Wr w7 ((blk w.heap.size).add 1) ∧
      Nw (w7.setCell ((blk w.heap.size).add 1) (.int .i64 (0 : Int))) fun w8 =>
      ldI w8 ((blk w.heap.size).add 0) .i64 fun x12 =>
      ldI w8 ((blk w.heap.size).add 1) .i64 fun x13 =>
      R (.agg #[(.int .i64 x12), (.int .i64 x13)]) w8))
theorem nest_Check_calls (p0 : Option Addr) (p1 : Sl) (R : Value → World → Prop) (w : World) (h : L_nest_Check p0 p1 R w) : Calls Try.prog 70 #[(.pointer p0), (.slice p1.a p1.l p1.c)] w (Ret R) :=
  lw_calls (fs := Try.fs) (an := a_nest_Check) (args := [(.pointer p0), (.slice p1.a p1.l p1.c)]) Try.fsOK Try.mixed Try.func70 (by kernel_rfl) (by kernel_rfl)
    (Eq.mpr (by kernel_rfl : lwFn Try.prog Try.fs Try.f70 a_nest_Check [(.pointer p0), (.slice p1.a p1.l p1.c)] w R = L_nest_Check p0 p1 R w) h)

/-- intaglio.intagliolaw16.awake -/
def a_intagliolaw16_awake : Ann := (.seq none .nil (.seq none .nil (.seq none .nil (.seq none .nil (.seq (some ⟨[3], []⟩) (.seq none .nil (.cond (.seq none .nil .nil) .nil)) (.seq none .nil (.seq none .nil .nil)))))))
def L_intagliolaw16_awake  (R : Value → World → Prop) (w : World) : Prop :=
  callR Try.prog 122 #[(.int .u8 (1 : Int))] w fun v1 w1 =>
  ∃ x2 : Sl, ∃ x3 : Sl, v1 = (.tuple #[(.slice x2.a x2.l x2.c), (.slice x3.a x3.l x3.c)]) ∧
  callR Try.prog 28 #[(.slice x2.a x2.l x2.c)] w1 fun v4 w2 =>
  ∃ x5 : Option Addr, ∃ x6 : Int, v4 = (.tuple #[(.pointer x5), (.int .i64 x6)]) ∧
  callR Try.prog 73 #[(.pointer x5), (.slice x3.a x3.l x3.c), (.int .i64 (0 : Int))] w2 fun v7 w3 =>
  ∃ x8 : Sl, ∃ x9 : Int, v7 = (.tuple #[(.slice x8.a x8.l x8.c), (.int .i64 x9)]) ∧
  JoinW (S := Unit) (fun m10 =>
      ifB (x6 != (0 : Int))
        (R (.bool false) w3)
        (ifB (x9 != (0 : Int))
          (R (.bool false) w3)
          (callR Try.prog 123 #[(.int .i64 (0 : Int)), (.int .i64 (1 : Int))] w3 fun v12 w4 =>
          ∃ x13 : Sl, v12 = (.slice x13.a x13.l x13.c) ∧
          callR Try.prog 29 #[(.slice x8.a x8.l x8.c), (.slice x13.a x13.l x13.c)] w4 fun v14 w5 =>
          ∃ x15 : Bool, v14 = (.bool x15) ∧
          ifB (!x15)
            (R (.bool false) w5)
            (callR Try.prog 70 #[(.pointer x5), (.slice x3.a x3.l x3.c)] w5 fun v16 w6 =>
            ∃ x17 : (Int × Int × Unit), v16 = (.agg #[(.int .i64 x17.1), (.int .i64 x17.2.1)]) ∧
            ifB (!(x17.1 == (0 : Int) && (x17.2.1 == (0 : Int) && true)))
              (R (.bool false) w6)
              (m10 (()) w6)))))
    (fun s11 w7 =>
      callR Try.prog 122 #[(.int .u8 (0 : Int))] w7 fun v18 w8 =>
      ∃ x19 : Sl, ∃ x20 : Sl, v18 = (.tuple #[(.slice x19.a x19.l x19.c), (.slice x20.a x20.l x20.c)]) ∧
      callR Try.prog 70 #[(.pointer x5), (.slice x20.a x20.l x20.c)] w8 fun v21 w9 =>
      ∃ x22 : (Int × Int × Unit), v21 = (.agg #[(.int .i64 x22.1), (.int .i64 x22.2.1)]) ∧
      R (.bool (x22.1 == (163 : Int) && (x22.2.1 == (0 : Int) && true))) w9)
theorem intagliolaw16_awake_calls  (R : Value → World → Prop) (w : World) (h : L_intagliolaw16_awake  R w) : Calls Try.prog 72 #[] w (Ret R) :=
  lw_calls (fs := Try.fs) (an := a_intagliolaw16_awake) (args := []) Try.fsOK Try.mixed Try.func72 (by kernel_rfl) (by kernel_rfl)
    (Eq.mpr (by kernel_rfl : lwFn Try.prog Try.fs Try.f72 a_intagliolaw16_awake [] w R = L_intagliolaw16_awake  R w) h)

/-- intaglio.nest.Construct -/
def a_nest_Construct : Ann := (.seq none .nil (.seq none .nil (.seq (some ⟨[2, 8], []⟩) (.one (.seq none .nil (.cond (.seq none .nil .nil) (.seq none .nil (.cond (.seq none .nil .nil) (.seq none .nil (.cond (.seq none .nil .nil) .nil))))))) (.seq none .nil (.seq none (.seq none .nil (.one (.loop ⟨[2, 8, 50], [(10, (.b .slice)), (51, (.b (.int .i64)))]⟩ (.seq none .nil (.seq none (.cond .nil .nil) (.seq (some ⟨[2, 8, 50, 51], [(10, (.b .slice))]⟩) (.one (.seq none .nil (.seq none .nil (.cond .nil .nil)))) .nil)))))) (.seq none .nil .nil))))))
def L_nest_Construct (p0 : Option Addr) (p1 : Sl) (p2 : Int) (R : Value → World → Prop) (w : World) : Prop :=
  callR Try.prog 120 #[(.pointer p0), (.slice p1.a p1.l p1.c)] w fun v1 w1 =>
  ∃ x2 : Option Addr, ∃ x3 : Int, v1 = (.tuple #[(.pointer x2), (.int .i64 x3)]) ∧
  JoinW (S := Unit) (fun m4 =>
      ifB (x3 != (0 : Int))
        (R (.tuple #[(.slice none 0 0), (.int .i64 x3)]) w1)
        (callR Try.prog 124 #[(.pointer p0), (.int .i64 p2)] w1 fun v6 w2 =>
        ∃ x7 : Bool, v6 = (.bool x7) ∧
        ifB (!x7)
          (R (.tuple #[(.slice none 0 0), (.int .i64 (3 : Int))]) w2)
          (derefP x2 fun a8 =>
          ldS w2 (a8.add 1) fun x9 =>
          (0 ≤ p2 ∧ p2 < (x9.l : Int)) ∧
          derefP x9.a fun a10 =>
          ldI w2 (a10.add ((Int.toNat p2) * 3)) .u8 fun x11 =>
          ifB (x11 == (0 : Int))
            (R (.tuple #[(.slice none 0 0), (.int .i64 (5 : Int))]) w2)
            (derefP x2 fun a12 =>
            ldP w2 (a12.add 2) fun x13 =>
            callR Try.prog 38 #[(.pointer x13), (.int .i64 p2)] w2 fun v14 w3 =>
            ∃ x15 : Bool, v14 = (.bool x15) ∧
            ifB (!x15)
              (R (.tuple #[(.slice none 0 0), (.int .i64 (5 : Int))]) w3)
              (m4 (()) w3)))))
    (fun s5 w4 =>
      derefP x2 fun a16 =>
      ldS w4 (a16.add 4) fun x17 =>
      LoopW (S := Sl × Int × Unit) (fun s18 w5 n19 =>
          ifB (decide (s18.2.1 < (x17.l : Int)))
            (JoinW (S := Sl × Unit) (fun m20 =>
                callR Try.prog 125 #[(.pointer x2), (.int .i64 p2), (.int .i64 s18.2.1)] w5 fun v22 w6 =>
                ∃ x23 : Bool, v22 = (.bool x23) ∧
                ifB x23
                  (Nw (w6.alloc (.cells #[(.int .i64 s18.2.1)] 3)) fun w7 =>
                  appendS Try.prog 32 (.slice s18.1.a s18.1.l s18.1.c) (.slice (some (blk w6.heap.size)) 1 1) w7 fun r24 w8 =>
                  m20 (r24, ()) w8)
                  (m20 (s18.1, ()) w6))
              (fun s21 w9 =>
                n19 (s21.1, (IntKind.i64.wrap (s18.2.1 + (1 : Int))), ()) w9))
            (R (.tuple #[(.slice s18.1.a s18.1.l s18.1.c), (.int .i64 (0 : Int))]) w5))
        ((Sl.mk none 0 0), (0 : Int), ()) w4)
theorem nest_Construct_calls (p0 : Option Addr) (p1 : Sl) (p2 : Int) (R : Value → World → Prop) (w : World) (h : L_nest_Construct p0 p1 p2 R w) : Calls Try.prog 73 #[(.pointer p0), (.slice p1.a p1.l p1.c), (.int .i64 p2)] w (Ret R) :=
  lw_calls (fs := Try.fs) (an := a_nest_Construct) (args := [(.pointer p0), (.slice p1.a p1.l p1.c), (.int .i64 p2)]) Try.fsOK Try.mixed Try.func73 (by kernel_rfl) (by kernel_rfl)
    (Eq.mpr (by kernel_rfl : lwFn Try.prog Try.fs Try.f73 a_nest_Construct [(.pointer p0), (.slice p1.a p1.l p1.c), (.int .i64 p2)] w R = L_nest_Construct p0 p1 p2 R w) h)

/-- intaglio.intagliolaw16.in -/
def a_intagliolaw16_in : Ann := (.seq none .nil (.seq none (.seq none .nil (.one (.loop ⟨[0, 1], [(5, (.b (.int .i64)))]⟩ (.seq none (.seq none .nil (.cond .nil .nil)) (.seq none (.one (.seq none .nil (.cond (.seq none .nil .nil) .nil))) .nil))))) (.seq none .nil .nil)))
def L_intagliolaw16_in (p0 : Sl) (p1 : Int) (R : Value → World → Prop) (w : World) : Prop :=
  LoopW (S := Int × Unit) (fun s1 w1 n2 =>
      ifB (decide (s1.1 < (p0.l : Int)))
        ((0 ≤ s1.1 ∧ s1.1 < (p0.l : Int)) ∧
        derefP p0.a fun a3 =>
        ldI w1 (a3.add (Int.toNat s1.1)) .i64 fun x4 =>
        ifB (x4 == p1)
          (R (.bool true) w1)
          (n2 ((IntKind.i64.wrap (s1.1 + (1 : Int))), ()) w1))
        (R (.bool false) w1))
    ((0 : Int), ()) w
theorem intagliolaw16_in_calls (p0 : Sl) (p1 : Int) (R : Value → World → Prop) (w : World) (h : L_intagliolaw16_in p0 p1 R w) : Calls Try.prog 74 #[(.slice p0.a p0.l p0.c), (.int .i64 p1)] w (Ret R) :=
  lw_calls (fs := Try.fs) (an := a_intagliolaw16_in) (args := [(.slice p0.a p0.l p0.c), (.int .i64 p1)]) Try.fsOK Try.mixed Try.func74 (by kernel_rfl) (by kernel_rfl)
    (Eq.mpr (by kernel_rfl : lwFn Try.prog Try.fs Try.f74 a_intagliolaw16_in [(.slice p0.a p0.l p0.c), (.int .i64 p1)] w R = L_intagliolaw16_in p0 p1 R w) h)

/-- intaglio.intagliolaw16.common -/
def a_intagliolaw16_common : Ann := (.seq none .nil (.seq none .nil (.seq none (.seq none .nil (.one (.loop ⟨[0, 1], [(5, (.b (.int .i64))), (6, (.b (.int .i64)))]⟩ (.seq none (.seq none .nil (.cond .nil .nil)) (.seq (some ⟨[0, 1, 6], [(5, (.b (.int .i64)))]⟩) (.one (.seq none .nil (.cond .nil .nil))) .nil))))) (.seq none .nil .nil))))
def L_intagliolaw16_common (p0 : Sl) (p1 : Sl) (R : Value → World → Prop) (w : World) : Prop :=
  LoopW (S := Int × Int × Unit) (fun s1 w1 n2 =>
      ifB (decide (s1.2.1 < (p0.l : Int)))
        (JoinW (S := Int × Unit) (fun m3 =>
            (0 ≤ s1.2.1 ∧ s1.2.1 < (p0.l : Int)) ∧
            derefP p0.a fun a5 =>
            ldI w1 (a5.add (Int.toNat s1.2.1)) .i64 fun x6 =>
            callR Try.prog 74 #[(.slice p1.a p1.l p1.c), (.int .i64 x6)] w1 fun v7 w2 =>
            ∃ x8 : Bool, v7 = (.bool x8) ∧
            ifB x8
              (m3 ((IntKind.i64.wrap (s1.1 + (1 : Int))), ()) w2)
              (m3 (s1.1, ()) w2))
          (fun s4 w3 =>
            n2 (s4.1, (IntKind.i64.wrap (s1.2.1 + (1 : Int))), ()) w3))
        (R (.int .i64 s1.1) w1))
    ((0 : Int), (0 : Int), ()) w
theorem intagliolaw16_common_calls (p0 : Sl) (p1 : Sl) (R : Value → World → Prop) (w : World) (h : L_intagliolaw16_common p0 p1 R w) : Calls Try.prog 75 #[(.slice p0.a p0.l p0.c), (.slice p1.a p1.l p1.c)] w (Ret R) :=
  lw_calls (fs := Try.fs) (an := a_intagliolaw16_common) (args := [(.slice p0.a p0.l p0.c), (.slice p1.a p1.l p1.c)]) Try.fsOK Try.mixed Try.func75 (by kernel_rfl) (by kernel_rfl)
    (Eq.mpr (by kernel_rfl : lwFn Try.prog Try.fs Try.f75 a_intagliolaw16_common [(.slice p0.a p0.l p0.c), (.slice p1.a p1.l p1.c)] w R = L_intagliolaw16_common p0 p1 R w) h)

/-- intaglio.nest.Inner -/
def a_nest_Inner : Ann := (.seq none .nil (.seq none .nil (.seq none (.one (.seq none .nil (.cond (.seq none .nil .nil) (.seq none .nil (.cond (.seq none .nil .nil) .nil))))) (.seq none .nil .nil))))
def L_nest_Inner (p0 : Option Addr) (p1 : Sl) (p2 : Int) (R : Value → World → Prop) (w : World) : Prop :=
  callR Try.prog 120 #[(.pointer p0), (.slice p1.a p1.l p1.c)] w fun v1 w1 =>
  ∃ x2 : Option Addr, ∃ x3 : Int, v1 = (.tuple #[(.pointer x2), (.int .i64 x3)]) ∧
  ifB (x3 != (0 : Int))
    (R (.tuple #[(.int .i64 (0 : Int)), (.int .i64 x3)]) w1)
    (callR Try.prog 124 #[(.pointer p0), (.int .i64 p2)] w1 fun v4 w2 =>
    ∃ x5 : Bool, v4 = (.bool x5) ∧
    ifB (!x5)
      (R (.tuple #[(.int .i64 (0 : Int)), (.int .i64 (3 : Int))]) w2)
      (Nw (w2.alloc (.cells #[(.int .u8 (1 : Int)), (.int .u8 (2 : Int)), (.int .u8 (3 : Int))] 5)) fun w3 =>
      callR Try.prog 131 #[(.pointer x2), (.int .i64 p2), (.slice (some (blk w2.heap.size)) 3 3)] w3 fun v6 w4 =>
      ∃ x7 : Int, v6 = (.int .i64 x7) ∧
      R (.tuple #[(.int .i64 x7), (.int .i64 (0 : Int))]) w4))
theorem nest_Inner_calls (p0 : Option Addr) (p1 : Sl) (p2 : Int) (R : Value → World → Prop) (w : World) (h : L_nest_Inner p0 p1 p2 R w) : Calls Try.prog 84 #[(.pointer p0), (.slice p1.a p1.l p1.c), (.int .i64 p2)] w (Ret R) :=
  lw_calls (fs := Try.fs) (an := a_nest_Inner) (args := [(.pointer p0), (.slice p1.a p1.l p1.c), (.int .i64 p2)]) Try.fsOK Try.mixed Try.func84 (by kernel_rfl) (by kernel_rfl)
    (Eq.mpr (by kernel_rfl : lwFn Try.prog Try.fs Try.f84 a_nest_Inner [(.pointer p0), (.slice p1.a p1.l p1.c), (.int .i64 p2)] w R = L_nest_Inner p0 p1 p2 R w) h)

/-- intaglio.nest.of -/
def a_nest_of : Ann := (.seq none .nil (.seq none (.one (.seq none .nil (.cond (.seq none .nil .nil) (.seq none .nil (.cond (.seq none .nil .nil) .nil))))) (.seq none .nil (.seq none (.seq none .nil (.one (.loop ⟨[0, 1, 6, 22, 23], [(24, (.b (.int .i64)))]⟩ (.seq none .nil (.seq none (.cond .nil .nil) (.seq (some ⟨[0, 1, 6, 22, 23, 24], []⟩) (.one (.seq none .nil (.seq none .nil (.seq none .nil (.one (.seq none .nil (.cond .nil (.seq none .nil (.cond .nil .nil))))))))) .nil)))))) (.seq none .nil (.seq none .nil (.seq none .nil (.seq none (.seq none .nil (.one (.loop ⟨[9, 97], [(98, (.b (.int .i64)))]⟩ (.seq none .nil (.seq none (.cond .nil .nil) (.seq none (.one (.seq none .nil .nil)) .nil)))))) (.seq none .nil .nil)))))))))
def L_nest_of (p0 : Option Addr) (p1 : Sl) (R : Value → World → Prop) (w : World) : Prop :=
  ifB (Option.isNone p0)
    (R (.tuple #[(.pointer none), (.int .i64 (1 : Int))]) w)
    (callR Try.prog 160 #[(.pointer p0), (.slice p1.a p1.l p1.c)] w fun v1 w1 =>
    ∃ x2 : Bool, v1 = (.bool x2) ∧
    ifB (!x2)
      (R (.tuple #[(.pointer none), (.int .i64 (2 : Int))]) w1)
      (callR Try.prog 33 #[(.pointer p0)] w1 fun v3 w2 =>
      ∃ x4 : Int, v3 = (.int .i64 x4) ∧
      (0 ≤ x4 ∧ x4 ≤ x4 ∧ (24 : Int) * x4 ≤ 281474976710656 ∧ x4 ≤ 9223372036854775807) ∧
      Nw (w2.alloc (.cells (madeCells #[(.slice none 0 0)] ((Int.toNat x4) * 1)) 32)) fun w3 =>
      LoopW (S := Int × Unit) (fun s5 w4 n6 =>
          ifB (decide (s5.1 < (p1.l : Int)))
            (JoinW (S := Unit) (fun m7 =>
                (0 ≤ s5.1 ∧ s5.1 < (p1.l : Int)) ∧
                derefP p1.a fun a9 =>
                ldI w4 ((a9.add ((Int.toNat s5.1) * 3)).add 0) .u8 fun x10 =>
                ldI w4 ((a9.add ((Int.toNat s5.1) * 3)).add 1) .i64 fun x11 =>
                ldI w4 ((a9.add ((Int.toNat s5.1) * 3)).add 2) .i64 fun x12 =>
                Nw (w4.alloc (.cells #[(.int .u8 (0 : Int)), (.int .i64 (0 : Int)), (.int .i64 (0 : Int))] 82)) fun w5 =>
                Wr w5 (blk w4.heap.size) ∧
                Nw (w5.setCell (blk w4.heap.size) (.int .u8 x10)) fun w6 =>
                Wr w6 ((blk w4.heap.size).add 1) ∧
                Nw (w6.setCell ((blk w4.heap.size).add 1) (.int .i64 x11)) fun w7 =>
                Wr w7 ((blk w4.heap.size).add 2) ∧
                Nw (w7.setCell ((blk w4.heap.size).add 2) (.int .i64 x12)) fun w8 =>
                callR Try.prog 34 #[(.pointer p0), (.int .i64 s5.1)] w8 fun v13 w9 =>
                ∃ x14 : Sl, v13 = (.slice x14.a x14.l x14.c) ∧
                (0 ≤ s5.1 ∧ s5.1 < ((Int.toNat x4) : Int)) ∧
                Wr w9 ((blk w2.heap.size).add (Int.toNat s5.1)) ∧
                Nw (w9.setCell ((blk w2.heap.size).add (Int.toNat s5.1)) (.slice x14.a x14.l x14.c)) fun w10 =>
                ldI w10 (blk w4.heap.size) .u8 fun x15 =>
                ifB (x15 == (0 : Int))
                  (m7 (()) w10)
                  (ifB (x15 == (2 : Int))
                    ((0 ≤ s5.1 ∧ s5.1 < ((Int.toNat x4) : Int)) ∧
                    ldS w10.drew ((blk w2.heap.size).add (Int.toNat s5.1)) fun x16 =>
                    ldI w10.drew ((blk w4.heap.size).add 1) .i64 fun x17 =>
                    ldI w10.drew ((blk w4.heap.size).add 2) .i64 fun x18 =>
                    Nw (w10.drew.alloc (.cells #[(.int .i64 x17), (.int .i64 x18)] 3)) fun w11 =>
                    w11.cell? ((blk w2.heap.size).add (Int.toNat s5.1)) = some (.slice x16.a x16.l x16.c) ∧
                    appendS Try.prog 32 (.slice x16.a x16.l x16.c) (.slice (some (blk w10.drew.heap.size)) 2 2) w11 fun r19 w12 =>
                    (0 ≤ s5.1 ∧ s5.1 < ((Int.toNat x4) : Int)) ∧
                    Wr w12 ((blk w2.heap.size).add (Int.toNat s5.1)) ∧
                    Nw (w12.setCell ((blk w2.heap.size).add (Int.toNat s5.1)) (.slice r19.a r19.l r19.c)) fun w13 =>
                    m7 (()) w13)
                    ((0 ≤ s5.1 ∧ s5.1 < ((Int.toNat x4) : Int)) ∧
                    ldS w10.drew ((blk w2.heap.size).add (Int.toNat s5.1)) fun x20 =>
                    ldI w10.drew ((blk w4.heap.size).add 1) .i64 fun x21 =>
                    Nw (w10.drew.alloc (.cells #[(.int .i64 x21)] 3)) fun w14 =>
                    w14.cell? ((blk w2.heap.size).add (Int.toNat s5.1)) = some (.slice x20.a x20.l x20.c) ∧
                    appendS Try.prog 32 (.slice x20.a x20.l x20.c) (.slice (some (blk w10.drew.heap.size)) 1 1) w14 fun r22 w15 =>
                    (0 ≤ s5.1 ∧ s5.1 < ((Int.toNat x4) : Int)) ∧
                    Wr w15 ((blk w2.heap.size).add (Int.toNat s5.1)) ∧
                    Nw (w15.setCell ((blk w2.heap.size).add (Int.toNat s5.1)) (.slice r22.a r22.l r22.c)) fun w16 =>
                    m7 (()) w16)))
              (fun s8 w17 =>
                n6 ((IntKind.i64.wrap (s5.1 + (1 : Int))), ()) w17))
            (callR Try.prog 161 #[(.slice p1.a p1.l p1.c)] w4 fun v23 w18 =>
            ∃ x24 : Sl, v23 = (.slice x24.a x24.l x24.c) ∧
            callR Try.prog 33 #[(.pointer p0)] w18 fun v25 w19 =>
            ∃ x26 : Int, v25 = (.int .i64 x26) ∧
            (0 ≤ x26 ∧ x26 ≤ x26 ∧ (24 : Int) * x26 ≤ 281474976710656 ∧ x26 ≤ 9223372036854775807) ∧
            Nw (w19.alloc (.cells (madeCells #[(.slice none 0 0)] ((Int.toNat x26) * 1)) 32)) fun w20 =>
            Nw (w20.alloc (.cells #[(.pointer p0), (.slice x24.a x24.l x24.c), (.pointer none), (.pointer none), (.slice (some (blk w19.heap.size)) (Int.toNat x26) (Int.toNat x26))] 148)) fun w21 =>
            callR Try.prog 28 #[(.slice (some (blk w2.heap.size)) (Int.toNat x4) (Int.toNat x4))] w21 fun v27 w22 =>
            ∃ x28 : Option Addr, ∃ x29 : Int, v27 = (.tuple #[(.pointer x28), (.int .i64 x29)]) ∧
            Wr w22 ((blk w20.heap.size).add 2) ∧
            Nw (w22.setCell ((blk w20.heap.size).add 2) (.pointer x28)) fun w23 =>
            ldP w23 ((blk w20.heap.size).add 2) fun x30 =>
            callR Try.prog 87 #[(.pointer x30)] w23 fun v31 w24 =>
            ∃ x32 : Option Addr, ∃ x33 : Int, v31 = (.tuple #[(.pointer x32), (.int .i64 x33)]) ∧
            Wr w24 ((blk w20.heap.size).add 3) ∧
            Nw (w24.setCell ((blk w20.heap.size).add 3) (.pointer x32)) fun w25 =>
            ldS w25 ((blk w20.heap.size).add 4) fun x34 =>
            LoopW (S := Int × Unit) (fun s35 w26 n36 =>
                ifB (decide (s35.1 < (x34.l : Int)))
                  (ldS w26.drew ((blk w20.heap.size).add 4) fun x37 =>
                  callR Try.prog 162 #[(.pointer (some (blk w20.heap.size))), (.int .i64 s35.1)] w26.drew fun v38 w27 =>
                  ∃ x39 : Sl, v38 = (.slice x39.a x39.l x39.c) ∧
                  w27.cell? ((blk w20.heap.size).add 4) = some (.slice x37.a x37.l x37.c) ∧
                  (0 ≤ s35.1 ∧ s35.1 < (x37.l : Int)) ∧
                  derefP x37.a fun a40 =>
                  Wr w27 (a40.add (Int.toNat s35.1)) ∧
                  Nw (w27.setCell (a40.add (Int.toNat s35.1)) (.slice x39.a x39.l x39.c)) fun w28 =>
                  n36 ((IntKind.i64.wrap (s35.1 + (1 : Int))), ()) w28)
                  (R (.tuple #[(.pointer (some (blk w20.heap.size))), (.int .i64 (0 : Int))]) w26))
              ((0 : Int), ()) w25))
        ((0 : Int), ()) w3))
theorem nest_of_calls (p0 : Option Addr) (p1 : Sl) (R : Value → World → Prop) (w : World) (h : L_nest_of p0 p1 R w) : Calls Try.prog 120 #[(.pointer p0), (.slice p1.a p1.l p1.c)] w (Ret R) :=
  lw_calls (fs := Try.fs) (an := a_nest_of) (args := [(.pointer p0), (.slice p1.a p1.l p1.c)]) Try.fsOK Try.mixed Try.func120 (by kernel_rfl) (by kernel_rfl)
    (Eq.mpr (by kernel_rfl : lwFn Try.prog Try.fs Try.f120 a_nest_of [(.pointer p0), (.slice p1.a p1.l p1.c)] w R = L_nest_of p0 p1 R w) h)

/-- (*intaglio.nest.nested).flaws -/
def a_nest_nested_flaws : Ann := (.seq none .nil (.seq none .nil (.seq none .nil (.seq none (.seq none .nil (.one (.loop ⟨[0, 3, 25], [(4, (.b .slice)), (26, (.b (.int .i64)))]⟩ (.seq none .nil (.seq none (.cond .nil .nil) (.seq none (.one (.seq none .nil (.seq none .nil (.one (.loop ⟨[0, 3, 5, 25, 26, 29], [(4, (.b .slice)), (30, (.b (.int .i64)))]⟩ (.seq none .nil (.seq none (.cond .nil .nil) (.seq (some ⟨[0, 3, 5, 25, 26, 29, 30], [(4, (.b .slice))]⟩) (.one (.seq (some ⟨[0, 3, 4, 5, 25, 26, 29, 30], [(7, (.b .ptr))]⟩) .nil (.seq none .nil (.cond .nil .nil)))) .nil)))))))) .nil)))))) (.seq none .nil .nil)))))
def L_nest_nested_flaws (p0 : Option Addr) (R : Value → World → Prop) (w : World) : Prop :=
  Nw (w.alloc (.cells #[.nilFunc, (.int .i64 (0 : Int)), .nilFunc, (.int .i64 (0 : Int)), .nilFunc, (.int .i64 (0 : Int)), .nilFunc, (.int .i64 (0 : Int))] 172)) fun w1 =>
  Wr w1 (blk w.heap.size) ∧
  Nw (w1.setCell (blk w.heap.size) (.func (.func 163) #[(.pointer p0)] #[])) fun w2 =>
  Wr w2 ((blk w.heap.size).add 1) ∧
  Nw (w2.setCell ((blk w.heap.size).add 1) (.int .i64 (163 : Int))) fun w3 =>
  Wr w3 ((blk w.heap.size).add 2) ∧
  Nw (w3.setCell ((blk w.heap.size).add 2) (.func (.func 164) #[(.pointer p0)] #[])) fun w4 =>
  Wr w4 ((blk w.heap.size).add 3) ∧
  Nw (w4.setCell ((blk w.heap.size).add 3) (.int .i64 (160 : Int))) fun w5 =>
  Wr w5 ((blk w.heap.size).add 4) ∧
  Nw (w5.setCell ((blk w.heap.size).add 4) (.func (.func 165) #[(.pointer p0)] #[])) fun w6 =>
  Wr w6 ((blk w.heap.size).add 5) ∧
  Nw (w6.setCell ((blk w.heap.size).add 5) (.int .i64 (162 : Int))) fun w7 =>
  Wr w7 ((blk w.heap.size).add 6) ∧
  Nw (w7.setCell ((blk w.heap.size).add 6) (.func (.func 166) #[(.pointer p0)] #[])) fun w8 =>
  Wr w8 ((blk w.heap.size).add 7) ∧
  Nw (w8.setCell ((blk w.heap.size).add 7) (.int .i64 (161 : Int))) fun w9 =>
  derefP p0 fun a1 =>
  ldS w9 (a1.add 1) fun x2 =>
  LoopW (S := Sl × Int × Unit) (fun s3 w10 n4 =>
      ifB (decide (s3.2.1 < (x2.l : Int)))
        (ldR w10 ((blk w.heap.size).add 0) fun x5 =>
        ldI w10 ((blk w.heap.size).add 1) .i64 fun x6 =>
        ldR w10 ((blk w.heap.size).add 2) fun x7 =>
        ldI w10 ((blk w.heap.size).add 3) .i64 fun x8 =>
        ldR w10 ((blk w.heap.size).add 4) fun x9 =>
        ldI w10 ((blk w.heap.size).add 5) .i64 fun x10 =>
        ldR w10 ((blk w.heap.size).add 6) fun x11 =>
        ldI w10 ((blk w.heap.size).add 7) .i64 fun x12 =>
        LoopW (S := Sl × Int × Unit) (fun s13 w11 n14 =>
            ifB (decide (s13.2.1 < (4 : Int)))
              (JoinW (S := Sl × Unit) (fun m15 =>
                  JoinW (S := (Option Addr) × Unit) (fun m17 =>
                      (0 ≤ s13.2.1 ∧ s13.2.1 < (4 : Int)) ∧
                      (s13.2.1 = (0 : Int) →
                        Nw (w11.alloc (.cells #[.nilFunc, (.int .i64 (0 : Int))] 171)) fun w12 =>
                        oneV x5 (Wr w12 (blk w11.heap.size) ∧
                          Nw (w12.setCell (blk w11.heap.size) x5) fun w13 =>
                          Wr w13 ((blk w11.heap.size).add 1) ∧
                          Nw (w13.setCell ((blk w11.heap.size).add 1) (.int .i64 x6)) fun w14 =>
                          m17 ((some (blk w11.heap.size)), ()) w14)) ∧
                      (s13.2.1 = (1 : Int) →
                        Nw (w11.alloc (.cells #[.nilFunc, (.int .i64 (0 : Int))] 171)) fun w15 =>
                        oneV x7 (Wr w15 (blk w11.heap.size) ∧
                          Nw (w15.setCell (blk w11.heap.size) x7) fun w16 =>
                          Wr w16 ((blk w11.heap.size).add 1) ∧
                          Nw (w16.setCell ((blk w11.heap.size).add 1) (.int .i64 x8)) fun w17 =>
                          m17 ((some (blk w11.heap.size)), ()) w17)) ∧
                      (s13.2.1 = (2 : Int) →
                        Nw (w11.alloc (.cells #[.nilFunc, (.int .i64 (0 : Int))] 171)) fun w18 =>
                        oneV x9 (Wr w18 (blk w11.heap.size) ∧
                          Nw (w18.setCell (blk w11.heap.size) x9) fun w19 =>
                          Wr w19 ((blk w11.heap.size).add 1) ∧
                          Nw (w19.setCell ((blk w11.heap.size).add 1) (.int .i64 x10)) fun w20 =>
                          m17 ((some (blk w11.heap.size)), ()) w20)) ∧
                      (s13.2.1 = (3 : Int) →
                        Nw (w11.alloc (.cells #[.nilFunc, (.int .i64 (0 : Int))] 171)) fun w21 =>
                        oneV x11 (Wr w21 (blk w11.heap.size) ∧
                          Nw (w21.setCell (blk w11.heap.size) x11) fun w22 =>
                          Wr w22 ((blk w11.heap.size).add 1) ∧
                          Nw (w22.setCell ((blk w11.heap.size).add 1) (.int .i64 x12)) fun w23 =>
                          m17 ((some (blk w11.heap.size)), ()) w23)))
                    (fun s18 w24 =>
                      derefP p0 fun a19 =>
                      ldP w24 (a19.add 2) fun x20 =>
                      callR Try.prog 38 #[(.pointer x20), (.int .i64 s3.2.1)] w24 fun v21 w25 =>
                      ∃ x22 : Bool, v21 = (.bool x22) ∧
                      ifB x22
                        (derefP s18.1 fun a23 =>
                        ldR w25 a23 fun x24 =>
                        callV Try.prog Try.fs x24 [(.int .i64 s3.2.1)] w25 fun v25 w26 =>
                        ∃ x26 : Bool, v25 = (.bool x26) ∧
                        ifB x26
                          (derefP s18.1 fun a27 =>
                          ldI w26 (a27.add 1) .i64 fun x28 =>
                          Nw (w26.alloc (.cells #[(.int .i64 s3.2.1), (.int .i64 x28)] 143)) fun w27 =>
                          appendS Try.prog 67 (.slice s13.1.a s13.1.l s13.1.c) (.slice (some (blk w26.heap.size)) 1 1) w27 fun r29 w28 =>
                          m15 (r29, ()) w28)
                          (m15 (s13.1, ()) w26))
                        (m15 (s13.1, ()) w25)))
                (fun s16 w29 =>
                  n14 (s16.1, (IntKind.i64.wrap (s13.2.1 + (1 : Int))), ()) w29))
              (n4 (s13.1, (IntKind.i64.wrap (s3.2.1 + (1 : Int))), ()) w11))
          (s3.1, (0 : Int), ()) w10)
        (R (.slice s3.1.a s3.1.l s3.1.c) w10))
    ((Sl.mk none 0 0), (0 : Int), ()) w9
theorem nest_nested_flaws_calls (p0 : Option Addr) (R : Value → World → Prop) (w : World) (h : L_nest_nested_flaws p0 R w) : Calls Try.prog 121 #[(.pointer p0)] w (Ret R) :=
  lw_calls (fs := Try.fs) (an := a_nest_nested_flaws) (args := [(.pointer p0)]) Try.fsOK Try.mixed Try.func121 (by kernel_rfl) (by kernel_rfl)
    (Eq.mpr (by kernel_rfl : lwFn Try.prog Try.fs Try.f121 a_nest_nested_flaws [(.pointer p0)] w R = L_nest_nested_flaws p0 R w) h)

/-- intaglio.intagliolaw16.bare -/
def a_intagliolaw16_bare : Ann := (.seq none .nil (.seq none .nil (.seq none .nil (.seq none .nil (.seq none .nil (.seq none .nil (.seq none .nil .nil)))))))
def L_intagliolaw16_bare (p0 : Int) (R : Value → World → Prop) (w : World) : Prop :=
  (0 ≤ (3 : Int) ∧ (3 : Int) ≤ (3 : Int) ∧ (24 : Int) * (3 : Int) ≤ 281474976710656 ∧ (3 : Int) ≤ 9223372036854775807) ∧
  Nw (w.alloc (.cells (madeCells #[(.slice none 0 0)] (3 * 1)) 32)) fun w1 =>
  callR Try.prog 123 #[(.int .i64 (1 : Int)), (.int .i64 (2 : Int))] w1 fun v1 w2 =>
  ∃ x2 : Sl, v1 = (.slice x2.a x2.l x2.c) ∧
  (0 ≤ (0 : Int) ∧ (0 : Int) < (3 : Int)) ∧
  Wr w2 ((blk w.heap.size).add 0) ∧
  Nw (w2.setCell ((blk w.heap.size).add 0) (.slice x2.a x2.l x2.c)) fun w3 =>
  (0 ≤ (1 : Int) ∧ (1 : Int) < (3 : Int)) ∧
  ldS w3 ((blk w.heap.size).add 1) fun x3 =>
  Nw (w3.alloc (.cells #[(.int .i64 (2 : Int))] 3)) fun w4 =>
  appendS Try.prog 32 (.slice x3.a x3.l x3.c) (.slice (some (blk w3.heap.size)) 1 1) w4 fun r4 w5 =>
  (0 ≤ (1 : Int) ∧ (1 : Int) < (3 : Int)) ∧
  Wr w5 ((blk w.heap.size).add 1) ∧
  Nw (w5.setCell ((blk w.heap.size).add 1) (.slice r4.a r4.l r4.c)) fun w6 =>
  (0 ≤ (3 : Int) ∧ (3 : Int) ≤ (3 : Int) ∧ (24 : Int) * (3 : Int) ≤ 281474976710656 ∧ (3 : Int) ≤ 9223372036854775807) ∧
  Nw (w6.alloc (.cells (madeCells #[(.int .u8 (0 : Int)), (.int .i64 (0 : Int)), (.int .i64 (0 : Int))] (3 * 3)) 82)) fun w7 =>
  (0 ≤ (0 : Int) ∧ (0 : Int) < (3 : Int)) ∧
  Wr w7 ((blk w6.heap.size).add (0 * 3)) ∧
  Nw (w7.setCell ((blk w6.heap.size).add (0 * 3)) (.int .u8 p0)) fun w8 =>
  Wr w8 (((blk w6.heap.size).add (0 * 3)).add 1) ∧
  Nw (w8.setCell (((blk w6.heap.size).add (0 * 3)).add 1) (.int .i64 (2 : Int))) fun w9 =>
  Wr w9 (((blk w6.heap.size).add (0 * 3)).add 2) ∧
  Nw (w9.setCell (((blk w6.heap.size).add (0 * 3)).add 2) (.int .i64 (-1 : Int))) fun w10 =>
  R (.tuple #[(.slice (some (blk w.heap.size)) 3 3), (.slice (some (blk w6.heap.size)) 3 3)]) w10
theorem intagliolaw16_bare_calls (p0 : Int) (R : Value → World → Prop) (w : World) (h : L_intagliolaw16_bare p0 R w) : Calls Try.prog 122 #[(.int .u8 p0)] w (Ret R) :=
  lw_calls (fs := Try.fs) (an := a_intagliolaw16_bare) (args := [(.int .u8 p0)]) Try.fsOK Try.mixed Try.func122 (by kernel_rfl) (by kernel_rfl)
    (Eq.mpr (by kernel_rfl : lwFn Try.prog Try.fs Try.f122 a_intagliolaw16_bare [(.int .u8 p0)] w R = L_intagliolaw16_bare p0 R w) h)

/-- intaglio.intagliolaw16.pair -/
def a_intagliolaw16_pair : Ann := (.seq none .nil (.seq none .nil (.seq none .nil (.seq none .nil (.seq none .nil .nil)))))
def L_intagliolaw16_pair (p0 : Int) (p1 : Int) (R : Value → World → Prop) (w : World) : Prop :=
  (0 ≤ (2 : Int) ∧ (2 : Int) ≤ (2 : Int) ∧ (8 : Int) * (2 : Int) ≤ 281474976710656 ∧ (2 : Int) ≤ 9223372036854775807) ∧
  Nw (w.alloc (.cells (madeCells #[(.int .i64 (0 : Int))] (2 * 1)) 3)) fun w1 =>
  (0 ≤ (0 : Int) ∧ (0 : Int) < (2 : Int)) ∧
  Wr w1 ((blk w.heap.size).add 0) ∧
  Nw (w1.setCell ((blk w.heap.size).add 0) (.int .i64 p0)) fun w2 =>
  (0 ≤ (1 : Int) ∧ (1 : Int) < (2 : Int)) ∧
  Wr w2 ((blk w.heap.size).add 1) ∧
  Nw (w2.setCell ((blk w.heap.size).add 1) (.int .i64 p1)) fun w3 =>
  R (.slice (some (blk w.heap.size)) 2 2) w3
theorem intagliolaw16_pair_calls (p0 : Int) (p1 : Int) (R : Value → World → Prop) (w : World) (h : L_intagliolaw16_pair p0 p1 R w) : Calls Try.prog 123 #[(.int .i64 p0), (.int .i64 p1)] w (Ret R) :=
  lw_calls (fs := Try.fs) (an := a_intagliolaw16_pair) (args := [(.int .i64 p0), (.int .i64 p1)]) Try.fsOK Try.mixed Try.func123 (by kernel_rfl) (by kernel_rfl)
    (Eq.mpr (by kernel_rfl : lwFn Try.prog Try.fs Try.f123 a_intagliolaw16_pair [(.int .i64 p0), (.int .i64 p1)] w R = L_intagliolaw16_pair p0 p1 R w) h)

/-- intaglio.nest.isNode -/
def a_nest_isNode : Ann := (.seq none .nil (.seq none .nil .nil))
def L_nest_isNode (p0 : Option Addr) (p1 : Int) (R : Value → World → Prop) (w : World) : Prop :=
  ifB (decide (p1 ≥ (0 : Int)))
    (callR Try.prog 33 #[(.pointer p0)] w fun v1 w1 =>
    ∃ x2 : Int, v1 = (.int .i64 x2) ∧
    R (.bool (decide (p1 < x2))) w1)
    (R (.bool false) w)
theorem nest_isNode_calls (p0 : Option Addr) (p1 : Int) (R : Value → World → Prop) (w : World) (h : L_nest_isNode p0 p1 R w) : Calls Try.prog 124 #[(.pointer p0), (.int .i64 p1)] w (Ret R) :=
  lw_calls (fs := Try.fs) (an := a_nest_isNode) (args := [(.pointer p0), (.int .i64 p1)]) Try.fsOK Try.mixed Try.func124 (by kernel_rfl) (by kernel_rfl)
    (Eq.mpr (by kernel_rfl : lwFn Try.prog Try.fs Try.f124 a_nest_isNode [(.pointer p0), (.int .i64 p1)] w R = L_nest_isNode p0 p1 R w) h)

/-- (*intaglio.nest.nested).has -/
def a_nest_nested_has : Ann := (.seq none .nil (.seq none .nil .nil))
def L_nest_nested_has (p0 : Option Addr) (p1 : Int) (p2 : Int) (R : Value → World → Prop) (w : World) : Prop :=
  derefP p0 fun a1 =>
  ldS w (a1.add 4) fun x2 =>
  (0 ≤ p2 ∧ p2 < (x2.l : Int)) ∧
  derefP x2.a fun a3 =>
  ldS w (a3.add (Int.toNat p2)) fun x4 =>
  callR Try.prog 113 #[(.slice x4.a x4.l x4.c), (.int .i64 p1)] w fun v5 w1 =>
  ∃ x6 : Bool, v5 = (.bool x6) ∧
  R (.bool x6) w1
theorem nest_nested_has_calls (p0 : Option Addr) (p1 : Int) (p2 : Int) (R : Value → World → Prop) (w : World) (h : L_nest_nested_has p0 p1 p2 R w) : Calls Try.prog 125 #[(.pointer p0), (.int .i64 p1), (.int .i64 p2)] w (Ret R) :=
  lw_calls (fs := Try.fs) (an := a_nest_nested_has) (args := [(.pointer p0), (.int .i64 p1), (.int .i64 p2)]) Try.fsOK Try.mixed Try.func125 (by kernel_rfl) (by kernel_rfl)
    (Eq.mpr (by kernel_rfl : lwFn Try.prog Try.fs Try.f125 a_nest_nested_has [(.pointer p0), (.int .i64 p1), (.int .i64 p2)] w R = L_nest_nested_has p0 p1 p2 R w) h)

/-- (*intaglio.nest.nested).last -/
def a_nest_nested_last : Ann := (.seq none .nil (.seq none .nil (.seq none (.seq none .nil (.one (.loop ⟨[0, 2, 7], [(8, (.b (.int .i64)))]⟩ (.seq none (.seq none .nil (.cond .nil .nil)) (.seq none (.one (.seq none .nil (.cond (.seq none .nil .nil) .nil))) .nil))))) (.seq none .nil .nil))))
def L_nest_nested_last (p0 : Option Addr) (p1 : Int) (p2 : Sl) (R : Value → World → Prop) (w : World) : Prop :=
  derefP p0 fun a1 =>
  ldS w (a1.add 4) fun x2 =>
  (0 ≤ p1 ∧ p1 < (x2.l : Int)) ∧
  derefP x2.a fun a3 =>
  ldS w (a3.add (Int.toNat p1)) fun x4 =>
  LoopW (S := Int × Unit) (fun s5 w1 n6 =>
      ifB (decide (s5.1 ≥ (0 : Int)))
        (derefP p0 fun a7 =>
        ldS w1.drew (a7.add 1) fun x8 =>
        (0 ≤ s5.1 ∧ s5.1 < (x4.l : Int)) ∧
        derefP x4.a fun a9 =>
        ldI w1.drew (a9.add (Int.toNat s5.1)) .i64 fun x10 =>
        (0 ≤ x10 ∧ x10 < (x8.l : Int)) ∧
        derefP x8.a fun a11 =>
        ldI w1.drew (a11.add ((Int.toNat x10) * 3)) .u8 fun x12 =>
        callR Try.prog 174 #[(.slice p2.a p2.l p2.c), (.int .u8 x12)] w1.drew fun v13 w2 =>
        ∃ x14 : Bool, v13 = (.bool x14) ∧
        ifB x14
          ((0 ≤ s5.1 ∧ s5.1 < (x4.l : Int)) ∧
          derefP x4.a fun a15 =>
          ldI w2 (a15.add (Int.toNat s5.1)) .i64 fun x16 =>
          R (.int .i64 x16) w2)
          (n6 ((IntKind.i64.wrap (s5.1 - (1 : Int))), ()) w2))
        (R (.int .i64 (-1 : Int)) w1))
    ((IntKind.i64.wrap ((x4.l : Int) - (1 : Int))), ()) w
theorem nest_nested_last_calls (p0 : Option Addr) (p1 : Int) (p2 : Sl) (R : Value → World → Prop) (w : World) (h : L_nest_nested_last p0 p1 p2 R w) : Calls Try.prog 131 #[(.pointer p0), (.int .i64 p1), (.slice p2.a p2.l p2.c)] w (Ret R) :=
  lw_calls (fs := Try.fs) (an := a_nest_nested_last) (args := [(.pointer p0), (.int .i64 p1), (.slice p2.a p2.l p2.c)]) Try.fsOK Try.mixed Try.func131 (by kernel_rfl) (by kernel_rfl)
    (Eq.mpr (by kernel_rfl : lwFn Try.prog Try.fs Try.f131 a_nest_nested_last [(.pointer p0), (.int .i64 p1), (.slice p2.a p2.l p2.c)] w R = L_nest_nested_last p0 p1 p2 R w) h)

/-- intaglio.nest.fit -/
def a_nest_fit : Ann := (.seq none .nil (.seq none .nil .nil))
def L_nest_fit (p0 : Option Addr) (p1 : Sl) (R : Value → World → Prop) (w : World) : Prop :=
  Nw (w.alloc (.cells #[(.pointer p0)] 28)) fun w1 =>
  ldP w1 (blk w.heap.size) fun x1 =>
  callR Try.prog 33 #[(.pointer x1)] w1 fun v2 w2 =>
  ∃ x3 : Int, v2 = (.int .i64 x3) ∧
  ifB ((p1.l : Int) == x3)
    (callR Try.prog 185 #[(.slice p1.a p1.l p1.c), (.func (.func 186) #[] #[(.pointer (some (blk w.heap.size)))])] w2 fun v4 w3 =>
    ∃ x5 : Bool, v4 = (.bool x5) ∧
    R (.bool (!x5)) w3)
    (R (.bool false) w2)
theorem nest_fit_calls (p0 : Option Addr) (p1 : Sl) (R : Value → World → Prop) (w : World) (h : L_nest_fit p0 p1 R w) : Calls Try.prog 160 #[(.pointer p0), (.slice p1.a p1.l p1.c)] w (Ret R) :=
  lw_calls (fs := Try.fs) (an := a_nest_fit) (args := [(.pointer p0), (.slice p1.a p1.l p1.c)]) Try.fsOK Try.mixed Try.func160 (by kernel_rfl) (by kernel_rfl)
    (Eq.mpr (by kernel_rfl : lwFn Try.prog Try.fs Try.f160 a_nest_fit [(.pointer p0), (.slice p1.a p1.l p1.c)] w R = L_nest_fit p0 p1 R w) h)

/-- slices.Clone[[]intaglio.api.Merge,intaglio.api.Merge] -/
def a_slices_Clone_sapi_Merge_api_Merge : Ann := (.seq none .nil (.seq none (.seq none .nil (.cond (.seq none .nil .nil) .nil)) (.seq none .nil .nil)))
def L_slices_Clone_sapi_Merge_api_Merge (p0 : Sl) (R : Value → World → Prop) (w : World) : Prop :=
  ifB (Option.isNone p0.a)
    (R (.slice none 0 0) w)
    (Nw (w.alloc (.cells #[] 82)) fun w1 =>
    appendS Try.prog 66 (.slice (some (blk w.heap.size)) 0 0) (.slice p0.a p0.l p0.c) w1 fun r1 w2 =>
    R (.slice r1.a r1.l r1.c) w2)
theorem slices_Clone_sapi_Merge_api_Merge_calls (p0 : Sl) (R : Value → World → Prop) (w : World) (h : L_slices_Clone_sapi_Merge_api_Merge p0 R w) : Calls Try.prog 161 #[(.slice p0.a p0.l p0.c)] w (Ret R) :=
  lw_calls (fs := Try.fs) (an := a_slices_Clone_sapi_Merge_api_Merge) (args := [(.slice p0.a p0.l p0.c)]) Try.fsOK Try.mixed Try.func161 (by kernel_rfl) (by kernel_rfl)
    (Eq.mpr (by kernel_rfl : lwFn Try.prog Try.fs Try.f161 a_slices_Clone_sapi_Merge_api_Merge [(.slice p0.a p0.l p0.c)] w R = L_slices_Clone_sapi_Merge_api_Merge p0 R w) h)

/-- (*intaglio.nest.nested).around -/
def a_nest_nested_around : Ann := (.seq none .nil (.seq none (.seq none .nil (.cond (.seq none .nil .nil) .nil)) (.seq none .nil (.seq none (.seq none .nil (.one (.loop ⟨[], [(20, (.b (.int .i64)))]⟩ (.seq none .nil (.one (.seq none .nil (.cond .nil .nil))))))) (.seq none .nil (.seq none .nil .nil))))))
def L_nest_nested_around (p0 : Option Addr) (p1 : Int) (R : Value → World → Prop) (w : World) : Prop :=
  Nw (w.alloc (.cells #[(.pointer p0)] 139)) fun w1 =>
  Nw (w1.alloc (.cells #[(.int .i64 p1)] 3)) fun w2 =>
  ldP w2.drew (blk w.heap.size) fun x1 =>
  derefP x1 fun a2 =>
  ldP w2.drew (a2.add 2) fun x3 =>
  ldI w2.drew (blk w1.heap.size) .i64 fun x4 =>
  callR Try.prog 38 #[(.pointer x3), (.int .i64 x4)] w2.drew fun v5 w3 =>
  ∃ x6 : Bool, v5 = (.bool x6) ∧
  ifB (!x6)
    (R (.slice none 0 0) w3)
    (Nw (w3.alloc (.cells #[(.slice none 0 0)] 32)) fun w4 =>
    ldP w4.drew (blk w.heap.size) fun x7 =>
    derefP x7 fun a8 =>
    ldP w4.drew (a8.add 3) fun x9 =>
    ldI w4.drew (blk w1.heap.size) .i64 fun x10 =>
    callR Try.prog 56 #[(.pointer x9), (.int .i64 x10)] w4.drew fun v11 w5 =>
    ∃ x12 : Value, v11 = x12 ∧
    RangeW Try.prog Try.fs x12 w5 (T := Int × Unit) (fun s13 => [(.int .i64 s13.1)])
      (fun mk14 l15 s13 w6 S16 =>
        w6.heap[l15]? = some (mk14 .ready none) ∧
        Nw (w6.putObj l15 (mk14 .busy none)) fun w7 =>
        ldP w7.drew (blk w.heap.size) fun x18 =>
        derefP x18 fun a19 =>
        ldS w7.drew (a19.add 1) fun x20 =>
        (0 ≤ s13.1 ∧ s13.1 < (x20.l : Int)) ∧
        derefP x20.a fun a21 =>
        ldI w7.drew (a21.add ((Int.toNat s13.1) * 3)) .u8 fun x22 =>
        ifB (x22 != (0 : Int))
          (ldP w7.drew (blk w.heap.size) fun x23 =>
          ldP w7.drew (blk w.heap.size) fun x24 =>
          derefP x24 fun a25 =>
          ldS w7.drew (a25.add 1) fun x26 =>
          (0 ≤ s13.1 ∧ s13.1 < (x26.l : Int)) ∧
          derefP x26.a fun a27 =>
          ldI w7.drew ((a27.add ((Int.toNat s13.1) * 3)).add 1) .i64 fun x28 =>
          ldI w7.drew (blk w1.heap.size) .i64 fun x29 =>
          callR Try.prog 187 #[(.pointer x23), (.int .i64 x28), (.int .i64 x29)] w7.drew fun v30 w8 =>
          ∃ x31 : Bool, v30 = (.bool x31) ∧
          ifB (!x31)
            (ldS w8 (blk w3.heap.size) fun x32 =>
            Nw (w8.alloc (.cells #[(.int .i64 s13.1)] 3)) fun w9 =>
            appendS Try.prog 32 (.slice x32.a x32.l x32.c) (.slice (some (blk w8.heap.size)) 1 1) w9 fun r33 w10 =>
            Wr w10 (blk w3.heap.size) ∧
            Nw (w10.setCell (blk w3.heap.size) (.slice r33.a r33.l r33.c)) fun w11 =>
            w11.heap[l15]? = some (mk14 .busy none) ∧
            S16 (.bool true) (w11.putObj l15 (mk14 .ready none)))
            (w8.heap[l15]? = some (mk14 .busy none) ∧
            S16 (.bool true) (w8.putObj l15 (mk14 .ready none))))
          (w7.drew.heap[l15]? = some (mk14 .busy none) ∧
          S16 (.bool true) (w7.drew.putObj l15 (mk14 .ready none))))
      (fun mk14 l15 d17 w12 =>
        rangeOut mk14 l15 .ready none w12 fun w13 =>
          ldS w13 (blk w3.heap.size) fun x34 =>
          callR Try.prog 148 #[(.slice x34.a x34.l x34.c)] w13 fun v35 w14 =>
          v35 = (.tuple #[]) ∧
          ldS w14 (blk w3.heap.size) fun x36 =>
          closeM (d17 :: []) w14 fun w15 =>
          R (.slice x36.a x36.l x36.c) w15))
theorem nest_nested_around_calls (p0 : Option Addr) (p1 : Int) (R : Value → World → Prop) (w : World) (h : L_nest_nested_around p0 p1 R w) : Calls Try.prog 162 #[(.pointer p0), (.int .i64 p1)] w (Ret R) :=
  lwR_calls (fs := Try.fs) (an := a_nest_nested_around) (args := [(.pointer p0), (.int .i64 p1)]) Try.fsOK Try.mixed Try.func162 (by kernel_rfl) (by kernel_rfl)
    (Eq.mpr (by kernel_rfl : lwRFn Try.prog Try.fs Try.f162 a_nest_nested_around [(.pointer p0), (.int .i64 p1)] w R = L_nest_nested_around p0 p1 R w) h)

/-- (*intaglio.nest.nested).bare -/
def a_nest_nested_bare : Ann := (.seq none .nil (.seq none .nil .nil))
def L_nest_nested_bare (p0 : Option Addr) (p1 : Int) (R : Value → World → Prop) (w : World) : Prop :=
  derefP p0 fun a1 =>
  ldS w (a1.add 1) fun x2 =>
  (0 ≤ p1 ∧ p1 < (x2.l : Int)) ∧
  derefP x2.a fun a3 =>
  ldI w (a3.add ((Int.toNat p1) * 3)) .u8 fun x4 =>
  ifB (x4 == (0 : Int))
    (derefP p0 fun a5 =>
    ldP w a5 fun x6 =>
    callR Try.prog 34 #[(.pointer x6), (.int .i64 p1)] w fun v7 w1 =>
    ∃ x8 : Sl, v7 = (.slice x8.a x8.l x8.c) ∧
    R (.bool (decide ((x8.l : Int) ≥ (2 : Int)))) w1)
    (R (.bool false) w)
theorem nest_nested_bare_calls (p0 : Option Addr) (p1 : Int) (R : Value → World → Prop) (w : World) (h : L_nest_nested_bare p0 p1 R w) : Calls Try.prog 163 #[(.pointer p0), (.int .i64 p1)] w (Ret R) :=
  lw_calls (fs := Try.fs) (an := a_nest_nested_bare) (args := [(.pointer p0), (.int .i64 p1)]) Try.fsOK Try.mixed Try.func163 (by kernel_rfl) (by kernel_rfl)
    (Eq.mpr (by kernel_rfl : lwFn Try.prog Try.fs Try.f163 a_nest_nested_bare [(.pointer p0), (.int .i64 p1)] w R = L_nest_nested_bare p0 p1 R w) h)

/-- (*intaglio.nest.nested).merge -/
def a_nest_nested_merge : Ann := (.seq none .nil (.seq none .nil (.seq none (.seq none .nil (.cond (.seq none .nil .nil) .nil)) (.seq none .nil (.seq (some ⟨[0, 1, 5, 6], []⟩) (.seq none .nil (.cond (.seq none .nil .nil) .nil)) (.seq none (.seq none .nil (.one (.loop ⟨[0, 1, 5, 6, 55, 56], [(57, (.b (.int .i64)))]⟩ (.seq none .nil (.seq none (.cond .nil .nil) (.seq (some ⟨[0, 1, 5, 6, 55, 56, 57], []⟩) (.one (.seq none .nil (.seq (some ⟨[0, 1, 5, 6, 8, 55, 56, 57], []⟩) (.seq none .nil (.cond .nil .nil)) (.seq none .nil (.cond (.seq none .nil .nil) .nil))))) .nil)))))) (.seq none .nil .nil)))))))
def L_nest_nested_merge (p0 : Option Addr) (p1 : Int) (R : Value → World → Prop) (w : World) : Prop :=
  derefP p0 fun a1 =>
  ldS w (a1.add 1) fun x2 =>
  (0 ≤ p1 ∧ p1 < (x2.l : Int)) ∧
  derefP x2.a fun a3 =>
  ldI w ((a3.add ((Int.toNat p1) * 3)).add 0) .u8 fun x4 =>
  ldI w ((a3.add ((Int.toNat p1) * 3)).add 1) .i64 fun x5 =>
  ldI w ((a3.add ((Int.toNat p1) * 3)).add 2) .i64 fun x6 =>
  Nw (w.alloc (.cells #[(.int .u8 (0 : Int)), (.int .i64 (0 : Int)), (.int .i64 (0 : Int))] 82)) fun w1 =>
  Wr w1 (blk w.heap.size) ∧
  Nw (w1.setCell (blk w.heap.size) (.int .u8 x4)) fun w2 =>
  Wr w2 ((blk w.heap.size).add 1) ∧
  Nw (w2.setCell ((blk w.heap.size).add 1) (.int .i64 x5)) fun w3 =>
  Wr w3 ((blk w.heap.size).add 2) ∧
  Nw (w3.setCell ((blk w.heap.size).add 2) (.int .i64 x6)) fun w4 =>
  ldI w4 (blk w.heap.size) .u8 fun x7 =>
  ifB (x7 == (0 : Int))
    (R (.bool false) w4)
    (ldI w4 (blk w.heap.size) .u8 fun x8 =>
    JoinW (S := Unit) (fun m9 =>
        ldI w4 ((blk w.heap.size).add 1) .i64 fun x11 =>
        ifB (x11 == p1)
          (R (.bool true) w4)
          (ldI w4 ((blk w.heap.size).add 1) .i64 fun x12 =>
          callR Try.prog 187 #[(.pointer p0), (.int .i64 p1), (.int .i64 x12)] w4 fun v13 w5 =>
          ∃ x14 : Bool, v13 = (.bool x14) ∧
          ifB (!x14)
            (R (.bool true) w5)
            (ifB (x8 == (2 : Int))
              (ldI w5 ((blk w.heap.size).add 2) .i64 fun x15 =>
              ldI w5 ((blk w.heap.size).add 1) .i64 fun x16 =>
              ifB (x15 == x16)
                (R (.bool true) w5)
                (ldI w5 ((blk w.heap.size).add 2) .i64 fun x17 =>
                callR Try.prog 187 #[(.pointer p0), (.int .i64 p1), (.int .i64 x17)] w5 fun v18 w6 =>
                ∃ x19 : Bool, v18 = (.bool x19) ∧
                ifB (!x19)
                  (R (.bool true) w6)
                  (m9 (()) w6)))
              (m9 (()) w5))))
      (fun s10 w7 =>
        derefP p0 fun a20 =>
        ldS w7 (a20.add 1) fun x21 =>
        LoopW (S := Int × Unit) (fun s22 w8 n23 =>
            ifB (decide (s22.1 < (x21.l : Int)))
              (JoinW (S := Unit) (fun m24 =>
                  (0 ≤ s22.1 ∧ s22.1 < (x21.l : Int)) ∧
                  derefP x21.a fun a26 =>
                  ldI w8 ((a26.add ((Int.toNat s22.1) * 3)).add 0) .u8 fun x27 =>
                  ldI w8 ((a26.add ((Int.toNat s22.1) * 3)).add 1) .i64 fun x28 =>
                  ldI w8 ((a26.add ((Int.toNat s22.1) * 3)).add 2) .i64 fun x29 =>
                  Nw (w8.alloc (.cells #[(.int .u8 (0 : Int)), (.int .i64 (0 : Int)), (.int .i64 (0 : Int))] 82)) fun w9 =>
                  Wr w9 (blk w8.heap.size) ∧
                  Nw (w9.setCell (blk w8.heap.size) (.int .u8 x27)) fun w10 =>
                  Wr w10 ((blk w8.heap.size).add 1) ∧
                  Nw (w10.setCell ((blk w8.heap.size).add 1) (.int .i64 x28)) fun w11 =>
                  Wr w11 ((blk w8.heap.size).add 2) ∧
                  Nw (w11.setCell ((blk w8.heap.size).add 2) (.int .i64 x29)) fun w12 =>
                  JoinW (S := Unit) (fun m30 =>
                      ifB (s22.1 == p1)
                        (m24 (()) w12)
                        (ldI w12 (blk w8.heap.size) .u8 fun x32 =>
                        ifB (x32 == (0 : Int))
                          (m24 (()) w12)
                          (derefP p0 fun a33 =>
                          ldP w12 (a33.add 2) fun x34 =>
                          callR Try.prog 38 #[(.pointer x34), (.int .i64 s22.1)] w12 fun v35 w13 =>
                          ∃ x36 : Bool, v35 = (.bool x36) ∧
                          ifB (!x36)
                            (m24 (()) w13)
                            (m30 (()) w13))))
                    (fun s31 w14 =>
                      ldI w14 ((blk w8.heap.size).add 1) .i64 fun x37 =>
                      ldI w14 ((blk w.heap.size).add 1) .i64 fun x38 =>
                      ifB (x37 == x38)
                        (R (.bool true) w14)
                        (ifB (x8 == (2 : Int))
                          (ldI w14 (blk w8.heap.size) .u8 fun x39 =>
                          ifB (x39 == (2 : Int))
                            (ldI w14 ((blk w8.heap.size).add 2) .i64 fun x40 =>
                            ldI w14 ((blk w.heap.size).add 2) .i64 fun x41 =>
                            ifB (x40 == x41)
                              (R (.bool true) w14)
                              (m24 (()) w14))
                            (m24 (()) w14))
                          (m24 (()) w14))))
                (fun s25 w15 =>
                  n23 ((IntKind.i64.wrap (s22.1 + (1 : Int))), ()) w15))
              (R (.bool false) w8))
          ((0 : Int), ()) w7))
theorem nest_nested_merge_calls (p0 : Option Addr) (p1 : Int) (R : Value → World → Prop) (w : World) (h : L_nest_nested_merge p0 p1 R w) : Calls Try.prog 164 #[(.pointer p0), (.int .i64 p1)] w (Ret R) :=
  lw_calls (fs := Try.fs) (an := a_nest_nested_merge) (args := [(.pointer p0), (.int .i64 p1)]) Try.fsOK Try.mixed Try.func164 (by kernel_rfl) (by kernel_rfl)
    (Eq.mpr (by kernel_rfl : lwFn Try.prog Try.fs Try.f164 a_nest_nested_merge [(.pointer p0), (.int .i64 p1)] w R = L_nest_nested_merge p0 p1 R w) h)

/-- (*intaglio.nest.nested).back -/
def a_nest_nested_back : Ann := (.seq none .nil (.seq none (.seq none .nil (.one (.loop ⟨[0, 1, 16, 17], [(18, (.b (.int .i64)))]⟩ (.seq none .nil (.seq none (.cond .nil .nil) (.seq (some ⟨[0, 1, 16, 17, 18], []⟩) (.one (.seq none .nil (.seq none .nil (.one (.seq none .nil (.cond (.seq none .nil (.cond (.seq none .nil .nil) .nil)) (.seq none .nil (.cond (.seq none .nil .nil) .nil)))))))) .nil)))))) (.seq none .nil (.seq none (.seq none .nil (.one (.loop ⟨[0, 1, 56, 57], [(8, (.b (.int .i64))), (58, (.b (.int .i64)))]⟩ (.seq none .nil (.seq none (.cond .nil .nil) (.seq (some ⟨[0, 1, 56, 57, 58], [(8, (.b (.int .i64)))]⟩) (.one (.seq none .nil (.seq none .nil (.cond .nil .nil)))) .nil)))))) (.seq none .nil .nil)))))
def L_nest_nested_back (p0 : Option Addr) (p1 : Int) (R : Value → World → Prop) (w : World) : Prop :=
  derefP p0 fun a1 =>
  ldP w a1 fun x2 =>
  callR Try.prog 34 #[(.pointer x2), (.int .i64 p1)] w fun v3 w1 =>
  ∃ x4 : Sl, v3 = (.slice x4.a x4.l x4.c) ∧
  LoopW (S := Int × Unit) (fun s5 w2 n6 =>
      ifB (decide (s5.1 < (x4.l : Int)))
        (JoinW (S := Unit) (fun m7 =>
            (0 ≤ s5.1 ∧ s5.1 < (x4.l : Int)) ∧
            derefP x4.a fun a9 =>
            ldI w2 (a9.add (Int.toNat s5.1)) .i64 fun x10 =>
            derefP p0 fun a11 =>
            ldS w2 (a11.add 1) fun x12 =>
            (0 ≤ x10 ∧ x10 < (x12.l : Int)) ∧
            derefP x12.a fun a13 =>
            ldI w2 ((a13.add ((Int.toNat x10) * 3)).add 0) .u8 fun x14 =>
            ldI w2 ((a13.add ((Int.toNat x10) * 3)).add 1) .i64 fun x15 =>
            ldI w2 ((a13.add ((Int.toNat x10) * 3)).add 2) .i64 fun x16 =>
            Nw (w2.alloc (.cells #[(.int .u8 (0 : Int)), (.int .i64 (0 : Int)), (.int .i64 (0 : Int))] 82)) fun w3 =>
            Wr w3 (blk w2.heap.size) ∧
            Nw (w3.setCell (blk w2.heap.size) (.int .u8 x14)) fun w4 =>
            Wr w4 ((blk w2.heap.size).add 1) ∧
            Nw (w4.setCell ((blk w2.heap.size).add 1) (.int .i64 x15)) fun w5 =>
            Wr w5 ((blk w2.heap.size).add 2) ∧
            Nw (w5.setCell ((blk w2.heap.size).add 2) (.int .i64 x16)) fun w6 =>
            callR Try.prog 187 #[(.pointer p0), (.int .i64 x10), (.int .i64 p1)] w6 fun v17 w7 =>
            ∃ x18 : Bool, v17 = (.bool x18) ∧
            ifB x18
              (ldI w7 (blk w2.heap.size) .u8 fun x19 =>
              ifB (x19 != (2 : Int))
                (R (.bool true) w7)
                (ldI w7 ((blk w2.heap.size).add 2) .i64 fun x20 =>
                callR Try.prog 187 #[(.pointer p0), (.int .i64 x20), (.int .i64 p1)] w7 fun v21 w8 =>
                ∃ x22 : Bool, v21 = (.bool x22) ∧
                ifB (!x22)
                  (R (.bool true) w8)
                  (m7 (()) w8)))
              (callR Try.prog 188 #[(.pointer p0), (.int .i64 x10), (.int .i64 p1)] w7 fun v23 w9 =>
              ∃ x24 : Bool, v23 = (.bool x24) ∧
              ifB x24
                (R (.bool true) w9)
                (m7 (()) w9)))
          (fun s8 w10 =>
            n6 ((IntKind.i64.wrap (s5.1 + (1 : Int))), ()) w10))
        (derefP p0 fun a25 =>
        ldP w2 a25 fun x26 =>
        callR Try.prog 36 #[(.pointer x26), (.int .i64 p1)] w2 fun v27 w11 =>
        ∃ x28 : Sl, v27 = (.slice x28.a x28.l x28.c) ∧
        LoopW (S := Int × Int × Unit) (fun s29 w12 n30 =>
            ifB (decide (s29.2.1 < (x28.l : Int)))
              (JoinW (S := Int × Unit) (fun m31 =>
                  (0 ≤ s29.2.1 ∧ s29.2.1 < (x28.l : Int)) ∧
                  derefP x28.a fun a33 =>
                  ldI w12 (a33.add (Int.toNat s29.2.1)) .i64 fun x34 =>
                  callR Try.prog 187 #[(.pointer p0), (.int .i64 p1), (.int .i64 x34)] w12 fun v35 w13 =>
                  ∃ x36 : Bool, v35 = (.bool x36) ∧
                  ifB x36
                    (m31 ((IntKind.i64.wrap (s29.1 + (1 : Int))), ()) w13)
                    (m31 (s29.1, ()) w13))
                (fun s32 w14 =>
                  n30 (s32.1, (IntKind.i64.wrap (s29.2.1 + (1 : Int))), ()) w14))
              (R (.bool (decide (s29.1 ≥ (2 : Int)))) w12))
          ((0 : Int), (0 : Int), ()) w11))
    ((0 : Int), ()) w1
theorem nest_nested_back_calls (p0 : Option Addr) (p1 : Int) (R : Value → World → Prop) (w : World) (h : L_nest_nested_back p0 p1 R w) : Calls Try.prog 165 #[(.pointer p0), (.int .i64 p1)] w (Ret R) :=
  lw_calls (fs := Try.fs) (an := a_nest_nested_back) (args := [(.pointer p0), (.int .i64 p1)]) Try.fsOK Try.mixed Try.func165 (by kernel_rfl) (by kernel_rfl)
    (Eq.mpr (by kernel_rfl : lwFn Try.prog Try.fs Try.f165 a_nest_nested_back [(.pointer p0), (.int .i64 p1)] w R = L_nest_nested_back p0 p1 R w) h)

/-- (*intaglio.nest.nested).exit -/
def a_nest_nested_exit : Ann := (.seq none .nil (.one (.seq none .nil (.seq none (.seq none .nil (.one (.loop ⟨[0, 1, 12, 13], [(14, (.b (.int .i64)))]⟩ (.seq none .nil (.seq none (.cond .nil .nil) (.seq none (.one (.seq none .nil (.seq none (.seq none .nil (.cond .nil .nil)) (.seq none .nil .nil)))) .nil)))))) (.seq none .nil .nil)))))
def L_nest_nested_exit (p0 : Option Addr) (p1 : Int) (R : Value → World → Prop) (w : World) : Prop :=
  derefP p0 fun a1 =>
  ldP w a1 fun x2 =>
  callR Try.prog 34 #[(.pointer x2), (.int .i64 p1)] w fun v3 w1 =>
  ∃ x4 : Sl, v3 = (.slice x4.a x4.l x4.c) ∧
  LoopW (S := Int × Unit) (fun s5 w2 n6 =>
      ifB (decide (s5.1 < (x4.l : Int)))
        ((0 ≤ s5.1 ∧ s5.1 < (x4.l : Int)) ∧
        derefP x4.a fun a7 =>
        ldI w2 (a7.add (Int.toNat s5.1)) .i64 fun x8 =>
        callR Try.prog 189 #[(.pointer p0), (.int .i64 p1), (.int .i64 x8)] w2 fun v9 w3 =>
        ∃ x10 : Bool, v9 = (.bool x10) ∧
        ifB x10
          (n6 ((IntKind.i64.wrap (s5.1 + (1 : Int))), ()) w3)
          (R (.bool true) w3))
        (R (.bool false) w2))
    ((0 : Int), ()) w1
theorem nest_nested_exit_calls (p0 : Option Addr) (p1 : Int) (R : Value → World → Prop) (w : World) (h : L_nest_nested_exit p0 p1 R w) : Calls Try.prog 166 #[(.pointer p0), (.int .i64 p1)] w (Ret R) :=
  lw_calls (fs := Try.fs) (an := a_nest_nested_exit) (args := [(.pointer p0), (.int .i64 p1)]) Try.fsOK Try.mixed Try.func166 (by kernel_rfl) (by kernel_rfl)
    (Eq.mpr (by kernel_rfl : lwFn Try.prog Try.fs Try.f166 a_nest_nested_exit [(.pointer p0), (.int .i64 p1)] w R = L_nest_nested_exit p0 p1 R w) h)

/-- slices.ContainsFunc[[]intaglio.api.Merge,intaglio.api.Merge] -/
def a_slices_ContainsFunc_sapi_Merge_api_Merge : Ann := (.seq none .nil (.seq none .nil .nil))
def L_slices_ContainsFunc_sapi_Merge_api_Merge (p0 : Sl) (p1 : Value) (R : Value → World → Prop) (w : World) : Prop :=
  callR Try.prog 213 #[(.slice p0.a p0.l p0.c), p1] w fun v1 w1 =>
  ∃ x2 : Int, v1 = (.int .i64 x2) ∧
  R (.bool (decide (x2 ≥ (0 : Int)))) w1
theorem slices_ContainsFunc_sapi_Merge_api_Merge_calls (p0 : Sl) (p1 : Value) (R : Value → World → Prop) (w : World) (h : L_slices_ContainsFunc_sapi_Merge_api_Merge p0 p1 R w) : Calls Try.prog 185 #[(.slice p0.a p0.l p0.c), p1] w (Ret R) :=
  lw_calls (fs := Try.fs) (an := a_slices_ContainsFunc_sapi_Merge_api_Merge) (args := [(.slice p0.a p0.l p0.c), p1]) Try.fsOK Try.mixed Try.func185 (by kernel_rfl) (by kernel_rfl)
    (Eq.mpr (by kernel_rfl : lwFn Try.prog Try.fs Try.f185 a_slices_ContainsFunc_sapi_Merge_api_Merge [(.slice p0.a p0.l p0.c), p1] w R = L_slices_ContainsFunc_sapi_Merge_api_Merge p0 p1 R w) h)

/-- intaglio.nest.fit 1 -/
def a_nest_fit_1 : Ann := (.seq none .nil (.seq none .nil .nil))
def L_nest_fit_1 (p0 : (Int × Int × Int × Unit)) (c0 : Addr) (R : Value → World → Prop) (w : World) : Prop :=
  Nw (w.alloc (.cells #[(.int .u8 p0.1), (.int .i64 p0.2.1), (.int .i64 p0.2.2.1)] 82)) fun w1 =>
  ldI w1 (blk w.heap.size) .u8 fun x1 =>
  ifB (decide (x1 > (3 : Int)))
    (R (.bool true) w1)
    (ldI w1 (blk w.heap.size) .u8 fun x2 =>
    ifB (x2 != (0 : Int))
      (ldP w1 c0 fun x3 =>
      ldI w1 ((blk w.heap.size).add 1) .i64 fun x4 =>
      callR Try.prog 124 #[(.pointer x3), (.int .i64 x4)] w1 fun v5 w2 =>
      ∃ x6 : Bool, v5 = (.bool x6) ∧
      ifB (!x6)
        (R (.bool true) w2)
        (ldI w2 (blk w.heap.size) .u8 fun x7 =>
        ifB (x7 == (2 : Int))
          (ldP w2 c0 fun x8 =>
          ldI w2 ((blk w.heap.size).add 2) .i64 fun x9 =>
          callR Try.prog 124 #[(.pointer x8), (.int .i64 x9)] w2 fun v10 w3 =>
          ∃ x11 : Bool, v10 = (.bool x11) ∧
          R (.bool (!x11)) w3)
          (R (.bool false) w2)))
      (ldI w1 (blk w.heap.size) .u8 fun x12 =>
      ifB (x12 == (2 : Int))
        (ldP w1 c0 fun x13 =>
        ldI w1 ((blk w.heap.size).add 2) .i64 fun x14 =>
        callR Try.prog 124 #[(.pointer x13), (.int .i64 x14)] w1 fun v15 w4 =>
        ∃ x16 : Bool, v15 = (.bool x16) ∧
        R (.bool (!x16)) w4)
        (R (.bool false) w1)))
theorem nest_fit_1_calls (p0 : (Int × Int × Int × Unit)) (c0 : Addr) (R : Value → World → Prop) (w : World) (h : L_nest_fit_1 p0 c0 R w) : Calls Try.prog 186 #[(.agg #[(.int .u8 p0.1), (.int .i64 p0.2.1), (.int .i64 p0.2.2.1)]), (.pointer (some c0))] w (Ret R) :=
  lw_calls (fs := Try.fs) (an := a_nest_fit_1) (args := [(.agg #[(.int .u8 p0.1), (.int .i64 p0.2.1), (.int .i64 p0.2.2.1)]), (.pointer (some c0))]) Try.fsOK Try.mixed Try.func186 (by kernel_rfl) (by kernel_rfl)
    (Eq.mpr (by kernel_rfl : lwFn Try.prog Try.fs Try.f186 a_nest_fit_1 [(.agg #[(.int .u8 p0.1), (.int .i64 p0.2.1), (.int .i64 p0.2.2.1)]), (.pointer (some c0))] w R = L_nest_fit_1 p0 c0 R w) h)

/-- (*intaglio.nest.nested).dominates -/
def a_nest_nested_dominates : Ann := (.seq none .nil (.seq none .nil .nil))
def L_nest_nested_dominates (p0 : Option Addr) (p1 : Int) (p2 : Int) (R : Value → World → Prop) (w : World) : Prop :=
  derefP p0 fun a1 =>
  ldP w (a1.add 2) fun x2 =>
  callR Try.prog 38 #[(.pointer x2), (.int .i64 p1)] w fun v3 w1 =>
  ∃ x4 : Bool, v3 = (.bool x4) ∧
  ifB x4
    (derefP p0 fun a5 =>
    ldP w1 (a5.add 2) fun x6 =>
    callR Try.prog 38 #[(.pointer x6), (.int .i64 p2)] w1 fun v7 w2 =>
    ∃ x8 : Bool, v7 = (.bool x8) ∧
    ifB x8
      (derefP p0 fun a9 =>
      ldP w2 (a9.add 3) fun x10 =>
      callR Try.prog 51 #[(.pointer x10), (.int .i64 p1), (.int .i64 p2)] w2 fun v11 w3 =>
      ∃ x12 : Bool, v11 = (.bool x12) ∧
      R (.bool x12) w3)
      (R (.bool false) w2))
    (R (.bool false) w1)
theorem nest_nested_dominates_calls (p0 : Option Addr) (p1 : Int) (p2 : Int) (R : Value → World → Prop) (w : World) (h : L_nest_nested_dominates p0 p1 p2 R w) : Calls Try.prog 187 #[(.pointer p0), (.int .i64 p1), (.int .i64 p2)] w (Ret R) :=
  lw_calls (fs := Try.fs) (an := a_nest_nested_dominates) (args := [(.pointer p0), (.int .i64 p1), (.int .i64 p2)]) Try.fsOK Try.mixed Try.func187 (by kernel_rfl) (by kernel_rfl)
    (Eq.mpr (by kernel_rfl : lwFn Try.prog Try.fs Try.f187 a_nest_nested_dominates [(.pointer p0), (.int .i64 p1), (.int .i64 p2)] w R = L_nest_nested_dominates p0 p1 p2 R w) h)

/-- (*intaglio.nest.nested).comes -/
def a_nest_nested_comes : Ann := (.seq none .nil (.seq none .nil (.seq none .nil (.seq none .nil (.seq none .nil .nil)))))
def L_nest_nested_comes (p0 : Option Addr) (p1 : Int) (p2 : Int) (R : Value → World → Prop) (w : World) : Prop :=
  Nw (w.alloc (.cells #[(.pointer p0)] 139)) fun w1 =>
  Nw (w1.alloc (.cells #[(.int .i64 p2)] 3)) fun w2 =>
  ldP w2 (blk w.heap.size) fun x1 =>
  derefP x1 fun a2 =>
  ldP w2 a2 fun x3 =>
  callR Try.prog 33 #[(.pointer x3)] w2 fun v4 w3 =>
  ∃ x5 : Int, v4 = (.int .i64 x5) ∧
  (0 ≤ x5 ∧ x5 ≤ x5 ∧ (8 : Int) * x5 ≤ 281474976710656 ∧ x5 ≤ 9223372036854775807) ∧
  Nw (w3.alloc (.cells (madeCells #[(.int .i64 (0 : Int))] ((Int.toNat x5) * 1)) 3)) fun w4 =>
  Nw (w4.alloc (.cells #[(.slice none 0 0)] 32)) fun w5 =>
  Wr w5 (blk w4.heap.size) ∧
  Nw (w5.setCell (blk w4.heap.size) (.slice (some (blk w3.heap.size)) (Int.toNat x5) (Int.toNat x5))) fun w6 =>
  Nw (w6.alloc (.cells #[.nilFunc] 41)) fun w7 =>
  Wr w7 (blk w6.heap.size) ∧
  Nw (w7.setCell (blk w6.heap.size) (.func (.func 214) #[] #[(.pointer (some (blk w1.heap.size))), (.pointer (some (blk w4.heap.size))), (.pointer (some (blk w.heap.size))), (.pointer (some (blk w6.heap.size)))])) fun w8 =>
  ldR w8 (blk w6.heap.size) fun x6 =>
  callV Try.prog Try.fs x6 [(.int .i64 p1)] w8 fun v7 w9 =>
  ∃ x8 : Bool, v7 = (.bool x8) ∧
  R (.bool x8) w9
theorem nest_nested_comes_calls (p0 : Option Addr) (p1 : Int) (p2 : Int) (R : Value → World → Prop) (w : World) (h : L_nest_nested_comes p0 p1 p2 R w) : Calls Try.prog 188 #[(.pointer p0), (.int .i64 p1), (.int .i64 p2)] w (Ret R) :=
  lw_calls (fs := Try.fs) (an := a_nest_nested_comes) (args := [(.pointer p0), (.int .i64 p1), (.int .i64 p2)]) Try.fsOK Try.mixed Try.func188 (by kernel_rfl) (by kernel_rfl)
    (Eq.mpr (by kernel_rfl : lwFn Try.prog Try.fs Try.f188 a_nest_nested_comes [(.pointer p0), (.int .i64 p1), (.int .i64 p2)] w R = L_nest_nested_comes p0 p1 p2 R w) h)

/-- (*intaglio.nest.nested).may -/
def a_nest_nested_may : Ann := (.seq none .nil (.seq none (.seq none .nil (.one (.loop ⟨[0, 1, 2, 20, 21], [(22, (.b (.int .i64)))]⟩ (.seq none .nil (.seq none (.cond .nil .nil) (.seq (some ⟨[0, 1, 2, 20, 21, 22], []⟩) (.one (.seq none .nil (.seq none .nil (.cond (.seq none .nil .nil) .nil)))) .nil)))))) (.seq none .nil (.seq none (.seq none .nil (.one (.loop ⟨[0, 1, 2, 43, 44], [(9, (.b .slice)), (45, (.b (.int .i64)))]⟩ (.seq none .nil (.seq none (.cond .nil .nil) (.seq (some ⟨[0, 1, 2, 43, 44, 45], [(9, (.b .slice))]⟩) (.one (.seq none .nil (.seq none .nil (.cond .nil .nil)))) .nil)))))) (.seq none (.seq none .nil (.cond (.seq none .nil .nil) .nil)) (.seq none .nil (.seq (some ⟨[0, 1, 2], []⟩) (.seq none .nil (.cond (.seq none .nil .nil) .nil)) (.seq none .nil (.seq none .nil .nil)))))))))
def L_nest_nested_may (p0 : Option Addr) (p1 : Int) (p2 : Int) (R : Value → World → Prop) (w : World) : Prop :=
  derefP p0 fun a1 =>
  ldS w (a1.add 4) fun x2 =>
  (0 ≤ p2 ∧ p2 < (x2.l : Int)) ∧
  derefP x2.a fun a3 =>
  ldS w (a3.add (Int.toNat p2)) fun x4 =>
  LoopW (S := Int × Unit) (fun s5 w1 n6 =>
      ifB (decide (s5.1 < (x4.l : Int)))
        (JoinW (S := Unit) (fun m7 =>
            (0 ≤ s5.1 ∧ s5.1 < (x4.l : Int)) ∧
            derefP x4.a fun a9 =>
            ldI w1 (a9.add (Int.toNat s5.1)) .i64 fun x10 =>
            ifB (x10 != p2)
              (callR Try.prog 125 #[(.pointer p0), (.int .i64 x10), (.int .i64 p1)] w1 fun v11 w2 =>
              ∃ x12 : Bool, v11 = (.bool x12) ∧
              ifB (!x12)
                (R (.bool false) w2)
                (m7 (()) w2))
              (m7 (()) w1))
          (fun s8 w3 =>
            n6 ((IntKind.i64.wrap (s5.1 + (1 : Int))), ()) w3))
        (derefP p0 fun a13 =>
        ldS w1 (a13.add 4) fun x14 =>
        (0 ≤ p1 ∧ p1 < (x14.l : Int)) ∧
        derefP x14.a fun a15 =>
        ldS w1 (a15.add (Int.toNat p1)) fun x16 =>
        LoopW (S := Sl × Int × Unit) (fun s17 w4 n18 =>
            ifB (decide (s17.2.1 < (x16.l : Int)))
              (JoinW (S := Sl × Unit) (fun m19 =>
                  (0 ≤ s17.2.1 ∧ s17.2.1 < (x16.l : Int)) ∧
                  derefP x16.a fun a21 =>
                  ldI w4 (a21.add (Int.toNat s17.2.1)) .i64 fun x22 =>
                  callR Try.prog 125 #[(.pointer p0), (.int .i64 x22), (.int .i64 p2)] w4 fun v23 w5 =>
                  ∃ x24 : Bool, v23 = (.bool x24) ∧
                  ifB (!x24)
                    (Nw (w5.alloc (.cells #[(.int .i64 x22)] 3)) fun w6 =>
                    appendS Try.prog 32 (.slice s17.1.a s17.1.l s17.1.c) (.slice (some (blk w5.heap.size)) 1 1) w6 fun r25 w7 =>
                    m19 (r25, ()) w7)
                    (m19 (s17.1, ()) w5))
                (fun s20 w8 =>
                  n18 (s20.1, (IntKind.i64.wrap (s17.2.1 + (1 : Int))), ()) w8))
              (ifB ((s17.1.l : Int) == (0 : Int))
                (R (.bool true) w4)
                ((0 ≤ (0 : Int) ∧ (0 : Int) < (s17.1.l : Int)) ∧
                derefP s17.1.a fun a26 =>
                ldI w4 (a26.add 0) .i64 fun x27 =>
                JoinW (S := Unit) (fun m28 =>
                    derefP p0 fun a30 =>
                    ldS w4 (a30.add 1) fun x31 =>
                    (0 ≤ x27 ∧ x27 < (x31.l : Int)) ∧
                    derefP x31.a fun a32 =>
                    ldI w4 ((a32.add ((Int.toNat x27) * 3)).add 1) .i64 fun x33 =>
                    ifB (p2 == x33)
                      (ifB ((s17.1.l : Int) == (1 : Int))
                        (R (.bool true) w4)
                        (Nw (w4.alloc (.cells #[(.int .u8 (2 : Int)), (.int .u8 (3 : Int))] 5)) fun w9 =>
                        callR Try.prog 131 #[(.pointer p0), (.int .i64 p1), (.slice (some (blk w4.heap.size)) 2 2)] w9 fun v34 w10 =>
                        ∃ x35 : Int, v34 = (.int .i64 x35) ∧
                        ifB (x27 == x35)
                          (R (.bool true) w10)
                          (m28 (()) w10)))
                      (m28 (()) w4))
                  (fun s29 w11 =>
                    Nw (w11.alloc (.cells #[(.int .u8 (2 : Int))] 5)) fun w12 =>
                    callR Try.prog 131 #[(.pointer p0), (.int .i64 p1), (.slice (some (blk w11.heap.size)) 1 1)] w12 fun v36 w13 =>
                    ∃ x37 : Int, v36 = (.int .i64 x37) ∧
                    ifB (decide (x37 ≥ (0 : Int)))
                      (derefP p0 fun a38 =>
                      ldS w13 (a38.add 1) fun x39 =>
                      (0 ≤ x37 ∧ x37 < (x39.l : Int)) ∧
                      derefP x39.a fun a40 =>
                      ldI w13 ((a40.add ((Int.toNat x37) * 3)).add 2) .i64 fun x41 =>
                      ifB (p2 == x41)
                        (callR Try.prog 125 #[(.pointer p0), (.int .i64 x37), (.int .i64 p2)] w13 fun v42 w14 =>
                        ∃ x43 : Bool, v42 = (.bool x43) ∧
                        R (.bool x43) w14)
                        (R (.bool false) w13))
                      (R (.bool false) w13)))))
          ((Sl.mk none 0 0), (0 : Int), ()) w1))
    ((0 : Int), ()) w
theorem nest_nested_may_calls (p0 : Option Addr) (p1 : Int) (p2 : Int) (R : Value → World → Prop) (w : World) (h : L_nest_nested_may p0 p1 p2 R w) : Calls Try.prog 189 #[(.pointer p0), (.int .i64 p1), (.int .i64 p2)] w (Ret R) :=
  lw_calls (fs := Try.fs) (an := a_nest_nested_may) (args := [(.pointer p0), (.int .i64 p1), (.int .i64 p2)]) Try.fsOK Try.mixed Try.func189 (by kernel_rfl) (by kernel_rfl)
    (Eq.mpr (by kernel_rfl : lwFn Try.prog Try.fs Try.f189 a_nest_nested_may [(.pointer p0), (.int .i64 p1), (.int .i64 p2)] w R = L_nest_nested_may p0 p1 p2 R w) h)

/-- slices.IndexFunc[[]intaglio.api.Merge,intaglio.api.Merge] -/
def a_slices_IndexFunc_sapi_Merge_api_Merge : Ann := (.seq none .nil (.seq none (.seq none .nil (.one (.loop ⟨[0, 1, 7], [(8, (.b (.int .i64)))]⟩ (.seq none .nil (.seq none (.cond .nil .nil) (.seq none (.one (.seq none .nil (.seq none .nil (.cond (.seq none .nil .nil) .nil)))) .nil)))))) (.seq none .nil .nil)))
def L_slices_IndexFunc_sapi_Merge_api_Merge (p0 : Sl) (p1 : Value) (R : Value → World → Prop) (w : World) : Prop :=
  LoopW (S := Int × Unit) (fun s1 w1 n2 =>
      ifB (decide (s1.1 < (p0.l : Int)))
        ((0 ≤ s1.1 ∧ s1.1 < (p0.l : Int)) ∧
        derefP p0.a fun a3 =>
        ldI w1 ((a3.add ((Int.toNat s1.1) * 3)).add 0) .u8 fun x4 =>
        ldI w1 ((a3.add ((Int.toNat s1.1) * 3)).add 1) .i64 fun x5 =>
        ldI w1 ((a3.add ((Int.toNat s1.1) * 3)).add 2) .i64 fun x6 =>
        callV Try.prog Try.fs p1 [(.agg #[(.int .u8 x4), (.int .i64 x5), (.int .i64 x6)])] w1 fun v7 w2 =>
        ∃ x8 : Bool, v7 = (.bool x8) ∧
        ifB x8
          (R (.int .i64 s1.1) w2)
          (n2 ((IntKind.i64.wrap (s1.1 + (1 : Int))), ()) w2))
        (R (.int .i64 (-1 : Int)) w1))
    ((0 : Int), ()) w
theorem slices_IndexFunc_sapi_Merge_api_Merge_calls (p0 : Sl) (p1 : Value) (R : Value → World → Prop) (w : World) (h : L_slices_IndexFunc_sapi_Merge_api_Merge p0 p1 R w) : Calls Try.prog 213 #[(.slice p0.a p0.l p0.c), p1] w (Ret R) :=
  lw_calls (fs := Try.fs) (an := a_slices_IndexFunc_sapi_Merge_api_Merge) (args := [(.slice p0.a p0.l p0.c), p1]) Try.fsOK Try.mixed Try.func213 (by kernel_rfl) (by kernel_rfl)
    (Eq.mpr (by kernel_rfl : lwFn Try.prog Try.fs Try.f213 a_slices_IndexFunc_sapi_Merge_api_Merge [(.slice p0.a p0.l p0.c), p1] w R = L_slices_IndexFunc_sapi_Merge_api_Merge p0 p1 R w) h)

/-- (*intaglio.nest.nested).comes 1 -/
def a_nest_nested_comes_1 : Ann := (.seq none .nil (.seq none (.seq none .nil (.cond (.seq none .nil .nil) .nil)) (.seq none .nil (.seq none .nil .nil))))
def L_nest_nested_comes_1 (p0 : Int) (c0 : Addr) (c1 : Addr) (c2 : Addr) (c3 : Addr) (R : Value → World → Prop) (w : World) : Prop :=
  Nw (w.alloc (.cells #[(.int .i64 p0)] 3)) fun w1 =>
  ldI w1 (blk w.heap.size) .i64 fun x1 =>
  ldI w1 c0 .i64 fun x2 =>
  ifB (x1 == x2)
    (R (.bool true) w1)
    (ldS w1 c1 fun x3 =>
    ldI w1 (blk w.heap.size) .i64 fun x4 =>
    (0 ≤ x4 ∧ x4 < (x3.l : Int)) ∧
    derefP x3.a fun a5 =>
    Wr w1 (a5.add (Int.toNat x4)) ∧
    Nw (w1.setCell (a5.add (Int.toNat x4)) (.int .i64 (1 : Int))) fun w2 =>
    ldP w2.drew c2 fun x6 =>
    derefP x6 fun a7 =>
    ldP w2.drew a7 fun x8 =>
    ldI w2.drew (blk w.heap.size) .i64 fun x9 =>
    callR Try.prog 34 #[(.pointer x8), (.int .i64 x9)] w2.drew fun v10 w3 =>
    ∃ x11 : Sl, v10 = (.slice x11.a x11.l x11.c) ∧
    callR Try.prog 111 #[(.slice x11.a x11.l x11.c), (.func (.func 215) #[] #[(.pointer (some c1)), (.pointer (some c2)), (.pointer (some (blk w.heap.size))), (.pointer (some c3))])] w3 fun v12 w4 =>
    ∃ x13 : Bool, v12 = (.bool x13) ∧
    R (.bool x13) w4)
theorem nest_nested_comes_1_calls (p0 : Int) (c0 : Addr) (c1 : Addr) (c2 : Addr) (c3 : Addr) (R : Value → World → Prop) (w : World) (h : L_nest_nested_comes_1 p0 c0 c1 c2 c3 R w) : Calls Try.prog 214 #[(.int .i64 p0), (.pointer (some c0)), (.pointer (some c1)), (.pointer (some c2)), (.pointer (some c3))] w (Ret R) :=
  lw_calls (fs := Try.fs) (an := a_nest_nested_comes_1) (args := [(.int .i64 p0), (.pointer (some c0)), (.pointer (some c1)), (.pointer (some c2)), (.pointer (some c3))]) Try.fsOK Try.mixed Try.func214 (by kernel_rfl) (by kernel_rfl)
    (Eq.mpr (by kernel_rfl : lwFn Try.prog Try.fs Try.f214 a_nest_nested_comes_1 [(.int .i64 p0), (.pointer (some c0)), (.pointer (some c1)), (.pointer (some c2)), (.pointer (some c3))] w R = L_nest_nested_comes_1 p0 c0 c1 c2 c3 R w) h)

/-- (*intaglio.nest.nested).comes 1 1 -/
def a_nest_nested_comes_1_1 : Ann := (.seq none .nil (.seq none .nil .nil))
def L_nest_nested_comes_1_1 (p0 : Int) (c0 : Addr) (c1 : Addr) (c2 : Addr) (c3 : Addr) (R : Value → World → Prop) (w : World) : Prop :=
  ldS w c0 fun x1 =>
  (0 ≤ p0 ∧ p0 < (x1.l : Int)) ∧
  derefP x1.a fun a2 =>
  ldI w (a2.add (Int.toNat p0)) .i64 fun x3 =>
  ifB (x3 == (0 : Int))
    (ldP w c1 fun x4 =>
    ldI w c2 .i64 fun x5 =>
    callR Try.prog 187 #[(.pointer x4), (.int .i64 p0), (.int .i64 x5)] w fun v6 w1 =>
    ∃ x7 : Bool, v6 = (.bool x7) ∧
    ifB (!x7)
      (ldR w1 c3 fun x8 =>
      callV Try.prog Try.fs x8 [(.int .i64 p0)] w1 fun v9 w2 =>
      ∃ x10 : Bool, v9 = (.bool x10) ∧
      R (.bool x10) w2)
      (R (.bool false) w1))
    (R (.bool false) w)
theorem nest_nested_comes_1_1_calls (p0 : Int) (c0 : Addr) (c1 : Addr) (c2 : Addr) (c3 : Addr) (R : Value → World → Prop) (w : World) (h : L_nest_nested_comes_1_1 p0 c0 c1 c2 c3 R w) : Calls Try.prog 215 #[(.int .i64 p0), (.pointer (some c0)), (.pointer (some c1)), (.pointer (some c2)), (.pointer (some c3))] w (Ret R) :=
  lw_calls (fs := Try.fs) (an := a_nest_nested_comes_1_1) (args := [(.int .i64 p0), (.pointer (some c0)), (.pointer (some c1)), (.pointer (some c2)), (.pointer (some c3))]) Try.fsOK Try.mixed Try.func215 (by kernel_rfl) (by kernel_rfl)
    (Eq.mpr (by kernel_rfl : lwFn Try.prog Try.fs Try.f215 a_nest_nested_comes_1_1 [(.int .i64 p0), (.pointer (some c0)), (.pointer (some c1)), (.pointer (some c2)), (.pointer (some c3))] w R = L_nest_nested_comes_1_1 p0 c0 c1 c2 c3 R w) h)

end Go.Proofs
