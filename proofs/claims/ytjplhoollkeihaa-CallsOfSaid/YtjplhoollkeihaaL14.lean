/-
  Printed by a program of the author: what each function comes to.
-/
import Derived.Test.YtjplhoollkeihaaProg
import Derived.Test.YtjplhoollkeihaaGkR
import Derived.Test.YtjplhoollkeihaaLb
namespace Go.Proofs
open Go.Gk
set_option linter.unusedVariables false
set_option maxRecDepth 100000

/-- intaglio.intagliolaw14.GraphOf -/
def a_intagliolaw14_GraphOf : Ann := (.seq none .nil (.seq none .nil (.seq none .nil (.seq none .nil (.seq (some ⟨[0, 3, 5, 6], []⟩) (.seq none .nil (.cond (.seq none .nil .nil) .nil)) (.seq none (.seq none .nil (.one (.loop ⟨[0, 3, 5, 6], [(8, (.b (.int .i64)))]⟩ (.seq none (.seq none .nil (.cond .nil .nil)) (.seq none (.one (.seq none (.seq none .nil (.cond (.seq none .nil .nil) .nil)) .nil)) .nil))))) (.seq none .nil .nil)))))))
def L_intagliolaw14_GraphOf (p0 : Sl) (R : Value → World → Prop) (w : World) : Prop :=
  callR Try.prog 26 #[(.slice p0.a p0.l p0.c)] w fun v1 w1 =>
  ∃ x2 : Option Addr, ∃ x3 : Int, v1 = (.tuple #[(.pointer x2), (.int .i64 x3)]) ∧
  callR Try.prog 27 #[(.slice p0.a p0.l p0.c)] w1 fun v4 w2 =>
  ∃ x5 : Sl, v4 = (.slice x5.a x5.l x5.c) ∧
  callR Try.prog 28 #[(.slice x5.a x5.l x5.c)] w2 fun v6 w3 =>
  ∃ x7 : Option Addr, ∃ x8 : Int, v6 = (.tuple #[(.pointer x7), (.int .i64 x8)]) ∧
  JoinW (S := Unit) (fun m9 =>
      ifB (x8 != x3)
        (R (.bool false) w3)
        (ifB ((x5.l : Int) != (p0.l : Int))
          (R (.bool false) w3)
          (m9 (()) w3)))
    (fun s10 w4 =>
      LoopW (S := Int × Unit) (fun s11 w5 n12 =>
          ifB (decide (s11.1 < (p0.l : Int)))
            ((0 ≤ s11.1 ∧ s11.1 < (x5.l : Int)) ∧
            derefP x5.a fun a13 =>
            ldS w5.drew (a13.add (Int.toNat s11.1)) fun x14 =>
            (0 ≤ s11.1 ∧ s11.1 < (p0.l : Int)) ∧
            derefP p0.a fun a15 =>
            ldS w5.drew (a15.add (Int.toNat s11.1)) fun x16 =>
            callR Try.prog 29 #[(.slice x14.a x14.l x14.c), (.slice x16.a x16.l x16.c)] w5.drew fun v17 w6 =>
            ∃ x18 : Bool, v17 = (.bool x18) ∧
            ifB (!x18)
              (R (.bool false) w6)
              ((0 ≤ s11.1 ∧ s11.1 < (x5.l : Int)) ∧
              derefP x5.a fun a19 =>
              ldS w6 (a19.add (Int.toNat s11.1)) fun x20 =>
              callR Try.prog 30 #[(.slice x20.a x20.l x20.c)] w6 fun v21 w7 =>
              v21 = (.tuple #[]) ∧
              n12 ((IntKind.i64.wrap (s11.1 + (1 : Int))), ()) w7))
            (callR Try.prog 31 #[(.pointer x7), (.pointer x2)] w5 fun v22 w8 =>
            ∃ x23 : Bool, v22 = (.bool x23) ∧
            ifB x23
              (callR Try.prog 32 #[] w8 fun v24 w9 =>
              ∃ x25 : Bool, v24 = (.bool x25) ∧
              R (.bool x25) w9)
              (R (.bool false) w8)))
        ((0 : Int), ()) w4)
theorem intagliolaw14_GraphOf_calls (p0 : Sl) (R : Value → World → Prop) (w : World) (h : L_intagliolaw14_GraphOf p0 R w) : Calls Try.prog 3 #[(.slice p0.a p0.l p0.c)] w (Ret R) :=
  lw_calls (fs := Try.fs) (an := a_intagliolaw14_GraphOf) (args := [(.slice p0.a p0.l p0.c)]) Try.fsOK Try.mixed Try.func3 (by kernel_rfl) (by kernel_rfl)
    (Eq.mpr (by kernel_rfl : lwFn Try.prog Try.fs Try.f3 a_intagliolaw14_GraphOf [(.slice p0.a p0.l p0.c)] w R = L_intagliolaw14_GraphOf p0 R w) h)

/-- intaglio.intagliolaw14.GraphEdges -/
def a_intagliolaw14_GraphEdges : Ann := (.seq none .nil (.seq none .nil (.seq none (.seq none .nil (.cond (.seq none .nil .nil) .nil)) (.seq none (.seq none .nil (.cond (.seq none .nil .nil) .nil)) (.seq none (.seq none .nil (.one (.loop ⟨[0, 3], [(5, (.b (.int .i64)))]⟩ (.seq none (.seq none .nil (.cond .nil .nil)) (.seq none (.one (.seq none .nil (.seq none (.seq none .nil (.one (.loop ⟨[0, 3, 5, 6], [(7, (.b (.int .i64)))]⟩ (.seq none (.seq none .nil (.cond .nil .nil)) (.seq (some ⟨[0, 3, 5, 6, 7], []⟩) (.one (.seq none .nil (.cond (.seq none .nil .nil) .nil))) .nil))))) (.seq none (.seq none .nil (.one (.loop ⟨[0, 3, 5, 6], [(8, (.b (.int .i64)))]⟩ (.seq none (.seq none .nil (.cond .nil .nil)) (.seq none (.one (.seq none .nil (.cond (.seq none .nil .nil) .nil))) .nil))))) (.seq none .nil (.seq none .nil (.one (.loop ⟨[0, 3, 5, 9], [(10, (.b (.int .i64)))]⟩ (.seq none (.seq none .nil (.cond .nil .nil)) (.seq (some ⟨[0, 3, 5, 9, 10], []⟩) (.one (.seq none .nil (.cond (.seq none .nil .nil) .nil))) .nil)))))))))) .nil))))) (.seq none .nil .nil))))))
def L_intagliolaw14_GraphEdges (p0 : Sl) (R : Value → World → Prop) (w : World) : Prop :=
  callR Try.prog 27 #[(.slice p0.a p0.l p0.c)] w fun v1 w1 =>
  ∃ x2 : Sl, v1 = (.slice x2.a x2.l x2.c) ∧
  callR Try.prog 28 #[(.slice x2.a x2.l x2.c)] w1 fun v3 w2 =>
  ∃ x4 : Option Addr, ∃ x5 : Int, v3 = (.tuple #[(.pointer x4), (.int .i64 x5)]) ∧
  ifB (x5 != (0 : Int))
    (ifB (Option.isNone x4)
      (callR Try.prog 32 #[] w2 fun v6 w3 =>
      ∃ x7 : Bool, v6 = (.bool x7) ∧
      R (.bool x7) w3)
      (R (.bool false) w2))
    (callR Try.prog 33 #[(.pointer x4)] w2 fun v8 w4 =>
    ∃ x9 : Int, v8 = (.int .i64 x9) ∧
    ifB (x9 != (p0.l : Int))
      (R (.bool false) w4)
      (LoopW (S := Int × Unit) (fun s10 w5 n11 =>
          callR Try.prog 33 #[(.pointer x4)] w5 fun v12 w6 =>
          ∃ x13 : Int, v12 = (.int .i64 x13) ∧
          ifB (decide (s10.1 < x13))
            (callR Try.prog 34 #[(.pointer x4), (.int .i64 s10.1)] w6 fun v14 w7 =>
            ∃ x15 : Sl, v14 = (.slice x15.a x15.l x15.c) ∧
            LoopW (S := Int × Unit) (fun s16 w8 n17 =>
                ifB (decide (s16.1 < (x15.l : Int)))
                  (JoinW (S := Unit) (fun m18 =>
                      (0 ≤ s10.1 ∧ s10.1 < (p0.l : Int)) ∧
                      derefP p0.a fun a20 =>
                      ldS w8.drew (a20.add (Int.toNat s10.1)) fun x21 =>
                      (0 ≤ s16.1 ∧ s16.1 < (x15.l : Int)) ∧
                      derefP x15.a fun a22 =>
                      ldI w8.drew (a22.add (Int.toNat s16.1)) .i64 fun x23 =>
                      callR Try.prog 35 #[(.slice x21.a x21.l x21.c), (.int .i64 x23)] w8.drew fun v24 w9 =>
                      ∃ x25 : Bool, v24 = (.bool x25) ∧
                      ifB (!x25)
                        (R (.bool false) w9)
                        ((0 ≤ (0 : Int) ∧ (0 : Int) ≤ s16.1 ∧ s16.1 ≤ (x15.c : Int)) ∧
                        (0 ≤ s16.1 ∧ s16.1 < (x15.l : Int)) ∧
                        derefP x15.a fun a26 =>
                        ldI w9 (a26.add (Int.toNat s16.1)) .i64 fun x27 =>
                        callR Try.prog 35 #[(.slice (if x15.c = 0 then x15.a else Option.map (fun a => a.add 0) x15.a) ((Int.toNat s16.1) - 0) (x15.c - 0)), (.int .i64 x27)] w9 fun v28 w10 =>
                        ∃ x29 : Bool, v28 = (.bool x29) ∧
                        ifB x29
                          (R (.bool false) w10)
                          ((0 ≤ s16.1 ∧ s16.1 < (x15.l : Int)) ∧
                          derefP x15.a fun a30 =>
                          ldI w10 (a30.add (Int.toNat s16.1)) .i64 fun x31 =>
                          callR Try.prog 36 #[(.pointer x4), (.int .i64 x31)] w10 fun v32 w11 =>
                          ∃ x33 : Sl, v32 = (.slice x33.a x33.l x33.c) ∧
                          callR Try.prog 35 #[(.slice x33.a x33.l x33.c), (.int .i64 s10.1)] w11 fun v34 w12 =>
                          ∃ x35 : Bool, v34 = (.bool x35) ∧
                          ifB (!x35)
                            (R (.bool false) w12)
                            (m18 (()) w12))))
                    (fun s19 w13 =>
                      n17 ((IntKind.i64.wrap (s16.1 + (1 : Int))), ()) w13))
                  (LoopW (S := Int × Unit) (fun s36 w14 n37 =>
                      (0 ≤ s10.1 ∧ s10.1 < (p0.l : Int)) ∧
                      derefP p0.a fun a38 =>
                      ldS w14 (a38.add (Int.toNat s10.1)) fun x39 =>
                      ifB (decide (s36.1 < (x39.l : Int)))
                        ((0 ≤ s10.1 ∧ s10.1 < (p0.l : Int)) ∧
                        derefP p0.a fun a40 =>
                        ldS w14 (a40.add (Int.toNat s10.1)) fun x41 =>
                        (0 ≤ s36.1 ∧ s36.1 < (x41.l : Int)) ∧
                        derefP x41.a fun a42 =>
                        ldI w14 (a42.add (Int.toNat s36.1)) .i64 fun x43 =>
                        callR Try.prog 35 #[(.slice x15.a x15.l x15.c), (.int .i64 x43)] w14 fun v44 w15 =>
                        ∃ x45 : Bool, v44 = (.bool x45) ∧
                        ifB (!x45)
                          (R (.bool false) w15)
                          (n37 ((IntKind.i64.wrap (s36.1 + (1 : Int))), ()) w15))
                        (callR Try.prog 36 #[(.pointer x4), (.int .i64 s10.1)] w14 fun v46 w16 =>
                        ∃ x47 : Sl, v46 = (.slice x47.a x47.l x47.c) ∧
                        LoopW (S := Int × Unit) (fun s48 w17 n49 =>
                            ifB (decide (s48.1 < (x47.l : Int)))
                              (JoinW (S := Unit) (fun m50 =>
                                  (0 ≤ s48.1 ∧ s48.1 < (x47.l : Int)) ∧
                                  derefP x47.a fun a52 =>
                                  ldI w17.drew (a52.add (Int.toNat s48.1)) .i64 fun x53 =>
                                  callR Try.prog 34 #[(.pointer x4), (.int .i64 x53)] w17.drew fun v54 w18 =>
                                  ∃ x55 : Sl, v54 = (.slice x55.a x55.l x55.c) ∧
                                  callR Try.prog 35 #[(.slice x55.a x55.l x55.c), (.int .i64 s10.1)] w18 fun v56 w19 =>
                                  ∃ x57 : Bool, v56 = (.bool x57) ∧
                                  ifB (!x57)
                                    (R (.bool false) w19)
                                    (ifB (decide (s48.1 > (0 : Int)))
                                      ((0 ≤ (IntKind.i64.wrap (s48.1 - (1 : Int))) ∧ (IntKind.i64.wrap (s48.1 - (1 : Int))) < (x47.l : Int)) ∧
                                      derefP x47.a fun a58 =>
                                      ldI w19 (a58.add (Int.toNat (IntKind.i64.wrap (s48.1 - (1 : Int))))) .i64 fun x59 =>
                                      (0 ≤ s48.1 ∧ s48.1 < (x47.l : Int)) ∧
                                      derefP x47.a fun a60 =>
                                      ldI w19 (a60.add (Int.toNat s48.1)) .i64 fun x61 =>
                                      ifB (decide (x59 ≥ x61))
                                        (R (.bool false) w19)
                                        (m50 (()) w19))
                                      (m50 (()) w19)))
                                (fun s51 w20 =>
                                  n49 ((IntKind.i64.wrap (s48.1 + (1 : Int))), ()) w20))
                              (n11 ((IntKind.i64.wrap (s10.1 + (1 : Int))), ()) w17))
                          ((0 : Int), ()) w16))
                    ((0 : Int), ()) w8))
              ((0 : Int), ()) w7)
            (callR Try.prog 32 #[] w6 fun v62 w21 =>
            ∃ x63 : Bool, v62 = (.bool x63) ∧
            R (.bool x63) w21))
        ((0 : Int), ()) w4))
theorem intagliolaw14_GraphEdges_calls (p0 : Sl) (R : Value → World → Prop) (w : World) (h : L_intagliolaw14_GraphEdges p0 R w) : Calls Try.prog 4 #[(.slice p0.a p0.l p0.c)] w (Ret R) :=
  lw_calls (fs := Try.fs) (an := a_intagliolaw14_GraphEdges) (args := [(.slice p0.a p0.l p0.c)]) Try.fsOK Try.mixed Try.func4 (by kernel_rfl) (by kernel_rfl)
    (Eq.mpr (by kernel_rfl : lwFn Try.prog Try.fs Try.f4 a_intagliolaw14_GraphEdges [(.slice p0.a p0.l p0.c)] w R = L_intagliolaw14_GraphEdges p0 R w) h)

/-- intaglio.intagliolaw14.GraphOrders -/
def a_intagliolaw14_GraphOrders : Ann := (.seq none .nil (.seq none .nil (.seq none (.seq none .nil (.one (.loop ⟨[3], [(4, (.b (.int .i64)))]⟩ (.seq none (.seq none .nil (.cond .nil .nil)) (.seq (some ⟨[3, 4], []⟩) (.one (.seq none (.seq none .nil (.one (.loop ⟨[3, 4], [(5, (.b (.int .i64)))]⟩ (.seq none (.seq none .nil (.cond .nil .nil)) (.seq (some ⟨[3, 4, 5], []⟩) (.one (.seq none .nil (.cond .nil .nil))) .nil))))) (.seq none .nil (.cond .nil .nil)))) .nil))))) (.seq none .nil (.seq none (.seq none .nil (.cond (.seq none .nil .nil) .nil)) (.seq none .nil (.seq none (.seq none .nil (.one (.loop ⟨[6, 8], [(9, (.b (.int .i64)))]⟩ (.seq none (.seq none .nil (.cond .nil .nil)) (.seq none (.one (.seq none .nil (.seq none .nil (.one (.loop ⟨[6, 8, 9, 10], [(11, (.b (.int .i64)))]⟩ (.seq none (.seq none .nil (.cond .nil .nil)) (.seq (some ⟨[6, 8, 9, 10, 11], []⟩) (.one (.seq none .nil (.cond (.seq none .nil .nil) .nil))) .nil))))))) .nil))))) (.seq none .nil .nil))))))))
def L_intagliolaw14_GraphOrders (p0 : Sl) (R : Value → World → Prop) (w : World) : Prop :=
  callR Try.prog 27 #[(.slice p0.a p0.l p0.c)] w fun v1 w1 =>
  ∃ x2 : Sl, v1 = (.slice x2.a x2.l x2.c) ∧
  LoopW (S := Int × Unit) (fun s3 w2 n4 =>
      ifB (decide (s3.1 < (x2.l : Int)))
        (JoinW (S := Unit) (fun m5 =>
            LoopW (S := Int × Unit) (fun s7 w3 n8 =>
                (0 ≤ s3.1 ∧ s3.1 < (x2.l : Int)) ∧
                derefP x2.a fun a9 =>
                ldS w3 (a9.add (Int.toNat s3.1)) fun x10 =>
                ifB (decide (s7.1 < (x10.l : Int)))
                  (JoinW (S := Unit) (fun m11 =>
                      (0 ≤ s3.1 ∧ s3.1 < (x2.l : Int)) ∧
                      derefP x2.a fun a13 =>
                      ldS w3 (a13.add (Int.toNat s3.1)) fun x14 =>
                      (0 ≤ s7.1 ∧ s7.1 < (x14.l : Int)) ∧
                      derefP x14.a fun a15 =>
                      ldI w3 (a15.add (Int.toNat s7.1)) .i64 fun x16 =>
                      ifB (decide (x16 ≤ s3.1))
                        ((0 ≤ s3.1 ∧ s3.1 < (x2.l : Int)) ∧
                        derefP x2.a fun a17 =>
                        ldS w3 (a17.add (Int.toNat s3.1)) fun x18 =>
                        (0 ≤ s7.1 ∧ s7.1 < (x18.l : Int)) ∧
                        derefP x18.a fun a19 =>
                        Wr w3 (a19.add (Int.toNat s7.1)) ∧
                        Nw (w3.setCell (a19.add (Int.toNat s7.1)) (.int .i64 (IntKind.i64.wrap ((x2.l : Int) - (1 : Int))))) fun w4 =>
                        m11 (()) w4)
                        (m11 (()) w3))
                    (fun s12 w5 =>
                      n8 ((IntKind.i64.wrap (s7.1 + (1 : Int))), ()) w5))
                  (ifB (s3.1 == (IntKind.i64.wrap ((x2.l : Int) - (1 : Int))))
                    ((0 ≤ s3.1 ∧ s3.1 < (x2.l : Int)) ∧
                    derefP x2.a fun a20 =>
                    Wr w3 (a20.add (Int.toNat s3.1)) ∧
                    Nw (w3.setCell (a20.add (Int.toNat s3.1)) (.slice none 0 0)) fun w6 =>
                    m5 (()) w6)
                    (m5 (()) w3)))
              ((0 : Int), ()) w2)
          (fun s6 w7 =>
            n4 ((IntKind.i64.wrap (s3.1 + (1 : Int))), ()) w7))
        (callR Try.prog 28 #[(.slice x2.a x2.l x2.c)] w2 fun v21 w8 =>
        ∃ x22 : Option Addr, ∃ x23 : Int, v21 = (.tuple #[(.pointer x22), (.int .i64 x23)]) ∧
        ifB (x23 != (0 : Int))
          (ifB (Option.isNone x22)
            (callR Try.prog 32 #[] w8 fun v24 w9 =>
            ∃ x25 : Bool, v24 = (.bool x25) ∧
            R (.bool x25) w9)
            (R (.bool false) w8))
          (callR Try.prog 37 #[(.pointer x22)] w8 fun v26 w10 =>
          ∃ x27 : Sl, v26 = (.slice x27.a x27.l x27.c) ∧
          LoopW (S := Int × Unit) (fun s28 w11 n29 =>
              callR Try.prog 33 #[(.pointer x22)] w11 fun v30 w12 =>
              ∃ x31 : Int, v30 = (.int .i64 x31) ∧
              ifB (decide (s28.1 < x31))
                (callR Try.prog 34 #[(.pointer x22), (.int .i64 s28.1)] w12 fun v32 w13 =>
                ∃ x33 : Sl, v32 = (.slice x33.a x33.l x33.c) ∧
                LoopW (S := Int × Unit) (fun s34 w14 n35 =>
                    ifB (decide (s34.1 < (x33.l : Int)))
                      (JoinW (S := Unit) (fun m36 =>
                          callR Try.prog 38 #[(.pointer x22), (.int .i64 s28.1)] w14.drew fun v38 w15 =>
                          ∃ x39 : Bool, v38 = (.bool x39) ∧
                          ifB x39
                            ((0 ≤ s34.1 ∧ s34.1 < (x33.l : Int)) ∧
                            derefP x33.a fun a40 =>
                            ldI w15 (a40.add (Int.toNat s34.1)) .i64 fun x41 =>
                            callR Try.prog 39 #[(.slice x27.a x27.l x27.c), (.int .i64 s28.1)] w15 fun v42 w16 =>
                            ∃ x43 : Int, v42 = (.int .i64 x43) ∧
                            w16.cell? (a40.add (Int.toNat s34.1)) = some (.int .i64 x41) ∧
                            callR Try.prog 39 #[(.slice x27.a x27.l x27.c), (.int .i64 x41)] w16 fun v44 w17 =>
                            ∃ x45 : Int, v44 = (.int .i64 x45) ∧
                            ifB (decide (x43 ≥ x45))
                              (R (.bool false) w17)
                              (m36 (()) w17))
                            (m36 (()) w15))
                        (fun s37 w18 =>
                          n35 ((IntKind.i64.wrap (s34.1 + (1 : Int))), ()) w18))
                      (n29 ((IntKind.i64.wrap (s28.1 + (1 : Int))), ()) w14))
                  ((0 : Int), ()) w13)
                (callR Try.prog 32 #[] w12 fun v46 w19 =>
                ∃ x47 : Bool, v46 = (.bool x47) ∧
                R (.bool x47) w19))
            ((0 : Int), ()) w10)))
    ((0 : Int), ()) w1
theorem intagliolaw14_GraphOrders_calls (p0 : Sl) (R : Value → World → Prop) (w : World) (h : L_intagliolaw14_GraphOrders p0 R w) : Calls Try.prog 5 #[(.slice p0.a p0.l p0.c)] w (Ret R) :=
  lw_calls (fs := Try.fs) (an := a_intagliolaw14_GraphOrders) (args := [(.slice p0.a p0.l p0.c)]) Try.fsOK Try.mixed Try.func5 (by kernel_rfl) (by kernel_rfl)
    (Eq.mpr (by kernel_rfl : lwFn Try.prog Try.fs Try.f5 a_intagliolaw14_GraphOrders [(.slice p0.a p0.l p0.c)] w R = L_intagliolaw14_GraphOrders p0 R w) h)

/-- intaglio.intaglioref14.Of -/
def a_intaglioref14_Of : Ann := (.seq none .nil (.seq none (.seq none .nil (.cond (.seq none .nil .nil) .nil)) (.seq none (.seq none .nil (.cond (.seq none .nil .nil) .nil)) (.seq none .nil (.seq none (.seq none .nil (.one (.loop ⟨[0, 4], [(5, (.b (.int .i64)))]⟩ (.seq none (.seq none .nil (.cond .nil .nil)) (.seq none (.one (.seq none .nil (.seq none (.seq none .nil (.one (.loop ⟨[0, 4, 5], [(6, (.b .slice)), (7, (.b (.int .i64)))]⟩ (.seq none (.seq none .nil (.cond .nil .nil)) (.seq (some ⟨[0, 4, 5, 7], [(6, (.b .slice))]⟩) (.one (.seq none .nil (.seq (some ⟨[0, 4, 5, 6, 7, 8], []⟩) (.seq none .nil (.cond (.seq none .nil .nil) .nil)) (.seq none .nil (.cond .nil .nil))))) .nil))))) .nil))) .nil))))) (.seq none .nil .nil))))))
def L_intaglioref14_Of (p0 : Sl) (R : Value → World → Prop) (w : World) : Prop :=
  ifB ((p0.l : Int) == (0 : Int))
    (R (.tuple #[(.pointer none), (.int .i64 (2 : Int))]) w)
    (ifB (decide ((p0.l : Int) > (4096 : Int)))
      (R (.tuple #[(.pointer none), (.int .i64 (4 : Int))]) w)
      (Nw (w.alloc (.cells #[(.slice none 0 0)] 113)) fun w1 =>
      LoopW (S := Int × Unit) (fun s1 w2 n2 =>
          ifB (decide (s1.1 < (p0.l : Int)))
            (LoopW (S := Sl × Int × Unit) (fun s3 w3 n4 =>
                (0 ≤ s1.1 ∧ s1.1 < (p0.l : Int)) ∧
                derefP p0.a fun a5 =>
                ldS w3 (a5.add (Int.toNat s1.1)) fun x6 =>
                ifB (decide (s3.2.1 < (x6.l : Int)))
                  (JoinW (S := Sl × Unit) (fun m7 =>
                      (0 ≤ s1.1 ∧ s1.1 < (p0.l : Int)) ∧
                      derefP p0.a fun a9 =>
                      ldS w3 (a9.add (Int.toNat s1.1)) fun x10 =>
                      (0 ≤ s3.2.1 ∧ s3.2.1 < (x10.l : Int)) ∧
                      derefP x10.a fun a11 =>
                      ldI w3 (a11.add (Int.toNat s3.2.1)) .i64 fun x12 =>
                      JoinW (S := Unit) (fun m13 =>
                          ifB (decide (x12 < (0 : Int)))
                            (R (.tuple #[(.pointer none), (.int .i64 (141 : Int))]) w3)
                            (ifB (decide (x12 ≥ (p0.l : Int)))
                              (R (.tuple #[(.pointer none), (.int .i64 (141 : Int))]) w3)
                              (m13 (()) w3)))
                        (fun s14 w4 =>
                          callR Try.prog 93 #[(.slice s3.1.a s3.1.l s3.1.c), (.int .i64 x12)] w4 fun v15 w5 =>
                          ∃ x16 : Bool, v15 = (.bool x16) ∧
                          ifB (!x16)
                            (Nw (w5.alloc (.cells #[(.int .i64 x12)] 3)) fun w6 =>
                            appendS Try.prog 32 (.slice s3.1.a s3.1.l s3.1.c) (.slice (some (blk w5.heap.size)) 1 1) w6 fun r17 w7 =>
                            m7 (r17, ()) w7)
                            (m7 (s3.1, ()) w5)))
                    (fun s8 w8 =>
                      n4 (s8.1, (IntKind.i64.wrap (s3.2.1 + (1 : Int))), ()) w8))
                  (ldS w3 (blk w.heap.size) fun x18 =>
                  Nw (w3.alloc (.cells #[(.slice s3.1.a s3.1.l s3.1.c)] 32)) fun w9 =>
                  appendS Try.prog 22 (.slice x18.a x18.l x18.c) (.slice (some (blk w3.heap.size)) 1 1) w9 fun r19 w10 =>
                  Wr w10 (blk w.heap.size) ∧
                  Nw (w10.setCell (blk w.heap.size) (.slice r19.a r19.l r19.c)) fun w11 =>
                  n2 ((IntKind.i64.wrap (s1.1 + (1 : Int))), ()) w11))
              ((Sl.mk none 0 0), (0 : Int), ()) w2)
            (R (.tuple #[(.pointer (some (blk w.heap.size))), (.int .i64 (0 : Int))]) w2))
        ((0 : Int), ()) w1))
theorem intaglioref14_Of_calls (p0 : Sl) (R : Value → World → Prop) (w : World) (h : L_intaglioref14_Of p0 R w) : Calls Try.prog 26 #[(.slice p0.a p0.l p0.c)] w (Ret R) :=
  lw_calls (fs := Try.fs) (an := a_intaglioref14_Of) (args := [(.slice p0.a p0.l p0.c)]) Try.fsOK Try.mixed Try.func26 (by kernel_rfl) (by kernel_rfl)
    (Eq.mpr (by kernel_rfl : lwFn Try.prog Try.fs Try.f26 a_intaglioref14_Of [(.slice p0.a p0.l p0.c)] w R = L_intaglioref14_Of p0 R w) h)

/-- intaglio.intagliolaw14.copied -/
def a_intagliolaw14_copied : Ann := (.seq none .nil (.seq none .nil (.seq none (.seq none .nil (.one (.loop ⟨[0, 3], [(4, (.b (.int .i64)))]⟩ (.seq none (.seq none .nil (.cond .nil .nil)) (.seq none (.one (.seq none .nil (.seq none .nil (.one (.loop ⟨[0, 3, 4], [(5, (.b (.int .i64)))]⟩ (.seq none (.seq none .nil (.cond .nil .nil)) (.seq none (.one .nil) .nil))))))) .nil))))) (.seq none .nil .nil))))
def L_intagliolaw14_copied (p0 : Sl) (R : Value → World → Prop) (w : World) : Prop :=
  (0 ≤ (p0.l : Int) ∧ (p0.l : Int) ≤ (p0.l : Int) ∧ (24 : Int) * (p0.l : Int) ≤ 281474976710656 ∧ (p0.l : Int) ≤ 9223372036854775807) ∧
  Nw (w.alloc (.cells (madeCells #[(.slice none 0 0)] (p0.l * 1)) 32)) fun w1 =>
  LoopW (S := Int × Unit) (fun s1 w2 n2 =>
      ifB (decide (s1.1 < (p0.l : Int)))
        ((0 ≤ s1.1 ∧ s1.1 < (p0.l : Int)) ∧
        derefP p0.a fun a3 =>
        ldS w2 (a3.add (Int.toNat s1.1)) fun x4 =>
        (0 ≤ (x4.l : Int) ∧ (x4.l : Int) ≤ (x4.l : Int) ∧ (8 : Int) * (x4.l : Int) ≤ 281474976710656 ∧ (x4.l : Int) ≤ 9223372036854775807) ∧
        Nw (w2.alloc (.cells (madeCells #[(.int .i64 (0 : Int))] (x4.l * 1)) 3)) fun w3 =>
        (0 ≤ s1.1 ∧ s1.1 < (p0.l : Int)) ∧
        Wr w3 ((blk w.heap.size).add (Int.toNat s1.1)) ∧
        Nw (w3.setCell ((blk w.heap.size).add (Int.toNat s1.1)) (.slice (some (blk w2.heap.size)) x4.l x4.l)) fun w4 =>
        LoopW (S := Int × Unit) (fun s5 w5 n6 =>
            (0 ≤ s1.1 ∧ s1.1 < (p0.l : Int)) ∧
            derefP p0.a fun a7 =>
            ldS w5 (a7.add (Int.toNat s1.1)) fun x8 =>
            ifB (decide (s5.1 < (x8.l : Int)))
              ((0 ≤ s1.1 ∧ s1.1 < (p0.l : Int)) ∧
              ldS w5.drew ((blk w.heap.size).add (Int.toNat s1.1)) fun x9 =>
              (0 ≤ s1.1 ∧ s1.1 < (p0.l : Int)) ∧
              derefP p0.a fun a10 =>
              ldS w5.drew (a10.add (Int.toNat s1.1)) fun x11 =>
              (0 ≤ s5.1 ∧ s5.1 < (x11.l : Int)) ∧
              derefP x11.a fun a12 =>
              ldI w5.drew (a12.add (Int.toNat s5.1)) .i64 fun x13 =>
              (0 ≤ s5.1 ∧ s5.1 < (x9.l : Int)) ∧
              derefP x9.a fun a14 =>
              Wr w5.drew (a14.add (Int.toNat s5.1)) ∧
              Nw (w5.drew.setCell (a14.add (Int.toNat s5.1)) (.int .i64 x13)) fun w6 =>
              n6 ((IntKind.i64.wrap (s5.1 + (1 : Int))), ()) w6)
              (n2 ((IntKind.i64.wrap (s1.1 + (1 : Int))), ()) w5))
          ((0 : Int), ()) w4)
        (R (.slice (some (blk w.heap.size)) p0.l p0.l) w2))
    ((0 : Int), ()) w1
theorem intagliolaw14_copied_calls (p0 : Sl) (R : Value → World → Prop) (w : World) (h : L_intagliolaw14_copied p0 R w) : Calls Try.prog 27 #[(.slice p0.a p0.l p0.c)] w (Ret R) :=
  lw_calls (fs := Try.fs) (an := a_intagliolaw14_copied) (args := [(.slice p0.a p0.l p0.c)]) Try.fsOK Try.mixed Try.func27 (by kernel_rfl) (by kernel_rfl)
    (Eq.mpr (by kernel_rfl : lwFn Try.prog Try.fs Try.f27 a_intagliolaw14_copied [(.slice p0.a p0.l p0.c)] w R = L_intagliolaw14_copied p0 R w) h)

/-- intaglio.graph.Of -/
def a_graph_Of : Ann := (.seq none .nil (.seq none (.one (.seq none .nil (.cond (.seq none .nil .nil) (.seq none .nil (.cond (.seq none .nil .nil) .nil))))) (.seq (some ⟨[0], [(4, (.b .ptr))]⟩) .nil (.seq none (.seq none .nil (.one (.loop ⟨[0, 4, 26, 27], [(28, (.b (.int .i64)))]⟩ (.seq none .nil (.seq none (.cond .nil .nil) (.seq none (.one (.seq none .nil (.seq none .nil (.seq none .nil (.one (.loop ⟨[0, 4, 5, 7, 26, 27, 28, 33, 34], [(35, (.b (.int .i64)))]⟩ (.seq none .nil (.seq none (.cond .nil .nil) (.seq (some ⟨[0, 4, 5, 7, 26, 27, 28, 33, 34, 35], []⟩) (.one (.seq none .nil (.seq (some ⟨[0, 4, 5, 7, 9, 26, 27, 28, 33, 34, 35], []⟩) (.seq none .nil (.cond (.seq none .nil .nil) .nil)) (.seq none .nil (.cond (.seq none .nil (.seq none .nil .nil)) .nil))))) .nil))))))))) .nil)))))) (.seq none .nil (.seq none .nil .nil))))))
def L_graph_Of (p0 : Sl) (R : Value → World → Prop) (w : World) : Prop :=
  ifB ((p0.l : Int) == (0 : Int))
    (R (.tuple #[(.pointer none), (.int .i64 (2 : Int))]) w)
    (ifB (decide ((p0.l : Int) > (4096 : Int)))
      (R (.tuple #[(.pointer none), (.int .i64 (4 : Int))]) w)
      (JoinW (S := (Option Addr) × Unit) (fun m1 =>
          ((0 ≤ (p0.l : Int) ∧ (p0.l : Int) ≤ (p0.l : Int) ∧ (24 : Int) * (p0.l : Int) ≤ 281474976710656 ∧ (p0.l : Int) ≤ 9223372036854775807) ∧
          Nw (w.drew.alloc (.cells (madeCells #[(.slice none 0 0)] (p0.l * 1)) 32)) fun w1 =>
          (0 ≤ (p0.l : Int) ∧ (p0.l : Int) ≤ (p0.l : Int) ∧ (24 : Int) * (p0.l : Int) ≤ 281474976710656 ∧ (p0.l : Int) ≤ 9223372036854775807) ∧
          Nw (w1.alloc (.cells (madeCells #[(.slice none 0 0)] (p0.l * 1)) 32)) fun w2 =>
          Nw (w2.alloc (.cells (List.toArray ([(.slice (some (blk w.drew.heap.size)) p0.l p0.l), (.slice (some (blk w1.heap.size)) p0.l p0.l), (.slice none 0 0), (.slice none 0 0)] ++ List.replicate 64 (.int .u64 (0 : Int)))) 118)) fun w3 =>
          m1 ((some (blk w2.heap.size)), ()) w3) ∧
          (0 ≤ (p0.l : Int) ∧ (p0.l : Int) ≤ (p0.l : Int) ∧ (24 : Int) * (p0.l : Int) ≤ 281474976710656 ∧ (p0.l : Int) ≤ 9223372036854775807) ∧
          Nw (w.drew.alloc (.cells (madeCells #[(.slice none 0 0)] (p0.l * 1)) 32)) fun w4 =>
          (0 ≤ (p0.l : Int) ∧ (p0.l : Int) ≤ (p0.l : Int) ∧ (24 : Int) * (p0.l : Int) ≤ 281474976710656 ∧ (p0.l : Int) ≤ 9223372036854775807) ∧
          Nw (w4.alloc (.cells (madeCells #[(.slice none 0 0)] (p0.l * 1)) 32)) fun w5 =>
          Nw (w5.alloc (.cells (List.toArray ([(.slice (some (blk w4.heap.size)) p0.l p0.l), (.slice (some (blk w.drew.heap.size)) p0.l p0.l), (.slice none 0 0), (.slice none 0 0)] ++ List.replicate 64 (.int .u64 (0 : Int)))) 118)) fun w6 =>
          m1 ((some (blk w5.heap.size)), ()) w6)
        (fun s2 w7 =>
          LoopW (S := Int × Unit) (fun s3 w8 n4 =>
              ifB (decide (s3.1 < (p0.l : Int)))
                ((0 ≤ s3.1 ∧ s3.1 < (p0.l : Int)) ∧
                derefP p0.a fun a5 =>
                ldS w8 (a5.add (Int.toNat s3.1)) fun x6 =>
                Nw (w8.alloc (.cells (List.toArray (List.replicate 64 (.int .u64 (0 : Int)))) 116)) fun w9 =>
                LoopW (S := Int × Unit) (fun s7 w10 n8 =>
                    ifB (decide (s7.1 < (x6.l : Int)))
                      (JoinW (S := Unit) (fun m9 =>
                          (0 ≤ s7.1 ∧ s7.1 < (x6.l : Int)) ∧
                          derefP x6.a fun a11 =>
                          ldI w10 (a11.add (Int.toNat s7.1)) .i64 fun x12 =>
                          JoinW (S := Unit) (fun m13 =>
                              ifB (decide (x12 < (0 : Int)))
                                (R (.tuple #[(.pointer none), (.int .i64 (141 : Int))]) w10)
                                (ifB (decide (x12 ≥ (p0.l : Int)))
                                  (R (.tuple #[(.pointer none), (.int .i64 (141 : Int))]) w10)
                                  (m13 (()) w10)))
                            (fun s14 w11 =>
                              callR Try.prog 94 #[(.pointer (some (blk w8.heap.size))), (.int .i64 x12)] w11 fun v15 w12 =>
                              ∃ x16 : Bool, v15 = (.bool x16) ∧
                              ifB (!x16)
                                (callR Try.prog 95 #[(.pointer (some (blk w8.heap.size))), (.int .i64 x12)] w12 fun v17 w13 =>
                                v17 = (.tuple #[]) ∧
                                derefP s2.1 fun a18 =>
                                ldS w13.drew a18 fun x19 =>
                                derefP s2.1 fun a20 =>
                                ldS w13.drew a20 fun x21 =>
                                (0 ≤ s3.1 ∧ s3.1 < (x21.l : Int)) ∧
                                derefP x21.a fun a22 =>
                                ldS w13.drew (a22.add (Int.toNat s3.1)) fun x23 =>
                                Nw (w13.drew.alloc (.cells #[(.int .i64 x12)] 3)) fun w14 =>
                                w14.cell? (a22.add (Int.toNat s3.1)) = some (.slice x23.a x23.l x23.c) ∧
                                w14.cell? a20 = some (.slice x21.a x21.l x21.c) ∧
                                w14.cell? a18 = some (.slice x19.a x19.l x19.c) ∧
                                appendS Try.prog 32 (.slice x23.a x23.l x23.c) (.slice (some (blk w13.drew.heap.size)) 1 1) w14 fun r24 w15 =>
                                w15.cell? a18 = some (.slice x19.a x19.l x19.c) ∧
                                (0 ≤ s3.1 ∧ s3.1 < (x19.l : Int)) ∧
                                derefP x19.a fun a25 =>
                                Wr w15 (a25.add (Int.toNat s3.1)) ∧
                                Nw (w15.setCell (a25.add (Int.toNat s3.1)) (.slice r24.a r24.l r24.c)) fun w16 =>
                                derefP s2.1 fun a26 =>
                                ldS w16.drew (a26.add 1) fun x27 =>
                                derefP s2.1 fun a28 =>
                                ldS w16.drew (a28.add 1) fun x29 =>
                                (0 ≤ x12 ∧ x12 < (x29.l : Int)) ∧
                                derefP x29.a fun a30 =>
                                ldS w16.drew (a30.add (Int.toNat x12)) fun x31 =>
                                Nw (w16.drew.alloc (.cells #[(.int .i64 s3.1)] 3)) fun w17 =>
                                w17.cell? (a30.add (Int.toNat x12)) = some (.slice x31.a x31.l x31.c) ∧
                                w17.cell? (a28.add 1) = some (.slice x29.a x29.l x29.c) ∧
                                w17.cell? (a26.add 1) = some (.slice x27.a x27.l x27.c) ∧
                                appendS Try.prog 32 (.slice x31.a x31.l x31.c) (.slice (some (blk w16.drew.heap.size)) 1 1) w17 fun r32 w18 =>
                                w18.cell? (a26.add 1) = some (.slice x27.a x27.l x27.c) ∧
                                (0 ≤ x12 ∧ x12 < (x27.l : Int)) ∧
                                derefP x27.a fun a33 =>
                                Wr w18 (a33.add (Int.toNat x12)) ∧
                                Nw (w18.setCell (a33.add (Int.toNat x12)) (.slice r32.a r32.l r32.c)) fun w19 =>
                                m9 (()) w19)
                                (m9 (()) w12)))
                        (fun s10 w20 =>
                          n8 ((IntKind.i64.wrap (s7.1 + (1 : Int))), ()) w20))
                      (n4 ((IntKind.i64.wrap (s3.1 + (1 : Int))), ()) w10))
                  ((0 : Int), ()) w9)
                (callR Try.prog 96 #[(.pointer s2.1)] w8 fun v34 w21 =>
                v34 = (.tuple #[]) ∧
                R (.tuple #[(.pointer s2.1), (.int .i64 (0 : Int))]) w21))
            ((0 : Int), ()) w7)))
theorem graph_Of_calls (p0 : Sl) (R : Value → World → Prop) (w : World) (h : L_graph_Of p0 R w) : Calls Try.prog 28 #[(.slice p0.a p0.l p0.c)] w (Ret R) :=
  lw_calls (fs := Try.fs) (an := a_graph_Of) (args := [(.slice p0.a p0.l p0.c)]) Try.fsOK Try.mixed Try.func28 (by kernel_rfl) (by kernel_rfl)
    (Eq.mpr (by kernel_rfl : lwFn Try.prog Try.fs Try.f28 a_graph_Of [(.slice p0.a p0.l p0.c)] w R = L_graph_Of p0 R w) h)

/-- intaglio.intagliokit.Ints -/
def a_intagliokit_Ints : Ann := (.seq none .nil (.seq none (.seq none .nil (.cond (.seq none .nil .nil) .nil)) (.seq none (.seq none .nil (.one (.loop ⟨[0, 1], [(5, (.b (.int .i64)))]⟩ (.seq none (.seq none .nil (.cond .nil .nil)) (.seq none (.one (.seq none .nil (.cond (.seq none .nil .nil) .nil))) .nil))))) (.seq none .nil .nil))))
def L_intagliokit_Ints (p0 : Sl) (p1 : Sl) (R : Value → World → Prop) (w : World) : Prop :=
  ifB ((p0.l : Int) != (p1.l : Int))
    (R (.bool false) w)
    (LoopW (S := Int × Unit) (fun s1 w1 n2 =>
        ifB (decide (s1.1 < (p0.l : Int)))
          ((0 ≤ s1.1 ∧ s1.1 < (p0.l : Int)) ∧
          derefP p0.a fun a3 =>
          ldI w1.drew (a3.add (Int.toNat s1.1)) .i64 fun x4 =>
          (0 ≤ s1.1 ∧ s1.1 < (p1.l : Int)) ∧
          derefP p1.a fun a5 =>
          ldI w1.drew (a5.add (Int.toNat s1.1)) .i64 fun x6 =>
          ifB (x4 != x6)
            (R (.bool false) w1.drew)
            (n2 ((IntKind.i64.wrap (s1.1 + (1 : Int))), ()) w1.drew))
          (R (.bool true) w1))
      ((0 : Int), ()) w)
theorem intagliokit_Ints_calls (p0 : Sl) (p1 : Sl) (R : Value → World → Prop) (w : World) (h : L_intagliokit_Ints p0 p1 R w) : Calls Try.prog 29 #[(.slice p0.a p0.l p0.c), (.slice p1.a p1.l p1.c)] w (Ret R) :=
  lw_calls (fs := Try.fs) (an := a_intagliokit_Ints) (args := [(.slice p0.a p0.l p0.c), (.slice p1.a p1.l p1.c)]) Try.fsOK Try.mixed Try.func29 (by kernel_rfl) (by kernel_rfl)
    (Eq.mpr (by kernel_rfl : lwFn Try.prog Try.fs Try.f29 a_intagliokit_Ints [(.slice p0.a p0.l p0.c), (.slice p1.a p1.l p1.c)] w R = L_intagliokit_Ints p0 p1 R w) h)

/-- intaglio.intagliokit.SpoilInts -/
def a_intagliokit_SpoilInts : Ann := (.seq none .nil (.one (.loop ⟨[0], [(2, (.b (.int .i64)))]⟩ (.seq none (.seq none .nil (.cond .nil .nil)) (.seq none (.one .nil) .nil)))))
def L_intagliokit_SpoilInts (p0 : Sl) (R : Value → World → Prop) (w : World) : Prop :=
  LoopW (S := Int × Unit) (fun s1 w1 n2 =>
      ifB (decide (s1.1 < (p0.l : Int)))
        ((0 ≤ s1.1 ∧ s1.1 < (p0.l : Int)) ∧
        derefP p0.a fun a3 =>
        Wr w1 (a3.add (Int.toNat s1.1)) ∧
        Nw (w1.setCell (a3.add (Int.toNat s1.1)) (.int .i64 (-7777 : Int))) fun w2 =>
        n2 ((IntKind.i64.wrap (s1.1 + (1 : Int))), ()) w2)
        (R (.tuple #[]) w1))
    ((0 : Int), ()) w
theorem intagliokit_SpoilInts_calls (p0 : Sl) (R : Value → World → Prop) (w : World) (h : L_intagliokit_SpoilInts p0 R w) : Calls Try.prog 30 #[(.slice p0.a p0.l p0.c)] w (Ret R) :=
  lw_calls (fs := Try.fs) (an := a_intagliokit_SpoilInts) (args := [(.slice p0.a p0.l p0.c)]) Try.fsOK Try.mixed Try.func30 (by kernel_rfl) (by kernel_rfl)
    (Eq.mpr (by kernel_rfl : lwFn Try.prog Try.fs Try.f30 a_intagliokit_SpoilInts [(.slice p0.a p0.l p0.c)] w R = L_intagliokit_SpoilInts p0 R w) h)

/-- intaglio.intagliolaw14.told -/
def a_intagliolaw14_told : Ann := (.seq none .nil (.seq (some ⟨[0, 1], []⟩) (.seq none .nil (.cond (.seq none .nil .nil) .nil)) (.seq none (.seq none .nil (.one (.loop ⟨[0, 1], [(5, (.b (.int .i64)))]⟩ (.seq none (.seq none .nil (.cond .nil .nil)) (.seq (some ⟨[0, 1, 5], []⟩) (.one (.seq none .nil (.seq none .nil (.seq (some ⟨[0, 1, 5, 6, 7], []⟩) (.seq none .nil (.cond (.seq none .nil .nil) .nil)) (.seq none .nil (.seq none .nil (.seq none .nil (.cond (.seq none .nil .nil) .nil)))))))) .nil))))) (.seq none .nil (.seq none (.seq none .nil (.cond (.seq none .nil .nil) .nil)) (.seq none .nil (.seq none .nil .nil)))))))
def L_intagliolaw14_told (p0 : Option Addr) (p1 : Option Addr) (R : Value → World → Prop) (w : World) : Prop :=
  JoinW (S := Unit) (fun m1 =>
      ifB (!((Option.isNone p0) == (Option.isNone p1)))
        (R (.bool false) w)
        (callR Try.prog 33 #[(.pointer p0)] w fun v3 w1 =>
        ∃ x4 : Int, v3 = (.int .i64 x4) ∧
        callR Try.prog 97 #[(.pointer p1)] w1 fun v5 w2 =>
        ∃ x6 : Int, v5 = (.int .i64 x6) ∧
        ifB (x4 != x6)
          (R (.bool false) w2)
          (m1 (()) w2)))
    (fun s2 w3 =>
      LoopW (S := Int × Unit) (fun s7 w4 n8 =>
          callR Try.prog 97 #[(.pointer p1)] w4 fun v9 w5 =>
          ∃ x10 : Int, v9 = (.int .i64 x10) ∧
          ifB (decide (s7.1 ≤ x10))
            (JoinW (S := Unit) (fun m11 =>
                callR Try.prog 34 #[(.pointer p0), (.int .i64 s7.1)] w5 fun v13 w6 =>
                ∃ x14 : Sl, v13 = (.slice x14.a x14.l x14.c) ∧
                callR Try.prog 36 #[(.pointer p0), (.int .i64 s7.1)] w6 fun v15 w7 =>
                ∃ x16 : Sl, v15 = (.slice x16.a x16.l x16.c) ∧
                JoinW (S := Unit) (fun m17 =>
                    callR Try.prog 98 #[(.pointer p1), (.int .i64 s7.1)] w7 fun v19 w8 =>
                    ∃ x20 : Sl, v19 = (.slice x20.a x20.l x20.c) ∧
                    callR Try.prog 29 #[(.slice x14.a x14.l x14.c), (.slice x20.a x20.l x20.c)] w8 fun v21 w9 =>
                    ∃ x22 : Bool, v21 = (.bool x22) ∧
                    ifB (!x22)
                      (R (.bool false) w9)
                      (callR Try.prog 99 #[(.pointer p1), (.int .i64 s7.1)] w9 fun v23 w10 =>
                      ∃ x24 : Sl, v23 = (.slice x24.a x24.l x24.c) ∧
                      callR Try.prog 29 #[(.slice x16.a x16.l x16.c), (.slice x24.a x24.l x24.c)] w10 fun v25 w11 =>
                      ∃ x26 : Bool, v25 = (.bool x26) ∧
                      ifB (!x26)
                        (R (.bool false) w11)
                        (callR Try.prog 38 #[(.pointer p0), (.int .i64 s7.1)] w11 fun v27 w12 =>
                        ∃ x28 : Bool, v27 = (.bool x28) ∧
                        callR Try.prog 100 #[(.pointer p1), (.int .i64 s7.1)] w12 fun v29 w13 =>
                        ∃ x30 : Bool, v29 = (.bool x30) ∧
                        ifB (!(x28 == x30))
                          (R (.bool false) w13)
                          (m17 (()) w13))))
                  (fun s18 w14 =>
                    callR Try.prog 30 #[(.slice x14.a x14.l x14.c)] w14 fun v31 w15 =>
                    v31 = (.tuple #[]) ∧
                    callR Try.prog 30 #[(.slice x16.a x16.l x16.c)] w15 fun v32 w16 =>
                    v32 = (.tuple #[]) ∧
                    callR Try.prog 34 #[(.pointer p0), (.int .i64 s7.1)] w16 fun v33 w17 =>
                    ∃ x34 : Sl, v33 = (.slice x34.a x34.l x34.c) ∧
                    callR Try.prog 98 #[(.pointer p1), (.int .i64 s7.1)] w17 fun v35 w18 =>
                    ∃ x36 : Sl, v35 = (.slice x36.a x36.l x36.c) ∧
                    callR Try.prog 29 #[(.slice x34.a x34.l x34.c), (.slice x36.a x36.l x36.c)] w18 fun v37 w19 =>
                    ∃ x38 : Bool, v37 = (.bool x38) ∧
                    ifB (!x38)
                      (R (.bool false) w19)
                      (callR Try.prog 36 #[(.pointer p0), (.int .i64 s7.1)] w19 fun v39 w20 =>
                      ∃ x40 : Sl, v39 = (.slice x40.a x40.l x40.c) ∧
                      callR Try.prog 99 #[(.pointer p1), (.int .i64 s7.1)] w20 fun v41 w21 =>
                      ∃ x42 : Sl, v41 = (.slice x42.a x42.l x42.c) ∧
                      callR Try.prog 29 #[(.slice x40.a x40.l x40.c), (.slice x42.a x42.l x42.c)] w21 fun v43 w22 =>
                      ∃ x44 : Bool, v43 = (.bool x44) ∧
                      ifB (!x44)
                        (R (.bool false) w22)
                        (m11 (()) w22))))
              (fun s12 w23 =>
                n8 ((IntKind.i64.wrap (s7.1 + (1 : Int))), ()) w23))
            (callR Try.prog 37 #[(.pointer p0)] w5 fun v45 w24 =>
            ∃ x46 : Sl, v45 = (.slice x46.a x46.l x46.c) ∧
            callR Try.prog 101 #[(.pointer p1)] w24 fun v47 w25 =>
            ∃ x48 : Sl, v47 = (.slice x48.a x48.l x48.c) ∧
            callR Try.prog 29 #[(.slice x46.a x46.l x46.c), (.slice x48.a x48.l x48.c)] w25 fun v49 w26 =>
            ∃ x50 : Bool, v49 = (.bool x50) ∧
            ifB (!x50)
              (R (.bool false) w26)
              (callR Try.prog 30 #[(.slice x46.a x46.l x46.c)] w26 fun v51 w27 =>
              v51 = (.tuple #[]) ∧
              callR Try.prog 37 #[(.pointer p0)] w27 fun v52 w28 =>
              ∃ x53 : Sl, v52 = (.slice x53.a x53.l x53.c) ∧
              callR Try.prog 101 #[(.pointer p1)] w28 fun v54 w29 =>
              ∃ x55 : Sl, v54 = (.slice x55.a x55.l x55.c) ∧
              callR Try.prog 29 #[(.slice x53.a x53.l x53.c), (.slice x55.a x55.l x55.c)] w29 fun v56 w30 =>
              ∃ x57 : Bool, v56 = (.bool x57) ∧
              R (.bool x57) w30)))
        ((-1 : Int), ()) w3)
theorem intagliolaw14_told_calls (p0 : Option Addr) (p1 : Option Addr) (R : Value → World → Prop) (w : World) (h : L_intagliolaw14_told p0 p1 R w) : Calls Try.prog 31 #[(.pointer p0), (.pointer p1)] w (Ret R) :=
  lw_calls (fs := Try.fs) (an := a_intagliolaw14_told) (args := [(.pointer p0), (.pointer p1)]) Try.fsOK Try.mixed Try.func31 (by kernel_rfl) (by kernel_rfl)
    (Eq.mpr (by kernel_rfl : lwFn Try.prog Try.fs Try.f31 a_intagliolaw14_told [(.pointer p0), (.pointer p1)] w R = L_intagliolaw14_told p0 p1 R w) h)

/-- intaglio.intagliolaw14.awake -/
def a_intagliolaw14_awake : Ann := (.seq none .nil (.seq none .nil (.seq none .nil (.seq none .nil (.seq none .nil (.seq none .nil .nil))))))
def L_intagliolaw14_awake  (R : Value → World → Prop) (w : World) : Prop :=
  (0 ≤ (3 : Int) ∧ (3 : Int) ≤ (3 : Int) ∧ (24 : Int) * (3 : Int) ≤ 281474976710656 ∧ (3 : Int) ≤ 9223372036854775807) ∧
  Nw (w.alloc (.cells (madeCells #[(.slice none 0 0)] (3 * 1)) 32)) fun w1 =>
  callR Try.prog 102 #[(.int .i64 (2 : Int)), (.int .i64 (1 : Int))] w1 fun v1 w2 =>
  ∃ x2 : Sl, v1 = (.slice x2.a x2.l x2.c) ∧
  (0 ≤ (0 : Int) ∧ (0 : Int) < (3 : Int)) ∧
  Wr w2 ((blk w.heap.size).add 0) ∧
  Nw (w2.setCell ((blk w.heap.size).add 0) (.slice x2.a x2.l x2.c)) fun w3 =>
  callR Try.prog 102 #[(.int .i64 (0 : Int)), (.int .i64 (2 : Int))] w3 fun v3 w4 =>
  ∃ x4 : Sl, v3 = (.slice x4.a x4.l x4.c) ∧
  (0 ≤ (2 : Int) ∧ (2 : Int) < (3 : Int)) ∧
  Wr w4 ((blk w.heap.size).add 2) ∧
  Nw (w4.setCell ((blk w.heap.size).add 2) (.slice x4.a x4.l x4.c)) fun w5 =>
  callR Try.prog 28 #[(.slice (some (blk w.heap.size)) 3 3)] w5 fun v5 w6 =>
  ∃ x6 : Option Addr, ∃ x7 : Int, v5 = (.tuple #[(.pointer x6), (.int .i64 x7)]) ∧
  ifB (x7 == (0 : Int))
    (callR Try.prog 33 #[(.pointer x6)] w6 fun v8 w7 =>
    ∃ x9 : Int, v8 = (.int .i64 x9) ∧
    ifB (x9 == (3 : Int))
      (callR Try.prog 34 #[(.pointer x6), (.int .i64 (0 : Int))] w7 fun v10 w8 =>
      ∃ x11 : Sl, v10 = (.slice x11.a x11.l x11.c) ∧
      callR Try.prog 102 #[(.int .i64 (2 : Int)), (.int .i64 (1 : Int))] w8 fun v12 w9 =>
      ∃ x13 : Sl, v12 = (.slice x13.a x13.l x13.c) ∧
      callR Try.prog 29 #[(.slice x11.a x11.l x11.c), (.slice x13.a x13.l x13.c)] w9 fun v14 w10 =>
      ∃ x15 : Bool, v14 = (.bool x15) ∧
      ifB x15
        (callR Try.prog 36 #[(.pointer x6), (.int .i64 (2 : Int))] w10 fun v16 w11 =>
        ∃ x17 : Sl, v16 = (.slice x17.a x17.l x17.c) ∧
        callR Try.prog 102 #[(.int .i64 (0 : Int)), (.int .i64 (2 : Int))] w11 fun v18 w12 =>
        ∃ x19 : Sl, v18 = (.slice x19.a x19.l x19.c) ∧
        callR Try.prog 29 #[(.slice x17.a x17.l x17.c), (.slice x19.a x19.l x19.c)] w12 fun v20 w13 =>
        ∃ x21 : Bool, v20 = (.bool x21) ∧
        ifB x21
          (callR Try.prog 38 #[(.pointer x6), (.int .i64 (1 : Int))] w13 fun v22 w14 =>
          ∃ x23 : Bool, v22 = (.bool x23) ∧
          ifB x23
            (callR Try.prog 37 #[(.pointer x6)] w14 fun v24 w15 =>
            ∃ x25 : Sl, v24 = (.slice x25.a x25.l x25.c) ∧
            R (.bool ((x25.l : Int) == (3 : Int))) w15)
            (R (.bool false) w14))
          (R (.bool false) w13))
        (R (.bool false) w10))
      (R (.bool false) w7))
    (R (.bool false) w6)
theorem intagliolaw14_awake_calls  (R : Value → World → Prop) (w : World) (h : L_intagliolaw14_awake  R w) : Calls Try.prog 32 #[] w (Ret R) :=
  lw_calls (fs := Try.fs) (an := a_intagliolaw14_awake) (args := []) Try.fsOK Try.mixed Try.func32 (by kernel_rfl) (by kernel_rfl)
    (Eq.mpr (by kernel_rfl : lwFn Try.prog Try.fs Try.f32 a_intagliolaw14_awake [] w R = L_intagliolaw14_awake  R w) h)

/-- (*intaglio.graph.Graph).Len -/
def a_graph_Graph_Len : Ann := (.seq none .nil (.seq none (.seq none .nil (.cond (.seq none .nil .nil) .nil)) (.seq none .nil .nil)))
def L_graph_Graph_Len (p0 : Option Addr) (R : Value → World → Prop) (w : World) : Prop :=
  ifB (Option.isNone p0)
    (R (.int .i64 (0 : Int)) w)
    (derefP p0 fun a1 =>
    ldS w a1 fun x2 =>
    R (.int .i64 (x2.l : Int)) w)
theorem graph_Graph_Len_calls (p0 : Option Addr) (R : Value → World → Prop) (w : World) (h : L_graph_Graph_Len p0 R w) : Calls Try.prog 33 #[(.pointer p0)] w (Ret R) :=
  lw_calls (fs := Try.fs) (an := a_graph_Graph_Len) (args := [(.pointer p0)]) Try.fsOK Try.mixed Try.func33 (by kernel_rfl) (by kernel_rfl)
    (Eq.mpr (by kernel_rfl : lwFn Try.prog Try.fs Try.f33 a_graph_Graph_Len [(.pointer p0)] w R = L_graph_Graph_Len p0 R w) h)

/-- (*intaglio.graph.Graph).Next -/
def a_graph_Graph_Next : Ann := (.seq none .nil (.seq none (.seq none .nil (.cond (.seq none .nil .nil) .nil)) (.seq none .nil .nil)))
def L_graph_Graph_Next (p0 : Option Addr) (p1 : Int) (R : Value → World → Prop) (w : World) : Prop :=
  callR Try.prog 103 #[(.pointer p0), (.int .i64 p1)] w fun v1 w1 =>
  ∃ x2 : Bool, v1 = (.bool x2) ∧
  ifB (!x2)
    (R (.slice none 0 0) w1)
    (derefP p0 fun a3 =>
    ldS w1 a3 fun x4 =>
    (0 ≤ p1 ∧ p1 < (x4.l : Int)) ∧
    derefP x4.a fun a5 =>
    ldS w1 (a5.add (Int.toNat p1)) fun x6 =>
    callR Try.prog 104 #[(.slice x6.a x6.l x6.c)] w1 fun v7 w2 =>
    ∃ x8 : Sl, v7 = (.slice x8.a x8.l x8.c) ∧
    R (.slice x8.a x8.l x8.c) w2)
theorem graph_Graph_Next_calls (p0 : Option Addr) (p1 : Int) (R : Value → World → Prop) (w : World) (h : L_graph_Graph_Next p0 p1 R w) : Calls Try.prog 34 #[(.pointer p0), (.int .i64 p1)] w (Ret R) :=
  lw_calls (fs := Try.fs) (an := a_graph_Graph_Next) (args := [(.pointer p0), (.int .i64 p1)]) Try.fsOK Try.mixed Try.func34 (by kernel_rfl) (by kernel_rfl)
    (Eq.mpr (by kernel_rfl : lwFn Try.prog Try.fs Try.f34 a_graph_Graph_Next [(.pointer p0), (.int .i64 p1)] w R = L_graph_Graph_Next p0 p1 R w) h)

/-- intaglio.intagliolaw14.among -/
def a_intagliolaw14_among : Ann := (.seq none .nil (.seq none (.seq none .nil (.one (.loop ⟨[0, 1], [(5, (.b (.int .i64)))]⟩ (.seq none (.seq none .nil (.cond .nil .nil)) (.seq none (.one (.seq none .nil (.cond (.seq none .nil .nil) .nil))) .nil))))) (.seq none .nil .nil)))
def L_intagliolaw14_among (p0 : Sl) (p1 : Int) (R : Value → World → Prop) (w : World) : Prop :=
  LoopW (S := Int × Unit) (fun s1 w1 n2 =>
      ifB (decide (s1.1 < (p0.l : Int)))
        ((0 ≤ s1.1 ∧ s1.1 < (p0.l : Int)) ∧
        derefP p0.a fun a3 =>
        ldI w1 (a3.add (Int.toNat s1.1)) .i64 fun x4 =>
        ifB (x4 == p1)
          (R (.bool true) w1)
          (n2 ((IntKind.i64.wrap (s1.1 + (1 : Int))), ()) w1))
        (R (.bool false) w1))
    ((0 : Int), ()) w
theorem intagliolaw14_among_calls (p0 : Sl) (p1 : Int) (R : Value → World → Prop) (w : World) (h : L_intagliolaw14_among p0 p1 R w) : Calls Try.prog 35 #[(.slice p0.a p0.l p0.c), (.int .i64 p1)] w (Ret R) :=
  lw_calls (fs := Try.fs) (an := a_intagliolaw14_among) (args := [(.slice p0.a p0.l p0.c), (.int .i64 p1)]) Try.fsOK Try.mixed Try.func35 (by kernel_rfl) (by kernel_rfl)
    (Eq.mpr (by kernel_rfl : lwFn Try.prog Try.fs Try.f35 a_intagliolaw14_among [(.slice p0.a p0.l p0.c), (.int .i64 p1)] w R = L_intagliolaw14_among p0 p1 R w) h)

/-- (*intaglio.graph.Graph).Ahead -/
def a_graph_Graph_Ahead : Ann := (.seq none .nil (.seq none (.seq none .nil (.cond (.seq none .nil .nil) .nil)) (.seq none .nil .nil)))
def L_graph_Graph_Ahead (p0 : Option Addr) (p1 : Int) (R : Value → World → Prop) (w : World) : Prop :=
  callR Try.prog 103 #[(.pointer p0), (.int .i64 p1)] w fun v1 w1 =>
  ∃ x2 : Bool, v1 = (.bool x2) ∧
  ifB (!x2)
    (R (.slice none 0 0) w1)
    (derefP p0 fun a3 =>
    ldS w1 (a3.add 1) fun x4 =>
    (0 ≤ p1 ∧ p1 < (x4.l : Int)) ∧
    derefP x4.a fun a5 =>
    ldS w1 (a5.add (Int.toNat p1)) fun x6 =>
    callR Try.prog 104 #[(.slice x6.a x6.l x6.c)] w1 fun v7 w2 =>
    ∃ x8 : Sl, v7 = (.slice x8.a x8.l x8.c) ∧
    R (.slice x8.a x8.l x8.c) w2)
theorem graph_Graph_Ahead_calls (p0 : Option Addr) (p1 : Int) (R : Value → World → Prop) (w : World) (h : L_graph_Graph_Ahead p0 p1 R w) : Calls Try.prog 36 #[(.pointer p0), (.int .i64 p1)] w (Ret R) :=
  lw_calls (fs := Try.fs) (an := a_graph_Graph_Ahead) (args := [(.pointer p0), (.int .i64 p1)]) Try.fsOK Try.mixed Try.func36 (by kernel_rfl) (by kernel_rfl)
    (Eq.mpr (by kernel_rfl : lwFn Try.prog Try.fs Try.f36 a_graph_Graph_Ahead [(.pointer p0), (.int .i64 p1)] w R = L_graph_Graph_Ahead p0 p1 R w) h)

/-- (*intaglio.graph.Graph).Order -/
def a_graph_Graph_Order : Ann := (.seq none .nil (.seq none (.seq none .nil (.cond (.seq none .nil .nil) .nil)) (.seq none .nil .nil)))
def L_graph_Graph_Order (p0 : Option Addr) (R : Value → World → Prop) (w : World) : Prop :=
  ifB (Option.isNone p0)
    (R (.slice none 0 0) w)
    (derefP p0 fun a1 =>
    ldS w (a1.add 3) fun x2 =>
    callR Try.prog 104 #[(.slice x2.a x2.l x2.c)] w fun v3 w1 =>
    ∃ x4 : Sl, v3 = (.slice x4.a x4.l x4.c) ∧
    R (.slice x4.a x4.l x4.c) w1)
theorem graph_Graph_Order_calls (p0 : Option Addr) (R : Value → World → Prop) (w : World) (h : L_graph_Graph_Order p0 R w) : Calls Try.prog 37 #[(.pointer p0)] w (Ret R) :=
  lw_calls (fs := Try.fs) (an := a_graph_Graph_Order) (args := [(.pointer p0)]) Try.fsOK Try.mixed Try.func37 (by kernel_rfl) (by kernel_rfl)
    (Eq.mpr (by kernel_rfl : lwFn Try.prog Try.fs Try.f37 a_graph_Graph_Order [(.pointer p0)] w R = L_graph_Graph_Order p0 R w) h)

/-- (*intaglio.graph.Graph).Reached -/
def a_graph_Graph_Reached : Ann := (.seq none .nil (.seq none .nil .nil))
def L_graph_Graph_Reached (p0 : Option Addr) (p1 : Int) (R : Value → World → Prop) (w : World) : Prop :=
  callR Try.prog 103 #[(.pointer p0), (.int .i64 p1)] w fun v1 w1 =>
  ∃ x2 : Bool, v1 = (.bool x2) ∧
  ifB x2
    (derefP p0 fun a3 =>
    callR Try.prog 94 #[(.pointer (some (a3.add 4))), (.int .i64 p1)] w1 fun v4 w2 =>
    ∃ x5 : Bool, v4 = (.bool x5) ∧
    R (.bool x5) w2)
    (R (.bool false) w1)
theorem graph_Graph_Reached_calls (p0 : Option Addr) (p1 : Int) (R : Value → World → Prop) (w : World) (h : L_graph_Graph_Reached p0 p1 R w) : Calls Try.prog 38 #[(.pointer p0), (.int .i64 p1)] w (Ret R) :=
  lw_calls (fs := Try.fs) (an := a_graph_Graph_Reached) (args := [(.pointer p0), (.int .i64 p1)]) Try.fsOK Try.mixed Try.func38 (by kernel_rfl) (by kernel_rfl)
    (Eq.mpr (by kernel_rfl : lwFn Try.prog Try.fs Try.f38 a_graph_Graph_Reached [(.pointer p0), (.int .i64 p1)] w R = L_graph_Graph_Reached p0 p1 R w) h)

/-- intaglio.intagliolaw14.place -/
def a_intagliolaw14_place : Ann := (.seq none .nil (.seq none (.seq none .nil (.one (.loop ⟨[0, 1], [(5, (.b (.int .i64)))]⟩ (.seq none (.seq none .nil (.cond .nil .nil)) (.seq none (.one (.seq none .nil (.cond (.seq none .nil .nil) .nil))) .nil))))) (.seq none .nil .nil)))
def L_intagliolaw14_place (p0 : Sl) (p1 : Int) (R : Value → World → Prop) (w : World) : Prop :=
  LoopW (S := Int × Unit) (fun s1 w1 n2 =>
      ifB (decide (s1.1 < (p0.l : Int)))
        ((0 ≤ s1.1 ∧ s1.1 < (p0.l : Int)) ∧
        derefP p0.a fun a3 =>
        ldI w1 (a3.add (Int.toNat s1.1)) .i64 fun x4 =>
        ifB (x4 == p1)
          (R (.int .i64 s1.1) w1)
          (n2 ((IntKind.i64.wrap (s1.1 + (1 : Int))), ()) w1))
        (R (.int .i64 (-1 : Int)) w1))
    ((0 : Int), ()) w
theorem intagliolaw14_place_calls (p0 : Sl) (p1 : Int) (R : Value → World → Prop) (w : World) (h : L_intagliolaw14_place p0 p1 R w) : Calls Try.prog 39 #[(.slice p0.a p0.l p0.c), (.int .i64 p1)] w (Ret R) :=
  lw_calls (fs := Try.fs) (an := a_intagliolaw14_place) (args := [(.slice p0.a p0.l p0.c), (.int .i64 p1)]) Try.fsOK Try.mixed Try.func39 (by kernel_rfl) (by kernel_rfl)
    (Eq.mpr (by kernel_rfl : lwFn Try.prog Try.fs Try.f39 a_intagliolaw14_place [(.slice p0.a p0.l p0.c), (.int .i64 p1)] w R = L_intagliolaw14_place p0 p1 R w) h)

/-- (*intaglio.intaglioref14.Graph).Walk -/
def a_intaglioref14_Graph_Walk : Ann := (.seq none .nil (.seq none .nil (.seq (some ⟨[3], []⟩) (.seq none .nil (.cond .nil .nil)) (.seq none .nil .nil))))
def L_intaglioref14_Graph_Walk (p0 : Option Addr) (R : Value → World → Prop) (w : World) : Prop :=
  Nw (w.alloc (.cells #[(.slice none 0 0), (.slice none 0 0)] 124)) fun w1 =>
  JoinW (S := Unit) (fun m1 =>
      callR Try.prog 97 #[(.pointer p0)] w1 fun v3 w2 =>
      ∃ x4 : Int, v3 = (.int .i64 x4) ∧
      ifB (decide (x4 > (0 : Int)))
        (callR Try.prog 105 #[(.pointer (some (blk w.heap.size))), (.pointer p0), (.int .i64 (0 : Int))] w2 fun v5 w3 =>
        v5 = (.tuple #[]) ∧
        m1 (()) w3)
        (m1 (()) w2))
    (fun s2 w4 =>
      ldS w4 (blk w.heap.size) fun x6 =>
      R (.slice x6.a x6.l x6.c) w4)
theorem intaglioref14_Graph_Walk_calls (p0 : Option Addr) (R : Value → World → Prop) (w : World) (h : L_intaglioref14_Graph_Walk p0 R w) : Calls Try.prog 40 #[(.pointer p0)] w (Ret R) :=
  lw_calls (fs := Try.fs) (an := a_intaglioref14_Graph_Walk) (args := [(.pointer p0)]) Try.fsOK Try.mixed Try.func40 (by kernel_rfl) (by kernel_rfl)
    (Eq.mpr (by kernel_rfl : lwFn Try.prog Try.fs Try.f40 a_intaglioref14_Graph_Walk [(.pointer p0)] w R = L_intaglioref14_Graph_Walk p0 R w) h)

/-- (*intaglio.graph.Graph).Walk -/
def a_graph_Graph_Walk : Ann := (.seq none .nil (.seq none .nil .nil))
def L_graph_Graph_Walk (p0 : Option Addr) (R : Value → World → Prop) (w : World) : Prop :=
  Nw (w.alloc (.cells #[(.pointer p0)] 28)) fun w1 =>
  R (.func (.func 106) #[] #[(.pointer (some (blk w.heap.size)))]) w1
theorem graph_Graph_Walk_calls (p0 : Option Addr) (R : Value → World → Prop) (w : World) (h : L_graph_Graph_Walk p0 R w) : Calls Try.prog 41 #[(.pointer p0)] w (Ret R) :=
  lw_calls (fs := Try.fs) (an := a_graph_Graph_Walk) (args := [(.pointer p0)]) Try.fsOK Try.mixed Try.func41 (by kernel_rfl) (by kernel_rfl)
    (Eq.mpr (by kernel_rfl : lwFn Try.prog Try.fs Try.f41 a_graph_Graph_Walk [(.pointer p0)] w R = L_graph_Graph_Walk p0 R w) h)

/-- intaglio.intaglioref14.in -/
def a_intaglioref14_in : Ann := (.seq none .nil (.seq none (.seq none .nil (.one (.loop ⟨[0, 1], [(5, (.b (.int .i64)))]⟩ (.seq none (.seq none .nil (.cond .nil .nil)) (.seq none (.one (.seq none .nil (.cond (.seq none .nil .nil) .nil))) .nil))))) (.seq none .nil .nil)))
def L_intaglioref14_in (p0 : Sl) (p1 : Int) (R : Value → World → Prop) (w : World) : Prop :=
  LoopW (S := Int × Unit) (fun s1 w1 n2 =>
      ifB (decide (s1.1 < (p0.l : Int)))
        ((0 ≤ s1.1 ∧ s1.1 < (p0.l : Int)) ∧
        derefP p0.a fun a3 =>
        ldI w1 (a3.add (Int.toNat s1.1)) .i64 fun x4 =>
        ifB (x4 == p1)
          (R (.bool true) w1)
          (n2 ((IntKind.i64.wrap (s1.1 + (1 : Int))), ()) w1))
        (R (.bool false) w1))
    ((0 : Int), ()) w
theorem intaglioref14_in_calls (p0 : Sl) (p1 : Int) (R : Value → World → Prop) (w : World) (h : L_intaglioref14_in p0 p1 R w) : Calls Try.prog 93 #[(.slice p0.a p0.l p0.c), (.int .i64 p1)] w (Ret R) :=
  lw_calls (fs := Try.fs) (an := a_intaglioref14_in) (args := [(.slice p0.a p0.l p0.c), (.int .i64 p1)]) Try.fsOK Try.mixed Try.func93 (by kernel_rfl) (by kernel_rfl)
    (Eq.mpr (by kernel_rfl : lwFn Try.prog Try.fs Try.f93 a_intaglioref14_in [(.slice p0.a p0.l p0.c), (.int .i64 p1)] w R = L_intaglioref14_in p0 p1 R w) h)

/-- (*intaglio.graph.bits).has -/
def a_graph_bits_has : Ann := (.seq none .nil (.seq none .nil .nil))
def L_graph_bits_has (p0 : Option Addr) (p1 : Int) (R : Value → World → Prop) (w : World) : Prop :=
  derefP p0 fun a1 =>
  (0 ≤ (IntKind.i64.wrap (Int.tdiv p1 (64 : Int))) ∧ (IntKind.i64.wrap (Int.tdiv p1 (64 : Int))) < (64 : Int)) ∧
  ldI w (a1.add (Int.toNat (IntKind.i64.wrap (Int.tdiv p1 (64 : Int))))) .u64 fun x2 =>
  ifB (decide ((Int.tmod p1 (64 : Int)) < 0))
    (False)
    (R (.bool ((IntKind.u64.wrap (BitVec.toNat (BitVec.ofInt (IntKind.bits .u64) (Int.fdiv x2 (2 ^ (min (Int.toNat (Int.tmod p1 (64 : Int))) (IntKind.bits .u64)))) &&& BitVec.ofInt (IntKind.bits .u64) (1 : Int)) : Int)) == (1 : Int))) w)
theorem graph_bits_has_calls (p0 : Option Addr) (p1 : Int) (R : Value → World → Prop) (w : World) (h : L_graph_bits_has p0 p1 R w) : Calls Try.prog 94 #[(.pointer p0), (.int .i64 p1)] w (Ret R) :=
  lw_calls (fs := Try.fs) (an := a_graph_bits_has) (args := [(.pointer p0), (.int .i64 p1)]) Try.fsOK Try.mixed Try.func94 (by kernel_rfl) (by kernel_rfl)
    (Eq.mpr (by kernel_rfl : lwFn Try.prog Try.fs Try.f94 a_graph_bits_has [(.pointer p0), (.int .i64 p1)] w R = L_graph_bits_has p0 p1 R w) h)

/-- (*intaglio.graph.bits).add -/
def a_graph_bits_add : Ann := .nil
def L_graph_bits_add (p0 : Option Addr) (p1 : Int) (R : Value → World → Prop) (w : World) : Prop :=
  derefP p0 fun a1 =>
  (0 ≤ (IntKind.i64.wrap (Int.tdiv p1 (64 : Int))) ∧ (IntKind.i64.wrap (Int.tdiv p1 (64 : Int))) < (64 : Int)) ∧
  ldI w.drew (a1.add (Int.toNat (IntKind.i64.wrap (Int.tdiv p1 (64 : Int))))) .u64 fun x2 =>
  ifB (decide ((Int.tmod p1 (64 : Int)) < 0))
    (False)
    (derefP p0 fun a3 =>
    (0 ≤ (IntKind.i64.wrap (Int.tdiv p1 (64 : Int))) ∧ (IntKind.i64.wrap (Int.tdiv p1 (64 : Int))) < (64 : Int)) ∧
    Wr w.drew (a3.add (Int.toNat (IntKind.i64.wrap (Int.tdiv p1 (64 : Int))))) ∧
    Nw (w.drew.setCell (a3.add (Int.toNat (IntKind.i64.wrap (Int.tdiv p1 (64 : Int))))) (.int .u64 (IntKind.u64.wrap (BitVec.toNat (BitVec.ofInt (IntKind.bits .u64) x2 ||| BitVec.ofInt (IntKind.bits .u64) (IntKind.u64.wrap ((1 : Int) * 2 ^ (min (Int.toNat (Int.tmod p1 (64 : Int))) (IntKind.bits .u64))))) : Int)))) fun w1 =>
    R (.tuple #[]) w1)
theorem graph_bits_add_calls (p0 : Option Addr) (p1 : Int) (R : Value → World → Prop) (w : World) (h : L_graph_bits_add p0 p1 R w) : Calls Try.prog 95 #[(.pointer p0), (.int .i64 p1)] w (Ret R) :=
  lw_calls (fs := Try.fs) (an := a_graph_bits_add) (args := [(.pointer p0), (.int .i64 p1)]) Try.fsOK Try.mixed Try.func95 (by kernel_rfl) (by kernel_rfl)
    (Eq.mpr (by kernel_rfl : lwFn Try.prog Try.fs Try.f95 a_graph_bits_add [(.pointer p0), (.int .i64 p1)] w R = L_graph_bits_add p0 p1 R w) h)

/-- (*intaglio.graph.Graph).walked -/
def a_graph_Graph_walked : Ann := (.seq none .nil (.seq none .nil (.seq none .nil (.seq none .nil .nil))))
def L_graph_Graph_walked (p0 : Option Addr) (R : Value → World → Prop) (w : World) : Prop :=
  Nw (w.alloc (.cells #[(.pointer p0)] 28)) fun w1 =>
  Nw (w1.alloc (.cells #[.nilFunc] 119)) fun w2 =>
  Wr w2 (blk w1.heap.size) ∧
  Nw (w2.setCell (blk w1.heap.size) (.func (.func 147) #[] #[(.pointer (some (blk w.heap.size))), (.pointer (some (blk w1.heap.size)))])) fun w3 =>
  ldR w3 (blk w1.heap.size) fun x1 =>
  callV Try.prog Try.fs x1 [(.int .i64 (0 : Int))] w3 fun v2 w4 =>
  v2 = (.tuple #[]) ∧
  ldP w4 (blk w.heap.size) fun x3 =>
  derefP x3 fun a4 =>
  ldS w4 (a4.add 3) fun x5 =>
  callR Try.prog 148 #[(.slice x5.a x5.l x5.c)] w4 fun v6 w5 =>
  v6 = (.tuple #[]) ∧
  R (.tuple #[]) w5
theorem graph_Graph_walked_calls (p0 : Option Addr) (R : Value → World → Prop) (w : World) (h : L_graph_Graph_walked p0 R w) : Calls Try.prog 96 #[(.pointer p0)] w (Ret R) :=
  lw_calls (fs := Try.fs) (an := a_graph_Graph_walked) (args := [(.pointer p0)]) Try.fsOK Try.mixed Try.func96 (by kernel_rfl) (by kernel_rfl)
    (Eq.mpr (by kernel_rfl : lwFn Try.prog Try.fs Try.f96 a_graph_Graph_walked [(.pointer p0)] w R = L_graph_Graph_walked p0 R w) h)

/-- (*intaglio.intaglioref14.Graph).Len -/
def a_intaglioref14_Graph_Len : Ann := (.seq none .nil (.seq none (.seq none .nil (.cond (.seq none .nil .nil) .nil)) (.seq none .nil .nil)))
def L_intaglioref14_Graph_Len (p0 : Option Addr) (R : Value → World → Prop) (w : World) : Prop :=
  ifB (Option.isNone p0)
    (R (.int .i64 (0 : Int)) w)
    (derefP p0 fun a1 =>
    ldS w a1 fun x2 =>
    R (.int .i64 (x2.l : Int)) w)
theorem intaglioref14_Graph_Len_calls (p0 : Option Addr) (R : Value → World → Prop) (w : World) (h : L_intaglioref14_Graph_Len p0 R w) : Calls Try.prog 97 #[(.pointer p0)] w (Ret R) :=
  lw_calls (fs := Try.fs) (an := a_intaglioref14_Graph_Len) (args := [(.pointer p0)]) Try.fsOK Try.mixed Try.func97 (by kernel_rfl) (by kernel_rfl)
    (Eq.mpr (by kernel_rfl : lwFn Try.prog Try.fs Try.f97 a_intaglioref14_Graph_Len [(.pointer p0)] w R = L_intaglioref14_Graph_Len p0 R w) h)

/-- (*intaglio.intaglioref14.Graph).Next -/
def a_intaglioref14_Graph_Next : Ann := (.seq none .nil (.seq none .nil (.seq (some ⟨[0, 1, 5], []⟩) (.seq none .nil (.cond (.seq none .nil .nil) .nil)) (.seq none (.seq none .nil (.one (.loop ⟨[0, 1], [(5, (.b .slice)), (6, (.b (.int .i64)))]⟩ (.seq none (.seq none .nil (.cond .nil .nil)) (.seq none (.one .nil) .nil))))) (.seq none .nil .nil)))))
def L_intaglioref14_Graph_Next (p0 : Option Addr) (p1 : Int) (R : Value → World → Prop) (w : World) : Prop :=
  JoinW (S := Unit) (fun m1 =>
      ifB (decide (p1 < (0 : Int)))
        (R (.slice none 0 0) w)
        (callR Try.prog 97 #[(.pointer p0)] w fun v3 w1 =>
        ∃ x4 : Int, v3 = (.int .i64 x4) ∧
        ifB (decide (p1 ≥ x4))
          (R (.slice none 0 0) w1)
          (m1 (()) w1)))
    (fun s2 w2 =>
      LoopW (S := Sl × Int × Unit) (fun s5 w3 n6 =>
          derefP p0 fun a7 =>
          ldS w3 a7 fun x8 =>
          (0 ≤ p1 ∧ p1 < (x8.l : Int)) ∧
          derefP x8.a fun a9 =>
          ldS w3 (a9.add (Int.toNat p1)) fun x10 =>
          ifB (decide (s5.2.1 < (x10.l : Int)))
            (derefP p0 fun a11 =>
            ldS w3 a11 fun x12 =>
            (0 ≤ p1 ∧ p1 < (x12.l : Int)) ∧
            derefP x12.a fun a13 =>
            ldS w3 (a13.add (Int.toNat p1)) fun x14 =>
            (0 ≤ s5.2.1 ∧ s5.2.1 < (x14.l : Int)) ∧
            derefP x14.a fun a15 =>
            ldI w3 (a15.add (Int.toNat s5.2.1)) .i64 fun x16 =>
            Nw (w3.alloc (.cells #[(.int .i64 x16)] 3)) fun w4 =>
            appendS Try.prog 32 (.slice s5.1.a s5.1.l s5.1.c) (.slice (some (blk w3.heap.size)) 1 1) w4 fun r17 w5 =>
            n6 (r17, (IntKind.i64.wrap (s5.2.1 + (1 : Int))), ()) w5)
            (R (.slice s5.1.a s5.1.l s5.1.c) w3))
        ((Sl.mk none 0 0), (0 : Int), ()) w2)
theorem intaglioref14_Graph_Next_calls (p0 : Option Addr) (p1 : Int) (R : Value → World → Prop) (w : World) (h : L_intaglioref14_Graph_Next p0 p1 R w) : Calls Try.prog 98 #[(.pointer p0), (.int .i64 p1)] w (Ret R) :=
  lw_calls (fs := Try.fs) (an := a_intaglioref14_Graph_Next) (args := [(.pointer p0), (.int .i64 p1)]) Try.fsOK Try.mixed Try.func98 (by kernel_rfl) (by kernel_rfl)
    (Eq.mpr (by kernel_rfl : lwFn Try.prog Try.fs Try.f98 a_intaglioref14_Graph_Next [(.pointer p0), (.int .i64 p1)] w R = L_intaglioref14_Graph_Next p0 p1 R w) h)

/-- (*intaglio.intaglioref14.Graph).Ahead -/
def a_intaglioref14_Graph_Ahead : Ann := (.seq none .nil (.seq none .nil (.seq none (.seq none .nil (.one (.loop ⟨[0, 1], [(5, (.b .slice)), (6, (.b (.int .i64)))]⟩ (.seq none (.seq none .nil (.cond .nil .nil)) (.seq (some ⟨[0, 1, 6], [(5, (.b .slice))]⟩) (.one (.seq none .nil (.cond .nil .nil))) .nil))))) (.seq none .nil .nil))))
def L_intaglioref14_Graph_Ahead (p0 : Option Addr) (p1 : Int) (R : Value → World → Prop) (w : World) : Prop :=
  LoopW (S := Sl × Int × Unit) (fun s1 w1 n2 =>
      callR Try.prog 97 #[(.pointer p0)] w1 fun v3 w2 =>
      ∃ x4 : Int, v3 = (.int .i64 x4) ∧
      ifB (decide (s1.2.1 < x4))
        (JoinW (S := Sl × Unit) (fun m5 =>
            derefP p0 fun a7 =>
            ldS w2 a7 fun x8 =>
            (0 ≤ s1.2.1 ∧ s1.2.1 < (x8.l : Int)) ∧
            derefP x8.a fun a9 =>
            ldS w2 (a9.add (Int.toNat s1.2.1)) fun x10 =>
            callR Try.prog 93 #[(.slice x10.a x10.l x10.c), (.int .i64 p1)] w2 fun v11 w3 =>
            ∃ x12 : Bool, v11 = (.bool x12) ∧
            ifB x12
              (Nw (w3.alloc (.cells #[(.int .i64 s1.2.1)] 3)) fun w4 =>
              appendS Try.prog 32 (.slice s1.1.a s1.1.l s1.1.c) (.slice (some (blk w3.heap.size)) 1 1) w4 fun r13 w5 =>
              m5 (r13, ()) w5)
              (m5 (s1.1, ()) w3))
          (fun s6 w6 =>
            n2 (s6.1, (IntKind.i64.wrap (s1.2.1 + (1 : Int))), ()) w6))
        (R (.slice s1.1.a s1.1.l s1.1.c) w2))
    ((Sl.mk none 0 0), (0 : Int), ()) w
theorem intaglioref14_Graph_Ahead_calls (p0 : Option Addr) (p1 : Int) (R : Value → World → Prop) (w : World) (h : L_intaglioref14_Graph_Ahead p0 p1 R w) : Calls Try.prog 99 #[(.pointer p0), (.int .i64 p1)] w (Ret R) :=
  lw_calls (fs := Try.fs) (an := a_intaglioref14_Graph_Ahead) (args := [(.pointer p0), (.int .i64 p1)]) Try.fsOK Try.mixed Try.func99 (by kernel_rfl) (by kernel_rfl)
    (Eq.mpr (by kernel_rfl : lwFn Try.prog Try.fs Try.f99 a_intaglioref14_Graph_Ahead [(.pointer p0), (.int .i64 p1)] w R = L_intaglioref14_Graph_Ahead p0 p1 R w) h)

/-- (*intaglio.intaglioref14.Graph).Reached -/
def a_intaglioref14_Graph_Reached : Ann := (.seq none .nil (.seq (some ⟨[0, 1], []⟩) (.seq none .nil (.cond (.seq none .nil .nil) .nil)) (.seq none .nil .nil)))
def L_intaglioref14_Graph_Reached (p0 : Option Addr) (p1 : Int) (R : Value → World → Prop) (w : World) : Prop :=
  JoinW (S := Unit) (fun m1 =>
      ifB (decide (p1 < (0 : Int)))
        (R (.bool false) w)
        (callR Try.prog 97 #[(.pointer p0)] w fun v3 w1 =>
        ∃ x4 : Int, v3 = (.int .i64 x4) ∧
        ifB (decide (p1 ≥ x4))
          (R (.bool false) w1)
          (m1 (()) w1)))
    (fun s2 w2 =>
      callR Try.prog 149 #[(.pointer p0), (.int .i64 (-1 : Int))] w2 fun v5 w3 =>
      ∃ x6 : Sl, v5 = (.slice x6.a x6.l x6.c) ∧
      (0 ≤ p1 ∧ p1 < (x6.l : Int)) ∧
      derefP x6.a fun a7 =>
      ldB w3 (a7.add (Int.toNat p1)) fun x8 =>
      R (.bool x8) w3)
theorem intaglioref14_Graph_Reached_calls (p0 : Option Addr) (p1 : Int) (R : Value → World → Prop) (w : World) (h : L_intaglioref14_Graph_Reached p0 p1 R w) : Calls Try.prog 100 #[(.pointer p0), (.int .i64 p1)] w (Ret R) :=
  lw_calls (fs := Try.fs) (an := a_intaglioref14_Graph_Reached) (args := [(.pointer p0), (.int .i64 p1)]) Try.fsOK Try.mixed Try.func100 (by kernel_rfl) (by kernel_rfl)
    (Eq.mpr (by kernel_rfl : lwFn Try.prog Try.fs Try.f100 a_intaglioref14_Graph_Reached [(.pointer p0), (.int .i64 p1)] w R = L_intaglioref14_Graph_Reached p0 p1 R w) h)

/-- (*intaglio.intaglioref14.Graph).Order -/
def a_intaglioref14_Graph_Order : Ann := (.seq none .nil (.seq none .nil (.seq (some ⟨[3], []⟩) (.seq none .nil (.cond .nil .nil)) (.seq none .nil (.seq none (.seq none .nil (.one (.loop ⟨[3], [(4, (.b .slice)), (5, (.b (.int .i64)))]⟩ (.seq none (.seq none .nil (.cond .nil .nil)) (.seq none (.one .nil) .nil))))) (.seq none .nil .nil))))))
def L_intaglioref14_Graph_Order (p0 : Option Addr) (R : Value → World → Prop) (w : World) : Prop :=
  Nw (w.alloc (.cells #[(.slice none 0 0), (.slice none 0 0)] 124)) fun w1 =>
  JoinW (S := Unit) (fun m1 =>
      callR Try.prog 97 #[(.pointer p0)] w1 fun v3 w2 =>
      ∃ x4 : Int, v3 = (.int .i64 x4) ∧
      ifB (decide (x4 > (0 : Int)))
        (callR Try.prog 105 #[(.pointer (some (blk w.heap.size))), (.pointer p0), (.int .i64 (0 : Int))] w2 fun v5 w3 =>
        v5 = (.tuple #[]) ∧
        m1 (()) w3)
        (m1 (()) w2))
    (fun s2 w4 =>
      ldS w4 ((blk w.heap.size).add 1) fun x6 =>
      LoopW (S := Sl × Int × Unit) (fun s7 w5 n8 =>
          ifB (decide (s7.2.1 ≥ (0 : Int)))
            (ldS w5 ((blk w.heap.size).add 1) fun x9 =>
            (0 ≤ s7.2.1 ∧ s7.2.1 < (x9.l : Int)) ∧
            derefP x9.a fun a10 =>
            ldI w5 (a10.add (Int.toNat s7.2.1)) .i64 fun x11 =>
            Nw (w5.alloc (.cells #[(.int .i64 x11)] 3)) fun w6 =>
            appendS Try.prog 32 (.slice s7.1.a s7.1.l s7.1.c) (.slice (some (blk w5.heap.size)) 1 1) w6 fun r12 w7 =>
            n8 (r12, (IntKind.i64.wrap (s7.2.1 - (1 : Int))), ()) w7)
            (R (.slice s7.1.a s7.1.l s7.1.c) w5))
        ((Sl.mk none 0 0), (IntKind.i64.wrap ((x6.l : Int) - (1 : Int))), ()) w4)
theorem intaglioref14_Graph_Order_calls (p0 : Option Addr) (R : Value → World → Prop) (w : World) (h : L_intaglioref14_Graph_Order p0 R w) : Calls Try.prog 101 #[(.pointer p0)] w (Ret R) :=
  lw_calls (fs := Try.fs) (an := a_intaglioref14_Graph_Order) (args := [(.pointer p0)]) Try.fsOK Try.mixed Try.func101 (by kernel_rfl) (by kernel_rfl)
    (Eq.mpr (by kernel_rfl : lwFn Try.prog Try.fs Try.f101 a_intaglioref14_Graph_Order [(.pointer p0)] w R = L_intaglioref14_Graph_Order p0 R w) h)

/-- intaglio.intagliolaw14.pair -/
def a_intagliolaw14_pair : Ann := (.seq none .nil (.seq none .nil (.seq none .nil (.seq none .nil (.seq none .nil .nil)))))
def L_intagliolaw14_pair (p0 : Int) (p1 : Int) (R : Value → World → Prop) (w : World) : Prop :=
  (0 ≤ (2 : Int) ∧ (2 : Int) ≤ (2 : Int) ∧ (8 : Int) * (2 : Int) ≤ 281474976710656 ∧ (2 : Int) ≤ 9223372036854775807) ∧
  Nw (w.alloc (.cells (madeCells #[(.int .i64 (0 : Int))] (2 * 1)) 3)) fun w1 =>
  (0 ≤ (0 : Int) ∧ (0 : Int) < (2 : Int)) ∧
  Wr w1 ((blk w.heap.size).add 0) ∧
  Nw (w1.setCell ((blk w.heap.size).add 0) (.int .i64 p0)) fun w2 =>
  (0 ≤ (1 : Int) ∧ (1 : Int) < (2 : Int)) ∧
  Wr w2 ((blk w.heap.size).add 1) ∧
  Nw (w2.setCell ((blk w.heap.size).add 1) (.int .i64 p1)) fun w3 =>
  R (.slice (some (blk w.heap.size)) 2 2) w3
theorem intagliolaw14_pair_calls (p0 : Int) (p1 : Int) (R : Value → World → Prop) (w : World) (h : L_intagliolaw14_pair p0 p1 R w) : Calls Try.prog 102 #[(.int .i64 p0), (.int .i64 p1)] w (Ret R) :=
  lw_calls (fs := Try.fs) (an := a_intagliolaw14_pair) (args := [(.int .i64 p0), (.int .i64 p1)]) Try.fsOK Try.mixed Try.func102 (by kernel_rfl) (by kernel_rfl)
    (Eq.mpr (by kernel_rfl : lwFn Try.prog Try.fs Try.f102 a_intagliolaw14_pair [(.int .i64 p0), (.int .i64 p1)] w R = L_intagliolaw14_pair p0 p1 R w) h)

/-- (*intaglio.graph.Graph).is -/
def a_graph_Graph_is : Ann := (.seq none .nil (.seq none .nil .nil))
def L_graph_Graph_is (p0 : Option Addr) (p1 : Int) (R : Value → World → Prop) (w : World) : Prop :=
  ifB (decide (p1 ≥ (0 : Int)))
    (callR Try.prog 33 #[(.pointer p0)] w fun v1 w1 =>
    ∃ x2 : Int, v1 = (.int .i64 x2) ∧
    R (.bool (decide (p1 < x2))) w1)
    (R (.bool false) w)
theorem graph_Graph_is_calls (p0 : Option Addr) (p1 : Int) (R : Value → World → Prop) (w : World) (h : L_graph_Graph_is p0 p1 R w) : Calls Try.prog 103 #[(.pointer p0), (.int .i64 p1)] w (Ret R) :=
  lw_calls (fs := Try.fs) (an := a_graph_Graph_is) (args := [(.pointer p0), (.int .i64 p1)]) Try.fsOK Try.mixed Try.func103 (by kernel_rfl) (by kernel_rfl)
    (Eq.mpr (by kernel_rfl : lwFn Try.prog Try.fs Try.f103 a_graph_Graph_is [(.pointer p0), (.int .i64 p1)] w R = L_graph_Graph_is p0 p1 R w) h)

/-- slices.Clone[[]int,int] -/
def a_slices_Clone_sint_int : Ann := (.seq none .nil (.seq none (.seq none .nil (.cond (.seq none .nil .nil) .nil)) (.seq none .nil .nil)))
def L_slices_Clone_sint_int (p0 : Sl) (R : Value → World → Prop) (w : World) : Prop :=
  ifB (Option.isNone p0.a)
    (R (.slice none 0 0) w)
    (Nw (w.alloc (.cells #[] 3)) fun w1 =>
    appendS Try.prog 32 (.slice (some (blk w.heap.size)) 0 0) (.slice p0.a p0.l p0.c) w1 fun r1 w2 =>
    R (.slice r1.a r1.l r1.c) w2)
theorem slices_Clone_sint_int_calls (p0 : Sl) (R : Value → World → Prop) (w : World) (h : L_slices_Clone_sint_int p0 R w) : Calls Try.prog 104 #[(.slice p0.a p0.l p0.c)] w (Ret R) :=
  lw_calls (fs := Try.fs) (an := a_slices_Clone_sint_int) (args := [(.slice p0.a p0.l p0.c)]) Try.fsOK Try.mixed Try.func104 (by kernel_rfl) (by kernel_rfl)
    (Eq.mpr (by kernel_rfl : lwFn Try.prog Try.fs Try.f104 a_slices_Clone_sint_int [(.slice p0.a p0.l p0.c)] w R = L_slices_Clone_sint_int p0 R w) h)

/-- (*intaglio.intaglioref14.walker).to -/
def a_intaglioref14_walker_to : Ann := (.seq none .nil (.seq none (.seq none .nil (.one (.loop ⟨[0, 1, 2], [(6, (.b (.int .i64)))]⟩ (.seq none (.seq none .nil (.cond .nil .nil)) (.seq (some ⟨[0, 1, 2, 6], []⟩) (.one (.seq none .nil (.cond .nil .nil))) .nil))))) .nil))
def L_intaglioref14_walker_to (p0 : Option Addr) (p1 : Option Addr) (p2 : Int) (R : Value → World → Prop) (w : World) : Prop :=
  derefP p0 fun a1 =>
  ldS w a1 fun x2 =>
  Nw (w.alloc (.cells #[(.int .i64 p2)] 3)) fun w1 =>
  appendS Try.prog 32 (.slice x2.a x2.l x2.c) (.slice (some (blk w.heap.size)) 1 1) w1 fun r3 w2 =>
  derefP p0 fun a4 =>
  Wr w2 a4 ∧
  Nw (w2.setCell a4 (.slice r3.a r3.l r3.c)) fun w3 =>
  LoopW (S := Int × Unit) (fun s5 w4 n6 =>
      derefP p1 fun a7 =>
      ldS w4 a7 fun x8 =>
      (0 ≤ p2 ∧ p2 < (x8.l : Int)) ∧
      derefP x8.a fun a9 =>
      ldS w4 (a9.add (Int.toNat p2)) fun x10 =>
      ifB (decide (s5.1 < (x10.l : Int)))
        (JoinW (S := Unit) (fun m11 =>
            derefP p0 fun a13 =>
            ldS w4.drew a13 fun x14 =>
            derefP p1 fun a15 =>
            ldS w4.drew a15 fun x16 =>
            (0 ≤ p2 ∧ p2 < (x16.l : Int)) ∧
            derefP x16.a fun a17 =>
            ldS w4.drew (a17.add (Int.toNat p2)) fun x18 =>
            (0 ≤ s5.1 ∧ s5.1 < (x18.l : Int)) ∧
            derefP x18.a fun a19 =>
            ldI w4.drew (a19.add (Int.toNat s5.1)) .i64 fun x20 =>
            callR Try.prog 93 #[(.slice x14.a x14.l x14.c), (.int .i64 x20)] w4.drew fun v21 w5 =>
            ∃ x22 : Bool, v21 = (.bool x22) ∧
            ifB (!x22)
              (derefP p1 fun a23 =>
              ldS w5 a23 fun x24 =>
              (0 ≤ p2 ∧ p2 < (x24.l : Int)) ∧
              derefP x24.a fun a25 =>
              ldS w5 (a25.add (Int.toNat p2)) fun x26 =>
              (0 ≤ s5.1 ∧ s5.1 < (x26.l : Int)) ∧
              derefP x26.a fun a27 =>
              ldI w5 (a27.add (Int.toNat s5.1)) .i64 fun x28 =>
              callR Try.prog 105 #[(.pointer p0), (.pointer p1), (.int .i64 x28)] w5 fun v29 w6 =>
              v29 = (.tuple #[]) ∧
              m11 (()) w6)
              (m11 (()) w5))
          (fun s12 w7 =>
            n6 ((IntKind.i64.wrap (s5.1 + (1 : Int))), ()) w7))
        (derefP p0 fun a30 =>
        ldS w4 (a30.add 1) fun x31 =>
        Nw (w4.alloc (.cells #[(.int .i64 p2)] 3)) fun w8 =>
        appendS Try.prog 32 (.slice x31.a x31.l x31.c) (.slice (some (blk w4.heap.size)) 1 1) w8 fun r32 w9 =>
        derefP p0 fun a33 =>
        Wr w9 (a33.add 1) ∧
        Nw (w9.setCell (a33.add 1) (.slice r32.a r32.l r32.c)) fun w10 =>
        R (.tuple #[]) w10))
    ((0 : Int), ()) w3
theorem intaglioref14_walker_to_calls (p0 : Option Addr) (p1 : Option Addr) (p2 : Int) (R : Value → World → Prop) (w : World) (h : L_intaglioref14_walker_to p0 p1 p2 R w) : Calls Try.prog 105 #[(.pointer p0), (.pointer p1), (.int .i64 p2)] w (Ret R) :=
  lw_calls (fs := Try.fs) (an := a_intaglioref14_walker_to) (args := [(.pointer p0), (.pointer p1), (.int .i64 p2)]) Try.fsOK Try.mixed Try.func105 (by kernel_rfl) (by kernel_rfl)
    (Eq.mpr (by kernel_rfl : lwFn Try.prog Try.fs Try.f105 a_intaglioref14_walker_to [(.pointer p0), (.pointer p1), (.int .i64 p2)] w R = L_intaglioref14_walker_to p0 p1 p2 R w) h)

/-- (*intaglio.graph.Graph).Walk 1 -/
def a_graph_Graph_Walk_1 : Ann := (.seq none (.seq none .nil (.cond .nil .nil)) (.seq none .nil (.one (.loop ⟨[0, 10, 11], [(12, (.b (.int .i64)))]⟩ (.seq none .nil (.seq none (.cond .nil .nil) (.seq none (.one (.seq none .nil (.seq none .nil (.cond .nil .nil)))) .nil)))))))
def L_graph_Graph_Walk_1 (p0 : Value) (c0 : Addr) (R : Value → World → Prop) (w : World) : Prop :=
  ldP w c0 fun x1 =>
  ifB (Option.isNone x1)
    (R (.tuple #[]) w)
    (ldP w c0 fun x2 =>
    derefP x2 fun a3 =>
    ldS w (a3.add 2) fun x4 =>
    LoopW (S := Int × Unit) (fun s5 w1 n6 =>
        ifB (decide (s5.1 < (x4.l : Int)))
          ((0 ≤ s5.1 ∧ s5.1 < (x4.l : Int)) ∧
          derefP x4.a fun a7 =>
          ldI w1 (a7.add (Int.toNat s5.1)) .i64 fun x8 =>
          callV Try.prog Try.fs p0 [(.int .i64 x8)] w1 fun v9 w2 =>
          ∃ x10 : Bool, v9 = (.bool x10) ∧
          ifB (!x10)
            (R (.tuple #[]) w2)
            (n6 ((IntKind.i64.wrap (s5.1 + (1 : Int))), ()) w2))
          (R (.tuple #[]) w1))
      ((0 : Int), ()) w)
theorem graph_Graph_Walk_1_calls (p0 : Value) (c0 : Addr) (R : Value → World → Prop) (w : World) (h : L_graph_Graph_Walk_1 p0 c0 R w) : Calls Try.prog 106 #[p0, (.pointer (some c0))] w (Ret R) :=
  lw_calls (fs := Try.fs) (an := a_graph_Graph_Walk_1) (args := [p0, (.pointer (some c0))]) Try.fsOK Try.mixed Try.func106 (by kernel_rfl) (by kernel_rfl)
    (Eq.mpr (by kernel_rfl : lwFn Try.prog Try.fs Try.f106 a_graph_Graph_Walk_1 [p0, (.pointer (some c0))] w R = L_graph_Graph_Walk_1 p0 c0 R w) h)

/-- (*intaglio.graph.Graph).walked 1 -/
def a_graph_Graph_walked_1 : Ann := (.seq none .nil (.seq none .nil (.seq none (.seq none .nil (.one (.loop ⟨[0, 1, 2, 27, 28], [(29, (.b (.int .i64)))]⟩ (.seq none .nil (.seq none (.cond .nil .nil) (.seq (some ⟨[0, 1, 2, 27, 28, 29], []⟩) (.one (.seq none .nil (.seq none .nil (.cond .nil .nil)))) .nil)))))) .nil)))
def L_graph_Graph_walked_1 (p0 : Int) (c0 : Addr) (c1 : Addr) (R : Value → World → Prop) (w : World) : Prop :=
  ldP w c0 fun x1 =>
  derefP x1 fun a2 =>
  callR Try.prog 95 #[(.pointer (some (a2.add 4))), (.int .i64 p0)] w fun v3 w1 =>
  v3 = (.tuple #[]) ∧
  ldP w1.drew c0 fun x4 =>
  ldP w1.drew c0 fun x5 =>
  derefP x5 fun a6 =>
  ldS w1.drew (a6.add 2) fun x7 =>
  Nw (w1.drew.alloc (.cells #[(.int .i64 p0)] 3)) fun w2 =>
  w2.cell? (a6.add 2) = some (.slice x7.a x7.l x7.c) ∧
  w2.cell? c0 = some (.pointer x5) ∧
  w2.cell? c0 = some (.pointer x4) ∧
  appendS Try.prog 32 (.slice x7.a x7.l x7.c) (.slice (some (blk w1.drew.heap.size)) 1 1) w2 fun r8 w3 =>
  w3.cell? c0 = some (.pointer x4) ∧
  derefP x4 fun a9 =>
  Wr w3 (a9.add 2) ∧
  Nw (w3.setCell (a9.add 2) (.slice r8.a r8.l r8.c)) fun w4 =>
  ldP w4 c0 fun x10 =>
  derefP x10 fun a11 =>
  ldS w4 a11 fun x12 =>
  (0 ≤ p0 ∧ p0 < (x12.l : Int)) ∧
  derefP x12.a fun a13 =>
  ldS w4 (a13.add (Int.toNat p0)) fun x14 =>
  LoopW (S := Int × Unit) (fun s15 w5 n16 =>
      ifB (decide (s15.1 < (x14.l : Int)))
        (JoinW (S := Unit) (fun m17 =>
            (0 ≤ s15.1 ∧ s15.1 < (x14.l : Int)) ∧
            derefP x14.a fun a19 =>
            ldI w5 (a19.add (Int.toNat s15.1)) .i64 fun x20 =>
            ldP w5 c0 fun x21 =>
            derefP x21 fun a22 =>
            callR Try.prog 94 #[(.pointer (some (a22.add 4))), (.int .i64 x20)] w5 fun v23 w6 =>
            ∃ x24 : Bool, v23 = (.bool x24) ∧
            ifB (!x24)
              (ldR w6 c1 fun x25 =>
              callV Try.prog Try.fs x25 [(.int .i64 x20)] w6 fun v26 w7 =>
              v26 = (.tuple #[]) ∧
              m17 (()) w7)
              (m17 (()) w6))
          (fun s18 w8 =>
            n16 ((IntKind.i64.wrap (s15.1 + (1 : Int))), ()) w8))
        (ldP w5.drew c0 fun x27 =>
        ldP w5.drew c0 fun x28 =>
        derefP x28 fun a29 =>
        ldS w5.drew (a29.add 3) fun x30 =>
        Nw (w5.drew.alloc (.cells #[(.int .i64 p0)] 3)) fun w9 =>
        w9.cell? (a29.add 3) = some (.slice x30.a x30.l x30.c) ∧
        w9.cell? c0 = some (.pointer x28) ∧
        w9.cell? c0 = some (.pointer x27) ∧
        appendS Try.prog 32 (.slice x30.a x30.l x30.c) (.slice (some (blk w5.drew.heap.size)) 1 1) w9 fun r31 w10 =>
        w10.cell? c0 = some (.pointer x27) ∧
        derefP x27 fun a32 =>
        Wr w10 (a32.add 3) ∧
        Nw (w10.setCell (a32.add 3) (.slice r31.a r31.l r31.c)) fun w11 =>
        R (.tuple #[]) w11))
    ((0 : Int), ()) w4
theorem graph_Graph_walked_1_calls (p0 : Int) (c0 : Addr) (c1 : Addr) (R : Value → World → Prop) (w : World) (h : L_graph_Graph_walked_1 p0 c0 c1 R w) : Calls Try.prog 147 #[(.int .i64 p0), (.pointer (some c0)), (.pointer (some c1))] w (Ret R) :=
  lw_calls (fs := Try.fs) (an := a_graph_Graph_walked_1) (args := [(.int .i64 p0), (.pointer (some c0)), (.pointer (some c1))]) Try.fsOK Try.mixed Try.func147 (by kernel_rfl) (by kernel_rfl)
    (Eq.mpr (by kernel_rfl : lwFn Try.prog Try.fs Try.f147 a_graph_Graph_walked_1 [(.int .i64 p0), (.pointer (some c0)), (.pointer (some c1))] w R = L_graph_Graph_walked_1 p0 c0 c1 R w) h)

/-- slices.Reverse[[]int,int] -/
def a_slices_Reverse_sint_int : Ann := (.seq none .nil (.one (.loop ⟨[0], [(2, (.b (.int .i64))), (3, (.b (.int .i64)))]⟩ (.seq none (.seq none .nil (.cond .nil .nil)) (.seq none (.one .nil) .nil)))))
def L_slices_Reverse_sint_int (p0 : Sl) (R : Value → World → Prop) (w : World) : Prop :=
  LoopW (S := Int × Int × Unit) (fun s1 w1 n2 =>
      ifB (decide (s1.1 < s1.2.1))
        ((0 ≤ s1.2.1 ∧ s1.2.1 < (p0.l : Int)) ∧
        derefP p0.a fun a3 =>
        ldI w1.drew (a3.add (Int.toNat s1.2.1)) .i64 fun x4 =>
        (0 ≤ s1.1 ∧ s1.1 < (p0.l : Int)) ∧
        derefP p0.a fun a5 =>
        ldI w1.drew (a5.add (Int.toNat s1.1)) .i64 fun x6 =>
        (0 ≤ s1.1 ∧ s1.1 < (p0.l : Int)) ∧
        derefP p0.a fun a7 =>
        Wr w1.drew (a7.add (Int.toNat s1.1)) ∧
        Nw (w1.drew.setCell (a7.add (Int.toNat s1.1)) (.int .i64 x4)) fun w2 =>
        (0 ≤ s1.2.1 ∧ s1.2.1 < (p0.l : Int)) ∧
        derefP p0.a fun a8 =>
        Wr w2 (a8.add (Int.toNat s1.2.1)) ∧
        Nw (w2.setCell (a8.add (Int.toNat s1.2.1)) (.int .i64 x6)) fun w3 =>
        n2 ((IntKind.i64.wrap (s1.1 + (1 : Int))), (IntKind.i64.wrap (s1.2.1 - (1 : Int))), ()) w3)
        (R (.tuple #[]) w1))
    ((0 : Int), (IntKind.i64.wrap ((p0.l : Int) - (1 : Int))), ()) w
theorem slices_Reverse_sint_int_calls (p0 : Sl) (R : Value → World → Prop) (w : World) (h : L_slices_Reverse_sint_int p0 R w) : Calls Try.prog 148 #[(.slice p0.a p0.l p0.c)] w (Ret R) :=
  lw_calls (fs := Try.fs) (an := a_slices_Reverse_sint_int) (args := [(.slice p0.a p0.l p0.c)]) Try.fsOK Try.mixed Try.func148 (by kernel_rfl) (by kernel_rfl)
    (Eq.mpr (by kernel_rfl : lwFn Try.prog Try.fs Try.f148 a_slices_Reverse_sint_int [(.slice p0.a p0.l p0.c)] w R = L_slices_Reverse_sint_int p0 R w) h)

/-- (*intaglio.intaglioref14.Graph).All -/
def a_intaglioref14_Graph_All : Ann := (.seq none .nil (.seq none .nil (.seq (some ⟨[0, 1, 5], []⟩) (.seq none .nil (.cond (.seq none .nil .nil) .nil)) (.seq none .nil (.seq none (.seq none .nil (.one (.loop ⟨[0, 1, 5], [(6, (.b .bool))]⟩ (.seq none (.seq none .nil (.cond .nil .nil)) (.one (.seq none .nil (.seq none .nil (.one (.loop ⟨[0, 1, 5], [(6, (.b .bool)), (7, (.b (.int .i64)))]⟩ (.seq none (.seq none .nil (.cond .nil .nil)) (.seq (some ⟨[0, 1, 5, 7], [(6, (.b .bool))]⟩) (.one (.seq none (.seq none .nil (.cond .nil .nil)) (.seq none .nil (.one (.loop ⟨[0, 1, 5, 7], [(6, (.b .bool)), (8, (.b (.int .i64)))]⟩ (.seq none (.seq none .nil (.cond .nil .nil)) (.seq (some ⟨[0, 1, 5, 7, 8], [(6, (.b .bool))]⟩) (.one (.seq none .nil (.seq none .nil (.cond (.seq none .nil .nil) .nil)))) .nil))))))) .nil))))))))))) (.seq none .nil .nil))))))
def L_intaglioref14_Graph_All (p0 : Option Addr) (p1 : Int) (R : Value → World → Prop) (w : World) : Prop :=
  callR Try.prog 97 #[(.pointer p0)] w fun v1 w1 =>
  ∃ x2 : Int, v1 = (.int .i64 x2) ∧
  (0 ≤ x2 ∧ x2 ≤ x2 ∧ (1 : Int) * x2 ≤ 281474976710656 ∧ x2 ≤ 9223372036854775807) ∧
  Nw (w1.alloc (.cells (madeCells #[(.bool false)] ((Int.toNat x2) * 1)) 4)) fun w2 =>
  JoinW (S := Unit) (fun m3 =>
      callR Try.prog 97 #[(.pointer p0)] w2 fun v5 w3 =>
      ∃ x6 : Int, v5 = (.int .i64 x6) ∧
      ifB (x6 == (0 : Int))
        (R (.slice (some (blk w1.heap.size)) (Int.toNat x2) (Int.toNat x2)) w3)
        (ifB (p1 == (0 : Int))
          (R (.slice (some (blk w1.heap.size)) (Int.toNat x2) (Int.toNat x2)) w3)
          (m3 (()) w3)))
    (fun s4 w4 =>
      (0 ≤ (0 : Int) ∧ (0 : Int) < ((Int.toNat x2) : Int)) ∧
      Wr w4 ((blk w1.heap.size).add 0) ∧
      Nw (w4.setCell ((blk w1.heap.size).add 0) (.bool true)) fun w5 =>
      LoopW (S := Bool × Unit) (fun s7 w6 n8 =>
          ifB s7.1
            (LoopW (S := Bool × Int × Unit) (fun s9 w7 n10 =>
                callR Try.prog 97 #[(.pointer p0)] w7 fun v11 w8 =>
                ∃ x12 : Int, v11 = (.int .i64 x12) ∧
                ifB (decide (s9.2.1 < x12))
                  (JoinW (S := Bool × Unit) (fun m13 =>
                      (0 ≤ s9.2.1 ∧ s9.2.1 < ((Int.toNat x2) : Int)) ∧
                      ldB w8 ((blk w1.heap.size).add (Int.toNat s9.2.1)) fun x15 =>
                      ifB (!x15)
                        (m13 (s9.1, ()) w8)
                        (LoopW (S := Bool × Int × Unit) (fun s16 w9 n17 =>
                            derefP p0 fun a18 =>
                            ldS w9 a18 fun x19 =>
                            (0 ≤ s9.2.1 ∧ s9.2.1 < (x19.l : Int)) ∧
                            derefP x19.a fun a20 =>
                            ldS w9 (a20.add (Int.toNat s9.2.1)) fun x21 =>
                            ifB (decide (s16.2.1 < (x21.l : Int)))
                              (JoinW (S := Bool × Unit) (fun m22 =>
                                  derefP p0 fun a24 =>
                                  ldS w9 a24 fun x25 =>
                                  (0 ≤ s9.2.1 ∧ s9.2.1 < (x25.l : Int)) ∧
                                  derefP x25.a fun a26 =>
                                  ldS w9 (a26.add (Int.toNat s9.2.1)) fun x27 =>
                                  (0 ≤ s16.2.1 ∧ s16.2.1 < (x27.l : Int)) ∧
                                  derefP x27.a fun a28 =>
                                  ldI w9 (a28.add (Int.toNat s16.2.1)) .i64 fun x29 =>
                                  ifB (x29 != p1)
                                    ((0 ≤ x29 ∧ x29 < ((Int.toNat x2) : Int)) ∧
                                    ldB w9 ((blk w1.heap.size).add (Int.toNat x29)) fun x30 =>
                                    ifB (!x30)
                                      ((0 ≤ x29 ∧ x29 < ((Int.toNat x2) : Int)) ∧
                                      Wr w9 ((blk w1.heap.size).add (Int.toNat x29)) ∧
                                      Nw (w9.setCell ((blk w1.heap.size).add (Int.toNat x29)) (.bool true)) fun w10 =>
                                      m22 (true, ()) w10)
                                      (m22 (s16.1, ()) w9))
                                    (m22 (s16.1, ()) w9))
                                (fun s23 w11 =>
                                  n17 (s23.1, (IntKind.i64.wrap (s16.2.1 + (1 : Int))), ()) w11))
                              (m13 (s16.1, ()) w9))
                          (s9.1, (0 : Int), ()) w8))
                    (fun s14 w12 =>
                      n10 (s14.1, (IntKind.i64.wrap (s9.2.1 + (1 : Int))), ()) w12))
                  (n8 (s9.1, ()) w8))
              (false, (0 : Int), ()) w6)
            (R (.slice (some (blk w1.heap.size)) (Int.toNat x2) (Int.toNat x2)) w6))
        (true, ()) w5)
theorem intaglioref14_Graph_All_calls (p0 : Option Addr) (p1 : Int) (R : Value → World → Prop) (w : World) (h : L_intaglioref14_Graph_All p0 p1 R w) : Calls Try.prog 149 #[(.pointer p0), (.int .i64 p1)] w (Ret R) :=
  lw_calls (fs := Try.fs) (an := a_intaglioref14_Graph_All) (args := [(.pointer p0), (.int .i64 p1)]) Try.fsOK Try.mixed Try.func149 (by kernel_rfl) (by kernel_rfl)
    (Eq.mpr (by kernel_rfl : lwFn Try.prog Try.fs Try.f149 a_intaglioref14_Graph_All [(.pointer p0), (.int .i64 p1)] w R = L_intaglioref14_Graph_All p0 p1 R w) h)

end Go.Proofs
