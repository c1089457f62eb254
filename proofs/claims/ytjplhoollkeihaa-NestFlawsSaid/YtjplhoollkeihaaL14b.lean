/-
  Printed by a program of the author: what each function comes to.
-/
import Derived.Test.YtjplhoollkeihaaProg
import Derived.Test.YtjplhoollkeihaaGkR
import Derived.Test.YtjplhoollkeihaaLb
namespace Go.Proofs
open Go.Gk
set_option linter.unusedVariables false
set_option maxRecDepth 100000

/-- intaglio.intagliolaw14.GraphWalk -/
def a_intagliolaw14_GraphWalk : Ann := (.seq none .nil (.seq none .nil (.seq none .nil (.seq none (.seq none .nil (.cond (.seq none .nil .nil) .nil)) (.seq none .nil (.seq none .nil (.seq none (.seq none .nil (.cond (.seq none .nil .nil) .nil)) (.seq none .nil (.seq (some ⟨[3, 4, 9, 10, 11], []⟩) (.seq none .nil (.one (.loop ⟨[], [(35, (.b (.int .i64)))]⟩ (.seq none .nil (.one (.seq (some ⟨[3, 11], []⟩) (.seq none .nil (.cond (.seq none .nil .nil) .nil)) (.seq none .nil (.seq none .nil (.cond .nil .nil))))))))) (.seq (some ⟨[4, 9, 10, 11], []⟩) (.seq none .nil (.cond (.seq none .nil .nil) .nil)) (.seq none .nil (.seq none (.seq none .nil (.one (.loop ⟨[], [(63, (.b (.int .i64)))]⟩ (.seq none .nil (.one (.seq (some ⟨[11], []⟩) (.seq none .nil (.cond (.seq none .nil .nil) .nil)) .nil)))))) (.seq none .nil .nil)))))))))))))
def L_intagliolaw14_GraphWalk (p0 : Sl) (p1 : Int) (R : Value → World → Prop) (w : World) : Prop :=
  Nw (w.alloc (.cells #[(.int .i64 p1)] 3)) fun w1 =>
  Nw (w1.alloc (.cells #[(.bool false)] 4)) fun w2 =>
  callR Try.prog 26 #[(.slice p0.a p0.l p0.c)] w2 fun v1 w3 =>
  ∃ x2 : Option Addr, ∃ x3 : Int, v1 = (.tuple #[(.pointer x2), (.int .i64 x3)]) ∧
  callR Try.prog 27 #[(.slice p0.a p0.l p0.c)] w3 fun v4 w4 =>
  ∃ x5 : Sl, v4 = (.slice x5.a x5.l x5.c) ∧
  callR Try.prog 28 #[(.slice x5.a x5.l x5.c)] w4 fun v6 w5 =>
  ∃ x7 : Option Addr, ∃ x8 : Int, v6 = (.tuple #[(.pointer x7), (.int .i64 x8)]) ∧
  ifB (x8 != x3)
    (Wr w5 (blk w1.heap.size) ∧
    Nw (w5.setCell (blk w1.heap.size) (.bool false)) fun w6 =>
    ldB w6 (blk w1.heap.size) fun x9 =>
    R (.bool x9) w6)
    (callR Try.prog 40 #[(.pointer x2)] w5 fun v10 w7 =>
    ∃ x11 : Sl, v10 = (.slice x11.a x11.l x11.c) ∧
    Nw (w7.alloc (.cells #[(.slice none 0 0)] 32)) fun w8 =>
    Wr w8 (blk w7.heap.size) ∧
    Nw (w8.setCell (blk w7.heap.size) (.slice x11.a x11.l x11.c)) fun w9 =>
    callR Try.prog 41 #[(.pointer x7)] w9 fun v12 w10 =>
    ∃ x13 : Value, v12 = x13 ∧
    funcNil x13 fun b14 =>
    ifB b14
      (Wr w10 (blk w1.heap.size) ∧
      Nw (w10.setCell (blk w1.heap.size) (.bool false)) fun w11 =>
      ldB w11 (blk w1.heap.size) fun x15 =>
      R (.bool x15) w11)
      (Nw (w10.alloc (.cells #[(.int .i64 (0 : Int))] 3)) fun w12 =>
      Wr w12 (blk w10.heap.size) ∧
      Nw (w12.setCell (blk w10.heap.size) (.int .i64 (0 : Int))) fun w13 =>
      JoinW (S := (Unit) × List Nat) (fun m16 =>
          RangeW Try.prog Try.fs x13 w13 (T := Int × Unit) (fun s18 => [(.int .i64 s18.1)])
            (fun mk19 l20 s18 w14 S21 =>
              w14.heap[l20]? = some (mk19 .ready none) ∧
              Nw (w14.putObj l20 (mk19 .busy none)) fun w15 =>
              JoinW (S := Unit) (fun m23 =>
                  ldI w15 (blk w10.heap.size) .i64 fun x25 =>
                  ldS w15 (blk w7.heap.size) fun x26 =>
                  ifB (decide (x25 ≥ (x26.l : Int)))
                    (Wr w15 (blk w1.heap.size) ∧
                    Nw (w15.setCell (blk w1.heap.size) (.bool false)) fun w16 =>
                    w16.heap[l20]? = some (mk19 .busy none) ∧
                    S21 (.bool false) (w16.putObj l20 (mk19 .done (some .ret))))
                    (ldS w15 (blk w7.heap.size) fun x27 =>
                    ldI w15 (blk w10.heap.size) .i64 fun x28 =>
                    (0 ≤ x28 ∧ x28 < (x27.l : Int)) ∧
                    derefP x27.a fun a29 =>
                    ldI w15 (a29.add (Int.toNat x28)) .i64 fun x30 =>
                    ifB (s18.1 != x30)
                      (Wr w15 (blk w1.heap.size) ∧
                      Nw (w15.setCell (blk w1.heap.size) (.bool false)) fun w17 =>
                      w17.heap[l20]? = some (mk19 .busy none) ∧
                      S21 (.bool false) (w17.putObj l20 (mk19 .done (some .ret))))
                      (m23 (()) w15)))
                (fun s24 w18 =>
                  ldI w18 (blk w10.heap.size) .i64 fun x31 =>
                  Wr w18 (blk w10.heap.size) ∧
                  Nw (w18.setCell (blk w10.heap.size) (.int .i64 (IntKind.i64.wrap (x31 + (1 : Int))))) fun w19 =>
                  ldI w19 (blk w10.heap.size) .i64 fun x32 =>
                  ldI w19 (blk w.heap.size) .i64 fun x33 =>
                  ifB (x32 == x33)
                    (w19.heap[l20]? = some (mk19 .busy none) ∧
                    S21 (.bool false) (w19.putObj l20 (mk19 .done (some (.exit 0)))))
                    (w19.heap[l20]? = some (mk19 .busy none) ∧
                    S21 (.bool true) (w19.putObj l20 (mk19 .ready none)))))
            (fun mk19 l20 d22 w20 =>
              (rangeOut mk19 l20 .ready none w20 fun w21 =>
                m16 ((()), d22 :: []) w21) ∨
              (rangeOut mk19 l20 .done (some .ret) w20 fun w22 =>
                closeM (d22 :: []) w22 fun w23 =>
                ldB w23 (blk w1.heap.size) fun x34 =>
                R (.bool x34) w23) ∨
              (rangeOut mk19 l20 .done (some (.exit 0)) w20 fun w24 =>
                m16 ((()), d22 :: []) w24)))
        (fun s17 w25 =>
          JoinW (S := Unit) (fun m35 =>
              ldI w25 (blk w10.heap.size) .i64 fun x37 =>
              ldS w25 (blk w7.heap.size) fun x38 =>
              ifB (x37 != (x38.l : Int))
                (ldI w25 (blk w10.heap.size) .i64 fun x39 =>
                ldI w25 (blk w.heap.size) .i64 fun x40 =>
                ifB (x39 != x40)
                  (Wr w25 (blk w1.heap.size) ∧
                  Nw (w25.setCell (blk w1.heap.size) (.bool false)) fun w26 =>
                  closeM (s17.2) w26 fun w27 =>
                  ldB w27 (blk w1.heap.size) fun x41 =>
                  R (.bool x41) w27)
                  (m35 (()) w25))
                (m35 (()) w25))
            (fun s36 w28 =>
              Wr w28 (blk w10.heap.size) ∧
              Nw (w28.setCell (blk w10.heap.size) (.int .i64 (0 : Int))) fun w29 =>
              RangeW Try.prog Try.fs x13 w29 (T := Int × Unit) (fun s42 => [(.int .i64 s42.1)])
                (fun mk43 l44 s42 w30 S45 =>
                  w30.heap[l44]? = some (mk43 .ready none) ∧
                  Nw (w30.putObj l44 (mk43 .busy none)) fun w31 =>
                  JoinW (S := Unit) (fun m47 =>
                      ldI w31 (blk w10.heap.size) .i64 fun x49 =>
                      ldS w31 (blk w7.heap.size) fun x50 =>
                      ifB (decide (x49 ≥ (x50.l : Int)))
                        (Wr w31 (blk w1.heap.size) ∧
                        Nw (w31.setCell (blk w1.heap.size) (.bool false)) fun w32 =>
                        w32.heap[l44]? = some (mk43 .busy none) ∧
                        S45 (.bool false) (w32.putObj l44 (mk43 .done (some .ret))))
                        (ldS w31 (blk w7.heap.size) fun x51 =>
                        ldI w31 (blk w10.heap.size) .i64 fun x52 =>
                        (0 ≤ x52 ∧ x52 < (x51.l : Int)) ∧
                        derefP x51.a fun a53 =>
                        ldI w31 (a53.add (Int.toNat x52)) .i64 fun x54 =>
                        ifB (s42.1 != x54)
                          (Wr w31 (blk w1.heap.size) ∧
                          Nw (w31.setCell (blk w1.heap.size) (.bool false)) fun w33 =>
                          w33.heap[l44]? = some (mk43 .busy none) ∧
                          S45 (.bool false) (w33.putObj l44 (mk43 .done (some .ret))))
                          (m47 (()) w31)))
                    (fun s48 w34 =>
                      ldI w34 (blk w10.heap.size) .i64 fun x55 =>
                      Wr w34 (blk w10.heap.size) ∧
                      Nw (w34.setCell (blk w10.heap.size) (.int .i64 (IntKind.i64.wrap (x55 + (1 : Int))))) fun w35 =>
                      w35.heap[l44]? = some (mk43 .busy none) ∧
                      S45 (.bool true) (w35.putObj l44 (mk43 .ready none))))
                (fun mk43 l44 d46 w36 =>
                  (rangeOut mk43 l44 .ready none w36 fun w37 =>
                    ldI w37 (blk w10.heap.size) .i64 fun x56 =>
                    ldS w37 (blk w7.heap.size) fun x57 =>
                    ifB (x56 == (x57.l : Int))
                      (callR Try.prog 32 #[] w37 fun v58 w38 =>
                      ∃ x59 : Bool, v58 = (.bool x59) ∧
                      Wr w38 (blk w1.heap.size) ∧
                      Nw (w38.setCell (blk w1.heap.size) (.bool x59)) fun w39 =>
                      closeM (d46 :: s17.2) w39 fun w40 =>
                      ldB w40 (blk w1.heap.size) fun x60 =>
                      R (.bool x60) w40)
                      (Wr w37 (blk w1.heap.size) ∧
                      Nw (w37.setCell (blk w1.heap.size) (.bool false)) fun w41 =>
                      closeM (d46 :: s17.2) w41 fun w42 =>
                      ldB w42 (blk w1.heap.size) fun x61 =>
                      R (.bool x61) w42)) ∨
                  (rangeOut mk43 l44 .done (some .ret) w36 fun w43 =>
                    closeM (d46 :: s17.2) w43 fun w44 =>
                    ldB w44 (blk w1.heap.size) fun x62 =>
                    R (.bool x62) w44))))))
theorem intagliolaw14_GraphWalk_calls (p0 : Sl) (p1 : Int) (R : Value → World → Prop) (w : World) (h : L_intagliolaw14_GraphWalk p0 p1 R w) : Calls Try.prog 6 #[(.slice p0.a p0.l p0.c), (.int .i64 p1)] w (Ret R) :=
  lwR_calls (fs := Try.fs) (an := a_intagliolaw14_GraphWalk) (args := [(.slice p0.a p0.l p0.c), (.int .i64 p1)]) Try.fsOK Try.mixed Try.func6 (by kernel_rfl) (by kernel_rfl)
    (Eq.mpr (by kernel_rfl : lwRFn Try.prog Try.fs Try.f6 a_intagliolaw14_GraphWalk [(.slice p0.a p0.l p0.c), (.int .i64 p1)] w R = L_intagliolaw14_GraphWalk p0 p1 R w) h)

/-- intaglio.intagliolaw14.GraphNil -/
def a_intagliolaw14_GraphNil : Ann := (.seq none .nil (.seq none .nil (.seq none .nil (.seq none .nil (.seq none (.seq none .nil (.cond (.seq none .nil .nil) .nil)) (.seq none (.seq none .nil (.one (.loop ⟨[], [(11, (.b (.int .i64)))]⟩ (.seq none .nil (.one .nil))))) (.seq none .nil .nil)))))))
def L_intagliolaw14_GraphNil (p0 : Int) (R : Value → World → Prop) (w : World) : Prop :=
  Nw (w.alloc (.cells #[(.int .i64 (0 : Int))] 3)) fun w1 =>
  Wr w1 (blk w.heap.size) ∧
  Nw (w1.setCell (blk w.heap.size) (.int .i64 (0 : Int))) fun w2 =>
  callR Try.prog 41 #[(.pointer none)] w2 fun v1 w3 =>
  ∃ x2 : Value, v1 = x2 ∧
  funcNil x2 fun b3 =>
  ifB b3
    (R (.bool false) w3)
    (RangeW Try.prog Try.fs x2 w3 (T := Int × Unit) (fun s4 => [(.int .i64 s4.1)])
      (fun mk5 l6 s4 w4 S7 =>
        w4.heap[l6]? = some (mk5 .ready none) ∧
        Nw (w4.putObj l6 (mk5 .busy none)) fun w5 =>
        ldI w5 (blk w.heap.size) .i64 fun x9 =>
        Wr w5 (blk w.heap.size) ∧
        Nw (w5.setCell (blk w.heap.size) (.int .i64 (IntKind.i64.wrap (x9 + (1 : Int))))) fun w6 =>
        w6.heap[l6]? = some (mk5 .busy none) ∧
        S7 (.bool true) (w6.putObj l6 (mk5 .ready none)))
      (fun mk5 l6 d8 w7 =>
        rangeOut mk5 l6 .ready none w7 fun w8 =>
          ldI w8 (blk w.heap.size) .i64 fun x10 =>
          ifB (x10 == (0 : Int))
            (callR Try.prog 33 #[(.pointer none)] w8 fun v11 w9 =>
            ∃ x12 : Int, v11 = (.int .i64 x12) ∧
            ifB (x12 == (0 : Int))
              (callR Try.prog 34 #[(.pointer none), (.int .i64 p0)] w9 fun v13 w10 =>
              ∃ x14 : Sl, v13 = (.slice x14.a x14.l x14.c) ∧
              ifB ((x14.l : Int) == (0 : Int))
                (callR Try.prog 36 #[(.pointer none), (.int .i64 p0)] w10 fun v15 w11 =>
                ∃ x16 : Sl, v15 = (.slice x16.a x16.l x16.c) ∧
                ifB ((x16.l : Int) == (0 : Int))
                  (callR Try.prog 38 #[(.pointer none), (.int .i64 p0)] w11 fun v17 w12 =>
                  ∃ x18 : Bool, v17 = (.bool x18) ∧
                  ifB (!x18)
                    (callR Try.prog 37 #[(.pointer none)] w12 fun v19 w13 =>
                    ∃ x20 : Sl, v19 = (.slice x20.a x20.l x20.c) ∧
                    ifB ((x20.l : Int) == (0 : Int))
                      (callR Try.prog 32 #[] w13 fun v21 w14 =>
                      ∃ x22 : Bool, v21 = (.bool x22) ∧
                      closeM (d8 :: []) w14 fun w15 =>
                      R (.bool x22) w15)
                      (closeM (d8 :: []) w13 fun w16 =>
                      R (.bool false) w16))
                    (closeM (d8 :: []) w12 fun w17 =>
                    R (.bool false) w17))
                  (closeM (d8 :: []) w11 fun w18 =>
                  R (.bool false) w18))
                (closeM (d8 :: []) w10 fun w19 =>
                R (.bool false) w19))
              (closeM (d8 :: []) w9 fun w20 =>
              R (.bool false) w20))
            (closeM (d8 :: []) w8 fun w21 =>
            R (.bool false) w21)))
theorem intagliolaw14_GraphNil_calls (p0 : Int) (R : Value → World → Prop) (w : World) (h : L_intagliolaw14_GraphNil p0 R w) : Calls Try.prog 7 #[(.int .i64 p0)] w (Ret R) :=
  lwR_calls (fs := Try.fs) (an := a_intagliolaw14_GraphNil) (args := [(.int .i64 p0)]) Try.fsOK Try.mixed Try.func7 (by kernel_rfl) (by kernel_rfl)
    (Eq.mpr (by kernel_rfl : lwRFn Try.prog Try.fs Try.f7 a_intagliolaw14_GraphNil [(.int .i64 p0)] w R = L_intagliolaw14_GraphNil p0 R w) h)

/-- intaglio.intagliolaw14.GraphReaches -/
def a_intagliolaw14_GraphReaches : Ann := (.seq none .nil (.seq none .nil (.seq none (.seq none .nil (.cond (.seq none .nil .nil) .nil)) (.seq none .nil (.seq none .nil (.seq none (.seq none .nil (.cond (.seq none .nil .nil) .nil)) (.seq none (.seq none .nil (.one (.loop ⟨[], [(34, (.b (.int .i64)))]⟩ (.seq none .nil (.one (.seq (some ⟨[2, 3, 5, 7], []⟩) (.seq none .nil (.cond (.seq none .nil .nil) .nil)) (.seq (some ⟨[2, 3, 5, 7], []⟩) (.seq none .nil (.cond (.seq none .nil .nil) .nil)) (.seq none .nil (.seq none .nil (.seq none (.seq none .nil (.one (.loop ⟨[2, 5, 7, 8], [(9, (.b .bool)), (10, (.b (.int .i64)))]⟩ (.seq none (.seq none .nil (.cond .nil .nil)) (.seq (some ⟨[2, 5, 7, 8, 10], [(9, (.b .bool))]⟩) (.one .nil) .nil))))) (.seq none (.seq none .nil (.cond (.seq none .nil .nil) .nil)) .nil))))))))))) (.seq none .nil (.seq (some ⟨[2, 3, 5, 11], []⟩) (.seq none .nil (.cond (.seq none .nil .nil) .nil)) (.seq none (.seq none .nil (.one (.loop ⟨[2, 3, 5, 11], [(12, (.b (.int .i64)))]⟩ (.seq none (.seq none .nil (.cond .nil .nil)) (.seq none (.one (.seq none .nil (.seq (some ⟨[2, 3, 5, 11, 12, 13], []⟩) (.seq none .nil (.cond (.seq none .nil .nil) .nil)) (.seq none .nil (.seq none .nil (.one (.loop ⟨[2, 3, 5, 11, 12, 13, 14], [(15, (.b (.int .i64)))]⟩ (.seq none (.seq none .nil (.cond .nil .nil)) (.seq (some ⟨[2, 3, 5, 11, 12, 13, 14, 15], []⟩) (.one (.seq none .nil (.cond (.seq none .nil .nil) .nil))) .nil))))))))) .nil))))) (.seq none .nil .nil)))))))))))
def L_intagliolaw14_GraphReaches (p0 : Sl) (R : Value → World → Prop) (w : World) : Prop :=
  Nw (w.alloc (.cells #[(.bool false)] 4)) fun w1 =>
  callR Try.prog 27 #[(.slice p0.a p0.l p0.c)] w1 fun v1 w2 =>
  ∃ x2 : Sl, v1 = (.slice x2.a x2.l x2.c) ∧
  callR Try.prog 28 #[(.slice x2.a x2.l x2.c)] w2 fun v3 w3 =>
  ∃ x4 : Option Addr, ∃ x5 : Int, v3 = (.tuple #[(.pointer x4), (.int .i64 x5)]) ∧
  Nw (w3.alloc (.cells #[(.pointer none)] 28)) fun w4 =>
  Wr w4 (blk w3.heap.size) ∧
  Nw (w4.setCell (blk w3.heap.size) (.pointer x4)) fun w5 =>
  ifB (x5 != (0 : Int))
    (ldP w5 (blk w3.heap.size) fun x6 =>
    ifB (Option.isNone x6)
      (callR Try.prog 32 #[] w5 fun v7 w6 =>
      ∃ x8 : Bool, v7 = (.bool x8) ∧
      Wr w6 (blk w.heap.size) ∧
      Nw (w6.setCell (blk w.heap.size) (.bool x8)) fun w7 =>
      ldB w7 (blk w.heap.size) fun x9 =>
      R (.bool x9) w7)
      (Wr w5 (blk w.heap.size) ∧
      Nw (w5.setCell (blk w.heap.size) (.bool false)) fun w8 =>
      ldB w8 (blk w.heap.size) fun x10 =>
      R (.bool x10) w8))
    (Nw (w5.alloc (.cells #[(.slice none 0 0)] 32)) fun w9 =>
    ldP w9 (blk w3.heap.size) fun x11 =>
    callR Try.prog 41 #[(.pointer x11)] w9 fun v12 w10 =>
    ∃ x13 : Value, v12 = x13 ∧
    funcNil x13 fun b14 =>
    ifB b14
      (Wr w10 (blk w.heap.size) ∧
      Nw (w10.setCell (blk w.heap.size) (.bool false)) fun w11 =>
      ldB w11 (blk w.heap.size) fun x15 =>
      R (.bool x15) w11)
      (RangeW Try.prog Try.fs x13 w10 (T := Int × Unit) (fun s16 => [(.int .i64 s16.1)])
        (fun mk17 l18 s16 w12 S19 =>
          w12.heap[l18]? = some (mk17 .ready none) ∧
          Nw (w12.putObj l18 (mk17 .busy none)) fun w13 =>
          JoinW (S := Unit) (fun m21 =>
              ldS w13.drew (blk w5.heap.size) fun x23 =>
              callR Try.prog 35 #[(.slice x23.a x23.l x23.c), (.int .i64 s16.1)] w13.drew fun v24 w14 =>
              ∃ x25 : Bool, v24 = (.bool x25) ∧
              ifB x25
                (Wr w14 (blk w.heap.size) ∧
                Nw (w14.setCell (blk w.heap.size) (.bool false)) fun w15 =>
                w15.heap[l18]? = some (mk17 .busy none) ∧
                S19 (.bool false) (w15.putObj l18 (mk17 .done (some .ret))))
                (ldS w14 (blk w5.heap.size) fun x26 =>
                ldP w14 (blk w3.heap.size) fun x27 =>
                callR Try.prog 33 #[(.pointer x27)] w14 fun v28 w16 =>
                ∃ x29 : Int, v28 = (.int .i64 x29) ∧
                w16.cell? (blk w5.heap.size) = some (.slice x26.a x26.l x26.c) ∧
                ifB (decide ((x26.l : Int) ≥ x29))
                  (Wr w16 (blk w.heap.size) ∧
                  Nw (w16.setCell (blk w.heap.size) (.bool false)) fun w17 =>
                  w17.heap[l18]? = some (mk17 .busy none) ∧
                  S19 (.bool false) (w17.putObj l18 (mk17 .done (some .ret))))
                  (m21 (()) w16)))
            (fun s22 w18 =>
              JoinW (S := Unit) (fun m30 =>
                  ldS w18 (blk w5.heap.size) fun x32 =>
                  ifB ((x32.l : Int) == (0 : Int))
                    (ifB (s16.1 != (0 : Int))
                      (Wr w18 (blk w.heap.size) ∧
                      Nw (w18.setCell (blk w.heap.size) (.bool false)) fun w19 =>
                      w19.heap[l18]? = some (mk17 .busy none) ∧
                      S19 (.bool false) (w19.putObj l18 (mk17 .done (some .ret))))
                      (m30 (()) w18))
                    (m30 (()) w18))
                (fun s31 w20 =>
                  ldP w20 (blk w3.heap.size) fun x33 =>
                  callR Try.prog 36 #[(.pointer x33), (.int .i64 s16.1)] w20 fun v34 w21 =>
                  ∃ x35 : Sl, v34 = (.slice x35.a x35.l x35.c) ∧
                  ldS w21 (blk w5.heap.size) fun x36 =>
                  LoopW (S := Bool × Int × Unit) (fun s37 w22 n38 =>
                      ifB (decide (s37.2.1 < (x35.l : Int)))
                        (JoinW (S := Bool × Unit) (fun m39 =>
                            ifB s37.1
                              (m39 (true, ()) w22.drew)
                              (ldS w22.drew (blk w5.heap.size) fun x41 =>
                              (0 ≤ s37.2.1 ∧ s37.2.1 < (x35.l : Int)) ∧
                              derefP x35.a fun a42 =>
                              ldI w22.drew (a42.add (Int.toNat s37.2.1)) .i64 fun x43 =>
                              callR Try.prog 35 #[(.slice x41.a x41.l x41.c), (.int .i64 x43)] w22.drew fun v44 w23 =>
                              ∃ x45 : Bool, v44 = (.bool x45) ∧
                              m39 (x45, ()) w23))
                          (fun s40 w24 =>
                            n38 (s40.1, (IntKind.i64.wrap (s37.2.1 + (1 : Int))), ()) w24))
                        (ifB (!s37.1)
                          (Wr w22 (blk w.heap.size) ∧
                          Nw (w22.setCell (blk w.heap.size) (.bool false)) fun w25 =>
                          w25.heap[l18]? = some (mk17 .busy none) ∧
                          S19 (.bool false) (w25.putObj l18 (mk17 .done (some .ret))))
                          (ldS w22 (blk w5.heap.size) fun x46 =>
                          Nw (w22.alloc (.cells #[(.int .i64 s16.1)] 3)) fun w26 =>
                          appendS Try.prog 32 (.slice x46.a x46.l x46.c) (.slice (some (blk w22.heap.size)) 1 1) w26 fun r47 w27 =>
                          Wr w27 (blk w5.heap.size) ∧
                          Nw (w27.setCell (blk w5.heap.size) (.slice r47.a r47.l r47.c)) fun w28 =>
                          w28.heap[l18]? = some (mk17 .busy none) ∧
                          S19 (.bool true) (w28.putObj l18 (mk17 .ready none)))))
                    (((x36.l : Int) == (0 : Int)), (0 : Int), ()) w21)))
        (fun mk17 l18 d20 w29 =>
          (rangeOut mk17 l18 .ready none w29 fun w30 =>
            ldP w30 (blk w3.heap.size) fun x48 =>
            callR Try.prog 37 #[(.pointer x48)] w30 fun v49 w31 =>
            ∃ x50 : Sl, v49 = (.slice x50.a x50.l x50.c) ∧
            JoinW (S := Unit) (fun m51 =>
                ldS w31 (blk w5.heap.size) fun x53 =>
                ifB ((x50.l : Int) != (x53.l : Int))
                  (Wr w31 (blk w.heap.size) ∧
                  Nw (w31.setCell (blk w.heap.size) (.bool false)) fun w32 =>
                  closeM (d20 :: []) w32 fun w33 =>
                  ldB w33 (blk w.heap.size) fun x54 =>
                  R (.bool x54) w33)
                  (ifB ((x50.l : Int) == (0 : Int))
                    (Wr w31 (blk w.heap.size) ∧
                    Nw (w31.setCell (blk w.heap.size) (.bool false)) fun w34 =>
                    closeM (d20 :: []) w34 fun w35 =>
                    ldB w35 (blk w.heap.size) fun x55 =>
                    R (.bool x55) w35)
                    ((0 ≤ (0 : Int) ∧ (0 : Int) < (x50.l : Int)) ∧
                    derefP x50.a fun a56 =>
                    ldI w31 (a56.add 0) .i64 fun x57 =>
                    ifB (x57 != (0 : Int))
                      (Wr w31 (blk w.heap.size) ∧
                      Nw (w31.setCell (blk w.heap.size) (.bool false)) fun w36 =>
                      closeM (d20 :: []) w36 fun w37 =>
                      ldB w37 (blk w.heap.size) fun x58 =>
                      R (.bool x58) w37)
                      (m51 (()) w31))))
              (fun s52 w38 =>
                LoopW (S := Int × Unit) (fun s59 w39 n60 =>
                    ldP w39 (blk w3.heap.size) fun x61 =>
                    callR Try.prog 33 #[(.pointer x61)] w39 fun v62 w40 =>
                    ∃ x63 : Int, v62 = (.int .i64 x63) ∧
                    ifB (decide (s59.1 < x63))
                      (ldS w40 (blk w5.heap.size) fun x64 =>
                      callR Try.prog 35 #[(.slice x64.a x64.l x64.c), (.int .i64 s59.1)] w40 fun v65 w41 =>
                      ∃ x66 : Bool, v65 = (.bool x66) ∧
                      JoinW (S := Unit) (fun m67 =>
                          callR Try.prog 35 #[(.slice x50.a x50.l x50.c), (.int .i64 s59.1)] w41 fun v69 w42 =>
                          ∃ x70 : Bool, v69 = (.bool x70) ∧
                          ifB (!(x66 == x70))
                            (Wr w42 (blk w.heap.size) ∧
                            Nw (w42.setCell (blk w.heap.size) (.bool false)) fun w43 =>
                            closeM (d20 :: []) w43 fun w44 =>
                            ldB w44 (blk w.heap.size) fun x71 =>
                            R (.bool x71) w44)
                            (ldP w42 (blk w3.heap.size) fun x72 =>
                            callR Try.prog 38 #[(.pointer x72), (.int .i64 s59.1)] w42 fun v73 w45 =>
                            ∃ x74 : Bool, v73 = (.bool x74) ∧
                            ifB (!(x66 == x74))
                              (Wr w45 (blk w.heap.size) ∧
                              Nw (w45.setCell (blk w.heap.size) (.bool false)) fun w46 =>
                              closeM (d20 :: []) w46 fun w47 =>
                              ldB w47 (blk w.heap.size) fun x75 =>
                              R (.bool x75) w47)
                              (m67 (()) w45)))
                        (fun s68 w48 =>
                          ldP w48 (blk w3.heap.size) fun x76 =>
                          callR Try.prog 34 #[(.pointer x76), (.int .i64 s59.1)] w48 fun v77 w49 =>
                          ∃ x78 : Sl, v77 = (.slice x78.a x78.l x78.c) ∧
                          LoopW (S := Int × Unit) (fun s79 w50 n80 =>
                              ifB (decide (s79.1 < (x78.l : Int)))
                                (JoinW (S := Unit) (fun m81 =>
                                    ifB x66
                                      (ldS w50.drew (blk w5.heap.size) fun x83 =>
                                      (0 ≤ s79.1 ∧ s79.1 < (x78.l : Int)) ∧
                                      derefP x78.a fun a84 =>
                                      ldI w50.drew (a84.add (Int.toNat s79.1)) .i64 fun x85 =>
                                      callR Try.prog 35 #[(.slice x83.a x83.l x83.c), (.int .i64 x85)] w50.drew fun v86 w51 =>
                                      ∃ x87 : Bool, v86 = (.bool x87) ∧
                                      ifB (!x87)
                                        (Wr w51 (blk w.heap.size) ∧
                                        Nw (w51.setCell (blk w.heap.size) (.bool false)) fun w52 =>
                                        closeM (d20 :: []) w52 fun w53 =>
                                        ldB w53 (blk w.heap.size) fun x88 =>
                                        R (.bool x88) w53)
                                        (m81 (()) w51))
                                      (m81 (()) w50.drew))
                                  (fun s82 w54 =>
                                    n80 ((IntKind.i64.wrap (s79.1 + (1 : Int))), ()) w54))
                                (n60 ((IntKind.i64.wrap (s59.1 + (1 : Int))), ()) w50))
                            ((0 : Int), ()) w49))
                      (callR Try.prog 32 #[] w40 fun v89 w55 =>
                      ∃ x90 : Bool, v89 = (.bool x90) ∧
                      Wr w55 (blk w.heap.size) ∧
                      Nw (w55.setCell (blk w.heap.size) (.bool x90)) fun w56 =>
                      closeM (d20 :: []) w56 fun w57 =>
                      ldB w57 (blk w.heap.size) fun x91 =>
                      R (.bool x91) w57))
                  ((0 : Int), ()) w38)) ∨
          (rangeOut mk17 l18 .done (some .ret) w29 fun w58 =>
            closeM (d20 :: []) w58 fun w59 =>
            ldB w59 (blk w.heap.size) fun x92 =>
            R (.bool x92) w59))))
theorem intagliolaw14_GraphReaches_calls (p0 : Sl) (R : Value → World → Prop) (w : World) (h : L_intagliolaw14_GraphReaches p0 R w) : Calls Try.prog 8 #[(.slice p0.a p0.l p0.c)] w (Ret R) :=
  lwR_calls (fs := Try.fs) (an := a_intagliolaw14_GraphReaches) (args := [(.slice p0.a p0.l p0.c)]) Try.fsOK Try.mixed Try.func8 (by kernel_rfl) (by kernel_rfl)
    (Eq.mpr (by kernel_rfl : lwRFn Try.prog Try.fs Try.f8 a_intagliolaw14_GraphReaches [(.slice p0.a p0.l p0.c)] w R = L_intagliolaw14_GraphReaches p0 R w) h)

end Go.Proofs
