/-
  Printed by a program of the author: what each function comes to.
-/
import Derived.Test.YtjplhoollkeihaaProg
import Derived.Test.YtjplhoollkeihaaGkR
import Derived.Test.YtjplhoollkeihaaLb
namespace Go.Proofs
open Go.Gk
set_option linter.unusedVariables false
set_option maxRecDepth 100000

/-- intaglio.intagliolaw15.DomOvers -/
def a_intagliolaw15_DomOvers : Ann := (.seq none .nil (.seq none (.seq none .nil (.cond (.seq none .nil .nil) .nil)) (.seq none .nil (.seq none .nil (.seq none .nil .nil)))))
def L_intagliolaw15_DomOvers (p0 : Sl) (p1 : Int) (R : Value → World → Prop) (w : World) : Prop :=
  callR Try.prog 42 #[(.slice p0.a p0.l p0.c)] w fun v1 w1 =>
  ∃ x2 : Bool, v1 = (.bool x2) ∧
  ifB (!x2)
    (R (.bool true) w1)
    (callR Try.prog 43 #[(.slice p0.a p0.l p0.c)] w1 fun v3 w2 =>
    ∃ x4 : Option Addr, ∃ x5 : Bool, v3 = (.tuple #[(.pointer x4), (.bool x5)]) ∧
    callR Try.prog 44 #[(.slice p0.a p0.l p0.c)] w2 fun v6 w3 =>
    ∃ x7 : Sl, v6 = (.slice x7.a x7.l x7.c) ∧
    ifB x5
      (callR Try.prog 45 #[(.pointer x4), (.int .i64 p1)] w3 fun v8 w4 =>
      ∃ x9 : Int, v8 = (.int .i64 x9) ∧
      callR Try.prog 46 #[(.slice x7.a x7.l x7.c), (.int .i64 p1)] w4 fun v10 w5 =>
      ∃ x11 : Int, v10 = (.int .i64 x11) ∧
      ifB (x9 == x11)
        (callR Try.prog 47 #[(.pointer x4), (.int .i64 p1)] w5 fun v12 w6 =>
        ∃ x13 : Int, v12 = (.int .i64 x13) ∧
        callR Try.prog 48 #[(.slice x7.a x7.l x7.c), (.int .i64 p1)] w6 fun v14 w7 =>
        ∃ x15 : Int, v14 = (.int .i64 x15) ∧
        ifB (x13 == x15)
          (callR Try.prog 49 #[(.pointer x4), (.int .i64 p1)] w7 fun v16 w8 =>
          ∃ x17 : Sl, v16 = (.slice x17.a x17.l x17.c) ∧
          callR Try.prog 50 #[(.slice x7.a x7.l x7.c), (.int .i64 p1)] w8 fun v18 w9 =>
          ∃ x19 : Sl, v18 = (.slice x19.a x19.l x19.c) ∧
          callR Try.prog 29 #[(.slice x17.a x17.l x17.c), (.slice x19.a x19.l x19.c)] w9 fun v20 w10 =>
          ∃ x21 : Bool, v20 = (.bool x21) ∧
          R (.bool x21) w10)
          (R (.bool false) w7))
        (R (.bool false) w5))
      (R (.bool false) w3))
theorem intagliolaw15_DomOvers_calls (p0 : Sl) (p1 : Int) (R : Value → World → Prop) (w : World) (h : L_intagliolaw15_DomOvers p0 p1 R w) : Calls Try.prog 9 #[(.slice p0.a p0.l p0.c), (.int .i64 p1)] w (Ret R) :=
  lw_calls (fs := Try.fs) (an := a_intagliolaw15_DomOvers) (args := [(.slice p0.a p0.l p0.c), (.int .i64 p1)]) Try.fsOK Try.mixed Try.func9 (by kernel_rfl) (by kernel_rfl)
    (Eq.mpr (by kernel_rfl : lwFn Try.prog Try.fs Try.f9 a_intagliolaw15_DomOvers [(.slice p0.a p0.l p0.c), (.int .i64 p1)] w R = L_intagliolaw15_DomOvers p0 p1 R w) h)

/-- intaglio.intagliolaw15.DomDominates -/
def a_intagliolaw15_DomDominates : Ann := (.seq none .nil (.seq none (.seq none .nil (.cond (.seq none .nil .nil) .nil)) (.seq none .nil (.seq (some ⟨[0, 1, 2, 7], []⟩) (.seq none .nil (.cond (.seq none .nil .nil) .nil)) (.seq none .nil (.seq none .nil (.seq none .nil .nil)))))))
def L_intagliolaw15_DomDominates (p0 : Sl) (p1 : Int) (p2 : Int) (R : Value → World → Prop) (w : World) : Prop :=
  callR Try.prog 42 #[(.slice p0.a p0.l p0.c)] w fun v1 w1 =>
  ∃ x2 : Bool, v1 = (.bool x2) ∧
  ifB (!x2)
    (R (.bool true) w1)
    (callR Try.prog 43 #[(.slice p0.a p0.l p0.c)] w1 fun v3 w2 =>
    ∃ x4 : Option Addr, ∃ x5 : Bool, v3 = (.tuple #[(.pointer x4), (.bool x5)]) ∧
    JoinW (S := Unit) (fun m6 =>
        ifB (!x5)
          (R (.bool false) w2)
          (callR Try.prog 51 #[(.pointer x4), (.int .i64 p1), (.int .i64 p2)] w2 fun v8 w3 =>
          ∃ x9 : Bool, v8 = (.bool x9) ∧
          callR Try.prog 52 #[(.slice p0.a p0.l p0.c), (.int .i64 p1), (.int .i64 p2)] w3 fun v10 w4 =>
          ∃ x11 : Bool, v10 = (.bool x11) ∧
          ifB (!(x9 == x11))
            (R (.bool false) w4)
            (m6 (()) w4)))
      (fun s7 w5 =>
        callR Try.prog 44 #[(.slice p0.a p0.l p0.c)] w5 fun v12 w6 =>
        ∃ x13 : Sl, v12 = (.slice x13.a x13.l x13.c) ∧
        callR Try.prog 53 #[(.slice x13.a x13.l x13.c), (.int .i64 p1), (.int .i64 p2)] w6 fun v14 w7 =>
        ∃ x15 : Int, ∃ x16 : Bool, v14 = (.tuple #[(.int .i64 x15), (.bool x16)]) ∧
        callR Try.prog 54 #[(.pointer x4), (.int .i64 p1), (.int .i64 p2)] w7 fun v17 w8 =>
        ∃ x18 : Int, ∃ x19 : Bool, v17 = (.tuple #[(.int .i64 x18), (.bool x19)]) ∧
        ifB (x18 == x15)
          (R (.bool (x19 == x16)) w8)
          (R (.bool false) w8)))
theorem intagliolaw15_DomDominates_calls (p0 : Sl) (p1 : Int) (p2 : Int) (R : Value → World → Prop) (w : World) (h : L_intagliolaw15_DomDominates p0 p1 p2 R w) : Calls Try.prog 10 #[(.slice p0.a p0.l p0.c), (.int .i64 p1), (.int .i64 p2)] w (Ret R) :=
  lw_calls (fs := Try.fs) (an := a_intagliolaw15_DomDominates) (args := [(.slice p0.a p0.l p0.c), (.int .i64 p1), (.int .i64 p2)]) Try.fsOK Try.mixed Try.func10 (by kernel_rfl) (by kernel_rfl)
    (Eq.mpr (by kernel_rfl : lwFn Try.prog Try.fs Try.f10 a_intagliolaw15_DomDominates [(.slice p0.a p0.l p0.c), (.int .i64 p1), (.int .i64 p2)] w R = L_intagliolaw15_DomDominates p0 p1 p2 R w) h)

/-- intaglio.intagliolaw15.DomOrders -/
def a_intagliolaw15_DomOrders : Ann := (.seq none .nil (.seq none .nil (.seq none .nil (.seq (some ⟨[3, 4, 5, 6], []⟩) (.seq none .nil (.cond (.seq none .nil .nil) .nil)) (.seq none .nil (.seq none (.seq none .nil (.cond (.seq none .nil .nil) .nil)) (.seq none (.seq none .nil (.cond (.seq (some ⟨[4, 5, 6, 7], []⟩) (.seq none .nil (.cond (.seq none .nil .nil) .nil)) (.seq (some ⟨[4, 5, 6, 7], []⟩) (.seq none .nil (.cond (.seq none .nil .nil) .nil)) (.seq (some ⟨[4, 5, 7], []⟩) (.seq none .nil (.cond (.seq none .nil .nil) .nil)) (.seq (some ⟨[4, 5, 7], []⟩) (.seq none .nil (.cond (.seq none .nil .nil) .nil)) (.seq none .nil (.seq none .nil (.cond (.seq none .nil .nil) .nil))))))) .nil)) (.seq none .nil .nil))))))))
def L_intagliolaw15_DomOrders (p0 : (Sl × Int × Int × Int × Unit)) (R : Value → World → Prop) (w : World) : Prop :=
  Nw (w.alloc (.cells #[(.slice p0.1.a p0.1.l p0.1.c), (.int .i64 p0.2.1), (.int .i64 p0.2.2.1), (.int .i64 p0.2.2.2.1)] 61)) fun w1 =>
  ldS w1.drew (blk w.heap.size) fun x1 =>
  ldI w1.drew ((blk w.heap.size).add 1) .i64 fun x2 =>
  ldI w1.drew ((blk w.heap.size).add 2) .i64 fun x3 =>
  ldI w1.drew ((blk w.heap.size).add 3) .i64 fun x4 =>
  Nw (w1.drew.alloc (.cells #[(.int .i64 (1 : Int))] 3)) fun w2 =>
  Nw (w2.alloc (.cells #[] 3)) fun w3 =>
  Nw (w3.alloc (.cells #[(.slice (some (blk w1.drew.heap.size)) 1 1), (.slice (some (blk w2.heap.size)) 0 0)] 32)) fun w4 =>
  callR Try.prog 43 #[(.slice (some (blk w3.heap.size)) 2 2)] w4 fun v5 w5 =>
  ∃ x6 : Option Addr, ∃ x7 : Bool, v5 = (.tuple #[(.pointer x6), (.bool x7)]) ∧
  JoinW (S := Unit) (fun m8 =>
      ifB (!x7)
        (R (.bool false) w5)
        (callR Try.prog 51 #[(.pointer x6), (.int .i64 (0 : Int)), (.int .i64 (1 : Int))] w5 fun v10 w6 =>
        ∃ x11 : Bool, v10 = (.bool x11) ∧
        ifB (!x11)
          (R (.bool false) w6)
          (callR Try.prog 45 #[(.pointer x6), (.int .i64 (1 : Int))] w6 fun v12 w7 =>
          ∃ x13 : Int, v12 = (.int .i64 x13) ∧
          ifB (x13 != (0 : Int))
            (R (.bool false) w7)
            (m8 (()) w7))))
    (fun s9 w8 =>
      callR Try.prog 43 #[(.slice x1.a x1.l x1.c)] w8 fun v14 w9 =>
      ∃ x15 : Option Addr, ∃ x16 : Bool, v14 = (.tuple #[(.pointer x15), (.bool x16)]) ∧
      ifB (!x16)
        (R (.bool true) w9)
        (callR Try.prog 51 #[(.pointer x15), (.int .i64 x2), (.int .i64 x3)] w9 fun v17 w10 =>
        ∃ x18 : Bool, v17 = (.bool x18) ∧
        ifB x18
          (JoinW (S := Unit) (fun m19 =>
              callR Try.prog 51 #[(.pointer x15), (.int .i64 x3), (.int .i64 x2)] w10 fun v21 w11 =>
              ∃ x22 : Bool, v21 = (.bool x22) ∧
              ifB x22
                (ifB (x2 != x3)
                  (R (.bool false) w11)
                  (m19 (()) w11))
                (m19 (()) w11))
            (fun s20 w12 =>
              JoinW (S := Unit) (fun m23 =>
                  callR Try.prog 51 #[(.pointer x15), (.int .i64 x3), (.int .i64 x4)] w12 fun v25 w13 =>
                  ∃ x26 : Bool, v25 = (.bool x26) ∧
                  ifB x26
                    (callR Try.prog 51 #[(.pointer x15), (.int .i64 x2), (.int .i64 x4)] w13 fun v27 w14 =>
                    ∃ x28 : Bool, v27 = (.bool x28) ∧
                    ifB (!x28)
                      (R (.bool false) w14)
                      (m23 (()) w14))
                    (m23 (()) w13))
                (fun s24 w15 =>
                  JoinW (S := Unit) (fun m29 =>
                      callR Try.prog 51 #[(.pointer x15), (.int .i64 x4), (.int .i64 x3)] w15 fun v31 w16 =>
                      ∃ x32 : Bool, v31 = (.bool x32) ∧
                      ifB x32
                        (callR Try.prog 51 #[(.pointer x15), (.int .i64 x2), (.int .i64 x4)] w16 fun v33 w17 =>
                        ∃ x34 : Bool, v33 = (.bool x34) ∧
                        ifB (!x34)
                          (callR Try.prog 51 #[(.pointer x15), (.int .i64 x4), (.int .i64 x2)] w17 fun v35 w18 =>
                          ∃ x36 : Bool, v35 = (.bool x36) ∧
                          ifB (!x36)
                            (R (.bool false) w18)
                            (m29 (()) w18))
                          (m29 (()) w17))
                        (m29 (()) w16))
                    (fun s30 w19 =>
                      JoinW (S := Unit) (fun m37 =>
                          callR Try.prog 51 #[(.pointer x15), (.int .i64 x3), (.int .i64 x3)] w19 fun v39 w20 =>
                          ∃ x40 : Bool, v39 = (.bool x40) ∧
                          ifB (!x40)
                            (R (.bool false) w20)
                            (callR Try.prog 51 #[(.pointer x15), (.int .i64 (0 : Int)), (.int .i64 x3)] w20 fun v41 w21 =>
                            ∃ x42 : Bool, v41 = (.bool x42) ∧
                            ifB (!x42)
                              (R (.bool false) w21)
                              (m37 (()) w21)))
                        (fun s38 w22 =>
                          callR Try.prog 45 #[(.pointer x15), (.int .i64 x3)] w22 fun v43 w23 =>
                          ∃ x44 : Int, v43 = (.int .i64 x44) ∧
                          ifB (x2 != x3)
                            (ifB (decide (x44 < (0 : Int)))
                              (R (.bool false) w23)
                              (callR Try.prog 51 #[(.pointer x15), (.int .i64 x2), (.int .i64 x44)] w23 fun v45 w24 =>
                              ∃ x46 : Bool, v45 = (.bool x46) ∧
                              ifB (!x46)
                                (R (.bool false) w24)
                                (callR Try.prog 47 #[(.pointer x15), (.int .i64 x3)] w24 fun v47 w25 =>
                                ∃ x48 : Int, v47 = (.int .i64 x48) ∧
                                callR Try.prog 47 #[(.pointer x15), (.int .i64 x44)] w25 fun v49 w26 =>
                                ∃ x50 : Int, v49 = (.int .i64 x50) ∧
                                ifB (x48 != (IntKind.i64.wrap (x50 + (1 : Int))))
                                  (R (.bool false) w26)
                                  (R (.bool true) w26))))
                            (R (.bool true) w23))))))
          (R (.bool true) w10)))
theorem intagliolaw15_DomOrders_calls (p0 : (Sl × Int × Int × Int × Unit)) (R : Value → World → Prop) (w : World) (h : L_intagliolaw15_DomOrders p0 R w) : Calls Try.prog 11 #[(.agg #[(.slice p0.1.a p0.1.l p0.1.c), (.int .i64 p0.2.1), (.int .i64 p0.2.2.1), (.int .i64 p0.2.2.2.1)])] w (Ret R) :=
  lw_calls (fs := Try.fs) (an := a_intagliolaw15_DomOrders) (args := [(.agg #[(.slice p0.1.a p0.1.l p0.1.c), (.int .i64 p0.2.1), (.int .i64 p0.2.2.1), (.int .i64 p0.2.2.2.1)])]) Try.fsOK Try.mixed Try.func11 (by kernel_rfl) (by kernel_rfl)
    (Eq.mpr (by kernel_rfl : lwFn Try.prog Try.fs Try.f11 a_intagliolaw15_DomOrders [(.agg #[(.slice p0.1.a p0.1.l p0.1.c), (.int .i64 p0.2.1), (.int .i64 p0.2.2.1), (.int .i64 p0.2.2.2.1)])] w R = L_intagliolaw15_DomOrders p0 R w) h)

/-- intaglio.intagliolaw15.DomUps -/
def a_intagliolaw15_DomUps : Ann := (.seq none .nil (.seq none (.seq none .nil (.cond (.seq none .nil .nil) .nil)) (.seq none .nil (.seq none .nil (.seq none .nil (.seq none .nil (.seq none .nil (.seq none .nil (.seq none (.seq none .nil (.cond (.seq none .nil .nil) .nil)) (.seq (some ⟨[0, 1, 5, 7, 9, 10, 11, 12], []⟩) (.seq none .nil (.one (.loop ⟨[], [(37, (.b (.int .i64)))]⟩ (.seq none .nil (.one (.seq (some ⟨[5, 11], []⟩) (.seq none .nil (.cond (.seq none .nil .nil) .nil)) (.seq none .nil (.seq none .nil (.cond .nil .nil))))))))) (.seq none .nil (.seq (some ⟨[0, 1, 7, 9, 11, 12], [(15, (.b (.int .i64)))]⟩) (.seq none .nil (.cond .nil .nil)) (.seq none .nil (.seq (some ⟨[0, 1, 7, 9, 16], []⟩) (.seq none .nil (.cond (.seq none .nil .nil) .nil)) (.seq none .nil (.seq none .nil .nil))))))))))))))))
def L_intagliolaw15_DomUps (p0 : Sl) (p1 : Int) (p2 : Int) (R : Value → World → Prop) (w : World) : Prop :=
  Nw (w.alloc (.cells #[(.int .i64 p2)] 3)) fun w1 =>
  callR Try.prog 42 #[(.slice p0.a p0.l p0.c)] w1 fun v1 w2 =>
  ∃ x2 : Bool, v1 = (.bool x2) ∧
  ifB (!x2)
    (R (.bool true) w2)
    (callR Try.prog 43 #[(.slice p0.a p0.l p0.c)] w2 fun v3 w3 =>
    ∃ x4 : Option Addr, ∃ x5 : Bool, v3 = (.tuple #[(.pointer x4), (.bool x5)]) ∧
    callR Try.prog 44 #[(.slice p0.a p0.l p0.c)] w3 fun v6 w4 =>
    ∃ x7 : Sl, v6 = (.slice x7.a x7.l x7.c) ∧
    callR Try.prog 55 #[(.slice x7.a x7.l x7.c), (.int .i64 p1)] w4 fun v8 w5 =>
    ∃ x9 : Sl, v8 = (.slice x9.a x9.l x9.c) ∧
    Nw (w5.alloc (.cells #[(.slice none 0 0)] 32)) fun w6 =>
    Wr w6 (blk w5.heap.size) ∧
    Nw (w6.setCell (blk w5.heap.size) (.slice x9.a x9.l x9.c)) fun w7 =>
    Nw (w7.alloc (.cells #[(.int .i64 (0 : Int))] 3)) fun w8 =>
    Wr w8 (blk w7.heap.size) ∧
    Nw (w8.setCell (blk w7.heap.size) (.int .i64 (0 : Int))) fun w9 =>
    Nw (w9.alloc (.cells #[(.bool false)] 4)) fun w10 =>
    Wr w10 (blk w9.heap.size) ∧
    Nw (w10.setCell (blk w9.heap.size) (.bool x5)) fun w11 =>
    callR Try.prog 56 #[(.pointer x4), (.int .i64 p1)] w11 fun v10 w12 =>
    ∃ x11 : Value, v10 = x11 ∧
    funcNil x11 fun b12 =>
    ifB b12
      (R (.bool false) w12)
      (JoinW (S := (Unit) × List Nat) (fun m13 =>
          RangeW Try.prog Try.fs x11 w12 (T := Int × Unit) (fun s15 => [(.int .i64 s15.1)])
            (fun mk16 l17 s15 w13 S18 =>
              w13.heap[l17]? = some (mk16 .ready none) ∧
              Nw (w13.putObj l17 (mk16 .busy none)) fun w14 =>
              JoinW (S := Unit) (fun m20 =>
                  ldI w14 (blk w7.heap.size) .i64 fun x22 =>
                  ldS w14 (blk w5.heap.size) fun x23 =>
                  ifB (decide (x22 ≥ (x23.l : Int)))
                    (Wr w14 (blk w9.heap.size) ∧
                    Nw (w14.setCell (blk w9.heap.size) (.bool false)) fun w15 =>
                    w15.heap[l17]? = some (mk16 .busy none) ∧
                    S18 (.bool false) (w15.putObj l17 (mk16 .done (some (.exit 0)))))
                    (ldS w14 (blk w5.heap.size) fun x24 =>
                    ldI w14 (blk w7.heap.size) .i64 fun x25 =>
                    (0 ≤ x25 ∧ x25 < (x24.l : Int)) ∧
                    derefP x24.a fun a26 =>
                    ldI w14 (a26.add (Int.toNat x25)) .i64 fun x27 =>
                    ifB (x27 != s15.1)
                      (Wr w14 (blk w9.heap.size) ∧
                      Nw (w14.setCell (blk w9.heap.size) (.bool false)) fun w16 =>
                      w16.heap[l17]? = some (mk16 .busy none) ∧
                      S18 (.bool false) (w16.putObj l17 (mk16 .done (some (.exit 0)))))
                      (m20 (()) w14)))
                (fun s21 w17 =>
                  ldI w17 (blk w7.heap.size) .i64 fun x28 =>
                  Wr w17 (blk w7.heap.size) ∧
                  Nw (w17.setCell (blk w7.heap.size) (.int .i64 (IntKind.i64.wrap (x28 + (1 : Int))))) fun w18 =>
                  ldI w18 (blk w7.heap.size) .i64 fun x29 =>
                  ldI w18 (blk w.heap.size) .i64 fun x30 =>
                  ifB (x29 == x30)
                    (w18.heap[l17]? = some (mk16 .busy none) ∧
                    S18 (.bool false) (w18.putObj l17 (mk16 .done (some (.exit 0)))))
                    (w18.heap[l17]? = some (mk16 .busy none) ∧
                    S18 (.bool true) (w18.putObj l17 (mk16 .ready none)))))
            (fun mk16 l17 d19 w19 =>
              (rangeOut mk16 l17 .ready none w19 fun w20 =>
                m13 ((()), d19 :: []) w20) ∨
              (rangeOut mk16 l17 .done (some (.exit 0)) w19 fun w21 =>
                m13 ((()), d19 :: []) w21)))
        (fun s14 w22 =>
          ldS w22 (blk w5.heap.size) fun x31 =>
          JoinW (S := Int × Unit) (fun m32 =>
              ldI w22 (blk w.heap.size) .i64 fun x34 =>
              ifB (decide (x34 > (0 : Int)))
                (ldI w22 (blk w.heap.size) .i64 fun x35 =>
                ifB (decide (x35 < (x31.l : Int)))
                  (ldI w22 (blk w.heap.size) .i64 fun x36 =>
                  m32 (x36, ()) w22)
                  (m32 ((x31.l : Int), ()) w22))
                (m32 ((x31.l : Int), ()) w22))
            (fun s33 w23 =>
              callR Try.prog 57 #[(.pointer x4), (.int .i64 p1)] w23 fun v37 w24 =>
              ∃ x38 : Sl, v37 = (.slice x38.a x38.l x38.c) ∧
              JoinW (S := Unit) (fun m39 =>
                  ldB w24 (blk w9.heap.size) fun x41 =>
                  ifB (!x41)
                    (closeM (s14.2) w24 fun w25 =>
                    R (.bool false) w25)
                    (ldI w24 (blk w7.heap.size) .i64 fun x42 =>
                    ifB (x42 != s33.1)
                      (closeM (s14.2) w24 fun w26 =>
                      R (.bool false) w26)
                      (callR Try.prog 58 #[(.slice p0.a p0.l p0.c), (.slice x7.a x7.l x7.c), (.int .i64 p1)] w24 fun v43 w27 =>
                      ∃ x44 : Sl, v43 = (.slice x44.a x44.l x44.c) ∧
                      callR Try.prog 29 #[(.slice x38.a x38.l x38.c), (.slice x44.a x44.l x44.c)] w27 fun v45 w28 =>
                      ∃ x46 : Bool, v45 = (.bool x46) ∧
                      ifB (!x46)
                        (closeM (s14.2) w28 fun w29 =>
                        R (.bool false) w29)
                        (m39 (()) w28))))
                (fun s40 w30 =>
                  callR Try.prog 30 #[(.slice x38.a x38.l x38.c)] w30 fun v47 w31 =>
                  v47 = (.tuple #[]) ∧
                  callR Try.prog 57 #[(.pointer x4), (.int .i64 p1)] w31 fun v48 w32 =>
                  ∃ x49 : Sl, v48 = (.slice x49.a x49.l x49.c) ∧
                  callR Try.prog 58 #[(.slice p0.a p0.l p0.c), (.slice x7.a x7.l x7.c), (.int .i64 p1)] w32 fun v50 w33 =>
                  ∃ x51 : Sl, v50 = (.slice x51.a x51.l x51.c) ∧
                  callR Try.prog 29 #[(.slice x49.a x49.l x49.c), (.slice x51.a x51.l x51.c)] w33 fun v52 w34 =>
                  ∃ x53 : Bool, v52 = (.bool x53) ∧
                  closeM (s14.2) w34 fun w35 =>
                  R (.bool x53) w35)))))
theorem intagliolaw15_DomUps_calls (p0 : Sl) (p1 : Int) (p2 : Int) (R : Value → World → Prop) (w : World) (h : L_intagliolaw15_DomUps p0 p1 p2 R w) : Calls Try.prog 12 #[(.slice p0.a p0.l p0.c), (.int .i64 p1), (.int .i64 p2)] w (Ret R) :=
  lwR_calls (fs := Try.fs) (an := a_intagliolaw15_DomUps) (args := [(.slice p0.a p0.l p0.c), (.int .i64 p1), (.int .i64 p2)]) Try.fsOK Try.mixed Try.func12 (by kernel_rfl) (by kernel_rfl)
    (Eq.mpr (by kernel_rfl : lwRFn Try.prog Try.fs Try.f12 a_intagliolaw15_DomUps [(.slice p0.a p0.l p0.c), (.int .i64 p1), (.int .i64 p2)] w R = L_intagliolaw15_DomUps p0 p1 p2 R w) h)

/-- intaglio.intagliolaw15.DomBacks -/
def a_intagliolaw15_DomBacks : Ann := (.seq none .nil (.seq none (.seq none .nil (.cond (.seq none .nil .nil) .nil)) (.seq none .nil (.seq none .nil (.seq none .nil (.seq (some ⟨[5, 6], []⟩) (.seq none .nil (.cond (.seq none .nil .nil) .nil)) (.seq none (.seq none .nil (.one (.loop ⟨[5, 6], [(7, (.b (.int .i64)))]⟩ (.seq none (.seq none .nil (.cond .nil .nil)) (.seq none (.one (.seq none .nil (.cond (.seq none .nil .nil) .nil))) .nil))))) (.seq none .nil .nil))))))))
def L_intagliolaw15_DomBacks (p0 : Sl) (R : Value → World → Prop) (w : World) : Prop :=
  callR Try.prog 42 #[(.slice p0.a p0.l p0.c)] w fun v1 w1 =>
  ∃ x2 : Bool, v1 = (.bool x2) ∧
  ifB (!x2)
    (R (.bool true) w1)
    (callR Try.prog 43 #[(.slice p0.a p0.l p0.c)] w1 fun v3 w2 =>
    ∃ x4 : Option Addr, ∃ x5 : Bool, v3 = (.tuple #[(.pointer x4), (.bool x5)]) ∧
    callR Try.prog 44 #[(.slice p0.a p0.l p0.c)] w2 fun v6 w3 =>
    ∃ x7 : Sl, v6 = (.slice x7.a x7.l x7.c) ∧
    callR Try.prog 85 #[(.slice p0.a p0.l p0.c), (.slice x7.a x7.l x7.c)] w3 fun v8 w4 =>
    ∃ x9 : Sl, v8 = (.slice x9.a x9.l x9.c) ∧
    callR Try.prog 86 #[(.pointer x4)] w4 fun v10 w5 =>
    ∃ x11 : Sl, v10 = (.slice x11.a x11.l x11.c) ∧
    JoinW (S := Unit) (fun m12 =>
        ifB (!x5)
          (R (.bool false) w5)
          (ifB ((x11.l : Int) != (x9.l : Int))
            (R (.bool false) w5)
            (m12 (()) w5)))
      (fun s13 w6 =>
        LoopW (S := Int × Unit) (fun s14 w7 n15 =>
            ifB (decide (s14.1 < (x9.l : Int)))
              ((0 ≤ s14.1 ∧ s14.1 < (x11.l : Int)) ∧
              derefP x11.a fun a16 =>
              ldI w7.drew ((a16.add ((Int.toNat s14.1) * 2)).add 0) .i64 fun x17 =>
              ldI w7.drew ((a16.add ((Int.toNat s14.1) * 2)).add 1) .i64 fun x18 =>
              (0 ≤ s14.1 ∧ s14.1 < (x9.l : Int)) ∧
              derefP x9.a fun a19 =>
              ldI w7.drew ((a19.add ((Int.toNat s14.1) * 2)).add 0) .i64 fun x20 =>
              ldI w7.drew ((a19.add ((Int.toNat s14.1) * 2)).add 1) .i64 fun x21 =>
              ifB (!(x17 == x20 && x18 == x21))
                (R (.bool false) w7.drew)
                (n15 ((IntKind.i64.wrap (s14.1 + (1 : Int))), ()) w7.drew))
              (R (.bool true) w7))
          ((0 : Int), ()) w6))
theorem intagliolaw15_DomBacks_calls (p0 : Sl) (R : Value → World → Prop) (w : World) (h : L_intagliolaw15_DomBacks p0 R w) : Calls Try.prog 21 #[(.slice p0.a p0.l p0.c)] w (Ret R) :=
  lw_calls (fs := Try.fs) (an := a_intagliolaw15_DomBacks) (args := [(.slice p0.a p0.l p0.c)]) Try.fsOK Try.mixed Try.func21 (by kernel_rfl) (by kernel_rfl)
    (Eq.mpr (by kernel_rfl : lwFn Try.prog Try.fs Try.f21 a_intagliolaw15_DomBacks [(.slice p0.a p0.l p0.c)] w R = L_intagliolaw15_DomBacks p0 R w) h)

/-- intaglio.intagliolaw15.DomEdges -/
def a_intagliolaw15_DomEdges : Ann := (.seq none .nil (.seq none .nil (.seq (some ⟨[0, 1], []⟩) (.seq none .nil (.cond (.seq none .nil .nil) .nil)) (.seq none .nil (.seq (some ⟨[0, 1, 5], []⟩) (.seq none .nil (.cond (.seq none .nil .nil) .nil)) (.seq none (.seq none .nil (.one (.loop ⟨[0, 1, 5], [(7, (.b (.int .i64)))]⟩ (.seq none (.seq none .nil (.cond .nil .nil)) (.seq none (.one (.seq none .nil (.one (.loop ⟨[0, 1, 5, 7], [(8, (.b (.int .i64)))]⟩ (.seq none (.seq none .nil (.cond .nil .nil)) (.seq (some ⟨[0, 1, 5, 7, 8], []⟩) (.one (.seq none .nil (.seq (some ⟨[0, 1, 5, 7, 8, 9], []⟩) (.seq none .nil (.cond (.seq none .nil .nil) .nil)) (.seq none .nil (.cond (.seq none .nil .nil) .nil))))) .nil)))))) .nil))))) (.seq none .nil .nil)))))))
def L_intagliolaw15_DomEdges (p0 : Sl) (p1 : Int) (R : Value → World → Prop) (w : World) : Prop :=
  Nw (w.alloc (.cells #[(.int .i64 (0 : Int))] 3)) fun w1 =>
  Nw (w1.alloc (.cells #[(.slice (some (blk w.heap.size)) 1 1)] 32)) fun w2 =>
  callR Try.prog 43 #[(.slice (some (blk w1.heap.size)) 1 1)] w2 fun v1 w3 =>
  ∃ x2 : Option Addr, ∃ x3 : Bool, v1 = (.tuple #[(.pointer x2), (.bool x3)]) ∧
  JoinW (S := Unit) (fun m4 =>
      ifB (!x3)
        (R (.bool false) w3)
        (callR Try.prog 86 #[(.pointer x2)] w3 fun v6 w4 =>
        ∃ x7 : Sl, v6 = (.slice x7.a x7.l x7.c) ∧
        ifB ((x7.l : Int) != (1 : Int))
          (R (.bool false) w4)
          (m4 (()) w4)))
    (fun s5 w5 =>
      callR Try.prog 43 #[(.slice p0.a p0.l p0.c)] w5 fun v8 w6 =>
      ∃ x9 : Option Addr, ∃ x10 : Bool, v8 = (.tuple #[(.pointer x9), (.bool x10)]) ∧
      JoinW (S := Unit) (fun m11 =>
          ifB (!x10)
            (R (.bool true) w6)
            (ifB (decide ((p0.l : Int) > (96 : Int)))
              (R (.bool true) w6)
              (m11 (()) w6)))
        (fun s12 w7 =>
          LoopW (S := Int × Unit) (fun s13 w8 n14 =>
              ifB (decide (s13.1 < (p0.l : Int)))
                (LoopW (S := Int × Unit) (fun s15 w9 n16 =>
                    (0 ≤ s13.1 ∧ s13.1 < (p0.l : Int)) ∧
                    derefP p0.a fun a17 =>
                    ldS w9 (a17.add (Int.toNat s13.1)) fun x18 =>
                    ifB (decide (s15.1 < (x18.l : Int)))
                      (JoinW (S := Unit) (fun m19 =>
                          (0 ≤ s13.1 ∧ s13.1 < (p0.l : Int)) ∧
                          derefP p0.a fun a21 =>
                          ldS w9 (a21.add (Int.toNat s13.1)) fun x22 =>
                          (0 ≤ s15.1 ∧ s15.1 < (x22.l : Int)) ∧
                          derefP x22.a fun a23 =>
                          ldI w9 (a23.add (Int.toNat s15.1)) .i64 fun x24 =>
                          JoinW (S := Unit) (fun m25 =>
                              callR Try.prog 51 #[(.pointer x9), (.int .i64 (0 : Int)), (.int .i64 s13.1)] w9 fun v27 w10 =>
                              ∃ x28 : Bool, v27 = (.bool x28) ∧
                              ifB x28
                                (ifB (p1 != x24)
                                  (callR Try.prog 51 #[(.pointer x9), (.int .i64 p1), (.int .i64 x24)] w10 fun v29 w11 =>
                                  ∃ x30 : Bool, v29 = (.bool x30) ∧
                                  ifB x30
                                    (callR Try.prog 51 #[(.pointer x9), (.int .i64 p1), (.int .i64 s13.1)] w11 fun v31 w12 =>
                                    ∃ x32 : Bool, v31 = (.bool x32) ∧
                                    ifB (!x32)
                                      (R (.bool false) w12)
                                      (m25 (()) w12))
                                    (m25 (()) w11))
                                  (m25 (()) w10))
                                (m25 (()) w10))
                            (fun s26 w13 =>
                              callR Try.prog 51 #[(.pointer x9), (.int .i64 (0 : Int)), (.int .i64 s13.1)] w13 fun v33 w14 =>
                              ∃ x34 : Bool, v33 = (.bool x34) ∧
                              ifB x34
                                (callR Try.prog 51 #[(.pointer x9), (.int .i64 x24), (.int .i64 x24)] w14 fun v35 w15 =>
                                ∃ x36 : Bool, v35 = (.bool x36) ∧
                                ifB (!x36)
                                  (R (.bool false) w15)
                                  (m19 (()) w15))
                                (m19 (()) w14)))
                        (fun s20 w16 =>
                          n16 ((IntKind.i64.wrap (s15.1 + (1 : Int))), ()) w16))
                      (n14 ((IntKind.i64.wrap (s13.1 + (1 : Int))), ()) w9))
                  ((0 : Int), ()) w8)
                (R (.bool true) w8))
            ((0 : Int), ()) w7))
theorem intagliolaw15_DomEdges_calls (p0 : Sl) (p1 : Int) (R : Value → World → Prop) (w : World) (h : L_intagliolaw15_DomEdges p0 p1 R w) : Calls Try.prog 22 #[(.slice p0.a p0.l p0.c), (.int .i64 p1)] w (Ret R) :=
  lw_calls (fs := Try.fs) (an := a_intagliolaw15_DomEdges) (args := [(.slice p0.a p0.l p0.c), (.int .i64 p1)]) Try.fsOK Try.mixed Try.func22 (by kernel_rfl) (by kernel_rfl)
    (Eq.mpr (by kernel_rfl : lwFn Try.prog Try.fs Try.f22 a_intagliolaw15_DomEdges [(.slice p0.a p0.l p0.c), (.int .i64 p1)] w R = L_intagliolaw15_DomEdges p0 p1 R w) h)

/-- intaglio.intagliolaw15.DomNil -/
def a_intagliolaw15_DomNil : Ann := (.seq none .nil (.seq none .nil (.seq (some ⟨[0, 1, 5], []⟩) (.seq none .nil (.cond (.seq none .nil .nil) .nil)) (.seq none .nil (.seq none .nil (.seq none (.seq none .nil (.cond (.seq none .nil .nil) .nil)) (.seq none (.seq none .nil (.one (.loop ⟨[], [(27, (.b (.int .i64)))]⟩ (.seq none .nil (.one .nil))))) (.seq none .nil (.seq none .nil .nil)))))))))
def L_intagliolaw15_DomNil (p0 : Int) (p1 : Int) (R : Value → World → Prop) (w : World) : Prop :=
  callR Try.prog 87 #[(.pointer none)] w fun v1 w1 =>
  ∃ x2 : Option Addr, ∃ x3 : Int, v1 = (.tuple #[(.pointer x2), (.int .i64 x3)]) ∧
  JoinW (S := Unit) (fun m4 =>
      ifB (!(Option.isNone x2))
        (R (.bool false) w1)
        (ifB (x3 != (1 : Int))
          (R (.bool false) w1)
          (m4 (()) w1)))
    (fun s5 w2 =>
      Nw (w2.alloc (.cells #[(.int .i64 (0 : Int))] 3)) fun w3 =>
      Wr w3 (blk w2.heap.size) ∧
      Nw (w3.setCell (blk w2.heap.size) (.int .i64 (0 : Int))) fun w4 =>
      callR Try.prog 56 #[(.pointer x2), (.int .i64 p0)] w4 fun v6 w5 =>
      ∃ x7 : Value, v6 = x7 ∧
      funcNil x7 fun b8 =>
      ifB b8
        (R (.bool false) w5)
        (RangeW Try.prog Try.fs x7 w5 (T := Int × Unit) (fun s9 => [(.int .i64 s9.1)])
          (fun mk10 l11 s9 w6 S12 =>
            w6.heap[l11]? = some (mk10 .ready none) ∧
            Nw (w6.putObj l11 (mk10 .busy none)) fun w7 =>
            ldI w7 (blk w2.heap.size) .i64 fun x14 =>
            Wr w7 (blk w2.heap.size) ∧
            Nw (w7.setCell (blk w2.heap.size) (.int .i64 (IntKind.i64.wrap (x14 + (1 : Int))))) fun w8 =>
            w8.heap[l11]? = some (mk10 .busy none) ∧
            S12 (.bool true) (w8.putObj l11 (mk10 .ready none)))
          (fun mk10 l11 d13 w9 =>
            rangeOut mk10 l11 .ready none w9 fun w10 =>
              callR Try.prog 54 #[(.pointer x2), (.int .i64 p0), (.int .i64 p1)] w10 fun v15 w11 =>
              ∃ x16 : Int, ∃ x17 : Bool, v15 = (.tuple #[(.int .i64 x16), (.bool x17)]) ∧
              callR Try.prog 45 #[(.pointer x2), (.int .i64 p0)] w11 fun v18 w12 =>
              ∃ x19 : Int, v18 = (.int .i64 x19) ∧
              ifB (x19 == (-1 : Int))
                (callR Try.prog 47 #[(.pointer x2), (.int .i64 p0)] w12 fun v20 w13 =>
                ∃ x21 : Int, v20 = (.int .i64 x21) ∧
                ifB (x21 == (-1 : Int))
                  (callR Try.prog 51 #[(.pointer x2), (.int .i64 p0), (.int .i64 p1)] w13 fun v22 w14 =>
                  ∃ x23 : Bool, v22 = (.bool x23) ∧
                  ifB (!x23)
                    (callR Try.prog 49 #[(.pointer x2), (.int .i64 p0)] w14 fun v24 w15 =>
                    ∃ x25 : Sl, v24 = (.slice x25.a x25.l x25.c) ∧
                    ifB ((x25.l : Int) == (0 : Int))
                      (ifB (x16 == (0 : Int))
                        (ifB (!x17)
                          (ldI w15 (blk w2.heap.size) .i64 fun x26 =>
                          ifB (x26 == (0 : Int))
                            (callR Try.prog 57 #[(.pointer x2), (.int .i64 p0)] w15 fun v27 w16 =>
                            ∃ x28 : Sl, v27 = (.slice x28.a x28.l x28.c) ∧
                            ifB ((x28.l : Int) == (0 : Int))
                              (callR Try.prog 86 #[(.pointer x2)] w16 fun v29 w17 =>
                              ∃ x30 : Sl, v29 = (.slice x30.a x30.l x30.c) ∧
                              closeM (d13 :: []) w17 fun w18 =>
                              R (.bool ((x30.l : Int) == (0 : Int))) w18)
                              (closeM (d13 :: []) w16 fun w19 =>
                              R (.bool false) w19))
                            (closeM (d13 :: []) w15 fun w20 =>
                            R (.bool false) w20))
                          (closeM (d13 :: []) w15 fun w21 =>
                          R (.bool false) w21))
                        (closeM (d13 :: []) w15 fun w22 =>
                        R (.bool false) w22))
                      (closeM (d13 :: []) w15 fun w23 =>
                      R (.bool false) w23))
                    (closeM (d13 :: []) w14 fun w24 =>
                    R (.bool false) w24))
                  (closeM (d13 :: []) w13 fun w25 =>
                  R (.bool false) w25))
                (closeM (d13 :: []) w12 fun w26 =>
                R (.bool false) w26))))
theorem intagliolaw15_DomNil_calls (p0 : Int) (p1 : Int) (R : Value → World → Prop) (w : World) (h : L_intagliolaw15_DomNil p0 p1 R w) : Calls Try.prog 23 #[(.int .i64 p0), (.int .i64 p1)] w (Ret R) :=
  lwR_calls (fs := Try.fs) (an := a_intagliolaw15_DomNil) (args := [(.int .i64 p0), (.int .i64 p1)]) Try.fsOK Try.mixed Try.func23 (by kernel_rfl) (by kernel_rfl)
    (Eq.mpr (by kernel_rfl : lwRFn Try.prog Try.fs Try.f23 a_intagliolaw15_DomNil [(.int .i64 p0), (.int .i64 p1)] w R = L_intagliolaw15_DomNil p0 p1 R w) h)

/-- intaglio.intagliolaw15.sound -/
def a_intagliolaw15_sound : Ann := (.seq none .nil (.seq (some ⟨[0], []⟩) (.seq none .nil (.cond (.seq none .nil .nil) .nil)) (.seq none (.seq none .nil (.one (.loop ⟨[0], [(3, (.b (.int .i64)))]⟩ (.seq none (.seq none .nil (.cond .nil .nil)) (.seq none (.one (.seq none .nil (.one (.loop ⟨[0, 3], [(4, (.b (.int .i64)))]⟩ (.seq none (.seq none .nil (.cond .nil .nil)) (.seq (some ⟨[0, 3, 4], []⟩) (.one (.seq none .nil (.cond (.seq none .nil .nil) .nil))) .nil)))))) .nil))))) (.seq none .nil .nil))))
def L_intagliolaw15_sound (p0 : Sl) (R : Value → World → Prop) (w : World) : Prop :=
  JoinW (S := Unit) (fun m1 =>
      ifB ((p0.l : Int) == (0 : Int))
        (R (.bool false) w)
        (ifB (decide ((p0.l : Int) > (24 : Int)))
          (R (.bool false) w)
          (m1 (()) w)))
    (fun s2 w1 =>
      LoopW (S := Int × Unit) (fun s3 w2 n4 =>
          ifB (decide (s3.1 < (p0.l : Int)))
            (LoopW (S := Int × Unit) (fun s5 w3 n6 =>
                (0 ≤ s3.1 ∧ s3.1 < (p0.l : Int)) ∧
                derefP p0.a fun a7 =>
                ldS w3 (a7.add (Int.toNat s3.1)) fun x8 =>
                ifB (decide (s5.1 < (x8.l : Int)))
                  (JoinW (S := Unit) (fun m9 =>
                      (0 ≤ s3.1 ∧ s3.1 < (p0.l : Int)) ∧
                      derefP p0.a fun a11 =>
                      ldS w3 (a11.add (Int.toNat s3.1)) fun x12 =>
                      (0 ≤ s5.1 ∧ s5.1 < (x12.l : Int)) ∧
                      derefP x12.a fun a13 =>
                      ldI w3 (a13.add (Int.toNat s5.1)) .i64 fun x14 =>
                      ifB (decide (x14 < (0 : Int)))
                        (R (.bool false) w3)
                        ((0 ≤ s3.1 ∧ s3.1 < (p0.l : Int)) ∧
                        derefP p0.a fun a15 =>
                        ldS w3 (a15.add (Int.toNat s3.1)) fun x16 =>
                        (0 ≤ s5.1 ∧ s5.1 < (x16.l : Int)) ∧
                        derefP x16.a fun a17 =>
                        ldI w3 (a17.add (Int.toNat s5.1)) .i64 fun x18 =>
                        ifB (decide (x18 ≥ (p0.l : Int)))
                          (R (.bool false) w3)
                          (m9 (()) w3)))
                    (fun s10 w4 =>
                      n6 ((IntKind.i64.wrap (s5.1 + (1 : Int))), ()) w4))
                  (n4 ((IntKind.i64.wrap (s3.1 + (1 : Int))), ()) w3))
              ((0 : Int), ()) w2)
            (R (.bool true) w2))
        ((0 : Int), ()) w1)
theorem intagliolaw15_sound_calls (p0 : Sl) (R : Value → World → Prop) (w : World) (h : L_intagliolaw15_sound p0 R w) : Calls Try.prog 42 #[(.slice p0.a p0.l p0.c)] w (Ret R) :=
  lw_calls (fs := Try.fs) (an := a_intagliolaw15_sound) (args := [(.slice p0.a p0.l p0.c)]) Try.fsOK Try.mixed Try.func42 (by kernel_rfl) (by kernel_rfl)
    (Eq.mpr (by kernel_rfl : lwFn Try.prog Try.fs Try.f42 a_intagliolaw15_sound [(.slice p0.a p0.l p0.c)] w R = L_intagliolaw15_sound p0 R w) h)

/-- intaglio.intagliolaw15.tree -/
def a_intagliolaw15_tree : Ann := (.seq none .nil (.seq none .nil (.seq none (.seq none .nil (.cond (.seq none .nil .nil) .nil)) (.seq none .nil (.seq none .nil .nil)))))
def L_intagliolaw15_tree (p0 : Sl) (R : Value → World → Prop) (w : World) : Prop :=
  callR Try.prog 28 #[(.slice p0.a p0.l p0.c)] w fun v1 w1 =>
  ∃ x2 : Option Addr, ∃ x3 : Int, v1 = (.tuple #[(.pointer x2), (.int .i64 x3)]) ∧
  ifB (x3 != (0 : Int))
    (R (.tuple #[(.pointer none), (.bool false)]) w1)
    (callR Try.prog 87 #[(.pointer x2)] w1 fun v4 w2 =>
    ∃ x5 : Option Addr, ∃ x6 : Int, v4 = (.tuple #[(.pointer x5), (.int .i64 x6)]) ∧
    R (.tuple #[(.pointer x5), (.bool (x6 == (0 : Int)))]) w2)
theorem intagliolaw15_tree_calls (p0 : Sl) (R : Value → World → Prop) (w : World) (h : L_intagliolaw15_tree p0 R w) : Calls Try.prog 43 #[(.slice p0.a p0.l p0.c)] w (Ret R) :=
  lw_calls (fs := Try.fs) (an := a_intagliolaw15_tree) (args := [(.slice p0.a p0.l p0.c)]) Try.fsOK Try.mixed Try.func43 (by kernel_rfl) (by kernel_rfl)
    (Eq.mpr (by kernel_rfl : lwFn Try.prog Try.fs Try.f43 a_intagliolaw15_tree [(.slice p0.a p0.l p0.c)] w R = L_intagliolaw15_tree p0 R w) h)

/-- intaglio.intaglioref15.Table -/
def a_intaglioref15_Table : Ann := (.seq none .nil (.seq none .nil (.seq none .nil (.seq none (.seq none .nil (.one (.loop ⟨[0, 4], [(3, (.b .slice)), (5, (.b (.int .i64)))]⟩ (.seq none (.seq none .nil (.cond .nil .nil)) (.seq none (.one (.seq none .nil (.seq none (.seq none .nil (.one (.loop ⟨[0, 3, 4, 5, 6], [(7, (.b (.int .i64)))]⟩ (.seq none (.seq none .nil (.cond .nil .nil)) (.seq (some ⟨[0, 3, 4, 5, 6, 7], []⟩) (.one .nil) .nil))))) .nil))) .nil))))) (.seq none .nil .nil)))))
def L_intaglioref15_Table (p0 : Sl) (R : Value → World → Prop) (w : World) : Prop :=
  callR Try.prog 107 #[(.slice p0.a p0.l p0.c), (.int .i64 (-1 : Int))] w fun v1 w1 =>
  ∃ x2 : Sl, v1 = (.slice x2.a x2.l x2.c) ∧
  LoopW (S := Sl × Int × Unit) (fun s3 w2 n4 =>
      ifB (decide (s3.2.1 < (p0.l : Int)))
        (callR Try.prog 107 #[(.slice p0.a p0.l p0.c), (.int .i64 s3.2.1)] w2 fun v5 w3 =>
        ∃ x6 : Sl, v5 = (.slice x6.a x6.l x6.c) ∧
        LoopW (S := Int × Unit) (fun s7 w4 n8 =>
            ifB (decide (s7.1 < (x6.l : Int)))
              (JoinW (S := Unit) (fun m9 =>
                  (0 ≤ s7.1 ∧ s7.1 < (x2.l : Int)) ∧
                  derefP x2.a fun a11 =>
                  ldB w4 (a11.add (Int.toNat s7.1)) fun x12 =>
                  ifB x12
                    (ifB (s3.2.1 == s7.1)
                      ((0 ≤ s7.1 ∧ s7.1 < (x6.l : Int)) ∧
                      derefP x6.a fun a13 =>
                      Wr w4 (a13.add (Int.toNat s7.1)) ∧
                      Nw (w4.setCell (a13.add (Int.toNat s7.1)) (.bool true)) fun w5 =>
                      m9 (()) w5)
                      ((0 ≤ s7.1 ∧ s7.1 < (x6.l : Int)) ∧
                      derefP x6.a fun a14 =>
                      ldB w4 (a14.add (Int.toNat s7.1)) fun x15 =>
                      (0 ≤ s7.1 ∧ s7.1 < (x6.l : Int)) ∧
                      derefP x6.a fun a16 =>
                      Wr w4 (a16.add (Int.toNat s7.1)) ∧
                      Nw (w4.setCell (a16.add (Int.toNat s7.1)) (.bool (!x15))) fun w6 =>
                      m9 (()) w6))
                    ((0 ≤ s7.1 ∧ s7.1 < (x6.l : Int)) ∧
                    derefP x6.a fun a17 =>
                    Wr w4 (a17.add (Int.toNat s7.1)) ∧
                    Nw (w4.setCell (a17.add (Int.toNat s7.1)) (.bool false)) fun w7 =>
                    m9 (()) w7))
                (fun s10 w8 =>
                  n8 ((IntKind.i64.wrap (s7.1 + (1 : Int))), ()) w8))
              (Nw (w4.alloc (.cells #[(.slice x6.a x6.l x6.c)] 126)) fun w9 =>
              appendS Try.prog 50 (.slice s3.1.a s3.1.l s3.1.c) (.slice (some (blk w4.heap.size)) 1 1) w9 fun r18 w10 =>
              n4 (r18, (IntKind.i64.wrap (s3.2.1 + (1 : Int))), ()) w10))
          ((0 : Int), ()) w3)
        (R (.slice s3.1.a s3.1.l s3.1.c) w2))
    ((Sl.mk none 0 0), (0 : Int), ()) w1
theorem intaglioref15_Table_calls (p0 : Sl) (R : Value → World → Prop) (w : World) (h : L_intaglioref15_Table p0 R w) : Calls Try.prog 44 #[(.slice p0.a p0.l p0.c)] w (Ret R) :=
  lw_calls (fs := Try.fs) (an := a_intaglioref15_Table) (args := [(.slice p0.a p0.l p0.c)]) Try.fsOK Try.mixed Try.func44 (by kernel_rfl) (by kernel_rfl)
    (Eq.mpr (by kernel_rfl : lwFn Try.prog Try.fs Try.f44 a_intaglioref15_Table [(.slice p0.a p0.l p0.c)] w R = L_intaglioref15_Table p0 R w) h)

/-- (*intaglio.dom.Tree).Over -/
def a_dom_Tree_Over : Ann := (.seq none .nil (.seq none (.seq none .nil (.cond (.seq none .nil .nil) .nil)) (.seq none .nil .nil)))
def L_dom_Tree_Over (p0 : Option Addr) (p1 : Int) (R : Value → World → Prop) (w : World) : Prop :=
  callR Try.prog 108 #[(.pointer p0), (.int .i64 p1)] w fun v1 w1 =>
  ∃ x2 : Bool, v1 = (.bool x2) ∧
  ifB (!x2)
    (R (.int .i64 (-1 : Int)) w1)
    (derefP p0 fun a3 =>
    ldS w1 (a3.add 1) fun x4 =>
    (0 ≤ p1 ∧ p1 < (x4.l : Int)) ∧
    derefP x4.a fun a5 =>
    ldI w1 (a5.add (Int.toNat p1)) .i64 fun x6 =>
    R (.int .i64 x6) w1)
theorem dom_Tree_Over_calls (p0 : Option Addr) (p1 : Int) (R : Value → World → Prop) (w : World) (h : L_dom_Tree_Over p0 p1 R w) : Calls Try.prog 45 #[(.pointer p0), (.int .i64 p1)] w (Ret R) :=
  lw_calls (fs := Try.fs) (an := a_dom_Tree_Over) (args := [(.pointer p0), (.int .i64 p1)]) Try.fsOK Try.mixed Try.func45 (by kernel_rfl) (by kernel_rfl)
    (Eq.mpr (by kernel_rfl : lwFn Try.prog Try.fs Try.f45 a_dom_Tree_Over [(.pointer p0), (.int .i64 p1)] w R = L_dom_Tree_Over p0 p1 R w) h)

/-- intaglio.intaglioref15.Over -/
def a_intaglioref15_Over : Ann := (.seq none .nil (.seq none (.seq none .nil (.cond (.seq none .nil .nil) .nil)) (.seq none (.seq none .nil (.one (.loop ⟨[0, 1], [(5, (.b (.int .i64)))]⟩ (.seq none (.seq none .nil (.cond .nil .nil)) (.seq (some ⟨[0, 1, 5], []⟩) (.one (.seq none .nil (.cond (.seq none .nil .nil) .nil))) .nil))))) (.seq none .nil .nil))))
def L_intaglioref15_Over (p0 : Sl) (p1 : Int) (R : Value → World → Prop) (w : World) : Prop :=
  callR Try.prog 48 #[(.slice p0.a p0.l p0.c), (.int .i64 p1)] w fun v1 w1 =>
  ∃ x2 : Int, v1 = (.int .i64 x2) ∧
  ifB (decide (x2 < (1 : Int)))
    (R (.int .i64 (-1 : Int)) w1)
    (LoopW (S := Int × Unit) (fun s3 w2 n4 =>
        ifB (decide (s3.1 < (p0.l : Int)))
          (JoinW (S := Unit) (fun m5 =>
              ifB (s3.1 != p1)
                ((0 ≤ s3.1 ∧ s3.1 < (p0.l : Int)) ∧
                derefP p0.a fun a7 =>
                ldS w2 (a7.add (Int.toNat s3.1)) fun x8 =>
                (0 ≤ p1 ∧ p1 < (x8.l : Int)) ∧
                derefP x8.a fun a9 =>
                ldB w2 (a9.add (Int.toNat p1)) fun x10 =>
                ifB x10
                  (callR Try.prog 48 #[(.slice p0.a p0.l p0.c), (.int .i64 s3.1)] w2 fun v11 w3 =>
                  ∃ x12 : Int, v11 = (.int .i64 x12) ∧
                  callR Try.prog 48 #[(.slice p0.a p0.l p0.c), (.int .i64 p1)] w3 fun v13 w4 =>
                  ∃ x14 : Int, v13 = (.int .i64 x14) ∧
                  ifB (x12 == (IntKind.i64.wrap (x14 - (1 : Int))))
                    (R (.int .i64 s3.1) w4)
                    (m5 (()) w4))
                  (m5 (()) w2))
                (m5 (()) w2))
            (fun s6 w5 =>
              n4 ((IntKind.i64.wrap (s3.1 + (1 : Int))), ()) w5))
          (R (.int .i64 (-1 : Int)) w2))
      ((0 : Int), ()) w1)
theorem intaglioref15_Over_calls (p0 : Sl) (p1 : Int) (R : Value → World → Prop) (w : World) (h : L_intaglioref15_Over p0 p1 R w) : Calls Try.prog 46 #[(.slice p0.a p0.l p0.c), (.int .i64 p1)] w (Ret R) :=
  lw_calls (fs := Try.fs) (an := a_intaglioref15_Over) (args := [(.slice p0.a p0.l p0.c), (.int .i64 p1)]) Try.fsOK Try.mixed Try.func46 (by kernel_rfl) (by kernel_rfl)
    (Eq.mpr (by kernel_rfl : lwFn Try.prog Try.fs Try.f46 a_intaglioref15_Over [(.slice p0.a p0.l p0.c), (.int .i64 p1)] w R = L_intaglioref15_Over p0 p1 R w) h)

/-- (*intaglio.dom.Tree).Depth -/
def a_dom_Tree_Depth : Ann := (.seq none .nil (.seq none (.seq none .nil (.cond (.seq none .nil .nil) .nil)) (.seq none .nil .nil)))
def L_dom_Tree_Depth (p0 : Option Addr) (p1 : Int) (R : Value → World → Prop) (w : World) : Prop :=
  callR Try.prog 108 #[(.pointer p0), (.int .i64 p1)] w fun v1 w1 =>
  ∃ x2 : Bool, v1 = (.bool x2) ∧
  ifB (!x2)
    (R (.int .i64 (-1 : Int)) w1)
    (derefP p0 fun a3 =>
    ldS w1 (a3.add 2) fun x4 =>
    (0 ≤ p1 ∧ p1 < (x4.l : Int)) ∧
    derefP x4.a fun a5 =>
    ldI w1 (a5.add (Int.toNat p1)) .i64 fun x6 =>
    R (.int .i64 x6) w1)
theorem dom_Tree_Depth_calls (p0 : Option Addr) (p1 : Int) (R : Value → World → Prop) (w : World) (h : L_dom_Tree_Depth p0 p1 R w) : Calls Try.prog 47 #[(.pointer p0), (.int .i64 p1)] w (Ret R) :=
  lw_calls (fs := Try.fs) (an := a_dom_Tree_Depth) (args := [(.pointer p0), (.int .i64 p1)]) Try.fsOK Try.mixed Try.func47 (by kernel_rfl) (by kernel_rfl)
    (Eq.mpr (by kernel_rfl : lwFn Try.prog Try.fs Try.f47 a_dom_Tree_Depth [(.pointer p0), (.int .i64 p1)] w R = L_dom_Tree_Depth p0 p1 R w) h)

/-- intaglio.intaglioref15.Depth -/
def a_intaglioref15_Depth : Ann := (.seq none .nil (.seq (some ⟨[0, 1], []⟩) (.seq none .nil (.cond (.seq none .nil .nil) .nil)) (.seq none .nil (.seq none (.seq none .nil (.one (.loop ⟨[0, 1], [(5, (.b (.int .i64))), (6, (.b (.int .i64)))]⟩ (.seq none (.seq none .nil (.cond .nil .nil)) (.seq (some ⟨[0, 1, 6], [(5, (.b (.int .i64)))]⟩) (.one (.seq none .nil (.cond .nil .nil))) .nil))))) (.seq none .nil .nil)))))
def L_intaglioref15_Depth (p0 : Sl) (p1 : Int) (R : Value → World → Prop) (w : World) : Prop :=
  JoinW (S := Unit) (fun m1 =>
      ifB (decide (p1 < (0 : Int)))
        (R (.int .i64 (-1 : Int)) w)
        (ifB (decide (p1 ≥ (p0.l : Int)))
          (R (.int .i64 (-1 : Int)) w)
          ((0 ≤ p1 ∧ p1 < (p0.l : Int)) ∧
          derefP p0.a fun a3 =>
          ldS w (a3.add (Int.toNat p1)) fun x4 =>
          (0 ≤ p1 ∧ p1 < (x4.l : Int)) ∧
          derefP x4.a fun a5 =>
          ldB w (a5.add (Int.toNat p1)) fun x6 =>
          ifB (!x6)
            (R (.int .i64 (-1 : Int)) w)
            (m1 (()) w))))
    (fun s2 w1 =>
      LoopW (S := Int × Int × Unit) (fun s7 w2 n8 =>
          ifB (decide (s7.2.1 < (p0.l : Int)))
            (JoinW (S := Int × Unit) (fun m9 =>
                (0 ≤ s7.2.1 ∧ s7.2.1 < (p0.l : Int)) ∧
                derefP p0.a fun a11 =>
                ldS w2 (a11.add (Int.toNat s7.2.1)) fun x12 =>
                (0 ≤ p1 ∧ p1 < (x12.l : Int)) ∧
                derefP x12.a fun a13 =>
                ldB w2 (a13.add (Int.toNat p1)) fun x14 =>
                ifB x14
                  (m9 ((IntKind.i64.wrap (s7.1 + (1 : Int))), ()) w2)
                  (m9 (s7.1, ()) w2))
              (fun s10 w3 =>
                n8 (s10.1, (IntKind.i64.wrap (s7.2.1 + (1 : Int))), ()) w3))
            (R (.int .i64 s7.1) w2))
        ((-1 : Int), (0 : Int), ()) w1)
theorem intaglioref15_Depth_calls (p0 : Sl) (p1 : Int) (R : Value → World → Prop) (w : World) (h : L_intaglioref15_Depth p0 p1 R w) : Calls Try.prog 48 #[(.slice p0.a p0.l p0.c), (.int .i64 p1)] w (Ret R) :=
  lw_calls (fs := Try.fs) (an := a_intaglioref15_Depth) (args := [(.slice p0.a p0.l p0.c), (.int .i64 p1)]) Try.fsOK Try.mixed Try.func48 (by kernel_rfl) (by kernel_rfl)
    (Eq.mpr (by kernel_rfl : lwFn Try.prog Try.fs Try.f48 a_intaglioref15_Depth [(.slice p0.a p0.l p0.c), (.int .i64 p1)] w R = L_intaglioref15_Depth p0 p1 R w) h)

/-- (*intaglio.dom.Tree).Under -/
def a_dom_Tree_Under : Ann := (.seq none .nil (.seq none (.seq none .nil (.cond (.seq none .nil .nil) .nil)) (.seq none .nil (.seq none (.seq none .nil (.one (.loop ⟨[1, 15, 16], [(5, (.b .slice)), (17, (.b (.int .i64)))]⟩ (.seq none .nil (.seq none (.cond .nil .nil) (.seq (some ⟨[1, 15, 16, 17], [(5, (.b .slice))]⟩) (.one (.seq none .nil (.seq none .nil (.cond .nil .nil)))) .nil)))))) (.seq none .nil .nil)))))
def L_dom_Tree_Under (p0 : Option Addr) (p1 : Int) (R : Value → World → Prop) (w : World) : Prop :=
  callR Try.prog 108 #[(.pointer p0), (.int .i64 p1)] w fun v1 w1 =>
  ∃ x2 : Bool, v1 = (.bool x2) ∧
  ifB (!x2)
    (R (.slice none 0 0) w1)
    (derefP p0 fun a3 =>
    ldS w1 (a3.add 1) fun x4 =>
    LoopW (S := Sl × Int × Unit) (fun s5 w2 n6 =>
        ifB (decide (s5.2.1 < (x4.l : Int)))
          (JoinW (S := Sl × Unit) (fun m7 =>
              (0 ≤ s5.2.1 ∧ s5.2.1 < (x4.l : Int)) ∧
              derefP x4.a fun a9 =>
              ldI w2 (a9.add (Int.toNat s5.2.1)) .i64 fun x10 =>
              ifB (x10 == p1)
                (Nw (w2.alloc (.cells #[(.int .i64 s5.2.1)] 3)) fun w3 =>
                appendS Try.prog 32 (.slice s5.1.a s5.1.l s5.1.c) (.slice (some (blk w2.heap.size)) 1 1) w3 fun r11 w4 =>
                m7 (r11, ()) w4)
                (m7 (s5.1, ()) w2))
            (fun s8 w5 =>
              n6 (s8.1, (IntKind.i64.wrap (s5.2.1 + (1 : Int))), ()) w5))
          (R (.slice s5.1.a s5.1.l s5.1.c) w2))
      ((Sl.mk none 0 0), (0 : Int), ()) w1)
theorem dom_Tree_Under_calls (p0 : Option Addr) (p1 : Int) (R : Value → World → Prop) (w : World) (h : L_dom_Tree_Under p0 p1 R w) : Calls Try.prog 49 #[(.pointer p0), (.int .i64 p1)] w (Ret R) :=
  lw_calls (fs := Try.fs) (an := a_dom_Tree_Under) (args := [(.pointer p0), (.int .i64 p1)]) Try.fsOK Try.mixed Try.func49 (by kernel_rfl) (by kernel_rfl)
    (Eq.mpr (by kernel_rfl : lwFn Try.prog Try.fs Try.f49 a_dom_Tree_Under [(.pointer p0), (.int .i64 p1)] w R = L_dom_Tree_Under p0 p1 R w) h)

/-- intaglio.intaglioref15.Under -/
def a_intaglioref15_Under : Ann := (.seq none .nil (.seq none .nil (.seq none (.seq none .nil (.one (.loop ⟨[0, 1], [(5, (.b .slice)), (6, (.b (.int .i64)))]⟩ (.seq none (.seq none .nil (.cond .nil .nil)) (.seq (some ⟨[0, 1, 6], [(5, (.b .slice))]⟩) (.one (.seq none .nil (.cond .nil .nil))) .nil))))) (.seq none .nil .nil))))
def L_intaglioref15_Under (p0 : Sl) (p1 : Int) (R : Value → World → Prop) (w : World) : Prop :=
  LoopW (S := Sl × Int × Unit) (fun s1 w1 n2 =>
      ifB (decide (s1.2.1 < (p0.l : Int)))
        (JoinW (S := Sl × Unit) (fun m3 =>
            ifB (decide (p1 ≥ (0 : Int)))
              (callR Try.prog 46 #[(.slice p0.a p0.l p0.c), (.int .i64 s1.2.1)] w1 fun v5 w2 =>
              ∃ x6 : Int, v5 = (.int .i64 x6) ∧
              ifB (x6 == p1)
                (Nw (w2.alloc (.cells #[(.int .i64 s1.2.1)] 3)) fun w3 =>
                appendS Try.prog 32 (.slice s1.1.a s1.1.l s1.1.c) (.slice (some (blk w2.heap.size)) 1 1) w3 fun r7 w4 =>
                m3 (r7, ()) w4)
                (m3 (s1.1, ()) w2))
              (m3 (s1.1, ()) w1))
          (fun s4 w5 =>
            n2 (s4.1, (IntKind.i64.wrap (s1.2.1 + (1 : Int))), ()) w5))
        (R (.slice s1.1.a s1.1.l s1.1.c) w1))
    ((Sl.mk none 0 0), (0 : Int), ()) w
theorem intaglioref15_Under_calls (p0 : Sl) (p1 : Int) (R : Value → World → Prop) (w : World) (h : L_intaglioref15_Under p0 p1 R w) : Calls Try.prog 50 #[(.slice p0.a p0.l p0.c), (.int .i64 p1)] w (Ret R) :=
  lw_calls (fs := Try.fs) (an := a_intaglioref15_Under) (args := [(.slice p0.a p0.l p0.c), (.int .i64 p1)]) Try.fsOK Try.mixed Try.func50 (by kernel_rfl) (by kernel_rfl)
    (Eq.mpr (by kernel_rfl : lwFn Try.prog Try.fs Try.f50 a_intaglioref15_Under [(.slice p0.a p0.l p0.c), (.int .i64 p1)] w R = L_intaglioref15_Under p0 p1 R w) h)

/-- (*intaglio.dom.Tree).Dominates -/
def a_dom_Tree_Dominates : Ann := (.seq none .nil (.seq none (.seq none .nil (.one (.loop ⟨[], [(11, (.b (.int .i64)))]⟩ (.seq none .nil (.one (.seq none .nil (.cond (.seq none .nil .nil) .nil))))))) (.seq none .nil .nil)))
def L_dom_Tree_Dominates (p0 : Option Addr) (p1 : Int) (p2 : Int) (R : Value → World → Prop) (w : World) : Prop :=
  Nw (w.alloc (.cells #[(.int .i64 p1)] 3)) fun w1 =>
  Nw (w1.alloc (.cells #[(.bool false)] 4)) fun w2 =>
  callR Try.prog 56 #[(.pointer p0), (.int .i64 p2)] w2 fun v1 w3 =>
  ∃ x2 : Value, v1 = x2 ∧
  RangeW Try.prog Try.fs x2 w3 (T := Int × Unit) (fun s3 => [(.int .i64 s3.1)])
    (fun mk4 l5 s3 w4 S6 =>
      w4.heap[l5]? = some (mk4 .ready none) ∧
      Nw (w4.putObj l5 (mk4 .busy none)) fun w5 =>
      ldI w5 (blk w.heap.size) .i64 fun x8 =>
      ifB (s3.1 == x8)
        (Wr w5 (blk w1.heap.size) ∧
        Nw (w5.setCell (blk w1.heap.size) (.bool true)) fun w6 =>
        w6.heap[l5]? = some (mk4 .busy none) ∧
        S6 (.bool false) (w6.putObj l5 (mk4 .done (some .ret))))
        (w5.heap[l5]? = some (mk4 .busy none) ∧
        S6 (.bool true) (w5.putObj l5 (mk4 .ready none))))
    (fun mk4 l5 d7 w7 =>
      (rangeOut mk4 l5 .ready none w7 fun w8 =>
        Wr w8 (blk w1.heap.size) ∧
        Nw (w8.setCell (blk w1.heap.size) (.bool false)) fun w9 =>
        closeM (d7 :: []) w9 fun w10 =>
        ldB w10 (blk w1.heap.size) fun x9 =>
        R (.bool x9) w10) ∨
      (rangeOut mk4 l5 .done (some .ret) w7 fun w11 =>
        closeM (d7 :: []) w11 fun w12 =>
        ldB w12 (blk w1.heap.size) fun x10 =>
        R (.bool x10) w12))
theorem dom_Tree_Dominates_calls (p0 : Option Addr) (p1 : Int) (p2 : Int) (R : Value → World → Prop) (w : World) (h : L_dom_Tree_Dominates p0 p1 p2 R w) : Calls Try.prog 51 #[(.pointer p0), (.int .i64 p1), (.int .i64 p2)] w (Ret R) :=
  lwR_calls (fs := Try.fs) (an := a_dom_Tree_Dominates) (args := [(.pointer p0), (.int .i64 p1), (.int .i64 p2)]) Try.fsOK Try.mixed Try.func51 (by kernel_rfl) (by kernel_rfl)
    (Eq.mpr (by kernel_rfl : lwRFn Try.prog Try.fs Try.f51 a_dom_Tree_Dominates [(.pointer p0), (.int .i64 p1), (.int .i64 p2)] w R = L_dom_Tree_Dominates p0 p1 p2 R w) h)

/-- intaglio.intaglioref15.Dominates -/
def a_intaglioref15_Dominates : Ann := (.seq none .nil (.seq none .nil (.seq (some ⟨[0, 1, 2], []⟩) (.seq none .nil (.cond (.seq none .nil .nil) .nil)) (.seq none .nil .nil))))
def L_intaglioref15_Dominates (p0 : Sl) (p1 : Int) (p2 : Int) (R : Value → World → Prop) (w : World) : Prop :=
  JoinW (S := Unit) (fun m1 =>
      ifB (decide (p1 < (0 : Int)))
        (R (.bool false) w)
        (ifB (decide (p2 < (0 : Int)))
          (R (.bool false) w)
          (ifB (decide (p1 ≥ (p0.l : Int)))
            (R (.bool false) w)
            (ifB (decide (p2 ≥ (p0.l : Int)))
              (R (.bool false) w)
              (m1 (()) w)))))
    (fun s2 w1 =>
      callR Try.prog 107 #[(.slice p0.a p0.l p0.c), (.int .i64 (-1 : Int))] w1 fun v3 w2 =>
      ∃ x4 : Sl, v3 = (.slice x4.a x4.l x4.c) ∧
      (0 ≤ p2 ∧ p2 < (x4.l : Int)) ∧
      derefP x4.a fun a5 =>
      ldB w2 (a5.add (Int.toNat p2)) fun x6 =>
      ifB x6
        (ifB (p1 == p2)
          (R (.bool true) w2)
          (callR Try.prog 107 #[(.slice p0.a p0.l p0.c), (.int .i64 p1)] w2 fun v7 w3 =>
          ∃ x8 : Sl, v7 = (.slice x8.a x8.l x8.c) ∧
          (0 ≤ p2 ∧ p2 < (x8.l : Int)) ∧
          derefP x8.a fun a9 =>
          ldB w3 (a9.add (Int.toNat p2)) fun x10 =>
          R (.bool (!x10)) w3))
        (R (.bool false) w2))
theorem intaglioref15_Dominates_calls (p0 : Sl) (p1 : Int) (p2 : Int) (R : Value → World → Prop) (w : World) (h : L_intaglioref15_Dominates p0 p1 p2 R w) : Calls Try.prog 52 #[(.slice p0.a p0.l p0.c), (.int .i64 p1), (.int .i64 p2)] w (Ret R) :=
  lw_calls (fs := Try.fs) (an := a_intaglioref15_Dominates) (args := [(.slice p0.a p0.l p0.c), (.int .i64 p1), (.int .i64 p2)]) Try.fsOK Try.mixed Try.func52 (by kernel_rfl) (by kernel_rfl)
    (Eq.mpr (by kernel_rfl : lwFn Try.prog Try.fs Try.f52 a_intaglioref15_Dominates [(.slice p0.a p0.l p0.c), (.int .i64 p1), (.int .i64 p2)] w R = L_intaglioref15_Dominates p0 p1 p2 R w) h)

/-- intaglio.intaglioref15.Near -/
def a_intaglioref15_Near : Ann := (.seq none .nil (.seq (some ⟨[0, 1, 2], []⟩) (.seq none .nil (.cond (.seq none .nil .nil) .nil)) (.seq none .nil (.seq none (.seq none .nil (.one (.loop ⟨[0, 1, 2], [(8, (.b (.int .i64))), (9, (.b (.int .i64)))]⟩ (.seq none (.seq none .nil (.cond .nil .nil)) (.seq (some ⟨[0, 1, 2, 9], [(8, (.b (.int .i64)))]⟩) (.one (.seq none .nil (.cond .nil .nil))) .nil))))) (.seq none .nil .nil)))))
def L_intaglioref15_Near (p0 : Sl) (p1 : Int) (p2 : Int) (R : Value → World → Prop) (w : World) : Prop :=
  JoinW (S := Unit) (fun m1 =>
      callR Try.prog 48 #[(.slice p0.a p0.l p0.c), (.int .i64 p1)] w fun v3 w1 =>
      ∃ x4 : Int, v3 = (.int .i64 x4) ∧
      ifB (decide (x4 < (0 : Int)))
        (R (.tuple #[(.int .i64 (0 : Int)), (.bool false)]) w1)
        (callR Try.prog 48 #[(.slice p0.a p0.l p0.c), (.int .i64 p2)] w1 fun v5 w2 =>
        ∃ x6 : Int, v5 = (.int .i64 x6) ∧
        ifB (decide (x6 < (0 : Int)))
          (R (.tuple #[(.int .i64 (0 : Int)), (.bool false)]) w2)
          (m1 (()) w2)))
    (fun s2 w3 =>
      LoopW (S := Int × Int × Unit) (fun s7 w4 n8 =>
          ifB (decide (s7.2.1 < (p0.l : Int)))
            (JoinW (S := Int × Unit) (fun m9 =>
                (0 ≤ s7.2.1 ∧ s7.2.1 < (p0.l : Int)) ∧
                derefP p0.a fun a11 =>
                ldS w4 (a11.add (Int.toNat s7.2.1)) fun x12 =>
                (0 ≤ p1 ∧ p1 < (x12.l : Int)) ∧
                derefP x12.a fun a13 =>
                ldB w4 (a13.add (Int.toNat p1)) fun x14 =>
                ifB x14
                  ((0 ≤ s7.2.1 ∧ s7.2.1 < (p0.l : Int)) ∧
                  derefP p0.a fun a15 =>
                  ldS w4 (a15.add (Int.toNat s7.2.1)) fun x16 =>
                  (0 ≤ p2 ∧ p2 < (x16.l : Int)) ∧
                  derefP x16.a fun a17 =>
                  ldB w4 (a17.add (Int.toNat p2)) fun x18 =>
                  ifB x18
                    (callR Try.prog 48 #[(.slice p0.a p0.l p0.c), (.int .i64 s7.2.1)] w4 fun v19 w5 =>
                    ∃ x20 : Int, v19 = (.int .i64 x20) ∧
                    callR Try.prog 48 #[(.slice p0.a p0.l p0.c), (.int .i64 s7.1)] w5 fun v21 w6 =>
                    ∃ x22 : Int, v21 = (.int .i64 x22) ∧
                    ifB (decide (x20 > x22))
                      (m9 (s7.2.1, ()) w6)
                      (m9 (s7.1, ()) w6))
                    (m9 (s7.1, ()) w4))
                  (m9 (s7.1, ()) w4))
              (fun s10 w7 =>
                n8 (s10.1, (IntKind.i64.wrap (s7.2.1 + (1 : Int))), ()) w7))
            (R (.tuple #[(.int .i64 s7.1), (.bool true)]) w4))
        ((0 : Int), (0 : Int), ()) w3)
theorem intaglioref15_Near_calls (p0 : Sl) (p1 : Int) (p2 : Int) (R : Value → World → Prop) (w : World) (h : L_intaglioref15_Near p0 p1 p2 R w) : Calls Try.prog 53 #[(.slice p0.a p0.l p0.c), (.int .i64 p1), (.int .i64 p2)] w (Ret R) :=
  lw_calls (fs := Try.fs) (an := a_intaglioref15_Near) (args := [(.slice p0.a p0.l p0.c), (.int .i64 p1), (.int .i64 p2)]) Try.fsOK Try.mixed Try.func53 (by kernel_rfl) (by kernel_rfl)
    (Eq.mpr (by kernel_rfl : lwFn Try.prog Try.fs Try.f53 a_intaglioref15_Near [(.slice p0.a p0.l p0.c), (.int .i64 p1), (.int .i64 p2)] w R = L_intaglioref15_Near p0 p1 p2 R w) h)

/-- (*intaglio.dom.Tree).Near -/
def a_dom_Tree_Near : Ann := (.seq none .nil (.seq (some ⟨[0, 1, 2], []⟩) (.seq none .nil (.cond (.seq none .nil .nil) .nil)) (.seq none .nil .nil)))
def L_dom_Tree_Near (p0 : Option Addr) (p1 : Int) (p2 : Int) (R : Value → World → Prop) (w : World) : Prop :=
  JoinW (S := Unit) (fun m1 =>
      callR Try.prog 108 #[(.pointer p0), (.int .i64 p1)] w fun v3 w1 =>
      ∃ x4 : Bool, v3 = (.bool x4) ∧
      ifB (!x4)
        (R (.tuple #[(.int .i64 (0 : Int)), (.bool false)]) w1)
        (callR Try.prog 108 #[(.pointer p0), (.int .i64 p2)] w1 fun v5 w2 =>
        ∃ x6 : Bool, v5 = (.bool x6) ∧
        ifB (!x6)
          (R (.tuple #[(.int .i64 (0 : Int)), (.bool false)]) w2)
          (m1 (()) w2)))
    (fun s2 w3 =>
      callR Try.prog 109 #[(.pointer p0), (.int .i64 p1), (.int .i64 p2)] w3 fun v7 w4 =>
      ∃ x8 : Int, v7 = (.int .i64 x8) ∧
      R (.tuple #[(.int .i64 x8), (.bool true)]) w4)
theorem dom_Tree_Near_calls (p0 : Option Addr) (p1 : Int) (p2 : Int) (R : Value → World → Prop) (w : World) (h : L_dom_Tree_Near p0 p1 p2 R w) : Calls Try.prog 54 #[(.pointer p0), (.int .i64 p1), (.int .i64 p2)] w (Ret R) :=
  lw_calls (fs := Try.fs) (an := a_dom_Tree_Near) (args := [(.pointer p0), (.int .i64 p1), (.int .i64 p2)]) Try.fsOK Try.mixed Try.func54 (by kernel_rfl) (by kernel_rfl)
    (Eq.mpr (by kernel_rfl : lwFn Try.prog Try.fs Try.f54 a_dom_Tree_Near [(.pointer p0), (.int .i64 p1), (.int .i64 p2)] w R = L_dom_Tree_Near p0 p1 p2 R w) h)

/-- intaglio.intaglioref15.Up -/
def a_intaglioref15_Up : Ann := (.seq none .nil (.seq none .nil (.seq none (.seq none .nil (.one (.loop ⟨[0, 1], [(5, (.b .slice)), (6, (.b (.int .i64)))]⟩ (.seq none (.seq none .nil (.cond .nil .nil)) (.seq none (.one (.seq none .nil (.one (.loop ⟨[0, 1, 6], [(5, (.b .slice)), (7, (.b (.int .i64)))]⟩ (.seq none (.seq none .nil (.cond .nil .nil)) (.seq (some ⟨[0, 1, 6, 7], [(5, (.b .slice))]⟩) (.one (.seq none .nil (.cond .nil .nil))) .nil)))))) .nil))))) (.seq none .nil .nil))))
def L_intaglioref15_Up (p0 : Sl) (p1 : Int) (R : Value → World → Prop) (w : World) : Prop :=
  callR Try.prog 48 #[(.slice p0.a p0.l p0.c), (.int .i64 p1)] w fun v1 w1 =>
  ∃ x2 : Int, v1 = (.int .i64 x2) ∧
  LoopW (S := Sl × Int × Unit) (fun s3 w2 n4 =>
      ifB (decide (s3.2.1 ≥ (0 : Int)))
        (LoopW (S := Sl × Int × Unit) (fun s5 w3 n6 =>
            ifB (decide (s5.2.1 < (p0.l : Int)))
              (JoinW (S := Sl × Unit) (fun m7 =>
                  (0 ≤ s5.2.1 ∧ s5.2.1 < (p0.l : Int)) ∧
                  derefP p0.a fun a9 =>
                  ldS w3 (a9.add (Int.toNat s5.2.1)) fun x10 =>
                  (0 ≤ p1 ∧ p1 < (x10.l : Int)) ∧
                  derefP x10.a fun a11 =>
                  ldB w3 (a11.add (Int.toNat p1)) fun x12 =>
                  ifB x12
                    (callR Try.prog 48 #[(.slice p0.a p0.l p0.c), (.int .i64 s5.2.1)] w3 fun v13 w4 =>
                    ∃ x14 : Int, v13 = (.int .i64 x14) ∧
                    ifB (x14 == s3.2.1)
                      (Nw (w4.alloc (.cells #[(.int .i64 s5.2.1)] 3)) fun w5 =>
                      appendS Try.prog 32 (.slice s5.1.a s5.1.l s5.1.c) (.slice (some (blk w4.heap.size)) 1 1) w5 fun r15 w6 =>
                      m7 (r15, ()) w6)
                      (m7 (s5.1, ()) w4))
                    (m7 (s5.1, ()) w3))
                (fun s8 w7 =>
                  n6 (s8.1, (IntKind.i64.wrap (s5.2.1 + (1 : Int))), ()) w7))
              (n4 (s5.1, (IntKind.i64.wrap (s3.2.1 - (1 : Int))), ()) w3))
          (s3.1, (0 : Int), ()) w2)
        (R (.slice s3.1.a s3.1.l s3.1.c) w2))
    ((Sl.mk none 0 0), x2, ()) w1
theorem intaglioref15_Up_calls (p0 : Sl) (p1 : Int) (R : Value → World → Prop) (w : World) (h : L_intaglioref15_Up p0 p1 R w) : Calls Try.prog 55 #[(.slice p0.a p0.l p0.c), (.int .i64 p1)] w (Ret R) :=
  lw_calls (fs := Try.fs) (an := a_intaglioref15_Up) (args := [(.slice p0.a p0.l p0.c), (.int .i64 p1)]) Try.fsOK Try.mixed Try.func55 (by kernel_rfl) (by kernel_rfl)
    (Eq.mpr (by kernel_rfl : lwFn Try.prog Try.fs Try.f55 a_intaglioref15_Up [(.slice p0.a p0.l p0.c), (.int .i64 p1)] w R = L_intaglioref15_Up p0 p1 R w) h)

/-- (*intaglio.dom.Tree).Up -/
def a_dom_Tree_Up : Ann := (.seq none .nil (.seq none .nil .nil))
def L_dom_Tree_Up (p0 : Option Addr) (p1 : Int) (R : Value → World → Prop) (w : World) : Prop :=
  Nw (w.alloc (.cells #[(.pointer p0)] 47)) fun w1 =>
  Nw (w1.alloc (.cells #[(.int .i64 p1)] 3)) fun w2 =>
  R (.func (.func 110) #[] #[(.pointer (some (blk w.heap.size))), (.pointer (some (blk w1.heap.size)))]) w2
theorem dom_Tree_Up_calls (p0 : Option Addr) (p1 : Int) (R : Value → World → Prop) (w : World) (h : L_dom_Tree_Up p0 p1 R w) : Calls Try.prog 56 #[(.pointer p0), (.int .i64 p1)] w (Ret R) :=
  lw_calls (fs := Try.fs) (an := a_dom_Tree_Up) (args := [(.pointer p0), (.int .i64 p1)]) Try.fsOK Try.mixed Try.func56 (by kernel_rfl) (by kernel_rfl)
    (Eq.mpr (by kernel_rfl : lwFn Try.prog Try.fs Try.f56 a_dom_Tree_Up [(.pointer p0), (.int .i64 p1)] w R = L_dom_Tree_Up p0 p1 R w) h)

/-- (*intaglio.dom.Tree).Frontier -/
def a_dom_Tree_Frontier : Ann := (.seq none .nil (.seq none (.seq none .nil (.cond (.seq none .nil .nil) .nil)) (.seq none .nil (.seq none (.seq none .nil (.one (.loop ⟨[2, 3, 15], [(5, (.b .slice)), (16, (.b (.int .i64)))]⟩ (.seq none .nil (.seq none (.cond .nil .nil) (.seq (some ⟨[2, 3, 15, 16], [(5, (.b .slice))]⟩) (.one (.seq none .nil (.seq none .nil (.cond .nil .nil)))) .nil)))))) (.seq none .nil .nil)))))
def L_dom_Tree_Frontier (p0 : Option Addr) (p1 : Int) (R : Value → World → Prop) (w : World) : Prop :=
  Nw (w.alloc (.cells #[(.pointer p0)] 47)) fun w1 =>
  Nw (w1.alloc (.cells #[(.int .i64 p1)] 3)) fun w2 =>
  ldP w2 (blk w.heap.size) fun x1 =>
  ldI w2 (blk w1.heap.size) .i64 fun x2 =>
  callR Try.prog 108 #[(.pointer x1), (.int .i64 x2)] w2 fun v3 w3 =>
  ∃ x4 : Bool, v3 = (.bool x4) ∧
  ifB (!x4)
    (R (.slice none 0 0) w3)
    (ldP w3 (blk w.heap.size) fun x5 =>
    derefP x5 fun a6 =>
    ldS w3 (a6.add 2) fun x7 =>
    LoopW (S := Sl × Int × Unit) (fun s8 w4 n9 =>
        ifB (decide (s8.2.1 < (x7.l : Int)))
          (JoinW (S := Sl × Unit) (fun m10 =>
              ldP w4 (blk w.heap.size) fun x12 =>
              callR Try.prog 108 #[(.pointer x12), (.int .i64 s8.2.1)] w4 fun v13 w5 =>
              ∃ x14 : Bool, v13 = (.bool x14) ∧
              ifB x14
                (ldI w5 (blk w1.heap.size) .i64 fun x15 =>
                ifB (s8.2.1 == x15)
                  (ldP w5 (blk w.heap.size) fun x16 =>
                  derefP x16 fun a17 =>
                  ldP w5 a17 fun x18 =>
                  callR Try.prog 36 #[(.pointer x18), (.int .i64 s8.2.1)] w5 fun v19 w6 =>
                  ∃ x20 : Sl, v19 = (.slice x20.a x20.l x20.c) ∧
                  callR Try.prog 111 #[(.slice x20.a x20.l x20.c), (.func (.func 112) #[] #[(.pointer (some (blk w.heap.size))), (.pointer (some (blk w1.heap.size)))])] w6 fun v21 w7 =>
                  ∃ x22 : Bool, v21 = (.bool x22) ∧
                  ifB x22
                    (Nw (w7.alloc (.cells #[(.int .i64 s8.2.1)] 3)) fun w8 =>
                    appendS Try.prog 32 (.slice s8.1.a s8.1.l s8.1.c) (.slice (some (blk w7.heap.size)) 1 1) w8 fun r23 w9 =>
                    m10 (r23, ()) w9)
                    (m10 (s8.1, ()) w7))
                  (ldP w5 (blk w.heap.size) fun x24 =>
                  ldI w5 (blk w1.heap.size) .i64 fun x25 =>
                  callR Try.prog 51 #[(.pointer x24), (.int .i64 x25), (.int .i64 s8.2.1)] w5 fun v26 w10 =>
                  ∃ x27 : Bool, v26 = (.bool x27) ∧
                  ifB (!x27)
                    (ldP w10 (blk w.heap.size) fun x28 =>
                    derefP x28 fun a29 =>
                    ldP w10 a29 fun x30 =>
                    callR Try.prog 36 #[(.pointer x30), (.int .i64 s8.2.1)] w10 fun v31 w11 =>
                    ∃ x32 : Sl, v31 = (.slice x32.a x32.l x32.c) ∧
                    callR Try.prog 111 #[(.slice x32.a x32.l x32.c), (.func (.func 112) #[] #[(.pointer (some (blk w.heap.size))), (.pointer (some (blk w1.heap.size)))])] w11 fun v33 w12 =>
                    ∃ x34 : Bool, v33 = (.bool x34) ∧
                    ifB x34
                      (Nw (w12.alloc (.cells #[(.int .i64 s8.2.1)] 3)) fun w13 =>
                      appendS Try.prog 32 (.slice s8.1.a s8.1.l s8.1.c) (.slice (some (blk w12.heap.size)) 1 1) w13 fun r35 w14 =>
                      m10 (r35, ()) w14)
                      (m10 (s8.1, ()) w12))
                    (m10 (s8.1, ()) w10)))
                (m10 (s8.1, ()) w5))
            (fun s11 w15 =>
              n9 (s11.1, (IntKind.i64.wrap (s8.2.1 + (1 : Int))), ()) w15))
          (R (.slice s8.1.a s8.1.l s8.1.c) w4))
      ((Sl.mk none 0 0), (0 : Int), ()) w3)
theorem dom_Tree_Frontier_calls (p0 : Option Addr) (p1 : Int) (R : Value → World → Prop) (w : World) (h : L_dom_Tree_Frontier p0 p1 R w) : Calls Try.prog 57 #[(.pointer p0), (.int .i64 p1)] w (Ret R) :=
  lw_calls (fs := Try.fs) (an := a_dom_Tree_Frontier) (args := [(.pointer p0), (.int .i64 p1)]) Try.fsOK Try.mixed Try.func57 (by kernel_rfl) (by kernel_rfl)
    (Eq.mpr (by kernel_rfl : lwFn Try.prog Try.fs Try.f57 a_dom_Tree_Frontier [(.pointer p0), (.int .i64 p1)] w R = L_dom_Tree_Frontier p0 p1 R w) h)

/-- intaglio.intaglioref15.Frontier -/
def a_intaglioref15_Frontier : Ann := (.seq none .nil (.seq none .nil (.seq none (.seq none .nil (.cond (.seq none .nil .nil) .nil)) (.seq none (.seq none .nil (.one (.loop ⟨[0, 1, 2], [(7, (.b .slice)), (8, (.b (.int .i64)))]⟩ (.seq none (.seq none .nil (.cond .nil .nil)) (.seq (some ⟨[0, 1, 2, 8], [(7, (.b .slice))]⟩) (.one (.seq none .nil (.seq none (.seq none .nil (.one (.loop ⟨[0, 1, 2, 7, 8], [(9, (.b .bool)), (10, (.b (.int .i64)))]⟩ (.seq none (.seq none .nil (.cond .nil .nil)) (.seq none (.one (.seq none .nil (.one (.loop ⟨[0, 1, 2, 7, 8, 10], [(9, (.b .bool)), (11, (.b (.int .i64)))]⟩ (.seq none (.seq none .nil (.cond .nil .nil)) (.seq (some ⟨[0, 1, 2, 7, 8, 10, 11], [(9, (.b .bool))]⟩) (.one (.seq none .nil (.cond .nil .nil))) .nil)))))) .nil))))) (.seq none .nil (.cond .nil .nil))))) .nil))))) (.seq none .nil .nil)))))
def L_intaglioref15_Frontier (p0 : Sl) (p1 : Sl) (p2 : Int) (R : Value → World → Prop) (w : World) : Prop :=
  callR Try.prog 48 #[(.slice p1.a p1.l p1.c), (.int .i64 p2)] w fun v1 w1 =>
  ∃ x2 : Int, v1 = (.int .i64 x2) ∧
  ifB (decide (x2 < (0 : Int)))
    (R (.slice none 0 0) w1)
    (LoopW (S := Sl × Int × Unit) (fun s3 w2 n4 =>
        ifB (decide (s3.2.1 < (p1.l : Int)))
          (JoinW (S := Sl × Unit) (fun m5 =>
              LoopW (S := Bool × Int × Unit) (fun s7 w3 n8 =>
                  ifB (decide (s7.2.1 < (p1.l : Int)))
                    (LoopW (S := Bool × Int × Unit) (fun s9 w4 n10 =>
                        (0 ≤ s7.2.1 ∧ s7.2.1 < (p0.l : Int)) ∧
                        derefP p0.a fun a11 =>
                        ldS w4 (a11.add (Int.toNat s7.2.1)) fun x12 =>
                        ifB (decide (s9.2.1 < (x12.l : Int)))
                          (JoinW (S := Bool × Unit) (fun m13 =>
                              (0 ≤ s7.2.1 ∧ s7.2.1 < (p0.l : Int)) ∧
                              derefP p0.a fun a15 =>
                              ldS w4 (a15.add (Int.toNat s7.2.1)) fun x16 =>
                              (0 ≤ s9.2.1 ∧ s9.2.1 < (x16.l : Int)) ∧
                              derefP x16.a fun a17 =>
                              ldI w4 (a17.add (Int.toNat s9.2.1)) .i64 fun x18 =>
                              ifB (x18 == s3.2.1)
                                ((0 ≤ p2 ∧ p2 < (p1.l : Int)) ∧
                                derefP p1.a fun a19 =>
                                ldS w4 (a19.add (Int.toNat p2)) fun x20 =>
                                (0 ≤ s7.2.1 ∧ s7.2.1 < (x20.l : Int)) ∧
                                derefP x20.a fun a21 =>
                                ldB w4 (a21.add (Int.toNat s7.2.1)) fun x22 =>
                                ifB x22
                                  (m13 (true, ()) w4)
                                  (m13 (s9.1, ()) w4))
                                (m13 (s9.1, ()) w4))
                            (fun s14 w5 =>
                              n10 (s14.1, (IntKind.i64.wrap (s9.2.1 + (1 : Int))), ()) w5))
                          (n8 (s9.1, (IntKind.i64.wrap (s7.2.1 + (1 : Int))), ()) w4))
                      (s7.1, (0 : Int), ()) w3)
                    (ifB s7.1
                      (ifB (s3.2.1 == p2)
                        (Nw (w3.alloc (.cells #[(.int .i64 s3.2.1)] 3)) fun w6 =>
                        appendS Try.prog 32 (.slice s3.1.a s3.1.l s3.1.c) (.slice (some (blk w3.heap.size)) 1 1) w6 fun r23 w7 =>
                        m5 (r23, ()) w7)
                        ((0 ≤ p2 ∧ p2 < (p1.l : Int)) ∧
                        derefP p1.a fun a24 =>
                        ldS w3 (a24.add (Int.toNat p2)) fun x25 =>
                        (0 ≤ s3.2.1 ∧ s3.2.1 < (x25.l : Int)) ∧
                        derefP x25.a fun a26 =>
                        ldB w3 (a26.add (Int.toNat s3.2.1)) fun x27 =>
                        ifB (!x27)
                          (Nw (w3.alloc (.cells #[(.int .i64 s3.2.1)] 3)) fun w8 =>
                          appendS Try.prog 32 (.slice s3.1.a s3.1.l s3.1.c) (.slice (some (blk w3.heap.size)) 1 1) w8 fun r28 w9 =>
                          m5 (r28, ()) w9)
                          (m5 (s3.1, ()) w3)))
                      (m5 (s3.1, ()) w3)))
                (false, (0 : Int), ()) w2)
            (fun s6 w10 =>
              n4 (s6.1, (IntKind.i64.wrap (s3.2.1 + (1 : Int))), ()) w10))
          (R (.slice s3.1.a s3.1.l s3.1.c) w2))
      ((Sl.mk none 0 0), (0 : Int), ()) w1)
theorem intaglioref15_Frontier_calls (p0 : Sl) (p1 : Sl) (p2 : Int) (R : Value → World → Prop) (w : World) (h : L_intaglioref15_Frontier p0 p1 p2 R w) : Calls Try.prog 58 #[(.slice p0.a p0.l p0.c), (.slice p1.a p1.l p1.c), (.int .i64 p2)] w (Ret R) :=
  lw_calls (fs := Try.fs) (an := a_intaglioref15_Frontier) (args := [(.slice p0.a p0.l p0.c), (.slice p1.a p1.l p1.c), (.int .i64 p2)]) Try.fsOK Try.mixed Try.func58 (by kernel_rfl) (by kernel_rfl)
    (Eq.mpr (by kernel_rfl : lwFn Try.prog Try.fs Try.f58 a_intaglioref15_Frontier [(.slice p0.a p0.l p0.c), (.slice p1.a p1.l p1.c), (.int .i64 p2)] w R = L_intaglioref15_Frontier p0 p1 p2 R w) h)

/-- intaglio.intaglioref15.Backs -/
def a_intaglioref15_Backs : Ann := (.seq none .nil (.seq none .nil (.seq none (.seq none .nil (.one (.loop ⟨[0, 1], [(5, (.b .slice)), (6, (.b (.int .i64)))]⟩ (.seq none (.seq none .nil (.cond .nil .nil)) (.seq none (.one (.seq none .nil (.one (.loop ⟨[0, 1, 6], [(5, (.b .slice)), (7, (.b (.int .i64)))]⟩ (.seq none (.seq none .nil (.cond .nil .nil)) (.seq (some ⟨[0, 1, 6, 7], [(5, (.b .slice))]⟩) (.one (.seq none .nil (.seq none (.seq none .nil (.one (.loop ⟨[0, 1, 5, 6, 7], [(8, (.b .bool)), (9, (.b (.int .i64)))]⟩ (.seq none (.seq none .nil (.cond .nil .nil)) (.seq (some ⟨[0, 1, 5, 6, 7, 9], [(8, (.b .bool))]⟩) (.one (.seq none .nil (.cond .nil .nil))) .nil))))) (.seq none .nil (.cond .nil .nil))))) .nil)))))) .nil))))) (.seq none .nil .nil))))
def L_intaglioref15_Backs (p0 : Sl) (p1 : Sl) (R : Value → World → Prop) (w : World) : Prop :=
  LoopW (S := Sl × Int × Unit) (fun s1 w1 n2 =>
      ifB (decide (s1.2.1 < (p1.l : Int)))
        (LoopW (S := Sl × Int × Unit) (fun s3 w2 n4 =>
            ifB (decide (s3.2.1 < (p1.l : Int)))
              (JoinW (S := Sl × Unit) (fun m5 =>
                  LoopW (S := Bool × Int × Unit) (fun s7 w3 n8 =>
                      (0 ≤ s1.2.1 ∧ s1.2.1 < (p0.l : Int)) ∧
                      derefP p0.a fun a9 =>
                      ldS w3 (a9.add (Int.toNat s1.2.1)) fun x10 =>
                      ifB (decide (s7.2.1 < (x10.l : Int)))
                        (JoinW (S := Bool × Unit) (fun m11 =>
                            (0 ≤ s1.2.1 ∧ s1.2.1 < (p0.l : Int)) ∧
                            derefP p0.a fun a13 =>
                            ldS w3 (a13.add (Int.toNat s1.2.1)) fun x14 =>
                            (0 ≤ s7.2.1 ∧ s7.2.1 < (x14.l : Int)) ∧
                            derefP x14.a fun a15 =>
                            ldI w3 (a15.add (Int.toNat s7.2.1)) .i64 fun x16 =>
                            ifB (x16 == s3.2.1)
                              (m11 (true, ()) w3)
                              (m11 (s7.1, ()) w3))
                          (fun s12 w4 =>
                            n8 (s12.1, (IntKind.i64.wrap (s7.2.1 + (1 : Int))), ()) w4))
                        (ifB s7.1
                          ((0 ≤ s3.2.1 ∧ s3.2.1 < (p1.l : Int)) ∧
                          derefP p1.a fun a17 =>
                          ldS w3 (a17.add (Int.toNat s3.2.1)) fun x18 =>
                          (0 ≤ s1.2.1 ∧ s1.2.1 < (x18.l : Int)) ∧
                          derefP x18.a fun a19 =>
                          ldB w3 (a19.add (Int.toNat s1.2.1)) fun x20 =>
                          ifB x20
                            (Nw (w3.alloc (.cells #[(.int .i64 s1.2.1), (.int .i64 s3.2.1)] 105)) fun w5 =>
                            appendS Try.prog 102 (.slice s3.1.a s3.1.l s3.1.c) (.slice (some (blk w3.heap.size)) 1 1) w5 fun r21 w6 =>
                            m5 (r21, ()) w6)
                            (m5 (s3.1, ()) w3))
                          (m5 (s3.1, ()) w3)))
                    (false, (0 : Int), ()) w2)
                (fun s6 w7 =>
                  n4 (s6.1, (IntKind.i64.wrap (s3.2.1 + (1 : Int))), ()) w7))
              (n2 (s3.1, (IntKind.i64.wrap (s1.2.1 + (1 : Int))), ()) w2))
          (s1.1, (0 : Int), ()) w1)
        (R (.slice s1.1.a s1.1.l s1.1.c) w1))
    ((Sl.mk none 0 0), (0 : Int), ()) w
theorem intaglioref15_Backs_calls (p0 : Sl) (p1 : Sl) (R : Value → World → Prop) (w : World) (h : L_intaglioref15_Backs p0 p1 R w) : Calls Try.prog 85 #[(.slice p0.a p0.l p0.c), (.slice p1.a p1.l p1.c)] w (Ret R) :=
  lw_calls (fs := Try.fs) (an := a_intaglioref15_Backs) (args := [(.slice p0.a p0.l p0.c), (.slice p1.a p1.l p1.c)]) Try.fsOK Try.mixed Try.func85 (by kernel_rfl) (by kernel_rfl)
    (Eq.mpr (by kernel_rfl : lwFn Try.prog Try.fs Try.f85 a_intaglioref15_Backs [(.slice p0.a p0.l p0.c), (.slice p1.a p1.l p1.c)] w R = L_intaglioref15_Backs p0 p1 R w) h)

/-- (*intaglio.dom.Tree).Backs -/
def a_dom_Tree_Backs : Ann := (.seq none .nil (.seq none (.seq none .nil (.cond (.seq none .nil .nil) .nil)) (.seq none .nil (.seq none (.seq none .nil (.one (.loop ⟨[0, 14], [(3, (.b .slice)), (15, (.b (.int .i64)))]⟩ (.seq none .nil (.seq none (.cond .nil .nil) (.seq none (.one (.seq none .nil (.seq none .nil (.seq none .nil (.seq none .nil (.one (.loop ⟨[0, 4, 14, 15, 28, 29], [(3, (.b .slice)), (30, (.b (.int .i64)))]⟩ (.seq none .nil (.seq none (.cond .nil .nil) (.seq (some ⟨[0, 4, 14, 15, 28, 29, 30], [(3, (.b .slice))]⟩) (.one (.seq none .nil (.seq none .nil (.cond .nil .nil)))) .nil)))))))))) .nil)))))) (.seq none .nil .nil)))))
def L_dom_Tree_Backs (p0 : Option Addr) (R : Value → World → Prop) (w : World) : Prop :=
  ifB (Option.isNone p0)
    (R (.slice none 0 0) w)
    (derefP p0 fun a1 =>
    ldS w (a1.add 2) fun x2 =>
    LoopW (S := Sl × Int × Unit) (fun s3 w1 n4 =>
        ifB (decide (s3.2.1 < (x2.l : Int)))
          (derefP p0 fun a5 =>
          ldP w1 a5 fun x6 =>
          callR Try.prog 34 #[(.pointer x6), (.int .i64 s3.2.1)] w1 fun v7 w2 =>
          ∃ x8 : Sl, v7 = (.slice x8.a x8.l x8.c) ∧
          callR Try.prog 104 #[(.slice x8.a x8.l x8.c)] w2 fun v9 w3 =>
          ∃ x10 : Sl, v9 = (.slice x10.a x10.l x10.c) ∧
          callR Try.prog 132 #[(.slice x10.a x10.l x10.c)] w3 fun v11 w4 =>
          v11 = (.tuple #[]) ∧
          callR Try.prog 133 #[(.slice x10.a x10.l x10.c)] w4 fun v12 w5 =>
          ∃ x13 : Sl, v12 = (.slice x13.a x13.l x13.c) ∧
          LoopW (S := Sl × Int × Unit) (fun s14 w6 n15 =>
              ifB (decide (s14.2.1 < (x13.l : Int)))
                (JoinW (S := Sl × Unit) (fun m16 =>
                    (0 ≤ s14.2.1 ∧ s14.2.1 < (x13.l : Int)) ∧
                    derefP x13.a fun a18 =>
                    ldI w6 (a18.add (Int.toNat s14.2.1)) .i64 fun x19 =>
                    callR Try.prog 51 #[(.pointer p0), (.int .i64 x19), (.int .i64 s3.2.1)] w6 fun v20 w7 =>
                    ∃ x21 : Bool, v20 = (.bool x21) ∧
                    ifB x21
                      (Nw (w7.alloc (.cells #[(.int .i64 s3.2.1), (.int .i64 x19)] 105)) fun w8 =>
                      appendS Try.prog 102 (.slice s14.1.a s14.1.l s14.1.c) (.slice (some (blk w7.heap.size)) 1 1) w8 fun r22 w9 =>
                      m16 (r22, ()) w9)
                      (m16 (s14.1, ()) w7))
                  (fun s17 w10 =>
                    n15 (s17.1, (IntKind.i64.wrap (s14.2.1 + (1 : Int))), ()) w10))
                (n4 (s14.1, (IntKind.i64.wrap (s3.2.1 + (1 : Int))), ()) w6))
            (s3.1, (0 : Int), ()) w5)
          (R (.slice s3.1.a s3.1.l s3.1.c) w1))
      ((Sl.mk none 0 0), (0 : Int), ()) w)
theorem dom_Tree_Backs_calls (p0 : Option Addr) (R : Value → World → Prop) (w : World) (h : L_dom_Tree_Backs p0 R w) : Calls Try.prog 86 #[(.pointer p0)] w (Ret R) :=
  lw_calls (fs := Try.fs) (an := a_dom_Tree_Backs) (args := [(.pointer p0)]) Try.fsOK Try.mixed Try.func86 (by kernel_rfl) (by kernel_rfl)
    (Eq.mpr (by kernel_rfl : lwFn Try.prog Try.fs Try.f86 a_dom_Tree_Backs [(.pointer p0)] w R = L_dom_Tree_Backs p0 R w) h)

/-- intaglio.dom.New -/
def a_dom_New : Ann := (.seq none .nil (.seq none (.seq none .nil (.cond (.seq none .nil .nil) .nil)) (.seq none .nil (.seq (some ⟨[0], [(5, (.b .ptr))]⟩) .nil (.seq none .nil (.seq none (.seq none .nil (.one (.loop ⟨[5, 6, 28, 29], [(30, (.b (.int .i64)))]⟩ (.seq none .nil (.seq none (.cond .nil .nil) (.seq none (.one (.seq none .nil .nil)) .nil)))))) (.seq none .nil (.seq none (.seq none .nil (.one (.loop ⟨[5, 46, 47], [(48, (.b (.int .i64)))]⟩ (.seq none .nil (.seq none (.cond .nil .nil) (.seq (some ⟨[5, 46, 47, 48], []⟩) (.one (.seq none .nil (.seq none .nil (.seq none .nil (.cond .nil .nil))))) .nil)))))) (.seq none .nil .nil)))))))))
def L_dom_New (p0 : Option Addr) (R : Value → World → Prop) (w : World) : Prop :=
  ifB (Option.isNone p0)
    (R (.tuple #[(.pointer none), (.int .i64 (1 : Int))]) w)
    (callR Try.prog 33 #[(.pointer p0)] w fun v1 w1 =>
    ∃ x2 : Int, v1 = (.int .i64 x2) ∧
    JoinW (S := (Option Addr) × Unit) (fun m3 =>
        (Nw (w1.drew.alloc (.cells #[(.int .i64 (-1 : Int))] 3)) fun w2 =>
        (callR Try.prog 134 #[(.slice (some (blk w1.drew.heap.size)) 1 1), (.int .i64 x2)] w2 fun v5 w3 =>
        ∃ x6 : Sl, v5 = (.slice x6.a x6.l x6.c) ∧
        (Nw (w3.alloc (.cells #[(.int .i64 (-1 : Int))] 3)) fun w4 =>
        (callR Try.prog 134 #[(.slice (some (blk w3.heap.size)) 1 1), (.int .i64 x2)] w4 fun v7 w5 =>
        ∃ x8 : Sl, v7 = (.slice x8.a x8.l x8.c) ∧
        (0 ≤ x2 ∧ x2 ≤ x2 ∧ (8 : Int) * x2 ≤ 281474976710656 ∧ x2 ≤ 9223372036854775807) ∧
        Nw (w5.alloc (.cells (madeCells #[(.int .i64 (0 : Int))] ((Int.toNat x2) * 1)) 3)) fun w6 =>
        Nw (w6.alloc (.cells #[(.pointer p0), (.slice x6.a x6.l x6.c), (.slice x8.a x8.l x8.c), (.slice (some (blk w5.heap.size)) (Int.toNat x2) (Int.toNat x2))] 129)) fun w7 =>
        m3 ((some (blk w6.heap.size)), ()) w7) ∧
        (0 ≤ x2 ∧ x2 ≤ x2 ∧ (8 : Int) * x2 ≤ 281474976710656 ∧ x2 ≤ 9223372036854775807) ∧
        Nw (w4.alloc (.cells (madeCells #[(.int .i64 (0 : Int))] ((Int.toNat x2) * 1)) 3)) fun w8 =>
        callR Try.prog 134 #[(.slice (some (blk w3.heap.size)) 1 1), (.int .i64 x2)] w8 fun v9 w9 =>
        ∃ x10 : Sl, v9 = (.slice x10.a x10.l x10.c) ∧
        Nw (w9.alloc (.cells #[(.pointer p0), (.slice x6.a x6.l x6.c), (.slice x10.a x10.l x10.c), (.slice (some (blk w4.heap.size)) (Int.toNat x2) (Int.toNat x2))] 129)) fun w10 =>
        m3 ((some (blk w9.heap.size)), ()) w10) ∧
        (0 ≤ x2 ∧ x2 ≤ x2 ∧ (8 : Int) * x2 ≤ 281474976710656 ∧ x2 ≤ 9223372036854775807) ∧
        Nw (w3.alloc (.cells (madeCells #[(.int .i64 (0 : Int))] ((Int.toNat x2) * 1)) 3)) fun w11 =>
        Nw (w11.alloc (.cells #[(.int .i64 (-1 : Int))] 3)) fun w12 =>
        callR Try.prog 134 #[(.slice (some (blk w11.heap.size)) 1 1), (.int .i64 x2)] w12 fun v11 w13 =>
        ∃ x12 : Sl, v11 = (.slice x12.a x12.l x12.c) ∧
        Nw (w13.alloc (.cells #[(.pointer p0), (.slice x6.a x6.l x6.c), (.slice x12.a x12.l x12.c), (.slice (some (blk w3.heap.size)) (Int.toNat x2) (Int.toNat x2))] 129)) fun w14 =>
        m3 ((some (blk w13.heap.size)), ()) w14) ∧
        (Nw (w2.alloc (.cells #[(.int .i64 (-1 : Int))] 3)) fun w15 =>
        (callR Try.prog 134 #[(.slice (some (blk w1.drew.heap.size)) 1 1), (.int .i64 x2)] w15 fun v13 w16 =>
        ∃ x14 : Sl, v13 = (.slice x14.a x14.l x14.c) ∧
        (callR Try.prog 134 #[(.slice (some (blk w2.heap.size)) 1 1), (.int .i64 x2)] w16 fun v15 w17 =>
        ∃ x16 : Sl, v15 = (.slice x16.a x16.l x16.c) ∧
        (0 ≤ x2 ∧ x2 ≤ x2 ∧ (8 : Int) * x2 ≤ 281474976710656 ∧ x2 ≤ 9223372036854775807) ∧
        Nw (w17.alloc (.cells (madeCells #[(.int .i64 (0 : Int))] ((Int.toNat x2) * 1)) 3)) fun w18 =>
        Nw (w18.alloc (.cells #[(.pointer p0), (.slice x14.a x14.l x14.c), (.slice x16.a x16.l x16.c), (.slice (some (blk w17.heap.size)) (Int.toNat x2) (Int.toNat x2))] 129)) fun w19 =>
        m3 ((some (blk w18.heap.size)), ()) w19) ∧
        (0 ≤ x2 ∧ x2 ≤ x2 ∧ (8 : Int) * x2 ≤ 281474976710656 ∧ x2 ≤ 9223372036854775807) ∧
        Nw (w16.alloc (.cells (madeCells #[(.int .i64 (0 : Int))] ((Int.toNat x2) * 1)) 3)) fun w20 =>
        callR Try.prog 134 #[(.slice (some (blk w2.heap.size)) 1 1), (.int .i64 x2)] w20 fun v17 w21 =>
        ∃ x18 : Sl, v17 = (.slice x18.a x18.l x18.c) ∧
        Nw (w21.alloc (.cells #[(.pointer p0), (.slice x14.a x14.l x14.c), (.slice x18.a x18.l x18.c), (.slice (some (blk w16.heap.size)) (Int.toNat x2) (Int.toNat x2))] 129)) fun w22 =>
        m3 ((some (blk w21.heap.size)), ()) w22) ∧
        (0 ≤ x2 ∧ x2 ≤ x2 ∧ (8 : Int) * x2 ≤ 281474976710656 ∧ x2 ≤ 9223372036854775807) ∧
        Nw (w15.alloc (.cells (madeCells #[(.int .i64 (0 : Int))] ((Int.toNat x2) * 1)) 3)) fun w23 =>
        callR Try.prog 134 #[(.slice (some (blk w1.drew.heap.size)) 1 1), (.int .i64 x2)] w23 fun v19 w24 =>
        ∃ x20 : Sl, v19 = (.slice x20.a x20.l x20.c) ∧
        callR Try.prog 134 #[(.slice (some (blk w2.heap.size)) 1 1), (.int .i64 x2)] w24 fun v21 w25 =>
        ∃ x22 : Sl, v21 = (.slice x22.a x22.l x22.c) ∧
        Nw (w25.alloc (.cells #[(.pointer p0), (.slice x20.a x20.l x20.c), (.slice x22.a x22.l x22.c), (.slice (some (blk w15.heap.size)) (Int.toNat x2) (Int.toNat x2))] 129)) fun w26 =>
        m3 ((some (blk w25.heap.size)), ()) w26) ∧
        (0 ≤ x2 ∧ x2 ≤ x2 ∧ (8 : Int) * x2 ≤ 281474976710656 ∧ x2 ≤ 9223372036854775807) ∧
        Nw (w2.alloc (.cells (madeCells #[(.int .i64 (0 : Int))] ((Int.toNat x2) * 1)) 3)) fun w27 =>
        (callR Try.prog 134 #[(.slice (some (blk w1.drew.heap.size)) 1 1), (.int .i64 x2)] w27 fun v23 w28 =>
        ∃ x24 : Sl, v23 = (.slice x24.a x24.l x24.c) ∧
        Nw (w28.alloc (.cells #[(.int .i64 (-1 : Int))] 3)) fun w29 =>
        callR Try.prog 134 #[(.slice (some (blk w28.heap.size)) 1 1), (.int .i64 x2)] w29 fun v25 w30 =>
        ∃ x26 : Sl, v25 = (.slice x26.a x26.l x26.c) ∧
        Nw (w30.alloc (.cells #[(.pointer p0), (.slice x24.a x24.l x24.c), (.slice x26.a x26.l x26.c), (.slice (some (blk w2.heap.size)) (Int.toNat x2) (Int.toNat x2))] 129)) fun w31 =>
        m3 ((some (blk w30.heap.size)), ()) w31) ∧
        Nw (w27.alloc (.cells #[(.int .i64 (-1 : Int))] 3)) fun w32 =>
        callR Try.prog 134 #[(.slice (some (blk w1.drew.heap.size)) 1 1), (.int .i64 x2)] w32 fun v27 w33 =>
        ∃ x28 : Sl, v27 = (.slice x28.a x28.l x28.c) ∧
        callR Try.prog 134 #[(.slice (some (blk w27.heap.size)) 1 1), (.int .i64 x2)] w33 fun v29 w34 =>
        ∃ x30 : Sl, v29 = (.slice x30.a x30.l x30.c) ∧
        Nw (w34.alloc (.cells #[(.pointer p0), (.slice x28.a x28.l x28.c), (.slice x30.a x30.l x30.c), (.slice (some (blk w2.heap.size)) (Int.toNat x2) (Int.toNat x2))] 129)) fun w35 =>
        m3 ((some (blk w34.heap.size)), ()) w35) ∧
        (Nw (w1.drew.alloc (.cells #[(.int .i64 (-1 : Int))] 3)) fun w36 =>
        (Nw (w36.alloc (.cells #[(.int .i64 (-1 : Int))] 3)) fun w37 =>
        (callR Try.prog 134 #[(.slice (some (blk w36.heap.size)) 1 1), (.int .i64 x2)] w37 fun v31 w38 =>
        ∃ x32 : Sl, v31 = (.slice x32.a x32.l x32.c) ∧
        (callR Try.prog 134 #[(.slice (some (blk w1.drew.heap.size)) 1 1), (.int .i64 x2)] w38 fun v33 w39 =>
        ∃ x34 : Sl, v33 = (.slice x34.a x34.l x34.c) ∧
        (0 ≤ x2 ∧ x2 ≤ x2 ∧ (8 : Int) * x2 ≤ 281474976710656 ∧ x2 ≤ 9223372036854775807) ∧
        Nw (w39.alloc (.cells (madeCells #[(.int .i64 (0 : Int))] ((Int.toNat x2) * 1)) 3)) fun w40 =>
        Nw (w40.alloc (.cells #[(.pointer p0), (.slice x32.a x32.l x32.c), (.slice x34.a x34.l x34.c), (.slice (some (blk w39.heap.size)) (Int.toNat x2) (Int.toNat x2))] 129)) fun w41 =>
        m3 ((some (blk w40.heap.size)), ()) w41) ∧
        (0 ≤ x2 ∧ x2 ≤ x2 ∧ (8 : Int) * x2 ≤ 281474976710656 ∧ x2 ≤ 9223372036854775807) ∧
        Nw (w38.alloc (.cells (madeCells #[(.int .i64 (0 : Int))] ((Int.toNat x2) * 1)) 3)) fun w42 =>
        callR Try.prog 134 #[(.slice (some (blk w1.drew.heap.size)) 1 1), (.int .i64 x2)] w42 fun v35 w43 =>
        ∃ x36 : Sl, v35 = (.slice x36.a x36.l x36.c) ∧
        Nw (w43.alloc (.cells #[(.pointer p0), (.slice x32.a x32.l x32.c), (.slice x36.a x36.l x36.c), (.slice (some (blk w38.heap.size)) (Int.toNat x2) (Int.toNat x2))] 129)) fun w44 =>
        m3 ((some (blk w43.heap.size)), ()) w44) ∧
        (0 ≤ x2 ∧ x2 ≤ x2 ∧ (8 : Int) * x2 ≤ 281474976710656 ∧ x2 ≤ 9223372036854775807) ∧
        Nw (w37.alloc (.cells (madeCells #[(.int .i64 (0 : Int))] ((Int.toNat x2) * 1)) 3)) fun w45 =>
        callR Try.prog 134 #[(.slice (some (blk w36.heap.size)) 1 1), (.int .i64 x2)] w45 fun v37 w46 =>
        ∃ x38 : Sl, v37 = (.slice x38.a x38.l x38.c) ∧
        callR Try.prog 134 #[(.slice (some (blk w1.drew.heap.size)) 1 1), (.int .i64 x2)] w46 fun v39 w47 =>
        ∃ x40 : Sl, v39 = (.slice x40.a x40.l x40.c) ∧
        Nw (w47.alloc (.cells #[(.pointer p0), (.slice x38.a x38.l x38.c), (.slice x40.a x40.l x40.c), (.slice (some (blk w37.heap.size)) (Int.toNat x2) (Int.toNat x2))] 129)) fun w48 =>
        m3 ((some (blk w47.heap.size)), ()) w48) ∧
        (0 ≤ x2 ∧ x2 ≤ x2 ∧ (8 : Int) * x2 ≤ 281474976710656 ∧ x2 ≤ 9223372036854775807) ∧
        Nw (w36.alloc (.cells (madeCells #[(.int .i64 (0 : Int))] ((Int.toNat x2) * 1)) 3)) fun w49 =>
        Nw (w49.alloc (.cells #[(.int .i64 (-1 : Int))] 3)) fun w50 =>
        callR Try.prog 134 #[(.slice (some (blk w49.heap.size)) 1 1), (.int .i64 x2)] w50 fun v41 w51 =>
        ∃ x42 : Sl, v41 = (.slice x42.a x42.l x42.c) ∧
        callR Try.prog 134 #[(.slice (some (blk w1.drew.heap.size)) 1 1), (.int .i64 x2)] w51 fun v43 w52 =>
        ∃ x44 : Sl, v43 = (.slice x44.a x44.l x44.c) ∧
        Nw (w52.alloc (.cells #[(.pointer p0), (.slice x42.a x42.l x42.c), (.slice x44.a x44.l x44.c), (.slice (some (blk w36.heap.size)) (Int.toNat x2) (Int.toNat x2))] 129)) fun w53 =>
        m3 ((some (blk w52.heap.size)), ()) w53) ∧
        (0 ≤ x2 ∧ x2 ≤ x2 ∧ (8 : Int) * x2 ≤ 281474976710656 ∧ x2 ≤ 9223372036854775807) ∧
        Nw (w1.drew.alloc (.cells (madeCells #[(.int .i64 (0 : Int))] ((Int.toNat x2) * 1)) 3)) fun w54 =>
        (Nw (w54.alloc (.cells #[(.int .i64 (-1 : Int))] 3)) fun w55 =>
        (callR Try.prog 134 #[(.slice (some (blk w54.heap.size)) 1 1), (.int .i64 x2)] w55 fun v45 w56 =>
        ∃ x46 : Sl, v45 = (.slice x46.a x46.l x46.c) ∧
        Nw (w56.alloc (.cells #[(.int .i64 (-1 : Int))] 3)) fun w57 =>
        callR Try.prog 134 #[(.slice (some (blk w56.heap.size)) 1 1), (.int .i64 x2)] w57 fun v47 w58 =>
        ∃ x48 : Sl, v47 = (.slice x48.a x48.l x48.c) ∧
        Nw (w58.alloc (.cells #[(.pointer p0), (.slice x46.a x46.l x46.c), (.slice x48.a x48.l x48.c), (.slice (some (blk w1.drew.heap.size)) (Int.toNat x2) (Int.toNat x2))] 129)) fun w59 =>
        m3 ((some (blk w58.heap.size)), ()) w59) ∧
        Nw (w55.alloc (.cells #[(.int .i64 (-1 : Int))] 3)) fun w60 =>
        callR Try.prog 134 #[(.slice (some (blk w54.heap.size)) 1 1), (.int .i64 x2)] w60 fun v49 w61 =>
        ∃ x50 : Sl, v49 = (.slice x50.a x50.l x50.c) ∧
        callR Try.prog 134 #[(.slice (some (blk w55.heap.size)) 1 1), (.int .i64 x2)] w61 fun v51 w62 =>
        ∃ x52 : Sl, v51 = (.slice x52.a x52.l x52.c) ∧
        Nw (w62.alloc (.cells #[(.pointer p0), (.slice x50.a x50.l x50.c), (.slice x52.a x52.l x52.c), (.slice (some (blk w1.drew.heap.size)) (Int.toNat x2) (Int.toNat x2))] 129)) fun w63 =>
        m3 ((some (blk w62.heap.size)), ()) w63) ∧
        Nw (w54.alloc (.cells #[(.int .i64 (-1 : Int))] 3)) fun w64 =>
        Nw (w64.alloc (.cells #[(.int .i64 (-1 : Int))] 3)) fun w65 =>
        callR Try.prog 134 #[(.slice (some (blk w64.heap.size)) 1 1), (.int .i64 x2)] w65 fun v53 w66 =>
        ∃ x54 : Sl, v53 = (.slice x54.a x54.l x54.c) ∧
        callR Try.prog 134 #[(.slice (some (blk w54.heap.size)) 1 1), (.int .i64 x2)] w66 fun v55 w67 =>
        ∃ x56 : Sl, v55 = (.slice x56.a x56.l x56.c) ∧
        Nw (w67.alloc (.cells #[(.pointer p0), (.slice x54.a x54.l x54.c), (.slice x56.a x56.l x56.c), (.slice (some (blk w1.drew.heap.size)) (Int.toNat x2) (Int.toNat x2))] 129)) fun w68 =>
        m3 ((some (blk w67.heap.size)), ()) w68)
      (fun s4 w69 =>
        callR Try.prog 37 #[(.pointer p0)] w69 fun v57 w70 =>
        ∃ x58 : Sl, v57 = (.slice x58.a x58.l x58.c) ∧
        LoopW (S := Int × Unit) (fun s59 w71 n60 =>
            ifB (decide (s59.1 < (x58.l : Int)))
              ((0 ≤ s59.1 ∧ s59.1 < (x58.l : Int)) ∧
              derefP x58.a fun a61 =>
              ldI w71 (a61.add (Int.toNat s59.1)) .i64 fun x62 =>
              derefP s4.1 fun a63 =>
              ldS w71 (a63.add 3) fun x64 =>
              (0 ≤ x62 ∧ x62 < (x64.l : Int)) ∧
              derefP x64.a fun a65 =>
              Wr w71 (a65.add (Int.toNat x62)) ∧
              Nw (w71.setCell (a65.add (Int.toNat x62)) (.int .i64 s59.1)) fun w72 =>
              n60 ((IntKind.i64.wrap (s59.1 + (1 : Int))), ()) w72)
              (callR Try.prog 135 #[(.pointer s4.1), (.slice x58.a x58.l x58.c)] w71 fun v66 w73 =>
              v66 = (.tuple #[]) ∧
              LoopW (S := Int × Unit) (fun s67 w74 n68 =>
                  ifB (decide (s67.1 < (x58.l : Int)))
                    (JoinW (S := Unit) (fun m69 =>
                        (0 ≤ s67.1 ∧ s67.1 < (x58.l : Int)) ∧
                        derefP x58.a fun a71 =>
                        ldI w74 (a71.add (Int.toNat s67.1)) .i64 fun x72 =>
                        derefP s4.1 fun a73 =>
                        ldS w74 (a73.add 2) fun x74 =>
                        (0 ≤ x72 ∧ x72 < (x74.l : Int)) ∧
                        derefP x74.a fun a75 =>
                        Wr w74 (a75.add (Int.toNat x72)) ∧
                        Nw (w74.setCell (a75.add (Int.toNat x72)) (.int .i64 (0 : Int))) fun w75 =>
                        derefP s4.1 fun a76 =>
                        ldS w75 (a76.add 1) fun x77 =>
                        (0 ≤ x72 ∧ x72 < (x77.l : Int)) ∧
                        derefP x77.a fun a78 =>
                        ldI w75 (a78.add (Int.toNat x72)) .i64 fun x79 =>
                        ifB (x79 != (-1 : Int))
                          (derefP s4.1 fun a80 =>
                          ldS w75.drew (a80.add 2) fun x81 =>
                          derefP s4.1 fun a82 =>
                          ldS w75.drew (a82.add 2) fun x83 =>
                          derefP s4.1 fun a84 =>
                          ldS w75.drew (a84.add 1) fun x85 =>
                          (0 ≤ x72 ∧ x72 < (x85.l : Int)) ∧
                          derefP x85.a fun a86 =>
                          ldI w75.drew (a86.add (Int.toNat x72)) .i64 fun x87 =>
                          (0 ≤ x87 ∧ x87 < (x83.l : Int)) ∧
                          derefP x83.a fun a88 =>
                          ldI w75.drew (a88.add (Int.toNat x87)) .i64 fun x89 =>
                          (0 ≤ x72 ∧ x72 < (x81.l : Int)) ∧
                          derefP x81.a fun a90 =>
                          Wr w75.drew (a90.add (Int.toNat x72)) ∧
                          Nw (w75.drew.setCell (a90.add (Int.toNat x72)) (.int .i64 (IntKind.i64.wrap (x89 + (1 : Int))))) fun w76 =>
                          m69 (()) w76)
                          (m69 (()) w75))
                      (fun s70 w77 =>
                        n68 ((IntKind.i64.wrap (s67.1 + (1 : Int))), ()) w77))
                    (R (.tuple #[(.pointer s4.1), (.int .i64 (0 : Int))]) w74))
                ((0 : Int), ()) w73))
          ((0 : Int), ()) w70))
theorem dom_New_calls (p0 : Option Addr) (R : Value → World → Prop) (w : World) (h : L_dom_New p0 R w) : Calls Try.prog 87 #[(.pointer p0)] w (Ret R) :=
  lw_calls (fs := Try.fs) (an := a_dom_New) (args := [(.pointer p0)]) Try.fsOK Try.mixed Try.func87 (by kernel_rfl) (by kernel_rfl)
    (Eq.mpr (by kernel_rfl : lwFn Try.prog Try.fs Try.f87 a_dom_New [(.pointer p0)] w R = L_dom_New p0 R w) h)

/-- intaglio.intaglioref15.Without -/
def a_intaglioref15_Without : Ann := (.seq none .nil (.seq none .nil (.seq (some ⟨[0, 1, 5], []⟩) (.seq none .nil (.cond (.seq none .nil .nil) .nil)) (.seq none .nil (.seq none (.seq none .nil (.one (.loop ⟨[0, 1, 5], [(6, (.b (.int .i64)))]⟩ (.seq none (.seq none .nil (.cond .nil .nil)) (.seq none (.one (.seq none .nil (.one (.loop ⟨[0, 1, 5, 6], [(7, (.b (.int .i64)))]⟩ (.seq none (.seq none .nil (.cond .nil .nil)) (.seq (some ⟨[0, 1, 5, 6, 7], []⟩) (.one (.seq none .nil (.one (.loop ⟨[0, 1, 5, 6, 7], [(8, (.b (.int .i64)))]⟩ (.seq (some ⟨[0, 1, 5, 6, 7, 8], []⟩) (.seq none .nil (.cond .nil .nil)) (.seq (some ⟨[0, 1, 5, 6, 7, 8], []⟩) (.one (.seq none .nil (.cond .nil .nil))) .nil)))))) .nil)))))) .nil))))) (.seq none .nil .nil))))))
def L_intaglioref15_Without (p0 : Sl) (p1 : Int) (R : Value → World → Prop) (w : World) : Prop :=
  (0 ≤ (p0.l : Int) ∧ (p0.l : Int) ≤ (p0.l : Int) ∧ (1 : Int) * (p0.l : Int) ≤ 281474976710656 ∧ (p0.l : Int) ≤ 9223372036854775807) ∧
  Nw (w.alloc (.cells (madeCells #[(.bool false)] (p0.l * 1)) 4)) fun w1 =>
  JoinW (S := Unit) (fun m1 =>
      ifB ((p0.l : Int) == (0 : Int))
        (R (.slice (some (blk w.heap.size)) p0.l p0.l) w1)
        (ifB (p1 == (0 : Int))
          (R (.slice (some (blk w.heap.size)) p0.l p0.l) w1)
          (m1 (()) w1)))
    (fun s2 w2 =>
      (0 ≤ (0 : Int) ∧ (0 : Int) < (p0.l : Int)) ∧
      Wr w2 ((blk w.heap.size).add 0) ∧
      Nw (w2.setCell ((blk w.heap.size).add 0) (.bool true)) fun w3 =>
      LoopW (S := Int × Unit) (fun s3 w4 n4 =>
          ifB (decide (s3.1 < (p0.l : Int)))
            (LoopW (S := Int × Unit) (fun s5 w5 n6 =>
                ifB (decide (s5.1 < (p0.l : Int)))
                  (JoinW (S := Unit) (fun m7 =>
                      LoopW (S := Int × Unit) (fun s9 w6 n10 =>
                          JoinW (S := Unit) (fun m11 =>
                              (0 ≤ s5.1 ∧ s5.1 < (p0.l : Int)) ∧
                              derefP p0.a fun a13 =>
                              ldS w6 (a13.add (Int.toNat s5.1)) fun x14 =>
                              ifB (decide (s9.1 < (x14.l : Int)))
                                ((0 ≤ s5.1 ∧ s5.1 < (p0.l : Int)) ∧
                                ldB w6 ((blk w.heap.size).add (Int.toNat s5.1)) fun x15 =>
                                ifB x15
                                  (m11 (()) w6)
                                  (m7 (()) w6))
                                (m7 (()) w6))
                            (fun s12 w7 =>
                              JoinW (S := Unit) (fun m16 =>
                                  (0 ≤ s5.1 ∧ s5.1 < (p0.l : Int)) ∧
                                  derefP p0.a fun a18 =>
                                  ldS w7 (a18.add (Int.toNat s5.1)) fun x19 =>
                                  (0 ≤ s9.1 ∧ s9.1 < (x19.l : Int)) ∧
                                  derefP x19.a fun a20 =>
                                  ldI w7 (a20.add (Int.toNat s9.1)) .i64 fun x21 =>
                                  ifB (x21 != p1)
                                    ((0 ≤ s5.1 ∧ s5.1 < (p0.l : Int)) ∧
                                    derefP p0.a fun a22 =>
                                    ldS w7 (a22.add (Int.toNat s5.1)) fun x23 =>
                                    (0 ≤ s9.1 ∧ s9.1 < (x23.l : Int)) ∧
                                    derefP x23.a fun a24 =>
                                    ldI w7 (a24.add (Int.toNat s9.1)) .i64 fun x25 =>
                                    (0 ≤ x25 ∧ x25 < (p0.l : Int)) ∧
                                    Wr w7 ((blk w.heap.size).add (Int.toNat x25)) ∧
                                    Nw (w7.setCell ((blk w.heap.size).add (Int.toNat x25)) (.bool true)) fun w8 =>
                                    m16 (()) w8)
                                    (m16 (()) w7))
                                (fun s17 w9 =>
                                  n10 ((IntKind.i64.wrap (s9.1 + (1 : Int))), ()) w9)))
                        ((0 : Int), ()) w5)
                    (fun s8 w10 =>
                      n6 ((IntKind.i64.wrap (s5.1 + (1 : Int))), ()) w10))
                  (n4 ((IntKind.i64.wrap (s3.1 + (1 : Int))), ()) w5))
              ((0 : Int), ()) w4)
            (R (.slice (some (blk w.heap.size)) p0.l p0.l) w4))
        ((0 : Int), ()) w3)
theorem intaglioref15_Without_calls (p0 : Sl) (p1 : Int) (R : Value → World → Prop) (w : World) (h : L_intaglioref15_Without p0 p1 R w) : Calls Try.prog 107 #[(.slice p0.a p0.l p0.c), (.int .i64 p1)] w (Ret R) :=
  lw_calls (fs := Try.fs) (an := a_intaglioref15_Without) (args := [(.slice p0.a p0.l p0.c), (.int .i64 p1)]) Try.fsOK Try.mixed Try.func107 (by kernel_rfl) (by kernel_rfl)
    (Eq.mpr (by kernel_rfl : lwFn Try.prog Try.fs Try.f107 a_intaglioref15_Without [(.slice p0.a p0.l p0.c), (.int .i64 p1)] w R = L_intaglioref15_Without p0 p1 R w) h)

/-- (*intaglio.dom.Tree).reached -/
def a_dom_Tree_reached : Ann := (.seq none .nil (.seq none .nil .nil))
def L_dom_Tree_reached (p0 : Option Addr) (p1 : Int) (R : Value → World → Prop) (w : World) : Prop :=
  ifB (!(Option.isNone p0))
    (ifB (decide (p1 ≥ (0 : Int)))
      (derefP p0 fun a1 =>
      ldS w (a1.add 2) fun x2 =>
      ifB (decide (p1 < (x2.l : Int)))
        (derefP p0 fun a3 =>
        ldS w (a3.add 2) fun x4 =>
        (0 ≤ p1 ∧ p1 < (x4.l : Int)) ∧
        derefP x4.a fun a5 =>
        ldI w (a5.add (Int.toNat p1)) .i64 fun x6 =>
        R (.bool (x6 != (-1 : Int))) w)
        (R (.bool false) w))
      (R (.bool false) w))
    (R (.bool false) w)
theorem dom_Tree_reached_calls (p0 : Option Addr) (p1 : Int) (R : Value → World → Prop) (w : World) (h : L_dom_Tree_reached p0 p1 R w) : Calls Try.prog 108 #[(.pointer p0), (.int .i64 p1)] w (Ret R) :=
  lw_calls (fs := Try.fs) (an := a_dom_Tree_reached) (args := [(.pointer p0), (.int .i64 p1)]) Try.fsOK Try.mixed Try.func108 (by kernel_rfl) (by kernel_rfl)
    (Eq.mpr (by kernel_rfl : lwFn Try.prog Try.fs Try.f108 a_dom_Tree_reached [(.pointer p0), (.int .i64 p1)] w R = L_dom_Tree_reached p0 p1 R w) h)

/-- (*intaglio.dom.Tree).meet -/
def a_dom_Tree_meet : Ann := (.seq none .nil (.seq none (.one (.loop ⟨[0], [(1, (.b (.int .i64))), (2, (.b (.int .i64)))]⟩ (.seq none (.seq none .nil (.cond .nil .nil)) (.one (.seq (some ⟨[0], [(1, (.b (.int .i64))), (2, (.b (.int .i64)))]⟩) (.seq none .nil (.cond .nil .nil)) .nil))))) (.seq none .nil .nil)))
def L_dom_Tree_meet (p0 : Option Addr) (p1 : Int) (p2 : Int) (R : Value → World → Prop) (w : World) : Prop :=
  LoopW (S := Int × Int × Unit) (fun s1 w1 n2 =>
      ifB (s1.1 != s1.2.1)
        (JoinW (S := Int × Int × Unit) (fun m3 =>
            derefP p0 fun a5 =>
            ldS w1.drew (a5.add 3) fun x6 =>
            (0 ≤ s1.1 ∧ s1.1 < (x6.l : Int)) ∧
            derefP x6.a fun a7 =>
            ldI w1.drew (a7.add (Int.toNat s1.1)) .i64 fun x8 =>
            derefP p0 fun a9 =>
            ldS w1.drew (a9.add 3) fun x10 =>
            (0 ≤ s1.2.1 ∧ s1.2.1 < (x10.l : Int)) ∧
            derefP x10.a fun a11 =>
            ldI w1.drew (a11.add (Int.toNat s1.2.1)) .i64 fun x12 =>
            ifB (decide (x8 < x12))
              (m3 (s1.2.1, s1.1, ()) w1.drew)
              (m3 (s1.1, s1.2.1, ()) w1.drew))
          (fun s4 w2 =>
            derefP p0 fun a13 =>
            ldS w2 (a13.add 1) fun x14 =>
            (0 ≤ s4.1 ∧ s4.1 < (x14.l : Int)) ∧
            derefP x14.a fun a15 =>
            ldI w2 (a15.add (Int.toNat s4.1)) .i64 fun x16 =>
            n2 (x16, s4.2.1, ()) w2))
        (R (.int .i64 s1.1) w1))
    (p1, p2, ()) w
theorem dom_Tree_meet_calls (p0 : Option Addr) (p1 : Int) (p2 : Int) (R : Value → World → Prop) (w : World) (h : L_dom_Tree_meet p0 p1 p2 R w) : Calls Try.prog 109 #[(.pointer p0), (.int .i64 p1), (.int .i64 p2)] w (Ret R) :=
  lw_calls (fs := Try.fs) (an := a_dom_Tree_meet) (args := [(.pointer p0), (.int .i64 p1), (.int .i64 p2)]) Try.fsOK Try.mixed Try.func109 (by kernel_rfl) (by kernel_rfl)
    (Eq.mpr (by kernel_rfl : lwFn Try.prog Try.fs Try.f109 a_dom_Tree_meet [(.pointer p0), (.int .i64 p1), (.int .i64 p2)] w R = L_dom_Tree_meet p0 p1 p2 R w) h)

/-- (*intaglio.dom.Tree).Up 1 -/
def a_dom_Tree_Up_1 : Ann := (.seq none (.seq none .nil (.cond .nil .nil)) (.seq none .nil (.one (.loop ⟨[0, 1], [(4, (.b (.int .i64)))]⟩ (.seq none (.seq none .nil (.cond .nil .nil)) (.seq none (.one (.seq none .nil (.cond .nil .nil))) .nil))))))
def L_dom_Tree_Up_1 (p0 : Value) (c0 : Addr) (c1 : Addr) (R : Value → World → Prop) (w : World) : Prop :=
  ldP w c0 fun x1 =>
  ldI w c1 .i64 fun x2 =>
  callR Try.prog 108 #[(.pointer x1), (.int .i64 x2)] w fun v3 w1 =>
  ∃ x4 : Bool, v3 = (.bool x4) ∧
  ifB (!x4)
    (R (.tuple #[]) w1)
    (ldI w1 c1 .i64 fun x5 =>
    LoopW (S := Int × Unit) (fun s6 w2 n7 =>
        ifB (s6.1 != (-1 : Int))
          (callV Try.prog Try.fs p0 [(.int .i64 s6.1)] w2 fun v8 w3 =>
          ∃ x9 : Bool, v8 = (.bool x9) ∧
          ifB (!x9)
            (R (.tuple #[]) w3)
            (ldP w3 c0 fun x10 =>
            derefP x10 fun a11 =>
            ldS w3 (a11.add 1) fun x12 =>
            (0 ≤ s6.1 ∧ s6.1 < (x12.l : Int)) ∧
            derefP x12.a fun a13 =>
            ldI w3 (a13.add (Int.toNat s6.1)) .i64 fun x14 =>
            n7 (x14, ()) w3))
          (R (.tuple #[]) w2))
      (x5, ()) w1)
theorem dom_Tree_Up_1_calls (p0 : Value) (c0 : Addr) (c1 : Addr) (R : Value → World → Prop) (w : World) (h : L_dom_Tree_Up_1 p0 c0 c1 R w) : Calls Try.prog 110 #[p0, (.pointer (some c0)), (.pointer (some c1))] w (Ret R) :=
  lw_calls (fs := Try.fs) (an := a_dom_Tree_Up_1) (args := [p0, (.pointer (some c0)), (.pointer (some c1))]) Try.fsOK Try.mixed Try.func110 (by kernel_rfl) (by kernel_rfl)
    (Eq.mpr (by kernel_rfl : lwFn Try.prog Try.fs Try.f110 a_dom_Tree_Up_1 [p0, (.pointer (some c0)), (.pointer (some c1))] w R = L_dom_Tree_Up_1 p0 c0 c1 R w) h)

/-- (*intaglio.dom.Tree).Frontier 1 -/
def a_dom_Tree_Frontier_1 : Ann := (.seq none .nil (.seq none .nil .nil))
def L_dom_Tree_Frontier_1 (p0 : Int) (c0 : Addr) (c1 : Addr) (R : Value → World → Prop) (w : World) : Prop :=
  ldP w c0 fun x1 =>
  ldI w c1 .i64 fun x2 =>
  callR Try.prog 51 #[(.pointer x1), (.int .i64 x2), (.int .i64 p0)] w fun v3 w1 =>
  ∃ x4 : Bool, v3 = (.bool x4) ∧
  R (.bool x4) w1
theorem dom_Tree_Frontier_1_calls (p0 : Int) (c0 : Addr) (c1 : Addr) (R : Value → World → Prop) (w : World) (h : L_dom_Tree_Frontier_1 p0 c0 c1 R w) : Calls Try.prog 112 #[(.int .i64 p0), (.pointer (some c0)), (.pointer (some c1))] w (Ret R) :=
  lw_calls (fs := Try.fs) (an := a_dom_Tree_Frontier_1) (args := [(.int .i64 p0), (.pointer (some c0)), (.pointer (some c1))]) Try.fsOK Try.mixed Try.func112 (by kernel_rfl) (by kernel_rfl)
    (Eq.mpr (by kernel_rfl : lwFn Try.prog Try.fs Try.f112 a_dom_Tree_Frontier_1 [(.int .i64 p0), (.pointer (some c0)), (.pointer (some c1))] w R = L_dom_Tree_Frontier_1 p0 c0 c1 R w) h)

/-- slices.Repeat[[]int,int] -/
def a_slices_Repeat_sint_int : Ann := (.seq none .nil (.seq (some ⟨[0, 1], []⟩) (.seq none .nil (.cond .nil .nil)) (.seq none .nil (.seq (some ⟨[0, 6], []⟩) (.seq none .nil (.cond .nil .nil)) (.seq none .nil (.seq none .nil (.seq none (.one (.loop ⟨[7], [(8, (.b (.int .i64)))]⟩ (.seq none (.seq none .nil (.cond .nil .nil)) (.one .nil)))) (.seq none .nil .nil))))))))
def L_slices_Repeat_sint_int (p0 : Sl) (p1 : Int) (R : Value → World → Prop) (w : World) : Prop :=
  JoinW (S := Unit) (fun m1 =>
      ifB (decide (p1 < (0 : Int)))
        (False)
        (m1 (()) w))
    (fun s2 w1 =>
      callR Try.prog 177 #[(.int .u64 (IntKind.u64.wrap (p0.l : Int))), (.int .u64 (IntKind.u64.wrap p1))] w1 fun v3 w2 =>
      ∃ x4 : Int, ∃ x5 : Int, v3 = (.tuple #[(.int .u64 x4), (.int .u64 x5)]) ∧
      JoinW (S := Unit) (fun m6 =>
          ifB (decide (x4 > (0 : Int)))
            (False)
            (ifB (decide (x5 > (9223372036854775807 : Int)))
              (False)
              (m6 (()) w2)))
        (fun s7 w3 =>
          (0 ≤ (IntKind.i64.wrap x5) ∧ (IntKind.i64.wrap x5) ≤ (IntKind.i64.wrap x5) ∧ (8 : Int) * (IntKind.i64.wrap x5) ≤ 281474976710656 ∧ (IntKind.i64.wrap x5) ≤ 9223372036854775807) ∧
          Nw (w3.alloc (.cells (madeCells #[(.int .i64 (0 : Int))] ((Int.toNat (IntKind.i64.wrap x5)) * 1)) 3)) fun w4 =>
          copyS Try.prog #[32, 32] (.slice (some (blk w3.heap.size)) (Int.toNat (IntKind.i64.wrap x5)) (Int.toNat (IntKind.i64.wrap x5))) (.slice p0.a p0.l p0.c) w4 fun x8 w5 =>
          LoopW (S := Int × Unit) (fun s9 w6 n10 =>
              ifB (decide (s9.1 < ((Int.toNat (IntKind.i64.wrap x5)) : Int)))
                ((0 ≤ s9.1 ∧ s9.1 ≤ ((Int.toNat (IntKind.i64.wrap x5)) : Int) ∧ ((Int.toNat (IntKind.i64.wrap x5)) : Int) ≤ ((Int.toNat (IntKind.i64.wrap x5)) : Int)) ∧
                (0 ≤ (0 : Int) ∧ (0 : Int) ≤ s9.1 ∧ s9.1 ≤ ((Int.toNat (IntKind.i64.wrap x5)) : Int)) ∧
                copyS Try.prog #[32, 32] (.slice (if (Int.toNat (IntKind.i64.wrap x5)) = (Int.toNat s9.1) then (some (blk w3.heap.size)) else Option.map (fun a => a.add (Int.toNat s9.1)) (some (blk w3.heap.size))) ((Int.toNat (IntKind.i64.wrap x5)) - (Int.toNat s9.1)) ((Int.toNat (IntKind.i64.wrap x5)) - (Int.toNat s9.1))) (.slice (if (Int.toNat (IntKind.i64.wrap x5)) = 0 then (some (blk w3.heap.size)) else Option.map (fun a => a.add 0) (some (blk w3.heap.size))) ((Int.toNat s9.1) - 0) ((Int.toNat (IntKind.i64.wrap x5)) - 0)) w6.drew fun x11 w7 =>
                n10 ((IntKind.i64.wrap (s9.1 + x11)), ()) w7)
                (R (.slice (some (blk w3.heap.size)) (Int.toNat (IntKind.i64.wrap x5)) (Int.toNat (IntKind.i64.wrap x5))) w6))
            (x8, ()) w5))
theorem slices_Repeat_sint_int_calls (p0 : Sl) (p1 : Int) (R : Value → World → Prop) (w : World) (h : L_slices_Repeat_sint_int p0 p1 R w) : Calls Try.prog 134 #[(.slice p0.a p0.l p0.c), (.int .i64 p1)] w (Ret R) :=
  lw_calls (fs := Try.fs) (an := a_slices_Repeat_sint_int) (args := [(.slice p0.a p0.l p0.c), (.int .i64 p1)]) Try.fsOK Try.mixed Try.func134 (by kernel_rfl) (by kernel_rfl)
    (Eq.mpr (by kernel_rfl : lwFn Try.prog Try.fs Try.f134 a_slices_Repeat_sint_int [(.slice p0.a p0.l p0.c), (.int .i64 p1)] w R = L_slices_Repeat_sint_int p0 p1 R w) h)

/-- (*intaglio.dom.Tree).settle -/
def a_dom_Tree_settle : Ann := (.one (.seq none .nil (.one (.loop ⟨[0, 1], []⟩ (.one (.seq none (.seq none .nil (.one (.loop ⟨[0, 1, 9, 10], [(11, (.b (.int .i64)))]⟩ (.seq none .nil (.seq none (.cond .nil .nil) (.seq (some ⟨[0, 1, 9, 10, 11], []⟩) (.one (.seq none .nil (.seq none (.seq none .nil (.cond .nil .nil)) (.seq none .nil (.seq none (.seq none .nil (.one (.loop ⟨[0, 1, 5, 9, 10, 11, 22, 23], [(6, (.b (.int .i64))), (24, (.b (.int .i64)))]⟩ (.seq none .nil (.seq none (.cond .nil .nil) (.seq (some ⟨[0, 1, 5, 9, 10, 11, 22, 23, 24], [(6, (.b (.int .i64)))]⟩) (.one (.seq none .nil (.seq (some ⟨[0, 1, 5, 6, 8, 9, 10, 11, 22, 23, 24], []⟩) (.seq none .nil (.cond .nil .nil)) (.seq none .nil (.cond .nil .nil))))) .nil)))))) (.seq none .nil (.cond (.seq none .nil .nil) .nil))))))) .nil)))))) .nil))))))
def L_dom_Tree_settle (p0 : Option Addr) (p1 : Sl) (R : Value → World → Prop) (w : World) : Prop :=
  LoopW (S := Unit) (fun s1 w1 n2 =>
      LoopW (S := Int × Unit) (fun s3 w2 n4 =>
          ifB (decide (s3.1 < (p1.l : Int)))
            (JoinW (S := Unit) (fun m5 =>
                (0 ≤ s3.1 ∧ s3.1 < (p1.l : Int)) ∧
                derefP p1.a fun a7 =>
                ldI w2 (a7.add (Int.toNat s3.1)) .i64 fun x8 =>
                ifB (x8 == (0 : Int))
                  (m5 (()) w2)
                  (derefP p0 fun a9 =>
                  ldP w2 a9 fun x10 =>
                  callR Try.prog 36 #[(.pointer x10), (.int .i64 x8)] w2 fun v11 w3 =>
                  ∃ x12 : Sl, v11 = (.slice x12.a x12.l x12.c) ∧
                  LoopW (S := Int × Int × Unit) (fun s13 w4 n14 =>
                      ifB (decide (s13.2.1 < (x12.l : Int)))
                        (JoinW (S := Int × Unit) (fun m15 =>
                            (0 ≤ s13.2.1 ∧ s13.2.1 < (x12.l : Int)) ∧
                            derefP x12.a fun a17 =>
                            ldI w4 (a17.add (Int.toNat s13.2.1)) .i64 fun x18 =>
                            JoinW (S := Unit) (fun m19 =>
                                ifB (x18 != (0 : Int))
                                  (derefP p0 fun a21 =>
                                  ldS w4 (a21.add 1) fun x22 =>
                                  (0 ≤ x18 ∧ x18 < (x22.l : Int)) ∧
                                  derefP x22.a fun a23 =>
                                  ldI w4 (a23.add (Int.toNat x18)) .i64 fun x24 =>
                                  ifB (x24 == (-1 : Int))
                                    (m15 (s13.1, ()) w4)
                                    (m19 (()) w4))
                                  (m19 (()) w4))
                              (fun s20 w5 =>
                                ifB (s13.1 == (-1 : Int))
                                  (m15 (x18, ()) w5)
                                  (callR Try.prog 109 #[(.pointer p0), (.int .i64 s13.1), (.int .i64 x18)] w5 fun v25 w6 =>
                                  ∃ x26 : Int, v25 = (.int .i64 x26) ∧
                                  m15 (x26, ()) w6)))
                          (fun s16 w7 =>
                            n14 (s16.1, (IntKind.i64.wrap (s13.2.1 + (1 : Int))), ()) w7))
                        (derefP p0 fun a27 =>
                        ldS w4 (a27.add 1) fun x28 =>
                        (0 ≤ x8 ∧ x8 < (x28.l : Int)) ∧
                        derefP x28.a fun a29 =>
                        ldI w4 (a29.add (Int.toNat x8)) .i64 fun x30 =>
                        ifB (s13.1 != x30)
                          (derefP p0 fun a31 =>
                          ldS w4 (a31.add 1) fun x32 =>
                          (0 ≤ x8 ∧ x8 < (x32.l : Int)) ∧
                          derefP x32.a fun a33 =>
                          Wr w4 (a33.add (Int.toNat x8)) ∧
                          Nw (w4.setCell (a33.add (Int.toNat x8)) (.int .i64 s13.1)) fun w8 =>
                          n2 (()) w8)
                          (m5 (()) w4)))
                    ((-1 : Int), (0 : Int), ()) w3))
              (fun s6 w9 =>
                n4 ((IntKind.i64.wrap (s3.1 + (1 : Int))), ()) w9))
            (R (.tuple #[]) w2))
        ((0 : Int), ()) w1)
    (()) w
theorem dom_Tree_settle_calls (p0 : Option Addr) (p1 : Sl) (R : Value → World → Prop) (w : World) (h : L_dom_Tree_settle p0 p1 R w) : Calls Try.prog 135 #[(.pointer p0), (.slice p1.a p1.l p1.c)] w (Ret R) :=
  lw_calls (fs := Try.fs) (an := a_dom_Tree_settle) (args := [(.pointer p0), (.slice p1.a p1.l p1.c)]) Try.fsOK Try.mixed Try.func135 (by kernel_rfl) (by kernel_rfl)
    (Eq.mpr (by kernel_rfl : lwFn Try.prog Try.fs Try.f135 a_dom_Tree_settle [(.pointer p0), (.slice p1.a p1.l p1.c)] w R = L_dom_Tree_settle p0 p1 R w) h)

/-- math.bits.Mul -/
def a_math_bits_Mul : Ann := (.seq none .nil (.seq none (.cond (.seq none .nil (.seq none .nil .nil)) .nil) (.seq none .nil (.seq none .nil .nil))))
def L_math_bits_Mul (p0 : Int) (p1 : Int) (R : Value → World → Prop) (w : World) : Prop :=
  callR Try.prog 210 #[(.int .u64 p0), (.int .u64 p1)] w fun v1 w1 =>
  ∃ x2 : Int, ∃ x3 : Int, v1 = (.tuple #[(.int .u64 x2), (.int .u64 x3)]) ∧
  R (.tuple #[(.int .u64 x2), (.int .u64 x3)]) w1
theorem math_bits_Mul_calls (p0 : Int) (p1 : Int) (R : Value → World → Prop) (w : World) (h : L_math_bits_Mul p0 p1 R w) : Calls Try.prog 177 #[(.int .u64 p0), (.int .u64 p1)] w (Ret R) :=
  lw_calls (fs := Try.fs) (an := a_math_bits_Mul) (args := [(.int .u64 p0), (.int .u64 p1)]) Try.fsOK Try.mixed Try.func177 (by kernel_rfl) (by kernel_rfl)
    (Eq.mpr (by kernel_rfl : lwFn Try.prog Try.fs Try.f177 a_math_bits_Mul [(.int .u64 p0), (.int .u64 p1)] w R = L_math_bits_Mul p0 p1 R w) h)

/-- math.bits.Mul64 -/
def a_math_bits_Mul64 : Ann := (.seq none .nil (.seq none .nil (.seq none .nil (.seq none .nil (.seq none .nil (.seq none .nil (.seq none .nil (.seq none .nil (.seq none .nil (.seq none .nil (.seq none .nil (.seq none .nil .nil))))))))))))
def L_math_bits_Mul64 (p0 : Int) (p1 : Int) (R : Value → World → Prop) (w : World) : Prop :=
  R (.tuple #[(.int .u64 (IntKind.u64.wrap ((IntKind.u64.wrap ((IntKind.u64.wrap ((Int.fdiv p0 (2 ^ (min 32 (IntKind.bits .u64)))) * (Int.fdiv p1 (2 ^ (min 32 (IntKind.bits .u64)))))) + (Int.fdiv (IntKind.u64.wrap ((IntKind.u64.wrap ((Int.fdiv p0 (2 ^ (min 32 (IntKind.bits .u64)))) * (IntKind.u64.wrap (BitVec.toNat (BitVec.ofInt (IntKind.bits .u64) p1 &&& BitVec.ofInt (IntKind.bits .u64) (4294967295 : Int)) : Int)))) + (Int.fdiv (IntKind.u64.wrap ((IntKind.u64.wrap (BitVec.toNat (BitVec.ofInt (IntKind.bits .u64) p0 &&& BitVec.ofInt (IntKind.bits .u64) (4294967295 : Int)) : Int)) * (IntKind.u64.wrap (BitVec.toNat (BitVec.ofInt (IntKind.bits .u64) p1 &&& BitVec.ofInt (IntKind.bits .u64) (4294967295 : Int)) : Int)))) (2 ^ (min 32 (IntKind.bits .u64)))))) (2 ^ (min 32 (IntKind.bits .u64)))))) + (Int.fdiv (IntKind.u64.wrap ((IntKind.u64.wrap (BitVec.toNat (BitVec.ofInt (IntKind.bits .u64) (IntKind.u64.wrap ((IntKind.u64.wrap ((Int.fdiv p0 (2 ^ (min 32 (IntKind.bits .u64)))) * (IntKind.u64.wrap (BitVec.toNat (BitVec.ofInt (IntKind.bits .u64) p1 &&& BitVec.ofInt (IntKind.bits .u64) (4294967295 : Int)) : Int)))) + (Int.fdiv (IntKind.u64.wrap ((IntKind.u64.wrap (BitVec.toNat (BitVec.ofInt (IntKind.bits .u64) p0 &&& BitVec.ofInt (IntKind.bits .u64) (4294967295 : Int)) : Int)) * (IntKind.u64.wrap (BitVec.toNat (BitVec.ofInt (IntKind.bits .u64) p1 &&& BitVec.ofInt (IntKind.bits .u64) (4294967295 : Int)) : Int)))) (2 ^ (min 32 (IntKind.bits .u64)))))) &&& BitVec.ofInt (IntKind.bits .u64) (4294967295 : Int)) : Int)) + (IntKind.u64.wrap ((IntKind.u64.wrap (BitVec.toNat (BitVec.ofInt (IntKind.bits .u64) p0 &&& BitVec.ofInt (IntKind.bits .u64) (4294967295 : Int)) : Int)) * (Int.fdiv p1 (2 ^ (min 32 (IntKind.bits .u64)))))))) (2 ^ (min 32 (IntKind.bits .u64))))))), (.int .u64 (IntKind.u64.wrap (p0 * p1)))]) w
theorem math_bits_Mul64_calls (p0 : Int) (p1 : Int) (R : Value → World → Prop) (w : World) (h : L_math_bits_Mul64 p0 p1 R w) : Calls Try.prog 210 #[(.int .u64 p0), (.int .u64 p1)] w (Ret R) :=
  lw_calls (fs := Try.fs) (an := a_math_bits_Mul64) (args := [(.int .u64 p0), (.int .u64 p1)]) Try.fsOK Try.mixed Try.func210 (by kernel_rfl) (by kernel_rfl)
    (Eq.mpr (by kernel_rfl : lwFn Try.prog Try.fs Try.f210 a_math_bits_Mul64 [(.int .u64 p0), (.int .u64 p1)] w R = L_math_bits_Mul64 p0 p1 R w) h)

end Go.Proofs
