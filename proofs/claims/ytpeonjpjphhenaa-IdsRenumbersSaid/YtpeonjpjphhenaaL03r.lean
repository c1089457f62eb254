/-
 Printed by a program of the author: what each function comes to.
-/
import Derived.Test.YtpeonjpjphhenaaProg
import Derived.Test.YtpeonjpjphhenaaGkR
import Derived.Test.YtpeonjpjphhenaaLb
namespace Go.Proofs
open Go.Gk
set_option linter.unusedVariables false
set_option maxRecDepth 100000

/-- intaglio.intaglioref03.Of -/
def a_intaglioref03_Of : Ann := (.seq none .nil (.seq none (.seq none .nil (.one (.seq none .nil (.cond (.seq none .nil .nil) (.seq none .nil (.cond (.seq none .nil .nil) (.seq none .nil (.cond (.seq none .nil .nil) (.seq none .nil (.cond (.seq none .nil .nil) (.seq none .nil (.cond (.seq none .nil .nil) (.seq none .nil (.cond (.seq none .nil .nil) (.seq none .nil (.cond (.seq none .nil .nil) (.seq none .nil (.cond (.seq none .nil .nil) (.seq none .nil (.cond (.seq none .nil .nil) (.seq none .nil (.cond (.seq none .nil .nil) (.seq none .nil (.cond (.seq none .nil .nil) (.seq none .nil (.cond (.seq none .nil .nil) (.seq none .nil (.cond (.seq none .nil .nil) (.seq none .nil (.cond (.seq none .nil .nil) (.seq none .nil (.cond (.seq none .nil .nil) (.seq none .nil (.cond (.seq none .nil .nil) (.seq none .nil (.cond (.seq none .nil .nil) (.seq none .nil (.cond (.seq none .nil .nil) (.seq none .nil (.cond (.seq none .nil .nil) (.seq none .nil (.cond (.seq none .nil .nil) (.seq none .nil (.cond (.seq none .nil .nil) (.seq none .nil (.cond (.seq none .nil .nil) (.seq none .nil (.cond (.seq none .nil .nil) (.seq none .nil (.cond (.seq none .nil .nil) (.seq none .nil (.cond (.seq none .nil .nil) (.seq none .nil (.cond (.seq none .nil .nil) (.seq none .nil (.cond (.seq none .nil .nil) (.seq none .nil (.cond (.seq none .nil .nil) (.seq none .nil (.cond (.seq none .nil .nil) (.seq none .nil (.cond (.seq none .nil .nil) (.seq none .nil (.cond (.seq none .nil .nil) (.seq none .nil (.cond (.seq none .nil .nil) (.seq none .nil (.cond (.seq none .nil .nil) (.seq none .nil (.cond (.seq none .nil .nil) (.seq none .nil (.cond (.seq none .nil .nil) (.seq none .nil (.cond (.seq none .nil .nil) (.seq none .nil (.cond (.seq none .nil .nil) (.seq none .nil (.cond (.seq none .nil .nil) (.seq none .nil (.cond (.seq none .nil .nil) (.seq none .nil (.cond (.seq none .nil .nil) (.seq none .nil (.cond (.seq none .nil .nil) (.seq none .nil (.cond (.seq none .nil .nil) (.seq none .nil (.cond (.seq none .nil .nil) (.seq none .nil (.cond (.seq none .nil .nil) (.seq none .nil (.cond (.seq none .nil .nil) (.seq none .nil (.cond (.seq none .nil .nil) (.seq none .nil (.cond (.seq none .nil .nil) (.seq none .nil (.cond (.seq none .nil .nil) (.seq none .nil (.cond (.seq none .nil .nil) (.seq none .nil (.cond (.seq none .nil .nil) (.seq none .nil (.cond (.seq none .nil .nil) (.seq none .nil (.cond (.seq none .nil .nil) (.seq none .nil (.cond (.seq none .nil .nil) (.seq none .nil (.cond (.seq none .nil .nil) (.seq none .nil (.cond (.seq none .nil .nil) (.seq none .nil (.cond (.seq none .nil .nil) (.seq none .nil (.cond (.seq none .nil .nil) (.seq none .nil (.cond (.seq none .nil .nil) (.seq none .nil (.cond (.seq none .nil .nil) (.seq none .nil (.cond (.seq none .nil .nil) (.seq none .nil (.cond (.seq none .nil .nil) (.seq none .nil (.cond (.seq none .nil .nil) (.seq none .nil (.cond (.seq none .nil .nil) (.seq none .nil (.cond (.seq none .nil .nil) (.seq none .nil (.cond (.seq none .nil .nil) (.seq none .nil (.cond (.seq none .nil .nil) (.seq none .nil (.cond (.seq none .nil .nil) (.seq none .nil (.cond (.seq none .nil .nil) (.seq none .nil (.cond (.seq none .nil .nil) (.seq none .nil (.cond (.seq none .nil .nil) (.seq none .nil (.cond (.seq none .nil .nil) (.seq none .nil (.cond (.seq none .nil .nil) (.seq none .nil (.cond (.seq none .nil .nil) (.seq none .nil (.cond (.seq none .nil .nil) (.seq none .nil (.cond (.seq none .nil .nil) (.seq none .nil (.cond (.seq none .nil .nil) (.seq none .nil (.cond (.seq none .nil .nil) (.seq none .nil (.cond (.seq none .nil .nil) (.seq none .nil (.cond (.seq none .nil .nil) (.seq none .nil (.cond (.seq none .nil .nil) (.seq none .nil (.cond (.seq none .nil .nil) (.seq none .nil (.cond (.seq none .nil .nil) (.seq none .nil (.cond (.seq none .nil .nil) (.seq none .nil (.cond (.seq none .nil .nil) (.seq none .nil (.cond (.seq none .nil .nil) (.seq none .nil (.cond (.seq none .nil .nil) (.seq none .nil (.cond (.seq none .nil .nil) (.seq none .nil (.cond (.seq none .nil .nil) (.seq none .nil (.cond (.seq none .nil .nil) (.seq none .nil (.cond (.seq none .nil .nil) (.seq none .nil (.cond (.seq none .nil .nil) (.seq none .nil (.cond (.seq none .nil .nil) (.seq none .nil (.cond (.seq none .nil .nil) .nil)))))))))))))))))))))))))))))))))))))))))))))))))))))))))))))))))))))))))))))))))))))))))))))))))))))))))))))))))))))))))))))))))))))))))))))))))))))))))))))))))))))))))))))))))))))))))))) (.seq none .nil .nil)))
def L_intaglioref03_Of (p0 : Int) (R : Value → World → Prop) (w : World) : Prop :=
 Nw (w.alloc (.cells #[(.int .u16 (0 : Int)), (.string (ByteArray.mk #[])), (.bool false), (.bool false), (.string (ByteArray.mk #[])), (.string (ByteArray.mk #[])), (.int .i64 (0 : Int)), (.int .u8 (0 : Int))] 133)) fun w1 =>
 ifB (p0 == (1 : Int))
  (callR Try.prog 100 #[(.int .u16 p0), (.string (ByteArray.mk #[79, 112, 85, 110, 100, 101, 102])), (.bool true), (.bool true), (.string (ByteArray.mk #[])), (.string (ByteArray.mk #[])), (.int .i64 (0 : Int)), (.int .u8 (7 : Int))] w1 fun v1 w2 =>
  ∃ x2 : (Int × ByteArray × Bool × Bool × ByteArray × ByteArray × Int × Int × Unit), v1 = (.agg #[(.int .u16 x2.1), (.string x2.2.1), (.bool x2.2.2.1), (.bool x2.2.2.2.1), (.string x2.2.2.2.2.1), (.string x2.2.2.2.2.2.1), (.int .i64 x2.2.2.2.2.2.2.1), (.int .u8 x2.2.2.2.2.2.2.2.1)]) ∧
  Wr w2 (blk w.heap.size) ∧
  Nw (w2.setCell (blk w.heap.size) (.int .u16 x2.1)) fun w3 =>
  Wr w3 ((blk w.heap.size).add 1) ∧
  Nw (w3.setCell ((blk w.heap.size).add 1) (.string x2.2.1)) fun w4 =>
  Wr w4 ((blk w.heap.size).add 2) ∧
  Nw (w4.setCell ((blk w.heap.size).add 2) (.bool x2.2.2.1)) fun w5 =>
  Wr w5 ((blk w.heap.size).add 3) ∧
  Nw (w5.setCell ((blk w.heap.size).add 3) (.bool x2.2.2.2.1)) fun w6 =>
  Wr w6 ((blk w.heap.size).add 4) ∧
  Nw (w6.setCell ((blk w.heap.size).add 4) (.string x2.2.2.2.2.1)) fun w7 =>
  Wr w7 ((blk w.heap.size).add 5) ∧
  Nw (w7.setCell ((blk w.heap.size).add 5) (.string x2.2.2.2.2.2.1)) fun w8 =>
  Wr w8 ((blk w.heap.size).add 6) ∧
  Nw (w8.setCell ((blk w.heap.size).add 6) (.int .i64 x2.2.2.2.2.2.2.1)) fun w9 =>
  Wr w9 ((blk w.heap.size).add 7) ∧
  Nw (w9.setCell ((blk w.heap.size).add 7) (.int .u8 x2.2.2.2.2.2.2.2.1)) fun w10 =>
  ldI w10 ((blk w.heap.size).add 0) .u16 fun x3 =>
  ldStr w10 ((blk w.heap.size).add 1) fun x4 =>
  ldB w10 ((blk w.heap.size).add 2) fun x5 =>
  ldB w10 ((blk w.heap.size).add 3) fun x6 =>
  ldStr w10 ((blk w.heap.size).add 4) fun x7 =>
  ldStr w10 ((blk w.heap.size).add 5) fun x8 =>
  ldI w10 ((blk w.heap.size).add 6) .i64 fun x9 =>
  ldI w10 ((blk w.heap.size).add 7) .u8 fun x10 =>
  R (.tuple #[(.agg #[(.int .u16 x3), (.string x4), (.bool x5), (.bool x6), (.string x7), (.string x8), (.int .i64 x9), (.int .u8 x10)]), (.bool true)]) w10)
  (ifB (p0 == (3 : Int))
   (callR Try.prog 100 #[(.int .u16 p0), (.string (ByteArray.mk #[79, 112, 83, 111, 117, 114, 99, 101])), (.bool false), (.bool false), (.string (ByteArray.mk #[108, 110])), (.string (ByteArray.mk #[])), (.int .i64 (0 : Int)), (.int .u8 (4 : Int))] w1 fun v11 w11 =>
   ∃ x12 : (Int × ByteArray × Bool × Bool × ByteArray × ByteArray × Int × Int × Unit), v11 = (.agg #[(.int .u16 x12.1), (.string x12.2.1), (.bool x12.2.2.1), (.bool x12.2.2.2.1), (.string x12.2.2.2.2.1), (.string x12.2.2.2.2.2.1), (.int .i64 x12.2.2.2.2.2.2.1), (.int .u8 x12.2.2.2.2.2.2.2.1)]) ∧
   Wr w11 (blk w.heap.size) ∧
   Nw (w11.setCell (blk w.heap.size) (.int .u16 x12.1)) fun w12 =>
   Wr w12 ((blk w.heap.size).add 1) ∧
   Nw (w12.setCell ((blk w.heap.size).add 1) (.string x12.2.1)) fun w13 =>
   Wr w13 ((blk w.heap.size).add 2) ∧
   Nw (w13.setCell ((blk w.heap.size).add 2) (.bool x12.2.2.1)) fun w14 =>
   Wr w14 ((blk w.heap.size).add 3) ∧
   Nw (w14.setCell ((blk w.heap.size).add 3) (.bool x12.2.2.2.1)) fun w15 =>
   Wr w15 ((blk w.heap.size).add 4) ∧
   Nw (w15.setCell ((blk w.heap.size).add 4) (.string x12.2.2.2.2.1)) fun w16 =>
   Wr w16 ((blk w.heap.size).add 5) ∧
   Nw (w16.setCell ((blk w.heap.size).add 5) (.string x12.2.2.2.2.2.1)) fun w17 =>
   Wr w17 ((blk w.heap.size).add 6) ∧
   Nw (w17.setCell ((blk w.heap.size).add 6) (.int .i64 x12.2.2.2.2.2.2.1)) fun w18 =>
   Wr w18 ((blk w.heap.size).add 7) ∧
   Nw (w18.setCell ((blk w.heap.size).add 7) (.int .u8 x12.2.2.2.2.2.2.2.1)) fun w19 =>
   ldI w19 ((blk w.heap.size).add 0) .u16 fun x13 =>
   ldStr w19 ((blk w.heap.size).add 1) fun x14 =>
   ldB w19 ((blk w.heap.size).add 2) fun x15 =>
   ldB w19 ((blk w.heap.size).add 3) fun x16 =>
   ldStr w19 ((blk w.heap.size).add 4) fun x17 =>
   ldStr w19 ((blk w.heap.size).add 5) fun x18 =>
   ldI w19 ((blk w.heap.size).add 6) .i64 fun x19 =>
   ldI w19 ((blk w.heap.size).add 7) .u8 fun x20 =>
   R (.tuple #[(.agg #[(.int .u16 x13), (.string x14), (.bool x15), (.bool x16), (.string x17), (.string x18), (.int .i64 x19), (.int .u8 x20)]), (.bool true)]) w19)
   (ifB (p0 == (5 : Int))
    (callR Try.prog 100 #[(.int .u16 p0), (.string (ByteArray.mk #[79, 112, 78, 97, 109, 101])), (.bool false), (.bool false), (.string (ByteArray.mk #[105, 115])), (.string (ByteArray.mk #[])), (.int .i64 (0 : Int)), (.int .u8 (5 : Int))] w1 fun v21 w20 =>
    ∃ x22 : (Int × ByteArray × Bool × Bool × ByteArray × ByteArray × Int × Int × Unit), v21 = (.agg #[(.int .u16 x22.1), (.string x22.2.1), (.bool x22.2.2.1), (.bool x22.2.2.2.1), (.string x22.2.2.2.2.1), (.string x22.2.2.2.2.2.1), (.int .i64 x22.2.2.2.2.2.2.1), (.int .u8 x22.2.2.2.2.2.2.2.1)]) ∧
    Wr w20 (blk w.heap.size) ∧
    Nw (w20.setCell (blk w.heap.size) (.int .u16 x22.1)) fun w21 =>
    Wr w21 ((blk w.heap.size).add 1) ∧
    Nw (w21.setCell ((blk w.heap.size).add 1) (.string x22.2.1)) fun w22 =>
    Wr w22 ((blk w.heap.size).add 2) ∧
    Nw (w22.setCell ((blk w.heap.size).add 2) (.bool x22.2.2.1)) fun w23 =>
    Wr w23 ((blk w.heap.size).add 3) ∧
    Nw (w23.setCell ((blk w.heap.size).add 3) (.bool x22.2.2.2.1)) fun w24 =>
    Wr w24 ((blk w.heap.size).add 4) ∧
    Nw (w24.setCell ((blk w.heap.size).add 4) (.string x22.2.2.2.2.1)) fun w25 =>
    Wr w25 ((blk w.heap.size).add 5) ∧
    Nw (w25.setCell ((blk w.heap.size).add 5) (.string x22.2.2.2.2.2.1)) fun w26 =>
    Wr w26 ((blk w.heap.size).add 6) ∧
    Nw (w26.setCell ((blk w.heap.size).add 6) (.int .i64 x22.2.2.2.2.2.2.1)) fun w27 =>
    Wr w27 ((blk w.heap.size).add 7) ∧
    Nw (w27.setCell ((blk w.heap.size).add 7) (.int .u8 x22.2.2.2.2.2.2.2.1)) fun w28 =>
    ldI w28 ((blk w.heap.size).add 0) .u16 fun x23 =>
    ldStr w28 ((blk w.heap.size).add 1) fun x24 =>
    ldB w28 ((blk w.heap.size).add 2) fun x25 =>
    ldB w28 ((blk w.heap.size).add 3) fun x26 =>
    ldStr w28 ((blk w.heap.size).add 4) fun x27 =>
    ldStr w28 ((blk w.heap.size).add 5) fun x28 =>
    ldI w28 ((blk w.heap.size).add 6) .i64 fun x29 =>
    ldI w28 ((blk w.heap.size).add 7) .u8 fun x30 =>
    R (.tuple #[(.agg #[(.int .u16 x23), (.string x24), (.bool x25), (.bool x26), (.string x27), (.string x28), (.int .i64 x29), (.int .u8 x30)]), (.bool true)]) w28)
    (ifB (p0 == (6 : Int))
     (callR Try.prog 100 #[(.int .u16 p0), (.string (ByteArray.mk #[79, 112, 77, 101, 109, 98, 101, 114, 78, 97, 109, 101])), (.bool false), (.bool false), (.string (ByteArray.mk #[105, 110, 115])), (.string (ByteArray.mk #[])), (.int .i64 (0 : Int)), (.int .u8 (5 : Int))] w1 fun v31 w29 =>
     ∃ x32 : (Int × ByteArray × Bool × Bool × ByteArray × ByteArray × Int × Int × Unit), v31 = (.agg #[(.int .u16 x32.1), (.string x32.2.1), (.bool x32.2.2.1), (.bool x32.2.2.2.1), (.string x32.2.2.2.2.1), (.string x32.2.2.2.2.2.1), (.int .i64 x32.2.2.2.2.2.2.1), (.int .u8 x32.2.2.2.2.2.2.2.1)]) ∧
     Wr w29 (blk w.heap.size) ∧
     Nw (w29.setCell (blk w.heap.size) (.int .u16 x32.1)) fun w30 =>
     Wr w30 ((blk w.heap.size).add 1) ∧
     Nw (w30.setCell ((blk w.heap.size).add 1) (.string x32.2.1)) fun w31 =>
     Wr w31 ((blk w.heap.size).add 2) ∧
     Nw (w31.setCell ((blk w.heap.size).add 2) (.bool x32.2.2.1)) fun w32 =>
     Wr w32 ((blk w.heap.size).add 3) ∧
     Nw (w32.setCell ((blk w.heap.size).add 3) (.bool x32.2.2.2.1)) fun w33 =>
     Wr w33 ((blk w.heap.size).add 4) ∧
     Nw (w33.setCell ((blk w.heap.size).add 4) (.string x32.2.2.2.2.1)) fun w34 =>
     Wr w34 ((blk w.heap.size).add 5) ∧
     Nw (w34.setCell ((blk w.heap.size).add 5) (.string x32.2.2.2.2.2.1)) fun w35 =>
     Wr w35 ((blk w.heap.size).add 6) ∧
     Nw (w35.setCell ((blk w.heap.size).add 6) (.int .i64 x32.2.2.2.2.2.2.1)) fun w36 =>
     Wr w36 ((blk w.heap.size).add 7) ∧
     Nw (w36.setCell ((blk w.heap.size).add 7) (.int .u8 x32.2.2.2.2.2.2.2.1)) fun w37 =>
     ldI w37 ((blk w.heap.size).add 0) .u16 fun x33 =>
     ldStr w37 ((blk w.heap.size).add 1) fun x34 =>
     ldB w37 ((blk w.heap.size).add 2) fun x35 =>
     ldB w37 ((blk w.heap.size).add 3) fun x36 =>
     ldStr w37 ((blk w.heap.size).add 4) fun x37 =>
     ldStr w37 ((blk w.heap.size).add 5) fun x38 =>
     ldI w37 ((blk w.heap.size).add 6) .i64 fun x39 =>
     ldI w37 ((blk w.heap.size).add 7) .u8 fun x40 =>
     R (.tuple #[(.agg #[(.int .u16 x33), (.string x34), (.bool x35), (.bool x36), (.string x37), (.string x38), (.int .i64 x39), (.int .u8 x40)]), (.bool true)]) w37)
     (ifB (p0 == (7 : Int))
      (callR Try.prog 100 #[(.int .u16 p0), (.string (ByteArray.mk #[79, 112, 83, 116, 114, 105, 110, 103])), (.bool false), (.bool true), (.string (ByteArray.mk #[115])), (.string (ByteArray.mk #[])), (.int .i64 (0 : Int)), (.int .u8 (4 : Int))] w1 fun v41 w38 =>
      ∃ x42 : (Int × ByteArray × Bool × Bool × ByteArray × ByteArray × Int × Int × Unit), v41 = (.agg #[(.int .u16 x42.1), (.string x42.2.1), (.bool x42.2.2.1), (.bool x42.2.2.2.1), (.string x42.2.2.2.2.1), (.string x42.2.2.2.2.2.1), (.int .i64 x42.2.2.2.2.2.2.1), (.int .u8 x42.2.2.2.2.2.2.2.1)]) ∧
      Wr w38 (blk w.heap.size) ∧
      Nw (w38.setCell (blk w.heap.size) (.int .u16 x42.1)) fun w39 =>
      Wr w39 ((blk w.heap.size).add 1) ∧
      Nw (w39.setCell ((blk w.heap.size).add 1) (.string x42.2.1)) fun w40 =>
      Wr w40 ((blk w.heap.size).add 2) ∧
      Nw (w40.setCell ((blk w.heap.size).add 2) (.bool x42.2.2.1)) fun w41 =>
      Wr w41 ((blk w.heap.size).add 3) ∧
      Nw (w41.setCell ((blk w.heap.size).add 3) (.bool x42.2.2.2.1)) fun w42 =>
      Wr w42 ((blk w.heap.size).add 4) ∧
      Nw (w42.setCell ((blk w.heap.size).add 4) (.string x42.2.2.2.2.1)) fun w43 =>
      Wr w43 ((blk w.heap.size).add 5) ∧
      Nw (w43.setCell ((blk w.heap.size).add 5) (.string x42.2.2.2.2.2.1)) fun w44 =>
      Wr w44 ((blk w.heap.size).add 6) ∧
      Nw (w44.setCell ((blk w.heap.size).add 6) (.int .i64 x42.2.2.2.2.2.2.1)) fun w45 =>
      Wr w45 ((blk w.heap.size).add 7) ∧
      Nw (w45.setCell ((blk w.heap.size).add 7) (.int .u8 x42.2.2.2.2.2.2.2.1)) fun w46 =>
      ldI w46 ((blk w.heap.size).add 0) .u16 fun x43 =>
      ldStr w46 ((blk w.heap.size).add 1) fun x44 =>
      ldB w46 ((blk w.heap.size).add 2) fun x45 =>
      ldB w46 ((blk w.heap.size).add 3) fun x46 =>
      ldStr w46 ((blk w.heap.size).add 4) fun x47 =>
      ldStr w46 ((blk w.heap.size).add 5) fun x48 =>
      ldI w46 ((blk w.heap.size).add 6) .i64 fun x49 =>
      ldI w46 ((blk w.heap.size).add 7) .u8 fun x50 =>
      R (.tuple #[(.agg #[(.int .u16 x43), (.string x44), (.bool x45), (.bool x46), (.string x47), (.string x48), (.int .i64 x49), (.int .u8 x50)]), (.bool true)]) w46)
      (ifB (p0 == (14 : Int))
       (callR Try.prog 100 #[(.int .u16 p0), (.string (ByteArray.mk #[79, 112, 77, 101, 109, 111, 114, 121, 77, 111, 100, 101, 108])), (.bool false), (.bool false), (.string (ByteArray.mk #[97, 109])), (.string (ByteArray.mk #[])), (.int .i64 (0 : Int)), (.int .u8 (1 : Int))] w1 fun v51 w47 =>
       ∃ x52 : (Int × ByteArray × Bool × Bool × ByteArray × ByteArray × Int × Int × Unit), v51 = (.agg #[(.int .u16 x52.1), (.string x52.2.1), (.bool x52.2.2.1), (.bool x52.2.2.2.1), (.string x52.2.2.2.2.1), (.string x52.2.2.2.2.2.1), (.int .i64 x52.2.2.2.2.2.2.1), (.int .u8 x52.2.2.2.2.2.2.2.1)]) ∧
       Wr w47 (blk w.heap.size) ∧
       Nw (w47.setCell (blk w.heap.size) (.int .u16 x52.1)) fun w48 =>
       Wr w48 ((blk w.heap.size).add 1) ∧
       Nw (w48.setCell ((blk w.heap.size).add 1) (.string x52.2.1)) fun w49 =>
       Wr w49 ((blk w.heap.size).add 2) ∧
       Nw (w49.setCell ((blk w.heap.size).add 2) (.bool x52.2.2.1)) fun w50 =>
       Wr w50 ((blk w.heap.size).add 3) ∧
       Nw (w50.setCell ((blk w.heap.size).add 3) (.bool x52.2.2.2.1)) fun w51 =>
       Wr w51 ((blk w.heap.size).add 4) ∧
       Nw (w51.setCell ((blk w.heap.size).add 4) (.string x52.2.2.2.2.1)) fun w52 =>
       Wr w52 ((blk w.heap.size).add 5) ∧
       Nw (w52.setCell ((blk w.heap.size).add 5) (.string x52.2.2.2.2.2.1)) fun w53 =>
       Wr w53 ((blk w.heap.size).add 6) ∧
       Nw (w53.setCell ((blk w.heap.size).add 6) (.int .i64 x52.2.2.2.2.2.2.1)) fun w54 =>
       Wr w54 ((blk w.heap.size).add 7) ∧
       Nw (w54.setCell ((blk w.heap.size).add 7) (.int .u8 x52.2.2.2.2.2.2.2.1)) fun w55 =>
       ldI w55 ((blk w.heap.size).add 0) .u16 fun x53 =>
       ldStr w55 ((blk w.heap.size).add 1) fun x54 =>
       ldB w55 ((blk w.heap.size).add 2) fun x55 =>
       ldB w55 ((blk w.heap.size).add 3) fun x56 =>
       ldStr w55 ((blk w.heap.size).add 4) fun x57 =>
       ldStr w55 ((blk w.heap.size).add 5) fun x58 =>
       ldI w55 ((blk w.heap.size).add 6) .i64 fun x59 =>
       ldI w55 ((blk w.heap.size).add 7) .u8 fun x60 =>
       R (.tuple #[(.agg #[(.int .u16 x53), (.string x54), (.bool x55), (.bool x56), (.string x57), (.string x58), (.int .i64 x59), (.int .u8 x60)]), (.bool true)]) w55)
       (ifB (p0 == (15 : Int))
        (callR Try.prog 100 #[(.int .u16 p0), (.string (ByteArray.mk #[79, 112, 69, 110, 116, 114, 121, 80, 111, 105, 110, 116])), (.bool false), (.bool false), (.string (ByteArray.mk #[101, 105, 115])), (.string (ByteArray.mk #[105])), (.int .i64 (0 : Int)), (.int .u8 (2 : Int))] w1 fun v61 w56 =>
        ∃ x62 : (Int × ByteArray × Bool × Bool × ByteArray × ByteArray × Int × Int × Unit), v61 = (.agg #[(.int .u16 x62.1), (.string x62.2.1), (.bool x62.2.2.1), (.bool x62.2.2.2.1), (.string x62.2.2.2.2.1), (.string x62.2.2.2.2.2.1), (.int .i64 x62.2.2.2.2.2.2.1), (.int .u8 x62.2.2.2.2.2.2.2.1)]) ∧
        Wr w56 (blk w.heap.size) ∧
        Nw (w56.setCell (blk w.heap.size) (.int .u16 x62.1)) fun w57 =>
        Wr w57 ((blk w.heap.size).add 1) ∧
        Nw (w57.setCell ((blk w.heap.size).add 1) (.string x62.2.1)) fun w58 =>
        Wr w58 ((blk w.heap.size).add 2) ∧
        Nw (w58.setCell ((blk w.heap.size).add 2) (.bool x62.2.2.1)) fun w59 =>
        Wr w59 ((blk w.heap.size).add 3) ∧
        Nw (w59.setCell ((blk w.heap.size).add 3) (.bool x62.2.2.2.1)) fun w60 =>
        Wr w60 ((blk w.heap.size).add 4) ∧
        Nw (w60.setCell ((blk w.heap.size).add 4) (.string x62.2.2.2.2.1)) fun w61 =>
        Wr w61 ((blk w.heap.size).add 5) ∧
        Nw (w61.setCell ((blk w.heap.size).add 5) (.string x62.2.2.2.2.2.1)) fun w62 =>
        Wr w62 ((blk w.heap.size).add 6) ∧
        Nw (w62.setCell ((blk w.heap.size).add 6) (.int .i64 x62.2.2.2.2.2.2.1)) fun w63 =>
        Wr w63 ((blk w.heap.size).add 7) ∧
        Nw (w63.setCell ((blk w.heap.size).add 7) (.int .u8 x62.2.2.2.2.2.2.2.1)) fun w64 =>
        ldI w64 ((blk w.heap.size).add 0) .u16 fun x63 =>
        ldStr w64 ((blk w.heap.size).add 1) fun x64 =>
        ldB w64 ((blk w.heap.size).add 2) fun x65 =>
        ldB w64 ((blk w.heap.size).add 3) fun x66 =>
        ldStr w64 ((blk w.heap.size).add 4) fun x67 =>
        ldStr w64 ((blk w.heap.size).add 5) fun x68 =>
        ldI w64 ((blk w.heap.size).add 6) .i64 fun x69 =>
        ldI w64 ((blk w.heap.size).add 7) .u8 fun x70 =>
        R (.tuple #[(.agg #[(.int .u16 x63), (.string x64), (.bool x65), (.bool x66), (.string x67), (.string x68), (.int .i64 x69), (.int .u8 x70)]), (.bool true)]) w64)
        (ifB (p0 == (16 : Int))
         (callR Try.prog 100 #[(.int .u16 p0), (.string (ByteArray.mk #[79, 112, 69, 120, 101, 99, 117, 116, 105, 111, 110, 77, 111, 100, 101])), (.bool false), (.bool false), (.string (ByteArray.mk #[105, 120])), (.string (ByteArray.mk #[])), (.int .i64 (0 : Int)), (.int .u8 (3 : Int))] w1 fun v71 w65 =>
         ∃ x72 : (Int × ByteArray × Bool × Bool × ByteArray × ByteArray × Int × Int × Unit), v71 = (.agg #[(.int .u16 x72.1), (.string x72.2.1), (.bool x72.2.2.1), (.bool x72.2.2.2.1), (.string x72.2.2.2.2.1), (.string x72.2.2.2.2.2.1), (.int .i64 x72.2.2.2.2.2.2.1), (.int .u8 x72.2.2.2.2.2.2.2.1)]) ∧
         Wr w65 (blk w.heap.size) ∧
         Nw (w65.setCell (blk w.heap.size) (.int .u16 x72.1)) fun w66 =>
         Wr w66 ((blk w.heap.size).add 1) ∧
         Nw (w66.setCell ((blk w.heap.size).add 1) (.string x72.2.1)) fun w67 =>
         Wr w67 ((blk w.heap.size).add 2) ∧
         Nw (w67.setCell ((blk w.heap.size).add 2) (.bool x72.2.2.1)) fun w68 =>
         Wr w68 ((blk w.heap.size).add 3) ∧
         Nw (w68.setCell ((blk w.heap.size).add 3) (.bool x72.2.2.2.1)) fun w69 =>
         Wr w69 ((blk w.heap.size).add 4) ∧
         Nw (w69.setCell ((blk w.heap.size).add 4) (.string x72.2.2.2.2.1)) fun w70 =>
         Wr w70 ((blk w.heap.size).add 5) ∧
         Nw (w70.setCell ((blk w.heap.size).add 5) (.string x72.2.2.2.2.2.1)) fun w71 =>
         Wr w71 ((blk w.heap.size).add 6) ∧
         Nw (w71.setCell ((blk w.heap.size).add 6) (.int .i64 x72.2.2.2.2.2.2.1)) fun w72 =>
         Wr w72 ((blk w.heap.size).add 7) ∧
         Nw (w72.setCell ((blk w.heap.size).add 7) (.int .u8 x72.2.2.2.2.2.2.2.1)) fun w73 =>
         ldI w73 ((blk w.heap.size).add 0) .u16 fun x73 =>
         ldStr w73 ((blk w.heap.size).add 1) fun x74 =>
         ldB w73 ((blk w.heap.size).add 2) fun x75 =>
         ldB w73 ((blk w.heap.size).add 3) fun x76 =>
         ldStr w73 ((blk w.heap.size).add 4) fun x77 =>
         ldStr w73 ((blk w.heap.size).add 5) fun x78 =>
         ldI w73 ((blk w.heap.size).add 6) .i64 fun x79 =>
         ldI w73 ((blk w.heap.size).add 7) .u8 fun x80 =>
         R (.tuple #[(.agg #[(.int .u16 x73), (.string x74), (.bool x75), (.bool x76), (.string x77), (.string x78), (.int .i64 x79), (.int .u8 x80)]), (.bool true)]) w73)
         (ifB (p0 == (17 : Int))
          (callR Try.prog 100 #[(.int .u16 p0), (.string (ByteArray.mk #[79, 112, 67, 97, 112, 97, 98, 105, 108, 105, 116, 121])), (.bool false), (.bool false), (.string (ByteArray.mk #[107])), (.string (ByteArray.mk #[])), (.int .i64 (0 : Int)), (.int .u8 (0 : Int))] w1 fun v81 w74 =>
          ∃ x82 : (Int × ByteArray × Bool × Bool × ByteArray × ByteArray × Int × Int × Unit), v81 = (.agg #[(.int .u16 x82.1), (.string x82.2.1), (.bool x82.2.2.1), (.bool x82.2.2.2.1), (.string x82.2.2.2.2.1), (.string x82.2.2.2.2.2.1), (.int .i64 x82.2.2.2.2.2.2.1), (.int .u8 x82.2.2.2.2.2.2.2.1)]) ∧
          Wr w74 (blk w.heap.size) ∧
          Nw (w74.setCell (blk w.heap.size) (.int .u16 x82.1)) fun w75 =>
          Wr w75 ((blk w.heap.size).add 1) ∧
          Nw (w75.setCell ((blk w.heap.size).add 1) (.string x82.2.1)) fun w76 =>
          Wr w76 ((blk w.heap.size).add 2) ∧
          Nw (w76.setCell ((blk w.heap.size).add 2) (.bool x82.2.2.1)) fun w77 =>
          Wr w77 ((blk w.heap.size).add 3) ∧
          Nw (w77.setCell ((blk w.heap.size).add 3) (.bool x82.2.2.2.1)) fun w78 =>
          Wr w78 ((blk w.heap.size).add 4) ∧
          Nw (w78.setCell ((blk w.heap.size).add 4) (.string x82.2.2.2.2.1)) fun w79 =>
          Wr w79 ((blk w.heap.size).add 5) ∧
          Nw (w79.setCell ((blk w.heap.size).add 5) (.string x82.2.2.2.2.2.1)) fun w80 =>
          Wr w80 ((blk w.heap.size).add 6) ∧
          Nw (w80.setCell ((blk w.heap.size).add 6) (.int .i64 x82.2.2.2.2.2.2.1)) fun w81 =>
          Wr w81 ((blk w.heap.size).add 7) ∧
          Nw (w81.setCell ((blk w.heap.size).add 7) (.int .u8 x82.2.2.2.2.2.2.2.1)) fun w82 =>
          ldI w82 ((blk w.heap.size).add 0) .u16 fun x83 =>
          ldStr w82 ((blk w.heap.size).add 1) fun x84 =>
          ldB w82 ((blk w.heap.size).add 2) fun x85 =>
          ldB w82 ((blk w.heap.size).add 3) fun x86 =>
          ldStr w82 ((blk w.heap.size).add 4) fun x87 =>
          ldStr w82 ((blk w.heap.size).add 5) fun x88 =>
          ldI w82 ((blk w.heap.size).add 6) .i64 fun x89 =>
          ldI w82 ((blk w.heap.size).add 7) .u8 fun x90 =>
          R (.tuple #[(.agg #[(.int .u16 x83), (.string x84), (.bool x85), (.bool x86), (.string x87), (.string x88), (.int .i64 x89), (.int .u8 x90)]), (.bool true)]) w82)
          (ifB (p0 == (19 : Int))
           (callR Try.prog 100 #[(.int .u16 p0), (.string (ByteArray.mk #[79, 112, 84, 121, 112, 101, 86, 111, 105, 100])), (.bool false), (.bool true), (.string (ByteArray.mk #[])), (.string (ByteArray.mk #[])), (.int .i64 (0 : Int)), (.int .u8 (7 : Int))] w1 fun v91 w83 =>
           ∃ x92 : (Int × ByteArray × Bool × Bool × ByteArray × ByteArray × Int × Int × Unit), v91 = (.agg #[(.int .u16 x92.1), (.string x92.2.1), (.bool x92.2.2.1), (.bool x92.2.2.2.1), (.string x92.2.2.2.2.1), (.string x92.2.2.2.2.2.1), (.int .i64 x92.2.2.2.2.2.2.1), (.int .u8 x92.2.2.2.2.2.2.2.1)]) ∧
           Wr w83 (blk w.heap.size) ∧
           Nw (w83.setCell (blk w.heap.size) (.int .u16 x92.1)) fun w84 =>
           Wr w84 ((blk w.heap.size).add 1) ∧
           Nw (w84.setCell ((blk w.heap.size).add 1) (.string x92.2.1)) fun w85 =>
           Wr w85 ((blk w.heap.size).add 2) ∧
           Nw (w85.setCell ((blk w.heap.size).add 2) (.bool x92.2.2.1)) fun w86 =>
           Wr w86 ((blk w.heap.size).add 3) ∧
           Nw (w86.setCell ((blk w.heap.size).add 3) (.bool x92.2.2.2.1)) fun w87 =>
           Wr w87 ((blk w.heap.size).add 4) ∧
           Nw (w87.setCell ((blk w.heap.size).add 4) (.string x92.2.2.2.2.1)) fun w88 =>
           Wr w88 ((blk w.heap.size).add 5) ∧
           Nw (w88.setCell ((blk w.heap.size).add 5) (.string x92.2.2.2.2.2.1)) fun w89 =>
           Wr w89 ((blk w.heap.size).add 6) ∧
           Nw (w89.setCell ((blk w.heap.size).add 6) (.int .i64 x92.2.2.2.2.2.2.1)) fun w90 =>
           Wr w90 ((blk w.heap.size).add 7) ∧
           Nw (w90.setCell ((blk w.heap.size).add 7) (.int .u8 x92.2.2.2.2.2.2.2.1)) fun w91 =>
           ldI w91 ((blk w.heap.size).add 0) .u16 fun x93 =>
           ldStr w91 ((blk w.heap.size).add 1) fun x94 =>
           ldB w91 ((blk w.heap.size).add 2) fun x95 =>
           ldB w91 ((blk w.heap.size).add 3) fun x96 =>
           ldStr w91 ((blk w.heap.size).add 4) fun x97 =>
           ldStr w91 ((blk w.heap.size).add 5) fun x98 =>
           ldI w91 ((blk w.heap.size).add 6) .i64 fun x99 =>
           ldI w91 ((blk w.heap.size).add 7) .u8 fun x100 =>
           R (.tuple #[(.agg #[(.int .u16 x93), (.string x94), (.bool x95), (.bool x96), (.string x97), (.string x98), (.int .i64 x99), (.int .u8 x100)]), (.bool true)]) w91)
           (ifB (p0 == (20 : Int))
            (callR Try.prog 100 #[(.int .u16 p0), (.string (ByteArray.mk #[79, 112, 84, 121, 112, 101, 66, 111, 111, 108])), (.bool false), (.bool true), (.string (ByteArray.mk #[])), (.string (ByteArray.mk #[])), (.int .i64 (0 : Int)), (.int .u8 (7 : Int))] w1 fun v101 w92 =>
            ∃ x102 : (Int × ByteArray × Bool × Bool × ByteArray × ByteArray × Int × Int × Unit), v101 = (.agg #[(.int .u16 x102.1), (.string x102.2.1), (.bool x102.2.2.1), (.bool x102.2.2.2.1), (.string x102.2.2.2.2.1), (.string x102.2.2.2.2.2.1), (.int .i64 x102.2.2.2.2.2.2.1), (.int .u8 x102.2.2.2.2.2.2.2.1)]) ∧
            Wr w92 (blk w.heap.size) ∧
            Nw (w92.setCell (blk w.heap.size) (.int .u16 x102.1)) fun w93 =>
            Wr w93 ((blk w.heap.size).add 1) ∧
            Nw (w93.setCell ((blk w.heap.size).add 1) (.string x102.2.1)) fun w94 =>
            Wr w94 ((blk w.heap.size).add 2) ∧
            Nw (w94.setCell ((blk w.heap.size).add 2) (.bool x102.2.2.1)) fun w95 =>
            Wr w95 ((blk w.heap.size).add 3) ∧
            Nw (w95.setCell ((blk w.heap.size).add 3) (.bool x102.2.2.2.1)) fun w96 =>
            Wr w96 ((blk w.heap.size).add 4) ∧
            Nw (w96.setCell ((blk w.heap.size).add 4) (.string x102.2.2.2.2.1)) fun w97 =>
            Wr w97 ((blk w.heap.size).add 5) ∧
            Nw (w97.setCell ((blk w.heap.size).add 5) (.string x102.2.2.2.2.2.1)) fun w98 =>
            Wr w98 ((blk w.heap.size).add 6) ∧
            Nw (w98.setCell ((blk w.heap.size).add 6) (.int .i64 x102.2.2.2.2.2.2.1)) fun w99 =>
            Wr w99 ((blk w.heap.size).add 7) ∧
            Nw (w99.setCell ((blk w.heap.size).add 7) (.int .u8 x102.2.2.2.2.2.2.2.1)) fun w100 =>
            ldI w100 ((blk w.heap.size).add 0) .u16 fun x103 =>
            ldStr w100 ((blk w.heap.size).add 1) fun x104 =>
            ldB w100 ((blk w.heap.size).add 2) fun x105 =>
            ldB w100 ((blk w.heap.size).add 3) fun x106 =>
            ldStr w100 ((blk w.heap.size).add 4) fun x107 =>
            ldStr w100 ((blk w.heap.size).add 5) fun x108 =>
            ldI w100 ((blk w.heap.size).add 6) .i64 fun x109 =>
            ldI w100 ((blk w.heap.size).add 7) .u8 fun x110 =>
            R (.tuple #[(.agg #[(.int .u16 x103), (.string x104), (.bool x105), (.bool x106), (.string x107), (.string x108), (.int .i64 x109), (.int .u8 x110)]), (.bool true)]) w100)
            (ifB (p0 == (21 : Int))
            (callR Try.prog 100 #[(.int .u16 p0), (.string (ByteArray.mk #[79, 112, 84, 121, 112, 101, 73, 110, 116])), (.bool false), (.bool true), (.string (ByteArray.mk #[110, 110])), (.string (ByteArray.mk #[])), (.int .i64 (0 : Int)), (.int .u8 (7 : Int))] w1 fun v111 w101 =>
            ∃ x112 : (Int × ByteArray × Bool × Bool × ByteArray × ByteArray × Int × Int × Unit), v111 = (.agg #[(.int .u16 x112.1), (.string x112.2.1), (.bool x112.2.2.1), (.bool x112.2.2.2.1), (.string x112.2.2.2.2.1), (.string x112.2.2.2.2.2.1), (.int .i64 x112.2.2.2.2.2.2.1), (.int .u8 x112.2.2.2.2.2.2.2.1)]) ∧
            Wr w101 (blk w.heap.size) ∧
            Nw (w101.setCell (blk w.heap.size) (.int .u16 x112.1)) fun w102 =>
            Wr w102 ((blk w.heap.size).add 1) ∧
            Nw (w102.setCell ((blk w.heap.size).add 1) (.string x112.2.1)) fun w103 =>
            Wr w103 ((blk w.heap.size).add 2) ∧
            Nw (w103.setCell ((blk w.heap.size).add 2) (.bool x112.2.2.1)) fun w104 =>
            Wr w104 ((blk w.heap.size).add 3) ∧
            Nw (w104.setCell ((blk w.heap.size).add 3) (.bool x112.2.2.2.1)) fun w105 =>
            Wr w105 ((blk w.heap.size).add 4) ∧
            Nw (w105.setCell ((blk w.heap.size).add 4) (.string x112.2.2.2.2.1)) fun w106 =>
            Wr w106 ((blk w.heap.size).add 5) ∧
            Nw (w106.setCell ((blk w.heap.size).add 5) (.string x112.2.2.2.2.2.1)) fun w107 =>
            Wr w107 ((blk w.heap.size).add 6) ∧
            Nw (w107.setCell ((blk w.heap.size).add 6) (.int .i64 x112.2.2.2.2.2.2.1)) fun w108 =>
            Wr w108 ((blk w.heap.size).add 7) ∧
            Nw (w108.setCell ((blk w.heap.size).add 7) (.int .u8 x112.2.2.2.2.2.2.2.1)) fun w109 =>
            ldI w109 ((blk w.heap.size).add 0) .u16 fun x113 =>
            ldStr w109 ((blk w.heap.size).add 1) fun x114 =>
            ldB w109 ((blk w.heap.size).add 2) fun x115 =>
            ldB w109 ((blk w.heap.size).add 3) fun x116 =>
            ldStr w109 ((blk w.heap.size).add 4) fun x117 =>
            ldStr w109 ((blk w.heap.size).add 5) fun x118 =>
            ldI w109 ((blk w.heap.size).add 6) .i64 fun x119 =>
            ldI w109 ((blk w.heap.size).add 7) .u8 fun x120 =>
            R (.tuple #[(.agg #[(.int .u16 x113), (.string x114), (.bool x115), (.bool x116), (.string x117), (.string x118), (.int .i64 x119), (.int .u8 x120)]), (.bool true)]) w109)
            (ifB (p0 == (23 : Int))
            (callR Try.prog 100 #[(.int .u16 p0), (.string (ByteArray.mk #[79, 112, 84, 121, 112, 101, 86, 101, 99, 116, 111, 114])), (.bool false), (.bool true), (.string (ByteArray.mk #[105, 110])), (.string (ByteArray.mk #[])), (.int .i64 (0 : Int)), (.int .u8 (7 : Int))] w1 fun v121 w110 =>
            ∃ x122 : (Int × ByteArray × Bool × Bool × ByteArray × ByteArray × Int × Int × Unit), v121 = (.agg #[(.int .u16 x122.1), (.string x122.2.1), (.bool x122.2.2.1), (.bool x122.2.2.2.1), (.string x122.2.2.2.2.1), (.string x122.2.2.2.2.2.1), (.int .i64 x122.2.2.2.2.2.2.1), (.int .u8 x122.2.2.2.2.2.2.2.1)]) ∧
            Wr w110 (blk w.heap.size) ∧
            Nw (w110.setCell (blk w.heap.size) (.int .u16 x122.1)) fun w111 =>
            Wr w111 ((blk w.heap.size).add 1) ∧
            Nw (w111.setCell ((blk w.heap.size).add 1) (.string x122.2.1)) fun w112 =>
            Wr w112 ((blk w.heap.size).add 2) ∧
            Nw (w112.setCell ((blk w.heap.size).add 2) (.bool x122.2.2.1)) fun w113 =>
            Wr w113 ((blk w.heap.size).add 3) ∧
            Nw (w113.setCell ((blk w.heap.size).add 3) (.bool x122.2.2.2.1)) fun w114 =>
            Wr w114 ((blk w.heap.size).add 4) ∧
            Nw (w114.setCell ((blk w.heap.size).add 4) (.string x122.2.2.2.2.1)) fun w115 =>
            Wr w115 ((blk w.heap.size).add 5) ∧
            Nw (w115.setCell ((blk w.heap.size).add 5) (.string x122.2.2.2.2.2.1)) fun w116 =>
            Wr w116 ((blk w.heap.size).add 6) ∧
            Nw (w116.setCell ((blk w.heap.size).add 6) (.int .i64 x122.2.2.2.2.2.2.1)) fun w117 =>
            Wr w117 ((blk w.heap.size).add 7) ∧
            Nw (w117.setCell ((blk w.heap.size).add 7) (.int .u8 x122.2.2.2.2.2.2.2.1)) fun w118 =>
            ldI w118 ((blk w.heap.size).add 0) .u16 fun x123 =>
            ldStr w118 ((blk w.heap.size).add 1) fun x124 =>
            ldB w118 ((blk w.heap.size).add 2) fun x125 =>
            ldB w118 ((blk w.heap.size).add 3) fun x126 =>
            ldStr w118 ((blk w.heap.size).add 4) fun x127 =>
            ldStr w118 ((blk w.heap.size).add 5) fun x128 =>
            ldI w118 ((blk w.heap.size).add 6) .i64 fun x129 =>
            ldI w118 ((blk w.heap.size).add 7) .u8 fun x130 =>
            R (.tuple #[(.agg #[(.int .u16 x123), (.string x124), (.bool x125), (.bool x126), (.string x127), (.string x128), (.int .i64 x129), (.int .u8 x130)]), (.bool true)]) w118)
            (ifB (p0 == (28 : Int))
            (callR Try.prog 100 #[(.int .u16 p0), (.string (ByteArray.mk #[79, 112, 84, 121, 112, 101, 65, 114, 114, 97, 121])), (.bool false), (.bool true), (.string (ByteArray.mk #[105, 105])), (.string (ByteArray.mk #[])), (.int .i64 (0 : Int)), (.int .u8 (7 : Int))] w1 fun v131 w119 =>
            ∃ x132 : (Int × ByteArray × Bool × Bool × ByteArray × ByteArray × Int × Int × Unit), v131 = (.agg #[(.int .u16 x132.1), (.string x132.2.1), (.bool x132.2.2.1), (.bool x132.2.2.2.1), (.string x132.2.2.2.2.1), (.string x132.2.2.2.2.2.1), (.int .i64 x132.2.2.2.2.2.2.1), (.int .u8 x132.2.2.2.2.2.2.2.1)]) ∧
            Wr w119 (blk w.heap.size) ∧
            Nw (w119.setCell (blk w.heap.size) (.int .u16 x132.1)) fun w120 =>
            Wr w120 ((blk w.heap.size).add 1) ∧
            Nw (w120.setCell ((blk w.heap.size).add 1) (.string x132.2.1)) fun w121 =>
            Wr w121 ((blk w.heap.size).add 2) ∧
            Nw (w121.setCell ((blk w.heap.size).add 2) (.bool x132.2.2.1)) fun w122 =>
            Wr w122 ((blk w.heap.size).add 3) ∧
            Nw (w122.setCell ((blk w.heap.size).add 3) (.bool x132.2.2.2.1)) fun w123 =>
            Wr w123 ((blk w.heap.size).add 4) ∧
            Nw (w123.setCell ((blk w.heap.size).add 4) (.string x132.2.2.2.2.1)) fun w124 =>
            Wr w124 ((blk w.heap.size).add 5) ∧
            Nw (w124.setCell ((blk w.heap.size).add 5) (.string x132.2.2.2.2.2.1)) fun w125 =>
            Wr w125 ((blk w.heap.size).add 6) ∧
            Nw (w125.setCell ((blk w.heap.size).add 6) (.int .i64 x132.2.2.2.2.2.2.1)) fun w126 =>
            Wr w126 ((blk w.heap.size).add 7) ∧
            Nw (w126.setCell ((blk w.heap.size).add 7) (.int .u8 x132.2.2.2.2.2.2.2.1)) fun w127 =>
            ldI w127 ((blk w.heap.size).add 0) .u16 fun x133 =>
            ldStr w127 ((blk w.heap.size).add 1) fun x134 =>
            ldB w127 ((blk w.heap.size).add 2) fun x135 =>
            ldB w127 ((blk w.heap.size).add 3) fun x136 =>
            ldStr w127 ((blk w.heap.size).add 4) fun x137 =>
            ldStr w127 ((blk w.heap.size).add 5) fun x138 =>
            ldI w127 ((blk w.heap.size).add 6) .i64 fun x139 =>
            ldI w127 ((blk w.heap.size).add 7) .u8 fun x140 =>
            R (.tuple #[(.agg #[(.int .u16 x133), (.string x134), (.bool x135), (.bool x136), (.string x137), (.string x138), (.int .i64 x139), (.int .u8 x140)]), (.bool true)]) w127)
            (ifB (p0 == (30 : Int))
            (callR Try.prog 100 #[(.int .u16 p0), (.string (ByteArray.mk #[79, 112, 84, 121, 112, 101, 83, 116, 114, 117, 99, 116])), (.bool false), (.bool true), (.string (ByteArray.mk #[])), (.string (ByteArray.mk #[105])), (.int .i64 (0 : Int)), (.int .u8 (7 : Int))] w1 fun v141 w128 =>
            ∃ x142 : (Int × ByteArray × Bool × Bool × ByteArray × ByteArray × Int × Int × Unit), v141 = (.agg #[(.int .u16 x142.1), (.string x142.2.1), (.bool x142.2.2.1), (.bool x142.2.2.2.1), (.string x142.2.2.2.2.1), (.string x142.2.2.2.2.2.1), (.int .i64 x142.2.2.2.2.2.2.1), (.int .u8 x142.2.2.2.2.2.2.2.1)]) ∧
            Wr w128 (blk w.heap.size) ∧
            Nw (w128.setCell (blk w.heap.size) (.int .u16 x142.1)) fun w129 =>
            Wr w129 ((blk w.heap.size).add 1) ∧
            Nw (w129.setCell ((blk w.heap.size).add 1) (.string x142.2.1)) fun w130 =>
            Wr w130 ((blk w.heap.size).add 2) ∧
            Nw (w130.setCell ((blk w.heap.size).add 2) (.bool x142.2.2.1)) fun w131 =>
            Wr w131 ((blk w.heap.size).add 3) ∧
            Nw (w131.setCell ((blk w.heap.size).add 3) (.bool x142.2.2.2.1)) fun w132 =>
            Wr w132 ((blk w.heap.size).add 4) ∧
            Nw (w132.setCell ((blk w.heap.size).add 4) (.string x142.2.2.2.2.1)) fun w133 =>
            Wr w133 ((blk w.heap.size).add 5) ∧
            Nw (w133.setCell ((blk w.heap.size).add 5) (.string x142.2.2.2.2.2.1)) fun w134 =>
            Wr w134 ((blk w.heap.size).add 6) ∧
            Nw (w134.setCell ((blk w.heap.size).add 6) (.int .i64 x142.2.2.2.2.2.2.1)) fun w135 =>
            Wr w135 ((blk w.heap.size).add 7) ∧
            Nw (w135.setCell ((blk w.heap.size).add 7) (.int .u8 x142.2.2.2.2.2.2.2.1)) fun w136 =>
            ldI w136 ((blk w.heap.size).add 0) .u16 fun x143 =>
            ldStr w136 ((blk w.heap.size).add 1) fun x144 =>
            ldB w136 ((blk w.heap.size).add 2) fun x145 =>
            ldB w136 ((blk w.heap.size).add 3) fun x146 =>
            ldStr w136 ((blk w.heap.size).add 4) fun x147 =>
            ldStr w136 ((blk w.heap.size).add 5) fun x148 =>
            ldI w136 ((blk w.heap.size).add 6) .i64 fun x149 =>
            ldI w136 ((blk w.heap.size).add 7) .u8 fun x150 =>
            R (.tuple #[(.agg #[(.int .u16 x143), (.string x144), (.bool x145), (.bool x146), (.string x147), (.string x148), (.int .i64 x149), (.int .u8 x150)]), (.bool true)]) w136)
            (ifB (p0 == (32 : Int))
            (callR Try.prog 100 #[(.int .u16 p0), (.string (ByteArray.mk #[79, 112, 84, 121, 112, 101, 80, 111, 105, 110, 116, 101, 114])), (.bool false), (.bool true), (.string (ByteArray.mk #[99, 105])), (.string (ByteArray.mk #[])), (.int .i64 (0 : Int)), (.int .u8 (7 : Int))] w1 fun v151 w137 =>
            ∃ x152 : (Int × ByteArray × Bool × Bool × ByteArray × ByteArray × Int × Int × Unit), v151 = (.agg #[(.int .u16 x152.1), (.string x152.2.1), (.bool x152.2.2.1), (.bool x152.2.2.2.1), (.string x152.2.2.2.2.1), (.string x152.2.2.2.2.2.1), (.int .i64 x152.2.2.2.2.2.2.1), (.int .u8 x152.2.2.2.2.2.2.2.1)]) ∧
            Wr w137 (blk w.heap.size) ∧
            Nw (w137.setCell (blk w.heap.size) (.int .u16 x152.1)) fun w138 =>
            Wr w138 ((blk w.heap.size).add 1) ∧
            Nw (w138.setCell ((blk w.heap.size).add 1) (.string x152.2.1)) fun w139 =>
            Wr w139 ((blk w.heap.size).add 2) ∧
            Nw (w139.setCell ((blk w.heap.size).add 2) (.bool x152.2.2.1)) fun w140 =>
            Wr w140 ((blk w.heap.size).add 3) ∧
            Nw (w140.setCell ((blk w.heap.size).add 3) (.bool x152.2.2.2.1)) fun w141 =>
            Wr w141 ((blk w.heap.size).add 4) ∧
            Nw (w141.setCell ((blk w.heap.size).add 4) (.string x152.2.2.2.2.1)) fun w142 =>
            Wr w142 ((blk w.heap.size).add 5) ∧
            Nw (w142.setCell ((blk w.heap.size).add 5) (.string x152.2.2.2.2.2.1)) fun w143 =>
            Wr w143 ((blk w.heap.size).add 6) ∧
            Nw (w143.setCell ((blk w.heap.size).add 6) (.int .i64 x152.2.2.2.2.2.2.1)) fun w144 =>
            Wr w144 ((blk w.heap.size).add 7) ∧
            Nw (w144.setCell ((blk w.heap.size).add 7) (.int .u8 x152.2.2.2.2.2.2.2.1)) fun w145 =>
            ldI w145 ((blk w.heap.size).add 0) .u16 fun x153 =>
            ldStr w145 ((blk w.heap.size).add 1) fun x154 =>
            ldB w145 ((blk w.heap.size).add 2) fun x155 =>
            ldB w145 ((blk w.heap.size).add 3) fun x156 =>
            ldStr w145 ((blk w.heap.size).add 4) fun x157 =>
            ldStr w145 ((blk w.heap.size).add 5) fun x158 =>
            ldI w145 ((blk w.heap.size).add 6) .i64 fun x159 =>
            ldI w145 ((blk w.heap.size).add 7) .u8 fun x160 =>
            R (.tuple #[(.agg #[(.int .u16 x153), (.string x154), (.bool x155), (.bool x156), (.string x157), (.string x158), (.int .i64 x159), (.int .u8 x160)]), (.bool true)]) w145)
            (ifB (p0 == (33 : Int))
            (callR Try.prog 100 #[(.int .u16 p0), (.string (ByteArray.mk #[79, 112, 84, 121, 112, 101, 70, 117, 110, 99, 116, 105, 111, 110])), (.bool false), (.bool true), (.string (ByteArray.mk #[105])), (.string (ByteArray.mk #[105])), (.int .i64 (0 : Int)), (.int .u8 (7 : Int))] w1 fun v161 w146 =>
            ∃ x162 : (Int × ByteArray × Bool × Bool × ByteArray × ByteArray × Int × Int × Unit), v161 = (.agg #[(.int .u16 x162.1), (.string x162.2.1), (.bool x162.2.2.1), (.bool x162.2.2.2.1), (.string x162.2.2.2.2.1), (.string x162.2.2.2.2.2.1), (.int .i64 x162.2.2.2.2.2.2.1), (.int .u8 x162.2.2.2.2.2.2.2.1)]) ∧
            Wr w146 (blk w.heap.size) ∧
            Nw (w146.setCell (blk w.heap.size) (.int .u16 x162.1)) fun w147 =>
            Wr w147 ((blk w.heap.size).add 1) ∧
            Nw (w147.setCell ((blk w.heap.size).add 1) (.string x162.2.1)) fun w148 =>
            Wr w148 ((blk w.heap.size).add 2) ∧
            Nw (w148.setCell ((blk w.heap.size).add 2) (.bool x162.2.2.1)) fun w149 =>
            Wr w149 ((blk w.heap.size).add 3) ∧
            Nw (w149.setCell ((blk w.heap.size).add 3) (.bool x162.2.2.2.1)) fun w150 =>
            Wr w150 ((blk w.heap.size).add 4) ∧
            Nw (w150.setCell ((blk w.heap.size).add 4) (.string x162.2.2.2.2.1)) fun w151 =>
            Wr w151 ((blk w.heap.size).add 5) ∧
            Nw (w151.setCell ((blk w.heap.size).add 5) (.string x162.2.2.2.2.2.1)) fun w152 =>
            Wr w152 ((blk w.heap.size).add 6) ∧
            Nw (w152.setCell ((blk w.heap.size).add 6) (.int .i64 x162.2.2.2.2.2.2.1)) fun w153 =>
            Wr w153 ((blk w.heap.size).add 7) ∧
            Nw (w153.setCell ((blk w.heap.size).add 7) (.int .u8 x162.2.2.2.2.2.2.2.1)) fun w154 =>
            ldI w154 ((blk w.heap.size).add 0) .u16 fun x163 =>
            ldStr w154 ((blk w.heap.size).add 1) fun x164 =>
            ldB w154 ((blk w.heap.size).add 2) fun x165 =>
            ldB w154 ((blk w.heap.size).add 3) fun x166 =>
            ldStr w154 ((blk w.heap.size).add 4) fun x167 =>
            ldStr w154 ((blk w.heap.size).add 5) fun x168 =>
            ldI w154 ((blk w.heap.size).add 6) .i64 fun x169 =>
            ldI w154 ((blk w.heap.size).add 7) .u8 fun x170 =>
            R (.tuple #[(.agg #[(.int .u16 x163), (.string x164), (.bool x165), (.bool x166), (.string x167), (.string x168), (.int .i64 x169), (.int .u8 x170)]), (.bool true)]) w154)
            (ifB (p0 == (41 : Int))
            (callR Try.prog 100 #[(.int .u16 p0), (.string (ByteArray.mk #[79, 112, 67, 111, 110, 115, 116, 97, 110, 116, 84, 114, 117, 101])), (.bool true), (.bool true), (.string (ByteArray.mk #[])), (.string (ByteArray.mk #[])), (.int .i64 (0 : Int)), (.int .u8 (7 : Int))] w1 fun v171 w155 =>
            ∃ x172 : (Int × ByteArray × Bool × Bool × ByteArray × ByteArray × Int × Int × Unit), v171 = (.agg #[(.int .u16 x172.1), (.string x172.2.1), (.bool x172.2.2.1), (.bool x172.2.2.2.1), (.string x172.2.2.2.2.1), (.string x172.2.2.2.2.2.1), (.int .i64 x172.2.2.2.2.2.2.1), (.int .u8 x172.2.2.2.2.2.2.2.1)]) ∧
            Wr w155 (blk w.heap.size) ∧
            Nw (w155.setCell (blk w.heap.size) (.int .u16 x172.1)) fun w156 =>
            Wr w156 ((blk w.heap.size).add 1) ∧
            Nw (w156.setCell ((blk w.heap.size).add 1) (.string x172.2.1)) fun w157 =>
            Wr w157 ((blk w.heap.size).add 2) ∧
            Nw (w157.setCell ((blk w.heap.size).add 2) (.bool x172.2.2.1)) fun w158 =>
            Wr w158 ((blk w.heap.size).add 3) ∧
            Nw (w158.setCell ((blk w.heap.size).add 3) (.bool x172.2.2.2.1)) fun w159 =>
            Wr w159 ((blk w.heap.size).add 4) ∧
            Nw (w159.setCell ((blk w.heap.size).add 4) (.string x172.2.2.2.2.1)) fun w160 =>
            Wr w160 ((blk w.heap.size).add 5) ∧
            Nw (w160.setCell ((blk w.heap.size).add 5) (.string x172.2.2.2.2.2.1)) fun w161 =>
            Wr w161 ((blk w.heap.size).add 6) ∧
            Nw (w161.setCell ((blk w.heap.size).add 6) (.int .i64 x172.2.2.2.2.2.2.1)) fun w162 =>
            Wr w162 ((blk w.heap.size).add 7) ∧
            Nw (w162.setCell ((blk w.heap.size).add 7) (.int .u8 x172.2.2.2.2.2.2.2.1)) fun w163 =>
            ldI w163 ((blk w.heap.size).add 0) .u16 fun x173 =>
            ldStr w163 ((blk w.heap.size).add 1) fun x174 =>
            ldB w163 ((blk w.heap.size).add 2) fun x175 =>
            ldB w163 ((blk w.heap.size).add 3) fun x176 =>
            ldStr w163 ((blk w.heap.size).add 4) fun x177 =>
            ldStr w163 ((blk w.heap.size).add 5) fun x178 =>
            ldI w163 ((blk w.heap.size).add 6) .i64 fun x179 =>
            ldI w163 ((blk w.heap.size).add 7) .u8 fun x180 =>
            R (.tuple #[(.agg #[(.int .u16 x173), (.string x174), (.bool x175), (.bool x176), (.string x177), (.string x178), (.int .i64 x179), (.int .u8 x180)]), (.bool true)]) w163)
            (ifB (p0 == (42 : Int))
            (callR Try.prog 100 #[(.int .u16 p0), (.string (ByteArray.mk #[79, 112, 67, 111, 110, 115, 116, 97, 110, 116, 70, 97, 108, 115, 101])), (.bool true), (.bool true), (.string (ByteArray.mk #[])), (.string (ByteArray.mk #[])), (.int .i64 (0 : Int)), (.int .u8 (7 : Int))] w1 fun v181 w164 =>
            ∃ x182 : (Int × ByteArray × Bool × Bool × ByteArray × ByteArray × Int × Int × Unit), v181 = (.agg #[(.int .u16 x182.1), (.string x182.2.1), (.bool x182.2.2.1), (.bool x182.2.2.2.1), (.string x182.2.2.2.2.1), (.string x182.2.2.2.2.2.1), (.int .i64 x182.2.2.2.2.2.2.1), (.int .u8 x182.2.2.2.2.2.2.2.1)]) ∧
            Wr w164 (blk w.heap.size) ∧
            Nw (w164.setCell (blk w.heap.size) (.int .u16 x182.1)) fun w165 =>
            Wr w165 ((blk w.heap.size).add 1) ∧
            Nw (w165.setCell ((blk w.heap.size).add 1) (.string x182.2.1)) fun w166 =>
            Wr w166 ((blk w.heap.size).add 2) ∧
            Nw (w166.setCell ((blk w.heap.size).add 2) (.bool x182.2.2.1)) fun w167 =>
            Wr w167 ((blk w.heap.size).add 3) ∧
            Nw (w167.setCell ((blk w.heap.size).add 3) (.bool x182.2.2.2.1)) fun w168 =>
            Wr w168 ((blk w.heap.size).add 4) ∧
            Nw (w168.setCell ((blk w.heap.size).add 4) (.string x182.2.2.2.2.1)) fun w169 =>
            Wr w169 ((blk w.heap.size).add 5) ∧
            Nw (w169.setCell ((blk w.heap.size).add 5) (.string x182.2.2.2.2.2.1)) fun w170 =>
            Wr w170 ((blk w.heap.size).add 6) ∧
            Nw (w170.setCell ((blk w.heap.size).add 6) (.int .i64 x182.2.2.2.2.2.2.1)) fun w171 =>
            Wr w171 ((blk w.heap.size).add 7) ∧
            Nw (w171.setCell ((blk w.heap.size).add 7) (.int .u8 x182.2.2.2.2.2.2.2.1)) fun w172 =>
            ldI w172 ((blk w.heap.size).add 0) .u16 fun x183 =>
            ldStr w172 ((blk w.heap.size).add 1) fun x184 =>
            ldB w172 ((blk w.heap.size).add 2) fun x185 =>
            ldB w172 ((blk w.heap.size).add 3) fun x186 =>
            ldStr w172 ((blk w.heap.size).add 4) fun x187 =>
            ldStr w172 ((blk w.heap.size).add 5) fun x188 =>
            ldI w172 ((blk w.heap.size).add 6) .i64 fun x189 =>
            ldI w172 ((blk w.heap.size).add 7) .u8 fun x190 =>
            R (.tuple #[(.agg #[(.int .u16 x183), (.string x184), (.bool x185), (.bool x186), (.string x187), (.string x188), (.int .i64 x189), (.int .u8 x190)]), (.bool true)]) w172)
            (ifB (p0 == (43 : Int))
            (callR Try.prog 100 #[(.int .u16 p0), (.string (ByteArray.mk #[79, 112, 67, 111, 110, 115, 116, 97, 110, 116])), (.bool true), (.bool true), (.string (ByteArray.mk #[110])), (.string (ByteArray.mk #[])), (.int .i64 (0 : Int)), (.int .u8 (7 : Int))] w1 fun v191 w173 =>
            ∃ x192 : (Int × ByteArray × Bool × Bool × ByteArray × ByteArray × Int × Int × Unit), v191 = (.agg #[(.int .u16 x192.1), (.string x192.2.1), (.bool x192.2.2.1), (.bool x192.2.2.2.1), (.string x192.2.2.2.2.1), (.string x192.2.2.2.2.2.1), (.int .i64 x192.2.2.2.2.2.2.1), (.int .u8 x192.2.2.2.2.2.2.2.1)]) ∧
            Wr w173 (blk w.heap.size) ∧
            Nw (w173.setCell (blk w.heap.size) (.int .u16 x192.1)) fun w174 =>
            Wr w174 ((blk w.heap.size).add 1) ∧
            Nw (w174.setCell ((blk w.heap.size).add 1) (.string x192.2.1)) fun w175 =>
            Wr w175 ((blk w.heap.size).add 2) ∧
            Nw (w175.setCell ((blk w.heap.size).add 2) (.bool x192.2.2.1)) fun w176 =>
            Wr w176 ((blk w.heap.size).add 3) ∧
            Nw (w176.setCell ((blk w.heap.size).add 3) (.bool x192.2.2.2.1)) fun w177 =>
            Wr w177 ((blk w.heap.size).add 4) ∧
            Nw (w177.setCell ((blk w.heap.size).add 4) (.string x192.2.2.2.2.1)) fun w178 =>
            Wr w178 ((blk w.heap.size).add 5) ∧
            Nw (w178.setCell ((blk w.heap.size).add 5) (.string x192.2.2.2.2.2.1)) fun w179 =>
            Wr w179 ((blk w.heap.size).add 6) ∧
            Nw (w179.setCell ((blk w.heap.size).add 6) (.int .i64 x192.2.2.2.2.2.2.1)) fun w180 =>
            Wr w180 ((blk w.heap.size).add 7) ∧
            Nw (w180.setCell ((blk w.heap.size).add 7) (.int .u8 x192.2.2.2.2.2.2.2.1)) fun w181 =>
            ldI w181 ((blk w.heap.size).add 0) .u16 fun x193 =>
            ldStr w181 ((blk w.heap.size).add 1) fun x194 =>
            ldB w181 ((blk w.heap.size).add 2) fun x195 =>
            ldB w181 ((blk w.heap.size).add 3) fun x196 =>
            ldStr w181 ((blk w.heap.size).add 4) fun x197 =>
            ldStr w181 ((blk w.heap.size).add 5) fun x198 =>
            ldI w181 ((blk w.heap.size).add 6) .i64 fun x199 =>
            ldI w181 ((blk w.heap.size).add 7) .u8 fun x200 =>
            R (.tuple #[(.agg #[(.int .u16 x193), (.string x194), (.bool x195), (.bool x196), (.string x197), (.string x198), (.int .i64 x199), (.int .u8 x200)]), (.bool true)]) w181)
            (ifB (p0 == (44 : Int))
            (callR Try.prog 100 #[(.int .u16 p0), (.string (ByteArray.mk #[79, 112, 67, 111, 110, 115, 116, 97, 110, 116, 67, 111, 109, 112, 111, 115, 105, 116, 101])), (.bool true), (.bool true), (.string (ByteArray.mk #[])), (.string (ByteArray.mk #[105])), (.int .i64 (0 : Int)), (.int .u8 (7 : Int))] w1 fun v201 w182 =>
            ∃ x202 : (Int × ByteArray × Bool × Bool × ByteArray × ByteArray × Int × Int × Unit), v201 = (.agg #[(.int .u16 x202.1), (.string x202.2.1), (.bool x202.2.2.1), (.bool x202.2.2.2.1), (.string x202.2.2.2.2.1), (.string x202.2.2.2.2.2.1), (.int .i64 x202.2.2.2.2.2.2.1), (.int .u8 x202.2.2.2.2.2.2.2.1)]) ∧
            Wr w182 (blk w.heap.size) ∧
            Nw (w182.setCell (blk w.heap.size) (.int .u16 x202.1)) fun w183 =>
            Wr w183 ((blk w.heap.size).add 1) ∧
            Nw (w183.setCell ((blk w.heap.size).add 1) (.string x202.2.1)) fun w184 =>
            Wr w184 ((blk w.heap.size).add 2) ∧
            Nw (w184.setCell ((blk w.heap.size).add 2) (.bool x202.2.2.1)) fun w185 =>
            Wr w185 ((blk w.heap.size).add 3) ∧
            Nw (w185.setCell ((blk w.heap.size).add 3) (.bool x202.2.2.2.1)) fun w186 =>
            Wr w186 ((blk w.heap.size).add 4) ∧
            Nw (w186.setCell ((blk w.heap.size).add 4) (.string x202.2.2.2.2.1)) fun w187 =>
            Wr w187 ((blk w.heap.size).add 5) ∧
            Nw (w187.setCell ((blk w.heap.size).add 5) (.string x202.2.2.2.2.2.1)) fun w188 =>
            Wr w188 ((blk w.heap.size).add 6) ∧
            Nw (w188.setCell ((blk w.heap.size).add 6) (.int .i64 x202.2.2.2.2.2.2.1)) fun w189 =>
            Wr w189 ((blk w.heap.size).add 7) ∧
            Nw (w189.setCell ((blk w.heap.size).add 7) (.int .u8 x202.2.2.2.2.2.2.2.1)) fun w190 =>
            ldI w190 ((blk w.heap.size).add 0) .u16 fun x203 =>
            ldStr w190 ((blk w.heap.size).add 1) fun x204 =>
            ldB w190 ((blk w.heap.size).add 2) fun x205 =>
            ldB w190 ((blk w.heap.size).add 3) fun x206 =>
            ldStr w190 ((blk w.heap.size).add 4) fun x207 =>
            ldStr w190 ((blk w.heap.size).add 5) fun x208 =>
            ldI w190 ((blk w.heap.size).add 6) .i64 fun x209 =>
            ldI w190 ((blk w.heap.size).add 7) .u8 fun x210 =>
            R (.tuple #[(.agg #[(.int .u16 x203), (.string x204), (.bool x205), (.bool x206), (.string x207), (.string x208), (.int .i64 x209), (.int .u8 x210)]), (.bool true)]) w190)
            (ifB (p0 == (46 : Int))
            (callR Try.prog 100 #[(.int .u16 p0), (.string (ByteArray.mk #[79, 112, 67, 111, 110, 115, 116, 97, 110, 116, 78, 117, 108, 108])), (.bool true), (.bool true), (.string (ByteArray.mk #[])), (.string (ByteArray.mk #[])), (.int .i64 (0 : Int)), (.int .u8 (7 : Int))] w1 fun v211 w191 =>
            ∃ x212 : (Int × ByteArray × Bool × Bool × ByteArray × ByteArray × Int × Int × Unit), v211 = (.agg #[(.int .u16 x212.1), (.string x212.2.1), (.bool x212.2.2.1), (.bool x212.2.2.2.1), (.string x212.2.2.2.2.1), (.string x212.2.2.2.2.2.1), (.int .i64 x212.2.2.2.2.2.2.1), (.int .u8 x212.2.2.2.2.2.2.2.1)]) ∧
            Wr w191 (blk w.heap.size) ∧
            Nw (w191.setCell (blk w.heap.size) (.int .u16 x212.1)) fun w192 =>
            Wr w192 ((blk w.heap.size).add 1) ∧
            Nw (w192.setCell ((blk w.heap.size).add 1) (.string x212.2.1)) fun w193 =>
            Wr w193 ((blk w.heap.size).add 2) ∧
            Nw (w193.setCell ((blk w.heap.size).add 2) (.bool x212.2.2.1)) fun w194 =>
            Wr w194 ((blk w.heap.size).add 3) ∧
            Nw (w194.setCell ((blk w.heap.size).add 3) (.bool x212.2.2.2.1)) fun w195 =>
            Wr w195 ((blk w.heap.size).add 4) ∧
            Nw (w195.setCell ((blk w.heap.size).add 4) (.string x212.2.2.2.2.1)) fun w196 =>
            Wr w196 ((blk w.heap.size).add 5) ∧
            Nw (w196.setCell ((blk w.heap.size).add 5) (.string x212.2.2.2.2.2.1)) fun w197 =>
            Wr w197 ((blk w.heap.size).add 6) ∧
            Nw (w197.setCell ((blk w.heap.size).add 6) (.int .i64 x212.2.2.2.2.2.2.1)) fun w198 =>
            Wr w198 ((blk w.heap.size).add 7) ∧
            Nw (w198.setCell ((blk w.heap.size).add 7) (.int .u8 x212.2.2.2.2.2.2.2.1)) fun w199 =>
            ldI w199 ((blk w.heap.size).add 0) .u16 fun x213 =>
            ldStr w199 ((blk w.heap.size).add 1) fun x214 =>
            ldB w199 ((blk w.heap.size).add 2) fun x215 =>
            ldB w199 ((blk w.heap.size).add 3) fun x216 =>
            ldStr w199 ((blk w.heap.size).add 4) fun x217 =>
            ldStr w199 ((blk w.heap.size).add 5) fun x218 =>
            ldI w199 ((blk w.heap.size).add 6) .i64 fun x219 =>
            ldI w199 ((blk w.heap.size).add 7) .u8 fun x220 =>
            R (.tuple #[(.agg #[(.int .u16 x213), (.string x214), (.bool x215), (.bool x216), (.string x217), (.string x218), (.int .i64 x219), (.int .u8 x220)]), (.bool true)]) w199)
            (ifB (p0 == (54 : Int))
            (callR Try.prog 100 #[(.int .u16 p0), (.string (ByteArray.mk #[79, 112, 70, 117, 110, 99, 116, 105, 111, 110])), (.bool true), (.bool true), (.string (ByteArray.mk #[102, 105])), (.string (ByteArray.mk #[])), (.int .i64 (0 : Int)), (.int .u8 (8 : Int))] w1 fun v221 w200 =>
            ∃ x222 : (Int × ByteArray × Bool × Bool × ByteArray × ByteArray × Int × Int × Unit), v221 = (.agg #[(.int .u16 x222.1), (.string x222.2.1), (.bool x222.2.2.1), (.bool x222.2.2.2.1), (.string x222.2.2.2.2.1), (.string x222.2.2.2.2.2.1), (.int .i64 x222.2.2.2.2.2.2.1), (.int .u8 x222.2.2.2.2.2.2.2.1)]) ∧
            Wr w200 (blk w.heap.size) ∧
            Nw (w200.setCell (blk w.heap.size) (.int .u16 x222.1)) fun w201 =>
            Wr w201 ((blk w.heap.size).add 1) ∧
            Nw (w201.setCell ((blk w.heap.size).add 1) (.string x222.2.1)) fun w202 =>
            Wr w202 ((blk w.heap.size).add 2) ∧
            Nw (w202.setCell ((blk w.heap.size).add 2) (.bool x222.2.2.1)) fun w203 =>
            Wr w203 ((blk w.heap.size).add 3) ∧
            Nw (w203.setCell ((blk w.heap.size).add 3) (.bool x222.2.2.2.1)) fun w204 =>
            Wr w204 ((blk w.heap.size).add 4) ∧
            Nw (w204.setCell ((blk w.heap.size).add 4) (.string x222.2.2.2.2.1)) fun w205 =>
            Wr w205 ((blk w.heap.size).add 5) ∧
            Nw (w205.setCell ((blk w.heap.size).add 5) (.string x222.2.2.2.2.2.1)) fun w206 =>
            Wr w206 ((blk w.heap.size).add 6) ∧
            Nw (w206.setCell ((blk w.heap.size).add 6) (.int .i64 x222.2.2.2.2.2.2.1)) fun w207 =>
            Wr w207 ((blk w.heap.size).add 7) ∧
            Nw (w207.setCell ((blk w.heap.size).add 7) (.int .u8 x222.2.2.2.2.2.2.2.1)) fun w208 =>
            ldI w208 ((blk w.heap.size).add 0) .u16 fun x223 =>
            ldStr w208 ((blk w.heap.size).add 1) fun x224 =>
            ldB w208 ((blk w.heap.size).add 2) fun x225 =>
            ldB w208 ((blk w.heap.size).add 3) fun x226 =>
            ldStr w208 ((blk w.heap.size).add 4) fun x227 =>
            ldStr w208 ((blk w.heap.size).add 5) fun x228 =>
            ldI w208 ((blk w.heap.size).add 6) .i64 fun x229 =>
            ldI w208 ((blk w.heap.size).add 7) .u8 fun x230 =>
            R (.tuple #[(.agg #[(.int .u16 x223), (.string x224), (.bool x225), (.bool x226), (.string x227), (.string x228), (.int .i64 x229), (.int .u8 x230)]), (.bool true)]) w208)
            (ifB (p0 == (55 : Int))
            (callR Try.prog 100 #[(.int .u16 p0), (.string (ByteArray.mk #[79, 112, 70, 117, 110, 99, 116, 105, 111, 110, 80, 97, 114, 97, 109, 101, 116, 101, 114])), (.bool true), (.bool true), (.string (ByteArray.mk #[])), (.string (ByteArray.mk #[])), (.int .i64 (0 : Int)), (.int .u8 (8 : Int))] w1 fun v231 w209 =>
            ∃ x232 : (Int × ByteArray × Bool × Bool × ByteArray × ByteArray × Int × Int × Unit), v231 = (.agg #[(.int .u16 x232.1), (.string x232.2.1), (.bool x232.2.2.1), (.bool x232.2.2.2.1), (.string x232.2.2.2.2.1), (.string x232.2.2.2.2.2.1), (.int .i64 x232.2.2.2.2.2.2.1), (.int .u8 x232.2.2.2.2.2.2.2.1)]) ∧
            Wr w209 (blk w.heap.size) ∧
            Nw (w209.setCell (blk w.heap.size) (.int .u16 x232.1)) fun w210 =>
            Wr w210 ((blk w.heap.size).add 1) ∧
            Nw (w210.setCell ((blk w.heap.size).add 1) (.string x232.2.1)) fun w211 =>
            Wr w211 ((blk w.heap.size).add 2) ∧
            Nw (w211.setCell ((blk w.heap.size).add 2) (.bool x232.2.2.1)) fun w212 =>
            Wr w212 ((blk w.heap.size).add 3) ∧
            Nw (w212.setCell ((blk w.heap.size).add 3) (.bool x232.2.2.2.1)) fun w213 =>
            Wr w213 ((blk w.heap.size).add 4) ∧
            Nw (w213.setCell ((blk w.heap.size).add 4) (.string x232.2.2.2.2.1)) fun w214 =>
            Wr w214 ((blk w.heap.size).add 5) ∧
            Nw (w214.setCell ((blk w.heap.size).add 5) (.string x232.2.2.2.2.2.1)) fun w215 =>
            Wr w215 ((blk w.heap.size).add 6) ∧
            Nw (w215.setCell ((blk w.heap.size).add 6) (.int .i64 x232.2.2.2.2.2.2.1)) fun w216 =>
            Wr w216 ((blk w.heap.size).add 7) ∧
            Nw (w216.setCell ((blk w.heap.size).add 7) (.int .u8 x232.2.2.2.2.2.2.2.1)) fun w217 =>
            ldI w217 ((blk w.heap.size).add 0) .u16 fun x233 =>
            ldStr w217 ((blk w.heap.size).add 1) fun x234 =>
            ldB w217 ((blk w.heap.size).add 2) fun x235 =>
            ldB w217 ((blk w.heap.size).add 3) fun x236 =>
            ldStr w217 ((blk w.heap.size).add 4) fun x237 =>
            ldStr w217 ((blk w.heap.size).add 5) fun x238 =>
            ldI w217 ((blk w.heap.size).add 6) .i64 fun x239 =>
            ldI w217 ((blk w.heap.size).add 7) .u8 fun x240 =>
            R (.tuple #[(.agg #[(.int .u16 x233), (.string x234), (.bool x235), (.bool x236), (.string x237), (.string x238), (.int .i64 x239), (.int .u8 x240)]), (.bool true)]) w217)
            (ifB (p0 == (56 : Int))
            (callR Try.prog 100 #[(.int .u16 p0), (.string (ByteArray.mk #[79, 112, 70, 117, 110, 99, 116, 105, 111, 110, 69, 110, 100])), (.bool false), (.bool false), (.string (ByteArray.mk #[])), (.string (ByteArray.mk #[])), (.int .i64 (0 : Int)), (.int .u8 (8 : Int))] w1 fun v241 w218 =>
            ∃ x242 : (Int × ByteArray × Bool × Bool × ByteArray × ByteArray × Int × Int × Unit), v241 = (.agg #[(.int .u16 x242.1), (.string x242.2.1), (.bool x242.2.2.1), (.bool x242.2.2.2.1), (.string x242.2.2.2.2.1), (.string x242.2.2.2.2.2.1), (.int .i64 x242.2.2.2.2.2.2.1), (.int .u8 x242.2.2.2.2.2.2.2.1)]) ∧
            Wr w218 (blk w.heap.size) ∧
            Nw (w218.setCell (blk w.heap.size) (.int .u16 x242.1)) fun w219 =>
            Wr w219 ((blk w.heap.size).add 1) ∧
            Nw (w219.setCell ((blk w.heap.size).add 1) (.string x242.2.1)) fun w220 =>
            Wr w220 ((blk w.heap.size).add 2) ∧
            Nw (w220.setCell ((blk w.heap.size).add 2) (.bool x242.2.2.1)) fun w221 =>
            Wr w221 ((blk w.heap.size).add 3) ∧
            Nw (w221.setCell ((blk w.heap.size).add 3) (.bool x242.2.2.2.1)) fun w222 =>
            Wr w222 ((blk w.heap.size).add 4) ∧
            Nw (w222.setCell ((blk w.heap.size).add 4) (.string x242.2.2.2.2.1)) fun w223 =>
            Wr w223 ((blk w.heap.size).add 5) ∧
            Nw (w223.setCell ((blk w.heap.size).add 5) (.string x242.2.2.2.2.2.1)) fun w224 =>
            Wr w224 ((blk w.heap.size).add 6) ∧
            Nw (w224.setCell ((blk w.heap.size).add 6) (.int .i64 x242.2.2.2.2.2.2.1)) fun w225 =>
            Wr w225 ((blk w.heap.size).add 7) ∧
            Nw (w225.setCell ((blk w.heap.size).add 7) (.int .u8 x242.2.2.2.2.2.2.2.1)) fun w226 =>
            ldI w226 ((blk w.heap.size).add 0) .u16 fun x243 =>
            ldStr w226 ((blk w.heap.size).add 1) fun x244 =>
            ldB w226 ((blk w.heap.size).add 2) fun x245 =>
            ldB w226 ((blk w.heap.size).add 3) fun x246 =>
            ldStr w226 ((blk w.heap.size).add 4) fun x247 =>
            ldStr w226 ((blk w.heap.size).add 5) fun x248 =>
            ldI w226 ((blk w.heap.size).add 6) .i64 fun x249 =>
            ldI w226 ((blk w.heap.size).add 7) .u8 fun x250 =>
            R (.tuple #[(.agg #[(.int .u16 x243), (.string x244), (.bool x245), (.bool x246), (.string x247), (.string x248), (.int .i64 x249), (.int .u8 x250)]), (.bool true)]) w226)
            (ifB (p0 == (57 : Int))
            (callR Try.prog 100 #[(.int .u16 p0), (.string (ByteArray.mk #[79, 112, 70, 117, 110, 99, 116, 105, 111, 110, 67, 97, 108, 108])), (.bool true), (.bool true), (.string (ByteArray.mk #[105])), (.string (ByteArray.mk #[105])), (.int .i64 (0 : Int)), (.int .u8 (8 : Int))] w1 fun v251 w227 =>
            ∃ x252 : (Int × ByteArray × Bool × Bool × ByteArray × ByteArray × Int × Int × Unit), v251 = (.agg #[(.int .u16 x252.1), (.string x252.2.1), (.bool x252.2.2.1), (.bool x252.2.2.2.1), (.string x252.2.2.2.2.1), (.string x252.2.2.2.2.2.1), (.int .i64 x252.2.2.2.2.2.2.1), (.int .u8 x252.2.2.2.2.2.2.2.1)]) ∧
            Wr w227 (blk w.heap.size) ∧
            Nw (w227.setCell (blk w.heap.size) (.int .u16 x252.1)) fun w228 =>
            Wr w228 ((blk w.heap.size).add 1) ∧
            Nw (w228.setCell ((blk w.heap.size).add 1) (.string x252.2.1)) fun w229 =>
            Wr w229 ((blk w.heap.size).add 2) ∧
            Nw (w229.setCell ((blk w.heap.size).add 2) (.bool x252.2.2.1)) fun w230 =>
            Wr w230 ((blk w.heap.size).add 3) ∧
            Nw (w230.setCell ((blk w.heap.size).add 3) (.bool x252.2.2.2.1)) fun w231 =>
            Wr w231 ((blk w.heap.size).add 4) ∧
            Nw (w231.setCell ((blk w.heap.size).add 4) (.string x252.2.2.2.2.1)) fun w232 =>
            Wr w232 ((blk w.heap.size).add 5) ∧
            Nw (w232.setCell ((blk w.heap.size).add 5) (.string x252.2.2.2.2.2.1)) fun w233 =>
            Wr w233 ((blk w.heap.size).add 6) ∧
            Nw (w233.setCell ((blk w.heap.size).add 6) (.int .i64 x252.2.2.2.2.2.2.1)) fun w234 =>
            Wr w234 ((blk w.heap.size).add 7) ∧
            Nw (w234.setCell ((blk w.heap.size).add 7) (.int .u8 x252.2.2.2.2.2.2.2.1)) fun w235 =>
            ldI w235 ((blk w.heap.size).add 0) .u16 fun x253 =>
            ldStr w235 ((blk w.heap.size).add 1) fun x254 =>
            ldB w235 ((blk w.heap.size).add 2) fun x255 =>
            ldB w235 ((blk w.heap.size).add 3) fun x256 =>
            ldStr w235 ((blk w.heap.size).add 4) fun x257 =>
            ldStr w235 ((blk w.heap.size).add 5) fun x258 =>
            ldI w235 ((blk w.heap.size).add 6) .i64 fun x259 =>
            ldI w235 ((blk w.heap.size).add 7) .u8 fun x260 =>
            R (.tuple #[(.agg #[(.int .u16 x253), (.string x254), (.bool x255), (.bool x256), (.string x257), (.string x258), (.int .i64 x259), (.int .u8 x260)]), (.bool true)]) w235)
            (ifB (p0 == (59 : Int))
            (callR Try.prog 100 #[(.int .u16 p0), (.string (ByteArray.mk #[79, 112, 86, 97, 114, 105, 97, 98, 108, 101])), (.bool true), (.bool true), (.string (ByteArray.mk #[99])), (.string (ByteArray.mk #[105])), (.int .i64 (1 : Int)), (.int .u8 (7 : Int))] w1 fun v261 w236 =>
            ∃ x262 : (Int × ByteArray × Bool × Bool × ByteArray × ByteArray × Int × Int × Unit), v261 = (.agg #[(.int .u16 x262.1), (.string x262.2.1), (.bool x262.2.2.1), (.bool x262.2.2.2.1), (.string x262.2.2.2.2.1), (.string x262.2.2.2.2.2.1), (.int .i64 x262.2.2.2.2.2.2.1), (.int .u8 x262.2.2.2.2.2.2.2.1)]) ∧
            Wr w236 (blk w.heap.size) ∧
            Nw (w236.setCell (blk w.heap.size) (.int .u16 x262.1)) fun w237 =>
            Wr w237 ((blk w.heap.size).add 1) ∧
            Nw (w237.setCell ((blk w.heap.size).add 1) (.string x262.2.1)) fun w238 =>
            Wr w238 ((blk w.heap.size).add 2) ∧
            Nw (w238.setCell ((blk w.heap.size).add 2) (.bool x262.2.2.1)) fun w239 =>
            Wr w239 ((blk w.heap.size).add 3) ∧
            Nw (w239.setCell ((blk w.heap.size).add 3) (.bool x262.2.2.2.1)) fun w240 =>
            Wr w240 ((blk w.heap.size).add 4) ∧
            Nw (w240.setCell ((blk w.heap.size).add 4) (.string x262.2.2.2.2.1)) fun w241 =>
            Wr w241 ((blk w.heap.size).add 5) ∧
            Nw (w241.setCell ((blk w.heap.size).add 5) (.string x262.2.2.2.2.2.1)) fun w242 =>
            Wr w242 ((blk w.heap.size).add 6) ∧
            Nw (w242.setCell ((blk w.heap.size).add 6) (.int .i64 x262.2.2.2.2.2.2.1)) fun w243 =>
            Wr w243 ((blk w.heap.size).add 7) ∧
            Nw (w243.setCell ((blk w.heap.size).add 7) (.int .u8 x262.2.2.2.2.2.2.2.1)) fun w244 =>
            ldI w244 ((blk w.heap.size).add 0) .u16 fun x263 =>
            ldStr w244 ((blk w.heap.size).add 1) fun x264 =>
            ldB w244 ((blk w.heap.size).add 2) fun x265 =>
            ldB w244 ((blk w.heap.size).add 3) fun x266 =>
            ldStr w244 ((blk w.heap.size).add 4) fun x267 =>
            ldStr w244 ((blk w.heap.size).add 5) fun x268 =>
            ldI w244 ((blk w.heap.size).add 6) .i64 fun x269 =>
            ldI w244 ((blk w.heap.size).add 7) .u8 fun x270 =>
            R (.tuple #[(.agg #[(.int .u16 x263), (.string x264), (.bool x265), (.bool x266), (.string x267), (.string x268), (.int .i64 x269), (.int .u8 x270)]), (.bool true)]) w244)
            (ifB (p0 == (61 : Int))
            (callR Try.prog 100 #[(.int .u16 p0), (.string (ByteArray.mk #[79, 112, 76, 111, 97, 100])), (.bool true), (.bool true), (.string (ByteArray.mk #[105])), (.string (ByteArray.mk #[])), (.int .i64 (0 : Int)), (.int .u8 (8 : Int))] w1 fun v271 w245 =>
            ∃ x272 : (Int × ByteArray × Bool × Bool × ByteArray × ByteArray × Int × Int × Unit), v271 = (.agg #[(.int .u16 x272.1), (.string x272.2.1), (.bool x272.2.2.1), (.bool x272.2.2.2.1), (.string x272.2.2.2.2.1), (.string x272.2.2.2.2.2.1), (.int .i64 x272.2.2.2.2.2.2.1), (.int .u8 x272.2.2.2.2.2.2.2.1)]) ∧
            Wr w245 (blk w.heap.size) ∧
            Nw (w245.setCell (blk w.heap.size) (.int .u16 x272.1)) fun w246 =>
            Wr w246 ((blk w.heap.size).add 1) ∧
            Nw (w246.setCell ((blk w.heap.size).add 1) (.string x272.2.1)) fun w247 =>
            Wr w247 ((blk w.heap.size).add 2) ∧
            Nw (w247.setCell ((blk w.heap.size).add 2) (.bool x272.2.2.1)) fun w248 =>
            Wr w248 ((blk w.heap.size).add 3) ∧
            Nw (w248.setCell ((blk w.heap.size).add 3) (.bool x272.2.2.2.1)) fun w249 =>
            Wr w249 ((blk w.heap.size).add 4) ∧
            Nw (w249.setCell ((blk w.heap.size).add 4) (.string x272.2.2.2.2.1)) fun w250 =>
            Wr w250 ((blk w.heap.size).add 5) ∧
            Nw (w250.setCell ((blk w.heap.size).add 5) (.string x272.2.2.2.2.2.1)) fun w251 =>
            Wr w251 ((blk w.heap.size).add 6) ∧
            Nw (w251.setCell ((blk w.heap.size).add 6) (.int .i64 x272.2.2.2.2.2.2.1)) fun w252 =>
            Wr w252 ((blk w.heap.size).add 7) ∧
            Nw (w252.setCell ((blk w.heap.size).add 7) (.int .u8 x272.2.2.2.2.2.2.2.1)) fun w253 =>
            ldI w253 ((blk w.heap.size).add 0) .u16 fun x273 =>
            ldStr w253 ((blk w.heap.size).add 1) fun x274 =>
            ldB w253 ((blk w.heap.size).add 2) fun x275 =>
            ldB w253 ((blk w.heap.size).add 3) fun x276 =>
            ldStr w253 ((blk w.heap.size).add 4) fun x277 =>
            ldStr w253 ((blk w.heap.size).add 5) fun x278 =>
            ldI w253 ((blk w.heap.size).add 6) .i64 fun x279 =>
            ldI w253 ((blk w.heap.size).add 7) .u8 fun x280 =>
            R (.tuple #[(.agg #[(.int .u16 x273), (.string x274), (.bool x275), (.bool x276), (.string x277), (.string x278), (.int .i64 x279), (.int .u8 x280)]), (.bool true)]) w253)
            (ifB (p0 == (62 : Int))
            (callR Try.prog 100 #[(.int .u16 p0), (.string (ByteArray.mk #[79, 112, 83, 116, 111, 114, 101])), (.bool false), (.bool false), (.string (ByteArray.mk #[105, 105])), (.string (ByteArray.mk #[])), (.int .i64 (0 : Int)), (.int .u8 (8 : Int))] w1 fun v281 w254 =>
            ∃ x282 : (Int × ByteArray × Bool × Bool × ByteArray × ByteArray × Int × Int × Unit), v281 = (.agg #[(.int .u16 x282.1), (.string x282.2.1), (.bool x282.2.2.1), (.bool x282.2.2.2.1), (.string x282.2.2.2.2.1), (.string x282.2.2.2.2.2.1), (.int .i64 x282.2.2.2.2.2.2.1), (.int .u8 x282.2.2.2.2.2.2.2.1)]) ∧
            Wr w254 (blk w.heap.size) ∧
            Nw (w254.setCell (blk w.heap.size) (.int .u16 x282.1)) fun w255 =>
            Wr w255 ((blk w.heap.size).add 1) ∧
            Nw (w255.setCell ((blk w.heap.size).add 1) (.string x282.2.1)) fun w256 =>
            Wr w256 ((blk w.heap.size).add 2) ∧
            Nw (w256.setCell ((blk w.heap.size).add 2) (.bool x282.2.2.1)) fun w257 =>
            Wr w257 ((blk w.heap.size).add 3) ∧
            Nw (w257.setCell ((blk w.heap.size).add 3) (.bool x282.2.2.2.1)) fun w258 =>
            Wr w258 ((blk w.heap.size).add 4) ∧
            Nw (w258.setCell ((blk w.heap.size).add 4) (.string x282.2.2.2.2.1)) fun w259 =>
            Wr w259 ((blk w.heap.size).add 5) ∧
            Nw (w259.setCell ((blk w.heap.size).add 5) (.string x282.2.2.2.2.2.1)) fun w260 =>
            Wr w260 ((blk w.heap.size).add 6) ∧
            Nw (w260.setCell ((blk w.heap.size).add 6) (.int .i64 x282.2.2.2.2.2.2.1)) fun w261 =>
            Wr w261 ((blk w.heap.size).add 7) ∧
            Nw (w261.setCell ((blk w.heap.size).add 7) (.int .u8 x282.2.2.2.2.2.2.2.1)) fun w262 =>
            ldI w262 ((blk w.heap.size).add 0) .u16 fun x283 =>
            ldStr w262 ((blk w.heap.size).add 1) fun x284 =>
            ldB w262 ((blk w.heap.size).add 2) fun x285 =>
            ldB w262 ((blk w.heap.size).add 3) fun x286 =>
            ldStr w262 ((blk w.heap.size).add 4) fun x287 =>
            ldStr w262 ((blk w.heap.size).add 5) fun x288 =>
            ldI w262 ((blk w.heap.size).add 6) .i64 fun x289 =>
            ldI w262 ((blk w.heap.size).add 7) .u8 fun x290 =>
            R (.tuple #[(.agg #[(.int .u16 x283), (.string x284), (.bool x285), (.bool x286), (.string x287), (.string x288), (.int .i64 x289), (.int .u8 x290)]), (.bool true)]) w262)
            (ifB (p0 == (65 : Int))
            (callR Try.prog 100 #[(.int .u16 p0), (.string (ByteArray.mk #[79, 112, 65, 99, 99, 101, 115, 115, 67, 104, 97, 105, 110])), (.bool true), (.bool true), (.string (ByteArray.mk #[105])), (.string (ByteArray.mk #[105])), (.int .i64 (0 : Int)), (.int .u8 (8 : Int))] w1 fun v291 w263 =>
            ∃ x292 : (Int × ByteArray × Bool × Bool × ByteArray × ByteArray × Int × Int × Unit), v291 = (.agg #[(.int .u16 x292.1), (.string x292.2.1), (.bool x292.2.2.1), (.bool x292.2.2.2.1), (.string x292.2.2.2.2.1), (.string x292.2.2.2.2.2.1), (.int .i64 x292.2.2.2.2.2.2.1), (.int .u8 x292.2.2.2.2.2.2.2.1)]) ∧
            Wr w263 (blk w.heap.size) ∧
            Nw (w263.setCell (blk w.heap.size) (.int .u16 x292.1)) fun w264 =>
            Wr w264 ((blk w.heap.size).add 1) ∧
            Nw (w264.setCell ((blk w.heap.size).add 1) (.string x292.2.1)) fun w265 =>
            Wr w265 ((blk w.heap.size).add 2) ∧
            Nw (w265.setCell ((blk w.heap.size).add 2) (.bool x292.2.2.1)) fun w266 =>
            Wr w266 ((blk w.heap.size).add 3) ∧
            Nw (w266.setCell ((blk w.heap.size).add 3) (.bool x292.2.2.2.1)) fun w267 =>
            Wr w267 ((blk w.heap.size).add 4) ∧
            Nw (w267.setCell ((blk w.heap.size).add 4) (.string x292.2.2.2.2.1)) fun w268 =>
            Wr w268 ((blk w.heap.size).add 5) ∧
            Nw (w268.setCell ((blk w.heap.size).add 5) (.string x292.2.2.2.2.2.1)) fun w269 =>
            Wr w269 ((blk w.heap.size).add 6) ∧
            Nw (w269.setCell ((blk w.heap.size).add 6) (.int .i64 x292.2.2.2.2.2.2.1)) fun w270 =>
            Wr w270 ((blk w.heap.size).add 7) ∧
            Nw (w270.setCell ((blk w.heap.size).add 7) (.int .u8 x292.2.2.2.2.2.2.2.1)) fun w271 =>
            ldI w271 ((blk w.heap.size).add 0) .u16 fun x293 =>
            ldStr w271 ((blk w.heap.size).add 1) fun x294 =>
            ldB w271 ((blk w.heap.size).add 2) fun x295 =>
            ldB w271 ((blk w.heap.size).add 3) fun x296 =>
            ldStr w271 ((blk w.heap.size).add 4) fun x297 =>
            ldStr w271 ((blk w.heap.size).add 5) fun x298 =>
            ldI w271 ((blk w.heap.size).add 6) .i64 fun x299 =>
            ldI w271 ((blk w.heap.size).add 7) .u8 fun x300 =>
            R (.tuple #[(.agg #[(.int .u16 x293), (.string x294), (.bool x295), (.bool x296), (.string x297), (.string x298), (.int .i64 x299), (.int .u8 x300)]), (.bool true)]) w271)
            (ifB (p0 == (71 : Int))
            (callR Try.prog 100 #[(.int .u16 p0), (.string (ByteArray.mk #[79, 112, 68, 101, 99, 111, 114, 97, 116, 101])), (.bool false), (.bool false), (.string (ByteArray.mk #[105, 100])), (.string (ByteArray.mk #[110])), (.int .i64 (0 : Int)), (.int .u8 (6 : Int))] w1 fun v301 w272 =>
            ∃ x302 : (Int × ByteArray × Bool × Bool × ByteArray × ByteArray × Int × Int × Unit), v301 = (.agg #[(.int .u16 x302.1), (.string x302.2.1), (.bool x302.2.2.1), (.bool x302.2.2.2.1), (.string x302.2.2.2.2.1), (.string x302.2.2.2.2.2.1), (.int .i64 x302.2.2.2.2.2.2.1), (.int .u8 x302.2.2.2.2.2.2.2.1)]) ∧
            Wr w272 (blk w.heap.size) ∧
            Nw (w272.setCell (blk w.heap.size) (.int .u16 x302.1)) fun w273 =>
            Wr w273 ((blk w.heap.size).add 1) ∧
            Nw (w273.setCell ((blk w.heap.size).add 1) (.string x302.2.1)) fun w274 =>
            Wr w274 ((blk w.heap.size).add 2) ∧
            Nw (w274.setCell ((blk w.heap.size).add 2) (.bool x302.2.2.1)) fun w275 =>
            Wr w275 ((blk w.heap.size).add 3) ∧
            Nw (w275.setCell ((blk w.heap.size).add 3) (.bool x302.2.2.2.1)) fun w276 =>
            Wr w276 ((blk w.heap.size).add 4) ∧
            Nw (w276.setCell ((blk w.heap.size).add 4) (.string x302.2.2.2.2.1)) fun w277 =>
            Wr w277 ((blk w.heap.size).add 5) ∧
            Nw (w277.setCell ((blk w.heap.size).add 5) (.string x302.2.2.2.2.2.1)) fun w278 =>
            Wr w278 ((blk w.heap.size).add 6) ∧
            Nw (w278.setCell ((blk w.heap.size).add 6) (.int .i64 x302.2.2.2.2.2.2.1)) fun w279 =>
            Wr w279 ((blk w.heap.size).add 7) ∧
            Nw (w279.setCell ((blk w.heap.size).add 7) (.int .u8 x302.2.2.2.2.2.2.2.1)) fun w280 =>
            ldI w280 ((blk w.heap.size).add 0) .u16 fun x303 =>
            ldStr w280 ((blk w.heap.size).add 1) fun x304 =>
            ldB w280 ((blk w.heap.size).add 2) fun x305 =>
            ldB w280 ((blk w.heap.size).add 3) fun x306 =>
            ldStr w280 ((blk w.heap.size).add 4) fun x307 =>
            ldStr w280 ((blk w.heap.size).add 5) fun x308 =>
            ldI w280 ((blk w.heap.size).add 6) .i64 fun x309 =>
            ldI w280 ((blk w.heap.size).add 7) .u8 fun x310 =>
            R (.tuple #[(.agg #[(.int .u16 x303), (.string x304), (.bool x305), (.bool x306), (.string x307), (.string x308), (.int .i64 x309), (.int .u8 x310)]), (.bool true)]) w280)
            (ifB (p0 == (77 : Int))
            (callR Try.prog 100 #[(.int .u16 p0), (.string (ByteArray.mk #[79, 112, 86, 101, 99, 116, 111, 114, 69, 120, 116, 114, 97, 99, 116, 68, 121, 110, 97, 109, 105, 99])), (.bool true), (.bool true), (.string (ByteArray.mk #[105, 105])), (.string (ByteArray.mk #[])), (.int .i64 (0 : Int)), (.int .u8 (8 : Int))] w1 fun v311 w281 =>
            ∃ x312 : (Int × ByteArray × Bool × Bool × ByteArray × ByteArray × Int × Int × Unit), v311 = (.agg #[(.int .u16 x312.1), (.string x312.2.1), (.bool x312.2.2.1), (.bool x312.2.2.2.1), (.string x312.2.2.2.2.1), (.string x312.2.2.2.2.2.1), (.int .i64 x312.2.2.2.2.2.2.1), (.int .u8 x312.2.2.2.2.2.2.2.1)]) ∧
            Wr w281 (blk w.heap.size) ∧
            Nw (w281.setCell (blk w.heap.size) (.int .u16 x312.1)) fun w282 =>
            Wr w282 ((blk w.heap.size).add 1) ∧
            Nw (w282.setCell ((blk w.heap.size).add 1) (.string x312.2.1)) fun w283 =>
            Wr w283 ((blk w.heap.size).add 2) ∧
            Nw (w283.setCell ((blk w.heap.size).add 2) (.bool x312.2.2.1)) fun w284 =>
            Wr w284 ((blk w.heap.size).add 3) ∧
            Nw (w284.setCell ((blk w.heap.size).add 3) (.bool x312.2.2.2.1)) fun w285 =>
            Wr w285 ((blk w.heap.size).add 4) ∧
            Nw (w285.setCell ((blk w.heap.size).add 4) (.string x312.2.2.2.2.1)) fun w286 =>
            Wr w286 ((blk w.heap.size).add 5) ∧
            Nw (w286.setCell ((blk w.heap.size).add 5) (.string x312.2.2.2.2.2.1)) fun w287 =>
            Wr w287 ((blk w.heap.size).add 6) ∧
            Nw (w287.setCell ((blk w.heap.size).add 6) (.int .i64 x312.2.2.2.2.2.2.1)) fun w288 =>
            Wr w288 ((blk w.heap.size).add 7) ∧
            Nw (w288.setCell ((blk w.heap.size).add 7) (.int .u8 x312.2.2.2.2.2.2.2.1)) fun w289 =>
            ldI w289 ((blk w.heap.size).add 0) .u16 fun x313 =>
            ldStr w289 ((blk w.heap.size).add 1) fun x314 =>
            ldB w289 ((blk w.heap.size).add 2) fun x315 =>
            ldB w289 ((blk w.heap.size).add 3) fun x316 =>
            ldStr w289 ((blk w.heap.size).add 4) fun x317 =>
            ldStr w289 ((blk w.heap.size).add 5) fun x318 =>
            ldI w289 ((blk w.heap.size).add 6) .i64 fun x319 =>
            ldI w289 ((blk w.heap.size).add 7) .u8 fun x320 =>
            R (.tuple #[(.agg #[(.int .u16 x313), (.string x314), (.bool x315), (.bool x316), (.string x317), (.string x318), (.int .i64 x319), (.int .u8 x320)]), (.bool true)]) w289)
            (ifB (p0 == (78 : Int))
            (callR Try.prog 100 #[(.int .u16 p0), (.string (ByteArray.mk #[79, 112, 86, 101, 99, 116, 111, 114, 73, 110, 115, 101, 114, 116, 68, 121, 110, 97, 109, 105, 99])), (.bool true), (.bool true), (.string (ByteArray.mk #[105, 105, 105])), (.string (ByteArray.mk #[])), (.int .i64 (0 : Int)), (.int .u8 (8 : Int))] w1 fun v321 w290 =>
            ∃ x322 : (Int × ByteArray × Bool × Bool × ByteArray × ByteArray × Int × Int × Unit), v321 = (.agg #[(.int .u16 x322.1), (.string x322.2.1), (.bool x322.2.2.1), (.bool x322.2.2.2.1), (.string x322.2.2.2.2.1), (.string x322.2.2.2.2.2.1), (.int .i64 x322.2.2.2.2.2.2.1), (.int .u8 x322.2.2.2.2.2.2.2.1)]) ∧
            Wr w290 (blk w.heap.size) ∧
            Nw (w290.setCell (blk w.heap.size) (.int .u16 x322.1)) fun w291 =>
            Wr w291 ((blk w.heap.size).add 1) ∧
            Nw (w291.setCell ((blk w.heap.size).add 1) (.string x322.2.1)) fun w292 =>
            Wr w292 ((blk w.heap.size).add 2) ∧
            Nw (w292.setCell ((blk w.heap.size).add 2) (.bool x322.2.2.1)) fun w293 =>
            Wr w293 ((blk w.heap.size).add 3) ∧
            Nw (w293.setCell ((blk w.heap.size).add 3) (.bool x322.2.2.2.1)) fun w294 =>
            Wr w294 ((blk w.heap.size).add 4) ∧
            Nw (w294.setCell ((blk w.heap.size).add 4) (.string x322.2.2.2.2.1)) fun w295 =>
            Wr w295 ((blk w.heap.size).add 5) ∧
            Nw (w295.setCell ((blk w.heap.size).add 5) (.string x322.2.2.2.2.2.1)) fun w296 =>
            Wr w296 ((blk w.heap.size).add 6) ∧
            Nw (w296.setCell ((blk w.heap.size).add 6) (.int .i64 x322.2.2.2.2.2.2.1)) fun w297 =>
            Wr w297 ((blk w.heap.size).add 7) ∧
            Nw (w297.setCell ((blk w.heap.size).add 7) (.int .u8 x322.2.2.2.2.2.2.2.1)) fun w298 =>
            ldI w298 ((blk w.heap.size).add 0) .u16 fun x323 =>
            ldStr w298 ((blk w.heap.size).add 1) fun x324 =>
            ldB w298 ((blk w.heap.size).add 2) fun x325 =>
            ldB w298 ((blk w.heap.size).add 3) fun x326 =>
            ldStr w298 ((blk w.heap.size).add 4) fun x327 =>
            ldStr w298 ((blk w.heap.size).add 5) fun x328 =>
            ldI w298 ((blk w.heap.size).add 6) .i64 fun x329 =>
            ldI w298 ((blk w.heap.size).add 7) .u8 fun x330 =>
            R (.tuple #[(.agg #[(.int .u16 x323), (.string x324), (.bool x325), (.bool x326), (.string x327), (.string x328), (.int .i64 x329), (.int .u8 x330)]), (.bool true)]) w298)
            (ifB (p0 == (79 : Int))
            (callR Try.prog 100 #[(.int .u16 p0), (.string (ByteArray.mk #[79, 112, 86, 101, 99, 116, 111, 114, 83, 104, 117, 102, 102, 108, 101])), (.bool true), (.bool true), (.string (ByteArray.mk #[105, 105])), (.string (ByteArray.mk #[110])), (.int .i64 (0 : Int)), (.int .u8 (8 : Int))] w1 fun v331 w299 =>
            ∃ x332 : (Int × ByteArray × Bool × Bool × ByteArray × ByteArray × Int × Int × Unit), v331 = (.agg #[(.int .u16 x332.1), (.string x332.2.1), (.bool x332.2.2.1), (.bool x332.2.2.2.1), (.string x332.2.2.2.2.1), (.string x332.2.2.2.2.2.1), (.int .i64 x332.2.2.2.2.2.2.1), (.int .u8 x332.2.2.2.2.2.2.2.1)]) ∧
            Wr w299 (blk w.heap.size) ∧
            Nw (w299.setCell (blk w.heap.size) (.int .u16 x332.1)) fun w300 =>
            Wr w300 ((blk w.heap.size).add 1) ∧
            Nw (w300.setCell ((blk w.heap.size).add 1) (.string x332.2.1)) fun w301 =>
            Wr w301 ((blk w.heap.size).add 2) ∧
            Nw (w301.setCell ((blk w.heap.size).add 2) (.bool x332.2.2.1)) fun w302 =>
            Wr w302 ((blk w.heap.size).add 3) ∧
            Nw (w302.setCell ((blk w.heap.size).add 3) (.bool x332.2.2.2.1)) fun w303 =>
            Wr w303 ((blk w.heap.size).add 4) ∧
            Nw (w303.setCell ((blk w.heap.size).add 4) (.string x332.2.2.2.2.1)) fun w304 =>
            Wr w304 ((blk w.heap.size).add 5) ∧
            Nw (w304.setCell ((blk w.heap.size).add 5) (.string x332.2.2.2.2.2.1)) fun w305 =>
            Wr w305 ((blk w.heap.size).add 6) ∧
            Nw (w305.setCell ((blk w.heap.size).add 6) (.int .i64 x332.2.2.2.2.2.2.1)) fun w306 =>
            Wr w306 ((blk w.heap.size).add 7) ∧
            Nw (w306.setCell ((blk w.heap.size).add 7) (.int .u8 x332.2.2.2.2.2.2.2.1)) fun w307 =>
            ldI w307 ((blk w.heap.size).add 0) .u16 fun x333 =>
            ldStr w307 ((blk w.heap.size).add 1) fun x334 =>
            ldB w307 ((blk w.heap.size).add 2) fun x335 =>
            ldB w307 ((blk w.heap.size).add 3) fun x336 =>
            ldStr w307 ((blk w.heap.size).add 4) fun x337 =>
            ldStr w307 ((blk w.heap.size).add 5) fun x338 =>
            ldI w307 ((blk w.heap.size).add 6) .i64 fun x339 =>
            ldI w307 ((blk w.heap.size).add 7) .u8 fun x340 =>
            R (.tuple #[(.agg #[(.int .u16 x333), (.string x334), (.bool x335), (.bool x336), (.string x337), (.string x338), (.int .i64 x339), (.int .u8 x340)]), (.bool true)]) w307)
            (ifB (p0 == (80 : Int))
            (callR Try.prog 100 #[(.int .u16 p0), (.string (ByteArray.mk #[79, 112, 67, 111, 109, 112, 111, 115, 105, 116, 101, 67, 111, 110, 115, 116, 114, 117, 99, 116])), (.bool true), (.bool true), (.string (ByteArray.mk #[])), (.string (ByteArray.mk #[105])), (.int .i64 (0 : Int)), (.int .u8 (8 : Int))] w1 fun v341 w308 =>
            ∃ x342 : (Int × ByteArray × Bool × Bool × ByteArray × ByteArray × Int × Int × Unit), v341 = (.agg #[(.int .u16 x342.1), (.string x342.2.1), (.bool x342.2.2.1), (.bool x342.2.2.2.1), (.string x342.2.2.2.2.1), (.string x342.2.2.2.2.2.1), (.int .i64 x342.2.2.2.2.2.2.1), (.int .u8 x342.2.2.2.2.2.2.2.1)]) ∧
            Wr w308 (blk w.heap.size) ∧
            Nw (w308.setCell (blk w.heap.size) (.int .u16 x342.1)) fun w309 =>
            Wr w309 ((blk w.heap.size).add 1) ∧
            Nw (w309.setCell ((blk w.heap.size).add 1) (.string x342.2.1)) fun w310 =>
            Wr w310 ((blk w.heap.size).add 2) ∧
            Nw (w310.setCell ((blk w.heap.size).add 2) (.bool x342.2.2.1)) fun w311 =>
            Wr w311 ((blk w.heap.size).add 3) ∧
            Nw (w311.setCell ((blk w.heap.size).add 3) (.bool x342.2.2.2.1)) fun w312 =>
            Wr w312 ((blk w.heap.size).add 4) ∧
            Nw (w312.setCell ((blk w.heap.size).add 4) (.string x342.2.2.2.2.1)) fun w313 =>
            Wr w313 ((blk w.heap.size).add 5) ∧
            Nw (w313.setCell ((blk w.heap.size).add 5) (.string x342.2.2.2.2.2.1)) fun w314 =>
            Wr w314 ((blk w.heap.size).add 6) ∧
            Nw (w314.setCell ((blk w.heap.size).add 6) (.int .i64 x342.2.2.2.2.2.2.1)) fun w315 =>
            Wr w315 ((blk w.heap.size).add 7) ∧
            Nw (w315.setCell ((blk w.heap.size).add 7) (.int .u8 x342.2.2.2.2.2.2.2.1)) fun w316 =>
            ldI w316 ((blk w.heap.size).add 0) .u16 fun x343 =>
            ldStr w316 ((blk w.heap.size).add 1) fun x344 =>
            ldB w316 ((blk w.heap.size).add 2) fun x345 =>
            ldB w316 ((blk w.heap.size).add 3) fun x346 =>
            ldStr w316 ((blk w.heap.size).add 4) fun x347 =>
            ldStr w316 ((blk w.heap.size).add 5) fun x348 =>
            ldI w316 ((blk w.heap.size).add 6) .i64 fun x349 =>
            ldI w316 ((blk w.heap.size).add 7) .u8 fun x350 =>
            R (.tuple #[(.agg #[(.int .u16 x343), (.string x344), (.bool x345), (.bool x346), (.string x347), (.string x348), (.int .i64 x349), (.int .u8 x350)]), (.bool true)]) w316)
            (ifB (p0 == (81 : Int))
            (callR Try.prog 100 #[(.int .u16 p0), (.string (ByteArray.mk #[79, 112, 67, 111, 109, 112, 111, 115, 105, 116, 101, 69, 120, 116, 114, 97, 99, 116])), (.bool true), (.bool true), (.string (ByteArray.mk #[105])), (.string (ByteArray.mk #[110])), (.int .i64 (0 : Int)), (.int .u8 (8 : Int))] w1 fun v351 w317 =>
            ∃ x352 : (Int × ByteArray × Bool × Bool × ByteArray × ByteArray × Int × Int × Unit), v351 = (.agg #[(.int .u16 x352.1), (.string x352.2.1), (.bool x352.2.2.1), (.bool x352.2.2.2.1), (.string x352.2.2.2.2.1), (.string x352.2.2.2.2.2.1), (.int .i64 x352.2.2.2.2.2.2.1), (.int .u8 x352.2.2.2.2.2.2.2.1)]) ∧
            Wr w317 (blk w.heap.size) ∧
            Nw (w317.setCell (blk w.heap.size) (.int .u16 x352.1)) fun w318 =>
            Wr w318 ((blk w.heap.size).add 1) ∧
            Nw (w318.setCell ((blk w.heap.size).add 1) (.string x352.2.1)) fun w319 =>
            Wr w319 ((blk w.heap.size).add 2) ∧
            Nw (w319.setCell ((blk w.heap.size).add 2) (.bool x352.2.2.1)) fun w320 =>
            Wr w320 ((blk w.heap.size).add 3) ∧
            Nw (w320.setCell ((blk w.heap.size).add 3) (.bool x352.2.2.2.1)) fun w321 =>
            Wr w321 ((blk w.heap.size).add 4) ∧
            Nw (w321.setCell ((blk w.heap.size).add 4) (.string x352.2.2.2.2.1)) fun w322 =>
            Wr w322 ((blk w.heap.size).add 5) ∧
            Nw (w322.setCell ((blk w.heap.size).add 5) (.string x352.2.2.2.2.2.1)) fun w323 =>
            Wr w323 ((blk w.heap.size).add 6) ∧
            Nw (w323.setCell ((blk w.heap.size).add 6) (.int .i64 x352.2.2.2.2.2.2.1)) fun w324 =>
            Wr w324 ((blk w.heap.size).add 7) ∧
            Nw (w324.setCell ((blk w.heap.size).add 7) (.int .u8 x352.2.2.2.2.2.2.2.1)) fun w325 =>
            ldI w325 ((blk w.heap.size).add 0) .u16 fun x353 =>
            ldStr w325 ((blk w.heap.size).add 1) fun x354 =>
            ldB w325 ((blk w.heap.size).add 2) fun x355 =>
            ldB w325 ((blk w.heap.size).add 3) fun x356 =>
            ldStr w325 ((blk w.heap.size).add 4) fun x357 =>
            ldStr w325 ((blk w.heap.size).add 5) fun x358 =>
            ldI w325 ((blk w.heap.size).add 6) .i64 fun x359 =>
            ldI w325 ((blk w.heap.size).add 7) .u8 fun x360 =>
            R (.tuple #[(.agg #[(.int .u16 x353), (.string x354), (.bool x355), (.bool x356), (.string x357), (.string x358), (.int .i64 x359), (.int .u8 x360)]), (.bool true)]) w325)
            (ifB (p0 == (82 : Int))
            (callR Try.prog 100 #[(.int .u16 p0), (.string (ByteArray.mk #[79, 112, 67, 111, 109, 112, 111, 115, 105, 116, 101, 73, 110, 115, 101, 114, 116])), (.bool true), (.bool true), (.string (ByteArray.mk #[105, 105])), (.string (ByteArray.mk #[110])), (.int .i64 (0 : Int)), (.int .u8 (8 : Int))] w1 fun v361 w326 =>
            ∃ x362 : (Int × ByteArray × Bool × Bool × ByteArray × ByteArray × Int × Int × Unit), v361 = (.agg #[(.int .u16 x362.1), (.string x362.2.1), (.bool x362.2.2.1), (.bool x362.2.2.2.1), (.string x362.2.2.2.2.1), (.string x362.2.2.2.2.2.1), (.int .i64 x362.2.2.2.2.2.2.1), (.int .u8 x362.2.2.2.2.2.2.2.1)]) ∧
            Wr w326 (blk w.heap.size) ∧
            Nw (w326.setCell (blk w.heap.size) (.int .u16 x362.1)) fun w327 =>
            Wr w327 ((blk w.heap.size).add 1) ∧
            Nw (w327.setCell ((blk w.heap.size).add 1) (.string x362.2.1)) fun w328 =>
            Wr w328 ((blk w.heap.size).add 2) ∧
            Nw (w328.setCell ((blk w.heap.size).add 2) (.bool x362.2.2.1)) fun w329 =>
            Wr w329 ((blk w.heap.size).add 3) ∧
            Nw (w329.setCell ((blk w.heap.size).add 3) (.bool x362.2.2.2.1)) fun w330 =>
            Wr w330 ((blk w.heap.size).add 4) ∧
            Nw (w330.setCell ((blk w.heap.size).add 4) (.string x362.2.2.2.2.1)) fun w331 =>
            Wr w331 ((blk w.heap.size).add 5) ∧
            Nw (w331.setCell ((blk w.heap.size).add 5) (.string x362.2.2.2.2.2.1)) fun w332 =>
            Wr w332 ((blk w.heap.size).add 6) ∧
            Nw (w332.setCell ((blk w.heap.size).add 6) (.int .i64 x362.2.2.2.2.2.2.1)) fun w333 =>
            Wr w333 ((blk w.heap.size).add 7) ∧
            Nw (w333.setCell ((blk w.heap.size).add 7) (.int .u8 x362.2.2.2.2.2.2.2.1)) fun w334 =>
            ldI w334 ((blk w.heap.size).add 0) .u16 fun x363 =>
            ldStr w334 ((blk w.heap.size).add 1) fun x364 =>
            ldB w334 ((blk w.heap.size).add 2) fun x365 =>
            ldB w334 ((blk w.heap.size).add 3) fun x366 =>
            ldStr w334 ((blk w.heap.size).add 4) fun x367 =>
            ldStr w334 ((blk w.heap.size).add 5) fun x368 =>
            ldI w334 ((blk w.heap.size).add 6) .i64 fun x369 =>
            ldI w334 ((blk w.heap.size).add 7) .u8 fun x370 =>
            R (.tuple #[(.agg #[(.int .u16 x363), (.string x364), (.bool x365), (.bool x366), (.string x367), (.string x368), (.int .i64 x369), (.int .u8 x370)]), (.bool true)]) w334)
            (ifB (p0 == (83 : Int))
            (callR Try.prog 100 #[(.int .u16 p0), (.string (ByteArray.mk #[79, 112, 67, 111, 112, 121, 79, 98, 106, 101, 99, 116])), (.bool true), (.bool true), (.string (ByteArray.mk #[105])), (.string (ByteArray.mk #[])), (.int .i64 (0 : Int)), (.int .u8 (8 : Int))] w1 fun v371 w335 =>
            ∃ x372 : (Int × ByteArray × Bool × Bool × ByteArray × ByteArray × Int × Int × Unit), v371 = (.agg #[(.int .u16 x372.1), (.string x372.2.1), (.bool x372.2.2.1), (.bool x372.2.2.2.1), (.string x372.2.2.2.2.1), (.string x372.2.2.2.2.2.1), (.int .i64 x372.2.2.2.2.2.2.1), (.int .u8 x372.2.2.2.2.2.2.2.1)]) ∧
            Wr w335 (blk w.heap.size) ∧
            Nw (w335.setCell (blk w.heap.size) (.int .u16 x372.1)) fun w336 =>
            Wr w336 ((blk w.heap.size).add 1) ∧
            Nw (w336.setCell ((blk w.heap.size).add 1) (.string x372.2.1)) fun w337 =>
            Wr w337 ((blk w.heap.size).add 2) ∧
            Nw (w337.setCell ((blk w.heap.size).add 2) (.bool x372.2.2.1)) fun w338 =>
            Wr w338 ((blk w.heap.size).add 3) ∧
            Nw (w338.setCell ((blk w.heap.size).add 3) (.bool x372.2.2.2.1)) fun w339 =>
            Wr w339 ((blk w.heap.size).add 4) ∧
            Nw (w339.setCell ((blk w.heap.size).add 4) (.string x372.2.2.2.2.1)) fun w340 =>
            Wr w340 ((blk w.heap.size).add 5) ∧
            Nw (w340.setCell ((blk w.heap.size).add 5) (.string x372.2.2.2.2.2.1)) fun w341 =>
            Wr w341 ((blk w.heap.size).add 6) ∧
            Nw (w341.setCell ((blk w.heap.size).add 6) (.int .i64 x372.2.2.2.2.2.2.1)) fun w342 =>
            Wr w342 ((blk w.heap.size).add 7) ∧
            Nw (w342.setCell ((blk w.heap.size).add 7) (.int .u8 x372.2.2.2.2.2.2.2.1)) fun w343 =>
            ldI w343 ((blk w.heap.size).add 0) .u16 fun x373 =>
            ldStr w343 ((blk w.heap.size).add 1) fun x374 =>
            ldB w343 ((blk w.heap.size).add 2) fun x375 =>
            ldB w343 ((blk w.heap.size).add 3) fun x376 =>
            ldStr w343 ((blk w.heap.size).add 4) fun x377 =>
            ldStr w343 ((blk w.heap.size).add 5) fun x378 =>
            ldI w343 ((blk w.heap.size).add 6) .i64 fun x379 =>
            ldI w343 ((blk w.heap.size).add 7) .u8 fun x380 =>
            R (.tuple #[(.agg #[(.int .u16 x373), (.string x374), (.bool x375), (.bool x376), (.string x377), (.string x378), (.int .i64 x379), (.int .u8 x380)]), (.bool true)]) w343)
            (ifB (p0 == (124 : Int))
            (callR Try.prog 100 #[(.int .u16 p0), (.string (ByteArray.mk #[79, 112, 66, 105, 116, 99, 97, 115, 116])), (.bool true), (.bool true), (.string (ByteArray.mk #[105])), (.string (ByteArray.mk #[])), (.int .i64 (0 : Int)), (.int .u8 (8 : Int))] w1 fun v381 w344 =>
            ∃ x382 : (Int × ByteArray × Bool × Bool × ByteArray × ByteArray × Int × Int × Unit), v381 = (.agg #[(.int .u16 x382.1), (.string x382.2.1), (.bool x382.2.2.1), (.bool x382.2.2.2.1), (.string x382.2.2.2.2.1), (.string x382.2.2.2.2.2.1), (.int .i64 x382.2.2.2.2.2.2.1), (.int .u8 x382.2.2.2.2.2.2.2.1)]) ∧
            Wr w344 (blk w.heap.size) ∧
            Nw (w344.setCell (blk w.heap.size) (.int .u16 x382.1)) fun w345 =>
            Wr w345 ((blk w.heap.size).add 1) ∧
            Nw (w345.setCell ((blk w.heap.size).add 1) (.string x382.2.1)) fun w346 =>
            Wr w346 ((blk w.heap.size).add 2) ∧
            Nw (w346.setCell ((blk w.heap.size).add 2) (.bool x382.2.2.1)) fun w347 =>
            Wr w347 ((blk w.heap.size).add 3) ∧
            Nw (w347.setCell ((blk w.heap.size).add 3) (.bool x382.2.2.2.1)) fun w348 =>
            Wr w348 ((blk w.heap.size).add 4) ∧
            Nw (w348.setCell ((blk w.heap.size).add 4) (.string x382.2.2.2.2.1)) fun w349 =>
            Wr w349 ((blk w.heap.size).add 5) ∧
            Nw (w349.setCell ((blk w.heap.size).add 5) (.string x382.2.2.2.2.2.1)) fun w350 =>
            Wr w350 ((blk w.heap.size).add 6) ∧
            Nw (w350.setCell ((blk w.heap.size).add 6) (.int .i64 x382.2.2.2.2.2.2.1)) fun w351 =>
            Wr w351 ((blk w.heap.size).add 7) ∧
            Nw (w351.setCell ((blk w.heap.size).add 7) (.int .u8 x382.2.2.2.2.2.2.2.1)) fun w352 =>
            ldI w352 ((blk w.heap.size).add 0) .u16 fun x383 =>
            ldStr w352 ((blk w.heap.size).add 1) fun x384 =>
            ldB w352 ((blk w.heap.size).add 2) fun x385 =>
            ldB w352 ((blk w.heap.size).add 3) fun x386 =>
            ldStr w352 ((blk w.heap.size).add 4) fun x387 =>
            ldStr w352 ((blk w.heap.size).add 5) fun x388 =>
            ldI w352 ((blk w.heap.size).add 6) .i64 fun x389 =>
            ldI w352 ((blk w.heap.size).add 7) .u8 fun x390 =>
            R (.tuple #[(.agg #[(.int .u16 x383), (.string x384), (.bool x385), (.bool x386), (.string x387), (.string x388), (.int .i64 x389), (.int .u8 x390)]), (.bool true)]) w352)
            (ifB (p0 == (126 : Int))
            (callR Try.prog 100 #[(.int .u16 p0), (.string (ByteArray.mk #[79, 112, 83, 78, 101, 103, 97, 116, 101])), (.bool true), (.bool true), (.string (ByteArray.mk #[105])), (.string (ByteArray.mk #[])), (.int .i64 (0 : Int)), (.int .u8 (8 : Int))] w1 fun v391 w353 =>
            ∃ x392 : (Int × ByteArray × Bool × Bool × ByteArray × ByteArray × Int × Int × Unit), v391 = (.agg #[(.int .u16 x392.1), (.string x392.2.1), (.bool x392.2.2.1), (.bool x392.2.2.2.1), (.string x392.2.2.2.2.1), (.string x392.2.2.2.2.2.1), (.int .i64 x392.2.2.2.2.2.2.1), (.int .u8 x392.2.2.2.2.2.2.2.1)]) ∧
            Wr w353 (blk w.heap.size) ∧
            Nw (w353.setCell (blk w.heap.size) (.int .u16 x392.1)) fun w354 =>
            Wr w354 ((blk w.heap.size).add 1) ∧
            Nw (w354.setCell ((blk w.heap.size).add 1) (.string x392.2.1)) fun w355 =>
            Wr w355 ((blk w.heap.size).add 2) ∧
            Nw (w355.setCell ((blk w.heap.size).add 2) (.bool x392.2.2.1)) fun w356 =>
            Wr w356 ((blk w.heap.size).add 3) ∧
            Nw (w356.setCell ((blk w.heap.size).add 3) (.bool x392.2.2.2.1)) fun w357 =>
            Wr w357 ((blk w.heap.size).add 4) ∧
            Nw (w357.setCell ((blk w.heap.size).add 4) (.string x392.2.2.2.2.1)) fun w358 =>
            Wr w358 ((blk w.heap.size).add 5) ∧
            Nw (w358.setCell ((blk w.heap.size).add 5) (.string x392.2.2.2.2.2.1)) fun w359 =>
            Wr w359 ((blk w.heap.size).add 6) ∧
            Nw (w359.setCell ((blk w.heap.size).add 6) (.int .i64 x392.2.2.2.2.2.2.1)) fun w360 =>
            Wr w360 ((blk w.heap.size).add 7) ∧
            Nw (w360.setCell ((blk w.heap.size).add 7) (.int .u8 x392.2.2.2.2.2.2.2.1)) fun w361 =>
            ldI w361 ((blk w.heap.size).add 0) .u16 fun x393 =>
            ldStr w361 ((blk w.heap.size).add 1) fun x394 =>
            ldB w361 ((blk w.heap.size).add 2) fun x395 =>
            ldB w361 ((blk w.heap.size).add 3) fun x396 =>
            ldStr w361 ((blk w.heap.size).add 4) fun x397 =>
            ldStr w361 ((blk w.heap.size).add 5) fun x398 =>
            ldI w361 ((blk w.heap.size).add 6) .i64 fun x399 =>
            ldI w361 ((blk w.heap.size).add 7) .u8 fun x400 =>
            R (.tuple #[(.agg #[(.int .u16 x393), (.string x394), (.bool x395), (.bool x396), (.string x397), (.string x398), (.int .i64 x399), (.int .u8 x400)]), (.bool true)]) w361)
            (ifB (p0 == (128 : Int))
            (callR Try.prog 100 #[(.int .u16 p0), (.string (ByteArray.mk #[79, 112, 73, 65, 100, 100])), (.bool true), (.bool true), (.string (ByteArray.mk #[105, 105])), (.string (ByteArray.mk #[])), (.int .i64 (0 : Int)), (.int .u8 (8 : Int))] w1 fun v401 w362 =>
            ∃ x402 : (Int × ByteArray × Bool × Bool × ByteArray × ByteArray × Int × Int × Unit), v401 = (.agg #[(.int .u16 x402.1), (.string x402.2.1), (.bool x402.2.2.1), (.bool x402.2.2.2.1), (.string x402.2.2.2.2.1), (.string x402.2.2.2.2.2.1), (.int .i64 x402.2.2.2.2.2.2.1), (.int .u8 x402.2.2.2.2.2.2.2.1)]) ∧
            Wr w362 (blk w.heap.size) ∧
            Nw (w362.setCell (blk w.heap.size) (.int .u16 x402.1)) fun w363 =>
            Wr w363 ((blk w.heap.size).add 1) ∧
            Nw (w363.setCell ((blk w.heap.size).add 1) (.string x402.2.1)) fun w364 =>
            Wr w364 ((blk w.heap.size).add 2) ∧
            Nw (w364.setCell ((blk w.heap.size).add 2) (.bool x402.2.2.1)) fun w365 =>
            Wr w365 ((blk w.heap.size).add 3) ∧
            Nw (w365.setCell ((blk w.heap.size).add 3) (.bool x402.2.2.2.1)) fun w366 =>
            Wr w366 ((blk w.heap.size).add 4) ∧
            Nw (w366.setCell ((blk w.heap.size).add 4) (.string x402.2.2.2.2.1)) fun w367 =>
            Wr w367 ((blk w.heap.size).add 5) ∧
            Nw (w367.setCell ((blk w.heap.size).add 5) (.string x402.2.2.2.2.2.1)) fun w368 =>
            Wr w368 ((blk w.heap.size).add 6) ∧
            Nw (w368.setCell ((blk w.heap.size).add 6) (.int .i64 x402.2.2.2.2.2.2.1)) fun w369 =>
            Wr w369 ((blk w.heap.size).add 7) ∧
            Nw (w369.setCell ((blk w.heap.size).add 7) (.int .u8 x402.2.2.2.2.2.2.2.1)) fun w370 =>
            ldI w370 ((blk w.heap.size).add 0) .u16 fun x403 =>
            ldStr w370 ((blk w.heap.size).add 1) fun x404 =>
            ldB w370 ((blk w.heap.size).add 2) fun x405 =>
            ldB w370 ((blk w.heap.size).add 3) fun x406 =>
            ldStr w370 ((blk w.heap.size).add 4) fun x407 =>
            ldStr w370 ((blk w.heap.size).add 5) fun x408 =>
            ldI w370 ((blk w.heap.size).add 6) .i64 fun x409 =>
            ldI w370 ((blk w.heap.size).add 7) .u8 fun x410 =>
            R (.tuple #[(.agg #[(.int .u16 x403), (.string x404), (.bool x405), (.bool x406), (.string x407), (.string x408), (.int .i64 x409), (.int .u8 x410)]), (.bool true)]) w370)
            (ifB (p0 == (130 : Int))
            (callR Try.prog 100 #[(.int .u16 p0), (.string (ByteArray.mk #[79, 112, 73, 83, 117, 98])), (.bool true), (.bool true), (.string (ByteArray.mk #[105, 105])), (.string (ByteArray.mk #[])), (.int .i64 (0 : Int)), (.int .u8 (8 : Int))] w1 fun v411 w371 =>
            ∃ x412 : (Int × ByteArray × Bool × Bool × ByteArray × ByteArray × Int × Int × Unit), v411 = (.agg #[(.int .u16 x412.1), (.string x412.2.1), (.bool x412.2.2.1), (.bool x412.2.2.2.1), (.string x412.2.2.2.2.1), (.string x412.2.2.2.2.2.1), (.int .i64 x412.2.2.2.2.2.2.1), (.int .u8 x412.2.2.2.2.2.2.2.1)]) ∧
            Wr w371 (blk w.heap.size) ∧
            Nw (w371.setCell (blk w.heap.size) (.int .u16 x412.1)) fun w372 =>
            Wr w372 ((blk w.heap.size).add 1) ∧
            Nw (w372.setCell ((blk w.heap.size).add 1) (.string x412.2.1)) fun w373 =>
            Wr w373 ((blk w.heap.size).add 2) ∧
            Nw (w373.setCell ((blk w.heap.size).add 2) (.bool x412.2.2.1)) fun w374 =>
            Wr w374 ((blk w.heap.size).add 3) ∧
            Nw (w374.setCell ((blk w.heap.size).add 3) (.bool x412.2.2.2.1)) fun w375 =>
            Wr w375 ((blk w.heap.size).add 4) ∧
            Nw (w375.setCell ((blk w.heap.size).add 4) (.string x412.2.2.2.2.1)) fun w376 =>
            Wr w376 ((blk w.heap.size).add 5) ∧
            Nw (w376.setCell ((blk w.heap.size).add 5) (.string x412.2.2.2.2.2.1)) fun w377 =>
            Wr w377 ((blk w.heap.size).add 6) ∧
            Nw (w377.setCell ((blk w.heap.size).add 6) (.int .i64 x412.2.2.2.2.2.2.1)) fun w378 =>
            Wr w378 ((blk w.heap.size).add 7) ∧
            Nw (w378.setCell ((blk w.heap.size).add 7) (.int .u8 x412.2.2.2.2.2.2.2.1)) fun w379 =>
            ldI w379 ((blk w.heap.size).add 0) .u16 fun x413 =>
            ldStr w379 ((blk w.heap.size).add 1) fun x414 =>
            ldB w379 ((blk w.heap.size).add 2) fun x415 =>
            ldB w379 ((blk w.heap.size).add 3) fun x416 =>
            ldStr w379 ((blk w.heap.size).add 4) fun x417 =>
            ldStr w379 ((blk w.heap.size).add 5) fun x418 =>
            ldI w379 ((blk w.heap.size).add 6) .i64 fun x419 =>
            ldI w379 ((blk w.heap.size).add 7) .u8 fun x420 =>
            R (.tuple #[(.agg #[(.int .u16 x413), (.string x414), (.bool x415), (.bool x416), (.string x417), (.string x418), (.int .i64 x419), (.int .u8 x420)]), (.bool true)]) w379)
            (ifB (p0 == (132 : Int))
            (callR Try.prog 100 #[(.int .u16 p0), (.string (ByteArray.mk #[79, 112, 73, 77, 117, 108])), (.bool true), (.bool true), (.string (ByteArray.mk #[105, 105])), (.string (ByteArray.mk #[])), (.int .i64 (0 : Int)), (.int .u8 (8 : Int))] w1 fun v421 w380 =>
            ∃ x422 : (Int × ByteArray × Bool × Bool × ByteArray × ByteArray × Int × Int × Unit), v421 = (.agg #[(.int .u16 x422.1), (.string x422.2.1), (.bool x422.2.2.1), (.bool x422.2.2.2.1), (.string x422.2.2.2.2.1), (.string x422.2.2.2.2.2.1), (.int .i64 x422.2.2.2.2.2.2.1), (.int .u8 x422.2.2.2.2.2.2.2.1)]) ∧
            Wr w380 (blk w.heap.size) ∧
            Nw (w380.setCell (blk w.heap.size) (.int .u16 x422.1)) fun w381 =>
            Wr w381 ((blk w.heap.size).add 1) ∧
            Nw (w381.setCell ((blk w.heap.size).add 1) (.string x422.2.1)) fun w382 =>
            Wr w382 ((blk w.heap.size).add 2) ∧
            Nw (w382.setCell ((blk w.heap.size).add 2) (.bool x422.2.2.1)) fun w383 =>
            Wr w383 ((blk w.heap.size).add 3) ∧
            Nw (w383.setCell ((blk w.heap.size).add 3) (.bool x422.2.2.2.1)) fun w384 =>
            Wr w384 ((blk w.heap.size).add 4) ∧
            Nw (w384.setCell ((blk w.heap.size).add 4) (.string x422.2.2.2.2.1)) fun w385 =>
            Wr w385 ((blk w.heap.size).add 5) ∧
            Nw (w385.setCell ((blk w.heap.size).add 5) (.string x422.2.2.2.2.2.1)) fun w386 =>
            Wr w386 ((blk w.heap.size).add 6) ∧
            Nw (w386.setCell ((blk w.heap.size).add 6) (.int .i64 x422.2.2.2.2.2.2.1)) fun w387 =>
            Wr w387 ((blk w.heap.size).add 7) ∧
            Nw (w387.setCell ((blk w.heap.size).add 7) (.int .u8 x422.2.2.2.2.2.2.2.1)) fun w388 =>
            ldI w388 ((blk w.heap.size).add 0) .u16 fun x423 =>
            ldStr w388 ((blk w.heap.size).add 1) fun x424 =>
            ldB w388 ((blk w.heap.size).add 2) fun x425 =>
            ldB w388 ((blk w.heap.size).add 3) fun x426 =>
            ldStr w388 ((blk w.heap.size).add 4) fun x427 =>
            ldStr w388 ((blk w.heap.size).add 5) fun x428 =>
            ldI w388 ((blk w.heap.size).add 6) .i64 fun x429 =>
            ldI w388 ((blk w.heap.size).add 7) .u8 fun x430 =>
            R (.tuple #[(.agg #[(.int .u16 x423), (.string x424), (.bool x425), (.bool x426), (.string x427), (.string x428), (.int .i64 x429), (.int .u8 x430)]), (.bool true)]) w388)
            (ifB (p0 == (134 : Int))
            (callR Try.prog 100 #[(.int .u16 p0), (.string (ByteArray.mk #[79, 112, 85, 68, 105, 118])), (.bool true), (.bool true), (.string (ByteArray.mk #[105, 105])), (.string (ByteArray.mk #[])), (.int .i64 (0 : Int)), (.int .u8 (8 : Int))] w1 fun v431 w389 =>
            ∃ x432 : (Int × ByteArray × Bool × Bool × ByteArray × ByteArray × Int × Int × Unit), v431 = (.agg #[(.int .u16 x432.1), (.string x432.2.1), (.bool x432.2.2.1), (.bool x432.2.2.2.1), (.string x432.2.2.2.2.1), (.string x432.2.2.2.2.2.1), (.int .i64 x432.2.2.2.2.2.2.1), (.int .u8 x432.2.2.2.2.2.2.2.1)]) ∧
            Wr w389 (blk w.heap.size) ∧
            Nw (w389.setCell (blk w.heap.size) (.int .u16 x432.1)) fun w390 =>
            Wr w390 ((blk w.heap.size).add 1) ∧
            Nw (w390.setCell ((blk w.heap.size).add 1) (.string x432.2.1)) fun w391 =>
            Wr w391 ((blk w.heap.size).add 2) ∧
            Nw (w391.setCell ((blk w.heap.size).add 2) (.bool x432.2.2.1)) fun w392 =>
            Wr w392 ((blk w.heap.size).add 3) ∧
            Nw (w392.setCell ((blk w.heap.size).add 3) (.bool x432.2.2.2.1)) fun w393 =>
            Wr w393 ((blk w.heap.size).add 4) ∧
            Nw (w393.setCell ((blk w.heap.size).add 4) (.string x432.2.2.2.2.1)) fun w394 =>
            Wr w394 ((blk w.heap.size).add 5) ∧
            Nw (w394.setCell ((blk w.heap.size).add 5) (.string x432.2.2.2.2.2.1)) fun w395 =>
            Wr w395 ((blk w.heap.size).add 6) ∧
            Nw (w395.setCell ((blk w.heap.size).add 6) (.int .i64 x432.2.2.2.2.2.2.1)) fun w396 =>
            Wr w396 ((blk w.heap.size).add 7) ∧
            Nw (w396.setCell ((blk w.heap.size).add 7) (.int .u8 x432.2.2.2.2.2.2.2.1)) fun w397 =>
            ldI w397 ((blk w.heap.size).add 0) .u16 fun x433 =>
            ldStr w397 ((blk w.heap.size).add 1) fun x434 =>
            ldB w397 ((blk w.heap.size).add 2) fun x435 =>
            ldB w397 ((blk w.heap.size).add 3) fun x436 =>
            ldStr w397 ((blk w.heap.size).add 4) fun x437 =>
            ldStr w397 ((blk w.heap.size).add 5) fun x438 =>
            ldI w397 ((blk w.heap.size).add 6) .i64 fun x439 =>
            ldI w397 ((blk w.heap.size).add 7) .u8 fun x440 =>
            R (.tuple #[(.agg #[(.int .u16 x433), (.string x434), (.bool x435), (.bool x436), (.string x437), (.string x438), (.int .i64 x439), (.int .u8 x440)]), (.bool true)]) w397)
            (ifB (p0 == (135 : Int))
            (callR Try.prog 100 #[(.int .u16 p0), (.string (ByteArray.mk #[79, 112, 83, 68, 105, 118])), (.bool true), (.bool true), (.string (ByteArray.mk #[105, 105])), (.string (ByteArray.mk #[])), (.int .i64 (0 : Int)), (.int .u8 (8 : Int))] w1 fun v441 w398 =>
            ∃ x442 : (Int × ByteArray × Bool × Bool × ByteArray × ByteArray × Int × Int × Unit), v441 = (.agg #[(.int .u16 x442.1), (.string x442.2.1), (.bool x442.2.2.1), (.bool x442.2.2.2.1), (.string x442.2.2.2.2.1), (.string x442.2.2.2.2.2.1), (.int .i64 x442.2.2.2.2.2.2.1), (.int .u8 x442.2.2.2.2.2.2.2.1)]) ∧
            Wr w398 (blk w.heap.size) ∧
            Nw (w398.setCell (blk w.heap.size) (.int .u16 x442.1)) fun w399 =>
            Wr w399 ((blk w.heap.size).add 1) ∧
            Nw (w399.setCell ((blk w.heap.size).add 1) (.string x442.2.1)) fun w400 =>
            Wr w400 ((blk w.heap.size).add 2) ∧
            Nw (w400.setCell ((blk w.heap.size).add 2) (.bool x442.2.2.1)) fun w401 =>
            Wr w401 ((blk w.heap.size).add 3) ∧
            Nw (w401.setCell ((blk w.heap.size).add 3) (.bool x442.2.2.2.1)) fun w402 =>
            Wr w402 ((blk w.heap.size).add 4) ∧
            Nw (w402.setCell ((blk w.heap.size).add 4) (.string x442.2.2.2.2.1)) fun w403 =>
            Wr w403 ((blk w.heap.size).add 5) ∧
            Nw (w403.setCell ((blk w.heap.size).add 5) (.string x442.2.2.2.2.2.1)) fun w404 =>
            Wr w404 ((blk w.heap.size).add 6) ∧
            Nw (w404.setCell ((blk w.heap.size).add 6) (.int .i64 x442.2.2.2.2.2.2.1)) fun w405 =>
            Wr w405 ((blk w.heap.size).add 7) ∧
            Nw (w405.setCell ((blk w.heap.size).add 7) (.int .u8 x442.2.2.2.2.2.2.2.1)) fun w406 =>
            ldI w406 ((blk w.heap.size).add 0) .u16 fun x443 =>
            ldStr w406 ((blk w.heap.size).add 1) fun x444 =>
            ldB w406 ((blk w.heap.size).add 2) fun x445 =>
            ldB w406 ((blk w.heap.size).add 3) fun x446 =>
            ldStr w406 ((blk w.heap.size).add 4) fun x447 =>
            ldStr w406 ((blk w.heap.size).add 5) fun x448 =>
            ldI w406 ((blk w.heap.size).add 6) .i64 fun x449 =>
            ldI w406 ((blk w.heap.size).add 7) .u8 fun x450 =>
            R (.tuple #[(.agg #[(.int .u16 x443), (.string x444), (.bool x445), (.bool x446), (.string x447), (.string x448), (.int .i64 x449), (.int .u8 x450)]), (.bool true)]) w406)
            (ifB (p0 == (137 : Int))
            (callR Try.prog 100 #[(.int .u16 p0), (.string (ByteArray.mk #[79, 112, 85, 77, 111, 100])), (.bool true), (.bool true), (.string (ByteArray.mk #[105, 105])), (.string (ByteArray.mk #[])), (.int .i64 (0 : Int)), (.int .u8 (8 : Int))] w1 fun v451 w407 =>
            ∃ x452 : (Int × ByteArray × Bool × Bool × ByteArray × ByteArray × Int × Int × Unit), v451 = (.agg #[(.int .u16 x452.1), (.string x452.2.1), (.bool x452.2.2.1), (.bool x452.2.2.2.1), (.string x452.2.2.2.2.1), (.string x452.2.2.2.2.2.1), (.int .i64 x452.2.2.2.2.2.2.1), (.int .u8 x452.2.2.2.2.2.2.2.1)]) ∧
            Wr w407 (blk w.heap.size) ∧
            Nw (w407.setCell (blk w.heap.size) (.int .u16 x452.1)) fun w408 =>
            Wr w408 ((blk w.heap.size).add 1) ∧
            Nw (w408.setCell ((blk w.heap.size).add 1) (.string x452.2.1)) fun w409 =>
            Wr w409 ((blk w.heap.size).add 2) ∧
            Nw (w409.setCell ((blk w.heap.size).add 2) (.bool x452.2.2.1)) fun w410 =>
            Wr w410 ((blk w.heap.size).add 3) ∧
            Nw (w410.setCell ((blk w.heap.size).add 3) (.bool x452.2.2.2.1)) fun w411 =>
            Wr w411 ((blk w.heap.size).add 4) ∧
            Nw (w411.setCell ((blk w.heap.size).add 4) (.string x452.2.2.2.2.1)) fun w412 =>
            Wr w412 ((blk w.heap.size).add 5) ∧
            Nw (w412.setCell ((blk w.heap.size).add 5) (.string x452.2.2.2.2.2.1)) fun w413 =>
            Wr w413 ((blk w.heap.size).add 6) ∧
            Nw (w413.setCell ((blk w.heap.size).add 6) (.int .i64 x452.2.2.2.2.2.2.1)) fun w414 =>
            Wr w414 ((blk w.heap.size).add 7) ∧
            Nw (w414.setCell ((blk w.heap.size).add 7) (.int .u8 x452.2.2.2.2.2.2.2.1)) fun w415 =>
            ldI w415 ((blk w.heap.size).add 0) .u16 fun x453 =>
            ldStr w415 ((blk w.heap.size).add 1) fun x454 =>
            ldB w415 ((blk w.heap.size).add 2) fun x455 =>
            ldB w415 ((blk w.heap.size).add 3) fun x456 =>
            ldStr w415 ((blk w.heap.size).add 4) fun x457 =>
            ldStr w415 ((blk w.heap.size).add 5) fun x458 =>
            ldI w415 ((blk w.heap.size).add 6) .i64 fun x459 =>
            ldI w415 ((blk w.heap.size).add 7) .u8 fun x460 =>
            R (.tuple #[(.agg #[(.int .u16 x453), (.string x454), (.bool x455), (.bool x456), (.string x457), (.string x458), (.int .i64 x459), (.int .u8 x460)]), (.bool true)]) w415)
            (ifB (p0 == (138 : Int))
            (callR Try.prog 100 #[(.int .u16 p0), (.string (ByteArray.mk #[79, 112, 83, 82, 101, 109])), (.bool true), (.bool true), (.string (ByteArray.mk #[105, 105])), (.string (ByteArray.mk #[])), (.int .i64 (0 : Int)), (.int .u8 (8 : Int))] w1 fun v461 w416 =>
            ∃ x462 : (Int × ByteArray × Bool × Bool × ByteArray × ByteArray × Int × Int × Unit), v461 = (.agg #[(.int .u16 x462.1), (.string x462.2.1), (.bool x462.2.2.1), (.bool x462.2.2.2.1), (.string x462.2.2.2.2.1), (.string x462.2.2.2.2.2.1), (.int .i64 x462.2.2.2.2.2.2.1), (.int .u8 x462.2.2.2.2.2.2.2.1)]) ∧
            Wr w416 (blk w.heap.size) ∧
            Nw (w416.setCell (blk w.heap.size) (.int .u16 x462.1)) fun w417 =>
            Wr w417 ((blk w.heap.size).add 1) ∧
            Nw (w417.setCell ((blk w.heap.size).add 1) (.string x462.2.1)) fun w418 =>
            Wr w418 ((blk w.heap.size).add 2) ∧
            Nw (w418.setCell ((blk w.heap.size).add 2) (.bool x462.2.2.1)) fun w419 =>
            Wr w419 ((blk w.heap.size).add 3) ∧
            Nw (w419.setCell ((blk w.heap.size).add 3) (.bool x462.2.2.2.1)) fun w420 =>
            Wr w420 ((blk w.heap.size).add 4) ∧
            Nw (w420.setCell ((blk w.heap.size).add 4) (.string x462.2.2.2.2.1)) fun w421 =>
            Wr w421 ((blk w.heap.size).add 5) ∧
            Nw (w421.setCell ((blk w.heap.size).add 5) (.string x462.2.2.2.2.2.1)) fun w422 =>
            Wr w422 ((blk w.heap.size).add 6) ∧
            Nw (w422.setCell ((blk w.heap.size).add 6) (.int .i64 x462.2.2.2.2.2.2.1)) fun w423 =>
            Wr w423 ((blk w.heap.size).add 7) ∧
            Nw (w423.setCell ((blk w.heap.size).add 7) (.int .u8 x462.2.2.2.2.2.2.2.1)) fun w424 =>
            ldI w424 ((blk w.heap.size).add 0) .u16 fun x463 =>
            ldStr w424 ((blk w.heap.size).add 1) fun x464 =>
            ldB w424 ((blk w.heap.size).add 2) fun x465 =>
            ldB w424 ((blk w.heap.size).add 3) fun x466 =>
            ldStr w424 ((blk w.heap.size).add 4) fun x467 =>
            ldStr w424 ((blk w.heap.size).add 5) fun x468 =>
            ldI w424 ((blk w.heap.size).add 6) .i64 fun x469 =>
            ldI w424 ((blk w.heap.size).add 7) .u8 fun x470 =>
            R (.tuple #[(.agg #[(.int .u16 x463), (.string x464), (.bool x465), (.bool x466), (.string x467), (.string x468), (.int .i64 x469), (.int .u8 x470)]), (.bool true)]) w424)
            (ifB (p0 == (139 : Int))
            (callR Try.prog 100 #[(.int .u16 p0), (.string (ByteArray.mk #[79, 112, 83, 77, 111, 100])), (.bool true), (.bool true), (.string (ByteArray.mk #[105, 105])), (.string (ByteArray.mk #[])), (.int .i64 (0 : Int)), (.int .u8 (8 : Int))] w1 fun v471 w425 =>
            ∃ x472 : (Int × ByteArray × Bool × Bool × ByteArray × ByteArray × Int × Int × Unit), v471 = (.agg #[(.int .u16 x472.1), (.string x472.2.1), (.bool x472.2.2.1), (.bool x472.2.2.2.1), (.string x472.2.2.2.2.1), (.string x472.2.2.2.2.2.1), (.int .i64 x472.2.2.2.2.2.2.1), (.int .u8 x472.2.2.2.2.2.2.2.1)]) ∧
            Wr w425 (blk w.heap.size) ∧
            Nw (w425.setCell (blk w.heap.size) (.int .u16 x472.1)) fun w426 =>
            Wr w426 ((blk w.heap.size).add 1) ∧
            Nw (w426.setCell ((blk w.heap.size).add 1) (.string x472.2.1)) fun w427 =>
            Wr w427 ((blk w.heap.size).add 2) ∧
            Nw (w427.setCell ((blk w.heap.size).add 2) (.bool x472.2.2.1)) fun w428 =>
            Wr w428 ((blk w.heap.size).add 3) ∧
            Nw (w428.setCell ((blk w.heap.size).add 3) (.bool x472.2.2.2.1)) fun w429 =>
            Wr w429 ((blk w.heap.size).add 4) ∧
            Nw (w429.setCell ((blk w.heap.size).add 4) (.string x472.2.2.2.2.1)) fun w430 =>
            Wr w430 ((blk w.heap.size).add 5) ∧
            Nw (w430.setCell ((blk w.heap.size).add 5) (.string x472.2.2.2.2.2.1)) fun w431 =>
            Wr w431 ((blk w.heap.size).add 6) ∧
            Nw (w431.setCell ((blk w.heap.size).add 6) (.int .i64 x472.2.2.2.2.2.2.1)) fun w432 =>
            Wr w432 ((blk w.heap.size).add 7) ∧
            Nw (w432.setCell ((blk w.heap.size).add 7) (.int .u8 x472.2.2.2.2.2.2.2.1)) fun w433 =>
            ldI w433 ((blk w.heap.size).add 0) .u16 fun x473 =>
            ldStr w433 ((blk w.heap.size).add 1) fun x474 =>
            ldB w433 ((blk w.heap.size).add 2) fun x475 =>
            ldB w433 ((blk w.heap.size).add 3) fun x476 =>
            ldStr w433 ((blk w.heap.size).add 4) fun x477 =>
            ldStr w433 ((blk w.heap.size).add 5) fun x478 =>
            ldI w433 ((blk w.heap.size).add 6) .i64 fun x479 =>
            ldI w433 ((blk w.heap.size).add 7) .u8 fun x480 =>
            R (.tuple #[(.agg #[(.int .u16 x473), (.string x474), (.bool x475), (.bool x476), (.string x477), (.string x478), (.int .i64 x479), (.int .u8 x480)]), (.bool true)]) w433)
            (ifB (p0 == (149 : Int))
            (callR Try.prog 100 #[(.int .u16 p0), (.string (ByteArray.mk #[79, 112, 73, 65, 100, 100, 67, 97, 114, 114, 121])), (.bool true), (.bool true), (.string (ByteArray.mk #[105, 105])), (.string (ByteArray.mk #[])), (.int .i64 (0 : Int)), (.int .u8 (8 : Int))] w1 fun v481 w434 =>
            ∃ x482 : (Int × ByteArray × Bool × Bool × ByteArray × ByteArray × Int × Int × Unit), v481 = (.agg #[(.int .u16 x482.1), (.string x482.2.1), (.bool x482.2.2.1), (.bool x482.2.2.2.1), (.string x482.2.2.2.2.1), (.string x482.2.2.2.2.2.1), (.int .i64 x482.2.2.2.2.2.2.1), (.int .u8 x482.2.2.2.2.2.2.2.1)]) ∧
            Wr w434 (blk w.heap.size) ∧
            Nw (w434.setCell (blk w.heap.size) (.int .u16 x482.1)) fun w435 =>
            Wr w435 ((blk w.heap.size).add 1) ∧
            Nw (w435.setCell ((blk w.heap.size).add 1) (.string x482.2.1)) fun w436 =>
            Wr w436 ((blk w.heap.size).add 2) ∧
            Nw (w436.setCell ((blk w.heap.size).add 2) (.bool x482.2.2.1)) fun w437 =>
            Wr w437 ((blk w.heap.size).add 3) ∧
            Nw (w437.setCell ((blk w.heap.size).add 3) (.bool x482.2.2.2.1)) fun w438 =>
            Wr w438 ((blk w.heap.size).add 4) ∧
            Nw (w438.setCell ((blk w.heap.size).add 4) (.string x482.2.2.2.2.1)) fun w439 =>
            Wr w439 ((blk w.heap.size).add 5) ∧
            Nw (w439.setCell ((blk w.heap.size).add 5) (.string x482.2.2.2.2.2.1)) fun w440 =>
            Wr w440 ((blk w.heap.size).add 6) ∧
            Nw (w440.setCell ((blk w.heap.size).add 6) (.int .i64 x482.2.2.2.2.2.2.1)) fun w441 =>
            Wr w441 ((blk w.heap.size).add 7) ∧
            Nw (w441.setCell ((blk w.heap.size).add 7) (.int .u8 x482.2.2.2.2.2.2.2.1)) fun w442 =>
            ldI w442 ((blk w.heap.size).add 0) .u16 fun x483 =>
            ldStr w442 ((blk w.heap.size).add 1) fun x484 =>
            ldB w442 ((blk w.heap.size).add 2) fun x485 =>
            ldB w442 ((blk w.heap.size).add 3) fun x486 =>
            ldStr w442 ((blk w.heap.size).add 4) fun x487 =>
            ldStr w442 ((blk w.heap.size).add 5) fun x488 =>
            ldI w442 ((blk w.heap.size).add 6) .i64 fun x489 =>
            ldI w442 ((blk w.heap.size).add 7) .u8 fun x490 =>
            R (.tuple #[(.agg #[(.int .u16 x483), (.string x484), (.bool x485), (.bool x486), (.string x487), (.string x488), (.int .i64 x489), (.int .u8 x490)]), (.bool true)]) w442)
            (ifB (p0 == (150 : Int))
            (callR Try.prog 100 #[(.int .u16 p0), (.string (ByteArray.mk #[79, 112, 73, 83, 117, 98, 66, 111, 114, 114, 111, 119])), (.bool true), (.bool true), (.string (ByteArray.mk #[105, 105])), (.string (ByteArray.mk #[])), (.int .i64 (0 : Int)), (.int .u8 (8 : Int))] w1 fun v491 w443 =>
            ∃ x492 : (Int × ByteArray × Bool × Bool × ByteArray × ByteArray × Int × Int × Unit), v491 = (.agg #[(.int .u16 x492.1), (.string x492.2.1), (.bool x492.2.2.1), (.bool x492.2.2.2.1), (.string x492.2.2.2.2.1), (.string x492.2.2.2.2.2.1), (.int .i64 x492.2.2.2.2.2.2.1), (.int .u8 x492.2.2.2.2.2.2.2.1)]) ∧
            Wr w443 (blk w.heap.size) ∧
            Nw (w443.setCell (blk w.heap.size) (.int .u16 x492.1)) fun w444 =>
            Wr w444 ((blk w.heap.size).add 1) ∧
            Nw (w444.setCell ((blk w.heap.size).add 1) (.string x492.2.1)) fun w445 =>
            Wr w445 ((blk w.heap.size).add 2) ∧
            Nw (w445.setCell ((blk w.heap.size).add 2) (.bool x492.2.2.1)) fun w446 =>
            Wr w446 ((blk w.heap.size).add 3) ∧
            Nw (w446.setCell ((blk w.heap.size).add 3) (.bool x492.2.2.2.1)) fun w447 =>
            Wr w447 ((blk w.heap.size).add 4) ∧
            Nw (w447.setCell ((blk w.heap.size).add 4) (.string x492.2.2.2.2.1)) fun w448 =>
            Wr w448 ((blk w.heap.size).add 5) ∧
            Nw (w448.setCell ((blk w.heap.size).add 5) (.string x492.2.2.2.2.2.1)) fun w449 =>
            Wr w449 ((blk w.heap.size).add 6) ∧
            Nw (w449.setCell ((blk w.heap.size).add 6) (.int .i64 x492.2.2.2.2.2.2.1)) fun w450 =>
            Wr w450 ((blk w.heap.size).add 7) ∧
            Nw (w450.setCell ((blk w.heap.size).add 7) (.int .u8 x492.2.2.2.2.2.2.2.1)) fun w451 =>
            ldI w451 ((blk w.heap.size).add 0) .u16 fun x493 =>
            ldStr w451 ((blk w.heap.size).add 1) fun x494 =>
            ldB w451 ((blk w.heap.size).add 2) fun x495 =>
            ldB w451 ((blk w.heap.size).add 3) fun x496 =>
            ldStr w451 ((blk w.heap.size).add 4) fun x497 =>
            ldStr w451 ((blk w.heap.size).add 5) fun x498 =>
            ldI w451 ((blk w.heap.size).add 6) .i64 fun x499 =>
            ldI w451 ((blk w.heap.size).add 7) .u8 fun x500 =>
            R (.tuple #[(.agg #[(.int .u16 x493), (.string x494), (.bool x495), (.bool x496), (.string x497), (.string x498), (.int .i64 x499), (.int .u8 x500)]), (.bool true)]) w451)
            (ifB (p0 == (151 : Int))
            (callR Try.prog 100 #[(.int .u16 p0), (.string (ByteArray.mk #[79, 112, 85, 77, 117, 108, 69, 120, 116, 101, 110, 100, 101, 100])), (.bool true), (.bool true), (.string (ByteArray.mk #[105, 105])), (.string (ByteArray.mk #[])), (.int .i64 (0 : Int)), (.int .u8 (8 : Int))] w1 fun v501 w452 =>
            ∃ x502 : (Int × ByteArray × Bool × Bool × ByteArray × ByteArray × Int × Int × Unit), v501 = (.agg #[(.int .u16 x502.1), (.string x502.2.1), (.bool x502.2.2.1), (.bool x502.2.2.2.1), (.string x502.2.2.2.2.1), (.string x502.2.2.2.2.2.1), (.int .i64 x502.2.2.2.2.2.2.1), (.int .u8 x502.2.2.2.2.2.2.2.1)]) ∧
            Wr w452 (blk w.heap.size) ∧
            Nw (w452.setCell (blk w.heap.size) (.int .u16 x502.1)) fun w453 =>
            Wr w453 ((blk w.heap.size).add 1) ∧
            Nw (w453.setCell ((blk w.heap.size).add 1) (.string x502.2.1)) fun w454 =>
            Wr w454 ((blk w.heap.size).add 2) ∧
            Nw (w454.setCell ((blk w.heap.size).add 2) (.bool x502.2.2.1)) fun w455 =>
            Wr w455 ((blk w.heap.size).add 3) ∧
            Nw (w455.setCell ((blk w.heap.size).add 3) (.bool x502.2.2.2.1)) fun w456 =>
            Wr w456 ((blk w.heap.size).add 4) ∧
            Nw (w456.setCell ((blk w.heap.size).add 4) (.string x502.2.2.2.2.1)) fun w457 =>
            Wr w457 ((blk w.heap.size).add 5) ∧
            Nw (w457.setCell ((blk w.heap.size).add 5) (.string x502.2.2.2.2.2.1)) fun w458 =>
            Wr w458 ((blk w.heap.size).add 6) ∧
            Nw (w458.setCell ((blk w.heap.size).add 6) (.int .i64 x502.2.2.2.2.2.2.1)) fun w459 =>
            Wr w459 ((blk w.heap.size).add 7) ∧
            Nw (w459.setCell ((blk w.heap.size).add 7) (.int .u8 x502.2.2.2.2.2.2.2.1)) fun w460 =>
            ldI w460 ((blk w.heap.size).add 0) .u16 fun x503 =>
            ldStr w460 ((blk w.heap.size).add 1) fun x504 =>
            ldB w460 ((blk w.heap.size).add 2) fun x505 =>
            ldB w460 ((blk w.heap.size).add 3) fun x506 =>
            ldStr w460 ((blk w.heap.size).add 4) fun x507 =>
            ldStr w460 ((blk w.heap.size).add 5) fun x508 =>
            ldI w460 ((blk w.heap.size).add 6) .i64 fun x509 =>
            ldI w460 ((blk w.heap.size).add 7) .u8 fun x510 =>
            R (.tuple #[(.agg #[(.int .u16 x503), (.string x504), (.bool x505), (.bool x506), (.string x507), (.string x508), (.int .i64 x509), (.int .u8 x510)]), (.bool true)]) w460)
            (ifB (p0 == (152 : Int))
            (callR Try.prog 100 #[(.int .u16 p0), (.string (ByteArray.mk #[79, 112, 83, 77, 117, 108, 69, 120, 116, 101, 110, 100, 101, 100])), (.bool true), (.bool true), (.string (ByteArray.mk #[105, 105])), (.string (ByteArray.mk #[])), (.int .i64 (0 : Int)), (.int .u8 (8 : Int))] w1 fun v511 w461 =>
            ∃ x512 : (Int × ByteArray × Bool × Bool × ByteArray × ByteArray × Int × Int × Unit), v511 = (.agg #[(.int .u16 x512.1), (.string x512.2.1), (.bool x512.2.2.1), (.bool x512.2.2.2.1), (.string x512.2.2.2.2.1), (.string x512.2.2.2.2.2.1), (.int .i64 x512.2.2.2.2.2.2.1), (.int .u8 x512.2.2.2.2.2.2.2.1)]) ∧
            Wr w461 (blk w.heap.size) ∧
            Nw (w461.setCell (blk w.heap.size) (.int .u16 x512.1)) fun w462 =>
            Wr w462 ((blk w.heap.size).add 1) ∧
            Nw (w462.setCell ((blk w.heap.size).add 1) (.string x512.2.1)) fun w463 =>
            Wr w463 ((blk w.heap.size).add 2) ∧
            Nw (w463.setCell ((blk w.heap.size).add 2) (.bool x512.2.2.1)) fun w464 =>
            Wr w464 ((blk w.heap.size).add 3) ∧
            Nw (w464.setCell ((blk w.heap.size).add 3) (.bool x512.2.2.2.1)) fun w465 =>
            Wr w465 ((blk w.heap.size).add 4) ∧
            Nw (w465.setCell ((blk w.heap.size).add 4) (.string x512.2.2.2.2.1)) fun w466 =>
            Wr w466 ((blk w.heap.size).add 5) ∧
            Nw (w466.setCell ((blk w.heap.size).add 5) (.string x512.2.2.2.2.2.1)) fun w467 =>
            Wr w467 ((blk w.heap.size).add 6) ∧
            Nw (w467.setCell ((blk w.heap.size).add 6) (.int .i64 x512.2.2.2.2.2.2.1)) fun w468 =>
            Wr w468 ((blk w.heap.size).add 7) ∧
            Nw (w468.setCell ((blk w.heap.size).add 7) (.int .u8 x512.2.2.2.2.2.2.2.1)) fun w469 =>
            ldI w469 ((blk w.heap.size).add 0) .u16 fun x513 =>
            ldStr w469 ((blk w.heap.size).add 1) fun x514 =>
            ldB w469 ((blk w.heap.size).add 2) fun x515 =>
            ldB w469 ((blk w.heap.size).add 3) fun x516 =>
            ldStr w469 ((blk w.heap.size).add 4) fun x517 =>
            ldStr w469 ((blk w.heap.size).add 5) fun x518 =>
            ldI w469 ((blk w.heap.size).add 6) .i64 fun x519 =>
            ldI w469 ((blk w.heap.size).add 7) .u8 fun x520 =>
            R (.tuple #[(.agg #[(.int .u16 x513), (.string x514), (.bool x515), (.bool x516), (.string x517), (.string x518), (.int .i64 x519), (.int .u8 x520)]), (.bool true)]) w469)
            (ifB (p0 == (154 : Int))
            (callR Try.prog 100 #[(.int .u16 p0), (.string (ByteArray.mk #[79, 112, 65, 110, 121])), (.bool true), (.bool true), (.string (ByteArray.mk #[105])), (.string (ByteArray.mk #[])), (.int .i64 (0 : Int)), (.int .u8 (8 : Int))] w1 fun v521 w470 =>
            ∃ x522 : (Int × ByteArray × Bool × Bool × ByteArray × ByteArray × Int × Int × Unit), v521 = (.agg #[(.int .u16 x522.1), (.string x522.2.1), (.bool x522.2.2.1), (.bool x522.2.2.2.1), (.string x522.2.2.2.2.1), (.string x522.2.2.2.2.2.1), (.int .i64 x522.2.2.2.2.2.2.1), (.int .u8 x522.2.2.2.2.2.2.2.1)]) ∧
            Wr w470 (blk w.heap.size) ∧
            Nw (w470.setCell (blk w.heap.size) (.int .u16 x522.1)) fun w471 =>
            Wr w471 ((blk w.heap.size).add 1) ∧
            Nw (w471.setCell ((blk w.heap.size).add 1) (.string x522.2.1)) fun w472 =>
            Wr w472 ((blk w.heap.size).add 2) ∧
            Nw (w472.setCell ((blk w.heap.size).add 2) (.bool x522.2.2.1)) fun w473 =>
            Wr w473 ((blk w.heap.size).add 3) ∧
            Nw (w473.setCell ((blk w.heap.size).add 3) (.bool x522.2.2.2.1)) fun w474 =>
            Wr w474 ((blk w.heap.size).add 4) ∧
            Nw (w474.setCell ((blk w.heap.size).add 4) (.string x522.2.2.2.2.1)) fun w475 =>
            Wr w475 ((blk w.heap.size).add 5) ∧
            Nw (w475.setCell ((blk w.heap.size).add 5) (.string x522.2.2.2.2.2.1)) fun w476 =>
            Wr w476 ((blk w.heap.size).add 6) ∧
            Nw (w476.setCell ((blk w.heap.size).add 6) (.int .i64 x522.2.2.2.2.2.2.1)) fun w477 =>
            Wr w477 ((blk w.heap.size).add 7) ∧
            Nw (w477.setCell ((blk w.heap.size).add 7) (.int .u8 x522.2.2.2.2.2.2.2.1)) fun w478 =>
            ldI w478 ((blk w.heap.size).add 0) .u16 fun x523 =>
            ldStr w478 ((blk w.heap.size).add 1) fun x524 =>
            ldB w478 ((blk w.heap.size).add 2) fun x525 =>
            ldB w478 ((blk w.heap.size).add 3) fun x526 =>
            ldStr w478 ((blk w.heap.size).add 4) fun x527 =>
            ldStr w478 ((blk w.heap.size).add 5) fun x528 =>
            ldI w478 ((blk w.heap.size).add 6) .i64 fun x529 =>
            ldI w478 ((blk w.heap.size).add 7) .u8 fun x530 =>
            R (.tuple #[(.agg #[(.int .u16 x523), (.string x524), (.bool x525), (.bool x526), (.string x527), (.string x528), (.int .i64 x529), (.int .u8 x530)]), (.bool true)]) w478)
            (ifB (p0 == (155 : Int))
            (callR Try.prog 100 #[(.int .u16 p0), (.string (ByteArray.mk #[79, 112, 65, 108, 108])), (.bool true), (.bool true), (.string (ByteArray.mk #[105])), (.string (ByteArray.mk #[])), (.int .i64 (0 : Int)), (.int .u8 (8 : Int))] w1 fun v531 w479 =>
            ∃ x532 : (Int × ByteArray × Bool × Bool × ByteArray × ByteArray × Int × Int × Unit), v531 = (.agg #[(.int .u16 x532.1), (.string x532.2.1), (.bool x532.2.2.1), (.bool x532.2.2.2.1), (.string x532.2.2.2.2.1), (.string x532.2.2.2.2.2.1), (.int .i64 x532.2.2.2.2.2.2.1), (.int .u8 x532.2.2.2.2.2.2.2.1)]) ∧
            Wr w479 (blk w.heap.size) ∧
            Nw (w479.setCell (blk w.heap.size) (.int .u16 x532.1)) fun w480 =>
            Wr w480 ((blk w.heap.size).add 1) ∧
            Nw (w480.setCell ((blk w.heap.size).add 1) (.string x532.2.1)) fun w481 =>
            Wr w481 ((blk w.heap.size).add 2) ∧
            Nw (w481.setCell ((blk w.heap.size).add 2) (.bool x532.2.2.1)) fun w482 =>
            Wr w482 ((blk w.heap.size).add 3) ∧
            Nw (w482.setCell ((blk w.heap.size).add 3) (.bool x532.2.2.2.1)) fun w483 =>
            Wr w483 ((blk w.heap.size).add 4) ∧
            Nw (w483.setCell ((blk w.heap.size).add 4) (.string x532.2.2.2.2.1)) fun w484 =>
            Wr w484 ((blk w.heap.size).add 5) ∧
            Nw (w484.setCell ((blk w.heap.size).add 5) (.string x532.2.2.2.2.2.1)) fun w485 =>
            Wr w485 ((blk w.heap.size).add 6) ∧
            Nw (w485.setCell ((blk w.heap.size).add 6) (.int .i64 x532.2.2.2.2.2.2.1)) fun w486 =>
            Wr w486 ((blk w.heap.size).add 7) ∧
            Nw (w486.setCell ((blk w.heap.size).add 7) (.int .u8 x532.2.2.2.2.2.2.2.1)) fun w487 =>
            ldI w487 ((blk w.heap.size).add 0) .u16 fun x533 =>
            ldStr w487 ((blk w.heap.size).add 1) fun x534 =>
            ldB w487 ((blk w.heap.size).add 2) fun x535 =>
            ldB w487 ((blk w.heap.size).add 3) fun x536 =>
            ldStr w487 ((blk w.heap.size).add 4) fun x537 =>
            ldStr w487 ((blk w.heap.size).add 5) fun x538 =>
            ldI w487 ((blk w.heap.size).add 6) .i64 fun x539 =>
            ldI w487 ((blk w.heap.size).add 7) .u8 fun x540 =>
            R (.tuple #[(.agg #[(.int .u16 x533), (.string x534), (.bool x535), (.bool x536), (.string x537), (.string x538), (.int .i64 x539), (.int .u8 x540)]), (.bool true)]) w487)
            (ifB (p0 == (164 : Int))
            (callR Try.prog 100 #[(.int .u16 p0), (.string (ByteArray.mk #[79, 112, 76, 111, 103, 105, 99, 97, 108, 69, 113, 117, 97, 108])), (.bool true), (.bool true), (.string (ByteArray.mk #[105, 105])), (.string (ByteArray.mk #[])), (.int .i64 (0 : Int)), (.int .u8 (8 : Int))] w1 fun v541 w488 =>
            ∃ x542 : (Int × ByteArray × Bool × Bool × ByteArray × ByteArray × Int × Int × Unit), v541 = (.agg #[(.int .u16 x542.1), (.string x542.2.1), (.bool x542.2.2.1), (.bool x542.2.2.2.1), (.string x542.2.2.2.2.1), (.string x542.2.2.2.2.2.1), (.int .i64 x542.2.2.2.2.2.2.1), (.int .u8 x542.2.2.2.2.2.2.2.1)]) ∧
            Wr w488 (blk w.heap.size) ∧
            Nw (w488.setCell (blk w.heap.size) (.int .u16 x542.1)) fun w489 =>
            Wr w489 ((blk w.heap.size).add 1) ∧
            Nw (w489.setCell ((blk w.heap.size).add 1) (.string x542.2.1)) fun w490 =>
            Wr w490 ((blk w.heap.size).add 2) ∧
            Nw (w490.setCell ((blk w.heap.size).add 2) (.bool x542.2.2.1)) fun w491 =>
            Wr w491 ((blk w.heap.size).add 3) ∧
            Nw (w491.setCell ((blk w.heap.size).add 3) (.bool x542.2.2.2.1)) fun w492 =>
            Wr w492 ((blk w.heap.size).add 4) ∧
            Nw (w492.setCell ((blk w.heap.size).add 4) (.string x542.2.2.2.2.1)) fun w493 =>
            Wr w493 ((blk w.heap.size).add 5) ∧
            Nw (w493.setCell ((blk w.heap.size).add 5) (.string x542.2.2.2.2.2.1)) fun w494 =>
            Wr w494 ((blk w.heap.size).add 6) ∧
            Nw (w494.setCell ((blk w.heap.size).add 6) (.int .i64 x542.2.2.2.2.2.2.1)) fun w495 =>
            Wr w495 ((blk w.heap.size).add 7) ∧
            Nw (w495.setCell ((blk w.heap.size).add 7) (.int .u8 x542.2.2.2.2.2.2.2.1)) fun w496 =>
            ldI w496 ((blk w.heap.size).add 0) .u16 fun x543 =>
            ldStr w496 ((blk w.heap.size).add 1) fun x544 =>
            ldB w496 ((blk w.heap.size).add 2) fun x545 =>
            ldB w496 ((blk w.heap.size).add 3) fun x546 =>
            ldStr w496 ((blk w.heap.size).add 4) fun x547 =>
            ldStr w496 ((blk w.heap.size).add 5) fun x548 =>
            ldI w496 ((blk w.heap.size).add 6) .i64 fun x549 =>
            ldI w496 ((blk w.heap.size).add 7) .u8 fun x550 =>
            R (.tuple #[(.agg #[(.int .u16 x543), (.string x544), (.bool x545), (.bool x546), (.string x547), (.string x548), (.int .i64 x549), (.int .u8 x550)]), (.bool true)]) w496)
            (ifB (p0 == (165 : Int))
            (callR Try.prog 100 #[(.int .u16 p0), (.string (ByteArray.mk #[79, 112, 76, 111, 103, 105, 99, 97, 108, 78, 111, 116, 69, 113, 117, 97, 108])), (.bool true), (.bool true), (.string (ByteArray.mk #[105, 105])), (.string (ByteArray.mk #[])), (.int .i64 (0 : Int)), (.int .u8 (8 : Int))] w1 fun v551 w497 =>
            ∃ x552 : (Int × ByteArray × Bool × Bool × ByteArray × ByteArray × Int × Int × Unit), v551 = (.agg #[(.int .u16 x552.1), (.string x552.2.1), (.bool x552.2.2.1), (.bool x552.2.2.2.1), (.string x552.2.2.2.2.1), (.string x552.2.2.2.2.2.1), (.int .i64 x552.2.2.2.2.2.2.1), (.int .u8 x552.2.2.2.2.2.2.2.1)]) ∧
            Wr w497 (blk w.heap.size) ∧
            Nw (w497.setCell (blk w.heap.size) (.int .u16 x552.1)) fun w498 =>
            Wr w498 ((blk w.heap.size).add 1) ∧
            Nw (w498.setCell ((blk w.heap.size).add 1) (.string x552.2.1)) fun w499 =>
            Wr w499 ((blk w.heap.size).add 2) ∧
            Nw (w499.setCell ((blk w.heap.size).add 2) (.bool x552.2.2.1)) fun w500 =>
            Wr w500 ((blk w.heap.size).add 3) ∧
            Nw (w500.setCell ((blk w.heap.size).add 3) (.bool x552.2.2.2.1)) fun w501 =>
            Wr w501 ((blk w.heap.size).add 4) ∧
            Nw (w501.setCell ((blk w.heap.size).add 4) (.string x552.2.2.2.2.1)) fun w502 =>
            Wr w502 ((blk w.heap.size).add 5) ∧
            Nw (w502.setCell ((blk w.heap.size).add 5) (.string x552.2.2.2.2.2.1)) fun w503 =>
            Wr w503 ((blk w.heap.size).add 6) ∧
            Nw (w503.setCell ((blk w.heap.size).add 6) (.int .i64 x552.2.2.2.2.2.2.1)) fun w504 =>
            Wr w504 ((blk w.heap.size).add 7) ∧
            Nw (w504.setCell ((blk w.heap.size).add 7) (.int .u8 x552.2.2.2.2.2.2.2.1)) fun w505 =>
            ldI w505 ((blk w.heap.size).add 0) .u16 fun x553 =>
            ldStr w505 ((blk w.heap.size).add 1) fun x554 =>
            ldB w505 ((blk w.heap.size).add 2) fun x555 =>
            ldB w505 ((blk w.heap.size).add 3) fun x556 =>
            ldStr w505 ((blk w.heap.size).add 4) fun x557 =>
            ldStr w505 ((blk w.heap.size).add 5) fun x558 =>
            ldI w505 ((blk w.heap.size).add 6) .i64 fun x559 =>
            ldI w505 ((blk w.heap.size).add 7) .u8 fun x560 =>
            R (.tuple #[(.agg #[(.int .u16 x553), (.string x554), (.bool x555), (.bool x556), (.string x557), (.string x558), (.int .i64 x559), (.int .u8 x560)]), (.bool true)]) w505)
            (ifB (p0 == (166 : Int))
            (callR Try.prog 100 #[(.int .u16 p0), (.string (ByteArray.mk #[79, 112, 76, 111, 103, 105, 99, 97, 108, 79, 114])), (.bool true), (.bool true), (.string (ByteArray.mk #[105, 105])), (.string (ByteArray.mk #[])), (.int .i64 (0 : Int)), (.int .u8 (8 : Int))] w1 fun v561 w506 =>
            ∃ x562 : (Int × ByteArray × Bool × Bool × ByteArray × ByteArray × Int × Int × Unit), v561 = (.agg #[(.int .u16 x562.1), (.string x562.2.1), (.bool x562.2.2.1), (.bool x562.2.2.2.1), (.string x562.2.2.2.2.1), (.string x562.2.2.2.2.2.1), (.int .i64 x562.2.2.2.2.2.2.1), (.int .u8 x562.2.2.2.2.2.2.2.1)]) ∧
            Wr w506 (blk w.heap.size) ∧
            Nw (w506.setCell (blk w.heap.size) (.int .u16 x562.1)) fun w507 =>
            Wr w507 ((blk w.heap.size).add 1) ∧
            Nw (w507.setCell ((blk w.heap.size).add 1) (.string x562.2.1)) fun w508 =>
            Wr w508 ((blk w.heap.size).add 2) ∧
            Nw (w508.setCell ((blk w.heap.size).add 2) (.bool x562.2.2.1)) fun w509 =>
            Wr w509 ((blk w.heap.size).add 3) ∧
            Nw (w509.setCell ((blk w.heap.size).add 3) (.bool x562.2.2.2.1)) fun w510 =>
            Wr w510 ((blk w.heap.size).add 4) ∧
            Nw (w510.setCell ((blk w.heap.size).add 4) (.string x562.2.2.2.2.1)) fun w511 =>
            Wr w511 ((blk w.heap.size).add 5) ∧
            Nw (w511.setCell ((blk w.heap.size).add 5) (.string x562.2.2.2.2.2.1)) fun w512 =>
            Wr w512 ((blk w.heap.size).add 6) ∧
            Nw (w512.setCell ((blk w.heap.size).add 6) (.int .i64 x562.2.2.2.2.2.2.1)) fun w513 =>
            Wr w513 ((blk w.heap.size).add 7) ∧
            Nw (w513.setCell ((blk w.heap.size).add 7) (.int .u8 x562.2.2.2.2.2.2.2.1)) fun w514 =>
            ldI w514 ((blk w.heap.size).add 0) .u16 fun x563 =>
            ldStr w514 ((blk w.heap.size).add 1) fun x564 =>
            ldB w514 ((blk w.heap.size).add 2) fun x565 =>
            ldB w514 ((blk w.heap.size).add 3) fun x566 =>
            ldStr w514 ((blk w.heap.size).add 4) fun x567 =>
            ldStr w514 ((blk w.heap.size).add 5) fun x568 =>
            ldI w514 ((blk w.heap.size).add 6) .i64 fun x569 =>
            ldI w514 ((blk w.heap.size).add 7) .u8 fun x570 =>
            R (.tuple #[(.agg #[(.int .u16 x563), (.string x564), (.bool x565), (.bool x566), (.string x567), (.string x568), (.int .i64 x569), (.int .u8 x570)]), (.bool true)]) w514)
            (ifB (p0 == (167 : Int))
            (callR Try.prog 100 #[(.int .u16 p0), (.string (ByteArray.mk #[79, 112, 76, 111, 103, 105, 99, 97, 108, 65, 110, 100])), (.bool true), (.bool true), (.string (ByteArray.mk #[105, 105])), (.string (ByteArray.mk #[])), (.int .i64 (0 : Int)), (.int .u8 (8 : Int))] w1 fun v571 w515 =>
            ∃ x572 : (Int × ByteArray × Bool × Bool × ByteArray × ByteArray × Int × Int × Unit), v571 = (.agg #[(.int .u16 x572.1), (.string x572.2.1), (.bool x572.2.2.1), (.bool x572.2.2.2.1), (.string x572.2.2.2.2.1), (.string x572.2.2.2.2.2.1), (.int .i64 x572.2.2.2.2.2.2.1), (.int .u8 x572.2.2.2.2.2.2.2.1)]) ∧
            Wr w515 (blk w.heap.size) ∧
            Nw (w515.setCell (blk w.heap.size) (.int .u16 x572.1)) fun w516 =>
            Wr w516 ((blk w.heap.size).add 1) ∧
            Nw (w516.setCell ((blk w.heap.size).add 1) (.string x572.2.1)) fun w517 =>
            Wr w517 ((blk w.heap.size).add 2) ∧
            Nw (w517.setCell ((blk w.heap.size).add 2) (.bool x572.2.2.1)) fun w518 =>
            Wr w518 ((blk w.heap.size).add 3) ∧
            Nw (w518.setCell ((blk w.heap.size).add 3) (.bool x572.2.2.2.1)) fun w519 =>
            Wr w519 ((blk w.heap.size).add 4) ∧
            Nw (w519.setCell ((blk w.heap.size).add 4) (.string x572.2.2.2.2.1)) fun w520 =>
            Wr w520 ((blk w.heap.size).add 5) ∧
            Nw (w520.setCell ((blk w.heap.size).add 5) (.string x572.2.2.2.2.2.1)) fun w521 =>
            Wr w521 ((blk w.heap.size).add 6) ∧
            Nw (w521.setCell ((blk w.heap.size).add 6) (.int .i64 x572.2.2.2.2.2.2.1)) fun w522 =>
            Wr w522 ((blk w.heap.size).add 7) ∧
            Nw (w522.setCell ((blk w.heap.size).add 7) (.int .u8 x572.2.2.2.2.2.2.2.1)) fun w523 =>
            ldI w523 ((blk w.heap.size).add 0) .u16 fun x573 =>
            ldStr w523 ((blk w.heap.size).add 1) fun x574 =>
            ldB w523 ((blk w.heap.size).add 2) fun x575 =>
            ldB w523 ((blk w.heap.size).add 3) fun x576 =>
            ldStr w523 ((blk w.heap.size).add 4) fun x577 =>
            ldStr w523 ((blk w.heap.size).add 5) fun x578 =>
            ldI w523 ((blk w.heap.size).add 6) .i64 fun x579 =>
            ldI w523 ((blk w.heap.size).add 7) .u8 fun x580 =>
            R (.tuple #[(.agg #[(.int .u16 x573), (.string x574), (.bool x575), (.bool x576), (.string x577), (.string x578), (.int .i64 x579), (.int .u8 x580)]), (.bool true)]) w523)
            (ifB (p0 == (168 : Int))
            (callR Try.prog 100 #[(.int .u16 p0), (.string (ByteArray.mk #[79, 112, 76, 111, 103, 105, 99, 97, 108, 78, 111, 116])), (.bool true), (.bool true), (.string (ByteArray.mk #[105])), (.string (ByteArray.mk #[])), (.int .i64 (0 : Int)), (.int .u8 (8 : Int))] w1 fun v581 w524 =>
            ∃ x582 : (Int × ByteArray × Bool × Bool × ByteArray × ByteArray × Int × Int × Unit), v581 = (.agg #[(.int .u16 x582.1), (.string x582.2.1), (.bool x582.2.2.1), (.bool x582.2.2.2.1), (.string x582.2.2.2.2.1), (.string x582.2.2.2.2.2.1), (.int .i64 x582.2.2.2.2.2.2.1), (.int .u8 x582.2.2.2.2.2.2.2.1)]) ∧
            Wr w524 (blk w.heap.size) ∧
            Nw (w524.setCell (blk w.heap.size) (.int .u16 x582.1)) fun w525 =>
            Wr w525 ((blk w.heap.size).add 1) ∧
            Nw (w525.setCell ((blk w.heap.size).add 1) (.string x582.2.1)) fun w526 =>
            Wr w526 ((blk w.heap.size).add 2) ∧
            Nw (w526.setCell ((blk w.heap.size).add 2) (.bool x582.2.2.1)) fun w527 =>
            Wr w527 ((blk w.heap.size).add 3) ∧
            Nw (w527.setCell ((blk w.heap.size).add 3) (.bool x582.2.2.2.1)) fun w528 =>
            Wr w528 ((blk w.heap.size).add 4) ∧
            Nw (w528.setCell ((blk w.heap.size).add 4) (.string x582.2.2.2.2.1)) fun w529 =>
            Wr w529 ((blk w.heap.size).add 5) ∧
            Nw (w529.setCell ((blk w.heap.size).add 5) (.string x582.2.2.2.2.2.1)) fun w530 =>
            Wr w530 ((blk w.heap.size).add 6) ∧
            Nw (w530.setCell ((blk w.heap.size).add 6) (.int .i64 x582.2.2.2.2.2.2.1)) fun w531 =>
            Wr w531 ((blk w.heap.size).add 7) ∧
            Nw (w531.setCell ((blk w.heap.size).add 7) (.int .u8 x582.2.2.2.2.2.2.2.1)) fun w532 =>
            ldI w532 ((blk w.heap.size).add 0) .u16 fun x583 =>
            ldStr w532 ((blk w.heap.size).add 1) fun x584 =>
            ldB w532 ((blk w.heap.size).add 2) fun x585 =>
            ldB w532 ((blk w.heap.size).add 3) fun x586 =>
            ldStr w532 ((blk w.heap.size).add 4) fun x587 =>
            ldStr w532 ((blk w.heap.size).add 5) fun x588 =>
            ldI w532 ((blk w.heap.size).add 6) .i64 fun x589 =>
            ldI w532 ((blk w.heap.size).add 7) .u8 fun x590 =>
            R (.tuple #[(.agg #[(.int .u16 x583), (.string x584), (.bool x585), (.bool x586), (.string x587), (.string x588), (.int .i64 x589), (.int .u8 x590)]), (.bool true)]) w532)
            (ifB (p0 == (169 : Int))
            (callR Try.prog 100 #[(.int .u16 p0), (.string (ByteArray.mk #[79, 112, 83, 101, 108, 101, 99, 116])), (.bool true), (.bool true), (.string (ByteArray.mk #[105, 105, 105])), (.string (ByteArray.mk #[])), (.int .i64 (0 : Int)), (.int .u8 (8 : Int))] w1 fun v591 w533 =>
            ∃ x592 : (Int × ByteArray × Bool × Bool × ByteArray × ByteArray × Int × Int × Unit), v591 = (.agg #[(.int .u16 x592.1), (.string x592.2.1), (.bool x592.2.2.1), (.bool x592.2.2.2.1), (.string x592.2.2.2.2.1), (.string x592.2.2.2.2.2.1), (.int .i64 x592.2.2.2.2.2.2.1), (.int .u8 x592.2.2.2.2.2.2.2.1)]) ∧
            Wr w533 (blk w.heap.size) ∧
            Nw (w533.setCell (blk w.heap.size) (.int .u16 x592.1)) fun w534 =>
            Wr w534 ((blk w.heap.size).add 1) ∧
            Nw (w534.setCell ((blk w.heap.size).add 1) (.string x592.2.1)) fun w535 =>
            Wr w535 ((blk w.heap.size).add 2) ∧
            Nw (w535.setCell ((blk w.heap.size).add 2) (.bool x592.2.2.1)) fun w536 =>
            Wr w536 ((blk w.heap.size).add 3) ∧
            Nw (w536.setCell ((blk w.heap.size).add 3) (.bool x592.2.2.2.1)) fun w537 =>
            Wr w537 ((blk w.heap.size).add 4) ∧
            Nw (w537.setCell ((blk w.heap.size).add 4) (.string x592.2.2.2.2.1)) fun w538 =>
            Wr w538 ((blk w.heap.size).add 5) ∧
            Nw (w538.setCell ((blk w.heap.size).add 5) (.string x592.2.2.2.2.2.1)) fun w539 =>
            Wr w539 ((blk w.heap.size).add 6) ∧
            Nw (w539.setCell ((blk w.heap.size).add 6) (.int .i64 x592.2.2.2.2.2.2.1)) fun w540 =>
            Wr w540 ((blk w.heap.size).add 7) ∧
            Nw (w540.setCell ((blk w.heap.size).add 7) (.int .u8 x592.2.2.2.2.2.2.2.1)) fun w541 =>
            ldI w541 ((blk w.heap.size).add 0) .u16 fun x593 =>
            ldStr w541 ((blk w.heap.size).add 1) fun x594 =>
            ldB w541 ((blk w.heap.size).add 2) fun x595 =>
            ldB w541 ((blk w.heap.size).add 3) fun x596 =>
            ldStr w541 ((blk w.heap.size).add 4) fun x597 =>
            ldStr w541 ((blk w.heap.size).add 5) fun x598 =>
            ldI w541 ((blk w.heap.size).add 6) .i64 fun x599 =>
            ldI w541 ((blk w.heap.size).add 7) .u8 fun x600 =>
            R (.tuple #[(.agg #[(.int .u16 x593), (.string x594), (.bool x595), (.bool x596), (.string x597), (.string x598), (.int .i64 x599), (.int .u8 x600)]), (.bool true)]) w541)
            (ifB (p0 == (170 : Int))
            (callR Try.prog 100 #[(.int .u16 p0), (.string (ByteArray.mk #[79, 112, 73, 69, 113, 117, 97, 108])), (.bool true), (.bool true), (.string (ByteArray.mk #[105, 105])), (.string (ByteArray.mk #[])), (.int .i64 (0 : Int)), (.int .u8 (8 : Int))] w1 fun v601 w542 =>
            ∃ x602 : (Int × ByteArray × Bool × Bool × ByteArray × ByteArray × Int × Int × Unit), v601 = (.agg #[(.int .u16 x602.1), (.string x602.2.1), (.bool x602.2.2.1), (.bool x602.2.2.2.1), (.string x602.2.2.2.2.1), (.string x602.2.2.2.2.2.1), (.int .i64 x602.2.2.2.2.2.2.1), (.int .u8 x602.2.2.2.2.2.2.2.1)]) ∧
            Wr w542 (blk w.heap.size) ∧
            Nw (w542.setCell (blk w.heap.size) (.int .u16 x602.1)) fun w543 =>
            Wr w543 ((blk w.heap.size).add 1) ∧
            Nw (w543.setCell ((blk w.heap.size).add 1) (.string x602.2.1)) fun w544 =>
            Wr w544 ((blk w.heap.size).add 2) ∧
            Nw (w544.setCell ((blk w.heap.size).add 2) (.bool x602.2.2.1)) fun w545 =>
            Wr w545 ((blk w.heap.size).add 3) ∧
            Nw (w545.setCell ((blk w.heap.size).add 3) (.bool x602.2.2.2.1)) fun w546 =>
            Wr w546 ((blk w.heap.size).add 4) ∧
            Nw (w546.setCell ((blk w.heap.size).add 4) (.string x602.2.2.2.2.1)) fun w547 =>
            Wr w547 ((blk w.heap.size).add 5) ∧
            Nw (w547.setCell ((blk w.heap.size).add 5) (.string x602.2.2.2.2.2.1)) fun w548 =>
            Wr w548 ((blk w.heap.size).add 6) ∧
            Nw (w548.setCell ((blk w.heap.size).add 6) (.int .i64 x602.2.2.2.2.2.2.1)) fun w549 =>
            Wr w549 ((blk w.heap.size).add 7) ∧
            Nw (w549.setCell ((blk w.heap.size).add 7) (.int .u8 x602.2.2.2.2.2.2.2.1)) fun w550 =>
            ldI w550 ((blk w.heap.size).add 0) .u16 fun x603 =>
            ldStr w550 ((blk w.heap.size).add 1) fun x604 =>
            ldB w550 ((blk w.heap.size).add 2) fun x605 =>
            ldB w550 ((blk w.heap.size).add 3) fun x606 =>
            ldStr w550 ((blk w.heap.size).add 4) fun x607 =>
            ldStr w550 ((blk w.heap.size).add 5) fun x608 =>
            ldI w550 ((blk w.heap.size).add 6) .i64 fun x609 =>
            ldI w550 ((blk w.heap.size).add 7) .u8 fun x610 =>
            R (.tuple #[(.agg #[(.int .u16 x603), (.string x604), (.bool x605), (.bool x606), (.string x607), (.string x608), (.int .i64 x609), (.int .u8 x610)]), (.bool true)]) w550)
            (ifB (p0 == (171 : Int))
            (callR Try.prog 100 #[(.int .u16 p0), (.string (ByteArray.mk #[79, 112, 73, 78, 111, 116, 69, 113, 117, 97, 108])), (.bool true), (.bool true), (.string (ByteArray.mk #[105, 105])), (.string (ByteArray.mk #[])), (.int .i64 (0 : Int)), (.int .u8 (8 : Int))] w1 fun v611 w551 =>
            ∃ x612 : (Int × ByteArray × Bool × Bool × ByteArray × ByteArray × Int × Int × Unit), v611 = (.agg #[(.int .u16 x612.1), (.string x612.2.1), (.bool x612.2.2.1), (.bool x612.2.2.2.1), (.string x612.2.2.2.2.1), (.string x612.2.2.2.2.2.1), (.int .i64 x612.2.2.2.2.2.2.1), (.int .u8 x612.2.2.2.2.2.2.2.1)]) ∧
            Wr w551 (blk w.heap.size) ∧
            Nw (w551.setCell (blk w.heap.size) (.int .u16 x612.1)) fun w552 =>
            Wr w552 ((blk w.heap.size).add 1) ∧
            Nw (w552.setCell ((blk w.heap.size).add 1) (.string x612.2.1)) fun w553 =>
            Wr w553 ((blk w.heap.size).add 2) ∧
            Nw (w553.setCell ((blk w.heap.size).add 2) (.bool x612.2.2.1)) fun w554 =>
            Wr w554 ((blk w.heap.size).add 3) ∧
            Nw (w554.setCell ((blk w.heap.size).add 3) (.bool x612.2.2.2.1)) fun w555 =>
            Wr w555 ((blk w.heap.size).add 4) ∧
            Nw (w555.setCell ((blk w.heap.size).add 4) (.string x612.2.2.2.2.1)) fun w556 =>
            Wr w556 ((blk w.heap.size).add 5) ∧
            Nw (w556.setCell ((blk w.heap.size).add 5) (.string x612.2.2.2.2.2.1)) fun w557 =>
            Wr w557 ((blk w.heap.size).add 6) ∧
            Nw (w557.setCell ((blk w.heap.size).add 6) (.int .i64 x612.2.2.2.2.2.2.1)) fun w558 =>
            Wr w558 ((blk w.heap.size).add 7) ∧
            Nw (w558.setCell ((blk w.heap.size).add 7) (.int .u8 x612.2.2.2.2.2.2.2.1)) fun w559 =>
            ldI w559 ((blk w.heap.size).add 0) .u16 fun x613 =>
            ldStr w559 ((blk w.heap.size).add 1) fun x614 =>
            ldB w559 ((blk w.heap.size).add 2) fun x615 =>
            ldB w559 ((blk w.heap.size).add 3) fun x616 =>
            ldStr w559 ((blk w.heap.size).add 4) fun x617 =>
            ldStr w559 ((blk w.heap.size).add 5) fun x618 =>
            ldI w559 ((blk w.heap.size).add 6) .i64 fun x619 =>
            ldI w559 ((blk w.heap.size).add 7) .u8 fun x620 =>
            R (.tuple #[(.agg #[(.int .u16 x613), (.string x614), (.bool x615), (.bool x616), (.string x617), (.string x618), (.int .i64 x619), (.int .u8 x620)]), (.bool true)]) w559)
            (ifB (p0 == (172 : Int))
            (callR Try.prog 100 #[(.int .u16 p0), (.string (ByteArray.mk #[79, 112, 85, 71, 114, 101, 97, 116, 101, 114, 84, 104, 97, 110])), (.bool true), (.bool true), (.string (ByteArray.mk #[105, 105])), (.string (ByteArray.mk #[])), (.int .i64 (0 : Int)), (.int .u8 (8 : Int))] w1 fun v621 w560 =>
            ∃ x622 : (Int × ByteArray × Bool × Bool × ByteArray × ByteArray × Int × Int × Unit), v621 = (.agg #[(.int .u16 x622.1), (.string x622.2.1), (.bool x622.2.2.1), (.bool x622.2.2.2.1), (.string x622.2.2.2.2.1), (.string x622.2.2.2.2.2.1), (.int .i64 x622.2.2.2.2.2.2.1), (.int .u8 x622.2.2.2.2.2.2.2.1)]) ∧
            Wr w560 (blk w.heap.size) ∧
            Nw (w560.setCell (blk w.heap.size) (.int .u16 x622.1)) fun w561 =>
            Wr w561 ((blk w.heap.size).add 1) ∧
            Nw (w561.setCell ((blk w.heap.size).add 1) (.string x622.2.1)) fun w562 =>
            Wr w562 ((blk w.heap.size).add 2) ∧
            Nw (w562.setCell ((blk w.heap.size).add 2) (.bool x622.2.2.1)) fun w563 =>
            Wr w563 ((blk w.heap.size).add 3) ∧
            Nw (w563.setCell ((blk w.heap.size).add 3) (.bool x622.2.2.2.1)) fun w564 =>
            Wr w564 ((blk w.heap.size).add 4) ∧
            Nw (w564.setCell ((blk w.heap.size).add 4) (.string x622.2.2.2.2.1)) fun w565 =>
            Wr w565 ((blk w.heap.size).add 5) ∧
            Nw (w565.setCell ((blk w.heap.size).add 5) (.string x622.2.2.2.2.2.1)) fun w566 =>
            Wr w566 ((blk w.heap.size).add 6) ∧
            Nw (w566.setCell ((blk w.heap.size).add 6) (.int .i64 x622.2.2.2.2.2.2.1)) fun w567 =>
            Wr w567 ((blk w.heap.size).add 7) ∧
            Nw (w567.setCell ((blk w.heap.size).add 7) (.int .u8 x622.2.2.2.2.2.2.2.1)) fun w568 =>
            ldI w568 ((blk w.heap.size).add 0) .u16 fun x623 =>
            ldStr w568 ((blk w.heap.size).add 1) fun x624 =>
            ldB w568 ((blk w.heap.size).add 2) fun x625 =>
            ldB w568 ((blk w.heap.size).add 3) fun x626 =>
            ldStr w568 ((blk w.heap.size).add 4) fun x627 =>
            ldStr w568 ((blk w.heap.size).add 5) fun x628 =>
            ldI w568 ((blk w.heap.size).add 6) .i64 fun x629 =>
            ldI w568 ((blk w.heap.size).add 7) .u8 fun x630 =>
            R (.tuple #[(.agg #[(.int .u16 x623), (.string x624), (.bool x625), (.bool x626), (.string x627), (.string x628), (.int .i64 x629), (.int .u8 x630)]), (.bool true)]) w568)
            (ifB (p0 == (173 : Int))
            (callR Try.prog 100 #[(.int .u16 p0), (.string (ByteArray.mk #[79, 112, 83, 71, 114, 101, 97, 116, 101, 114, 84, 104, 97, 110])), (.bool true), (.bool true), (.string (ByteArray.mk #[105, 105])), (.string (ByteArray.mk #[])), (.int .i64 (0 : Int)), (.int .u8 (8 : Int))] w1 fun v631 w569 =>
            ∃ x632 : (Int × ByteArray × Bool × Bool × ByteArray × ByteArray × Int × Int × Unit), v631 = (.agg #[(.int .u16 x632.1), (.string x632.2.1), (.bool x632.2.2.1), (.bool x632.2.2.2.1), (.string x632.2.2.2.2.1), (.string x632.2.2.2.2.2.1), (.int .i64 x632.2.2.2.2.2.2.1), (.int .u8 x632.2.2.2.2.2.2.2.1)]) ∧
            Wr w569 (blk w.heap.size) ∧
            Nw (w569.setCell (blk w.heap.size) (.int .u16 x632.1)) fun w570 =>
            Wr w570 ((blk w.heap.size).add 1) ∧
            Nw (w570.setCell ((blk w.heap.size).add 1) (.string x632.2.1)) fun w571 =>
            Wr w571 ((blk w.heap.size).add 2) ∧
            Nw (w571.setCell ((blk w.heap.size).add 2) (.bool x632.2.2.1)) fun w572 =>
            Wr w572 ((blk w.heap.size).add 3) ∧
            Nw (w572.setCell ((blk w.heap.size).add 3) (.bool x632.2.2.2.1)) fun w573 =>
            Wr w573 ((blk w.heap.size).add 4) ∧
            Nw (w573.setCell ((blk w.heap.size).add 4) (.string x632.2.2.2.2.1)) fun w574 =>
            Wr w574 ((blk w.heap.size).add 5) ∧
            Nw (w574.setCell ((blk w.heap.size).add 5) (.string x632.2.2.2.2.2.1)) fun w575 =>
            Wr w575 ((blk w.heap.size).add 6) ∧
            Nw (w575.setCell ((blk w.heap.size).add 6) (.int .i64 x632.2.2.2.2.2.2.1)) fun w576 =>
            Wr w576 ((blk w.heap.size).add 7) ∧
            Nw (w576.setCell ((blk w.heap.size).add 7) (.int .u8 x632.2.2.2.2.2.2.2.1)) fun w577 =>
            ldI w577 ((blk w.heap.size).add 0) .u16 fun x633 =>
            ldStr w577 ((blk w.heap.size).add 1) fun x634 =>
            ldB w577 ((blk w.heap.size).add 2) fun x635 =>
            ldB w577 ((blk w.heap.size).add 3) fun x636 =>
            ldStr w577 ((blk w.heap.size).add 4) fun x637 =>
            ldStr w577 ((blk w.heap.size).add 5) fun x638 =>
            ldI w577 ((blk w.heap.size).add 6) .i64 fun x639 =>
            ldI w577 ((blk w.heap.size).add 7) .u8 fun x640 =>
            R (.tuple #[(.agg #[(.int .u16 x633), (.string x634), (.bool x635), (.bool x636), (.string x637), (.string x638), (.int .i64 x639), (.int .u8 x640)]), (.bool true)]) w577)
            (ifB (p0 == (174 : Int))
            (callR Try.prog 100 #[(.int .u16 p0), (.string (ByteArray.mk #[79, 112, 85, 71, 114, 101, 97, 116, 101, 114, 84, 104, 97, 110, 69, 113, 117, 97, 108])), (.bool true), (.bool true), (.string (ByteArray.mk #[105, 105])), (.string (ByteArray.mk #[])), (.int .i64 (0 : Int)), (.int .u8 (8 : Int))] w1 fun v641 w578 =>
            ∃ x642 : (Int × ByteArray × Bool × Bool × ByteArray × ByteArray × Int × Int × Unit), v641 = (.agg #[(.int .u16 x642.1), (.string x642.2.1), (.bool x642.2.2.1), (.bool x642.2.2.2.1), (.string x642.2.2.2.2.1), (.string x642.2.2.2.2.2.1), (.int .i64 x642.2.2.2.2.2.2.1), (.int .u8 x642.2.2.2.2.2.2.2.1)]) ∧
            Wr w578 (blk w.heap.size) ∧
            Nw (w578.setCell (blk w.heap.size) (.int .u16 x642.1)) fun w579 =>
            Wr w579 ((blk w.heap.size).add 1) ∧
            Nw (w579.setCell ((blk w.heap.size).add 1) (.string x642.2.1)) fun w580 =>
            Wr w580 ((blk w.heap.size).add 2) ∧
            Nw (w580.setCell ((blk w.heap.size).add 2) (.bool x642.2.2.1)) fun w581 =>
            Wr w581 ((blk w.heap.size).add 3) ∧
            Nw (w581.setCell ((blk w.heap.size).add 3) (.bool x642.2.2.2.1)) fun w582 =>
            Wr w582 ((blk w.heap.size).add 4) ∧
            Nw (w582.setCell ((blk w.heap.size).add 4) (.string x642.2.2.2.2.1)) fun w583 =>
            Wr w583 ((blk w.heap.size).add 5) ∧
            Nw (w583.setCell ((blk w.heap.size).add 5) (.string x642.2.2.2.2.2.1)) fun w584 =>
            Wr w584 ((blk w.heap.size).add 6) ∧
            Nw (w584.setCell ((blk w.heap.size).add 6) (.int .i64 x642.2.2.2.2.2.2.1)) fun w585 =>
            Wr w585 ((blk w.heap.size).add 7) ∧
            Nw (w585.setCell ((blk w.heap.size).add 7) (.int .u8 x642.2.2.2.2.2.2.2.1)) fun w586 =>
            ldI w586 ((blk w.heap.size).add 0) .u16 fun x643 =>
            ldStr w586 ((blk w.heap.size).add 1) fun x644 =>
            ldB w586 ((blk w.heap.size).add 2) fun x645 =>
            ldB w586 ((blk w.heap.size).add 3) fun x646 =>
            ldStr w586 ((blk w.heap.size).add 4) fun x647 =>
            ldStr w586 ((blk w.heap.size).add 5) fun x648 =>
            ldI w586 ((blk w.heap.size).add 6) .i64 fun x649 =>
            ldI w586 ((blk w.heap.size).add 7) .u8 fun x650 =>
            R (.tuple #[(.agg #[(.int .u16 x643), (.string x644), (.bool x645), (.bool x646), (.string x647), (.string x648), (.int .i64 x649), (.int .u8 x650)]), (.bool true)]) w586)
            (ifB (p0 == (175 : Int))
            (callR Try.prog 100 #[(.int .u16 p0), (.string (ByteArray.mk #[79, 112, 83, 71, 114, 101, 97, 116, 101, 114, 84, 104, 97, 110, 69, 113, 117, 97, 108])), (.bool true), (.bool true), (.string (ByteArray.mk #[105, 105])), (.string (ByteArray.mk #[])), (.int .i64 (0 : Int)), (.int .u8 (8 : Int))] w1 fun v651 w587 =>
            ∃ x652 : (Int × ByteArray × Bool × Bool × ByteArray × ByteArray × Int × Int × Unit), v651 = (.agg #[(.int .u16 x652.1), (.string x652.2.1), (.bool x652.2.2.1), (.bool x652.2.2.2.1), (.string x652.2.2.2.2.1), (.string x652.2.2.2.2.2.1), (.int .i64 x652.2.2.2.2.2.2.1), (.int .u8 x652.2.2.2.2.2.2.2.1)]) ∧
            Wr w587 (blk w.heap.size) ∧
            Nw (w587.setCell (blk w.heap.size) (.int .u16 x652.1)) fun w588 =>
            Wr w588 ((blk w.heap.size).add 1) ∧
            Nw (w588.setCell ((blk w.heap.size).add 1) (.string x652.2.1)) fun w589 =>
            Wr w589 ((blk w.heap.size).add 2) ∧
            Nw (w589.setCell ((blk w.heap.size).add 2) (.bool x652.2.2.1)) fun w590 =>
            Wr w590 ((blk w.heap.size).add 3) ∧
            Nw (w590.setCell ((blk w.heap.size).add 3) (.bool x652.2.2.2.1)) fun w591 =>
            Wr w591 ((blk w.heap.size).add 4) ∧
            Nw (w591.setCell ((blk w.heap.size).add 4) (.string x652.2.2.2.2.1)) fun w592 =>
            Wr w592 ((blk w.heap.size).add 5) ∧
            Nw (w592.setCell ((blk w.heap.size).add 5) (.string x652.2.2.2.2.2.1)) fun w593 =>
            Wr w593 ((blk w.heap.size).add 6) ∧
            Nw (w593.setCell ((blk w.heap.size).add 6) (.int .i64 x652.2.2.2.2.2.2.1)) fun w594 =>
            Wr w594 ((blk w.heap.size).add 7) ∧
            Nw (w594.setCell ((blk w.heap.size).add 7) (.int .u8 x652.2.2.2.2.2.2.2.1)) fun w595 =>
            ldI w595 ((blk w.heap.size).add 0) .u16 fun x653 =>
            ldStr w595 ((blk w.heap.size).add 1) fun x654 =>
            ldB w595 ((blk w.heap.size).add 2) fun x655 =>
            ldB w595 ((blk w.heap.size).add 3) fun x656 =>
            ldStr w595 ((blk w.heap.size).add 4) fun x657 =>
            ldStr w595 ((blk w.heap.size).add 5) fun x658 =>
            ldI w595 ((blk w.heap.size).add 6) .i64 fun x659 =>
            ldI w595 ((blk w.heap.size).add 7) .u8 fun x660 =>
            R (.tuple #[(.agg #[(.int .u16 x653), (.string x654), (.bool x655), (.bool x656), (.string x657), (.string x658), (.int .i64 x659), (.int .u8 x660)]), (.bool true)]) w595)
            (ifB (p0 == (176 : Int))
            (callR Try.prog 100 #[(.int .u16 p0), (.string (ByteArray.mk #[79, 112, 85, 76, 101, 115, 115, 84, 104, 97, 110])), (.bool true), (.bool true), (.string (ByteArray.mk #[105, 105])), (.string (ByteArray.mk #[])), (.int .i64 (0 : Int)), (.int .u8 (8 : Int))] w1 fun v661 w596 =>
            ∃ x662 : (Int × ByteArray × Bool × Bool × ByteArray × ByteArray × Int × Int × Unit), v661 = (.agg #[(.int .u16 x662.1), (.string x662.2.1), (.bool x662.2.2.1), (.bool x662.2.2.2.1), (.string x662.2.2.2.2.1), (.string x662.2.2.2.2.2.1), (.int .i64 x662.2.2.2.2.2.2.1), (.int .u8 x662.2.2.2.2.2.2.2.1)]) ∧
            Wr w596 (blk w.heap.size) ∧
            Nw (w596.setCell (blk w.heap.size) (.int .u16 x662.1)) fun w597 =>
            Wr w597 ((blk w.heap.size).add 1) ∧
            Nw (w597.setCell ((blk w.heap.size).add 1) (.string x662.2.1)) fun w598 =>
            Wr w598 ((blk w.heap.size).add 2) ∧
            Nw (w598.setCell ((blk w.heap.size).add 2) (.bool x662.2.2.1)) fun w599 =>
            Wr w599 ((blk w.heap.size).add 3) ∧
            Nw (w599.setCell ((blk w.heap.size).add 3) (.bool x662.2.2.2.1)) fun w600 =>
            Wr w600 ((blk w.heap.size).add 4) ∧
            Nw (w600.setCell ((blk w.heap.size).add 4) (.string x662.2.2.2.2.1)) fun w601 =>
            Wr w601 ((blk w.heap.size).add 5) ∧
            Nw (w601.setCell ((blk w.heap.size).add 5) (.string x662.2.2.2.2.2.1)) fun w602 =>
            Wr w602 ((blk w.heap.size).add 6) ∧
            Nw (w602.setCell ((blk w.heap.size).add 6) (.int .i64 x662.2.2.2.2.2.2.1)) fun w603 =>
            Wr w603 ((blk w.heap.size).add 7) ∧
            Nw (w603.setCell ((blk w.heap.size).add 7) (.int .u8 x662.2.2.2.2.2.2.2.1)) fun w604 =>
            ldI w604 ((blk w.heap.size).add 0) .u16 fun x663 =>
            ldStr w604 ((blk w.heap.size).add 1) fun x664 =>
            ldB w604 ((blk w.heap.size).add 2) fun x665 =>
            ldB w604 ((blk w.heap.size).add 3) fun x666 =>
            ldStr w604 ((blk w.heap.size).add 4) fun x667 =>
            ldStr w604 ((blk w.heap.size).add 5) fun x668 =>
            ldI w604 ((blk w.heap.size).add 6) .i64 fun x669 =>
            ldI w604 ((blk w.heap.size).add 7) .u8 fun x670 =>
            R (.tuple #[(.agg #[(.int .u16 x663), (.string x664), (.bool x665), (.bool x666), (.string x667), (.string x668), (.int .i64 x669), (.int .u8 x670)]), (.bool true)]) w604)
            (ifB (p0 == (177 : Int))
            (callR Try.prog 100 #[(.int .u16 p0), (.string (ByteArray.mk #[79, 112, 83, 76, 101, 115, 115, 84, 104, 97, 110])), (.bool true), (.bool true), (.string (ByteArray.mk #[105, 105])), (.string (ByteArray.mk #[])), (.int .i64 (0 : Int)), (.int .u8 (8 : Int))] w1 fun v671 w605 =>
            ∃ x672 : (Int × ByteArray × Bool × Bool × ByteArray × ByteArray × Int × Int × Unit), v671 = (.agg #[(.int .u16 x672.1), (.string x672.2.1), (.bool x672.2.2.1), (.bool x672.2.2.2.1), (.string x672.2.2.2.2.1), (.string x672.2.2.2.2.2.1), (.int .i64 x672.2.2.2.2.2.2.1), (.int .u8 x672.2.2.2.2.2.2.2.1)]) ∧
            Wr w605 (blk w.heap.size) ∧
            Nw (w605.setCell (blk w.heap.size) (.int .u16 x672.1)) fun w606 =>
            Wr w606 ((blk w.heap.size).add 1) ∧
            Nw (w606.setCell ((blk w.heap.size).add 1) (.string x672.2.1)) fun w607 =>
            Wr w607 ((blk w.heap.size).add 2) ∧
            Nw (w607.setCell ((blk w.heap.size).add 2) (.bool x672.2.2.1)) fun w608 =>
            Wr w608 ((blk w.heap.size).add 3) ∧
            Nw (w608.setCell ((blk w.heap.size).add 3) (.bool x672.2.2.2.1)) fun w609 =>
            Wr w609 ((blk w.heap.size).add 4) ∧
            Nw (w609.setCell ((blk w.heap.size).add 4) (.string x672.2.2.2.2.1)) fun w610 =>
            Wr w610 ((blk w.heap.size).add 5) ∧
            Nw (w610.setCell ((blk w.heap.size).add 5) (.string x672.2.2.2.2.2.1)) fun w611 =>
            Wr w611 ((blk w.heap.size).add 6) ∧
            Nw (w611.setCell ((blk w.heap.size).add 6) (.int .i64 x672.2.2.2.2.2.2.1)) fun w612 =>
            Wr w612 ((blk w.heap.size).add 7) ∧
            Nw (w612.setCell ((blk w.heap.size).add 7) (.int .u8 x672.2.2.2.2.2.2.2.1)) fun w613 =>
            ldI w613 ((blk w.heap.size).add 0) .u16 fun x673 =>
            ldStr w613 ((blk w.heap.size).add 1) fun x674 =>
            ldB w613 ((blk w.heap.size).add 2) fun x675 =>
            ldB w613 ((blk w.heap.size).add 3) fun x676 =>
            ldStr w613 ((blk w.heap.size).add 4) fun x677 =>
            ldStr w613 ((blk w.heap.size).add 5) fun x678 =>
            ldI w613 ((blk w.heap.size).add 6) .i64 fun x679 =>
            ldI w613 ((blk w.heap.size).add 7) .u8 fun x680 =>
            R (.tuple #[(.agg #[(.int .u16 x673), (.string x674), (.bool x675), (.bool x676), (.string x677), (.string x678), (.int .i64 x679), (.int .u8 x680)]), (.bool true)]) w613)
            (ifB (p0 == (178 : Int))
            (callR Try.prog 100 #[(.int .u16 p0), (.string (ByteArray.mk #[79, 112, 85, 76, 101, 115, 115, 84, 104, 97, 110, 69, 113, 117, 97, 108])), (.bool true), (.bool true), (.string (ByteArray.mk #[105, 105])), (.string (ByteArray.mk #[])), (.int .i64 (0 : Int)), (.int .u8 (8 : Int))] w1 fun v681 w614 =>
            ∃ x682 : (Int × ByteArray × Bool × Bool × ByteArray × ByteArray × Int × Int × Unit), v681 = (.agg #[(.int .u16 x682.1), (.string x682.2.1), (.bool x682.2.2.1), (.bool x682.2.2.2.1), (.string x682.2.2.2.2.1), (.string x682.2.2.2.2.2.1), (.int .i64 x682.2.2.2.2.2.2.1), (.int .u8 x682.2.2.2.2.2.2.2.1)]) ∧
            Wr w614 (blk w.heap.size) ∧
            Nw (w614.setCell (blk w.heap.size) (.int .u16 x682.1)) fun w615 =>
            Wr w615 ((blk w.heap.size).add 1) ∧
            Nw (w615.setCell ((blk w.heap.size).add 1) (.string x682.2.1)) fun w616 =>
            Wr w616 ((blk w.heap.size).add 2) ∧
            Nw (w616.setCell ((blk w.heap.size).add 2) (.bool x682.2.2.1)) fun w617 =>
            Wr w617 ((blk w.heap.size).add 3) ∧
            Nw (w617.setCell ((blk w.heap.size).add 3) (.bool x682.2.2.2.1)) fun w618 =>
            Wr w618 ((blk w.heap.size).add 4) ∧
            Nw (w618.setCell ((blk w.heap.size).add 4) (.string x682.2.2.2.2.1)) fun w619 =>
            Wr w619 ((blk w.heap.size).add 5) ∧
            Nw (w619.setCell ((blk w.heap.size).add 5) (.string x682.2.2.2.2.2.1)) fun w620 =>
            Wr w620 ((blk w.heap.size).add 6) ∧
            Nw (w620.setCell ((blk w.heap.size).add 6) (.int .i64 x682.2.2.2.2.2.2.1)) fun w621 =>
            Wr w621 ((blk w.heap.size).add 7) ∧
            Nw (w621.setCell ((blk w.heap.size).add 7) (.int .u8 x682.2.2.2.2.2.2.2.1)) fun w622 =>
            ldI w622 ((blk w.heap.size).add 0) .u16 fun x683 =>
            ldStr w622 ((blk w.heap.size).add 1) fun x684 =>
            ldB w622 ((blk w.heap.size).add 2) fun x685 =>
            ldB w622 ((blk w.heap.size).add 3) fun x686 =>
            ldStr w622 ((blk w.heap.size).add 4) fun x687 =>
            ldStr w622 ((blk w.heap.size).add 5) fun x688 =>
            ldI w622 ((blk w.heap.size).add 6) .i64 fun x689 =>
            ldI w622 ((blk w.heap.size).add 7) .u8 fun x690 =>
            R (.tuple #[(.agg #[(.int .u16 x683), (.string x684), (.bool x685), (.bool x686), (.string x687), (.string x688), (.int .i64 x689), (.int .u8 x690)]), (.bool true)]) w622)
            (ifB (p0 == (179 : Int))
            (callR Try.prog 100 #[(.int .u16 p0), (.string (ByteArray.mk #[79, 112, 83, 76, 101, 115, 115, 84, 104, 97, 110, 69, 113, 117, 97, 108])), (.bool true), (.bool true), (.string (ByteArray.mk #[105, 105])), (.string (ByteArray.mk #[])), (.int .i64 (0 : Int)), (.int .u8 (8 : Int))] w1 fun v691 w623 =>
            ∃ x692 : (Int × ByteArray × Bool × Bool × ByteArray × ByteArray × Int × Int × Unit), v691 = (.agg #[(.int .u16 x692.1), (.string x692.2.1), (.bool x692.2.2.1), (.bool x692.2.2.2.1), (.string x692.2.2.2.2.1), (.string x692.2.2.2.2.2.1), (.int .i64 x692.2.2.2.2.2.2.1), (.int .u8 x692.2.2.2.2.2.2.2.1)]) ∧
            Wr w623 (blk w.heap.size) ∧
            Nw (w623.setCell (blk w.heap.size) (.int .u16 x692.1)) fun w624 =>
            Wr w624 ((blk w.heap.size).add 1) ∧
            Nw (w624.setCell ((blk w.heap.size).add 1) (.string x692.2.1)) fun w625 =>
            Wr w625 ((blk w.heap.size).add 2) ∧
            Nw (w625.setCell ((blk w.heap.size).add 2) (.bool x692.2.2.1)) fun w626 =>
            Wr w626 ((blk w.heap.size).add 3) ∧
            Nw (w626.setCell ((blk w.heap.size).add 3) (.bool x692.2.2.2.1)) fun w627 =>
            Wr w627 ((blk w.heap.size).add 4) ∧
            Nw (w627.setCell ((blk w.heap.size).add 4) (.string x692.2.2.2.2.1)) fun w628 =>
            Wr w628 ((blk w.heap.size).add 5) ∧
            Nw (w628.setCell ((blk w.heap.size).add 5) (.string x692.2.2.2.2.2.1)) fun w629 =>
            Wr w629 ((blk w.heap.size).add 6) ∧
            Nw (w629.setCell ((blk w.heap.size).add 6) (.int .i64 x692.2.2.2.2.2.2.1)) fun w630 =>
            Wr w630 ((blk w.heap.size).add 7) ∧
            Nw (w630.setCell ((blk w.heap.size).add 7) (.int .u8 x692.2.2.2.2.2.2.2.1)) fun w631 =>
            ldI w631 ((blk w.heap.size).add 0) .u16 fun x693 =>
            ldStr w631 ((blk w.heap.size).add 1) fun x694 =>
            ldB w631 ((blk w.heap.size).add 2) fun x695 =>
            ldB w631 ((blk w.heap.size).add 3) fun x696 =>
            ldStr w631 ((blk w.heap.size).add 4) fun x697 =>
            ldStr w631 ((blk w.heap.size).add 5) fun x698 =>
            ldI w631 ((blk w.heap.size).add 6) .i64 fun x699 =>
            ldI w631 ((blk w.heap.size).add 7) .u8 fun x700 =>
            R (.tuple #[(.agg #[(.int .u16 x693), (.string x694), (.bool x695), (.bool x696), (.string x697), (.string x698), (.int .i64 x699), (.int .u8 x700)]), (.bool true)]) w631)
            (ifB (p0 == (194 : Int))
            (callR Try.prog 100 #[(.int .u16 p0), (.string (ByteArray.mk #[79, 112, 83, 104, 105, 102, 116, 82, 105, 103, 104, 116, 76, 111, 103, 105, 99, 97, 108])), (.bool true), (.bool true), (.string (ByteArray.mk #[105, 105])), (.string (ByteArray.mk #[])), (.int .i64 (0 : Int)), (.int .u8 (8 : Int))] w1 fun v701 w632 =>
            ∃ x702 : (Int × ByteArray × Bool × Bool × ByteArray × ByteArray × Int × Int × Unit), v701 = (.agg #[(.int .u16 x702.1), (.string x702.2.1), (.bool x702.2.2.1), (.bool x702.2.2.2.1), (.string x702.2.2.2.2.1), (.string x702.2.2.2.2.2.1), (.int .i64 x702.2.2.2.2.2.2.1), (.int .u8 x702.2.2.2.2.2.2.2.1)]) ∧
            Wr w632 (blk w.heap.size) ∧
            Nw (w632.setCell (blk w.heap.size) (.int .u16 x702.1)) fun w633 =>
            Wr w633 ((blk w.heap.size).add 1) ∧
            Nw (w633.setCell ((blk w.heap.size).add 1) (.string x702.2.1)) fun w634 =>
            Wr w634 ((blk w.heap.size).add 2) ∧
            Nw (w634.setCell ((blk w.heap.size).add 2) (.bool x702.2.2.1)) fun w635 =>
            Wr w635 ((blk w.heap.size).add 3) ∧
            Nw (w635.setCell ((blk w.heap.size).add 3) (.bool x702.2.2.2.1)) fun w636 =>
            Wr w636 ((blk w.heap.size).add 4) ∧
            Nw (w636.setCell ((blk w.heap.size).add 4) (.string x702.2.2.2.2.1)) fun w637 =>
            Wr w637 ((blk w.heap.size).add 5) ∧
            Nw (w637.setCell ((blk w.heap.size).add 5) (.string x702.2.2.2.2.2.1)) fun w638 =>
            Wr w638 ((blk w.heap.size).add 6) ∧
            Nw (w638.setCell ((blk w.heap.size).add 6) (.int .i64 x702.2.2.2.2.2.2.1)) fun w639 =>
            Wr w639 ((blk w.heap.size).add 7) ∧
            Nw (w639.setCell ((blk w.heap.size).add 7) (.int .u8 x702.2.2.2.2.2.2.2.1)) fun w640 =>
            ldI w640 ((blk w.heap.size).add 0) .u16 fun x703 =>
            ldStr w640 ((blk w.heap.size).add 1) fun x704 =>
            ldB w640 ((blk w.heap.size).add 2) fun x705 =>
            ldB w640 ((blk w.heap.size).add 3) fun x706 =>
            ldStr w640 ((blk w.heap.size).add 4) fun x707 =>
            ldStr w640 ((blk w.heap.size).add 5) fun x708 =>
            ldI w640 ((blk w.heap.size).add 6) .i64 fun x709 =>
            ldI w640 ((blk w.heap.size).add 7) .u8 fun x710 =>
            R (.tuple #[(.agg #[(.int .u16 x703), (.string x704), (.bool x705), (.bool x706), (.string x707), (.string x708), (.int .i64 x709), (.int .u8 x710)]), (.bool true)]) w640)
            (ifB (p0 == (195 : Int))
            (callR Try.prog 100 #[(.int .u16 p0), (.string (ByteArray.mk #[79, 112, 83, 104, 105, 102, 116, 82, 105, 103, 104, 116, 65, 114, 105, 116, 104, 109, 101, 116, 105, 99])), (.bool true), (.bool true), (.string (ByteArray.mk #[105, 105])), (.string (ByteArray.mk #[])), (.int .i64 (0 : Int)), (.int .u8 (8 : Int))] w1 fun v711 w641 =>
            ∃ x712 : (Int × ByteArray × Bool × Bool × ByteArray × ByteArray × Int × Int × Unit), v711 = (.agg #[(.int .u16 x712.1), (.string x712.2.1), (.bool x712.2.2.1), (.bool x712.2.2.2.1), (.string x712.2.2.2.2.1), (.string x712.2.2.2.2.2.1), (.int .i64 x712.2.2.2.2.2.2.1), (.int .u8 x712.2.2.2.2.2.2.2.1)]) ∧
            Wr w641 (blk w.heap.size) ∧
            Nw (w641.setCell (blk w.heap.size) (.int .u16 x712.1)) fun w642 =>
            Wr w642 ((blk w.heap.size).add 1) ∧
            Nw (w642.setCell ((blk w.heap.size).add 1) (.string x712.2.1)) fun w643 =>
            Wr w643 ((blk w.heap.size).add 2) ∧
            Nw (w643.setCell ((blk w.heap.size).add 2) (.bool x712.2.2.1)) fun w644 =>
            Wr w644 ((blk w.heap.size).add 3) ∧
            Nw (w644.setCell ((blk w.heap.size).add 3) (.bool x712.2.2.2.1)) fun w645 =>
            Wr w645 ((blk w.heap.size).add 4) ∧
            Nw (w645.setCell ((blk w.heap.size).add 4) (.string x712.2.2.2.2.1)) fun w646 =>
            Wr w646 ((blk w.heap.size).add 5) ∧
            Nw (w646.setCell ((blk w.heap.size).add 5) (.string x712.2.2.2.2.2.1)) fun w647 =>
            Wr w647 ((blk w.heap.size).add 6) ∧
            Nw (w647.setCell ((blk w.heap.size).add 6) (.int .i64 x712.2.2.2.2.2.2.1)) fun w648 =>
            Wr w648 ((blk w.heap.size).add 7) ∧
            Nw (w648.setCell ((blk w.heap.size).add 7) (.int .u8 x712.2.2.2.2.2.2.2.1)) fun w649 =>
            ldI w649 ((blk w.heap.size).add 0) .u16 fun x713 =>
            ldStr w649 ((blk w.heap.size).add 1) fun x714 =>
            ldB w649 ((blk w.heap.size).add 2) fun x715 =>
            ldB w649 ((blk w.heap.size).add 3) fun x716 =>
            ldStr w649 ((blk w.heap.size).add 4) fun x717 =>
            ldStr w649 ((blk w.heap.size).add 5) fun x718 =>
            ldI w649 ((blk w.heap.size).add 6) .i64 fun x719 =>
            ldI w649 ((blk w.heap.size).add 7) .u8 fun x720 =>
            R (.tuple #[(.agg #[(.int .u16 x713), (.string x714), (.bool x715), (.bool x716), (.string x717), (.string x718), (.int .i64 x719), (.int .u8 x720)]), (.bool true)]) w649)
            (ifB (p0 == (196 : Int))
            (callR Try.prog 100 #[(.int .u16 p0), (.string (ByteArray.mk #[79, 112, 83, 104, 105, 102, 116, 76, 101, 102, 116, 76, 111, 103, 105, 99, 97, 108])), (.bool true), (.bool true), (.string (ByteArray.mk #[105, 105])), (.string (ByteArray.mk #[])), (.int .i64 (0 : Int)), (.int .u8 (8 : Int))] w1 fun v721 w650 =>
            ∃ x722 : (Int × ByteArray × Bool × Bool × ByteArray × ByteArray × Int × Int × Unit), v721 = (.agg #[(.int .u16 x722.1), (.string x722.2.1), (.bool x722.2.2.1), (.bool x722.2.2.2.1), (.string x722.2.2.2.2.1), (.string x722.2.2.2.2.2.1), (.int .i64 x722.2.2.2.2.2.2.1), (.int .u8 x722.2.2.2.2.2.2.2.1)]) ∧
            Wr w650 (blk w.heap.size) ∧
            Nw (w650.setCell (blk w.heap.size) (.int .u16 x722.1)) fun w651 =>
            Wr w651 ((blk w.heap.size).add 1) ∧
            Nw (w651.setCell ((blk w.heap.size).add 1) (.string x722.2.1)) fun w652 =>
            Wr w652 ((blk w.heap.size).add 2) ∧
            Nw (w652.setCell ((blk w.heap.size).add 2) (.bool x722.2.2.1)) fun w653 =>
            Wr w653 ((blk w.heap.size).add 3) ∧
            Nw (w653.setCell ((blk w.heap.size).add 3) (.bool x722.2.2.2.1)) fun w654 =>
            Wr w654 ((blk w.heap.size).add 4) ∧
            Nw (w654.setCell ((blk w.heap.size).add 4) (.string x722.2.2.2.2.1)) fun w655 =>
            Wr w655 ((blk w.heap.size).add 5) ∧
            Nw (w655.setCell ((blk w.heap.size).add 5) (.string x722.2.2.2.2.2.1)) fun w656 =>
            Wr w656 ((blk w.heap.size).add 6) ∧
            Nw (w656.setCell ((blk w.heap.size).add 6) (.int .i64 x722.2.2.2.2.2.2.1)) fun w657 =>
            Wr w657 ((blk w.heap.size).add 7) ∧
            Nw (w657.setCell ((blk w.heap.size).add 7) (.int .u8 x722.2.2.2.2.2.2.2.1)) fun w658 =>
            ldI w658 ((blk w.heap.size).add 0) .u16 fun x723 =>
            ldStr w658 ((blk w.heap.size).add 1) fun x724 =>
            ldB w658 ((blk w.heap.size).add 2) fun x725 =>
            ldB w658 ((blk w.heap.size).add 3) fun x726 =>
            ldStr w658 ((blk w.heap.size).add 4) fun x727 =>
            ldStr w658 ((blk w.heap.size).add 5) fun x728 =>
            ldI w658 ((blk w.heap.size).add 6) .i64 fun x729 =>
            ldI w658 ((blk w.heap.size).add 7) .u8 fun x730 =>
            R (.tuple #[(.agg #[(.int .u16 x723), (.string x724), (.bool x725), (.bool x726), (.string x727), (.string x728), (.int .i64 x729), (.int .u8 x730)]), (.bool true)]) w658)
            (ifB (p0 == (197 : Int))
            (callR Try.prog 100 #[(.int .u16 p0), (.string (ByteArray.mk #[79, 112, 66, 105, 116, 119, 105, 115, 101, 79, 114])), (.bool true), (.bool true), (.string (ByteArray.mk #[105, 105])), (.string (ByteArray.mk #[])), (.int .i64 (0 : Int)), (.int .u8 (8 : Int))] w1 fun v731 w659 =>
            ∃ x732 : (Int × ByteArray × Bool × Bool × ByteArray × ByteArray × Int × Int × Unit), v731 = (.agg #[(.int .u16 x732.1), (.string x732.2.1), (.bool x732.2.2.1), (.bool x732.2.2.2.1), (.string x732.2.2.2.2.1), (.string x732.2.2.2.2.2.1), (.int .i64 x732.2.2.2.2.2.2.1), (.int .u8 x732.2.2.2.2.2.2.2.1)]) ∧
            Wr w659 (blk w.heap.size) ∧
            Nw (w659.setCell (blk w.heap.size) (.int .u16 x732.1)) fun w660 =>
            Wr w660 ((blk w.heap.size).add 1) ∧
            Nw (w660.setCell ((blk w.heap.size).add 1) (.string x732.2.1)) fun w661 =>
            Wr w661 ((blk w.heap.size).add 2) ∧
            Nw (w661.setCell ((blk w.heap.size).add 2) (.bool x732.2.2.1)) fun w662 =>
            Wr w662 ((blk w.heap.size).add 3) ∧
            Nw (w662.setCell ((blk w.heap.size).add 3) (.bool x732.2.2.2.1)) fun w663 =>
            Wr w663 ((blk w.heap.size).add 4) ∧
            Nw (w663.setCell ((blk w.heap.size).add 4) (.string x732.2.2.2.2.1)) fun w664 =>
            Wr w664 ((blk w.heap.size).add 5) ∧
            Nw (w664.setCell ((blk w.heap.size).add 5) (.string x732.2.2.2.2.2.1)) fun w665 =>
            Wr w665 ((blk w.heap.size).add 6) ∧
            Nw (w665.setCell ((blk w.heap.size).add 6) (.int .i64 x732.2.2.2.2.2.2.1)) fun w666 =>
            Wr w666 ((blk w.heap.size).add 7) ∧
            Nw (w666.setCell ((blk w.heap.size).add 7) (.int .u8 x732.2.2.2.2.2.2.2.1)) fun w667 =>
            ldI w667 ((blk w.heap.size).add 0) .u16 fun x733 =>
            ldStr w667 ((blk w.heap.size).add 1) fun x734 =>
            ldB w667 ((blk w.heap.size).add 2) fun x735 =>
            ldB w667 ((blk w.heap.size).add 3) fun x736 =>
            ldStr w667 ((blk w.heap.size).add 4) fun x737 =>
            ldStr w667 ((blk w.heap.size).add 5) fun x738 =>
            ldI w667 ((blk w.heap.size).add 6) .i64 fun x739 =>
            ldI w667 ((blk w.heap.size).add 7) .u8 fun x740 =>
            R (.tuple #[(.agg #[(.int .u16 x733), (.string x734), (.bool x735), (.bool x736), (.string x737), (.string x738), (.int .i64 x739), (.int .u8 x740)]), (.bool true)]) w667)
            (ifB (p0 == (198 : Int))
            (callR Try.prog 100 #[(.int .u16 p0), (.string (ByteArray.mk #[79, 112, 66, 105, 116, 119, 105, 115, 101, 88, 111, 114])), (.bool true), (.bool true), (.string (ByteArray.mk #[105, 105])), (.string (ByteArray.mk #[])), (.int .i64 (0 : Int)), (.int .u8 (8 : Int))] w1 fun v741 w668 =>
            ∃ x742 : (Int × ByteArray × Bool × Bool × ByteArray × ByteArray × Int × Int × Unit), v741 = (.agg #[(.int .u16 x742.1), (.string x742.2.1), (.bool x742.2.2.1), (.bool x742.2.2.2.1), (.string x742.2.2.2.2.1), (.string x742.2.2.2.2.2.1), (.int .i64 x742.2.2.2.2.2.2.1), (.int .u8 x742.2.2.2.2.2.2.2.1)]) ∧
            Wr w668 (blk w.heap.size) ∧
            Nw (w668.setCell (blk w.heap.size) (.int .u16 x742.1)) fun w669 =>
            Wr w669 ((blk w.heap.size).add 1) ∧
            Nw (w669.setCell ((blk w.heap.size).add 1) (.string x742.2.1)) fun w670 =>
            Wr w670 ((blk w.heap.size).add 2) ∧
            Nw (w670.setCell ((blk w.heap.size).add 2) (.bool x742.2.2.1)) fun w671 =>
            Wr w671 ((blk w.heap.size).add 3) ∧
            Nw (w671.setCell ((blk w.heap.size).add 3) (.bool x742.2.2.2.1)) fun w672 =>
            Wr w672 ((blk w.heap.size).add 4) ∧
            Nw (w672.setCell ((blk w.heap.size).add 4) (.string x742.2.2.2.2.1)) fun w673 =>
            Wr w673 ((blk w.heap.size).add 5) ∧
            Nw (w673.setCell ((blk w.heap.size).add 5) (.string x742.2.2.2.2.2.1)) fun w674 =>
            Wr w674 ((blk w.heap.size).add 6) ∧
            Nw (w674.setCell ((blk w.heap.size).add 6) (.int .i64 x742.2.2.2.2.2.2.1)) fun w675 =>
            Wr w675 ((blk w.heap.size).add 7) ∧
            Nw (w675.setCell ((blk w.heap.size).add 7) (.int .u8 x742.2.2.2.2.2.2.2.1)) fun w676 =>
            ldI w676 ((blk w.heap.size).add 0) .u16 fun x743 =>
            ldStr w676 ((blk w.heap.size).add 1) fun x744 =>
            ldB w676 ((blk w.heap.size).add 2) fun x745 =>
            ldB w676 ((blk w.heap.size).add 3) fun x746 =>
            ldStr w676 ((blk w.heap.size).add 4) fun x747 =>
            ldStr w676 ((blk w.heap.size).add 5) fun x748 =>
            ldI w676 ((blk w.heap.size).add 6) .i64 fun x749 =>
            ldI w676 ((blk w.heap.size).add 7) .u8 fun x750 =>
            R (.tuple #[(.agg #[(.int .u16 x743), (.string x744), (.bool x745), (.bool x746), (.string x747), (.string x748), (.int .i64 x749), (.int .u8 x750)]), (.bool true)]) w676)
            (ifB (p0 == (199 : Int))
            (callR Try.prog 100 #[(.int .u16 p0), (.string (ByteArray.mk #[79, 112, 66, 105, 116, 119, 105, 115, 101, 65, 110, 100])), (.bool true), (.bool true), (.string (ByteArray.mk #[105, 105])), (.string (ByteArray.mk #[])), (.int .i64 (0 : Int)), (.int .u8 (8 : Int))] w1 fun v751 w677 =>
            ∃ x752 : (Int × ByteArray × Bool × Bool × ByteArray × ByteArray × Int × Int × Unit), v751 = (.agg #[(.int .u16 x752.1), (.string x752.2.1), (.bool x752.2.2.1), (.bool x752.2.2.2.1), (.string x752.2.2.2.2.1), (.string x752.2.2.2.2.2.1), (.int .i64 x752.2.2.2.2.2.2.1), (.int .u8 x752.2.2.2.2.2.2.2.1)]) ∧
            Wr w677 (blk w.heap.size) ∧
            Nw (w677.setCell (blk w.heap.size) (.int .u16 x752.1)) fun w678 =>
            Wr w678 ((blk w.heap.size).add 1) ∧
            Nw (w678.setCell ((blk w.heap.size).add 1) (.string x752.2.1)) fun w679 =>
            Wr w679 ((blk w.heap.size).add 2) ∧
            Nw (w679.setCell ((blk w.heap.size).add 2) (.bool x752.2.2.1)) fun w680 =>
            Wr w680 ((blk w.heap.size).add 3) ∧
            Nw (w680.setCell ((blk w.heap.size).add 3) (.bool x752.2.2.2.1)) fun w681 =>
            Wr w681 ((blk w.heap.size).add 4) ∧
            Nw (w681.setCell ((blk w.heap.size).add 4) (.string x752.2.2.2.2.1)) fun w682 =>
            Wr w682 ((blk w.heap.size).add 5) ∧
            Nw (w682.setCell ((blk w.heap.size).add 5) (.string x752.2.2.2.2.2.1)) fun w683 =>
            Wr w683 ((blk w.heap.size).add 6) ∧
            Nw (w683.setCell ((blk w.heap.size).add 6) (.int .i64 x752.2.2.2.2.2.2.1)) fun w684 =>
            Wr w684 ((blk w.heap.size).add 7) ∧
            Nw (w684.setCell ((blk w.heap.size).add 7) (.int .u8 x752.2.2.2.2.2.2.2.1)) fun w685 =>
            ldI w685 ((blk w.heap.size).add 0) .u16 fun x753 =>
            ldStr w685 ((blk w.heap.size).add 1) fun x754 =>
            ldB w685 ((blk w.heap.size).add 2) fun x755 =>
            ldB w685 ((blk w.heap.size).add 3) fun x756 =>
            ldStr w685 ((blk w.heap.size).add 4) fun x757 =>
            ldStr w685 ((blk w.heap.size).add 5) fun x758 =>
            ldI w685 ((blk w.heap.size).add 6) .i64 fun x759 =>
            ldI w685 ((blk w.heap.size).add 7) .u8 fun x760 =>
            R (.tuple #[(.agg #[(.int .u16 x753), (.string x754), (.bool x755), (.bool x756), (.string x757), (.string x758), (.int .i64 x759), (.int .u8 x760)]), (.bool true)]) w685)
            (ifB (p0 == (200 : Int))
            (callR Try.prog 100 #[(.int .u16 p0), (.string (ByteArray.mk #[79, 112, 78, 111, 116])), (.bool true), (.bool true), (.string (ByteArray.mk #[105])), (.string (ByteArray.mk #[])), (.int .i64 (0 : Int)), (.int .u8 (8 : Int))] w1 fun v761 w686 =>
            ∃ x762 : (Int × ByteArray × Bool × Bool × ByteArray × ByteArray × Int × Int × Unit), v761 = (.agg #[(.int .u16 x762.1), (.string x762.2.1), (.bool x762.2.2.1), (.bool x762.2.2.2.1), (.string x762.2.2.2.2.1), (.string x762.2.2.2.2.2.1), (.int .i64 x762.2.2.2.2.2.2.1), (.int .u8 x762.2.2.2.2.2.2.2.1)]) ∧
            Wr w686 (blk w.heap.size) ∧
            Nw (w686.setCell (blk w.heap.size) (.int .u16 x762.1)) fun w687 =>
            Wr w687 ((blk w.heap.size).add 1) ∧
            Nw (w687.setCell ((blk w.heap.size).add 1) (.string x762.2.1)) fun w688 =>
            Wr w688 ((blk w.heap.size).add 2) ∧
            Nw (w688.setCell ((blk w.heap.size).add 2) (.bool x762.2.2.1)) fun w689 =>
            Wr w689 ((blk w.heap.size).add 3) ∧
            Nw (w689.setCell ((blk w.heap.size).add 3) (.bool x762.2.2.2.1)) fun w690 =>
            Wr w690 ((blk w.heap.size).add 4) ∧
            Nw (w690.setCell ((blk w.heap.size).add 4) (.string x762.2.2.2.2.1)) fun w691 =>
            Wr w691 ((blk w.heap.size).add 5) ∧
            Nw (w691.setCell ((blk w.heap.size).add 5) (.string x762.2.2.2.2.2.1)) fun w692 =>
            Wr w692 ((blk w.heap.size).add 6) ∧
            Nw (w692.setCell ((blk w.heap.size).add 6) (.int .i64 x762.2.2.2.2.2.2.1)) fun w693 =>
            Wr w693 ((blk w.heap.size).add 7) ∧
            Nw (w693.setCell ((blk w.heap.size).add 7) (.int .u8 x762.2.2.2.2.2.2.2.1)) fun w694 =>
            ldI w694 ((blk w.heap.size).add 0) .u16 fun x763 =>
            ldStr w694 ((blk w.heap.size).add 1) fun x764 =>
            ldB w694 ((blk w.heap.size).add 2) fun x765 =>
            ldB w694 ((blk w.heap.size).add 3) fun x766 =>
            ldStr w694 ((blk w.heap.size).add 4) fun x767 =>
            ldStr w694 ((blk w.heap.size).add 5) fun x768 =>
            ldI w694 ((blk w.heap.size).add 6) .i64 fun x769 =>
            ldI w694 ((blk w.heap.size).add 7) .u8 fun x770 =>
            R (.tuple #[(.agg #[(.int .u16 x763), (.string x764), (.bool x765), (.bool x766), (.string x767), (.string x768), (.int .i64 x769), (.int .u8 x770)]), (.bool true)]) w694)
            (ifB (p0 == (201 : Int))
            (callR Try.prog 100 #[(.int .u16 p0), (.string (ByteArray.mk #[79, 112, 66, 105, 116, 70, 105, 101, 108, 100, 73, 110, 115, 101, 114, 116])), (.bool true), (.bool true), (.string (ByteArray.mk #[105, 105, 105, 105])), (.string (ByteArray.mk #[])), (.int .i64 (0 : Int)), (.int .u8 (8 : Int))] w1 fun v771 w695 =>
            ∃ x772 : (Int × ByteArray × Bool × Bool × ByteArray × ByteArray × Int × Int × Unit), v771 = (.agg #[(.int .u16 x772.1), (.string x772.2.1), (.bool x772.2.2.1), (.bool x772.2.2.2.1), (.string x772.2.2.2.2.1), (.string x772.2.2.2.2.2.1), (.int .i64 x772.2.2.2.2.2.2.1), (.int .u8 x772.2.2.2.2.2.2.2.1)]) ∧
            Wr w695 (blk w.heap.size) ∧
            Nw (w695.setCell (blk w.heap.size) (.int .u16 x772.1)) fun w696 =>
            Wr w696 ((blk w.heap.size).add 1) ∧
            Nw (w696.setCell ((blk w.heap.size).add 1) (.string x772.2.1)) fun w697 =>
            Wr w697 ((blk w.heap.size).add 2) ∧
            Nw (w697.setCell ((blk w.heap.size).add 2) (.bool x772.2.2.1)) fun w698 =>
            Wr w698 ((blk w.heap.size).add 3) ∧
            Nw (w698.setCell ((blk w.heap.size).add 3) (.bool x772.2.2.2.1)) fun w699 =>
            Wr w699 ((blk w.heap.size).add 4) ∧
            Nw (w699.setCell ((blk w.heap.size).add 4) (.string x772.2.2.2.2.1)) fun w700 =>
            Wr w700 ((blk w.heap.size).add 5) ∧
            Nw (w700.setCell ((blk w.heap.size).add 5) (.string x772.2.2.2.2.2.1)) fun w701 =>
            Wr w701 ((blk w.heap.size).add 6) ∧
            Nw (w701.setCell ((blk w.heap.size).add 6) (.int .i64 x772.2.2.2.2.2.2.1)) fun w702 =>
            Wr w702 ((blk w.heap.size).add 7) ∧
            Nw (w702.setCell ((blk w.heap.size).add 7) (.int .u8 x772.2.2.2.2.2.2.2.1)) fun w703 =>
            ldI w703 ((blk w.heap.size).add 0) .u16 fun x773 =>
            ldStr w703 ((blk w.heap.size).add 1) fun x774 =>
            ldB w703 ((blk w.heap.size).add 2) fun x775 =>
            ldB w703 ((blk w.heap.size).add 3) fun x776 =>
            ldStr w703 ((blk w.heap.size).add 4) fun x777 =>
            ldStr w703 ((blk w.heap.size).add 5) fun x778 =>
            ldI w703 ((blk w.heap.size).add 6) .i64 fun x779 =>
            ldI w703 ((blk w.heap.size).add 7) .u8 fun x780 =>
            R (.tuple #[(.agg #[(.int .u16 x773), (.string x774), (.bool x775), (.bool x776), (.string x777), (.string x778), (.int .i64 x779), (.int .u8 x780)]), (.bool true)]) w703)
            (ifB (p0 == (202 : Int))
            (callR Try.prog 100 #[(.int .u16 p0), (.string (ByteArray.mk #[79, 112, 66, 105, 116, 70, 105, 101, 108, 100, 83, 69, 120, 116, 114, 97, 99, 116])), (.bool true), (.bool true), (.string (ByteArray.mk #[105, 105, 105])), (.string (ByteArray.mk #[])), (.int .i64 (0 : Int)), (.int .u8 (8 : Int))] w1 fun v781 w704 =>
            ∃ x782 : (Int × ByteArray × Bool × Bool × ByteArray × ByteArray × Int × Int × Unit), v781 = (.agg #[(.int .u16 x782.1), (.string x782.2.1), (.bool x782.2.2.1), (.bool x782.2.2.2.1), (.string x782.2.2.2.2.1), (.string x782.2.2.2.2.2.1), (.int .i64 x782.2.2.2.2.2.2.1), (.int .u8 x782.2.2.2.2.2.2.2.1)]) ∧
            Wr w704 (blk w.heap.size) ∧
            Nw (w704.setCell (blk w.heap.size) (.int .u16 x782.1)) fun w705 =>
            Wr w705 ((blk w.heap.size).add 1) ∧
            Nw (w705.setCell ((blk w.heap.size).add 1) (.string x782.2.1)) fun w706 =>
            Wr w706 ((blk w.heap.size).add 2) ∧
            Nw (w706.setCell ((blk w.heap.size).add 2) (.bool x782.2.2.1)) fun w707 =>
            Wr w707 ((blk w.heap.size).add 3) ∧
            Nw (w707.setCell ((blk w.heap.size).add 3) (.bool x782.2.2.2.1)) fun w708 =>
            Wr w708 ((blk w.heap.size).add 4) ∧
            Nw (w708.setCell ((blk w.heap.size).add 4) (.string x782.2.2.2.2.1)) fun w709 =>
            Wr w709 ((blk w.heap.size).add 5) ∧
            Nw (w709.setCell ((blk w.heap.size).add 5) (.string x782.2.2.2.2.2.1)) fun w710 =>
            Wr w710 ((blk w.heap.size).add 6) ∧
            Nw (w710.setCell ((blk w.heap.size).add 6) (.int .i64 x782.2.2.2.2.2.2.1)) fun w711 =>
            Wr w711 ((blk w.heap.size).add 7) ∧
            Nw (w711.setCell ((blk w.heap.size).add 7) (.int .u8 x782.2.2.2.2.2.2.2.1)) fun w712 =>
            ldI w712 ((blk w.heap.size).add 0) .u16 fun x783 =>
            ldStr w712 ((blk w.heap.size).add 1) fun x784 =>
            ldB w712 ((blk w.heap.size).add 2) fun x785 =>
            ldB w712 ((blk w.heap.size).add 3) fun x786 =>
            ldStr w712 ((blk w.heap.size).add 4) fun x787 =>
            ldStr w712 ((blk w.heap.size).add 5) fun x788 =>
            ldI w712 ((blk w.heap.size).add 6) .i64 fun x789 =>
            ldI w712 ((blk w.heap.size).add 7) .u8 fun x790 =>
            R (.tuple #[(.agg #[(.int .u16 x783), (.string x784), (.bool x785), (.bool x786), (.string x787), (.string x788), (.int .i64 x789), (.int .u8 x790)]), (.bool true)]) w712)
            (ifB (p0 == (203 : Int))
            (callR Try.prog 100 #[(.int .u16 p0), (.string (ByteArray.mk #[79, 112, 66, 105, 116, 70, 105, 101, 108, 100, 85, 69, 120, 116, 114, 97, 99, 116])), (.bool true), (.bool true), (.string (ByteArray.mk #[105, 105, 105])), (.string (ByteArray.mk #[])), (.int .i64 (0 : Int)), (.int .u8 (8 : Int))] w1 fun v791 w713 =>
            ∃ x792 : (Int × ByteArray × Bool × Bool × ByteArray × ByteArray × Int × Int × Unit), v791 = (.agg #[(.int .u16 x792.1), (.string x792.2.1), (.bool x792.2.2.1), (.bool x792.2.2.2.1), (.string x792.2.2.2.2.1), (.string x792.2.2.2.2.2.1), (.int .i64 x792.2.2.2.2.2.2.1), (.int .u8 x792.2.2.2.2.2.2.2.1)]) ∧
            Wr w713 (blk w.heap.size) ∧
            Nw (w713.setCell (blk w.heap.size) (.int .u16 x792.1)) fun w714 =>
            Wr w714 ((blk w.heap.size).add 1) ∧
            Nw (w714.setCell ((blk w.heap.size).add 1) (.string x792.2.1)) fun w715 =>
            Wr w715 ((blk w.heap.size).add 2) ∧
            Nw (w715.setCell ((blk w.heap.size).add 2) (.bool x792.2.2.1)) fun w716 =>
            Wr w716 ((blk w.heap.size).add 3) ∧
            Nw (w716.setCell ((blk w.heap.size).add 3) (.bool x792.2.2.2.1)) fun w717 =>
            Wr w717 ((blk w.heap.size).add 4) ∧
            Nw (w717.setCell ((blk w.heap.size).add 4) (.string x792.2.2.2.2.1)) fun w718 =>
            Wr w718 ((blk w.heap.size).add 5) ∧
            Nw (w718.setCell ((blk w.heap.size).add 5) (.string x792.2.2.2.2.2.1)) fun w719 =>
            Wr w719 ((blk w.heap.size).add 6) ∧
            Nw (w719.setCell ((blk w.heap.size).add 6) (.int .i64 x792.2.2.2.2.2.2.1)) fun w720 =>
            Wr w720 ((blk w.heap.size).add 7) ∧
            Nw (w720.setCell ((blk w.heap.size).add 7) (.int .u8 x792.2.2.2.2.2.2.2.1)) fun w721 =>
            ldI w721 ((blk w.heap.size).add 0) .u16 fun x793 =>
            ldStr w721 ((blk w.heap.size).add 1) fun x794 =>
            ldB w721 ((blk w.heap.size).add 2) fun x795 =>
            ldB w721 ((blk w.heap.size).add 3) fun x796 =>
            ldStr w721 ((blk w.heap.size).add 4) fun x797 =>
            ldStr w721 ((blk w.heap.size).add 5) fun x798 =>
            ldI w721 ((blk w.heap.size).add 6) .i64 fun x799 =>
            ldI w721 ((blk w.heap.size).add 7) .u8 fun x800 =>
            R (.tuple #[(.agg #[(.int .u16 x793), (.string x794), (.bool x795), (.bool x796), (.string x797), (.string x798), (.int .i64 x799), (.int .u8 x800)]), (.bool true)]) w721)
            (ifB (p0 == (204 : Int))
            (callR Try.prog 100 #[(.int .u16 p0), (.string (ByteArray.mk #[79, 112, 66, 105, 116, 82, 101, 118, 101, 114, 115, 101])), (.bool true), (.bool true), (.string (ByteArray.mk #[105])), (.string (ByteArray.mk #[])), (.int .i64 (0 : Int)), (.int .u8 (8 : Int))] w1 fun v801 w722 =>
            ∃ x802 : (Int × ByteArray × Bool × Bool × ByteArray × ByteArray × Int × Int × Unit), v801 = (.agg #[(.int .u16 x802.1), (.string x802.2.1), (.bool x802.2.2.1), (.bool x802.2.2.2.1), (.string x802.2.2.2.2.1), (.string x802.2.2.2.2.2.1), (.int .i64 x802.2.2.2.2.2.2.1), (.int .u8 x802.2.2.2.2.2.2.2.1)]) ∧
            Wr w722 (blk w.heap.size) ∧
            Nw (w722.setCell (blk w.heap.size) (.int .u16 x802.1)) fun w723 =>
            Wr w723 ((blk w.heap.size).add 1) ∧
            Nw (w723.setCell ((blk w.heap.size).add 1) (.string x802.2.1)) fun w724 =>
            Wr w724 ((blk w.heap.size).add 2) ∧
            Nw (w724.setCell ((blk w.heap.size).add 2) (.bool x802.2.2.1)) fun w725 =>
            Wr w725 ((blk w.heap.size).add 3) ∧
            Nw (w725.setCell ((blk w.heap.size).add 3) (.bool x802.2.2.2.1)) fun w726 =>
            Wr w726 ((blk w.heap.size).add 4) ∧
            Nw (w726.setCell ((blk w.heap.size).add 4) (.string x802.2.2.2.2.1)) fun w727 =>
            Wr w727 ((blk w.heap.size).add 5) ∧
            Nw (w727.setCell ((blk w.heap.size).add 5) (.string x802.2.2.2.2.2.1)) fun w728 =>
            Wr w728 ((blk w.heap.size).add 6) ∧
            Nw (w728.setCell ((blk w.heap.size).add 6) (.int .i64 x802.2.2.2.2.2.2.1)) fun w729 =>
            Wr w729 ((blk w.heap.size).add 7) ∧
            Nw (w729.setCell ((blk w.heap.size).add 7) (.int .u8 x802.2.2.2.2.2.2.2.1)) fun w730 =>
            ldI w730 ((blk w.heap.size).add 0) .u16 fun x803 =>
            ldStr w730 ((blk w.heap.size).add 1) fun x804 =>
            ldB w730 ((blk w.heap.size).add 2) fun x805 =>
            ldB w730 ((blk w.heap.size).add 3) fun x806 =>
            ldStr w730 ((blk w.heap.size).add 4) fun x807 =>
            ldStr w730 ((blk w.heap.size).add 5) fun x808 =>
            ldI w730 ((blk w.heap.size).add 6) .i64 fun x809 =>
            ldI w730 ((blk w.heap.size).add 7) .u8 fun x810 =>
            R (.tuple #[(.agg #[(.int .u16 x803), (.string x804), (.bool x805), (.bool x806), (.string x807), (.string x808), (.int .i64 x809), (.int .u8 x810)]), (.bool true)]) w730)
            (ifB (p0 == (205 : Int))
            (callR Try.prog 100 #[(.int .u16 p0), (.string (ByteArray.mk #[79, 112, 66, 105, 116, 67, 111, 117, 110, 116])), (.bool true), (.bool true), (.string (ByteArray.mk #[105])), (.string (ByteArray.mk #[])), (.int .i64 (0 : Int)), (.int .u8 (8 : Int))] w1 fun v811 w731 =>
            ∃ x812 : (Int × ByteArray × Bool × Bool × ByteArray × ByteArray × Int × Int × Unit), v811 = (.agg #[(.int .u16 x812.1), (.string x812.2.1), (.bool x812.2.2.1), (.bool x812.2.2.2.1), (.string x812.2.2.2.2.1), (.string x812.2.2.2.2.2.1), (.int .i64 x812.2.2.2.2.2.2.1), (.int .u8 x812.2.2.2.2.2.2.2.1)]) ∧
            Wr w731 (blk w.heap.size) ∧
            Nw (w731.setCell (blk w.heap.size) (.int .u16 x812.1)) fun w732 =>
            Wr w732 ((blk w.heap.size).add 1) ∧
            Nw (w732.setCell ((blk w.heap.size).add 1) (.string x812.2.1)) fun w733 =>
            Wr w733 ((blk w.heap.size).add 2) ∧
            Nw (w733.setCell ((blk w.heap.size).add 2) (.bool x812.2.2.1)) fun w734 =>
            Wr w734 ((blk w.heap.size).add 3) ∧
            Nw (w734.setCell ((blk w.heap.size).add 3) (.bool x812.2.2.2.1)) fun w735 =>
            Wr w735 ((blk w.heap.size).add 4) ∧
            Nw (w735.setCell ((blk w.heap.size).add 4) (.string x812.2.2.2.2.1)) fun w736 =>
            Wr w736 ((blk w.heap.size).add 5) ∧
            Nw (w736.setCell ((blk w.heap.size).add 5) (.string x812.2.2.2.2.2.1)) fun w737 =>
            Wr w737 ((blk w.heap.size).add 6) ∧
            Nw (w737.setCell ((blk w.heap.size).add 6) (.int .i64 x812.2.2.2.2.2.2.1)) fun w738 =>
            Wr w738 ((blk w.heap.size).add 7) ∧
            Nw (w738.setCell ((blk w.heap.size).add 7) (.int .u8 x812.2.2.2.2.2.2.2.1)) fun w739 =>
            ldI w739 ((blk w.heap.size).add 0) .u16 fun x813 =>
            ldStr w739 ((blk w.heap.size).add 1) fun x814 =>
            ldB w739 ((blk w.heap.size).add 2) fun x815 =>
            ldB w739 ((blk w.heap.size).add 3) fun x816 =>
            ldStr w739 ((blk w.heap.size).add 4) fun x817 =>
            ldStr w739 ((blk w.heap.size).add 5) fun x818 =>
            ldI w739 ((blk w.heap.size).add 6) .i64 fun x819 =>
            ldI w739 ((blk w.heap.size).add 7) .u8 fun x820 =>
            R (.tuple #[(.agg #[(.int .u16 x813), (.string x814), (.bool x815), (.bool x816), (.string x817), (.string x818), (.int .i64 x819), (.int .u8 x820)]), (.bool true)]) w739)
            (ifB (p0 == (245 : Int))
            (callR Try.prog 100 #[(.int .u16 p0), (.string (ByteArray.mk #[79, 112, 80, 104, 105])), (.bool true), (.bool true), (.string (ByteArray.mk #[])), (.string (ByteArray.mk #[105, 105])), (.int .i64 (0 : Int)), (.int .u8 (8 : Int))] w1 fun v821 w740 =>
            ∃ x822 : (Int × ByteArray × Bool × Bool × ByteArray × ByteArray × Int × Int × Unit), v821 = (.agg #[(.int .u16 x822.1), (.string x822.2.1), (.bool x822.2.2.1), (.bool x822.2.2.2.1), (.string x822.2.2.2.2.1), (.string x822.2.2.2.2.2.1), (.int .i64 x822.2.2.2.2.2.2.1), (.int .u8 x822.2.2.2.2.2.2.2.1)]) ∧
            Wr w740 (blk w.heap.size) ∧
            Nw (w740.setCell (blk w.heap.size) (.int .u16 x822.1)) fun w741 =>
            Wr w741 ((blk w.heap.size).add 1) ∧
            Nw (w741.setCell ((blk w.heap.size).add 1) (.string x822.2.1)) fun w742 =>
            Wr w742 ((blk w.heap.size).add 2) ∧
            Nw (w742.setCell ((blk w.heap.size).add 2) (.bool x822.2.2.1)) fun w743 =>
            Wr w743 ((blk w.heap.size).add 3) ∧
            Nw (w743.setCell ((blk w.heap.size).add 3) (.bool x822.2.2.2.1)) fun w744 =>
            Wr w744 ((blk w.heap.size).add 4) ∧
            Nw (w744.setCell ((blk w.heap.size).add 4) (.string x822.2.2.2.2.1)) fun w745 =>
            Wr w745 ((blk w.heap.size).add 5) ∧
            Nw (w745.setCell ((blk w.heap.size).add 5) (.string x822.2.2.2.2.2.1)) fun w746 =>
            Wr w746 ((blk w.heap.size).add 6) ∧
            Nw (w746.setCell ((blk w.heap.size).add 6) (.int .i64 x822.2.2.2.2.2.2.1)) fun w747 =>
            Wr w747 ((blk w.heap.size).add 7) ∧
            Nw (w747.setCell ((blk w.heap.size).add 7) (.int .u8 x822.2.2.2.2.2.2.2.1)) fun w748 =>
            ldI w748 ((blk w.heap.size).add 0) .u16 fun x823 =>
            ldStr w748 ((blk w.heap.size).add 1) fun x824 =>
            ldB w748 ((blk w.heap.size).add 2) fun x825 =>
            ldB w748 ((blk w.heap.size).add 3) fun x826 =>
            ldStr w748 ((blk w.heap.size).add 4) fun x827 =>
            ldStr w748 ((blk w.heap.size).add 5) fun x828 =>
            ldI w748 ((blk w.heap.size).add 6) .i64 fun x829 =>
            ldI w748 ((blk w.heap.size).add 7) .u8 fun x830 =>
            R (.tuple #[(.agg #[(.int .u16 x823), (.string x824), (.bool x825), (.bool x826), (.string x827), (.string x828), (.int .i64 x829), (.int .u8 x830)]), (.bool true)]) w748)
            (ifB (p0 == (246 : Int))
            (callR Try.prog 100 #[(.int .u16 p0), (.string (ByteArray.mk #[79, 112, 76, 111, 111, 112, 77, 101, 114, 103, 101])), (.bool false), (.bool false), (.string (ByteArray.mk #[105, 105, 103])), (.string (ByteArray.mk #[])), (.int .i64 (0 : Int)), (.int .u8 (8 : Int))] w1 fun v831 w749 =>
            ∃ x832 : (Int × ByteArray × Bool × Bool × ByteArray × ByteArray × Int × Int × Unit), v831 = (.agg #[(.int .u16 x832.1), (.string x832.2.1), (.bool x832.2.2.1), (.bool x832.2.2.2.1), (.string x832.2.2.2.2.1), (.string x832.2.2.2.2.2.1), (.int .i64 x832.2.2.2.2.2.2.1), (.int .u8 x832.2.2.2.2.2.2.2.1)]) ∧
            Wr w749 (blk w.heap.size) ∧
            Nw (w749.setCell (blk w.heap.size) (.int .u16 x832.1)) fun w750 =>
            Wr w750 ((blk w.heap.size).add 1) ∧
            Nw (w750.setCell ((blk w.heap.size).add 1) (.string x832.2.1)) fun w751 =>
            Wr w751 ((blk w.heap.size).add 2) ∧
            Nw (w751.setCell ((blk w.heap.size).add 2) (.bool x832.2.2.1)) fun w752 =>
            Wr w752 ((blk w.heap.size).add 3) ∧
            Nw (w752.setCell ((blk w.heap.size).add 3) (.bool x832.2.2.2.1)) fun w753 =>
            Wr w753 ((blk w.heap.size).add 4) ∧
            Nw (w753.setCell ((blk w.heap.size).add 4) (.string x832.2.2.2.2.1)) fun w754 =>
            Wr w754 ((blk w.heap.size).add 5) ∧
            Nw (w754.setCell ((blk w.heap.size).add 5) (.string x832.2.2.2.2.2.1)) fun w755 =>
            Wr w755 ((blk w.heap.size).add 6) ∧
            Nw (w755.setCell ((blk w.heap.size).add 6) (.int .i64 x832.2.2.2.2.2.2.1)) fun w756 =>
            Wr w756 ((blk w.heap.size).add 7) ∧
            Nw (w756.setCell ((blk w.heap.size).add 7) (.int .u8 x832.2.2.2.2.2.2.2.1)) fun w757 =>
            ldI w757 ((blk w.heap.size).add 0) .u16 fun x833 =>
            ldStr w757 ((blk w.heap.size).add 1) fun x834 =>
            ldB w757 ((blk w.heap.size).add 2) fun x835 =>
            ldB w757 ((blk w.heap.size).add 3) fun x836 =>
            ldStr w757 ((blk w.heap.size).add 4) fun x837 =>
            ldStr w757 ((blk w.heap.size).add 5) fun x838 =>
            ldI w757 ((blk w.heap.size).add 6) .i64 fun x839 =>
            ldI w757 ((blk w.heap.size).add 7) .u8 fun x840 =>
            R (.tuple #[(.agg #[(.int .u16 x833), (.string x834), (.bool x835), (.bool x836), (.string x837), (.string x838), (.int .i64 x839), (.int .u8 x840)]), (.bool true)]) w757)
            (ifB (p0 == (247 : Int))
            (callR Try.prog 100 #[(.int .u16 p0), (.string (ByteArray.mk #[79, 112, 83, 101, 108, 101, 99, 116, 105, 111, 110, 77, 101, 114, 103, 101])), (.bool false), (.bool false), (.string (ByteArray.mk #[105, 104])), (.string (ByteArray.mk #[])), (.int .i64 (0 : Int)), (.int .u8 (8 : Int))] w1 fun v841 w758 =>
            ∃ x842 : (Int × ByteArray × Bool × Bool × ByteArray × ByteArray × Int × Int × Unit), v841 = (.agg #[(.int .u16 x842.1), (.string x842.2.1), (.bool x842.2.2.1), (.bool x842.2.2.2.1), (.string x842.2.2.2.2.1), (.string x842.2.2.2.2.2.1), (.int .i64 x842.2.2.2.2.2.2.1), (.int .u8 x842.2.2.2.2.2.2.2.1)]) ∧
            Wr w758 (blk w.heap.size) ∧
            Nw (w758.setCell (blk w.heap.size) (.int .u16 x842.1)) fun w759 =>
            Wr w759 ((blk w.heap.size).add 1) ∧
            Nw (w759.setCell ((blk w.heap.size).add 1) (.string x842.2.1)) fun w760 =>
            Wr w760 ((blk w.heap.size).add 2) ∧
            Nw (w760.setCell ((blk w.heap.size).add 2) (.bool x842.2.2.1)) fun w761 =>
            Wr w761 ((blk w.heap.size).add 3) ∧
            Nw (w761.setCell ((blk w.heap.size).add 3) (.bool x842.2.2.2.1)) fun w762 =>
            Wr w762 ((blk w.heap.size).add 4) ∧
            Nw (w762.setCell ((blk w.heap.size).add 4) (.string x842.2.2.2.2.1)) fun w763 =>
            Wr w763 ((blk w.heap.size).add 5) ∧
            Nw (w763.setCell ((blk w.heap.size).add 5) (.string x842.2.2.2.2.2.1)) fun w764 =>
            Wr w764 ((blk w.heap.size).add 6) ∧
            Nw (w764.setCell ((blk w.heap.size).add 6) (.int .i64 x842.2.2.2.2.2.2.1)) fun w765 =>
            Wr w765 ((blk w.heap.size).add 7) ∧
            Nw (w765.setCell ((blk w.heap.size).add 7) (.int .u8 x842.2.2.2.2.2.2.2.1)) fun w766 =>
            ldI w766 ((blk w.heap.size).add 0) .u16 fun x843 =>
            ldStr w766 ((blk w.heap.size).add 1) fun x844 =>
            ldB w766 ((blk w.heap.size).add 2) fun x845 =>
            ldB w766 ((blk w.heap.size).add 3) fun x846 =>
            ldStr w766 ((blk w.heap.size).add 4) fun x847 =>
            ldStr w766 ((blk w.heap.size).add 5) fun x848 =>
            ldI w766 ((blk w.heap.size).add 6) .i64 fun x849 =>
            ldI w766 ((blk w.heap.size).add 7) .u8 fun x850 =>
            R (.tuple #[(.agg #[(.int .u16 x843), (.string x844), (.bool x845), (.bool x846), (.string x847), (.string x848), (.int .i64 x849), (.int .u8 x850)]), (.bool true)]) w766)
            (ifB (p0 == (248 : Int))
            (callR Try.prog 100 #[(.int .u16 p0), (.string (ByteArray.mk #[79, 112, 76, 97, 98, 101, 108])), (.bool false), (.bool true), (.string (ByteArray.mk #[])), (.string (ByteArray.mk #[])), (.int .i64 (0 : Int)), (.int .u8 (8 : Int))] w1 fun v851 w767 =>
            ∃ x852 : (Int × ByteArray × Bool × Bool × ByteArray × ByteArray × Int × Int × Unit), v851 = (.agg #[(.int .u16 x852.1), (.string x852.2.1), (.bool x852.2.2.1), (.bool x852.2.2.2.1), (.string x852.2.2.2.2.1), (.string x852.2.2.2.2.2.1), (.int .i64 x852.2.2.2.2.2.2.1), (.int .u8 x852.2.2.2.2.2.2.2.1)]) ∧
            Wr w767 (blk w.heap.size) ∧
            Nw (w767.setCell (blk w.heap.size) (.int .u16 x852.1)) fun w768 =>
            Wr w768 ((blk w.heap.size).add 1) ∧
            Nw (w768.setCell ((blk w.heap.size).add 1) (.string x852.2.1)) fun w769 =>
            Wr w769 ((blk w.heap.size).add 2) ∧
            Nw (w769.setCell ((blk w.heap.size).add 2) (.bool x852.2.2.1)) fun w770 =>
            Wr w770 ((blk w.heap.size).add 3) ∧
            Nw (w770.setCell ((blk w.heap.size).add 3) (.bool x852.2.2.2.1)) fun w771 =>
            Wr w771 ((blk w.heap.size).add 4) ∧
            Nw (w771.setCell ((blk w.heap.size).add 4) (.string x852.2.2.2.2.1)) fun w772 =>
            Wr w772 ((blk w.heap.size).add 5) ∧
            Nw (w772.setCell ((blk w.heap.size).add 5) (.string x852.2.2.2.2.2.1)) fun w773 =>
            Wr w773 ((blk w.heap.size).add 6) ∧
            Nw (w773.setCell ((blk w.heap.size).add 6) (.int .i64 x852.2.2.2.2.2.2.1)) fun w774 =>
            Wr w774 ((blk w.heap.size).add 7) ∧
            Nw (w774.setCell ((blk w.heap.size).add 7) (.int .u8 x852.2.2.2.2.2.2.2.1)) fun w775 =>
            ldI w775 ((blk w.heap.size).add 0) .u16 fun x853 =>
            ldStr w775 ((blk w.heap.size).add 1) fun x854 =>
            ldB w775 ((blk w.heap.size).add 2) fun x855 =>
            ldB w775 ((blk w.heap.size).add 3) fun x856 =>
            ldStr w775 ((blk w.heap.size).add 4) fun x857 =>
            ldStr w775 ((blk w.heap.size).add 5) fun x858 =>
            ldI w775 ((blk w.heap.size).add 6) .i64 fun x859 =>
            ldI w775 ((blk w.heap.size).add 7) .u8 fun x860 =>
            R (.tuple #[(.agg #[(.int .u16 x853), (.string x854), (.bool x855), (.bool x856), (.string x857), (.string x858), (.int .i64 x859), (.int .u8 x860)]), (.bool true)]) w775)
            (ifB (p0 == (249 : Int))
            (callR Try.prog 100 #[(.int .u16 p0), (.string (ByteArray.mk #[79, 112, 66, 114, 97, 110, 99, 104])), (.bool false), (.bool false), (.string (ByteArray.mk #[105])), (.string (ByteArray.mk #[])), (.int .i64 (0 : Int)), (.int .u8 (8 : Int))] w1 fun v861 w776 =>
            ∃ x862 : (Int × ByteArray × Bool × Bool × ByteArray × ByteArray × Int × Int × Unit), v861 = (.agg #[(.int .u16 x862.1), (.string x862.2.1), (.bool x862.2.2.1), (.bool x862.2.2.2.1), (.string x862.2.2.2.2.1), (.string x862.2.2.2.2.2.1), (.int .i64 x862.2.2.2.2.2.2.1), (.int .u8 x862.2.2.2.2.2.2.2.1)]) ∧
            Wr w776 (blk w.heap.size) ∧
            Nw (w776.setCell (blk w.heap.size) (.int .u16 x862.1)) fun w777 =>
            Wr w777 ((blk w.heap.size).add 1) ∧
            Nw (w777.setCell ((blk w.heap.size).add 1) (.string x862.2.1)) fun w778 =>
            Wr w778 ((blk w.heap.size).add 2) ∧
            Nw (w778.setCell ((blk w.heap.size).add 2) (.bool x862.2.2.1)) fun w779 =>
            Wr w779 ((blk w.heap.size).add 3) ∧
            Nw (w779.setCell ((blk w.heap.size).add 3) (.bool x862.2.2.2.1)) fun w780 =>
            Wr w780 ((blk w.heap.size).add 4) ∧
            Nw (w780.setCell ((blk w.heap.size).add 4) (.string x862.2.2.2.2.1)) fun w781 =>
            Wr w781 ((blk w.heap.size).add 5) ∧
            Nw (w781.setCell ((blk w.heap.size).add 5) (.string x862.2.2.2.2.2.1)) fun w782 =>
            Wr w782 ((blk w.heap.size).add 6) ∧
            Nw (w782.setCell ((blk w.heap.size).add 6) (.int .i64 x862.2.2.2.2.2.2.1)) fun w783 =>
            Wr w783 ((blk w.heap.size).add 7) ∧
            Nw (w783.setCell ((blk w.heap.size).add 7) (.int .u8 x862.2.2.2.2.2.2.2.1)) fun w784 =>
            ldI w784 ((blk w.heap.size).add 0) .u16 fun x863 =>
            ldStr w784 ((blk w.heap.size).add 1) fun x864 =>
            ldB w784 ((blk w.heap.size).add 2) fun x865 =>
            ldB w784 ((blk w.heap.size).add 3) fun x866 =>
            ldStr w784 ((blk w.heap.size).add 4) fun x867 =>
            ldStr w784 ((blk w.heap.size).add 5) fun x868 =>
            ldI w784 ((blk w.heap.size).add 6) .i64 fun x869 =>
            ldI w784 ((blk w.heap.size).add 7) .u8 fun x870 =>
            R (.tuple #[(.agg #[(.int .u16 x863), (.string x864), (.bool x865), (.bool x866), (.string x867), (.string x868), (.int .i64 x869), (.int .u8 x870)]), (.bool true)]) w784)
            (ifB (p0 == (250 : Int))
            (callR Try.prog 100 #[(.int .u16 p0), (.string (ByteArray.mk #[79, 112, 66, 114, 97, 110, 99, 104, 67, 111, 110, 100, 105, 116, 105, 111, 110, 97, 108])), (.bool false), (.bool false), (.string (ByteArray.mk #[105, 105, 105])), (.string (ByteArray.mk #[])), (.int .i64 (0 : Int)), (.int .u8 (8 : Int))] w1 fun v871 w785 =>
            ∃ x872 : (Int × ByteArray × Bool × Bool × ByteArray × ByteArray × Int × Int × Unit), v871 = (.agg #[(.int .u16 x872.1), (.string x872.2.1), (.bool x872.2.2.1), (.bool x872.2.2.2.1), (.string x872.2.2.2.2.1), (.string x872.2.2.2.2.2.1), (.int .i64 x872.2.2.2.2.2.2.1), (.int .u8 x872.2.2.2.2.2.2.2.1)]) ∧
            Wr w785 (blk w.heap.size) ∧
            Nw (w785.setCell (blk w.heap.size) (.int .u16 x872.1)) fun w786 =>
            Wr w786 ((blk w.heap.size).add 1) ∧
            Nw (w786.setCell ((blk w.heap.size).add 1) (.string x872.2.1)) fun w787 =>
            Wr w787 ((blk w.heap.size).add 2) ∧
            Nw (w787.setCell ((blk w.heap.size).add 2) (.bool x872.2.2.1)) fun w788 =>
            Wr w788 ((blk w.heap.size).add 3) ∧
            Nw (w788.setCell ((blk w.heap.size).add 3) (.bool x872.2.2.2.1)) fun w789 =>
            Wr w789 ((blk w.heap.size).add 4) ∧
            Nw (w789.setCell ((blk w.heap.size).add 4) (.string x872.2.2.2.2.1)) fun w790 =>
            Wr w790 ((blk w.heap.size).add 5) ∧
            Nw (w790.setCell ((blk w.heap.size).add 5) (.string x872.2.2.2.2.2.1)) fun w791 =>
            Wr w791 ((blk w.heap.size).add 6) ∧
            Nw (w791.setCell ((blk w.heap.size).add 6) (.int .i64 x872.2.2.2.2.2.2.1)) fun w792 =>
            Wr w792 ((blk w.heap.size).add 7) ∧
            Nw (w792.setCell ((blk w.heap.size).add 7) (.int .u8 x872.2.2.2.2.2.2.2.1)) fun w793 =>
            ldI w793 ((blk w.heap.size).add 0) .u16 fun x873 =>
            ldStr w793 ((blk w.heap.size).add 1) fun x874 =>
            ldB w793 ((blk w.heap.size).add 2) fun x875 =>
            ldB w793 ((blk w.heap.size).add 3) fun x876 =>
            ldStr w793 ((blk w.heap.size).add 4) fun x877 =>
            ldStr w793 ((blk w.heap.size).add 5) fun x878 =>
            ldI w793 ((blk w.heap.size).add 6) .i64 fun x879 =>
            ldI w793 ((blk w.heap.size).add 7) .u8 fun x880 =>
            R (.tuple #[(.agg #[(.int .u16 x873), (.string x874), (.bool x875), (.bool x876), (.string x877), (.string x878), (.int .i64 x879), (.int .u8 x880)]), (.bool true)]) w793)
            (ifB (p0 == (251 : Int))
            (callR Try.prog 100 #[(.int .u16 p0), (.string (ByteArray.mk #[79, 112, 83, 119, 105, 116, 99, 104])), (.bool false), (.bool false), (.string (ByteArray.mk #[105, 105])), (.string (ByteArray.mk #[110, 105])), (.int .i64 (0 : Int)), (.int .u8 (8 : Int))] w1 fun v881 w794 =>
            ∃ x882 : (Int × ByteArray × Bool × Bool × ByteArray × ByteArray × Int × Int × Unit), v881 = (.agg #[(.int .u16 x882.1), (.string x882.2.1), (.bool x882.2.2.1), (.bool x882.2.2.2.1), (.string x882.2.2.2.2.1), (.string x882.2.2.2.2.2.1), (.int .i64 x882.2.2.2.2.2.2.1), (.int .u8 x882.2.2.2.2.2.2.2.1)]) ∧
            Wr w794 (blk w.heap.size) ∧
            Nw (w794.setCell (blk w.heap.size) (.int .u16 x882.1)) fun w795 =>
            Wr w795 ((blk w.heap.size).add 1) ∧
            Nw (w795.setCell ((blk w.heap.size).add 1) (.string x882.2.1)) fun w796 =>
            Wr w796 ((blk w.heap.size).add 2) ∧
            Nw (w796.setCell ((blk w.heap.size).add 2) (.bool x882.2.2.1)) fun w797 =>
            Wr w797 ((blk w.heap.size).add 3) ∧
            Nw (w797.setCell ((blk w.heap.size).add 3) (.bool x882.2.2.2.1)) fun w798 =>
            Wr w798 ((blk w.heap.size).add 4) ∧
            Nw (w798.setCell ((blk w.heap.size).add 4) (.string x882.2.2.2.2.1)) fun w799 =>
            Wr w799 ((blk w.heap.size).add 5) ∧
            Nw (w799.setCell ((blk w.heap.size).add 5) (.string x882.2.2.2.2.2.1)) fun w800 =>
            Wr w800 ((blk w.heap.size).add 6) ∧
            Nw (w800.setCell ((blk w.heap.size).add 6) (.int .i64 x882.2.2.2.2.2.2.1)) fun w801 =>
            Wr w801 ((blk w.heap.size).add 7) ∧
            Nw (w801.setCell ((blk w.heap.size).add 7) (.int .u8 x882.2.2.2.2.2.2.2.1)) fun w802 =>
            ldI w802 ((blk w.heap.size).add 0) .u16 fun x883 =>
            ldStr w802 ((blk w.heap.size).add 1) fun x884 =>
            ldB w802 ((blk w.heap.size).add 2) fun x885 =>
            ldB w802 ((blk w.heap.size).add 3) fun x886 =>
            ldStr w802 ((blk w.heap.size).add 4) fun x887 =>
            ldStr w802 ((blk w.heap.size).add 5) fun x888 =>
            ldI w802 ((blk w.heap.size).add 6) .i64 fun x889 =>
            ldI w802 ((blk w.heap.size).add 7) .u8 fun x890 =>
            R (.tuple #[(.agg #[(.int .u16 x883), (.string x884), (.bool x885), (.bool x886), (.string x887), (.string x888), (.int .i64 x889), (.int .u8 x890)]), (.bool true)]) w802)
            (ifB (p0 == (252 : Int))
            (callR Try.prog 100 #[(.int .u16 p0), (.string (ByteArray.mk #[79, 112, 75, 105, 108, 108])), (.bool false), (.bool false), (.string (ByteArray.mk #[])), (.string (ByteArray.mk #[])), (.int .i64 (0 : Int)), (.int .u8 (8 : Int))] w1 fun v891 w803 =>
            ∃ x892 : (Int × ByteArray × Bool × Bool × ByteArray × ByteArray × Int × Int × Unit), v891 = (.agg #[(.int .u16 x892.1), (.string x892.2.1), (.bool x892.2.2.1), (.bool x892.2.2.2.1), (.string x892.2.2.2.2.1), (.string x892.2.2.2.2.2.1), (.int .i64 x892.2.2.2.2.2.2.1), (.int .u8 x892.2.2.2.2.2.2.2.1)]) ∧
            Wr w803 (blk w.heap.size) ∧
            Nw (w803.setCell (blk w.heap.size) (.int .u16 x892.1)) fun w804 =>
            Wr w804 ((blk w.heap.size).add 1) ∧
            Nw (w804.setCell ((blk w.heap.size).add 1) (.string x892.2.1)) fun w805 =>
            Wr w805 ((blk w.heap.size).add 2) ∧
            Nw (w805.setCell ((blk w.heap.size).add 2) (.bool x892.2.2.1)) fun w806 =>
            Wr w806 ((blk w.heap.size).add 3) ∧
            Nw (w806.setCell ((blk w.heap.size).add 3) (.bool x892.2.2.2.1)) fun w807 =>
            Wr w807 ((blk w.heap.size).add 4) ∧
            Nw (w807.setCell ((blk w.heap.size).add 4) (.string x892.2.2.2.2.1)) fun w808 =>
            Wr w808 ((blk w.heap.size).add 5) ∧
            Nw (w808.setCell ((blk w.heap.size).add 5) (.string x892.2.2.2.2.2.1)) fun w809 =>
            Wr w809 ((blk w.heap.size).add 6) ∧
            Nw (w809.setCell ((blk w.heap.size).add 6) (.int .i64 x892.2.2.2.2.2.2.1)) fun w810 =>
            Wr w810 ((blk w.heap.size).add 7) ∧
            Nw (w810.setCell ((blk w.heap.size).add 7) (.int .u8 x892.2.2.2.2.2.2.2.1)) fun w811 =>
            ldI w811 ((blk w.heap.size).add 0) .u16 fun x893 =>
            ldStr w811 ((blk w.heap.size).add 1) fun x894 =>
            ldB w811 ((blk w.heap.size).add 2) fun x895 =>
            ldB w811 ((blk w.heap.size).add 3) fun x896 =>
            ldStr w811 ((blk w.heap.size).add 4) fun x897 =>
            ldStr w811 ((blk w.heap.size).add 5) fun x898 =>
            ldI w811 ((blk w.heap.size).add 6) .i64 fun x899 =>
            ldI w811 ((blk w.heap.size).add 7) .u8 fun x900 =>
            R (.tuple #[(.agg #[(.int .u16 x893), (.string x894), (.bool x895), (.bool x896), (.string x897), (.string x898), (.int .i64 x899), (.int .u8 x900)]), (.bool true)]) w811)
            (ifB (p0 == (253 : Int))
            (callR Try.prog 100 #[(.int .u16 p0), (.string (ByteArray.mk #[79, 112, 82, 101, 116, 117, 114, 110])), (.bool false), (.bool false), (.string (ByteArray.mk #[])), (.string (ByteArray.mk #[])), (.int .i64 (0 : Int)), (.int .u8 (8 : Int))] w1 fun v901 w812 =>
            ∃ x902 : (Int × ByteArray × Bool × Bool × ByteArray × ByteArray × Int × Int × Unit), v901 = (.agg #[(.int .u16 x902.1), (.string x902.2.1), (.bool x902.2.2.1), (.bool x902.2.2.2.1), (.string x902.2.2.2.2.1), (.string x902.2.2.2.2.2.1), (.int .i64 x902.2.2.2.2.2.2.1), (.int .u8 x902.2.2.2.2.2.2.2.1)]) ∧
            Wr w812 (blk w.heap.size) ∧
            Nw (w812.setCell (blk w.heap.size) (.int .u16 x902.1)) fun w813 =>
            Wr w813 ((blk w.heap.size).add 1) ∧
            Nw (w813.setCell ((blk w.heap.size).add 1) (.string x902.2.1)) fun w814 =>
            Wr w814 ((blk w.heap.size).add 2) ∧
            Nw (w814.setCell ((blk w.heap.size).add 2) (.bool x902.2.2.1)) fun w815 =>
            Wr w815 ((blk w.heap.size).add 3) ∧
            Nw (w815.setCell ((blk w.heap.size).add 3) (.bool x902.2.2.2.1)) fun w816 =>
            Wr w816 ((blk w.heap.size).add 4) ∧
            Nw (w816.setCell ((blk w.heap.size).add 4) (.string x902.2.2.2.2.1)) fun w817 =>
            Wr w817 ((blk w.heap.size).add 5) ∧
            Nw (w817.setCell ((blk w.heap.size).add 5) (.string x902.2.2.2.2.2.1)) fun w818 =>
            Wr w818 ((blk w.heap.size).add 6) ∧
            Nw (w818.setCell ((blk w.heap.size).add 6) (.int .i64 x902.2.2.2.2.2.2.1)) fun w819 =>
            Wr w819 ((blk w.heap.size).add 7) ∧
            Nw (w819.setCell ((blk w.heap.size).add 7) (.int .u8 x902.2.2.2.2.2.2.2.1)) fun w820 =>
            ldI w820 ((blk w.heap.size).add 0) .u16 fun x903 =>
            ldStr w820 ((blk w.heap.size).add 1) fun x904 =>
            ldB w820 ((blk w.heap.size).add 2) fun x905 =>
            ldB w820 ((blk w.heap.size).add 3) fun x906 =>
            ldStr w820 ((blk w.heap.size).add 4) fun x907 =>
            ldStr w820 ((blk w.heap.size).add 5) fun x908 =>
            ldI w820 ((blk w.heap.size).add 6) .i64 fun x909 =>
            ldI w820 ((blk w.heap.size).add 7) .u8 fun x910 =>
            R (.tuple #[(.agg #[(.int .u16 x903), (.string x904), (.bool x905), (.bool x906), (.string x907), (.string x908), (.int .i64 x909), (.int .u8 x910)]), (.bool true)]) w820)
            (ifB (p0 == (254 : Int))
            (callR Try.prog 100 #[(.int .u16 p0), (.string (ByteArray.mk #[79, 112, 82, 101, 116, 117, 114, 110, 86, 97, 108, 117, 101])), (.bool false), (.bool false), (.string (ByteArray.mk #[105])), (.string (ByteArray.mk #[])), (.int .i64 (0 : Int)), (.int .u8 (8 : Int))] w1 fun v911 w821 =>
            ∃ x912 : (Int × ByteArray × Bool × Bool × ByteArray × ByteArray × Int × Int × Unit), v911 = (.agg #[(.int .u16 x912.1), (.string x912.2.1), (.bool x912.2.2.1), (.bool x912.2.2.2.1), (.string x912.2.2.2.2.1), (.string x912.2.2.2.2.2.1), (.int .i64 x912.2.2.2.2.2.2.1), (.int .u8 x912.2.2.2.2.2.2.2.1)]) ∧
            Wr w821 (blk w.heap.size) ∧
            Nw (w821.setCell (blk w.heap.size) (.int .u16 x912.1)) fun w822 =>
            Wr w822 ((blk w.heap.size).add 1) ∧
            Nw (w822.setCell ((blk w.heap.size).add 1) (.string x912.2.1)) fun w823 =>
            Wr w823 ((blk w.heap.size).add 2) ∧
            Nw (w823.setCell ((blk w.heap.size).add 2) (.bool x912.2.2.1)) fun w824 =>
            Wr w824 ((blk w.heap.size).add 3) ∧
            Nw (w824.setCell ((blk w.heap.size).add 3) (.bool x912.2.2.2.1)) fun w825 =>
            Wr w825 ((blk w.heap.size).add 4) ∧
            Nw (w825.setCell ((blk w.heap.size).add 4) (.string x912.2.2.2.2.1)) fun w826 =>
            Wr w826 ((blk w.heap.size).add 5) ∧
            Nw (w826.setCell ((blk w.heap.size).add 5) (.string x912.2.2.2.2.2.1)) fun w827 =>
            Wr w827 ((blk w.heap.size).add 6) ∧
            Nw (w827.setCell ((blk w.heap.size).add 6) (.int .i64 x912.2.2.2.2.2.2.1)) fun w828 =>
            Wr w828 ((blk w.heap.size).add 7) ∧
            Nw (w828.setCell ((blk w.heap.size).add 7) (.int .u8 x912.2.2.2.2.2.2.2.1)) fun w829 =>
            ldI w829 ((blk w.heap.size).add 0) .u16 fun x913 =>
            ldStr w829 ((blk w.heap.size).add 1) fun x914 =>
            ldB w829 ((blk w.heap.size).add 2) fun x915 =>
            ldB w829 ((blk w.heap.size).add 3) fun x916 =>
            ldStr w829 ((blk w.heap.size).add 4) fun x917 =>
            ldStr w829 ((blk w.heap.size).add 5) fun x918 =>
            ldI w829 ((blk w.heap.size).add 6) .i64 fun x919 =>
            ldI w829 ((blk w.heap.size).add 7) .u8 fun x920 =>
            R (.tuple #[(.agg #[(.int .u16 x913), (.string x914), (.bool x915), (.bool x916), (.string x917), (.string x918), (.int .i64 x919), (.int .u8 x920)]), (.bool true)]) w829)
            (ifB (p0 == (255 : Int))
            (callR Try.prog 100 #[(.int .u16 p0), (.string (ByteArray.mk #[79, 112, 85, 110, 114, 101, 97, 99, 104, 97, 98, 108, 101])), (.bool false), (.bool false), (.string (ByteArray.mk #[])), (.string (ByteArray.mk #[])), (.int .i64 (0 : Int)), (.int .u8 (8 : Int))] w1 fun v921 w830 =>
            ∃ x922 : (Int × ByteArray × Bool × Bool × ByteArray × ByteArray × Int × Int × Unit), v921 = (.agg #[(.int .u16 x922.1), (.string x922.2.1), (.bool x922.2.2.1), (.bool x922.2.2.2.1), (.string x922.2.2.2.2.1), (.string x922.2.2.2.2.2.1), (.int .i64 x922.2.2.2.2.2.2.1), (.int .u8 x922.2.2.2.2.2.2.2.1)]) ∧
            Wr w830 (blk w.heap.size) ∧
            Nw (w830.setCell (blk w.heap.size) (.int .u16 x922.1)) fun w831 =>
            Wr w831 ((blk w.heap.size).add 1) ∧
            Nw (w831.setCell ((blk w.heap.size).add 1) (.string x922.2.1)) fun w832 =>
            Wr w832 ((blk w.heap.size).add 2) ∧
            Nw (w832.setCell ((blk w.heap.size).add 2) (.bool x922.2.2.1)) fun w833 =>
            Wr w833 ((blk w.heap.size).add 3) ∧
            Nw (w833.setCell ((blk w.heap.size).add 3) (.bool x922.2.2.2.1)) fun w834 =>
            Wr w834 ((blk w.heap.size).add 4) ∧
            Nw (w834.setCell ((blk w.heap.size).add 4) (.string x922.2.2.2.2.1)) fun w835 =>
            Wr w835 ((blk w.heap.size).add 5) ∧
            Nw (w835.setCell ((blk w.heap.size).add 5) (.string x922.2.2.2.2.2.1)) fun w836 =>
            Wr w836 ((blk w.heap.size).add 6) ∧
            Nw (w836.setCell ((blk w.heap.size).add 6) (.int .i64 x922.2.2.2.2.2.2.1)) fun w837 =>
            Wr w837 ((blk w.heap.size).add 7) ∧
            Nw (w837.setCell ((blk w.heap.size).add 7) (.int .u8 x922.2.2.2.2.2.2.2.1)) fun w838 =>
            ldI w838 ((blk w.heap.size).add 0) .u16 fun x923 =>
            ldStr w838 ((blk w.heap.size).add 1) fun x924 =>
            ldB w838 ((blk w.heap.size).add 2) fun x925 =>
            ldB w838 ((blk w.heap.size).add 3) fun x926 =>
            ldStr w838 ((blk w.heap.size).add 4) fun x927 =>
            ldStr w838 ((blk w.heap.size).add 5) fun x928 =>
            ldI w838 ((blk w.heap.size).add 6) .i64 fun x929 =>
            ldI w838 ((blk w.heap.size).add 7) .u8 fun x930 =>
            R (.tuple #[(.agg #[(.int .u16 x923), (.string x924), (.bool x925), (.bool x926), (.string x927), (.string x928), (.int .i64 x929), (.int .u8 x930)]), (.bool true)]) w838)
            (Wr w1 (blk w.heap.size) ∧
            Nw (w1.setCell (blk w.heap.size) (.int .u16 (0 : Int))) fun w839 =>
            Wr w839 ((blk w.heap.size).add 1) ∧
            Nw (w839.setCell ((blk w.heap.size).add 1) (.string (ByteArray.mk #[]))) fun w840 =>
            Wr w840 ((blk w.heap.size).add 2) ∧
            Nw (w840.setCell ((blk w.heap.size).add 2) (.bool false)) fun w841 =>
            Wr w841 ((blk w.heap.size).add 3) ∧
            Nw (w841.setCell ((blk w.heap.size).add 3) (.bool false)) fun w842 =>
            Wr w842 ((blk w.heap.size).add 4) ∧
            Nw (w842.setCell ((blk w.heap.size).add 4) (.string (ByteArray.mk #[]))) fun w843 =>
            Wr w843 ((blk w.heap.size).add 5) ∧
            Nw (w843.setCell ((blk w.heap.size).add 5) (.string (ByteArray.mk #[]))) fun w844 =>
            Wr w844 ((blk w.heap.size).add 6) ∧
            Nw (w844.setCell ((blk w.heap.size).add 6) (.int .i64 (0 : Int))) fun w845 =>
            Wr w845 ((blk w.heap.size).add 7) ∧
            Nw (w845.setCell ((blk w.heap.size).add 7) (.int .u8 (0 : Int))) fun w846 =>
            ldI w846 ((blk w.heap.size).add 0) .u16 fun x931 =>
            ldStr w846 ((blk w.heap.size).add 1) fun x932 =>
            ldB w846 ((blk w.heap.size).add 2) fun x933 =>
            ldB w846 ((blk w.heap.size).add 3) fun x934 =>
            ldStr w846 ((blk w.heap.size).add 4) fun x935 =>
            ldStr w846 ((blk w.heap.size).add 5) fun x936 =>
            ldI w846 ((blk w.heap.size).add 6) .i64 fun x937 =>
            ldI w846 ((blk w.heap.size).add 7) .u8 fun x938 =>
            R (.tuple #[(.agg #[(.int .u16 x931), (.string x932), (.bool x933), (.bool x934), (.string x935), (.string x936), (.int .i64 x937), (.int .u8 x938)]), (.bool false)]) w846)))))))))))))))))))))))))))))))))))))))))))))))))))))))))))))))))))))))))))))))))))))))))))))
theorem intaglioref03_Of_calls (p0 : Int) (R : Value → World → Prop) (w : World) (h : L_intaglioref03_Of p0 R w) : Calls Try.prog 75 #[(.int .u16 p0)] w (Ret R) :=
 lw_calls (fs := Try.fs) (an := a_intaglioref03_Of) (args := [(.int .u16 p0)]) Try.fsOK Try.mixed Try.func75 (by kernel_rfl) (by kernel_rfl)
  (Eq.mpr (by kernel_rfl : lwFn Try.prog Try.fs Try.f75 a_intaglioref03_Of [(.int .u16 p0)] w R = L_intaglioref03_Of p0 R w) h)

/-- intaglio.intaglioref03.Letter -/
def a_intaglioref03_Letter : Ann := (.seq none .nil (.seq none .nil (.seq (some ⟨[1, 5], []⟩) (.seq none .nil (.cond (.seq none .nil .nil) .nil)) (.seq none (.seq none .nil (.cond (.seq none .nil .nil) .nil)) (.seq none (.seq none .nil (.cond (.seq none .nil .nil) .nil)) (.seq none .nil (.seq (some ⟨[5, 7], []⟩) (.seq none .nil (.cond (.seq none .nil .nil) .nil)) (.seq none .nil .nil))))))))
def L_intaglioref03_Letter (p0 : Int) (p1 : Int) (R : Value → World → Prop) (w : World) : Prop :=
 callR Try.prog 75 #[(.int .u16 p0)] w fun v1 w1 =>
 ∃ x2 : (Int × ByteArray × Bool × Bool × ByteArray × ByteArray × Int × Int × Unit), ∃ x3 : Bool, v1 = (.tuple #[(.agg #[(.int .u16 x2.1), (.string x2.2.1), (.bool x2.2.2.1), (.bool x2.2.2.2.1), (.string x2.2.2.2.2.1), (.string x2.2.2.2.2.2.1), (.int .i64 x2.2.2.2.2.2.2.1), (.int .u8 x2.2.2.2.2.2.2.2.1)]), (.bool x3)]) ∧
 Nw (w1.alloc (.cells #[(.int .u16 (0 : Int)), (.string (ByteArray.mk #[])), (.bool false), (.bool false), (.string (ByteArray.mk #[])), (.string (ByteArray.mk #[])), (.int .i64 (0 : Int)), (.int .u8 (0 : Int))] 133)) fun w2 =>
 Wr w2 (blk w1.heap.size) ∧
 Nw (w2.setCell (blk w1.heap.size) (.int .u16 x2.1)) fun w3 =>
 Wr w3 ((blk w1.heap.size).add 1) ∧
 Nw (w3.setCell ((blk w1.heap.size).add 1) (.string x2.2.1)) fun w4 =>
 Wr w4 ((blk w1.heap.size).add 2) ∧
 Nw (w4.setCell ((blk w1.heap.size).add 2) (.bool x2.2.2.1)) fun w5 =>
 Wr w5 ((blk w1.heap.size).add 3) ∧
 Nw (w5.setCell ((blk w1.heap.size).add 3) (.bool x2.2.2.2.1)) fun w6 =>
 Wr w6 ((blk w1.heap.size).add 4) ∧
 Nw (w6.setCell ((blk w1.heap.size).add 4) (.string x2.2.2.2.2.1)) fun w7 =>
 Wr w7 ((blk w1.heap.size).add 5) ∧
 Nw (w7.setCell ((blk w1.heap.size).add 5) (.string x2.2.2.2.2.2.1)) fun w8 =>
 Wr w8 ((blk w1.heap.size).add 6) ∧
 Nw (w8.setCell ((blk w1.heap.size).add 6) (.int .i64 x2.2.2.2.2.2.2.1)) fun w9 =>
 Wr w9 ((blk w1.heap.size).add 7) ∧
 Nw (w9.setCell ((blk w1.heap.size).add 7) (.int .u8 x2.2.2.2.2.2.2.2.1)) fun w10 =>
 JoinW (S := Unit) (fun m4 =>
   ifB (!x3)
    (R (.int .u8 (0 : Int)) w10)
    (ifB (decide (p1 < (0 : Int)))
     (R (.int .u8 (0 : Int)) w10)
     (m4 (()) w10)))
  (fun s5 w11 =>
   ldStr w11 ((blk w1.heap.size).add 4) fun x6 =>
   ifB (decide (p1 < (x6.size : Int)))
    (ldStr w11 ((blk w1.heap.size).add 4) fun x7 =>
    (0 ≤ p1 ∧ p1 < (x7.size : Int)) ∧
    R (.int .u8 (byteI x7 p1)) w11)
    (ldStr w11 ((blk w1.heap.size).add 5) fun x8 =>
    ifB ((x8.size : Int) == (0 : Int))
     (R (.int .u8 (0 : Int)) w11)
     (ldStr w11 ((blk w1.heap.size).add 4) fun x9 =>
     JoinW (S := Unit) (fun m10 =>
       ldI w11.drew ((blk w1.heap.size).add 6) .i64 fun x12 =>
       ifB (decide (x12 > (0 : Int)))
        (ldStr w11.drew ((blk w1.heap.size).add 5) fun x13 =>
        ifB (decide ((x13.size : Int) = 0))
         (False)
         (ldI w11.drew ((blk w1.heap.size).add 6) .i64 fun x14 =>
         ifB (decide ((IntKind.i64.wrap (Int.tdiv (IntKind.i64.wrap (p1 - (x9.size : Int))) (x13.size : Int))) ≥ x14))
          (R (.int .u8 (0 : Int)) w11.drew)
          (m10 (()) w11.drew)))
        (m10 (()) w11.drew))
      (fun s11 w12 =>
       ldStr w12.drew ((blk w1.heap.size).add 5) fun x15 =>
       ldStr w12.drew ((blk w1.heap.size).add 5) fun x16 =>
       ifB (decide ((x16.size : Int) = 0))
        (False)
        ((0 ≤ (Int.tmod (IntKind.i64.wrap (p1 - (x9.size : Int))) (x16.size : Int)) ∧ (Int.tmod (IntKind.i64.wrap (p1 - (x9.size : Int))) (x16.size : Int)) < (x15.size : Int)) ∧
        R (.int .u8 (byteI x15 (Int.tmod (IntKind.i64.wrap (p1 - (x9.size : Int))) (x16.size : Int)))) w12.drew)))))
theorem intaglioref03_Letter_calls (p0 : Int) (p1 : Int) (R : Value → World → Prop) (w : World) (h : L_intaglioref03_Letter p0 p1 R w) : Calls Try.prog 98 #[(.int .u16 p0), (.int .i64 p1)] w (Ret R) :=
 lw_calls (fs := Try.fs) (an := a_intaglioref03_Letter) (args := [(.int .u16 p0), (.int .i64 p1)]) Try.fsOK Try.mixed Try.func98 (by kernel_rfl) (by kernel_rfl)
  (Eq.mpr (by kernel_rfl : lwFn Try.prog Try.fs Try.f98 a_intaglioref03_Letter [(.int .u16 p0), (.int .i64 p1)] w R = L_intaglioref03_Letter p0 p1 R w) h)

/-- intaglio.intaglioref03.form -/
def a_intaglioref03_form : Ann := (.seq none .nil (.seq none .nil .nil))
def L_intaglioref03_form (p0 : Int) (p1 : ByteArray) (p2 : Bool) (p3 : Bool) (p4 : ByteArray) (p5 : ByteArray) (p6 : Int) (p7 : Int) (R : Value → World → Prop) (w : World) : Prop :=
 Nw (w.alloc (.cells #[(.int .u16 (0 : Int)), (.string (ByteArray.mk #[])), (.bool false), (.bool false), (.string (ByteArray.mk #[])), (.string (ByteArray.mk #[])), (.int .i64 (0 : Int)), (.int .u8 (0 : Int))] 133)) fun w1 =>
 Wr w1 (blk w.heap.size) ∧
 Nw (w1.setCell (blk w.heap.size) (.int .u16 p0)) fun w2 =>
 Wr w2 ((blk w.heap.size).add 1) ∧
 Nw (w2.setCell ((blk w.heap.size).add 1) (.string p1)) fun w3 =>
 Wr w3 ((blk w.heap.size).add 2) ∧
 Nw (w3.setCell ((blk w.heap.size).add 2) (.bool p2)) fun w4 =>
 Wr w4 ((blk w.heap.size).add 3) ∧
 Nw (w4.setCell ((blk w.heap.size).add 3) (.bool p3)) fun w5 =>
 Wr w5 ((blk w.heap.size).add 4) ∧
 Nw (w5.setCell ((blk w.heap.size).add 4) (.string p4)) fun w6 =>
 Wr w6 ((blk w.heap.size).add 5) ∧
 Nw (w6.setCell ((blk w.heap.size).add 5) (.string p5)) fun w7 =>
 Wr w7 ((blk w.heap.size).add 6) ∧
 Nw (w7.setCell ((blk w.heap.size).add 6) (.int .i64 p6)) fun w8 =>
 Wr w8 ((blk w.heap.size).add 7) ∧
 Nw (w8.setCell ((blk w.heap.size).add 7) (.int .u8 p7)) fun w9 =>
 ldI w9 ((blk w.heap.size).add 0) .u16 fun x1 =>
 ldStr w9 ((blk w.heap.size).add 1) fun x2 =>
 ldB w9 ((blk w.heap.size).add 2) fun x3 =>
 ldB w9 ((blk w.heap.size).add 3) fun x4 =>
 ldStr w9 ((blk w.heap.size).add 4) fun x5 =>
 ldStr w9 ((blk w.heap.size).add 5) fun x6 =>
 ldI w9 ((blk w.heap.size).add 6) .i64 fun x7 =>
 ldI w9 ((blk w.heap.size).add 7) .u8 fun x8 =>
 R (.agg #[(.int .u16 x1), (.string x2), (.bool x3), (.bool x4), (.string x5), (.string x6), (.int .i64 x7), (.int .u8 x8)]) w9
theorem intaglioref03_form_calls (p0 : Int) (p1 : ByteArray) (p2 : Bool) (p3 : Bool) (p4 : ByteArray) (p5 : ByteArray) (p6 : Int) (p7 : Int) (R : Value → World → Prop) (w : World) (h : L_intaglioref03_form p0 p1 p2 p3 p4 p5 p6 p7 R w) : Calls Try.prog 100 #[(.int .u16 p0), (.string p1), (.bool p2), (.bool p3), (.string p4), (.string p5), (.int .i64 p6), (.int .u8 p7)] w (Ret R) :=
 lw_calls (fs := Try.fs) (an := a_intaglioref03_form) (args := [(.int .u16 p0), (.string p1), (.bool p2), (.bool p3), (.string p4), (.string p5), (.int .i64 p6), (.int .u8 p7)]) Try.fsOK Try.mixed Try.func100 (by kernel_rfl) (by kernel_rfl)
  (Eq.mpr (by kernel_rfl : lwFn Try.prog Try.fs Try.f100 a_intaglioref03_form [(.int .u16 p0), (.string p1), (.bool p2), (.bool p3), (.string p4), (.string p5), (.int .i64 p6), (.int .u8 p7)] w R = L_intaglioref03_form p0 p1 p2 p3 p4 p5 p6 p7 R w) h)

/-- intaglio.intaglioref03.Kind -/
def a_intaglioref03_Kind : Ann := (.seq none .nil (.seq none (.seq none .nil (.cond (.seq none .nil .nil) .nil)) (.seq none (.seq none .nil (.cond (.seq none .nil .nil) .nil)) (.seq none (.seq none .nil (.cond (.seq none .nil .nil) .nil)) (.seq none .nil (.seq none (.seq none .nil (.one (.loop ⟨[0, 3], [(4, (.b (.int .i64)))]⟩ (.seq none (.seq none .nil (.cond .nil .nil)) (.seq none (.one (.seq none .nil (.cond (.seq none .nil .nil) .nil))) .nil))))) (.seq none .nil .nil)))))))
def L_intaglioref03_Kind (p0 : Int) (R : Value → World → Prop) (w : World) : Prop :=
 ifB (p0 == (105 : Int))
  (R (.int .u8 (1 : Int)) w)
  (ifB (p0 == (110 : Int))
   (R (.int .u8 (2 : Int)) w)
   (ifB (p0 == (115 : Int))
    (R (.int .u8 (3 : Int)) w)
    (callR Try.prog 144 #[] w fun v1 w1 =>
    ∃ x2 : Sl, v1 = (.slice x2.a x2.l x2.c) ∧
    LoopW (S := Int × Unit) (fun s3 w2 n4 =>
      ifB (decide (s3.1 < (x2.l : Int)))
       ((0 ≤ s3.1 ∧ s3.1 < (x2.l : Int)) ∧
       derefP x2.a fun a5 =>
       ldI w2 (a5.add ((Int.toNat s3.1) * 3)) .u8 fun x6 =>
       ifB (x6 == p0)
        (R (.int .u8 (4 : Int)) w2)
        (n4 ((IntKind.i64.wrap (s3.1 + (1 : Int))), ()) w2))
       (R (.int .u8 (0 : Int)) w2))
     ((0 : Int), ()) w1)))
theorem intaglioref03_Kind_calls (p0 : Int) (R : Value → World → Prop) (w : World) (h : L_intaglioref03_Kind p0 R w) : Calls Try.prog 120 #[(.int .u8 p0)] w (Ret R) :=
 lw_calls (fs := Try.fs) (an := a_intaglioref03_Kind) (args := [(.int .u8 p0)]) Try.fsOK Try.mixed Try.func120 (by kernel_rfl) (by kernel_rfl)
  (Eq.mpr (by kernel_rfl : lwFn Try.prog Try.fs Try.f120 a_intaglioref03_Kind [(.int .u8 p0)] w R = L_intaglioref03_Kind p0 R w) h)

/-- intaglio.intaglioref03.Enum -/
def a_intaglioref03_Enum : Ann := (.seq none .nil (.seq none .nil (.seq none (.seq none .nil (.one (.loop ⟨[0, 1, 6], [(7, (.b (.int .i64)))]⟩ (.seq none (.seq none .nil (.cond .nil .nil)) (.seq (some ⟨[0, 1, 6, 7], []⟩) (.one (.seq none .nil (.cond (.seq none .nil .nil) .nil))) .nil))))) (.seq none .nil .nil))))
def L_intaglioref03_Enum (p0 : Int) (p1 : Int) (R : Value → World → Prop) (w : World) : Prop :=
 callR Try.prog 144 #[] w fun v1 w1 =>
 ∃ x2 : Sl, v1 = (.slice x2.a x2.l x2.c) ∧
 LoopW (S := Int × Unit) (fun s3 w2 n4 =>
   ifB (decide (s3.1 < (x2.l : Int)))
    (JoinW (S := Unit) (fun m5 =>
      (0 ≤ s3.1 ∧ s3.1 < (x2.l : Int)) ∧
      derefP x2.a fun a7 =>
      ldI w2 (a7.add ((Int.toNat s3.1) * 3)) .u8 fun x8 =>
      ifB (x8 == p0)
       ((0 ≤ s3.1 ∧ s3.1 < (x2.l : Int)) ∧
       derefP x2.a fun a9 =>
       ldI w2 ((a9.add ((Int.toNat s3.1) * 3)).add 1) .u32 fun x10 =>
       ifB (x10 == p1)
        ((0 ≤ s3.1 ∧ s3.1 < (x2.l : Int)) ∧
        derefP x2.a fun a11 =>
        ldStr w2 ((a11.add ((Int.toNat s3.1) * 3)).add 2) fun x12 =>
        R (.tuple #[(.string x12), (.bool true)]) w2)
        (m5 (()) w2))
       (m5 (()) w2))
     (fun s6 w3 =>
      n4 ((IntKind.i64.wrap (s3.1 + (1 : Int))), ()) w3))
    (R (.tuple #[(.string (ByteArray.mk #[])), (.bool false)]) w2))
  ((0 : Int), ()) w1
theorem intaglioref03_Enum_calls (p0 : Int) (p1 : Int) (R : Value → World → Prop) (w : World) (h : L_intaglioref03_Enum p0 p1 R w) : Calls Try.prog 122 #[(.int .u8 p0), (.int .u32 p1)] w (Ret R) :=
 lw_calls (fs := Try.fs) (an := a_intaglioref03_Enum) (args := [(.int .u8 p0), (.int .u32 p1)]) Try.fsOK Try.mixed Try.func122 (by kernel_rfl) (by kernel_rfl)
  (Eq.mpr (by kernel_rfl : lwFn Try.prog Try.fs Try.f122 a_intaglioref03_Enum [(.int .u8 p0), (.int .u32 p1)] w R = L_intaglioref03_Enum p0 p1 R w) h)

/-- intaglio.intaglioref03.Names -/
def a_intaglioref03_Names : Ann := (.seq none .nil (.seq none .nil (.seq none .nil (.seq none .nil (.seq none .nil (.seq none .nil (.seq none .nil (.seq none .nil (.seq none .nil (.seq none .nil (.seq none .nil (.seq none .nil (.seq none .nil (.seq none .nil (.seq none .nil (.seq none .nil (.seq none .nil (.seq none .nil (.seq none .nil (.seq none .nil (.seq none .nil (.seq none .nil (.seq none .nil (.seq none .nil (.seq none .nil (.seq none .nil (.seq none .nil (.seq none .nil (.seq none .nil (.seq none .nil (.seq none .nil (.seq none .nil (.seq none .nil .nil)))))))))))))))))))))))))))))))))
def L_intaglioref03_Names  (R : Value → World → Prop) (w : World) : Prop :=
 Nw (w.alloc (.cells #[(.int .u8 (107 : Int)), (.int .u32 (0 : Int)), (.string (ByteArray.mk #[77, 97, 116, 114, 105, 120]))] 207)) fun w1 =>
 appendS Try.prog 204 (.slice none 0 0) (.slice (some (blk w.heap.size)) 1 1) w1 fun r1 w2 =>
 Nw (w2.alloc (.cells #[(.int .u8 (107 : Int)), (.int .u32 (1 : Int)), (.string (ByteArray.mk #[83, 104, 97, 100, 101, 114]))] 207)) fun w3 =>
 appendS Try.prog 204 (.slice r1.a r1.l r1.c) (.slice (some (blk w2.heap.size)) 1 1) w3 fun r2 w4 =>
 Nw (w4.alloc (.cells #[(.int .u8 (97 : Int)), (.int .u32 (0 : Int)), (.string (ByteArray.mk #[76, 111, 103, 105, 99, 97, 108]))] 207)) fun w5 =>
 appendS Try.prog 204 (.slice r2.a r2.l r2.c) (.slice (some (blk w4.heap.size)) 1 1) w5 fun r3 w6 =>
 Nw (w6.alloc (.cells #[(.int .u8 (109 : Int)), (.int .u32 (0 : Int)), (.string (ByteArray.mk #[83, 105, 109, 112, 108, 101]))] 207)) fun w7 =>
 appendS Try.prog 204 (.slice r3.a r3.l r3.c) (.slice (some (blk w6.heap.size)) 1 1) w7 fun r4 w8 =>
 Nw (w8.alloc (.cells #[(.int .u8 (109 : Int)), (.int .u32 (1 : Int)), (.string (ByteArray.mk #[71, 76, 83, 76, 52, 53, 48]))] 207)) fun w9 =>
 appendS Try.prog 204 (.slice r4.a r4.l r4.c) (.slice (some (blk w8.heap.size)) 1 1) w9 fun r5 w10 =>
 Nw (w10.alloc (.cells #[(.int .u8 (101 : Int)), (.int .u32 (0 : Int)), (.string (ByteArray.mk #[86, 101, 114, 116, 101, 120]))] 207)) fun w11 =>
 appendS Try.prog 204 (.slice r5.a r5.l r5.c) (.slice (some (blk w10.heap.size)) 1 1) w11 fun r6 w12 =>
 Nw (w12.alloc (.cells #[(.int .u8 (101 : Int)), (.int .u32 (4 : Int)), (.string (ByteArray.mk #[70, 114, 97, 103, 109, 101, 110, 116]))] 207)) fun w13 =>
 appendS Try.prog 204 (.slice r6.a r6.l r6.c) (.slice (some (blk w12.heap.size)) 1 1) w13 fun r7 w14 =>
 Nw (w14.alloc (.cells #[(.int .u8 (120 : Int)), (.int .u32 (7 : Int)), (.string (ByteArray.mk #[79, 114, 105, 103, 105, 110, 85, 112, 112, 101, 114, 76, 101, 102, 116]))] 207)) fun w15 =>
 appendS Try.prog 204 (.slice r7.a r7.l r7.c) (.slice (some (blk w14.heap.size)) 1 1) w15 fun r8 w16 =>
 Nw (w16.alloc (.cells #[(.int .u8 (108 : Int)), (.int .u32 (0 : Int)), (.string (ByteArray.mk #[85, 110, 107, 110, 111, 119, 110]))] 207)) fun w17 =>
 appendS Try.prog 204 (.slice r8.a r8.l r8.c) (.slice (some (blk w16.heap.size)) 1 1) w17 fun r9 w18 =>
 Nw (w18.alloc (.cells #[(.int .u8 (108 : Int)), (.int .u32 (1 : Int)), (.string (ByteArray.mk #[69, 83, 83, 76]))] 207)) fun w19 =>
 appendS Try.prog 204 (.slice r9.a r9.l r9.c) (.slice (some (blk w18.heap.size)) 1 1) w19 fun r10 w20 =>
 Nw (w20.alloc (.cells #[(.int .u8 (108 : Int)), (.int .u32 (2 : Int)), (.string (ByteArray.mk #[71, 76, 83, 76]))] 207)) fun w21 =>
 appendS Try.prog 204 (.slice r10.a r10.l r10.c) (.slice (some (blk w20.heap.size)) 1 1) w21 fun r11 w22 =>
 Nw (w22.alloc (.cells #[(.int .u8 (99 : Int)), (.int .u32 (1 : Int)), (.string (ByteArray.mk #[73, 110, 112, 117, 116]))] 207)) fun w23 =>
 appendS Try.prog 204 (.slice r11.a r11.l r11.c) (.slice (some (blk w22.heap.size)) 1 1) w23 fun r12 w24 =>
 Nw (w24.alloc (.cells #[(.int .u8 (99 : Int)), (.int .u32 (3 : Int)), (.string (ByteArray.mk #[79, 117, 116, 112, 117, 116]))] 207)) fun w25 =>
 appendS Try.prog 204 (.slice r12.a r12.l r12.c) (.slice (some (blk w24.heap.size)) 1 1) w25 fun r13 w26 =>
 Nw (w26.alloc (.cells #[(.int .u8 (99 : Int)), (.int .u32 (6 : Int)), (.string (ByteArray.mk #[80, 114, 105, 118, 97, 116, 101]))] 207)) fun w27 =>
 appendS Try.prog 204 (.slice r13.a r13.l r13.c) (.slice (some (blk w26.heap.size)) 1 1) w27 fun r14 w28 =>
 Nw (w28.alloc (.cells #[(.int .u8 (99 : Int)), (.int .u32 (7 : Int)), (.string (ByteArray.mk #[70, 117, 110, 99, 116, 105, 111, 110]))] 207)) fun w29 =>
 appendS Try.prog 204 (.slice r14.a r14.l r14.c) (.slice (some (blk w28.heap.size)) 1 1) w29 fun r15 w30 =>
 Nw (w30.alloc (.cells #[(.int .u8 (100 : Int)), (.int .u32 (0 : Int)), (.string (ByteArray.mk #[82, 101, 108, 97, 120, 101, 100, 80, 114, 101, 99, 105, 115, 105, 111, 110]))] 207)) fun w31 =>
 appendS Try.prog 204 (.slice r15.a r15.l r15.c) (.slice (some (blk w30.heap.size)) 1 1) w31 fun r16 w32 =>
 Nw (w32.alloc (.cells #[(.int .u8 (100 : Int)), (.int .u32 (11 : Int)), (.string (ByteArray.mk #[66, 117, 105, 108, 116, 73, 110]))] 207)) fun w33 =>
 appendS Try.prog 204 (.slice r16.a r16.l r16.c) (.slice (some (blk w32.heap.size)) 1 1) w33 fun r17 w34 =>
 Nw (w34.alloc (.cells #[(.int .u8 (100 : Int)), (.int .u32 (14 : Int)), (.string (ByteArray.mk #[70, 108, 97, 116]))] 207)) fun w35 =>
 appendS Try.prog 204 (.slice r17.a r17.l r17.c) (.slice (some (blk w34.heap.size)) 1 1) w35 fun r18 w36 =>
 Nw (w36.alloc (.cells #[(.int .u8 (100 : Int)), (.int .u32 (30 : Int)), (.string (ByteArray.mk #[76, 111, 99, 97, 116, 105, 111, 110]))] 207)) fun w37 =>
 appendS Try.prog 204 (.slice r18.a r18.l r18.c) (.slice (some (blk w36.heap.size)) 1 1) w37 fun r19 w38 =>
 Nw (w38.alloc (.cells #[(.int .u8 (102 : Int)), (.int .u32 (0 : Int)), (.string (ByteArray.mk #[78, 111, 110, 101]))] 207)) fun w39 =>
 appendS Try.prog 204 (.slice r19.a r19.l r19.c) (.slice (some (blk w38.heap.size)) 1 1) w39 fun r20 w40 =>
 Nw (w40.alloc (.cells #[(.int .u8 (102 : Int)), (.int .u32 (1 : Int)), (.string (ByteArray.mk #[73, 110, 108, 105, 110, 101]))] 207)) fun w41 =>
 appendS Try.prog 204 (.slice r20.a r20.l r20.c) (.slice (some (blk w40.heap.size)) 1 1) w41 fun r21 w42 =>
 Nw (w42.alloc (.cells #[(.int .u8 (102 : Int)), (.int .u32 (2 : Int)), (.string (ByteArray.mk #[68, 111, 110, 116, 73, 110, 108, 105, 110, 101]))] 207)) fun w43 =>
 appendS Try.prog 204 (.slice r21.a r21.l r21.c) (.slice (some (blk w42.heap.size)) 1 1) w43 fun r22 w44 =>
 Nw (w44.alloc (.cells #[(.int .u8 (102 : Int)), (.int .u32 (4 : Int)), (.string (ByteArray.mk #[80, 117, 114, 101]))] 207)) fun w45 =>
 appendS Try.prog 204 (.slice r22.a r22.l r22.c) (.slice (some (blk w44.heap.size)) 1 1) w45 fun r23 w46 =>
 Nw (w46.alloc (.cells #[(.int .u8 (102 : Int)), (.int .u32 (8 : Int)), (.string (ByteArray.mk #[67, 111, 110, 115, 116]))] 207)) fun w47 =>
 appendS Try.prog 204 (.slice r23.a r23.l r23.c) (.slice (some (blk w46.heap.size)) 1 1) w47 fun r24 w48 =>
 Nw (w48.alloc (.cells #[(.int .u8 (104 : Int)), (.int .u32 (0 : Int)), (.string (ByteArray.mk #[78, 111, 110, 101]))] 207)) fun w49 =>
 appendS Try.prog 204 (.slice r24.a r24.l r24.c) (.slice (some (blk w48.heap.size)) 1 1) w49 fun r25 w50 =>
 Nw (w50.alloc (.cells #[(.int .u8 (104 : Int)), (.int .u32 (1 : Int)), (.string (ByteArray.mk #[70, 108, 97, 116, 116, 101, 110]))] 207)) fun w51 =>
 appendS Try.prog 204 (.slice r25.a r25.l r25.c) (.slice (some (blk w50.heap.size)) 1 1) w51 fun r26 w52 =>
 Nw (w52.alloc (.cells #[(.int .u8 (104 : Int)), (.int .u32 (2 : Int)), (.string (ByteArray.mk #[68, 111, 110, 116, 70, 108, 97, 116, 116, 101, 110]))] 207)) fun w53 =>
 appendS Try.prog 204 (.slice r26.a r26.l r26.c) (.slice (some (blk w52.heap.size)) 1 1) w53 fun r27 w54 =>
 Nw (w54.alloc (.cells #[(.int .u8 (103 : Int)), (.int .u32 (0 : Int)), (.string (ByteArray.mk #[78, 111, 110, 101]))] 207)) fun w55 =>
 appendS Try.prog 204 (.slice r27.a r27.l r27.c) (.slice (some (blk w54.heap.size)) 1 1) w55 fun r28 w56 =>
 Nw (w56.alloc (.cells #[(.int .u8 (103 : Int)), (.int .u32 (1 : Int)), (.string (ByteArray.mk #[85, 110, 114, 111, 108, 108]))] 207)) fun w57 =>
 appendS Try.prog 204 (.slice r28.a r28.l r28.c) (.slice (some (blk w56.heap.size)) 1 1) w57 fun r29 w58 =>
 Nw (w58.alloc (.cells #[(.int .u8 (103 : Int)), (.int .u32 (2 : Int)), (.string (ByteArray.mk #[68, 111, 110, 116, 85, 110, 114, 111, 108, 108]))] 207)) fun w59 =>
 appendS Try.prog 204 (.slice r29.a r29.l r29.c) (.slice (some (blk w58.heap.size)) 1 1) w59 fun r30 w60 =>
 R (.slice r30.a r30.l r30.c) w60
theorem intaglioref03_Names_calls  (R : Value → World → Prop) (w : World) (h : L_intaglioref03_Names  R w) : Calls Try.prog 144 #[] w (Ret R) :=
 lw_calls (fs := Try.fs) (an := a_intaglioref03_Names) (args := []) Try.fsOK Try.mixed Try.func144 (by kernel_rfl) (by kernel_rfl)
  (Eq.mpr (by kernel_rfl : lwFn Try.prog Try.fs Try.f144 a_intaglioref03_Names [] w R = L_intaglioref03_Names  R w) h)

end Go.Proofs
