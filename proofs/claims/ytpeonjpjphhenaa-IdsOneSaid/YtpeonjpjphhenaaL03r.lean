/-
 Printed by a program of the author: what each function comes to.
-/
import Derived.Test.YtpeonjpjphhenaaProg
import Derived.Test.YtpeonjpjphhenaaGkR
import Derived.Test.YtpeonjpjphhenaaLb
namespace Go.Proofs
open Go.Gk
set_option linter.unusedVariables false
set_option maxRecDepth 100000

/-- intaglio.intaglioref03.Of -/
def a_intaglioref03_Of : Ann := (.seq none .nil (.seq none (.seq none .nil (.one (.seq none .nil (.cond (.seq none .nil .nil) (.seq none .nil (.cond (.seq none .nil .nil) (.seq none .nil (.cond (.seq none .nil .nil) (.seq none .nil (.cond (.seq none .nil .nil) (.seq none .nil (.cond (.seq none .nil .nil) (.seq none .nil (.cond (.seq none .nil .nil) (.seq none .nil (.cond (.seq none .nil .nil) (.seq none .nil (.cond (.seq none .nil .nil) (.seq none .nil (.cond (.seq none .nil .nil) (.seq none .nil (.cond (.seq none .nil .nil) (.seq none .nil (.cond (.seq none .nil .nil) (.seq none .nil (.cond (.seq none .nil .nil) (.seq none .nil (.cond (.seq none .nil .nil) (.seq none .nil (.cond (.seq none .nil .nil) (.seq none .nil (.cond (.seq none .nil .nil) (.seq none .nil (.cond (.seq none .nil .nil) (.seq none .nil (.cond (.seq none .nil .nil) (.seq none .nil (.cond (.seq none .nil .nil) (.seq none .nil (.cond (.seq none .nil .nil) (.seq none .nil (.cond (.seq none .nil .nil) (.seq none .nil (.cond (.seq none .nil .nil) (.seq none .nil (.cond (.seq none .nil .nil) (.seq none .nil (.cond (.seq none .nil .nil) (.seq none .nil (.cond (.seq none .nil .nil) (.seq none .nil (.cond (.seq none .nil .nil) (.seq none .nil (.cond (.seq none .nil .nil) (.seq none .nil (.cond (.seq none .nil .nil) (.seq none .nil (.cond (.seq none .nil .nil) (.seq none .nil (.cond (.seq none .nil .nil) (.seq none .nil (.cond (.seq none .nil .nil) (.seq none .nil (.cond (.seq none .nil .nil) (.seq none .nil (.cond (.seq none .nil .nil) (.seq none .nil (.cond (.seq none .nil .nil) (.seq none .nil (.cond (.seq none .nil .nil) (.seq none .nil (.cond (.seq none .nil .nil) (.seq none .nil (.cond (.seq none .nil .nil) (.seq none .nil (.cond (.seq none .nil .nil) (.seq none .nil (.cond (.seq none .nil .nil) (.seq none .nil (.cond (.seq none .nil .nil) (.seq none .nil (.cond (.seq none .nil .nil) (.seq none .nil (.cond (.seq none .nil .nil) (.seq none .nil (.cond (.seq none .nil .nil) (.seq none .nil (.cond (.seq none .nil .nil) (.seq none .nil (.cond (.seq none .nil .nil) (.seq none .nil (.cond (.seq none .nil .nil) (.seq none .nil (.cond (.seq none .nil .nil) (.seq none .nil (.cond (.seq none .nil .nil) (.seq none .nil (.cond (.seq none .nil .nil) (.seq none .nil (.cond (.seq none .nil .nil) (.seq none .nil (.cond (.seq none .nil .nil) (.seq none .nil (.cond (.seq none .nil .nil) (.seq none .nil (.cond (.seq none .nil .nil) (.seq none .nil (.cond (.seq none .nil .nil) (.seq none .nil (.cond (.seq none .nil .nil) (.seq none .nil (.cond (.seq none .nil .nil) (.seq none .nil (.cond (.seq none .nil .nil) (.seq none .nil (.cond (.seq none .nil .nil) (.seq none .nil (.cond (.seq none .nil .nil) (.seq none .nil (.cond (.seq none .nil .nil) (.seq none .nil (.cond (.seq none .nil .nil) (.seq none .nil (.cond (.seq none .nil .nil) (.seq none .nil (.cond (.seq none .nil .nil) (.seq none .nil (.cond (.seq none .nil .nil) (.seq none .nil (.cond (.seq none .nil .nil) (.seq none .nil (.cond (.seq none .nil .nil) (.seq none .nil (.cond (.seq none .nil .nil) (.seq none .nil (.cond (.seq none .nil .nil) (.seq none .nil (.cond (.seq none .nil .nil) (.seq none .nil (.cond (.seq none .nil .nil) (.seq none .nil (.cond (.seq none .nil .nil) (.seq none .nil (.cond (.seq none .nil .nil) (.seq none .nil (.cond (.seq none .nil .nil) (.seq none .nil (.cond (.seq none .nil .nil) (.seq none .nil (.cond (.seq none .nil .nil) (.seq none .nil (.cond (.seq none .nil .nil) (.seq none .nil (.cond (.seq none .nil .nil) (.seq none .nil (.cond (.seq none .nil .nil) (.seq none .nil (.cond (.seq none .nil .nil) (.seq none .nil (.cond (.seq none .nil .nil) (.seq none .nil (.cond (.seq none .nil .nil) (.seq none .nil (.cond (.seq none .nil .nil) (.seq none .nil (.cond (.seq none .nil .nil) (.seq none .nil (.cond (.seq none .nil .nil) (.seq none .nil (.cond (.seq none .nil .nil) (.seq none .nil (.cond (.seq none .nil .nil) (.seq none .nil (.cond (.seq none .nil .nil) (.seq none .nil (.cond (.seq none .nil .nil) (.seq none .nil (.cond (.seq none .nil .nil) (.seq none .nil (.cond (.seq none .nil .nil) (.seq none .nil (.cond (.seq none .nil .nil) (.seq none .nil (.cond (.seq none .nil .nil) (.seq none .nil (.cond (.seq none .nil .nil) (.seq none .nil (.cond (.seq none .nil .nil) .nil)))))))))))))))))))))))))))))))))))))))))))))))))))))))))))))))))))))))))))))))))))))))))))))))))))))))))))))))))))))))))))))))))))))))))))))))))))))))))))))))))))))))))))))))))))))))))))) (.seq none .nil .nil)))
abbrev K_intaglioref03_Of_0 (p0 : Int) (R : Value → World → Prop) (w : World) (v_0 : Value) (w_1 : World) : Prop :=
 ∃ x_2 : (Int × ByteArray × Bool × Bool × ByteArray × ByteArray × Int × Int × Unit), v_0 = (.agg #[(.int .u16 x_2.1), (.string x_2.2.1), (.bool x_2.2.2.1), (.bool x_2.2.2.2.1), (.string x_2.2.2.2.2.1), (.string x_2.2.2.2.2.2.1), (.int .i64 x_2.2.2.2.2.2.2.1), (.int .u8 x_2.2.2.2.2.2.2.2.1)]) ∧
 Wr w_1 (blk w.heap.size) ∧
 Nw (w_1.setCell (blk w.heap.size) (.int .u16 x_2.1)) fun w_3 =>
 Wr w_3 ((blk w.heap.size).add 1) ∧
 Nw (w_3.setCell ((blk w.heap.size).add 1) (.string x_2.2.1)) fun w_4 =>
 Wr w_4 ((blk w.heap.size).add 2) ∧
 Nw (w_4.setCell ((blk w.heap.size).add 2) (.bool x_2.2.2.1)) fun w_5 =>
 Wr w_5 ((blk w.heap.size).add 3) ∧
 Nw (w_5.setCell ((blk w.heap.size).add 3) (.bool x_2.2.2.2.1)) fun w_6 =>
 Wr w_6 ((blk w.heap.size).add 4) ∧
 Nw (w_6.setCell ((blk w.heap.size).add 4) (.string x_2.2.2.2.2.1)) fun w_7 =>
 Wr w_7 ((blk w.heap.size).add 5) ∧
 Nw (w_7.setCell ((blk w.heap.size).add 5) (.string x_2.2.2.2.2.2.1)) fun w_8 =>
 Wr w_8 ((blk w.heap.size).add 6) ∧
 Nw (w_8.setCell ((blk w.heap.size).add 6) (.int .i64 x_2.2.2.2.2.2.2.1)) fun w_9 =>
 Wr w_9 ((blk w.heap.size).add 7) ∧
 Nw (w_9.setCell ((blk w.heap.size).add 7) (.int .u8 x_2.2.2.2.2.2.2.2.1)) fun w_10 =>
 ldI w_10 ((blk w.heap.size).add 0) .u16 fun x_11 =>
 ldStr w_10 ((blk w.heap.size).add 1) fun x_12 =>
 ldB w_10 ((blk w.heap.size).add 2) fun x_13 =>
 ldB w_10 ((blk w.heap.size).add 3) fun x_14 =>
 ldStr w_10 ((blk w.heap.size).add 4) fun x_15 =>
 ldStr w_10 ((blk w.heap.size).add 5) fun x_16 =>
 ldI w_10 ((blk w.heap.size).add 6) .i64 fun x_17 =>
 ldI w_10 ((blk w.heap.size).add 7) .u8 fun x_18 =>
 R (.tuple #[(.agg #[(.int .u16 x_11), (.string x_12), (.bool x_13), (.bool x_14), (.string x_15), (.string x_16), (.int .i64 x_17), (.int .u8 x_18)]), (.bool true)]) w_10
def L_intaglioref03_Of (p0 : Int) (R : Value → World → Prop) (w : World) : Prop :=
 Nw (w.alloc (.cells #[(.int .u16 (0 : Int)), (.string (ByteArray.mk #[])), (.bool false), (.bool false), (.string (ByteArray.mk #[])), (.string (ByteArray.mk #[])), (.int .i64 (0 : Int)), (.int .u8 (0 : Int))] 133)) fun w1 =>
 ifB (p0 == (1 : Int))
 (callR Try.prog 100 #[(.int .u16 p0), (.string (ByteArray.mk #[79, 112, 85, 110, 100, 101, 102])), (.bool true), (.bool true), (.string (ByteArray.mk #[])), (.string (ByteArray.mk #[])), (.int .i64 (0 : Int)), (.int .u8 (7 : Int))] w1 fun v w_ => K_intaglioref03_Of_0 p0 R w v w_)
 (ifB (p0 == (3 : Int))
 (callR Try.prog 100 #[(.int .u16 p0), (.string (ByteArray.mk #[79, 112, 83, 111, 117, 114, 99, 101])), (.bool false), (.bool false), (.string (ByteArray.mk #[108, 110])), (.string (ByteArray.mk #[])), (.int .i64 (0 : Int)), (.int .u8 (4 : Int))] w1 fun v w_ => K_intaglioref03_Of_0 p0 R w v w_)
 (ifB (p0 == (5 : Int))
 (callR Try.prog 100 #[(.int .u16 p0), (.string (ByteArray.mk #[79, 112, 78, 97, 109, 101])), (.bool false), (.bool false), (.string (ByteArray.mk #[105, 115])), (.string (ByteArray.mk #[])), (.int .i64 (0 : Int)), (.int .u8 (5 : Int))] w1 fun v w_ => K_intaglioref03_Of_0 p0 R w v w_)
 (ifB (p0 == (6 : Int))
 (callR Try.prog 100 #[(.int .u16 p0), (.string (ByteArray.mk #[79, 112, 77, 101, 109, 98, 101, 114, 78, 97, 109, 101])), (.bool false), (.bool false), (.string (ByteArray.mk #[105, 110, 115])), (.string (ByteArray.mk #[])), (.int .i64 (0 : Int)), (.int .u8 (5 : Int))] w1 fun v w_ => K_intaglioref03_Of_0 p0 R w v w_)
 (ifB (p0 == (7 : Int))
 (callR Try.prog 100 #[(.int .u16 p0), (.string (ByteArray.mk #[79, 112, 83, 116, 114, 105, 110, 103])), (.bool false), (.bool true), (.string (ByteArray.mk #[115])), (.string (ByteArray.mk #[])), (.int .i64 (0 : Int)), (.int .u8 (4 : Int))] w1 fun v w_ => K_intaglioref03_Of_0 p0 R w v w_)
 (ifB (p0 == (14 : Int))
 (callR Try.prog 100 #[(.int .u16 p0), (.string (ByteArray.mk #[79, 112, 77, 101, 109, 111, 114, 121, 77, 111, 100, 101, 108])), (.bool false), (.bool false), (.string (ByteArray.mk #[97, 109])), (.string (ByteArray.mk #[])), (.int .i64 (0 : Int)), (.int .u8 (1 : Int))] w1 fun v w_ => K_intaglioref03_Of_0 p0 R w v w_)
 (ifB (p0 == (15 : Int))
 (callR Try.prog 100 #[(.int .u16 p0), (.string (ByteArray.mk #[79, 112, 69, 110, 116, 114, 121, 80, 111, 105, 110, 116])), (.bool false), (.bool false), (.string (ByteArray.mk #[101, 105, 115])), (.string (ByteArray.mk #[105])), (.int .i64 (0 : Int)), (.int .u8 (2 : Int))] w1 fun v w_ => K_intaglioref03_Of_0 p0 R w v w_)
 (ifB (p0 == (16 : Int))
 (callR Try.prog 100 #[(.int .u16 p0), (.string (ByteArray.mk #[79, 112, 69, 120, 101, 99, 117, 116, 105, 111, 110, 77, 111, 100, 101])), (.bool false), (.bool false), (.string (ByteArray.mk #[105, 120])), (.string (ByteArray.mk #[])), (.int .i64 (0 : Int)), (.int .u8 (3 : Int))] w1 fun v w_ => K_intaglioref03_Of_0 p0 R w v w_)
 (ifB (p0 == (17 : Int))
 (callR Try.prog 100 #[(.int .u16 p0), (.string (ByteArray.mk #[79, 112, 67, 97, 112, 97, 98, 105, 108, 105, 116, 121])), (.bool false), (.bool false), (.string (ByteArray.mk #[107])), (.string (ByteArray.mk #[])), (.int .i64 (0 : Int)), (.int .u8 (0 : Int))] w1 fun v w_ => K_intaglioref03_Of_0 p0 R w v w_)
 (ifB (p0 == (19 : Int))
 (callR Try.prog 100 #[(.int .u16 p0), (.string (ByteArray.mk #[79, 112, 84, 121, 112, 101, 86, 111, 105, 100])), (.bool false), (.bool true), (.string (ByteArray.mk #[])), (.string (ByteArray.mk #[])), (.int .i64 (0 : Int)), (.int .u8 (7 : Int))] w1 fun v w_ => K_intaglioref03_Of_0 p0 R w v w_)
 (ifB (p0 == (20 : Int))
 (callR Try.prog 100 #[(.int .u16 p0), (.string (ByteArray.mk #[79, 112, 84, 121, 112, 101, 66, 111, 111, 108])), (.bool false), (.bool true), (.string (ByteArray.mk #[])), (.string (ByteArray.mk #[])), (.int .i64 (0 : Int)), (.int .u8 (7 : Int))] w1 fun v w_ => K_intaglioref03_Of_0 p0 R w v w_)
 (ifB (p0 == (21 : Int))
 (callR Try.prog 100 #[(.int .u16 p0), (.string (ByteArray.mk #[79, 112, 84, 121, 112, 101, 73, 110, 116])), (.bool false), (.bool true), (.string (ByteArray.mk #[110, 110])), (.string (ByteArray.mk #[])), (.int .i64 (0 : Int)), (.int .u8 (7 : Int))] w1 fun v w_ => K_intaglioref03_Of_0 p0 R w v w_)
 (ifB (p0 == (23 : Int))
 (callR Try.prog 100 #[(.int .u16 p0), (.string (ByteArray.mk #[79, 112, 84, 121, 112, 101, 86, 101, 99, 116, 111, 114])), (.bool false), (.bool true), (.string (ByteArray.mk #[105, 110])), (.string (ByteArray.mk #[])), (.int .i64 (0 : Int)), (.int .u8 (7 : Int))] w1 fun v w_ => K_intaglioref03_Of_0 p0 R w v w_)
 (ifB (p0 == (28 : Int))
 (callR Try.prog 100 #[(.int .u16 p0), (.string (ByteArray.mk #[79, 112, 84, 121, 112, 101, 65, 114, 114, 97, 121])), (.bool false), (.bool true), (.string (ByteArray.mk #[105, 105])), (.string (ByteArray.mk #[])), (.int .i64 (0 : Int)), (.int .u8 (7 : Int))] w1 fun v w_ => K_intaglioref03_Of_0 p0 R w v w_)
 (ifB (p0 == (30 : Int))
 (callR Try.prog 100 #[(.int .u16 p0), (.string (ByteArray.mk #[79, 112, 84, 121, 112, 101, 83, 116, 114, 117, 99, 116])), (.bool false), (.bool true), (.string (ByteArray.mk #[])), (.string (ByteArray.mk #[105])), (.int .i64 (0 : Int)), (.int .u8 (7 : Int))] w1 fun v w_ => K_intaglioref03_Of_0 p0 R w v w_)
 (ifB (p0 == (32 : Int))
 (callR Try.prog 100 #[(.int .u16 p0), (.string (ByteArray.mk #[79, 112, 84, 121, 112, 101, 80, 111, 105, 110, 116, 101, 114])), (.bool false), (.bool true), (.string (ByteArray.mk #[99, 105])), (.string (ByteArray.mk #[])), (.int .i64 (0 : Int)), (.int .u8 (7 : Int))] w1 fun v w_ => K_intaglioref03_Of_0 p0 R w v w_)
 (ifB (p0 == (33 : Int))
 (callR Try.prog 100 #[(.int .u16 p0), (.string (ByteArray.mk #[79, 112, 84, 121, 112, 101, 70, 117, 110, 99, 116, 105, 111, 110])), (.bool false), (.bool true), (.string (ByteArray.mk #[105])), (.string (ByteArray.mk #[105])), (.int .i64 (0 : Int)), (.int .u8 (7 : Int))] w1 fun v w_ => K_intaglioref03_Of_0 p0 R w v w_)
 (ifB (p0 == (41 : Int))
 (callR Try.prog 100 #[(.int .u16 p0), (.string (ByteArray.mk #[79, 112, 67, 111, 110, 115, 116, 97, 110, 116, 84, 114, 117, 101])), (.bool true), (.bool true), (.string (ByteArray.mk #[])), (.string (ByteArray.mk #[])), (.int .i64 (0 : Int)), (.int .u8 (7 : Int))] w1 fun v w_ => K_intaglioref03_Of_0 p0 R w v w_)
 (ifB (p0 == (42 : Int))
 (callR Try.prog 100 #[(.int .u16 p0), (.string (ByteArray.mk #[79, 112, 67, 111, 110, 115, 116, 97, 110, 116, 70, 97, 108, 115, 101])), (.bool true), (.bool true), (.string (ByteArray.mk #[])), (.string (ByteArray.mk #[])), (.int .i64 (0 : Int)), (.int .u8 (7 : Int))] w1 fun v w_ => K_intaglioref03_Of_0 p0 R w v w_)
 (ifB (p0 == (43 : Int))
 (callR Try.prog 100 #[(.int .u16 p0), (.string (ByteArray.mk #[79, 112, 67, 111, 110, 115, 116, 97, 110, 116])), (.bool true), (.bool true), (.string (ByteArray.mk #[110])), (.string (ByteArray.mk #[])), (.int .i64 (0 : Int)), (.int .u8 (7 : Int))] w1 fun v w_ => K_intaglioref03_Of_0 p0 R w v w_)
 (ifB (p0 == (44 : Int))
 (callR Try.prog 100 #[(.int .u16 p0), (.string (ByteArray.mk #[79, 112, 67, 111, 110, 115, 116, 97, 110, 116, 67, 111, 109, 112, 111, 115, 105, 116, 101])), (.bool true), (.bool true), (.string (ByteArray.mk #[])), (.string (ByteArray.mk #[105])), (.int .i64 (0 : Int)), (.int .u8 (7 : Int))] w1 fun v w_ => K_intaglioref03_Of_0 p0 R w v w_)
 (ifB (p0 == (46 : Int))
 (callR Try.prog 100 #[(.int .u16 p0), (.string (ByteArray.mk #[79, 112, 67, 111, 110, 115, 116, 97, 110, 116, 78, 117, 108, 108])), (.bool true), (.bool true), (.string (ByteArray.mk #[])), (.string (ByteArray.mk #[])), (.int .i64 (0 : Int)), (.int .u8 (7 : Int))] w1 fun v w_ => K_intaglioref03_Of_0 p0 R w v w_)
 (ifB (p0 == (54 : Int))
 (callR Try.prog 100 #[(.int .u16 p0), (.string (ByteArray.mk #[79, 112, 70, 117, 110, 99, 116, 105, 111, 110])), (.bool true), (.bool true), (.string (ByteArray.mk #[102, 105])), (.string (ByteArray.mk #[])), (.int .i64 (0 : Int)), (.int .u8 (8 : Int))] w1 fun v w_ => K_intaglioref03_Of_0 p0 R w v w_)
 (ifB (p0 == (55 : Int))
 (callR Try.prog 100 #[(.int .u16 p0), (.string (ByteArray.mk #[79, 112, 70, 117, 110, 99, 116, 105, 111, 110, 80, 97, 114, 97, 109, 101, 116, 101, 114])), (.bool true), (.bool true), (.string (ByteArray.mk #[])), (.string (ByteArray.mk #[])), (.int .i64 (0 : Int)), (.int .u8 (8 : Int))] w1 fun v w_ => K_intaglioref03_Of_0 p0 R w v w_)
 (ifB (p0 == (56 : Int))
 (callR Try.prog 100 #[(.int .u16 p0), (.string (ByteArray.mk #[79, 112, 70, 117, 110, 99, 116, 105, 111, 110, 69, 110, 100])), (.bool false), (.bool false), (.string (ByteArray.mk #[])), (.string (ByteArray.mk #[])), (.int .i64 (0 : Int)), (.int .u8 (8 : Int))] w1 fun v w_ => K_intaglioref03_Of_0 p0 R w v w_)
 (ifB (p0 == (57 : Int))
 (callR Try.prog 100 #[(.int .u16 p0), (.string (ByteArray.mk #[79, 112, 70, 117, 110, 99, 116, 105, 111, 110, 67, 97, 108, 108])), (.bool true), (.bool true), (.string (ByteArray.mk #[105])), (.string (ByteArray.mk #[105])), (.int .i64 (0 : Int)), (.int .u8 (8 : Int))] w1 fun v w_ => K_intaglioref03_Of_0 p0 R w v w_)
 (ifB (p0 == (59 : Int))
 (callR Try.prog 100 #[(.int .u16 p0), (.string (ByteArray.mk #[79, 112, 86, 97, 114, 105, 97, 98, 108, 101])), (.bool true), (.bool true), (.string (ByteArray.mk #[99])), (.string (ByteArray.mk #[105])), (.int .i64 (1 : Int)), (.int .u8 (7 : Int))] w1 fun v w_ => K_intaglioref03_Of_0 p0 R w v w_)
 (ifB (p0 == (61 : Int))
 (callR Try.prog 100 #[(.int .u16 p0), (.string (ByteArray.mk #[79, 112, 76, 111, 97, 100])), (.bool true), (.bool true), (.string (ByteArray.mk #[105])), (.string (ByteArray.mk #[])), (.int .i64 (0 : Int)), (.int .u8 (8 : Int))] w1 fun v w_ => K_intaglioref03_Of_0 p0 R w v w_)
 (ifB (p0 == (62 : Int))
 (callR Try.prog 100 #[(.int .u16 p0), (.string (ByteArray.mk #[79, 112, 83, 116, 111, 114, 101])), (.bool false), (.bool false), (.string (ByteArray.mk #[105, 105])), (.string (ByteArray.mk #[])), (.int .i64 (0 : Int)), (.int .u8 (8 : Int))] w1 fun v w_ => K_intaglioref03_Of_0 p0 R w v w_)
 (ifB (p0 == (65 : Int))
 (callR Try.prog 100 #[(.int .u16 p0), (.string (ByteArray.mk #[79, 112, 65, 99, 99, 101, 115, 115, 67, 104, 97, 105, 110])), (.bool true), (.bool true), (.string (ByteArray.mk #[105])), (.string (ByteArray.mk #[105])), (.int .i64 (0 : Int)), (.int .u8 (8 : Int))] w1 fun v w_ => K_intaglioref03_Of_0 p0 R w v w_)
 (ifB (p0 == (71 : Int))
 (callR Try.prog 100 #[(.int .u16 p0), (.string (ByteArray.mk #[79, 112, 68, 101, 99, 111, 114, 97, 116, 101])), (.bool false), (.bool false), (.string (ByteArray.mk #[105, 100])), (.string (ByteArray.mk #[110])), (.int .i64 (0 : Int)), (.int .u8 (6 : Int))] w1 fun v w_ => K_intaglioref03_Of_0 p0 R w v w_)
 (ifB (p0 == (77 : Int))
 (callR Try.prog 100 #[(.int .u16 p0), (.string (ByteArray.mk #[79, 112, 86, 101, 99, 116, 111, 114, 69, 120, 116, 114, 97, 99, 116, 68, 121, 110, 97, 109, 105, 99])), (.bool true), (.bool true), (.string (ByteArray.mk #[105, 105])), (.string (ByteArray.mk #[])), (.int .i64 (0 : Int)), (.int .u8 (8 : Int))] w1 fun v w_ => K_intaglioref03_Of_0 p0 R w v w_)
 (ifB (p0 == (78 : Int))
 (callR Try.prog 100 #[(.int .u16 p0), (.string (ByteArray.mk #[79, 112, 86, 101, 99, 116, 111, 114, 73, 110, 115, 101, 114, 116, 68, 121, 110, 97, 109, 105, 99])), (.bool true), (.bool true), (.string (ByteArray.mk #[105, 105, 105])), (.string (ByteArray.mk #[])), (.int .i64 (0 : Int)), (.int .u8 (8 : Int))] w1 fun v w_ => K_intaglioref03_Of_0 p0 R w v w_)
 (ifB (p0 == (79 : Int))
 (callR Try.prog 100 #[(.int .u16 p0), (.string (ByteArray.mk #[79, 112, 86, 101, 99, 116, 111, 114, 83, 104, 117, 102, 102, 108, 101])), (.bool true), (.bool true), (.string (ByteArray.mk #[105, 105])), (.string (ByteArray.mk #[110])), (.int .i64 (0 : Int)), (.int .u8 (8 : Int))] w1 fun v w_ => K_intaglioref03_Of_0 p0 R w v w_)
 (ifB (p0 == (80 : Int))
 (callR Try.prog 100 #[(.int .u16 p0), (.string (ByteArray.mk #[79, 112, 67, 111, 109, 112, 111, 115, 105, 116, 101, 67, 111, 110, 115, 116, 114, 117, 99, 116])), (.bool true), (.bool true), (.string (ByteArray.mk #[])), (.string (ByteArray.mk #[105])), (.int .i64 (0 : Int)), (.int .u8 (8 : Int))] w1 fun v w_ => K_intaglioref03_Of_0 p0 R w v w_)
 (ifB (p0 == (81 : Int))
 (callR Try.prog 100 #[(.int .u16 p0), (.string (ByteArray.mk #[79, 112, 67, 111, 109, 112, 111, 115, 105, 116, 101, 69, 120, 116, 114, 97, 99, 116])), (.bool true), (.bool true), (.string (ByteArray.mk #[105])), (.string (ByteArray.mk #[110])), (.int .i64 (0 : Int)), (.int .u8 (8 : Int))] w1 fun v w_ => K_intaglioref03_Of_0 p0 R w v w_)
 (ifB (p0 == (82 : Int))
 (callR Try.prog 100 #[(.int .u16 p0), (.string (ByteArray.mk #[79, 112, 67, 111, 109, 112, 111, 115, 105, 116, 101, 73, 110, 115, 101, 114, 116])), (.bool true), (.bool true), (.string (ByteArray.mk #[105, 105])), (.string (ByteArray.mk #[110])), (.int .i64 (0 : Int)), (.int .u8 (8 : Int))] w1 fun v w_ => K_intaglioref03_Of_0 p0 R w v w_)
 (ifB (p0 == (83 : Int))
 (callR Try.prog 100 #[(.int .u16 p0), (.string (ByteArray.mk #[79, 112, 67, 111, 112, 121, 79, 98, 106, 101, 99, 116])), (.bool true), (.bool true), (.string (ByteArray.mk #[105])), (.string (ByteArray.mk #[])), (.int .i64 (0 : Int)), (.int .u8 (8 : Int))] w1 fun v w_ => K_intaglioref03_Of_0 p0 R w v w_)
 (ifB (p0 == (124 : Int))
 (callR Try.prog 100 #[(.int .u16 p0), (.string (ByteArray.mk #[79, 112, 66, 105, 116, 99, 97, 115, 116])), (.bool true), (.bool true), (.string (ByteArray.mk #[105])), (.string (ByteArray.mk #[])), (.int .i64 (0 : Int)), (.int .u8 (8 : Int))] w1 fun v w_ => K_intaglioref03_Of_0 p0 R w v w_)
 (ifB (p0 == (126 : Int))
 (callR Try.prog 100 #[(.int .u16 p0), (.string (ByteArray.mk #[79, 112, 83, 78, 101, 103, 97, 116, 101])), (.bool true), (.bool true), (.string (ByteArray.mk #[105])), (.string (ByteArray.mk #[])), (.int .i64 (0 : Int)), (.int .u8 (8 : Int))] w1 fun v w_ => K_intaglioref03_Of_0 p0 R w v w_)
 (ifB (p0 == (128 : Int))
 (callR Try.prog 100 #[(.int .u16 p0), (.string (ByteArray.mk #[79, 112, 73, 65, 100, 100])), (.bool true), (.bool true), (.string (ByteArray.mk #[105, 105])), (.string (ByteArray.mk #[])), (.int .i64 (0 : Int)), (.int .u8 (8 : Int))] w1 fun v w_ => K_intaglioref03_Of_0 p0 R w v w_)
 (ifB (p0 == (130 : Int))
 (callR Try.prog 100 #[(.int .u16 p0), (.string (ByteArray.mk #[79, 112, 73, 83, 117, 98])), (.bool true), (.bool true), (.string (ByteArray.mk #[105, 105])), (.string (ByteArray.mk #[])), (.int .i64 (0 : Int)), (.int .u8 (8 : Int))] w1 fun v w_ => K_intaglioref03_Of_0 p0 R w v w_)
 (ifB (p0 == (132 : Int))
 (callR Try.prog 100 #[(.int .u16 p0), (.string (ByteArray.mk #[79, 112, 73, 77, 117, 108])), (.bool true), (.bool true), (.string (ByteArray.mk #[105, 105])), (.string (ByteArray.mk #[])), (.int .i64 (0 : Int)), (.int .u8 (8 : Int))] w1 fun v w_ => K_intaglioref03_Of_0 p0 R w v w_)
 (ifB (p0 == (134 : Int))
 (callR Try.prog 100 #[(.int .u16 p0), (.string (ByteArray.mk #[79, 112, 85, 68, 105, 118])), (.bool true), (.bool true), (.string (ByteArray.mk #[105, 105])), (.string (ByteArray.mk #[])), (.int .i64 (0 : Int)), (.int .u8 (8 : Int))] w1 fun v w_ => K_intaglioref03_Of_0 p0 R w v w_)
 (ifB (p0 == (135 : Int))
 (callR Try.prog 100 #[(.int .u16 p0), (.string (ByteArray.mk #[79, 112, 83, 68, 105, 118])), (.bool true), (.bool true), (.string (ByteArray.mk #[105, 105])), (.string (ByteArray.mk #[])), (.int .i64 (0 : Int)), (.int .u8 (8 : Int))] w1 fun v w_ => K_intaglioref03_Of_0 p0 R w v w_)
 (ifB (p0 == (137 : Int))
 (callR Try.prog 100 #[(.int .u16 p0), (.string (ByteArray.mk #[79, 112, 85, 77, 111, 100])), (.bool true), (.bool true), (.string (ByteArray.mk #[105, 105])), (.string (ByteArray.mk #[])), (.int .i64 (0 : Int)), (.int .u8 (8 : Int))] w1 fun v w_ => K_intaglioref03_Of_0 p0 R w v w_)
 (ifB (p0 == (138 : Int))
 (callR Try.prog 100 #[(.int .u16 p0), (.string (ByteArray.mk #[79, 112, 83, 82, 101, 109])), (.bool true), (.bool true), (.string (ByteArray.mk #[105, 105])), (.string (ByteArray.mk #[])), (.int .i64 (0 : Int)), (.int .u8 (8 : Int))] w1 fun v w_ => K_intaglioref03_Of_0 p0 R w v w_)
 (ifB (p0 == (139 : Int))
 (callR Try.prog 100 #[(.int .u16 p0), (.string (ByteArray.mk #[79, 112, 83, 77, 111, 100])), (.bool true), (.bool true), (.string (ByteArray.mk #[105, 105])), (.string (ByteArray.mk #[])), (.int .i64 (0 : Int)), (.int .u8 (8 : Int))] w1 fun v w_ => K_intaglioref03_Of_0 p0 R w v w_)
 (ifB (p0 == (149 : Int))
 (callR Try.prog 100 #[(.int .u16 p0), (.string (ByteArray.mk #[79, 112, 73, 65, 100, 100, 67, 97, 114, 114, 121])), (.bool true), (.bool true), (.string (ByteArray.mk #[105, 105])), (.string (ByteArray.mk #[])), (.int .i64 (0 : Int)), (.int .u8 (8 : Int))] w1 fun v w_ => K_intaglioref03_Of_0 p0 R w v w_)
 (ifB (p0 == (150 : Int))
 (callR Try.prog 100 #[(.int .u16 p0), (.string (ByteArray.mk #[79, 112, 73, 83, 117, 98, 66, 111, 114, 114, 111, 119])), (.bool true), (.bool true), (.string (ByteArray.mk #[105, 105])), (.string (ByteArray.mk #[])), (.int .i64 (0 : Int)), (.int .u8 (8 : Int))] w1 fun v w_ => K_intaglioref03_Of_0 p0 R w v w_)
 (ifB (p0 == (151 : Int))
 (callR Try.prog 100 #[(.int .u16 p0), (.string (ByteArray.mk #[79, 112, 85, 77, 117, 108, 69, 120, 116, 101, 110, 100, 101, 100])), (.bool true), (.bool true), (.string (ByteArray.mk #[105, 105])), (.string (ByteArray.mk #[])), (.int .i64 (0 : Int)), (.int .u8 (8 : Int))] w1 fun v w_ => K_intaglioref03_Of_0 p0 R w v w_)
 (ifB (p0 == (152 : Int))
 (callR Try.prog 100 #[(.int .u16 p0), (.string (ByteArray.mk #[79, 112, 83, 77, 117, 108, 69, 120, 116, 101, 110, 100, 101, 100])), (.bool true), (.bool true), (.string (ByteArray.mk #[105, 105])), (.string (ByteArray.mk #[])), (.int .i64 (0 : Int)), (.int .u8 (8 : Int))] w1 fun v w_ => K_intaglioref03_Of_0 p0 R w v w_)
 (ifB (p0 == (154 : Int))
 (callR Try.prog 100 #[(.int .u16 p0), (.string (ByteArray.mk #[79, 112, 65, 110, 121])), (.bool true), (.bool true), (.string (ByteArray.mk #[105])), (.string (ByteArray.mk #[])), (.int .i64 (0 : Int)), (.int .u8 (8 : Int))] w1 fun v w_ => K_intaglioref03_Of_0 p0 R w v w_)
 (ifB (p0 == (155 : Int))
 (callR Try.prog 100 #[(.int .u16 p0), (.string (ByteArray.mk #[79, 112, 65, 108, 108])), (.bool true), (.bool true), (.string (ByteArray.mk #[105])), (.string (ByteArray.mk #[])), (.int .i64 (0 : Int)), (.int .u8 (8 : Int))] w1 fun v w_ => K_intaglioref03_Of_0 p0 R w v w_)
 (ifB (p0 == (164 : Int))
 (callR Try.prog 100 #[(.int .u16 p0), (.string (ByteArray.mk #[79, 112, 76, 111, 103, 105, 99, 97, 108, 69, 113, 117, 97, 108])), (.bool true), (.bool true), (.string (ByteArray.mk #[105, 105])), (.string (ByteArray.mk #[])), (.int .i64 (0 : Int)), (.int .u8 (8 : Int))] w1 fun v w_ => K_intaglioref03_Of_0 p0 R w v w_)
 (ifB (p0 == (165 : Int))
 (callR Try.prog 100 #[(.int .u16 p0), (.string (ByteArray.mk #[79, 112, 76, 111, 103, 105, 99, 97, 108, 78, 111, 116, 69, 113, 117, 97, 108])), (.bool true), (.bool true), (.string (ByteArray.mk #[105, 105])), (.string (ByteArray.mk #[])), (.int .i64 (0 : Int)), (.int .u8 (8 : Int))] w1 fun v w_ => K_intaglioref03_Of_0 p0 R w v w_)
 (ifB (p0 == (166 : Int))
 (callR Try.prog 100 #[(.int .u16 p0), (.string (ByteArray.mk #[79, 112, 76, 111, 103, 105, 99, 97, 108, 79, 114])), (.bool true), (.bool true), (.string (ByteArray.mk #[105, 105])), (.string (ByteArray.mk #[])), (.int .i64 (0 : Int)), (.int .u8 (8 : Int))] w1 fun v w_ => K_intaglioref03_Of_0 p0 R w v w_)
 (ifB (p0 == (167 : Int))
 (callR Try.prog 100 #[(.int .u16 p0), (.string (ByteArray.mk #[79, 112, 76, 111, 103, 105, 99, 97, 108, 65, 110, 100])), (.bool true), (.bool true), (.string (ByteArray.mk #[105, 105])), (.string (ByteArray.mk #[])), (.int .i64 (0 : Int)), (.int .u8 (8 : Int))] w1 fun v w_ => K_intaglioref03_Of_0 p0 R w v w_)
 (ifB (p0 == (168 : Int))
 (callR Try.prog 100 #[(.int .u16 p0), (.string (ByteArray.mk #[79, 112, 76, 111, 103, 105, 99, 97, 108, 78, 111, 116])), (.bool true), (.bool true), (.string (ByteArray.mk #[105])), (.string (ByteArray.mk #[])), (.int .i64 (0 : Int)), (.int .u8 (8 : Int))] w1 fun v w_ => K_intaglioref03_Of_0 p0 R w v w_)
 (ifB (p0 == (169 : Int))
 (callR Try.prog 100 #[(.int .u16 p0), (.string (ByteArray.mk #[79, 112, 83, 101, 108, 101, 99, 116])), (.bool true), (.bool true), (.string (ByteArray.mk #[105, 105, 105])), (.string (ByteArray.mk #[])), (.int .i64 (0 : Int)), (.int .u8 (8 : Int))] w1 fun v w_ => K_intaglioref03_Of_0 p0 R w v w_)
 (ifB (p0 == (170 : Int))
 (callR Try.prog 100 #[(.int .u16 p0), (.string (ByteArray.mk #[79, 112, 73, 69, 113, 117, 97, 108])), (.bool true), (.bool true), (.string (ByteArray.mk #[105, 105])), (.string (ByteArray.mk #[])), (.int .i64 (0 : Int)), (.int .u8 (8 : Int))] w1 fun v w_ => K_intaglioref03_Of_0 p0 R w v w_)
 (ifB (p0 == (171 : Int))
 (callR Try.prog 100 #[(.int .u16 p0), (.string (ByteArray.mk #[79, 112, 73, 78, 111, 116, 69, 113, 117, 97, 108])), (.bool true), (.bool true), (.string (ByteArray.mk #[105, 105])), (.string (ByteArray.mk #[])), (.int .i64 (0 : Int)), (.int .u8 (8 : Int))] w1 fun v w_ => K_intaglioref03_Of_0 p0 R w v w_)
 (ifB (p0 == (172 : Int))
 (callR Try.prog 100 #[(.int .u16 p0), (.string (ByteArray.mk #[79, 112, 85, 71, 114, 101, 97, 116, 101, 114, 84, 104, 97, 110])), (.bool true), (.bool true), (.string (ByteArray.mk #[105, 105])), (.string (ByteArray.mk #[])), (.int .i64 (0 : Int)), (.int .u8 (8 : Int))] w1 fun v w_ => K_intaglioref03_Of_0 p0 R w v w_)
 (ifB (p0 == (173 : Int))
 (callR Try.prog 100 #[(.int .u16 p0), (.string (ByteArray.mk #[79, 112, 83, 71, 114, 101, 97, 116, 101, 114, 84, 104, 97, 110])), (.bool true), (.bool true), (.string (ByteArray.mk #[105, 105])), (.string (ByteArray.mk #[])), (.int .i64 (0 : Int)), (.int .u8 (8 : Int))] w1 fun v w_ => K_intaglioref03_Of_0 p0 R w v w_)
 (ifB (p0 == (174 : Int))
 (callR Try.prog 100 #[(.int .u16 p0), (.string (ByteArray.mk #[79, 112, 85, 71, 114, 101, 97, 116, 101, 114, 84, 104, 97, 110, 69, 113, 117, 97, 108])), (.bool true), (.bool true), (.string (ByteArray.mk #[105, 105])), (.string (ByteArray.mk #[])), (.int .i64 (0 : Int)), (.int .u8 (8 : Int))] w1 fun v w_ => K_intaglioref03_Of_0 p0 R w v w_)
 (ifB (p0 == (175 : Int))
 (callR Try.prog 100 #[(.int .u16 p0), (.string (ByteArray.mk #[79, 112, 83, 71, 114, 101, 97, 116, 101, 114, 84, 104, 97, 110, 69, 113, 117, 97, 108])), (.bool true), (.bool true), (.string (ByteArray.mk #[105, 105])), (.string (ByteArray.mk #[])), (.int .i64 (0 : Int)), (.int .u8 (8 : Int))] w1 fun v w_ => K_intaglioref03_Of_0 p0 R w v w_)
 (ifB (p0 == (176 : Int))
 (callR Try.prog 100 #[(.int .u16 p0), (.string (ByteArray.mk #[79, 112, 85, 76, 101, 115, 115, 84, 104, 97, 110])), (.bool true), (.bool true), (.string (ByteArray.mk #[105, 105])), (.string (ByteArray.mk #[])), (.int .i64 (0 : Int)), (.int .u8 (8 : Int))] w1 fun v w_ => K_intaglioref03_Of_0 p0 R w v w_)
 (ifB (p0 == (177 : Int))
 (callR Try.prog 100 #[(.int .u16 p0), (.string (ByteArray.mk #[79, 112, 83, 76, 101, 115, 115, 84, 104, 97, 110])), (.bool true), (.bool true), (.string (ByteArray.mk #[105, 105])), (.string (ByteArray.mk #[])), (.int .i64 (0 : Int)), (.int .u8 (8 : Int))] w1 fun v w_ => K_intaglioref03_Of_0 p0 R w v w_)
 (ifB (p0 == (178 : Int))
 (callR Try.prog 100 #[(.int .u16 p0), (.string (ByteArray.mk #[79, 112, 85, 76, 101, 115, 115, 84, 104, 97, 110, 69, 113, 117, 97, 108])), (.bool true), (.bool true), (.string (ByteArray.mk #[105, 105])), (.string (ByteArray.mk #[])), (.int .i64 (0 : Int)), (.int .u8 (8 : Int))] w1 fun v w_ => K_intaglioref03_Of_0 p0 R w v w_)
 (ifB (p0 == (179 : Int))
 (callR Try.prog 100 #[(.int .u16 p0), (.string (ByteArray.mk #[79, 112, 83, 76, 101, 115, 115, 84, 104, 97, 110, 69, 113, 117, 97, 108])), (.bool true), (.bool true), (.string (ByteArray.mk #[105, 105])), (.string (ByteArray.mk #[])), (.int .i64 (0 : Int)), (.int .u8 (8 : Int))] w1 fun v w_ => K_intaglioref03_Of_0 p0 R w v w_)
 (ifB (p0 == (194 : Int))
 (callR Try.prog 100 #[(.int .u16 p0), (.string (ByteArray.mk #[79, 112, 83, 104, 105, 102, 116, 82, 105, 103, 104, 116, 76, 111, 103, 105, 99, 97, 108])), (.bool true), (.bool true), (.string (ByteArray.mk #[105, 105])), (.string (ByteArray.mk #[])), (.int .i64 (0 : Int)), (.int .u8 (8 : Int))] w1 fun v w_ => K_intaglioref03_Of_0 p0 R w v w_)
 (ifB (p0 == (195 : Int))
 (callR Try.prog 100 #[(.int .u16 p0), (.string (ByteArray.mk #[79, 112, 83, 104, 105, 102, 116, 82, 105, 103, 104, 116, 65, 114, 105, 116, 104, 109, 101, 116, 105, 99])), (.bool true), (.bool true), (.string (ByteArray.mk #[105, 105])), (.string (ByteArray.mk #[])), (.int .i64 (0 : Int)), (.int .u8 (8 : Int))] w1 fun v w_ => K_intaglioref03_Of_0 p0 R w v w_)
 (ifB (p0 == (196 : Int))
 (callR Try.prog 100 #[(.int .u16 p0), (.string (ByteArray.mk #[79, 112, 83, 104, 105, 102, 116, 76, 101, 102, 116, 76, 111, 103, 105, 99, 97, 108])), (.bool true), (.bool true), (.string (ByteArray.mk #[105, 105])), (.string (ByteArray.mk #[])), (.int .i64 (0 : Int)), (.int .u8 (8 : Int))] w1 fun v w_ => K_intaglioref03_Of_0 p0 R w v w_)
 (ifB (p0 == (197 : Int))
 (callR Try.prog 100 #[(.int .u16 p0), (.string (ByteArray.mk #[79, 112, 66, 105, 116, 119, 105, 115, 101, 79, 114])), (.bool true), (.bool true), (.string (ByteArray.mk #[105, 105])), (.string (ByteArray.mk #[])), (.int .i64 (0 : Int)), (.int .u8 (8 : Int))] w1 fun v w_ => K_intaglioref03_Of_0 p0 R w v w_)
 (ifB (p0 == (198 : Int))
 (callR Try.prog 100 #[(.int .u16 p0), (.string (ByteArray.mk #[79, 112, 66, 105, 116, 119, 105, 115, 101, 88, 111, 114])), (.bool true), (.bool true), (.string (ByteArray.mk #[105, 105])), (.string (ByteArray.mk #[])), (.int .i64 (0 : Int)), (.int .u8 (8 : Int))] w1 fun v w_ => K_intaglioref03_Of_0 p0 R w v w_)
 (ifB (p0 == (199 : Int))
 (callR Try.prog 100 #[(.int .u16 p0), (.string (ByteArray.mk #[79, 112, 66, 105, 116, 119, 105, 115, 101, 65, 110, 100])), (.bool true), (.bool true), (.string (ByteArray.mk #[105, 105])), (.string (ByteArray.mk #[])), (.int .i64 (0 : Int)), (.int .u8 (8 : Int))] w1 fun v w_ => K_intaglioref03_Of_0 p0 R w v w_)
 (ifB (p0 == (200 : Int))
 (callR Try.prog 100 #[(.int .u16 p0), (.string (ByteArray.mk #[79, 112, 78, 111, 116])), (.bool true), (.bool true), (.string (ByteArray.mk #[105])), (.string (ByteArray.mk #[])), (.int .i64 (0 : Int)), (.int .u8 (8 : Int))] w1 fun v w_ => K_intaglioref03_Of_0 p0 R w v w_)
 (ifB (p0 == (201 : Int))
 (callR Try.prog 100 #[(.int .u16 p0), (.string (ByteArray.mk #[79, 112, 66, 105, 116, 70, 105, 101, 108, 100, 73, 110, 115, 101, 114, 116])), (.bool true), (.bool true), (.string (ByteArray.mk #[105, 105, 105, 105])), (.string (ByteArray.mk #[])), (.int .i64 (0 : Int)), (.int .u8 (8 : Int))] w1 fun v w_ => K_intaglioref03_Of_0 p0 R w v w_)
 (ifB (p0 == (202 : Int))
 (callR Try.prog 100 #[(.int .u16 p0), (.string (ByteArray.mk #[79, 112, 66, 105, 116, 70, 105, 101, 108, 100, 83, 69, 120, 116, 114, 97, 99, 116])), (.bool true), (.bool true), (.string (ByteArray.mk #[105, 105, 105])), (.string (ByteArray.mk #[])), (.int .i64 (0 : Int)), (.int .u8 (8 : Int))] w1 fun v w_ => K_intaglioref03_Of_0 p0 R w v w_)
 (ifB (p0 == (203 : Int))
 (callR Try.prog 100 #[(.int .u16 p0), (.string (ByteArray.mk #[79, 112, 66, 105, 116, 70, 105, 101, 108, 100, 85, 69, 120, 116, 114, 97, 99, 116])), (.bool true), (.bool true), (.string (ByteArray.mk #[105, 105, 105])), (.string (ByteArray.mk #[])), (.int .i64 (0 : Int)), (.int .u8 (8 : Int))] w1 fun v w_ => K_intaglioref03_Of_0 p0 R w v w_)
 (ifB (p0 == (204 : Int))
 (callR Try.prog 100 #[(.int .u16 p0), (.string (ByteArray.mk #[79, 112, 66, 105, 116, 82, 101, 118, 101, 114, 115, 101])), (.bool true), (.bool true), (.string (ByteArray.mk #[105])), (.string (ByteArray.mk #[])), (.int .i64 (0 : Int)), (.int .u8 (8 : Int))] w1 fun v w_ => K_intaglioref03_Of_0 p0 R w v w_)
 (ifB (p0 == (205 : Int))
 (callR Try.prog 100 #[(.int .u16 p0), (.string (ByteArray.mk #[79, 112, 66, 105, 116, 67, 111, 117, 110, 116])), (.bool true), (.bool true), (.string (ByteArray.mk #[105])), (.string (ByteArray.mk #[])), (.int .i64 (0 : Int)), (.int .u8 (8 : Int))] w1 fun v w_ => K_intaglioref03_Of_0 p0 R w v w_)
 (ifB (p0 == (245 : Int))
 (callR Try.prog 100 #[(.int .u16 p0), (.string (ByteArray.mk #[79, 112, 80, 104, 105])), (.bool true), (.bool true), (.string (ByteArray.mk #[])), (.string (ByteArray.mk #[105, 105])), (.int .i64 (0 : Int)), (.int .u8 (8 : Int))] w1 fun v w_ => K_intaglioref03_Of_0 p0 R w v w_)
 (ifB (p0 == (246 : Int))
 (callR Try.prog 100 #[(.int .u16 p0), (.string (ByteArray.mk #[79, 112, 76, 111, 111, 112, 77, 101, 114, 103, 101])), (.bool false), (.bool false), (.string (ByteArray.mk #[105, 105, 103])), (.string (ByteArray.mk #[])), (.int .i64 (0 : Int)), (.int .u8 (8 : Int))] w1 fun v w_ => K_intaglioref03_Of_0 p0 R w v w_)
 (ifB (p0 == (247 : Int))
 (callR Try.prog 100 #[(.int .u16 p0), (.string (ByteArray.mk #[79, 112, 83, 101, 108, 101, 99, 116, 105, 111, 110, 77, 101, 114, 103, 101])), (.bool false), (.bool false), (.string (ByteArray.mk #[105, 104])), (.string (ByteArray.mk #[])), (.int .i64 (0 : Int)), (.int .u8 (8 : Int))] w1 fun v w_ => K_intaglioref03_Of_0 p0 R w v w_)
 (ifB (p0 == (248 : Int))
 (callR Try.prog 100 #[(.int .u16 p0), (.string (ByteArray.mk #[79, 112, 76, 97, 98, 101, 108])), (.bool false), (.bool true), (.string (ByteArray.mk #[])), (.string (ByteArray.mk #[])), (.int .i64 (0 : Int)), (.int .u8 (8 : Int))] w1 fun v w_ => K_intaglioref03_Of_0 p0 R w v w_)
 (ifB (p0 == (249 : Int))
 (callR Try.prog 100 #[(.int .u16 p0), (.string (ByteArray.mk #[79, 112, 66, 114, 97, 110, 99, 104])), (.bool false), (.bool false), (.string (ByteArray.mk #[105])), (.string (ByteArray.mk #[])), (.int .i64 (0 : Int)), (.int .u8 (8 : Int))] w1 fun v w_ => K_intaglioref03_Of_0 p0 R w v w_)
 (ifB (p0 == (250 : Int))
 (callR Try.prog 100 #[(.int .u16 p0), (.string (ByteArray.mk #[79, 112, 66, 114, 97, 110, 99, 104, 67, 111, 110, 100, 105, 116, 105, 111, 110, 97, 108])), (.bool false), (.bool false), (.string (ByteArray.mk #[105, 105, 105])), (.string (ByteArray.mk #[])), (.int .i64 (0 : Int)), (.int .u8 (8 : Int))] w1 fun v w_ => K_intaglioref03_Of_0 p0 R w v w_)
 (ifB (p0 == (251 : Int))
 (callR Try.prog 100 #[(.int .u16 p0), (.string (ByteArray.mk #[79, 112, 83, 119, 105, 116, 99, 104])), (.bool false), (.bool false), (.string (ByteArray.mk #[105, 105])), (.string (ByteArray.mk #[110, 105])), (.int .i64 (0 : Int)), (.int .u8 (8 : Int))] w1 fun v w_ => K_intaglioref03_Of_0 p0 R w v w_)
 (ifB (p0 == (252 : Int))
 (callR Try.prog 100 #[(.int .u16 p0), (.string (ByteArray.mk #[79, 112, 75, 105, 108, 108])), (.bool false), (.bool false), (.string (ByteArray.mk #[])), (.string (ByteArray.mk #[])), (.int .i64 (0 : Int)), (.int .u8 (8 : Int))] w1 fun v w_ => K_intaglioref03_Of_0 p0 R w v w_)
 (ifB (p0 == (253 : Int))
 (callR Try.prog 100 #[(.int .u16 p0), (.string (ByteArray.mk #[79, 112, 82, 101, 116, 117, 114, 110])), (.bool false), (.bool false), (.string (ByteArray.mk #[])), (.string (ByteArray.mk #[])), (.int .i64 (0 : Int)), (.int .u8 (8 : Int))] w1 fun v w_ => K_intaglioref03_Of_0 p0 R w v w_)
 (ifB (p0 == (254 : Int))
 (callR Try.prog 100 #[(.int .u16 p0), (.string (ByteArray.mk #[79, 112, 82, 101, 116, 117, 114, 110, 86, 97, 108, 117, 101])), (.bool false), (.bool false), (.string (ByteArray.mk #[105])), (.string (ByteArray.mk #[])), (.int .i64 (0 : Int)), (.int .u8 (8 : Int))] w1 fun v w_ => K_intaglioref03_Of_0 p0 R w v w_)
 (ifB (p0 == (255 : Int))
 (callR Try.prog 100 #[(.int .u16 p0), (.string (ByteArray.mk #[79, 112, 85, 110, 114, 101, 97, 99, 104, 97, 98, 108, 101])), (.bool false), (.bool false), (.string (ByteArray.mk #[])), (.string (ByteArray.mk #[])), (.int .i64 (0 : Int)), (.int .u8 (8 : Int))] w1 fun v w_ => K_intaglioref03_Of_0 p0 R w v w_)
 (Wr w1 (blk w.heap.size) ∧
 Nw (w1.setCell (blk w.heap.size) (.int .u16 (0 : Int))) fun w839 =>
 Wr w839 ((blk w.heap.size).add 1) ∧
 Nw (w839.setCell ((blk w.heap.size).add 1) (.string (ByteArray.mk #[]))) fun w840 =>
 Wr w840 ((blk w.heap.size).add 2) ∧
 Nw (w840.setCell ((blk w.heap.size).add 2) (.bool false)) fun w841 =>
 Wr w841 ((blk w.heap.size).add 3) ∧
 Nw (w841.setCell ((blk w.heap.size).add 3) (.bool false)) fun w842 =>
 Wr w842 ((blk w.heap.size).add 4) ∧
 Nw (w842.setCell ((blk w.heap.size).add 4) (.string (ByteArray.mk #[]))) fun w843 =>
 Wr w843 ((blk w.heap.size).add 5) ∧
 Nw (w843.setCell ((blk w.heap.size).add 5) (.string (ByteArray.mk #[]))) fun w844 =>
 Wr w844 ((blk w.heap.size).add 6) ∧
 Nw (w844.setCell ((blk w.heap.size).add 6) (.int .i64 (0 : Int))) fun w845 =>
 Wr w845 ((blk w.heap.size).add 7) ∧
 Nw (w845.setCell ((blk w.heap.size).add 7) (.int .u8 (0 : Int))) fun w846 =>
 ldI w846 ((blk w.heap.size).add 0) .u16 fun x931 =>
 ldStr w846 ((blk w.heap.size).add 1) fun x932 =>
 ldB w846 ((blk w.heap.size).add 2) fun x933 =>
 ldB w846 ((blk w.heap.size).add 3) fun x934 =>
 ldStr w846 ((blk w.heap.size).add 4) fun x935 =>
 ldStr w846 ((blk w.heap.size).add 5) fun x936 =>
 ldI w846 ((blk w.heap.size).add 6) .i64 fun x937 =>
 ldI w846 ((blk w.heap.size).add 7) .u8 fun x938 =>
 R (.tuple #[(.agg #[(.int .u16 x931), (.string x932), (.bool x933), (.bool x934), (.string x935), (.string x936), (.int .i64 x937), (.int .u8 x938)]), (.bool false)]) w846)))))))))))))))))))))))))))))))))))))))))))))))))))))))))))))))))))))))))))))))))))))))))))))
theorem intaglioref03_Of_calls (p0 : Int) (R : Value → World → Prop) (w : World) (h : L_intaglioref03_Of p0 R w) : Calls Try.prog 75 #[(.int .u16 p0)] w (Ret R) :=
 lw_calls (fs := Try.fs) (an := a_intaglioref03_Of) (args := [(.int .u16 p0)]) Try.fsOK Try.mixed Try.func75 (by kernel_rfl) (by kernel_rfl)
 (Eq.mpr (by kernel_rfl : lwFn Try.prog Try.fs Try.f75 a_intaglioref03_Of [(.int .u16 p0)] w R = L_intaglioref03_Of p0 R w) h)

/-- intaglio.intaglioref03.Letter -/
def a_intaglioref03_Letter : Ann := (.seq none .nil (.seq none .nil (.seq (some ⟨[1, 5], []⟩) (.seq none .nil (.cond (.seq none .nil .nil) .nil)) (.seq none (.seq none .nil (.cond (.seq none .nil .nil) .nil)) (.seq none (.seq none .nil (.cond (.seq none .nil .nil) .nil)) (.seq none .nil (.seq (some ⟨[5, 7], []⟩) (.seq none .nil (.cond (.seq none .nil .nil) .nil)) (.seq none .nil .nil))))))))
def L_intaglioref03_Letter (p0 : Int) (p1 : Int) (R : Value → World → Prop) (w : World) : Prop :=
 callR Try.prog 75 #[(.int .u16 p0)] w fun v1 w1 =>
 ∃ x2 : (Int × ByteArray × Bool × Bool × ByteArray × ByteArray × Int × Int × Unit), ∃ x3 : Bool, v1 = (.tuple #[(.agg #[(.int .u16 x2.1), (.string x2.2.1), (.bool x2.2.2.1), (.bool x2.2.2.2.1), (.string x2.2.2.2.2.1), (.string x2.2.2.2.2.2.1), (.int .i64 x2.2.2.2.2.2.2.1), (.int .u8 x2.2.2.2.2.2.2.2.1)]), (.bool x3)]) ∧
 Nw (w1.alloc (.cells #[(.int .u16 (0 : Int)), (.string (ByteArray.mk #[])), (.bool false), (.bool false), (.string (ByteArray.mk #[])), (.string (ByteArray.mk #[])), (.int .i64 (0 : Int)), (.int .u8 (0 : Int))] 133)) fun w2 =>
 Wr w2 (blk w1.heap.size) ∧
 Nw (w2.setCell (blk w1.heap.size) (.int .u16 x2.1)) fun w3 =>
 Wr w3 ((blk w1.heap.size).add 1) ∧
 Nw (w3.setCell ((blk w1.heap.size).add 1) (.string x2.2.1)) fun w4 =>
 Wr w4 ((blk w1.heap.size).add 2) ∧
 Nw (w4.setCell ((blk w1.heap.size).add 2) (.bool x2.2.2.1)) fun w5 =>
 Wr w5 ((blk w1.heap.size).add 3) ∧
 Nw (w5.setCell ((blk w1.heap.size).add 3) (.bool x2.2.2.2.1)) fun w6 =>
 Wr w6 ((blk w1.heap.size).add 4) ∧
 Nw (w6.setCell ((blk w1.heap.size).add 4) (.string x2.2.2.2.2.1)) fun w7 =>
 Wr w7 ((blk w1.heap.size).add 5) ∧
 Nw (w7.setCell ((blk w1.heap.size).add 5) (.string x2.2.2.2.2.2.1)) fun w8 =>
 Wr w8 ((blk w1.heap.size).add 6) ∧
 Nw (w8.setCell ((blk w1.heap.size).add 6) (.int .i64 x2.2.2.2.2.2.2.1)) fun w9 =>
 Wr w9 ((blk w1.heap.size).add 7) ∧
 Nw (w9.setCell ((blk w1.heap.size).add 7) (.int .u8 x2.2.2.2.2.2.2.2.1)) fun w10 =>
 JoinW (S := Unit) (fun m4 =>
 ifB (!x3)
 (R (.int .u8 (0 : Int)) w10)
 (ifB (decide (p1 < (0 : Int)))
 (R (.int .u8 (0 : Int)) w10)
 (m4 (()) w10)))
 (fun s5 w11 =>
 ldStr w11 ((blk w1.heap.size).add 4) fun x6 =>
 ifB (decide (p1 < (x6.size : Int)))
 (ldStr w11 ((blk w1.heap.size).add 4) fun x7 =>
 (0 ≤ p1 ∧ p1 < (x7.size : Int)) ∧
 R (.int .u8 (byteI x7 p1)) w11)
 (ldStr w11 ((blk w1.heap.size).add 5) fun x8 =>
 ifB ((x8.size : Int) == (0 : Int))
 (R (.int .u8 (0 : Int)) w11)
 (ldStr w11 ((blk w1.heap.size).add 4) fun x9 =>
 JoinW (S := Unit) (fun m10 =>
 ldI w11.drew ((blk w1.heap.size).add 6) .i64 fun x12 =>
 ifB (decide (x12 > (0 : Int)))
 (ldStr w11.drew ((blk w1.heap.size).add 5) fun x13 =>
 ifB (decide ((x13.size : Int) = 0))
 (False)
 (ldI w11.drew ((blk w1.heap.size).add 6) .i64 fun x14 =>
 ifB (decide ((IntKind.i64.wrap (Int.tdiv (IntKind.i64.wrap (p1 - (x9.size : Int))) (x13.size : Int))) ≥ x14))
 (R (.int .u8 (0 : Int)) w11.drew)
 (m10 (()) w11.drew)))
 (m10 (()) w11.drew))
 (fun s11 w12 =>
 ldStr w12.drew ((blk w1.heap.size).add 5) fun x15 =>
 ldStr w12.drew ((blk w1.heap.size).add 5) fun x16 =>
 ifB (decide ((x16.size : Int) = 0))
 (False)
 ((0 ≤ (Int.tmod (IntKind.i64.wrap (p1 - (x9.size : Int))) (x16.size : Int)) ∧ (Int.tmod (IntKind.i64.wrap (p1 - (x9.size : Int))) (x16.size : Int)) < (x15.size : Int)) ∧
 R (.int .u8 (byteI x15 (Int.tmod (IntKind.i64.wrap (p1 - (x9.size : Int))) (x16.size : Int)))) w12.drew)))))
theorem intaglioref03_Letter_calls (p0 : Int) (p1 : Int) (R : Value → World → Prop) (w : World) (h : L_intaglioref03_Letter p0 p1 R w) : Calls Try.prog 98 #[(.int .u16 p0), (.int .i64 p1)] w (Ret R) :=
 lw_calls (fs := Try.fs) (an := a_intaglioref03_Letter) (args := [(.int .u16 p0), (.int .i64 p1)]) Try.fsOK Try.mixed Try.func98 (by kernel_rfl) (by kernel_rfl)
 (Eq.mpr (by kernel_rfl : lwFn Try.prog Try.fs Try.f98 a_intaglioref03_Letter [(.int .u16 p0), (.int .i64 p1)] w R = L_intaglioref03_Letter p0 p1 R w) h)

/-- intaglio.intaglioref03.form -/
def a_intaglioref03_form : Ann := (.seq none .nil (.seq none .nil .nil))
def L_intaglioref03_form (p0 : Int) (p1 : ByteArray) (p2 : Bool) (p3 : Bool) (p4 : ByteArray) (p5 : ByteArray) (p6 : Int) (p7 : Int) (R : Value → World → Prop) (w : World) : Prop :=
 Nw (w.alloc (.cells #[(.int .u16 (0 : Int)), (.string (ByteArray.mk #[])), (.bool false), (.bool false), (.string (ByteArray.mk #[])), (.string (ByteArray.mk #[])), (.int .i64 (0 : Int)), (.int .u8 (0 : Int))] 133)) fun w1 =>
 Wr w1 (blk w.heap.size) ∧
 Nw (w1.setCell (blk w.heap.size) (.int .u16 p0)) fun w2 =>
 Wr w2 ((blk w.heap.size).add 1) ∧
 Nw (w2.setCell ((blk w.heap.size).add 1) (.string p1)) fun w3 =>
 Wr w3 ((blk w.heap.size).add 2) ∧
 Nw (w3.setCell ((blk w.heap.size).add 2) (.bool p2)) fun w4 =>
 Wr w4 ((blk w.heap.size).add 3) ∧
 Nw (w4.setCell ((blk w.heap.size).add 3) (.bool p3)) fun w5 =>
 Wr w5 ((blk w.heap.size).add 4) ∧
 Nw (w5.setCell ((blk w.heap.size).add 4) (.string p4)) fun w6 =>
 Wr w6 ((blk w.heap.size).add 5) ∧
 Nw (w6.setCell ((blk w.heap.size).add 5) (.string p5)) fun w7 =>
 Wr w7 ((blk w.heap.size).add 6) ∧
 Nw (w7.setCell ((blk w.heap.size).add 6) (.int .i64 p6)) fun w8 =>
 Wr w8 ((blk w.heap.size).add 7) ∧
 Nw (w8.setCell ((blk w.heap.size).add 7) (.int .u8 p7)) fun w9 =>
 ldI w9 ((blk w.heap.size).add 0) .u16 fun x1 =>
 ldStr w9 ((blk w.heap.size).add 1) fun x2 =>
 ldB w9 ((blk w.heap.size).add 2) fun x3 =>
 ldB w9 ((blk w.heap.size).add 3) fun x4 =>
 ldStr w9 ((blk w.heap.size).add 4) fun x5 =>
 ldStr w9 ((blk w.heap.size).add 5) fun x6 =>
 ldI w9 ((blk w.heap.size).add 6) .i64 fun x7 =>
 ldI w9 ((blk w.heap.size).add 7) .u8 fun x8 =>
 R (.agg #[(.int .u16 x1), (.string x2), (.bool x3), (.bool x4), (.string x5), (.string x6), (.int .i64 x7), (.int .u8 x8)]) w9
theorem intaglioref03_form_calls (p0 : Int) (p1 : ByteArray) (p2 : Bool) (p3 : Bool) (p4 : ByteArray) (p5 : ByteArray) (p6 : Int) (p7 : Int) (R : Value → World → Prop) (w : World) (h : L_intaglioref03_form p0 p1 p2 p3 p4 p5 p6 p7 R w) : Calls Try.prog 100 #[(.int .u16 p0), (.string p1), (.bool p2), (.bool p3), (.string p4), (.string p5), (.int .i64 p6), (.int .u8 p7)] w (Ret R) :=
 lw_calls (fs := Try.fs) (an := a_intaglioref03_form) (args := [(.int .u16 p0), (.string p1), (.bool p2), (.bool p3), (.string p4), (.string p5), (.int .i64 p6), (.int .u8 p7)]) Try.fsOK Try.mixed Try.func100 (by kernel_rfl) (by kernel_rfl)
 (Eq.mpr (by kernel_rfl : lwFn Try.prog Try.fs Try.f100 a_intaglioref03_form [(.int .u16 p0), (.string p1), (.bool p2), (.bool p3), (.string p4), (.string p5), (.int .i64 p6), (.int .u8 p7)] w R = L_intaglioref03_form p0 p1 p2 p3 p4 p5 p6 p7 R w) h)

/-- intaglio.intaglioref03.Kind -/
def a_intaglioref03_Kind : Ann := (.seq none .nil (.seq none (.seq none .nil (.cond (.seq none .nil .nil) .nil)) (.seq none (.seq none .nil (.cond (.seq none .nil .nil) .nil)) (.seq none (.seq none .nil (.cond (.seq none .nil .nil) .nil)) (.seq none .nil (.seq none (.seq none .nil (.one (.loop ⟨[0, 3], [(4, (.b (.int .i64)))]⟩ (.seq none (.seq none .nil (.cond .nil .nil)) (.seq none (.one (.seq none .nil (.cond (.seq none .nil .nil) .nil))) .nil))))) (.seq none .nil .nil)))))))
def L_intaglioref03_Kind (p0 : Int) (R : Value → World → Prop) (w : World) : Prop :=
 ifB (p0 == (105 : Int))
 (R (.int .u8 (1 : Int)) w)
 (ifB (p0 == (110 : Int))
 (R (.int .u8 (2 : Int)) w)
 (ifB (p0 == (115 : Int))
 (R (.int .u8 (3 : Int)) w)
 (callR Try.prog 144 #[] w fun v1 w1 =>
 ∃ x2 : Sl, v1 = (.slice x2.a x2.l x2.c) ∧
 LoopW (S := Int × Unit) (fun s3 w2 n4 =>
 ifB (decide (s3.1 < (x2.l : Int)))
 ((0 ≤ s3.1 ∧ s3.1 < (x2.l : Int)) ∧
 derefP x2.a fun a5 =>
 ldI w2 (a5.add ((Int.toNat s3.1) * 3)) .u8 fun x6 =>
 ifB (x6 == p0)
 (R (.int .u8 (4 : Int)) w2)
 (n4 ((IntKind.i64.wrap (s3.1 + (1 : Int))), ()) w2))
 (R (.int .u8 (0 : Int)) w2))
 ((0 : Int), ()) w1)))
theorem intaglioref03_Kind_calls (p0 : Int) (R : Value → World → Prop) (w : World) (h : L_intaglioref03_Kind p0 R w) : Calls Try.prog 120 #[(.int .u8 p0)] w (Ret R) :=
 lw_calls (fs := Try.fs) (an := a_intaglioref03_Kind) (args := [(.int .u8 p0)]) Try.fsOK Try.mixed Try.func120 (by kernel_rfl) (by kernel_rfl)
 (Eq.mpr (by kernel_rfl : lwFn Try.prog Try.fs Try.f120 a_intaglioref03_Kind [(.int .u8 p0)] w R = L_intaglioref03_Kind p0 R w) h)

/-- intaglio.intaglioref03.Enum -/
def a_intaglioref03_Enum : Ann := (.seq none .nil (.seq none .nil (.seq none (.seq none .nil (.one (.loop ⟨[0, 1, 6], [(7, (.b (.int .i64)))]⟩ (.seq none (.seq none .nil (.cond .nil .nil)) (.seq (some ⟨[0, 1, 6, 7], []⟩) (.one (.seq none .nil (.cond (.seq none .nil .nil) .nil))) .nil))))) (.seq none .nil .nil))))
def L_intaglioref03_Enum (p0 : Int) (p1 : Int) (R : Value → World → Prop) (w : World) : Prop :=
 callR Try.prog 144 #[] w fun v1 w1 =>
 ∃ x2 : Sl, v1 = (.slice x2.a x2.l x2.c) ∧
 LoopW (S := Int × Unit) (fun s3 w2 n4 =>
 ifB (decide (s3.1 < (x2.l : Int)))
 (JoinW (S := Unit) (fun m5 =>
 (0 ≤ s3.1 ∧ s3.1 < (x2.l : Int)) ∧
 derefP x2.a fun a7 =>
 ldI w2 (a7.add ((Int.toNat s3.1) * 3)) .u8 fun x8 =>
 ifB (x8 == p0)
 ((0 ≤ s3.1 ∧ s3.1 < (x2.l : Int)) ∧
 derefP x2.a fun a9 =>
 ldI w2 ((a9.add ((Int.toNat s3.1) * 3)).add 1) .u32 fun x10 =>
 ifB (x10 == p1)
 ((0 ≤ s3.1 ∧ s3.1 < (x2.l : Int)) ∧
 derefP x2.a fun a11 =>
 ldStr w2 ((a11.add ((Int.toNat s3.1) * 3)).add 2) fun x12 =>
 R (.tuple #[(.string x12), (.bool true)]) w2)
 (m5 (()) w2))
 (m5 (()) w2))
 (fun s6 w3 =>
 n4 ((IntKind.i64.wrap (s3.1 + (1 : Int))), ()) w3))
 (R (.tuple #[(.string (ByteArray.mk #[])), (.bool false)]) w2))
 ((0 : Int), ()) w1
theorem intaglioref03_Enum_calls (p0 : Int) (p1 : Int) (R : Value → World → Prop) (w : World) (h : L_intaglioref03_Enum p0 p1 R w) : Calls Try.prog 122 #[(.int .u8 p0), (.int .u32 p1)] w (Ret R) :=
 lw_calls (fs := Try.fs) (an := a_intaglioref03_Enum) (args := [(.int .u8 p0), (.int .u32 p1)]) Try.fsOK Try.mixed Try.func122 (by kernel_rfl) (by kernel_rfl)
 (Eq.mpr (by kernel_rfl : lwFn Try.prog Try.fs Try.f122 a_intaglioref03_Enum [(.int .u8 p0), (.int .u32 p1)] w R = L_intaglioref03_Enum p0 p1 R w) h)

/-- intaglio.intaglioref03.Names -/
def a_intaglioref03_Names : Ann := (.seq none .nil (.seq none .nil (.seq none .nil (.seq none .nil (.seq none .nil (.seq none .nil (.seq none .nil (.seq none .nil (.seq none .nil (.seq none .nil (.seq none .nil (.seq none .nil (.seq none .nil (.seq none .nil (.seq none .nil (.seq none .nil (.seq none .nil (.seq none .nil (.seq none .nil (.seq none .nil (.seq none .nil (.seq none .nil (.seq none .nil (.seq none .nil (.seq none .nil (.seq none .nil (.seq none .nil (.seq none .nil (.seq none .nil (.seq none .nil (.seq none .nil (.seq none .nil (.seq none .nil .nil)))))))))))))))))))))))))))))))))
def L_intaglioref03_Names  (R : Value → World → Prop) (w : World) : Prop :=
 Nw (w.alloc (.cells #[(.int .u8 (107 : Int)), (.int .u32 (0 : Int)), (.string (ByteArray.mk #[77, 97, 116, 114, 105, 120]))] 207)) fun w1 =>
 appendS Try.prog 204 (.slice none 0 0) (.slice (some (blk w.heap.size)) 1 1) w1 fun r1 w2 =>
 Nw (w2.alloc (.cells #[(.int .u8 (107 : Int)), (.int .u32 (1 : Int)), (.string (ByteArray.mk #[83, 104, 97, 100, 101, 114]))] 207)) fun w3 =>
 appendS Try.prog 204 (.slice r1.a r1.l r1.c) (.slice (some (blk w2.heap.size)) 1 1) w3 fun r2 w4 =>
 Nw (w4.alloc (.cells #[(.int .u8 (97 : Int)), (.int .u32 (0 : Int)), (.string (ByteArray.mk #[76, 111, 103, 105, 99, 97, 108]))] 207)) fun w5 =>
 appendS Try.prog 204 (.slice r2.a r2.l r2.c) (.slice (some (blk w4.heap.size)) 1 1) w5 fun r3 w6 =>
 Nw (w6.alloc (.cells #[(.int .u8 (109 : Int)), (.int .u32 (0 : Int)), (.string (ByteArray.mk #[83, 105, 109, 112, 108, 101]))] 207)) fun w7 =>
 appendS Try.prog 204 (.slice r3.a r3.l r3.c) (.slice (some (blk w6.heap.size)) 1 1) w7 fun r4 w8 =>
 Nw (w8.alloc (.cells #[(.int .u8 (109 : Int)), (.int .u32 (1 : Int)), (.string (ByteArray.mk #[71, 76, 83, 76, 52, 53, 48]))] 207)) fun w9 =>
 appendS Try.prog 204 (.slice r4.a r4.l r4.c) (.slice (some (blk w8.heap.size)) 1 1) w9 fun r5 w10 =>
 Nw (w10.alloc (.cells #[(.int .u8 (101 : Int)), (.int .u32 (0 : Int)), (.string (ByteArray.mk #[86, 101, 114, 116, 101, 120]))] 207)) fun w11 =>
 appendS Try.prog 204 (.slice r5.a r5.l r5.c) (.slice (some (blk w10.heap.size)) 1 1) w11 fun r6 w12 =>
 Nw (w12.alloc (.cells #[(.int .u8 (101 : Int)), (.int .u32 (4 : Int)), (.string (ByteArray.mk #[70, 114, 97, 103, 109, 101, 110, 116]))] 207)) fun w13 =>
 appendS Try.prog 204 (.slice r6.a r6.l r6.c) (.slice (some (blk w12.heap.size)) 1 1) w13 fun r7 w14 =>
 Nw (w14.alloc (.cells #[(.int .u8 (120 : Int)), (.int .u32 (7 : Int)), (.string (ByteArray.mk #[79, 114, 105, 103, 105, 110, 85, 112, 112, 101, 114, 76, 101, 102, 116]))] 207)) fun w15 =>
 appendS Try.prog 204 (.slice r7.a r7.l r7.c) (.slice (some (blk w14.heap.size)) 1 1) w15 fun r8 w16 =>
 Nw (w16.alloc (.cells #[(.int .u8 (108 : Int)), (.int .u32 (0 : Int)), (.string (ByteArray.mk #[85, 110, 107, 110, 111, 119, 110]))] 207)) fun w17 =>
 appendS Try.prog 204 (.slice r8.a r8.l r8.c) (.slice (some (blk w16.heap.size)) 1 1) w17 fun r9 w18 =>
 Nw (w18.alloc (.cells #[(.int .u8 (108 : Int)), (.int .u32 (1 : Int)), (.string (ByteArray.mk #[69, 83, 83, 76]))] 207)) fun w19 =>
 appendS Try.prog 204 (.slice r9.a r9.l r9.c) (.slice (some (blk w18.heap.size)) 1 1) w19 fun r10 w20 =>
 Nw (w20.alloc (.cells #[(.int .u8 (108 : Int)), (.int .u32 (2 : Int)), (.string (ByteArray.mk #[71, 76, 83, 76]))] 207)) fun w21 =>
 appendS Try.prog 204 (.slice r10.a r10.l r10.c) (.slice (some (blk w20.heap.size)) 1 1) w21 fun r11 w22 =>
 Nw (w22.alloc (.cells #[(.int .u8 (99 : Int)), (.int .u32 (1 : Int)), (.string (ByteArray.mk #[73, 110, 112, 117, 116]))] 207)) fun w23 =>
 appendS Try.prog 204 (.slice r11.a r11.l r11.c) (.slice (some (blk w22.heap.size)) 1 1) w23 fun r12 w24 =>
 Nw (w24.alloc (.cells #[(.int .u8 (99 : Int)), (.int .u32 (3 : Int)), (.string (ByteArray.mk #[79, 117, 116, 112, 117, 116]))] 207)) fun w25 =>
 appendS Try.prog 204 (.slice r12.a r12.l r12.c) (.slice (some (blk w24.heap.size)) 1 1) w25 fun r13 w26 =>
 Nw (w26.alloc (.cells #[(.int .u8 (99 : Int)), (.int .u32 (6 : Int)), (.string (ByteArray.mk #[80, 114, 105, 118, 97, 116, 101]))] 207)) fun w27 =>
 appendS Try.prog 204 (.slice r13.a r13.l r13.c) (.slice (some (blk w26.heap.size)) 1 1) w27 fun r14 w28 =>
 Nw (w28.alloc (.cells #[(.int .u8 (99 : Int)), (.int .u32 (7 : Int)), (.string (ByteArray.mk #[70, 117, 110, 99, 116, 105, 111, 110]))] 207)) fun w29 =>
 appendS Try.prog 204 (.slice r14.a r14.l r14.c) (.slice (some (blk w28.heap.size)) 1 1) w29 fun r15 w30 =>
 Nw (w30.alloc (.cells #[(.int .u8 (100 : Int)), (.int .u32 (0 : Int)), (.string (ByteArray.mk #[82, 101, 108, 97, 120, 101, 100, 80, 114, 101, 99, 105, 115, 105, 111, 110]))] 207)) fun w31 =>
 appendS Try.prog 204 (.slice r15.a r15.l r15.c) (.slice (some (blk w30.heap.size)) 1 1) w31 fun r16 w32 =>
 Nw (w32.alloc (.cells #[(.int .u8 (100 : Int)), (.int .u32 (11 : Int)), (.string (ByteArray.mk #[66, 117, 105, 108, 116, 73, 110]))] 207)) fun w33 =>
 appendS Try.prog 204 (.slice r16.a r16.l r16.c) (.slice (some (blk w32.heap.size)) 1 1) w33 fun r17 w34 =>
 Nw (w34.alloc (.cells #[(.int .u8 (100 : Int)), (.int .u32 (14 : Int)), (.string (ByteArray.mk #[70, 108, 97, 116]))] 207)) fun w35 =>
 appendS Try.prog 204 (.slice r17.a r17.l r17.c) (.slice (some (blk w34.heap.size)) 1 1) w35 fun r18 w36 =>
 Nw (w36.alloc (.cells #[(.int .u8 (100 : Int)), (.int .u32 (30 : Int)), (.string (ByteArray.mk #[76, 111, 99, 97, 116, 105, 111, 110]))] 207)) fun w37 =>
 appendS Try.prog 204 (.slice r18.a r18.l r18.c) (.slice (some (blk w36.heap.size)) 1 1) w37 fun r19 w38 =>
 Nw (w38.alloc (.cells #[(.int .u8 (102 : Int)), (.int .u32 (0 : Int)), (.string (ByteArray.mk #[78, 111, 110, 101]))] 207)) fun w39 =>
 appendS Try.prog 204 (.slice r19.a r19.l r19.c) (.slice (some (blk w38.heap.size)) 1 1) w39 fun r20 w40 =>
 Nw (w40.alloc (.cells #[(.int .u8 (102 : Int)), (.int .u32 (1 : Int)), (.string (ByteArray.mk #[73, 110, 108, 105, 110, 101]))] 207)) fun w41 =>
 appendS Try.prog 204 (.slice r20.a r20.l r20.c) (.slice (some (blk w40.heap.size)) 1 1) w41 fun r21 w42 =>
 Nw (w42.alloc (.cells #[(.int .u8 (102 : Int)), (.int .u32 (2 : Int)), (.string (ByteArray.mk #[68, 111, 110, 116, 73, 110, 108, 105, 110, 101]))] 207)) fun w43 =>
 appendS Try.prog 204 (.slice r21.a r21.l r21.c) (.slice (some (blk w42.heap.size)) 1 1) w43 fun r22 w44 =>
 Nw (w44.alloc (.cells #[(.int .u8 (102 : Int)), (.int .u32 (4 : Int)), (.string (ByteArray.mk #[80, 117, 114, 101]))] 207)) fun w45 =>
 appendS Try.prog 204 (.slice r22.a r22.l r22.c) (.slice (some (blk w44.heap.size)) 1 1) w45 fun r23 w46 =>
 Nw (w46.alloc (.cells #[(.int .u8 (102 : Int)), (.int .u32 (8 : Int)), (.string (ByteArray.mk #[67, 111, 110, 115, 116]))] 207)) fun w47 =>
 appendS Try.prog 204 (.slice r23.a r23.l r23.c) (.slice (some (blk w46.heap.size)) 1 1) w47 fun r24 w48 =>
 Nw (w48.alloc (.cells #[(.int .u8 (104 : Int)), (.int .u32 (0 : Int)), (.string (ByteArray.mk #[78, 111, 110, 101]))] 207)) fun w49 =>
 appendS Try.prog 204 (.slice r24.a r24.l r24.c) (.slice (some (blk w48.heap.size)) 1 1) w49 fun r25 w50 =>
 Nw (w50.alloc (.cells #[(.int .u8 (104 : Int)), (.int .u32 (1 : Int)), (.string (ByteArray.mk #[70, 108, 97, 116, 116, 101, 110]))] 207)) fun w51 =>
 appendS Try.prog 204 (.slice r25.a r25.l r25.c) (.slice (some (blk w50.heap.size)) 1 1) w51 fun r26 w52 =>
 Nw (w52.alloc (.cells #[(.int .u8 (104 : Int)), (.int .u32 (2 : Int)), (.string (ByteArray.mk #[68, 111, 110, 116, 70, 108, 97, 116, 116, 101, 110]))] 207)) fun w53 =>
 appendS Try.prog 204 (.slice r26.a r26.l r26.c) (.slice (some (blk w52.heap.size)) 1 1) w53 fun r27 w54 =>
 Nw (w54.alloc (.cells #[(.int .u8 (103 : Int)), (.int .u32 (0 : Int)), (.string (ByteArray.mk #[78, 111, 110, 101]))] 207)) fun w55 =>
 appendS Try.prog 204 (.slice r27.a r27.l r27.c) (.slice (some (blk w54.heap.size)) 1 1) w55 fun r28 w56 =>
 Nw (w56.alloc (.cells #[(.int .u8 (103 : Int)), (.int .u32 (1 : Int)), (.string (ByteArray.mk #[85, 110, 114, 111, 108, 108]))] 207)) fun w57 =>
 appendS Try.prog 204 (.slice r28.a r28.l r28.c) (.slice (some (blk w56.heap.size)) 1 1) w57 fun r29 w58 =>
 Nw (w58.alloc (.cells #[(.int .u8 (103 : Int)), (.int .u32 (2 : Int)), (.string (ByteArray.mk #[68, 111, 110, 116, 85, 110, 114, 111, 108, 108]))] 207)) fun w59 =>
 appendS Try.prog 204 (.slice r29.a r29.l r29.c) (.slice (some (blk w58.heap.size)) 1 1) w59 fun r30 w60 =>
 R (.slice r30.a r30.l r30.c) w60
theorem intaglioref03_Names_calls  (R : Value → World → Prop) (w : World) (h : L_intaglioref03_Names  R w) : Calls Try.prog 144 #[] w (Ret R) :=
 lw_calls (fs := Try.fs) (an := a_intaglioref03_Names) (args := []) Try.fsOK Try.mixed Try.func144 (by kernel_rfl) (by kernel_rfl)
 (Eq.mpr (by kernel_rfl : lwFn Try.prog Try.fs Try.f144 a_intaglioref03_Names [] w R = L_intaglioref03_Names  R w) h)

end Go.Proofs
