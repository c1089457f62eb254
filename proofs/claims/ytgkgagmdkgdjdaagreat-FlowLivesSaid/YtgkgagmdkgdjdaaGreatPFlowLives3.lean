/- FlowLives, part 3; made small by a program. -/
import Derived.Test.YtgkgagmdkgdjdaaGreatProg
import Derived.Laws.Strings
import Derived.MapKept
import Derived.Test.YtgkgagmdkgdjdaaGreatPFlowLives2
namespace Go.Proofs
open Go.Gk
set_option linter.unusedVariables false
set_option maxRecDepth 100000
def zbQ:Ann:=(.q (.q (.seq none Z10 (.seq none (.q (.one (.loop ⟨[0,1,6],[(8,(.b (.int .i64)))]⟩ (.seq none Z13 (.seq (some ⟨[0,1,6,8],[]⟩) Z1a .nil))))) (.q (.seq none (.one (.loop ⟨[1,6],[(10,(.b (.int .i64)))]⟩ Z1f)) Z17))))))
def zbB(p0:Int)(p1:Sl)(R:VWP)(w:World):Prop:=dK 152 #[zh p0] w λx2 x3 w1=>Nw (w1.alloc (.cells #[zh 0,.string (BM #[]),.bool false,.bool false,.string (BM #[]),.string (BM #[]),zi 0,zb 0] 187)) λw2=>dJ w2 (zB w1) (zh x2.1) (.string x2.2.1) (.bool x2.2.2.1) (.bool x2.2.2.2.1) (.string x2.2.2.2.2.1) (.string x2.2.2.2.2.2.1) (zi x2.2.2.2.2.2.2.1) (zb x2.2.2.2.2.2.2.2.1) λw10=>ifB (!x3) (R (.tuple #[zi 0,.bool false]) w10) (zk (S:=Int×Unit) (λs4 w11 n5=>ifB (decide (s4.1<(p1.l:Int))) (zl (S:=Unit) (λm6=>dI 155 #[zh p0,zi s4.1] w11 λx9 w12=>ifB (x9==0) (R (.tuple #[zi s4.1,.bool false]) w12.drew) ((0<=s4.1/\s4.1<(p1.l:Int))/\zc p1.a λa10=>ldI w12.drew (a10.add s4.1.toNat) .u8 λx11=>dI 156 #[zb x9] w12.drew λx13 w13=>w13.cell? (a10.add s4.1.toNat)=some (zb x11)/\ifB (x13 !=x11) (R (.tuple #[zi s4.1,.bool false]) w13) (m6 () w13))) (λs7 w14=>n5 ((IntKind.i64.wrap (s4.1+(1:Int))),()) w14)) (zv w11 ((zB w1).add 4) λx14=>zk (S:=Int×Unit) (λs15 w15 n16=>ifB (decide (s15.1<(p1.l:Int))) (zv w15 ((zB w1).add 5) λx17=>n16 ((IntKind.i64.wrap (s15.1+(x17.size:Int))),()) w15) (ifB (s15.1 !=(p1.l:Int)) (R (.tuple #[zi (p1.l:Int),.bool false]) w15) (R (.tuple #[zi 0,.bool true]) w15))) ((x14.size:Int),()) w11)) (0,()) w10)
theorem ze4(p0)(p1)(R)(w)(h:zbB p0 p1 R w):cC 119 #[.int .u16 p0,.slice p1.a p1.l p1.c] w R:=lwC zbQ Tryz.func119 h
def zdr:Ann:=(.q (.seq none (.q (.one (.q (.cond Z11 (.q (.cond Z11 (.q (.cond Z11 (.q (.cond Z11 (.q (.cond Z11 (.q (.cond Z11 (.q (.cond Z11 (.q (.cond Z11 (.q (.cond Z11 (.q (.cond Z11 (.q (.cond Z11 (.q (.cond Z11 (.q (.cond Z11 (.q (.cond Z11 (.q (.cond Z11 (.q (.cond Z11 (.q (.cond Z11 (.q (.cond Z11 (.q (.cond Z11 (.q (.cond Z11 (.q (.cond Z11 (.q (.cond Z11 (.q (.cond Z11 (.q (.cond Z11 (.q (.cond Z11 (.q (.cond Z11 (.q (.cond Z11 (.q (.cond Z11 (.q (.cond Z11 (.q (.cond Z11 (.q (.cond Z11 (.q (.cond Z11 (.q (.cond Z11 (.q (.cond Z11 (.q (.cond Z11 (.q (.cond Z11 (.q (.cond Z11 (.q (.cond Z11 (.q (.cond Z11 (.q (.cond Z11 (.q (.cond Z11 (.q (.cond Z11 (.q (.cond Z11 (.q (.cond Z11 (.q (.cond Z11 (.q (.cond Z11 (.q (.cond Z11 (.q (.cond Z11 (.q (.cond Z11 (.q (.cond Z11 (.q (.cond Z11 (.q (.cond Z11 (.q (.cond Z11 (.q (.cond Z11 (.q (.cond Z11 (.q (.cond Z11 (.q (.cond Z11 (.q (.cond Z11 (.q (.cond Z11 (.q (.cond Z11 (.q (.cond Z11 (.q (.cond Z11 Z12)))))))))))))))))))))))))))))))))))))))))))))))))))))))))))))))))))))))))))))))))))))))))))))))))))))))))))))))))))))))))))))) Z11))
abbrev ze(p0:Int)(R:VWP)(w:World)(v_0:Value)(w_1:World):Prop:=
 ∃x_2:(Int×ByteArray×Bool×Bool×ByteArray×ByteArray×Int×Int×Unit),v_0=(.agg #[(.int .u16 x_2.1),(.string x_2.2.1),(.bool x_2.2.2.1),(.bool x_2.2.2.2.1),(.string x_2.2.2.2.2.1),(.string x_2.2.2.2.2.2.1),(.int .i64 x_2.2.2.2.2.2.2.1),(.int .u8 x_2.2.2.2.2.2.2.2.1)])/\
 Wr w_1 (blk w.heap.size)/\
 Nw (w_1.setCell (blk w.heap.size) (.int .u16 x_2.1)) λw_3=>
 Wr w_3 ((blk w.heap.size).add 1)/\
 Nw (w_3.setCell ((blk w.heap.size).add 1) (.string x_2.2.1)) λw_4=>
 Wr w_4 ((blk w.heap.size).add 2)/\
 Nw (w_4.setCell ((blk w.heap.size).add 2) (.bool x_2.2.2.1)) λw_5=>
 Wr w_5 ((blk w.heap.size).add 3)/\
 Nw (w_5.setCell ((blk w.heap.size).add 3) (.bool x_2.2.2.2.1)) λw_6=>
 Wr w_6 ((blk w.heap.size).add 4)/\
 Nw (w_6.setCell ((blk w.heap.size).add 4) (.string x_2.2.2.2.2.1)) λw_7=>
 Wr w_7 ((blk w.heap.size).add 5)/\
 Nw (w_7.setCell ((blk w.heap.size).add 5) (.string x_2.2.2.2.2.2.1)) λw_8=>
 Wr w_8 ((blk w.heap.size).add 6)/\
 Nw (w_8.setCell ((blk w.heap.size).add 6) (.int .i64 x_2.2.2.2.2.2.2.1)) λw_9=>
 Wr w_9 ((blk w.heap.size).add 7)/\
 Nw (w_9.setCell ((blk w.heap.size).add 7) (.int .u8 x_2.2.2.2.2.2.2.2.1)) λw_10=>
 ldI w_10 ((blk w.heap.size).add 0) .u16 λx_11=>
 zv w_10 ((blk w.heap.size).add 1) λx_12=>
 ldB w_10 ((blk w.heap.size).add 2) λx_13=>
 ldB w_10 ((blk w.heap.size).add 3) λx_14=>
 zv w_10 ((blk w.heap.size).add 4) λx_15=>
 zv w_10 ((blk w.heap.size).add 5) λx_16=>
 ldI w_10 ((blk w.heap.size).add 6) .i64 λx_17=>
 ldI w_10 ((blk w.heap.size).add 7) .u8 λx_18=>
 R (.tuple #[(.agg #[(.int .u16 x_11),(.string x_12),(.bool x_13),(.bool x_14),(.string x_15),(.string x_16),(.int .i64 x_17),(.int .u8 x_18)]),(.bool true)]) w_10
def YK(p0:Int)(R:VWP)(w:World):Prop:=Nw (w.alloc (.cells #[zh 0,.string (BM #[]),.bool false,.bool false,.string (BM #[]),.string (BM #[]),zi 0,zb 0] 187)) λw1=>ifB (p0==1) (cR 180 #[zh p0,.string (BM #[79,112,85,110,100,101,102]),.bool true,.bool true,.string (BM #[]),.string (BM #[]),zi 0,zb 7] w1 λv w_=>ze p0 R w v w_) (ifB (p0==3) (cR 180 #[zh p0,.string (BM #[79,112,83,111,117,114,99,101]),.bool false,.bool false,.string (BM #[108,110]),.string (BM #[]),zi 0,zb 4] w1 λv w_=>ze p0 R w v w_) (ifB (p0==5) (cR 180 #[zh p0,.string (BM #[79,112,78,97,109,101]),.bool false,.bool false,.string (BM #[105,115]),.string (BM #[]),zi 0,zb 5] w1 λv w_=>ze p0 R w v w_) (ifB (p0==6) (cR 180 #[zh p0,.string (BM #[79,112,77,101,109,98,101,114,78,97,109,101]),.bool false,.bool false,.string (BM #[105,110,115]),.string (BM #[]),zi 0,zb 5] w1 λv w_=>ze p0 R w v w_) (ifB (p0==7) (cR 180 #[zh p0,.string (BM #[79,112,83,116,114,105,110,103]),.bool false,.bool true,.string (BM #[115]),.string (BM #[]),zi 0,zb 4] w1 λv w_=>ze p0 R w v w_) (ifB (p0==14) (cR 180 #[zh p0,.string (BM #[79,112,77,101,109,111,114,121,77,111,100,101,108]),.bool false,.bool false,.string (BM #[97,109]),.string (BM #[]),zi 0,zb 1] w1 λv w_=>ze p0 R w v w_) (ifB (p0==15) (cR 180 #[zh p0,.string (BM #[79,112,69,110,116,114,121,80,111,105,110,116]),.bool false,.bool false,.string (BM #[101,105,115]),.string (BM #[105]),zi 0,zb 2] w1 λv w_=>ze p0 R w v w_) (ifB (p0==16) (cR 180 #[zh p0,.string (BM #[79,112,69,120,101,99,117,116,105,111,110,77,111,100,101]),.bool false,.bool false,.string (BM #[105,120]),.string (BM #[]),zi 0,zb 3] w1 λv w_=>ze p0 R w v w_) (ifB (p0==17) (cR 180 #[zh p0,.string (BM #[79,112,67,97,112,97,98,105,108,105,116,121]),.bool false,.bool false,.string (BM #[107]),.string (BM #[]),zi 0,zb 0] w1 λv w_=>ze p0 R w v w_) (ifB (p0==19) (cR 180 #[zh p0,.string (BM #[79,112,84,121,112,101,86,111,105,100]),.bool false,.bool true,.string (BM #[]),.string (BM #[]),zi 0,zb 7] w1 λv w_=>ze p0 R w v w_) (ifB (p0==20) (cR 180 #[zh p0,.string (BM #[79,112,84,121,112,101,66,111,111,108]),.bool false,.bool true,.string (BM #[]),.string (BM #[]),zi 0,zb 7] w1 λv w_=>ze p0 R w v w_) (ifB (p0==21) (cR 180 #[zh p0,.string (BM #[79,112,84,121,112,101,73,110,116]),.bool false,.bool true,.string (BM #[110,110]),.string (BM #[]),zi 0,zb 7] w1 λv w_=>ze p0 R w v w_) (ifB (p0==23) (cR 180 #[zh p0,.string (BM #[79,112,84,121,112,101,86,101,99,116,111,114]),.bool false,.bool true,.string (BM #[105,110]),.string (BM #[]),zi 0,zb 7] w1 λv w_=>ze p0 R w v w_) (ifB (p0==28) (cR 180 #[zh p0,.string (BM #[79,112,84,121,112,101,65,114,114,97,121]),.bool false,.bool true,.string (BM #[105,105]),.string (BM #[]),zi 0,zb 7] w1 λv w_=>ze p0 R w v w_) (ifB (p0==30) (cR 180 #[zh p0,.string (BM #[79,112,84,121,112,101,83,116,114,117,99,116]),.bool false,.bool true,.string (BM #[]),.string (BM #[105]),zi 0,zb 7] w1 λv w_=>ze p0 R w v w_) (ifB (p0==32) (cR 180 #[zh p0,.string (BM #[79,112,84,121,112,101,80,111,105,110,116,101,114]),.bool false,.bool true,.string (BM #[99,105]),.string (BM #[]),zi 0,zb 7] w1 λv w_=>ze p0 R w v w_) (ifB (p0==33) (cR 180 #[zh p0,.string (BM #[79,112,84,121,112,101,70,117,110,99,116,105,111,110]),.bool false,.bool true,.string (BM #[105]),.string (BM #[105]),zi 0,zb 7] w1 λv w_=>ze p0 R w v w_) (ifB (p0==41) (cR 180 #[zh p0,.string (BM #[79,112,67,111,110,115,116,97,110,116,84,114,117,101]),.bool true,.bool true,.string (BM #[]),.string (BM #[]),zi 0,zb 7] w1 λv w_=>ze p0 R w v w_) (ifB (p0==42) (cR 180 #[zh p0,.string (BM #[79,112,67,111,110,115,116,97,110,116,70,97,108,115,101]),.bool true,.bool true,.string (BM #[]),.string (BM #[]),zi 0,zb 7] w1 λv w_=>ze p0 R w v w_) (ifB (p0==43) (cR 180 #[zh p0,.string (BM #[79,112,67,111,110,115,116,97,110,116]),.bool true,.bool true,.string (BM #[110]),.string (BM #[]),zi 0,zb 7] w1 λv w_=>ze p0 R w v w_) (ifB (p0==44) (cR 180 #[zh p0,.string (BM #[79,112,67,111,110,115,116,97,110,116,67,111,109,112,111,115,105,116,101]),.bool true,.bool true,.string (BM #[]),.string (BM #[105]),zi 0,zb 7] w1 λv w_=>ze p0 R w v w_) (ifB (p0==46) (cR 180 #[zh p0,.string (BM #[79,112,67,111,110,115,116,97,110,116,78,117,108,108]),.bool true,.bool true,.string (BM #[]),.string (BM #[]),zi 0,zb 7] w1 λv w_=>ze p0 R w v w_) (ifB (p0==54) (cR 180 #[zh p0,.string (BM #[79,112,70,117,110,99,116,105,111,110]),.bool true,.bool true,.string (BM #[102,105]),.string (BM #[]),zi 0,zb 8] w1 λv w_=>ze p0 R w v w_) (ifB (p0==55) (cR 180 #[zh p0,.string (BM #[79,112,70,117,110,99,116,105,111,110,80,97,114,97,109,101,116,101,114]),.bool true,.bool true,.string (BM #[]),.string (BM #[]),zi 0,zb 8] w1 λv w_=>ze p0 R w v w_) (ifB (p0==56) (cR 180 #[zh p0,.string (BM #[79,112,70,117,110,99,116,105,111,110,69,110,100]),.bool false,.bool false,.string (BM #[]),.string (BM #[]),zi 0,zb 8] w1 λv w_=>ze p0 R w v w_) (ifB (p0==57) (cR 180 #[zh p0,.string (BM #[79,112,70,117,110,99,116,105,111,110,67,97,108,108]),.bool true,.bool true,.string (BM #[105]),.string (BM #[105]),zi 0,zb 8] w1 λv w_=>ze p0 R w v w_) (ifB (p0==59) (cR 180 #[zh p0,.string (BM #[79,112,86,97,114,105,97,98,108,101]),.bool true,.bool true,.string (BM #[99]),.string (BM #[105]),zi 1,zb 7] w1 λv w_=>ze p0 R w v w_) (ifB (p0==61) (cR 180 #[zh p0,.string (BM #[79,112,76,111,97,100]),.bool true,.bool true,.string (BM #[105]),.string (BM #[]),zi 0,zb 8] w1 λv w_=>ze p0 R w v w_) (ifB (p0==62) (cR 180 #[zh p0,.string (BM #[79,112,83,116,111,114,101]),.bool false,.bool false,.string (BM #[105,105]),.string (BM #[]),zi 0,zb 8] w1 λv w_=>ze p0 R w v w_) (ifB (p0==65) (cR 180 #[zh p0,.string (BM #[79,112,65,99,99,101,115,115,67,104,97,105,110]),.bool true,.bool true,.string (BM #[105]),.string (BM #[105]),zi 0,zb 8] w1 λv w_=>ze p0 R w v w_) (ifB (p0==71) (cR 180 #[zh p0,.string (BM #[79,112,68,101,99,111,114,97,116,101]),.bool false,.bool false,.string (BM #[105,100]),.string (BM #[110]),zi 0,zb 6] w1 λv w_=>ze p0 R w v w_) (ifB (p0==77) (cR 180 #[zh p0,.string (BM #[79,112,86,101,99,116,111,114,69,120,116,114,97,99,116,68,121,110,97,109,105,99]),.bool true,.bool true,.string (BM #[105,105]),.string (BM #[]),zi 0,zb 8] w1 λv w_=>ze p0 R w v w_) (ifB (p0==78) (cR 180 #[zh p0,.string (BM #[79,112,86,101,99,116,111,114,73,110,115,101,114,116,68,121,110,97,109,105,99]),.bool true,.bool true,.string (BM #[105,105,105]),.string (BM #[]),zi 0,zb 8] w1 λv w_=>ze p0 R w v w_) (ifB (p0==79) (cR 180 #[zh p0,.string (BM #[79,112,86,101,99,116,111,114,83,104,117,102,102,108,101]),.bool true,.bool true,.string (BM #[105,105]),.string (BM #[110]),zi 0,zb 8] w1 λv w_=>ze p0 R w v w_) (ifB (p0==80) (cR 180 #[zh p0,.string (BM #[79,112,67,111,109,112,111,115,105,116,101,67,111,110,115,116,114,117,99,116]),.bool true,.bool true,.string (BM #[]),.string (BM #[105]),zi 0,zb 8] w1 λv w_=>ze p0 R w v w_) (ifB (p0==81) (cR 180 #[zh p0,.string (BM #[79,112,67,111,109,112,111,115,105,116,101,69,120,116,114,97,99,116]),.bool true,.bool true,.string (BM #[105]),.string (BM #[110]),zi 0,zb 8] w1 λv w_=>ze p0 R w v w_) (ifB (p0==82) (cR 180 #[zh p0,.string (BM #[79,112,67,111,109,112,111,115,105,116,101,73,110,115,101,114,116]),.bool true,.bool true,.string (BM #[105,105]),.string (BM #[110]),zi 0,zb 8] w1 λv w_=>ze p0 R w v w_) (ifB (p0==83) (cR 180 #[zh p0,.string (BM #[79,112,67,111,112,121,79,98,106,101,99,116]),.bool true,.bool true,.string (BM #[105]),.string (BM #[]),zi 0,zb 8] w1 λv w_=>ze p0 R w v w_) (ifB (p0==124) (cR 180 #[zh p0,.string (BM #[79,112,66,105,116,99,97,115,116]),.bool true,.bool true,.string (BM #[105]),.string (BM #[]),zi 0,zb 8] w1 λv w_=>ze p0 R w v w_) (ifB (p0==126) (cR 180 #[zh p0,.string (BM #[79,112,83,78,101,103,97,116,101]),.bool true,.bool true,.string (BM #[105]),.string (BM #[]),zi 0,zb 8] w1 λv w_=>ze p0 R w v w_) (ifB (p0==128) (cR 180 #[zh p0,.string (BM #[79,112,73,65,100,100]),.bool true,.bool true,.string (BM #[105,105]),.string (BM #[]),zi 0,zb 8] w1 λv w_=>ze p0 R w v w_) (ifB (p0==130) (cR 180 #[zh p0,.string (BM #[79,112,73,83,117,98]),.bool true,.bool true,.string (BM #[105,105]),.string (BM #[]),zi 0,zb 8] w1 λv w_=>ze p0 R w v w_) (ifB (p0==132) (cR 180 #[zh p0,.string (BM #[79,112,73,77,117,108]),.bool true,.bool true,.string (BM #[105,105]),.string (BM #[]),zi 0,zb 8] w1 λv w_=>ze p0 R w v w_) (ifB (p0==134) (cR 180 #[zh p0,.string (BM #[79,112,85,68,105,118]),.bool true,.bool true,.string (BM #[105,105]),.string (BM #[]),zi 0,zb 8] w1 λv w_=>ze p0 R w v w_) (ifB (p0==135) (cR 180 #[zh p0,.string (BM #[79,112,83,68,105,118]),.bool true,.bool true,.string (BM #[105,105]),.string (BM #[]),zi 0,zb 8] w1 λv w_=>ze p0 R w v w_) (ifB (p0==137) (cR 180 #[zh p0,.string (BM #[79,112,85,77,111,100]),.bool true,.bool true,.string (BM #[105,105]),.string (BM #[]),zi 0,zb 8] w1 λv w_=>ze p0 R w v w_) (ifB (p0==138) (cR 180 #[zh p0,.string (BM #[79,112,83,82,101,109]),.bool true,.bool true,.string (BM #[105,105]),.string (BM #[]),zi 0,zb 8] w1 λv w_=>ze p0 R w v w_) (ifB (p0==139) (cR 180 #[zh p0,.string (BM #[79,112,83,77,111,100]),.bool true,.bool true,.string (BM #[105,105]),.string (BM #[]),zi 0,zb 8] w1 λv w_=>ze p0 R w v w_) (ifB (p0==149) (cR 180 #[zh p0,.string (BM #[79,112,73,65,100,100,67,97,114,114,121]),.bool true,.bool true,.string (BM #[105,105]),.string (BM #[]),zi 0,zb 8] w1 λv w_=>ze p0 R w v w_) (ifB (p0==150) (cR 180 #[zh p0,.string (BM #[79,112,73,83,117,98,66,111,114,114,111,119]),.bool true,.bool true,.string (BM #[105,105]),.string (BM #[]),zi 0,zb 8] w1 λv w_=>ze p0 R w v w_) (ifB (p0==151) (cR 180 #[zh p0,.string (BM #[79,112,85,77,117,108,69,120,116,101,110,100,101,100]),.bool true,.bool true,.string (BM #[105,105]),.string (BM #[]),zi 0,zb 8] w1 λv w_=>ze p0 R w v w_) (ifB (p0==152) (cR 180 #[zh p0,.string (BM #[79,112,83,77,117,108,69,120,116,101,110,100,101,100]),.bool true,.bool true,.string (BM #[105,105]),.string (BM #[]),zi 0,zb 8] w1 λv w_=>ze p0 R w v w_) (ifB (p0==154) (cR 180 #[zh p0,.string (BM #[79,112,65,110,121]),.bool true,.bool true,.string (BM #[105]),.string (BM #[]),zi 0,zb 8] w1 λv w_=>ze p0 R w v w_) (ifB (p0==155) (cR 180 #[zh p0,.string (BM #[79,112,65,108,108]),.bool true,.bool true,.string (BM #[105]),.string (BM #[]),zi 0,zb 8] w1 λv w_=>ze p0 R w v w_) (ifB (p0==164) (cR 180 #[zh p0,.string (BM #[79,112,76,111,103,105,99,97,108,69,113,117,97,108]),.bool true,.bool true,.string (BM #[105,105]),.string (BM #[]),zi 0,zb 8] w1 λv w_=>ze p0 R w v w_) (ifB (p0==165) (cR 180 #[zh p0,.string (BM #[79,112,76,111,103,105,99,97,108,78,111,116,69,113,117,97,108]),.bool true,.bool true,.string (BM #[105,105]),.string (BM #[]),zi 0,zb 8] w1 λv w_=>ze p0 R w v w_) (ifB (p0==166) (cR 180 #[zh p0,.string (BM #[79,112,76,111,103,105,99,97,108,79,114]),.bool true,.bool true,.string (BM #[105,105]),.string (BM #[]),zi 0,zb 8] w1 λv w_=>ze p0 R w v w_) (ifB (p0==167) (cR 180 #[zh p0,.string (BM #[79,112,76,111,103,105,99,97,108,65,110,100]),.bool true,.bool true,.string (BM #[105,105]),.string (BM #[]),zi 0,zb 8] w1 λv w_=>ze p0 R w v w_) (ifB (p0==168) (cR 180 #[zh p0,.string (BM #[79,112,76,111,103,105,99,97,108,78,111,116]),.bool true,.bool true,.string (BM #[105]),.string (BM #[]),zi 0,zb 8] w1 λv w_=>ze p0 R w v w_) (ifB (p0==169) (cR 180 #[zh p0,.string (BM #[79,112,83,101,108,101,99,116]),.bool true,.bool true,.string (BM #[105,105,105]),.string (BM #[]),zi 0,zb 8] w1 λv w_=>ze p0 R w v w_) (ifB (p0==170) (cR 180 #[zh p0,.string (BM #[79,112,73,69,113,117,97,108]),.bool true,.bool true,.string (BM #[105,105]),.string (BM #[]),zi 0,zb 8] w1 λv w_=>ze p0 R w v w_) (ifB (p0==171) (cR 180 #[zh p0,.string (BM #[79,112,73,78,111,116,69,113,117,97,108]),.bool true,.bool true,.string (BM #[105,105]),.string (BM #[]),zi 0,zb 8] w1 λv w_=>ze p0 R w v w_) (ifB (p0==172) (cR 180 #[zh p0,.string (BM #[79,112,85,71,114,101,97,116,101,114,84,104,97,110]),.bool true,.bool true,.string (BM #[105,105]),.string (BM #[]),zi 0,zb 8] w1 λv w_=>ze p0 R w v w_) (ifB (p0==173) (cR 180 #[zh p0,.string (BM #[79,112,83,71,114,101,97,116,101,114,84,104,97,110]),.bool true,.bool true,.string (BM #[105,105]),.string (BM #[]),zi 0,zb 8] w1 λv w_=>ze p0 R w v w_) (ifB (p0==174) (cR 180 #[zh p0,.string (BM #[79,112,85,71,114,101,97,116,101,114,84,104,97,110,69,113,117,97,108]),.bool true,.bool true,.string (BM #[105,105]),.string (BM #[]),zi 0,zb 8] w1 λv w_=>ze p0 R w v w_) (ifB (p0==175) (cR 180 #[zh p0,.string (BM #[79,112,83,71,114,101,97,116,101,114,84,104,97,110,69,113,117,97,108]),.bool true,.bool true,.string (BM #[105,105]),.string (BM #[]),zi 0,zb 8] w1 λv w_=>ze p0 R w v w_) (ifB (p0==176) (cR 180 #[zh p0,.string (BM #[79,112,85,76,101,115,115,84,104,97,110]),.bool true,.bool true,.string (BM #[105,105]),.string (BM #[]),zi 0,zb 8] w1 λv w_=>ze p0 R w v w_) (ifB (p0==177) (cR 180 #[zh p0,.string (BM #[79,112,83,76,101,115,115,84,104,97,110]),.bool true,.bool true,.string (BM #[105,105]),.string (BM #[]),zi 0,zb 8] w1 λv w_=>ze p0 R w v w_) (ifB (p0==178) (cR 180 #[zh p0,.string (BM #[79,112,85,76,101,115,115,84,104,97,110,69,113,117,97,108]),.bool true,.bool true,.string (BM #[105,105]),.string (BM #[]),zi 0,zb 8] w1 λv w_=>ze p0 R w v w_) (ifB (p0==179) (cR 180 #[zh p0,.string (BM #[79,112,83,76,101,115,115,84,104,97,110,69,113,117,97,108]),.bool true,.bool true,.string (BM #[105,105]),.string (BM #[]),zi 0,zb 8] w1 λv w_=>ze p0 R w v w_) (ifB (p0==194) (cR 180 #[zh p0,.string (BM #[79,112,83,104,105,102,116,82,105,103,104,116,76,111,103,105,99,97,108]),.bool true,.bool true,.string (BM #[105,105]),.string (BM #[]),zi 0,zb 8] w1 λv w_=>ze p0 R w v w_) (ifB (p0==195) (cR 180 #[zh p0,.string (BM #[79,112,83,104,105,102,116,82,105,103,104,116,65,114,105,116,104,109,101,116,105,99]),.bool true,.bool true,.string (BM #[105,105]),.string (BM #[]),zi 0,zb 8] w1 λv w_=>ze p0 R w v w_) (ifB (p0==196) (cR 180 #[zh p0,.string (BM #[79,112,83,104,105,102,116,76,101,102,116,76,111,103,105,99,97,108]),.bool true,.bool true,.string (BM #[105,105]),.string (BM #[]),zi 0,zb 8] w1 λv w_=>ze p0 R w v w_) (ifB (p0==197) (cR 180 #[zh p0,.string (BM #[79,112,66,105,116,119,105,115,101,79,114]),.bool true,.bool true,.string (BM #[105,105]),.string (BM #[]),zi 0,zb 8] w1 λv w_=>ze p0 R w v w_) (ifB (p0==198) (cR 180 #[zh p0,.string (BM #[79,112,66,105,116,119,105,115,101,88,111,114]),.bool true,.bool true,.string (BM #[105,105]),.string (BM #[]),zi 0,zb 8] w1 λv w_=>ze p0 R w v w_) (ifB (p0==199) (cR 180 #[zh p0,.string (BM #[79,112,66,105,116,119,105,115,101,65,110,100]),.bool true,.bool true,.string (BM #[105,105]),.string (BM #[]),zi 0,zb 8] w1 λv w_=>ze p0 R w v w_) (ifB (p0==200) (cR 180 #[zh p0,.string (BM #[79,112,78,111,116]),.bool true,.bool true,.string (BM #[105]),.string (BM #[]),zi 0,zb 8] w1 λv w_=>ze p0 R w v w_) (ifB (p0==201) (cR 180 #[zh p0,.string (BM #[79,112,66,105,116,70,105,101,108,100,73,110,115,101,114,116]),.bool true,.bool true,.string (BM #[105,105,105,105]),.string (BM #[]),zi 0,zb 8] w1 λv w_=>ze p0 R w v w_) (ifB (p0==202) (cR 180 #[zh p0,.string (BM #[79,112,66,105,116,70,105,101,108,100,83,69,120,116,114,97,99,116]),.bool true,.bool true,.string (BM #[105,105,105]),.string (BM #[]),zi 0,zb 8] w1 λv w_=>ze p0 R w v w_) (ifB (p0==203) (cR 180 #[zh p0,.string (BM #[79,112,66,105,116,70,105,101,108,100,85,69,120,116,114,97,99,116]),.bool true,.bool true,.string (BM #[105,105,105]),.string (BM #[]),zi 0,zb 8] w1 λv w_=>ze p0 R w v w_) (ifB (p0==204) (cR 180 #[zh p0,.string (BM #[79,112,66,105,116,82,101,118,101,114,115,101]),.bool true,.bool true,.string (BM #[105]),.string (BM #[]),zi 0,zb 8] w1 λv w_=>ze p0 R w v w_) (ifB (p0==205) (cR 180 #[zh p0,.string (BM #[79,112,66,105,116,67,111,117,110,116]),.bool true,.bool true,.string (BM #[105]),.string (BM #[]),zi 0,zb 8] w1 λv w_=>ze p0 R w v w_) (ifB (p0==245) (cR 180 #[zh p0,.string (BM #[79,112,80,104,105]),.bool true,.bool true,.string (BM #[]),.string (BM #[105,105]),zi 0,zb 8] w1 λv w_=>ze p0 R w v w_) (ifB (p0==246) (cR 180 #[zh p0,.string (BM #[79,112,76,111,111,112,77,101,114,103,101]),.bool false,.bool false,.string (BM #[105,105,103]),.string (BM #[]),zi 0,zb 8] w1 λv w_=>ze p0 R w v w_) (ifB (p0==247) (cR 180 #[zh p0,.string (BM #[79,112,83,101,108,101,99,116,105,111,110,77,101,114,103,101]),.bool false,.bool false,.string (BM #[105,104]),.string (BM #[]),zi 0,zb 8] w1 λv w_=>ze p0 R w v w_) (ifB (p0==248) (cR 180 #[zh p0,.string (BM #[79,112,76,97,98,101,108]),.bool false,.bool true,.string (BM #[]),.string (BM #[]),zi 0,zb 8] w1 λv w_=>ze p0 R w v w_) (ifB (p0==249) (cR 180 #[zh p0,.string (BM #[79,112,66,114,97,110,99,104]),.bool false,.bool false,.string (BM #[105]),.string (BM #[]),zi 0,zb 8] w1 λv w_=>ze p0 R w v w_) (ifB (p0==250) (cR 180 #[zh p0,.string (BM #[79,112,66,114,97,110,99,104,67,111,110,100,105,116,105,111,110,97,108]),.bool false,.bool false,.string (BM #[105,105,105]),.string (BM #[]),zi 0,zb 8] w1 λv w_=>ze p0 R w v w_) (ifB (p0==251) (cR 180 #[zh p0,.string (BM #[79,112,83,119,105,116,99,104]),.bool false,.bool false,.string (BM #[105,105]),.string (BM #[110,105]),zi 0,zb 8] w1 λv w_=>ze p0 R w v w_) (ifB (p0==252) (cR 180 #[zh p0,.string (BM #[79,112,75,105,108,108]),.bool false,.bool false,.string (BM #[]),.string (BM #[]),zi 0,zb 8] w1 λv w_=>ze p0 R w v w_) (ifB (p0==253) (cR 180 #[zh p0,.string (BM #[79,112,82,101,116,117,114,110]),.bool false,.bool false,.string (BM #[]),.string (BM #[]),zi 0,zb 8] w1 λv w_=>ze p0 R w v w_) (ifB (p0==254) (cR 180 #[zh p0,.string (BM #[79,112,82,101,116,117,114,110,86,97,108,117,101]),.bool false,.bool false,.string (BM #[105]),.string (BM #[]),zi 0,zb 8] w1 λv w_=>ze p0 R w v w_) (ifB (p0==255) (cR 180 #[zh p0,.string (BM #[79,112,85,110,114,101,97,99,104,97,98,108,101]),.bool false,.bool false,.string (BM #[]),.string (BM #[]),zi 0,zb 8] w1 λv w_=>ze p0 R w v w_) (dJ w1 (zB w) (zh 0) (.string (BM #[])) (.bool false) (.bool false) (.string (BM #[])) (.string (BM #[])) (zi 0) (zb 0) λw846=>dL w846 (zB w) λx931 x932 x933 x934 x935 x936 x937 x938=>R (.tuple #[.agg #[zh x931,.string x932,.bool x933,.bool x934,.string x935,.string x936,zi x937,zb x938],.bool false]) w846)))))))))))))))))))))))))))))))))))))))))))))))))))))))))))))))))))))))))))))))))))))))))))))
theorem zfC(p0)(R)(w)(h:YK p0 R w):cC 152 #[.int .u16 p0] w R:=lwC zdr Tryz.func152 h
def zaz:Ann:=(.q (.q (.seq (some ⟨[1,5],[]⟩) Z10 (.seq none Z10 (.seq none Z10 (.q (.seq (some ⟨[5,7],[]⟩) Z10 Z11)))))))
def zas(p0:Int)(p1:Int)(R:VWP)(w:World):Prop:=dK 152 #[zh p0] w λx2 x3 w1=>Nw (w1.alloc (.cells #[zh 0,.string (BM #[]),.bool false,.bool false,.string (BM #[]),.string (BM #[]),zi 0,zb 0] 187)) λw2=>dJ w2 (zB w1) (zh x2.1) (.string x2.2.1) (.bool x2.2.2.1) (.bool x2.2.2.2.1) (.string x2.2.2.2.2.1) (.string x2.2.2.2.2.2.1) (zi x2.2.2.2.2.2.2.1) (zb x2.2.2.2.2.2.2.2.1) λw10=>zl (S:=Unit) (λm4=>ifB (!x3) (R (zb 0) w10) (ifB (decide (p1<(0:Int))) (R (zb 0) w10) (m4 () w10))) (λs5 w11=>zv w11 ((zB w1).add 4) λx6=>ifB (decide (p1<(x6.size:Int))) (zv w11 ((zB w1).add 4) λx7=>(0<=p1/\p1<(x7.size:Int))/\R (zb (Yu x7 p1)) w11) (zv w11 ((zB w1).add 5) λx8=>ifB ((x8.size:Int)==0) (R (zb 0) w11) (zv w11 ((zB w1).add 4) λx9=>zl (S:=Unit) (λm10=>ldI w11.drew ((zB w1).add 6) .i64 λx12=>ifB (decide (x12>(0:Int))) (zv w11.drew ((zB w1).add 5) λx13=>ifB (decide ((x13.size:Int)=0)) (False) (ldI w11.drew ((zB w1).add 6) .i64 λx14=>ifB (decide ((IntKind.i64.wrap (Int.tdiv (IntKind.i64.wrap (p1-(x9.size:Int))) (x13.size:Int)))≥x14)) (R (zb 0) w11.drew) (m10 () w11.drew))) (m10 () w11.drew)) (λs11 w12=>zv w12.drew ((zB w1).add 5) λx15=>zv w12.drew ((zB w1).add 5) λx16=>ifB (decide ((x16.size:Int)=0)) (False) ((0<=(Int.tmod (IntKind.i64.wrap (p1-(x9.size:Int))) (x16.size:Int))/\(Int.tmod (IntKind.i64.wrap (p1-(x9.size:Int))) (x16.size:Int))<(x15.size:Int))/\R (zb (Yu x15 (Int.tmod (IntKind.i64.wrap (p1-(x9.size:Int))) (x16.size:Int)))) w12.drew)))))
theorem zd2(p0)(p1)(R)(w)(h:zas p0 p1 R w):cC 155 #[.int .u16 p0,.int .i64 p1] w R:=lwC zaz Tryz.func155 h
def zbR:Ann:=(.q (.seq none Z10 (.seq none Z10 (.seq none Z10 (.q (.seq none (.q (.one (.loop ⟨[0,3],[(4,(.b (.int .i64)))]⟩ Z14))) Z11))))))
def zbC(p0:Int)(R:VWP)(w:World):Prop:=ifB (p0==105) (R (zb 1) w) (ifB (p0==110) (R (zb 2) w) (ifB (p0==115) (R (zb 3) w) (dk 182 #[] w λx2 w1=>zk (S:=Int×Unit) (λs3 w2 n4=>ifB (decide (s3.1<(x2.l:Int))) ((0<=s3.1/\s3.1<(x2.l:Int))/\zc x2.a λa5=>ldI w2 (a5.add (s3.1.toNat *3)) .u8 λx6=>ifB (x6==p0) (R (zb 4) w2) (n4 ((IntKind.i64.wrap (s3.1+(1:Int))),()) w2)) (R (zb 0) w2)) (0,()) w1)))
theorem ze5(p0)(R)(w)(h:zbC p0 R w):cC 156 #[.int .u8 p0] w R:=lwC zbR Tryz.func156 h
def zbS:Ann:=Z16
def zbD(p0:Int)(p1:ByteArray)(p2:Bool)(p3:Bool)(p4:ByteArray)(p5:ByteArray)(p6:Int)(p7:Int)(R:VWP)(w:World):Prop:=Nw (w.alloc (.cells #[zh 0,.string (BM #[]),.bool false,.bool false,.string (BM #[]),.string (BM #[]),zi 0,zb 0] 187)) λw1=>dJ w1 (zB w) (zh p0) (.string p1) (.bool p2) (.bool p3) (.string p4) (.string p5) (zi p6) (zb p7) λw9=>dL w9 (zB w) λx1 x2 x3 x4 x5 x6 x7 x8=>R (.agg #[zh x1,.string x2,.bool x3,.bool x4,.string x5,.string x6,zi x7,zb x8]) w9
theorem ze6(p0)(p1)(p2)(p3)(p4)(p5)(p6)(p7)(R)(w)(h:zbD p0 p1 p2 p3 p4 p5 p6 p7 R w):cC 180 #[.int .u16 p0,.string p1,.bool p2,.bool p3,.string p4,.string p5,.int .i64 p6,.int .u8 p7] w R:=lwC zbS Tryz.func180 h
def zaZ:Ann:=(.q (.q (.q (.q (.q (.q (.q (.q (.q (.q (.q (.q (.q (.q (.q (.q (.q (.q (.q (.q (.q Z1b)))))))))))))))))))))
def ZB  (R:VWP) (w:World):Prop:=Nw (w.alloc (.cells #[zb 107,zu 0,.string (BM #[77,97,116,114,105,120])] 258)) λw1=>zp Tryz.prog 255 (.slice none 0 0) (.slice (some (zB w)) 1 1) w1 λr1 w2=>Nw (w2.alloc (.cells #[zb 107,zu 1,.string (BM #[83,104,97,100,101,114])] 258)) λw3=>zp Tryz.prog 255 (r1.zw) (.slice (some (zB w2)) 1 1) w3 λr2 w4=>Nw (w4.alloc (.cells #[zb 97,zu 0,.string (BM #[76,111,103,105,99,97,108])] 258)) λw5=>zp Tryz.prog 255 (r2.zw) (.slice (some (zB w4)) 1 1) w5 λr3 w6=>Nw (w6.alloc (.cells #[zb 109,zu 0,.string (BM #[83,105,109,112,108,101])] 258)) λw7=>zp Tryz.prog 255 (r3.zw) (.slice (some (zB w6)) 1 1) w7 λr4 w8=>Nw (w8.alloc (.cells #[zb 109,zu 1,.string (BM #[71,76,83,76,52,53,48])] 258)) λw9=>zp Tryz.prog 255 (r4.zw) (.slice (some (zB w8)) 1 1) w9 λr5 w10=>Nw (w10.alloc (.cells #[zb 101,zu 0,.string (BM #[86,101,114,116,101,120])] 258)) λw11=>zp Tryz.prog 255 (r5.zw) (.slice (some (zB w10)) 1 1) w11 λr6 w12=>Nw (w12.alloc (.cells #[zb 101,zu 4,.string (BM #[70,114,97,103,109,101,110,116])] 258)) λw13=>zp Tryz.prog 255 (r6.zw) (.slice (some (zB w12)) 1 1) w13 λr7 w14=>Nw (w14.alloc (.cells #[zb 120,zu 7,.string (BM #[79,114,105,103,105,110,85,112,112,101,114,76,101,102,116])] 258)) λw15=>zp Tryz.prog 255 (r7.zw) (.slice (some (zB w14)) 1 1) w15 λr8 w16=>Nw (w16.alloc (.cells #[zb 108,zu 0,.string (BM #[85,110,107,110,111,119,110])] 258)) λw17=>zp Tryz.prog 255 (r8.zw) (.slice (some (zB w16)) 1 1) w17 λr9 w18=>Nw (w18.alloc (.cells #[zb 108,zu 1,.string (BM #[69,83,83,76])] 258)) λw19=>zp Tryz.prog 255 (r9.zw) (.slice (some (zB w18)) 1 1) w19 λr10 w20=>Nw (w20.alloc (.cells #[zb 108,zu 2,.string (BM #[71,76,83,76])] 258)) λw21=>zp Tryz.prog 255 (r10.zw) (.slice (some (zB w20)) 1 1) w21 λr11 w22=>Nw (w22.alloc (.cells #[zb 99,zu 1,.string (BM #[73,110,112,117,116])] 258)) λw23=>zp Tryz.prog 255 (r11.zw) (.slice (some (zB w22)) 1 1) w23 λr12 w24=>Nw (w24.alloc (.cells #[zb 99,zu 3,.string (BM #[79,117,116,112,117,116])] 258)) λw25=>zp Tryz.prog 255 (r12.zw) (.slice (some (zB w24)) 1 1) w25 λr13 w26=>Nw (w26.alloc (.cells #[zb 99,zu 6,.string (BM #[80,114,105,118,97,116,101])] 258)) λw27=>zp Tryz.prog 255 (r13.zw) (.slice (some (zB w26)) 1 1) w27 λr14 w28=>Nw (w28.alloc (.cells #[zb 99,zu 7,.string (BM #[70,117,110,99,116,105,111,110])] 258)) λw29=>zp Tryz.prog 255 (r14.zw) (.slice (some (zB w28)) 1 1) w29 λr15 w30=>Nw (w30.alloc (.cells #[zb 100,zu 0,.string (BM #[82,101,108,97,120,101,100,80,114,101,99,105,115,105,111,110])] 258)) λw31=>zp Tryz.prog 255 (r15.zw) (.slice (some (zB w30)) 1 1) w31 λr16 w32=>Nw (w32.alloc (.cells #[zb 100,zu 11,.string (BM #[66,117,105,108,116,73,110])] 258)) λw33=>zp Tryz.prog 255 (r16.zw) (.slice (some (zB w32)) 1 1) w33 λr17 w34=>Nw (w34.alloc (.cells #[zb 100,zu 14,.string (BM #[70,108,97,116])] 258)) λw35=>zp Tryz.prog 255 (r17.zw) (.slice (some (zB w34)) 1 1) w35 λr18 w36=>Nw (w36.alloc (.cells #[zb 100,zu 30,.string (BM #[76,111,99,97,116,105,111,110])] 258)) λw37=>zp Tryz.prog 255 (r18.zw) (.slice (some (zB w36)) 1 1) w37 λr19 w38=>Nw (w38.alloc (.cells #[zb 102,zu 0,.string (BM #[78,111,110,101])] 258)) λw39=>zp Tryz.prog 255 (r19.zw) (.slice (some (zB w38)) 1 1) w39 λr20 w40=>Nw (w40.alloc (.cells #[zb 102,zu 1,.string (BM #[73,110,108,105,110,101])] 258)) λw41=>zp Tryz.prog 255 (r20.zw) (.slice (some (zB w40)) 1 1) w41 λr21 w42=>Nw (w42.alloc (.cells #[zb 102,zu 2,.string (BM #[68,111,110,116,73,110,108,105,110,101])] 258)) λw43=>zp Tryz.prog 255 (r21.zw) (.slice (some (zB w42)) 1 1) w43 λr22 w44=>Nw (w44.alloc (.cells #[zb 102,zu 4,.string (BM #[80,117,114,101])] 258)) λw45=>zp Tryz.prog 255 (r22.zw) (.slice (some (zB w44)) 1 1) w45 λr23 w46=>Nw (w46.alloc (.cells #[zb 102,zu 8,.string (BM #[67,111,110,115,116])] 258)) λw47=>zp Tryz.prog 255 (r23.zw) (.slice (some (zB w46)) 1 1) w47 λr24 w48=>Nw (w48.alloc (.cells #[zb 104,zu 0,.string (BM #[78,111,110,101])] 258)) λw49=>zp Tryz.prog 255 (r24.zw) (.slice (some (zB w48)) 1 1) w49 λr25 w50=>Nw (w50.alloc (.cells #[zb 104,zu 1,.string (BM #[70,108,97,116,116,101,110])] 258)) λw51=>zp Tryz.prog 255 (r25.zw) (.slice (some (zB w50)) 1 1) w51 λr26 w52=>Nw (w52.alloc (.cells #[zb 104,zu 2,.string (BM #[68,111,110,116,70,108,97,116,116,101,110])] 258)) λw53=>zp Tryz.prog 255 (r26.zw) (.slice (some (zB w52)) 1 1) w53 λr27 w54=>Nw (w54.alloc (.cells #[zb 103,zu 0,.string (BM #[78,111,110,101])] 258)) λw55=>zp Tryz.prog 255 (r27.zw) (.slice (some (zB w54)) 1 1) w55 λr28 w56=>Nw (w56.alloc (.cells #[zb 103,zu 1,.string (BM #[85,110,114,111,108,108])] 258)) λw57=>zp Tryz.prog 255 (r28.zw) (.slice (some (zB w56)) 1 1) w57 λr29 w58=>Nw (w58.alloc (.cells #[zb 103,zu 2,.string (BM #[68,111,110,116,85,110,114,111,108,108])] 258)) λw59=>zp Tryz.prog 255 (r29.zw) (.slice (some (zB w58)) 1 1) w59 λr30 w60=>R (r30.zw) w60
theorem zdF(R)(w)(h:ZB  R w):cC 182 #[] w R:=lwC zaZ Tryz.func182 h
def zbP:Ann:=(.q (.q (.seq none (.q (.one (.loop ⟨[0,1,6],[(7,(.b (.int .i64)))]⟩ (.seq none Z13 (.seq (some ⟨[0,1,6,7],[]⟩) Z1L .nil))))) Z11)))
def zbA(p0:Int)(p1:Int)(R:VWP)(w:World):Prop:=dk 182 #[] w λx2 w1=>zk (S:=Int×Unit) (λs3 w2 n4=>ifB (decide (s3.1<(x2.l:Int))) (zl (S:=Unit) (λm5=>(0<=s3.1/\s3.1<(x2.l:Int))/\zc x2.a λa7=>ldI w2 (a7.add (s3.1.toNat *3)) .u8 λx8=>ifB (x8==p0) ((0<=s3.1/\s3.1<(x2.l:Int))/\zc x2.a λa9=>ldI w2 ((a9.add (s3.1.toNat *3)).add 1) .u32 λx10=>ifB (x10==p1) ((0<=s3.1/\s3.1<(x2.l:Int))/\zc x2.a λa11=>zv w2 ((a11.add (s3.1.toNat *3)).add 2) λx12=>R (.tuple #[.string x12,.bool true]) w2) (m5 () w2)) (m5 () w2)) (λs6 w3=>n4 ((IntKind.i64.wrap (s3.1+(1:Int))),()) w3)) (R (.tuple #[.string (BM #[]),.bool false]) w2)) (0,()) w1
theorem ze3(p0)(p1)(R)(w)(h:zbA p0 p1 R w):cC 190 #[.int .u8 p0,.int .u32 p1] w R:=lwC zbP Tryz.func190 h
set_option linter.unusedVariables false
set_option maxRecDepth 100000
def zgH:Ann:=(.q (.q (.seq none Z10 (.q (.seq none (.q (.one (.loop ⟨[1,8,21,22],[(23,(.b (.int .i64)))]⟩ (.q (.seq none .c (.seq (some ⟨[1,8,21,22,23],[]⟩) Z1a .nil)))))) Z1N)))))
def zgC(p0:Int)(p1:Sl)(R:VWP)(w:World):Prop:=dK 108 #[zh p0] w λx2 x3 w1=>Nw (w1.alloc (.cells #[zh 0,.string (BM #[]),.bool false,.bool false,.string (BM #[]),.string (BM #[]),zi 0,zb 0] 187)) λw2=>dJ w2 (zB w1) (zh x2.1) (.string x2.2.1) (.bool x2.2.2.1) (.bool x2.2.2.2.1) (.string x2.2.2.2.2.1) (.string x2.2.2.2.2.2.1) (zi x2.2.2.2.2.2.2.1) (zb x2.2.2.2.2.2.2.2.1) λw10=>ifB (!x3) (R (.tuple #[zi 0,.bool false]) w10) (dL w10 (zB w1) λx4 x5 x6 x7 x8 x9 x10 x11=>Nw (w10.alloc (.cells #[zh 0,.string (BM #[]),.bool false,.bool false,.string (BM #[]),.string (BM #[]),zi 0,zb 0] 191)) λw11=>dJ w11 (zB w10) (zh x4) (.string x5) (.bool x6) (.bool x7) (.string x8) (.string x9) (zi x10) (zb x11) λw19=>zk (S:=Int×Unit) (λs12 w20 n13=>ifB (decide (s12.1<(p1.l:Int))) (zl (S:=Unit) (λm14=>(0<=s12.1/\s12.1<(p1.l:Int))/\zc p1.a λa16=>ldI w20 (a16.add s12.1.toNat) .u8 λx17=>ifB (x17==0) (R (.tuple #[zi s12.1,.bool false]) w20) (dL w20 (zB w10) λx18 x19 x20 x21 x22 x23 x24 x25=>dI 110 #[.agg #[zh x18,.string x19,.bool x20,.bool x21,.string x22,.string x23,zi x24,zb x25],zi s12.1] w20 λx27 w21=>dI 109 #[zb x27] w21 λx29 w22=>ifB (x29 !=x17) (R (.tuple #[zi s12.1,.bool false]) w22) (m14 () w22))) (λs15 w23=>n13 ((IntKind.i64.wrap (s12.1+(1:Int))),()) w23)) (zv w20 ((zB w10).add 4) λx30=>ifB (decide ((IntKind.i64.wrap ((p1.l:Int)-(x30.size:Int)))<0)) (R (.tuple #[zi (p1.l:Int),.bool false]) w20) (zv w20 ((zB w10).add 5) λx31=>ifB (!(x31.toList==(BM #[]).toList)) (zv w20 ((zB w10).add 5) λx32=>ifB (decide ((x32.size:Int)=0)) (False) (ifB ((Int.tmod (IntKind.i64.wrap ((p1.l:Int)-(x30.size:Int))) (x32.size:Int)) !=0) (R (.tuple #[zi (p1.l:Int),.bool false]) w20) (R (.tuple #[zi 0,.bool true]) w20))) (R (.tuple #[zi 0,.bool true]) w20)))) (0,()) w19)
theorem ziv(p0)(p1)(R)(w)(h:zgC p0 p1 R w):cC 73 #[.int .u16 p0,.slice p1.a p1.l p1.c] w R:=lwC zgH Tryz.func73 h
def ziO:Ann:=(.q (.q (.seq none Z10 (.q (.q (.seq none (.q (.one (.loop ⟨[2,5,6,30],[]⟩ (.q (.seq none .c (.one (.q (.seq (some ⟨[2,5,6,8,30],[]⟩) .nil .nil)))))))) (.seq (some ⟨[2,6],[]⟩) Z13 Z11)))))))
def ziD(p0:Int)(R:VWP)(w:World):Prop:=Nw (w.alloc (.cells #[zh 0,.string (BM #[]),.bool false,.bool false,.string (BM #[]),.string (BM #[]),zi 0,zb 0] 187)) λw1=>dN 142 #[zh p0] w1 λx2 w2=>ifB (x2.toList==(BM #[]).toList) (dJ w2 (zB w) (zh 0) (.string (BM #[])) (.bool false) (.bool false) (.string (BM #[])) (.string (BM #[])) (zi 0) (zb 0) λw10=>dL w10 (zB w) λx3 x4 x5 x6 x7 x8 x9 x10=>R (.tuple #[.agg #[zh x3,.string x4,.bool x5,.bool x6,.string x7,.string x8,zi x9,zb x10],.bool false]) w10) (dO 143 #[.string x2] w2 λx12 w11=>Nw (w11.alloc (.cells #[.string (BM #[]),.string (BM #[]),.string (BM #[]),.string (BM #[]),.string (BM #[]),.string (BM #[])] 220)) λw12=>dM w12 (zB w11) (.string x12.1) (.string x12.2.1) (.string x12.2.2.1) (.string x12.2.2.2.1) (.string x12.2.2.2.2.1) (.string x12.2.2.2.2.2.1) λw18=>(0<=(0:Int)/\(0:Int)<6)/\zv w18.drew ((zB w11).add 0) λx13=>(0<=(2:Int)/\(2:Int)<6)/\zv w18.drew ((zB w11).add 2) λx14=>(0<=(3:Int)/\(3:Int)<6)/\zv w18.drew ((zB w11).add 3) λx15=>(0<=(5:Int)/\(5:Int)<6)/\zv w18.drew ((zB w11).add 5) λx16=>(0<=(0:Int)/\0<(x16.size:Int))/\Nw (w18.drew.alloc (.cells #[zh 0,.string (BM #[]),.bool false,.bool false,.string (BM #[]),.string (BM #[]),zi 0,zb 0] 187)) λw19=>w19.cell? ((zB w11).add 5)=some (.string x16)/\w19.cell? ((zB w11).add 3)=some (.string x15)/\w19.cell? ((zB w11).add 2)=some (.string x14)/\w19.cell? ((zB w11).add 0)=some (.string x13)/\dJ w19 (blk w18.drew.heap.size) (zh p0) (.string x13) (.bool false) (.bool false) (.string x14) (.string x15) (zi 0) (zb (IntKind.u8.wrap ((Yu x16 0)-48))) λw27=>(0<=(1:Int)/\(1:Int)<6)/\zv w27 ((zB w11).add 1) λx17=>Nw (w27.alloc (.stringIter x17 0)) λw28=>zk (S:=Unit) (λs18 w29 n19=>zoG w27.heap.size w29 (λi20 c21 w30=>zl (S:=Unit) (λm22=>ldB w30 ((blk w18.drew.heap.size).add 2) λx24=>ifB x24 (Wr w30 ((blk w18.drew.heap.size).add 2)/\Nw (w30.setCell ((blk w18.drew.heap.size).add 2) (.bool true)) λw31=>m22 () w31) (Wr w30 ((blk w18.drew.heap.size).add 2)/\Nw (w30.setCell ((blk w18.drew.heap.size).add 2) (.bool (c21==84))) λw32=>m22 () w32)) (λs23 w33=>ldB w33 ((blk w18.drew.heap.size).add 3) λx25=>ifB x25 (Wr w33 ((blk w18.drew.heap.size).add 3)/\Nw (w33.setCell ((blk w18.drew.heap.size).add 3) (.bool true)) λw34=>n19 () w34) (Wr w33 ((blk w18.drew.heap.size).add 3)/\Nw (w33.setCell ((blk w18.drew.heap.size).add 3) (.bool (c21==82))) λw35=>n19 () w35))) (zl (S:=Unit) (λm26=>(0<=(4:Int)/\(4:Int)<6)/\zv w29 ((zB w11).add 4) λx28=>ifB (!(x28.toList==(BM #[]).toList)) ((0<=(4:Int)/\(4:Int)<6)/\zv w29 ((zB w11).add 4) λx29=>(0<=(0:Int)/\0<(x29.size:Int))/\Wr w29 ((blk w18.drew.heap.size).add 6)/\Nw (w29.setCell ((blk w18.drew.heap.size).add 6) (zi (IntKind.i64.wrap (IntKind.u8.wrap ((Yu x29 0)-48))))) λw36=>m26 () w36) (m26 () w29)) (λs27 w37=>dL w37 (blk w18.drew.heap.size) λx30 x31 x32 x33 x34 x35 x36 x37=>dJ w37 (zB w) (zh x30) (.string x31) (.bool x32) (.bool x33) (.string x34) (.string x35) (zi x36) (zb x37) λw45=>dL w45 (zB w) λx38 x39 x40 x41 x42 x43 x44 x45=>R (.tuple #[.agg #[zh x38,.string x39,.bool x40,.bool x41,.string x42,.string x43,zi x44,zb x45],.bool true]) w45))) () w28)
theorem zjT(p0)(R)(w)(h:ziD p0 R w):cC 108 #[.int .u16 p0] w R:=lwC ziO Tryz.func108 h
def zgI:Ann:=(.q (.seq none (.q (.one Z1c)) Z17))
def zgD(p0:Int)(R:VWP)(w:World):Prop:=ifB (p0==105) (R (zb 1) w) (ifB (p0==110) (R (zb 2) w) (ifB (p0==115) (R (zb 3) w) (dN 144 #[zb p0] w λx2 w1=>ifB (!(x2.toList==(BM #[]).toList)) (R (zb 4) w1) (R (zb 0) w1))))
theorem ziw(p0)(R)(w)(h:zgD p0 R w):cC 109 #[.int .u8 p0] w R:=lwC zgI Tryz.func109 h
def zaX:Ann:=(.q (.seq none Z10 (.seq none (.q (.one (.loop ⟨[1,14,15],[(16,(.b (.int .i64)))]⟩ Z1H))) Z11)))
def zaH(p0:(Int×ByteArray×Bool×Bool×ByteArray×ByteArray×Int×Int×Unit))(p1:Int)(R:VWP)(w:World):Prop:=Nw (w.alloc (.cells #[zh p0.1,.string p0.2.1,.bool p0.2.2.1,.bool p0.2.2.2.1,.string p0.2.2.2.2.1,.string p0.2.2.2.2.2.1,zi p0.2.2.2.2.2.2.1,zb p0.2.2.2.2.2.2.2.1] 191)) λw1=>ifB (decide (p1<(0:Int))) (R (zb 0) w1) (dL w1 (zB w) λx1 x2 x3 x4 x5 x6 x7 x8=>dL w1 (zB w) λx9 x10 x11 x12 x13 x14 x15 x16=>Nw (w1.alloc (.cells #[.func (.func 145) #[.agg #[zh x1,.string x2,.bool x3,.bool x4,.string x5,.string x6,zi x7,zb x8]] #[],.func (.func 146) #[.agg #[zh x9,.string x10,.bool x11,.bool x12,.string x13,.string x14,zi x15,zb x16]] #[]] 193)) λw2=>zk (S:=Int×Unit) (λs17 w3 n18=>ifB (decide (s17.1<(2:Int))) ((0<=s17.1/\s17.1<(2:Int))/\ldR w3 ((zB w1).add s17.1.toNat) λx19=>ZH Tryz.prog Tryz.fs x19 [(zi p1)] w3 λv20 w4=>∃x21:Int,v20=(zb x21)/\ifB (x21 !=0) (R (zb x21) w4) (n18 ((IntKind.i64.wrap (s17.1+(1:Int))),()) w4)) (R (zb 0) w3)) (0,()) w2)
theorem zdE(p0)(p1)(R)(w)(h:zaH p0 p1 R w):cC 110 #[.agg #[.int .u16 p0.1,.string p0.2.1,.bool p0.2.2.1,.bool p0.2.2.2.1,.string p0.2.2.2.2.1,.string p0.2.2.2.2.2.1,.int .i64 p0.2.2.2.2.2.2.1,.int .u8 p0.2.2.2.2.2.2.2.1],.int .i64 p1] w R:=lwC zaX Tryz.func110 h
def zhR:Ann:=(.q (.seq none Z1T Z11))
def zhI(p0:Int)(R:VWP)(w:World):Prop:=ifB (decide (p0<=(71:Int))) (dN 169 #[zh p0] w λx2 w1=>R (.string x2) w1) (ifB (decide (p0<=(171:Int))) (dN 170 #[zh p0] w λx4 w2=>R (.string x4) w2) (dN 171 #[zh p0] w λx6 w3=>R (.string x6) w3))
theorem zjg(p0)(R)(w)(h:zhI p0 R w):cC 142 #[.int .u16 p0] w R:=lwC zhR Tryz.func142 h
def zeO:Ann:=(.q (.q (.q (.seq none (.q (.one (.loop ⟨[2,3,8],[(4,(.b (.int .i64)))]⟩ (.q (.seq none .c Z1I))))) Z11))))
def zeH(p0:ByteArray)(R:VWP)(w:World):Prop:=Nw (w.alloc (.cells #[.string (BM #[]),.string (BM #[]),.string (BM #[]),.string (BM #[]),.string (BM #[]),.string (BM #[])] 220)) λw1=>Nw (w1.alloc (.cells #[.string (BM #[]),.string (BM #[]),.string (BM #[]),.string (BM #[]),.string (BM #[]),.string (BM #[])] 220)) λw2=>Nw (w2.alloc (.stringIter p0 0)) λw3=>zk (S:=Int×Unit) (λs1 w4 n2=>zoG w2.heap.size w4 (λi3 c4 w5=>ifB (c4==32) (n2 ((IntKind.i64.wrap (s1.1+(1:Int))),()) w5) ((0<=s1.1/\s1.1<(6:Int))/\zv w5 ((zB w1).add s1.1.toNat) λx5=>zh1 x5 (Utf8.encode c4)/\(0<=s1.1/\s1.1<(6:Int))/\Wr w5 ((zB w1).add s1.1.toNat)/\Nw (w5.setCell ((zB w1).add s1.1.toNat) (.string (x5++(Utf8.encode c4)))) λw6=>n2 (s1.1,()) w6)) (dP w4 (zB w1) λx6 x7 x8 x9 x10 x11=>dM w4 (zB w) (.string x6) (.string x7) (.string x8) (.string x9) (.string x10) (.string x11) λw12=>dP w12 (zB w) λx12 x13 x14 x15 x16 x17=>R (.agg #[.string x12,.string x13,.string x14,.string x15,.string x16,.string x17]) w12)) (0,()) w3
theorem zgR(p0)(R)(w)(h:zeH p0 R w):cC 143 #[.string p0] w R:=lwC zeO Tryz.func143 h
def zgq:Ann:=(.q (.seq none (.q (.one Z1C)) Z11))
def zcm(p0:Int)(R:VWP)(w:World):Prop:=ifB (p0==107) (R (.string (BM #[48,32,77,97,116,114,105,120,32,49,32,83,104,97,100,101,114,32])) w) (ifB (p0==97) (R (.string (BM #[48,32,76,111,103,105,99,97,108,32])) w) (ifB (p0==109) (R (.string (BM #[48,32,83,105,109,112,108,101,32,49,32,71,76,83,76,52,53,48,32])) w) (ifB (p0==101) (R (.string (BM #[48,32,86,101,114,116,101,120,32,52,32,70,114,97,103,109,101,110,116,32])) w) (ifB (p0==120) (R (.string (BM #[55,32,79,114,105,103,105,110,85,112,112,101,114,76,101,102,116,32])) w) (ifB (p0==108) (R (.string (BM #[48,32,85,110,107,110,111,119,110,32,49,32,69,83,83,76,32,50,32,71,76,83,76,32])) w) (ifB (p0==99) (R (.string (BM #[49,32,73,110,112,117,116,32,51,32,79,117,116,112,117,116,32,54,32,80,114,105,118,97,116,101,32,55,32,70,117,110,99,116,105,111,110,32])) w) (ifB (p0==100) (R (.string (BM #[48,32,82,101,108,97,120,101,100,80,114,101,99,105,115,105,111,110,32,49,49,32,66,117,105,108,116,73,110,32,49,52,32,70,108,97,116,32,51,48,32,76,111,99,97,116,105,111,110,32])) w) (ifB (p0==102) (R (.string (BM #[48,32,78,111,110,101,32,49,32,73,110,108,105,110,101,32,50,32,68,111,110,116,73,110,108,105,110,101,32,52,32,80,117,114,101,32,56,32,67,111,110,115,116,32])) w) (ifB (p0==104) (R (.string (BM #[48,32,78,111,110,101,32,49,32,70,108,97,116,116,101,110,32,50,32,68,111,110,116,70,108,97,116,116,101,110,32])) w) (ifB (p0==103) (R (.string (BM #[48,32,78,111,110,101,32,49,32,85,110,114,111,108,108,32,50,32,68,111,110,116,85,110,114,111,108,108,32])) w) (R (.string (BM #[])) w)))))))))))
theorem zcL(p0)(R)(w)(h:zcm p0 R w):cC 144 #[.int .u8 p0] w R:=lwC zgq Tryz.func144 h
def zbL:Ann:=Z1d
def zb6(p0:(Int×ByteArray×Bool×Bool×ByteArray×ByteArray×Int×Int×Unit))(p1:Int)(R:VWP)(w:World):Prop:=Nw (w.alloc (.cells #[zh p0.1,.string p0.2.1,.bool p0.2.2.1,.bool p0.2.2.2.1,.string p0.2.2.2.2.1,.string p0.2.2.2.2.2.1,zi p0.2.2.2.2.2.2.1,zb p0.2.2.2.2.2.2.2.1] 191)) λw1=>zl (S:=Unit) (λm1=>ifB (decide (p1<(0:Int))) (R (zb 0) w1) (zv w1 ((zB w).add 4) λx3=>ifB (decide (p1≥(x3.size:Int))) (R (zb 0) w1) (m1 () w1))) (λs2 w2=>zv w2 ((zB w).add 4) λx4=>(0<=p1/\p1<(x4.size:Int))/\R (zb (Yu x4 p1)) w2)
theorem zez(p0)(p1)(R)(w)(h:zb6 p0 p1 R w):cC 145 #[.agg #[.int .u16 p0.1,.string p0.2.1,.bool p0.2.2.1,.bool p0.2.2.2.1,.string p0.2.2.2.2.1,.string p0.2.2.2.2.2.1,.int .i64 p0.2.2.2.2.2.2.1,.int .u8 p0.2.2.2.2.2.2.2.1],.int .i64 p1] w R:=lwC zbL Tryz.func145 h
def zc8:Ann:=(.q Z1d)
def zcw(p0:(Int×ByteArray×Bool×Bool×ByteArray×ByteArray×Int×Int×Unit))(p1:Int)(R:VWP)(w:World):Prop:=Nw (w.alloc (.cells #[zh p0.1,.string p0.2.1,.bool p0.2.2.1,.bool p0.2.2.2.1,.string p0.2.2.2.2.1,.string p0.2.2.2.2.2.1,zi p0.2.2.2.2.2.2.1,zb p0.2.2.2.2.2.2.2.1] 191)) λw1=>zv w1 ((zB w).add 4) λx1=>zl (S:=Unit) (λm2=>ifB (decide ((IntKind.i64.wrap (p1-(x1.size:Int)))<0)) (R (zb 0) w1) (zv w1 ((zB w).add 5) λx4=>ifB (x4.toList==(BM #[]).toList) (R (zb 0) w1) (ldI w1 ((zB w).add 6) .i64 λx5=>ifB (decide (x5>(0:Int))) (ldI w1 ((zB w).add 6) .i64 λx6=>zv w1 ((zB w).add 5) λx7=>ifB (decide ((IntKind.i64.wrap (p1-(x1.size:Int)))≥(IntKind.i64.wrap (x6*(x7.size:Int))))) (R (zb 0) w1) (m2 () w1)) (m2 () w1)))) (λs3 w2=>zv w2.drew ((zB w).add 5) λx8=>zv w2.drew ((zB w).add 5) λx9=>ifB (decide ((x9.size:Int)=0)) (False) ((0<=(Int.tmod (IntKind.i64.wrap (p1-(x1.size:Int))) (x9.size:Int))/\(Int.tmod (IntKind.i64.wrap (p1-(x1.size:Int))) (x9.size:Int))<(x8.size:Int))/\R (zb (Yu x8 (Int.tmod (IntKind.i64.wrap (p1-(x1.size:Int))) (x9.size:Int)))) w2.drew))
theorem zfc(p0)(p1)(R)(w)(h:zcw p0 p1 R w):cC 146 #[.agg #[.int .u16 p0.1,.string p0.2.1,.bool p0.2.2.1,.bool p0.2.2.2.1,.string p0.2.2.2.2.1,.string p0.2.2.2.2.2.1,.int .i64 p0.2.2.2.2.2.2.1,.int .u8 p0.2.2.2.2.2.2.2.1],.int .i64 p1] w R:=lwC zc8 Tryz.func146 h
def zgp:Ann:=Z1Q
def zcl(p0:Int)(R:VWP)(w:World):Prop:=ifB (p0==1) (R (.string (BM #[79,112,85,110,100,101,102,32,84,82,32,32,32,32,55])) w) (ifB (p0==3) (R (.string (BM #[79,112,83,111,117,114,99,101,32,32,108,110,32,32,32,52])) w) (ifB (p0==5) (R (.string (BM #[79,112,78,97,109,101,32,32,105,115,32,32,32,53])) w) (ifB (p0==6) (R (.string (BM #[79,112,77,101,109,98,101,114,78,97,109,101,32,32,105,110,115,32,32,32,53])) w) (ifB (p0==7) (R (.string (BM #[79,112,83,116,114,105,110,103,32,82,32,115,32,32,32,52])) w) (ifB (p0==14) (R (.string (BM #[79,112,77,101,109,111,114,121,77,111,100,101,108,32,32,97,109,32,32,32,49])) w) (ifB (p0==15) (R (.string (BM #[79,112,69,110,116,114,121,80,111,105,110,116,32,32,101,105,115,32,105,32,32,50])) w) (ifB (p0==16) (R (.string (BM #[79,112,69,120,101,99,117,116,105,111,110,77,111,100,101,32,32,105,120,32,32,32,51])) w) (ifB (p0==17) (R (.string (BM #[79,112,67,97,112,97,98,105,108,105,116,121,32,32,107,32,32,32,48])) w) (ifB (p0==19) (R (.string (BM #[79,112,84,121,112,101,86,111,105,100,32,82,32,32,32,32,55])) w) (ifB (p0==20) (R (.string (BM #[79,112,84,121,112,101,66,111,111,108,32,82,32,32,32,32,55])) w) (ifB (p0==21) (R (.string (BM #[79,112,84,121,112,101,73,110,116,32,82,32,110,110,32,32,32,55])) w) (ifB (p0==23) (R (.string (BM #[79,112,84,121,112,101,86,101,99,116,111,114,32,82,32,105,110,32,32,32,55])) w) (ifB (p0==28) (R (.string (BM #[79,112,84,121,112,101,65,114,114,97,121,32,82,32,105,105,32,32,32,55])) w) (ifB (p0==30) (R (.string (BM #[79,112,84,121,112,101,83,116,114,117,99,116,32,82,32,32,105,32,32,55])) w) (ifB (p0==32) (R (.string (BM #[79,112,84,121,112,101,80,111,105,110,116,101,114,32,82,32,99,105,32,32,32,55])) w) (ifB (p0==33) (R (.string (BM #[79,112,84,121,112,101,70,117,110,99,116,105,111,110,32,82,32,105,32,105,32,32,55])) w) (ifB (p0==41) (R (.string (BM #[79,112,67,111,110,115,116,97,110,116,84,114,117,101,32,84,82,32,32,32,32,55])) w) (ifB (p0==42) (R (.string (BM #[79,112,67,111,110,115,116,97,110,116,70,97,108,115,101,32,84,82,32,32,32,32,55])) w) (ifB (p0==43) (R (.string (BM #[79,112,67,111,110,115,116,97,110,116,32,84,82,32,110,32,32,32,55])) w) (ifB (p0==44) (R (.string (BM #[79,112,67,111,110,115,116,97,110,116,67,111,109,112,111,115,105,116,101,32,84,82,32,32,105,32,32,55])) w) (ifB (p0==46) (R (.string (BM #[79,112,67,111,110,115,116,97,110,116,78,117,108,108,32,84,82,32,32,32,32,55])) w) (ifB (p0==54) (R (.string (BM #[79,112,70,117,110,99,116,105,111,110,32,84,82,32,102,105,32,32,32,56])) w) (ifB (p0==55) (R (.string (BM #[79,112,70,117,110,99,116,105,111,110,80,97,114,97,109,101,116,101,114,32,84,82,32,32,32,32,56])) w) (ifB (p0==56) (R (.string (BM #[79,112,70,117,110,99,116,105,111,110,69,110,100,32,32,32,32,32,56])) w) (ifB (p0==57) (R (.string (BM #[79,112,70,117,110,99,116,105,111,110,67,97,108,108,32,84,82,32,105,32,105,32,32,56])) w) (ifB (p0==59) (R (.string (BM #[79,112,86,97,114,105,97,98,108,101,32,84,82,32,99,32,105,32,49,32,55])) w) (ifB (p0==61) (R (.string (BM #[79,112,76,111,97,100,32,84,82,32,105,32,32,32,56])) w) (ifB (p0==62) (R (.string (BM #[79,112,83,116,111,114,101,32,32,105,105,32,32,32,56])) w) (ifB (p0==65) (R (.string (BM #[79,112,65,99,99,101,115,115,67,104,97,105,110,32,84,82,32,105,32,105,32,32,56])) w) (ifB (p0==71) (R (.string (BM #[79,112,68,101,99,111,114,97,116,101,32,32,105,100,32,110,32,32,54])) w) (R (.string (BM #[])) w)))))))))))))))))))))))))))))))
theorem zhA(p0)(R)(w)(h:zcl p0 R w):cC 169 #[.int .u16 p0] w R:=lwC zgp Tryz.func169 h
def zeQ:Ann:=Z1Q
def zbq(p0:Int)(R:VWP)(w:World):Prop:=ifB (p0==77) (R (.string (BM #[79,112,86,101,99,116,111,114,69,120,116,114,97,99,116,68,121,110,97,109,105,99,32,84,82,32,105,105,32,32,32,56])) w) (ifB (p0==78) (R (.string (BM #[79,112,86,101,99,116,111,114,73,110,115,101,114,116,68,121,110,97,109,105,99,32,84,82,32,105,105,105,32,32,32,56])) w) (ifB (p0==79) (R (.string (BM #[79,112,86,101,99,116,111,114,83,104,117,102,102,108,101,32,84,82,32,105,105,32,110,32,32,56])) w) (ifB (p0==80) (R (.string (BM #[79,112,67,111,109,112,111,115,105,116,101,67,111,110,115,116,114,117,99,116,32,84,82,32,32,105,32,32,56])) w) (ifB (p0==81) (R (.string (BM #[79,112,67,111,109,112,111,115,105,116,101,69,120,116,114,97,99,116,32,84,82,32,105,32,110,32,32,56])) w) (ifB (p0==82) (R (.string (BM #[79,112,67,111,109,112,111,115,105,116,101,73,110,115,101,114,116,32,84,82,32,105,105,32,110,32,32,56])) w) (ifB (p0==83) (R (.string (BM #[79,112,67,111,112,121,79,98,106,101,99,116,32,84,82,32,105,32,32,32,56])) w) (ifB (p0==124) (R (.string (BM #[79,112,66,105,116,99,97,115,116,32,84,82,32,105,32,32,32,56])) w) (ifB (p0==126) (R (.string (BM #[79,112,83,78,101,103,97,116,101,32,84,82,32,105,32,32,32,56])) w) (ifB (p0==128) (R (.string (BM #[79,112,73,65,100,100,32,84,82,32,105,105,32,32,32,56])) w) (ifB (p0==130) (R (.string (BM #[79,112,73,83,117,98,32,84,82,32,105,105,32,32,32,56])) w) (ifB (p0==132) (R (.string (BM #[79,112,73,77,117,108,32,84,82,32,105,105,32,32,32,56])) w) (ifB (p0==134) (R (.string (BM #[79,112,85,68,105,118,32,84,82,32,105,105,32,32,32,56])) w) (ifB (p0==135) (R (.string (BM #[79,112,83,68,105,118,32,84,82,32,105,105,32,32,32,56])) w) (ifB (p0==137) (R (.string (BM #[79,112,85,77,111,100,32,84,82,32,105,105,32,32,32,56])) w) (ifB (p0==138) (R (.string (BM #[79,112,83,82,101,109,32,84,82,32,105,105,32,32,32,56])) w) (ifB (p0==139) (R (.string (BM #[79,112,83,77,111,100,32,84,82,32,105,105,32,32,32,56])) w) (ifB (p0==149) (R (.string (BM #[79,112,73,65,100,100,67,97,114,114,121,32,84,82,32,105,105,32,32,32,56])) w) (ifB (p0==150) (R (.string (BM #[79,112,73,83,117,98,66,111,114,114,111,119,32,84,82,32,105,105,32,32,32,56])) w) (ifB (p0==151) (R (.string (BM #[79,112,85,77,117,108,69,120,116,101,110,100,101,100,32,84,82,32,105,105,32,32,32,56])) w) (ifB (p0==152) (R (.string (BM #[79,112,83,77,117,108,69,120,116,101,110,100,101,100,32,84,82,32,105,105,32,32,32,56])) w) (ifB (p0==154) (R (.string (BM #[79,112,65,110,121,32,84,82,32,105,32,32,32,56])) w) (ifB (p0==155) (R (.string (BM #[79,112,65,108,108,32,84,82,32,105,32,32,32,56])) w) (ifB (p0==164) (R (.string (BM #[79,112,76,111,103,105,99,97,108,69,113,117,97,108,32,84,82,32,105,105,32,32,32,56])) w) (ifB (p0==165) (R (.string (BM #[79,112,76,111,103,105,99,97,108,78,111,116,69,113,117,97,108,32,84,82,32,105,105,32,32,32,56])) w) (ifB (p0==166) (R (.string (BM #[79,112,76,111,103,105,99,97,108,79,114,32,84,82,32,105,105,32,32,32,56])) w) (ifB (p0==167) (R (.string (BM #[79,112,76,111,103,105,99,97,108,65,110,100,32,84,82,32,105,105,32,32,32,56])) w) (ifB (p0==168) (R (.string (BM #[79,112,76,111,103,105,99,97,108,78,111,116,32,84,82,32,105,32,32,32,56])) w) (ifB (p0==169) (R (.string (BM #[79,112,83,101,108,101,99,116,32,84,82,32,105,105,105,32,32,32,56])) w) (ifB (p0==170) (R (.string (BM #[79,112,73,69,113,117,97,108,32,84,82,32,105,105,32,32,32,56])) w) (ifB (p0==171) (R (.string (BM #[79,112,73,78,111,116,69,113,117,97,108,32,84,82,32,105,105,32,32,32,56])) w) (R (.string (BM #[])) w)))))))))))))))))))))))))))))))
theorem zgT(p0)(R)(w)(h:zbq p0 R w):cC 170 #[.int .u16 p0] w R:=lwC zeQ Tryz.func170 h
def zgr:Ann:=Z1Q
def zcn(p0:Int)(R:VWP)(w:World):Prop:=ifB (p0==172) (R (.string (BM #[79,112,85,71,114,101,97,116,101,114,84,104,97,110,32,84,82,32,105,105,32,32,32,56])) w) (ifB (p0==173) (R (.string (BM #[79,112,83,71,114,101,97,116,101,114,84,104,97,110,32,84,82,32,105,105,32,32,32,56])) w) (ifB (p0==174) (R (.string (BM #[79,112,85,71,114,101,97,116,101,114,84,104,97,110,69,113,117,97,108,32,84,82,32,105,105,32,32,32,56])) w) (ifB (p0==175) (R (.string (BM #[79,112,83,71,114,101,97,116,101,114,84,104,97,110,69,113,117,97,108,32,84,82,32,105,105,32,32,32,56])) w) (ifB (p0==176) (R (.string (BM #[79,112,85,76,101,115,115,84,104,97,110,32,84,82,32,105,105,32,32,32,56])) w) (ifB (p0==177) (R (.string (BM #[79,112,83,76,101,115,115,84,104,97,110,32,84,82,32,105,105,32,32,32,56])) w) (ifB (p0==178) (R (.string (BM #[79,112,85,76,101,115,115,84,104,97,110,69,113,117,97,108,32,84,82,32,105,105,32,32,32,56])) w) (ifB (p0==179) (R (.string (BM #[79,112,83,76,101,115,115,84,104,97,110,69,113,117,97,108,32,84,82,32,105,105,32,32,32,56])) w) (ifB (p0==194) (R (.string (BM #[79,112,83,104,105,102,116,82,105,103,104,116,76,111,103,105,99,97,108,32,84,82,32,105,105,32,32,32,56])) w) (ifB (p0==195) (R (.string (BM #[79,112,83,104,105,102,116,82,105,103,104,116,65,114,105,116,104,109,101,116,105,99,32,84,82,32,105,105,32,32,32,56])) w) (ifB (p0==196) (R (.string (BM #[79,112,83,104,105,102,116,76,101,102,116,76,111,103,105,99,97,108,32,84,82,32,105,105,32,32,32,56])) w) (ifB (p0==197) (R (.string (BM #[79,112,66,105,116,119,105,115,101,79,114,32,84,82,32,105,105,32,32,32,56])) w) (ifB (p0==198) (R (.string (BM #[79,112,66,105,116,119,105,115,101,88,111,114,32,84,82,32,105,105,32,32,32,56])) w) (ifB (p0==199) (R (.string (BM #[79,112,66,105,116,119,105,115,101,65,110,100,32,84,82,32,105,105,32,32,32,56])) w) (ifB (p0==200) (R (.string (BM #[79,112,78,111,116,32,84,82,32,105,32,32,32,56])) w) (ifB (p0==201) (R (.string (BM #[79,112,66,105,116,70,105,101,108,100,73,110,115,101,114,116,32,84,82,32,105,105,105,105,32,32,32,56])) w) (ifB (p0==202) (R (.string (BM #[79,112,66,105,116,70,105,101,108,100,83,69,120,116,114,97,99,116,32,84,82,32,105,105,105,32,32,32,56])) w) (ifB (p0==203) (R (.string (BM #[79,112,66,105,116,70,105,101,108,100,85,69,120,116,114,97,99,116,32,84,82,32,105,105,105,32,32,32,56])) w) (ifB (p0==204) (R (.string (BM #[79,112,66,105,116,82,101,118,101,114,115,101,32,84,82,32,105,32,32,32,56])) w) (ifB (p0==205) (R (.string (BM #[79,112,66,105,116,67,111,117,110,116,32,84,82,32,105,32,32,32,56])) w) (ifB (p0==245) (R (.string (BM #[79,112,80,104,105,32,84,82,32,32,105,105,32,32,56])) w) (ifB (p0==246) (R (.string (BM #[79,112,76,111,111,112,77,101,114,103,101,32,32,105,105,103,32,32,32,56])) w) (ifB (p0==247) (R (.string (BM #[79,112,83,101,108,101,99,116,105,111,110,77,101,114,103,101,32,32,105,104,32,32,32,56])) w) (ifB (p0==248) (R (.string (BM #[79,112,76,97,98,101,108,32,82,32,32,32,32,56])) w) (ifB (p0==249) (R (.string (BM #[79,112,66,114,97,110,99,104,32,32,105,32,32,32,56])) w) (ifB (p0==250) (R (.string (BM #[79,112,66,114,97,110,99,104,67,111,110,100,105,116,105,111,110,97,108,32,32,105,105,105,32,32,32,56])) w) (ifB (p0==251) (R (.string (BM #[79,112,83,119,105,116,99,104,32,32,105,105,32,110,105,32,32,56])) w) (ifB (p0==252) (R (.string (BM #[79,112,75,105,108,108,32,32,32,32,32,56])) w) (ifB (p0==253) (R (.string (BM #[79,112,82,101,116,117,114,110,32,32,32,32,32,56])) w) (ifB (p0==254) (R (.string (BM #[79,112,82,101,116,117,114,110,86,97,108,117,101,32,32,105,32,32,32,56])) w) (ifB (p0==255) (R (.string (BM #[79,112,85,110,114,101,97,99,104,97,98,108,101,32,32,32,32,32,56])) w) (R (.string (BM #[])) w)))))))))))))))))))))))))))))))
theorem zhB(p0)(R)(w)(h:zcn p0 R w):cC 171 #[.int .u16 p0] w R:=lwC zgr Tryz.func171 h
def zeN:Ann:=Z1J
def zeG(p0:Int)(p1:Int)(R:VWP)(w:World):Prop:=dK 108 #[zh p0] w λx2 x3 w1=>Nw (w1.alloc (.cells #[zh 0,.string (BM #[]),.bool false,.bool false,.string (BM #[]),.string (BM #[]),zi 0,zb 0] 187)) λw2=>dJ w2 (zB w1) (zh x2.1) (.string x2.2.1) (.bool x2.2.2.1) (.bool x2.2.2.2.1) (.string x2.2.2.2.2.1) (.string x2.2.2.2.2.2.1) (zi x2.2.2.2.2.2.2.1) (zb x2.2.2.2.2.2.2.2.1) λw10=>dL w10 (zB w1) λx4 x5 x6 x7 x8 x9 x10 x11=>dI 110 #[.agg #[zh x4,.string x5,.bool x6,.bool x7,.string x8,.string x9,zi x10,zb x11],zi p1] w10 λx13 w11=>R (zb x13) w11
theorem zgQ(p0)(p1)(R)(w)(h:zeG p0 p1 R w):cC 174 #[.int .u16 p0,.int .i64 p1] w R:=lwC zeN Tryz.func174 h
def zgG:Ann:=(.q (.seq none (.q (.one (.loop ⟨[],[(10,(.b (.int .u32))),(11,(.b .str))]⟩ (.seq none Z11 Z1L)))) Z11))
def zgB(p0:Int)(p1:Int)(R:VWP)(w:World):Prop:=Nw (w.alloc (.cells #[zu p1] 22)) λw1=>Nw (w1.alloc (.cells #[.string (BM #[])] 9)) λw2=>Nw (w2.alloc (.cells #[.bool false] 4)) λw3=>dQ 193 #[zb p0] w3 λx2 w4=>zik Tryz.prog Tryz.fs x2 w4 (T:=Int×ByteArray×Unit) (λs3=>[(zu s3.1),(.string s3.2.1)]) (λmk4 l5 s3 w5 S6=>w5.heap[l5]? =some (mk4 .ready none)/\Nw (w5.putObj l5 (mk4 .busy none)) λw6=>ldI w6 (zB w) .u32 λx8=>ifB (s3.1==x8) (Wr w6 (zB w1)/\Nw (w6.setCell (zB w1) (.string s3.2.1)) λw7=>Wr w7 (zB w2)/\Nw (w7.setCell (zB w2) (.bool true)) λw8=>w8.heap[l5]? =some (mk4 .busy none)/\S6 (.bool false) (w8.putObj l5 (mk4 .done (some .ret)))) (w6.heap[l5]? =some (mk4 .busy none)/\S6 (.bool true) (w6.putObj l5 (mk4 .ready none)))) (λmk4 l5 d7 w9=>(yJ mk4 l5 .ready none w9 λw10=>Wr w10 (zB w1)/\Nw (w10.setCell (zB w1) (.string (BM #[]))) λw11=>Wr w11 (zB w2)/\Nw (w11.setCell (zB w2) (.bool false)) λw12=>za4 (d7::[]) w12 λw13=>zv w13 (zB w1) λx9=>ldB w13 (zB w2) λx10=>R (.tuple #[.string x9,.bool x10]) w13)\/(yJ mk4 l5 .done (some .ret) w9 λw14=>za4 (d7::[]) w14 λw15=>zv w15 (zB w1) λx11=>ldB w15 (zB w2) λx12=>R (.tuple #[.string x11,.bool x12]) w15))
theorem ziu(p0:Int)(p1:Int)(R:VWP)(w:World)(h:zgB p0 p1 R w):Calls Tryz.prog 188 #[.int .u8 p0,.int .u32 p1] w (Ret R):=zht (fs:=Tryz.fs) (an:=zgG) (args:=[(.int .u8 p0),(.int .u32 p1)]) Tryz.fsOK Tryz.mixed Tryz.func188 (by kernel_rfl) (by kernel_rfl) (Eq.mpr (by kernel_rfl:zmM Tryz.prog Tryz.fs Tryz.f188 zgG [(.int .u8 p0),(.int .u32 p1)] w R=zgB p0 p1 R w) h)
def zgo:Ann:=Z16
def zgd(p0:Int)(R:VWP)(w:World):Prop:=Nw (w.alloc (.cells #[zb p0] 5)) λw1=>R (.func (.func 197) #[] #[.pointer (some (zB w))]) w1
theorem zh9(p0)(R)(w)(h:zgd p0 R w):cC 193 #[.int .u8 p0] w R:=lwC zgo Tryz.func193 h
def zel:Ann:=(.q (.q (.q (.q (.one (.loop ⟨[0,11],[(3,(.b (.int .u32))),(5,(.b .str)),(6,(.b .bool))]⟩ (.q (.seq none .c (.one (.q (.seq (some ⟨[0,6,11],[(3,(.b (.int .u32)))]⟩) (.one (.q (.cond Z11 (.q (.cond .nil (.q Z13)))))) Z11)))))))))))
def zea(p0:Value)(c0:Addr)(R:VWP)(w:World):Prop:=ldI w c0 .u8 λx1=>dN 144 #[zb x1] w λx3 w1=>Nw (w1.alloc (.stringIter x3 0)) λw2=>zk (S:=Int×ByteArray×Bool×Unit) (λs4 w3 n5=>zoG w1.heap.size w3 (λi6 c7 w4=>zl (S:=Int×Unit) (λm8=>ifB (c7 !=32) (zh1 s4.2.1 (Utf8.encode c7)/\n5 (s4.1,(s4.2.1++(Utf8.encode c7)),s4.2.2.1,()) w4) (ifB (!s4.2.2.1) (dR 198 #[.string s4.2.1] w4 λx11 w5=>m8 (x11,()) w5) (ZH Tryz.prog Tryz.fs p0 [(zu s4.1),(.string s4.2.1)] w4 λv12 w6=>∃x13:Bool,v12=(.bool x13)/\ifB (!x13) (R (.tuple #[]) w6) (m8 (s4.1,()) w6)))) (λs9 w7=>n5 (s9.1,(BM #[]),(!s4.2.2.1),()) w7)) (R (.tuple #[]) w3)) (0,(BM #[]),false,()) w2
theorem zg6(p0)(c0)(R)(w)(h:zea p0 c0 R w):cC 197 #[p0,.pointer (some c0)] w R:=lwC zel Tryz.func197 h
def zeP:Ann:=(.q (.q (.seq none (.q (.one (.loop ⟨[7],[(3,(.b (.int .u32)))]⟩ (.q (.seq none .c Z1h))))) Z11)))
def zeI(p0:ByteArray)(R:VWP)(w:World):Prop:=Nw (w.alloc (.stringIter p0 0)) λw1=>zk (S:=Int×Unit) (λs1 w2 n2=>zoG w.heap.size w2 (λi3 c4 w3=>n2 ((IntKind.u32.wrap ((IntKind.u32.wrap (10*s1.1))+(IntKind.u32.wrap (IntKind.i32.wrap (c4-(48:Int)))))),()) w3) (R (zu s1.1) w2)) (0,()) w1
theorem zgS(p0)(R)(w)(h:zeI p0 R w):cC 198 #[.string p0] w R:=lwC zeP Tryz.func198 h
end Go.Proofs
namespace Go.Gm
open Go.Gk
abbrev Bs:=List UInt8
def bs(l:Bs):ByteArray:=⟨l.toArray⟩
theorem zmz(a b:Bs):bs a++bs b=bs (a++b):=by
 apply ByteArray.ext
 simp[bs,ByteArray.data_append]
theorem zP(a:Bs):(bs a).size=a.length:=by simp[bs,ByteArray.size]
theorem ziU(a:Bs)(k:Nat):Yu (bs a) (k:Int)=((a.getD k 0).toNat:Int):=by
 unfold Yu bs
 rw[Int.toNat_natCast]
 simp[Array.getD_eq_getD_getElem?]
theorem YR{a:Bs}:((bs a).toList==(BM #[]).toList)=a.isEmpty:=by
 rw[ByteArray.toList_eq,ByteArray.toList_eq]
 cases a with
 |nil=>rfl
 |cons x r=>rfl
theorem zs{α:Type}{l:List α}{i:Nat}{d:α}(h:i<l.length):l.getD i d=l[i]:=by simp[List.getD,h]
def look{α:Type}:List (Int×α)->Int->Option α
 | [],_=>none
 |p::r,n=>if n=p.1 then some p.2 else look r n
def zlt{α:Type}:List (Int×α)->Int->(α->Prop)->Prop->Prop
 | [],_,_,d=>d
 |p::r,n,f,d=>ifB (n==p.1) (f p.2) (zlt r n f d)
theorem zdx{α:Type}{n:Int}{f:α->Prop}{d:Prop}:∀{tab:List (Int×α)},(∀x,look tab n=some x->f x)->(look tab n=none->d)->zlt tab n f d
 | [],_,h2=>h2 rfl
 |p::r,h1,h2=>zm (λe=>h1 p.2 (by simp[look,e])) (λe=>zdx (λx hx=>h1 x (by simp[look,e,hx])) (λhx=>h2 (by simp[look,e,hx])))
theorem ZZ{α:Type}(n:Int):∀a b:List (Int×α),look (a++b) n=(look a n).or (look b n)
 | [],b=>by simp[look]
 |p::r,b=>by
  simp only[List.cons_append,look]
  split
  ·rfl
  ·exact ZZ n r b
theorem Ya{α:Type}{n:Int}{x:α}:∀{a:List (Int×α)},look a n=some x->(n,x)∈a
 |p::r,h=>by
  simp only[look]at h
  split at h
  ·rename_i e
   cases h
   subst e
   exact List.mem_cons_self
  ·exact List.mem_cons_of_mem _ (Ya h)
theorem zbz{α:Type}{n:Int}:∀{a:List (Int×α)},(∀p∈a,p.1≠n)->look a n=none
 | [],_=>rfl
 |p::r,h=>by
  rw[look,if_neg λe=>h p List.mem_cons_self e.symm]
  exact zbz λq hq=>h q (List.mem_cons_of_mem _ hq)
theorem zoA{α β:Type}(g:α->β)(n:Int):∀a:List (Int×α),look (a.map λp=>(p.1,g p.2)) n=(look a n).map g
 | []=>rfl
 |p::r=>by
  simp only[List.map_cons,look]
  split
  ·rfl
  ·exact zoA g n r
abbrev Fl:=Bs×Bool×Bool×Bs×Bs×Nat×Nat
def tabA:List (Int×Bs):=
 [(1,[79,112,85,110,100,101,102,32,84,82,32,32,32,32,55]),
  (3,[79,112,83,111,117,114,99,101,32,32,108,110,32,32,32,52]),
  (5,[79,112,78,97,109,101,32,32,105,115,32,32,32,53]),
  (6,[79,112,77,101,109,98,101,114,78,97,109,101,32,32,105,110,115,32,32,32,53]),
  (7,[79,112,83,116,114,105,110,103,32,82,32,115,32,32,32,52]),
  (14,[79,112,77,101,109,111,114,121,77,111,100,101,108,32,32,97,109,32,32,32,49]),
  (15,[79,112,69,110,116,114,121,80,111,105,110,116,32,32,101,105,115,32,105,32,32,50]),
  (16,[79,112,69,120,101,99,117,116,105,111,110,77,111,100,101,32,32,105,120,32,32,32,51]),
  (17,[79,112,67,97,112,97,98,105,108,105,116,121,32,32,107,32,32,32,48]),
  (19,[79,112,84,121,112,101,86,111,105,100,32,82,32,32,32,32,55]),
  (20,[79,112,84,121,112,101,66,111,111,108,32,82,32,32,32,32,55]),
  (21,[79,112,84,121,112,101,73,110,116,32,82,32,110,110,32,32,32,55]),
  (23,[79,112,84,121,112,101,86,101,99,116,111,114,32,82,32,105,110,32,32,32,55]),
  (28,[79,112,84,121,112,101,65,114,114,97,121,32,82,32,105,105,32,32,32,55]),
  (30,[79,112,84,121,112,101,83,116,114,117,99,116,32,82,32,32,105,32,32,55]),
  (32,[79,112,84,121,112,101,80,111,105,110,116,101,114,32,82,32,99,105,32,32,32,55]),
  (33,[79,112,84,121,112,101,70,117,110,99,116,105,111,110,32,82,32,105,32,105,32,32,55]),
  (41,[79,112,67,111,110,115,116,97,110,116,84,114,117,101,32,84,82,32,32,32,32,55]),
  (42,[79,112,67,111,110,115,116,97,110,116,70,97,108,115,101,32,84,82,32,32,32,32,55]),
  (43,[79,112,67,111,110,115,116,97,110,116,32,84,82,32,110,32,32,32,55]),
  (44,[79,112,67,111,110,115,116,97,110,116,67,111,109,112,111,115,105,116,101,32,84,82,32,32,105,32,32,55]),
  (46,[79,112,67,111,110,115,116,97,110,116,78,117,108,108,32,84,82,32,32,32,32,55]),
  (54,[79,112,70,117,110,99,116,105,111,110,32,84,82,32,102,105,32,32,32,56]),
  (55,[79,112,70,117,110,99,116,105,111,110,80,97,114,97,109,101,116,101,114,32,84,82,32,32,32,32,56]),
  (56,[79,112,70,117,110,99,116,105,111,110,69,110,100,32,32,32,32,32,56]),
  (57,[79,112,70,117,110,99,116,105,111,110,67,97,108,108,32,84,82,32,105,32,105,32,32,56]),
  (59,[79,112,86,97,114,105,97,98,108,101,32,84,82,32,99,32,105,32,49,32,55]),
  (61,[79,112,76,111,97,100,32,84,82,32,105,32,32,32,56]),
  (62,[79,112,83,116,111,114,101,32,32,105,105,32,32,32,56]),
  (65,[79,112,65,99,99,101,115,115,67,104,97,105,110,32,84,82,32,105,32,105,32,32,56]),
  (71,[79,112,68,101,99,111,114,97,116,101,32,32,105,100,32,110,32,32,54])]
def tabB:List (Int×Bs):=
 [(77,[79,112,86,101,99,116,111,114,69,120,116,114,97,99,116,68,121,110,97,109,105,99,32,84,82,32,105,105,32,32,32,56]),
  (78,[79,112,86,101,99,116,111,114,73,110,115,101,114,116,68,121,110,97,109,105,99,32,84,82,32,105,105,105,32,32,32,56]),
  (79,[79,112,86,101,99,116,111,114,83,104,117,102,102,108,101,32,84,82,32,105,105,32,110,32,32,56]),
  (80,[79,112,67,111,109,112,111,115,105,116,101,67,111,110,115,116,114,117,99,116,32,84,82,32,32,105,32,32,56]),
  (81,[79,112,67,111,109,112,111,115,105,116,101,69,120,116,114,97,99,116,32,84,82,32,105,32,110,32,32,56]),
  (82,[79,112,67,111,109,112,111,115,105,116,101,73,110,115,101,114,116,32,84,82,32,105,105,32,110,32,32,56]),
  (83,[79,112,67,111,112,121,79,98,106,101,99,116,32,84,82,32,105,32,32,32,56]),
  (124,[79,112,66,105,116,99,97,115,116,32,84,82,32,105,32,32,32,56]),
  (126,[79,112,83,78,101,103,97,116,101,32,84,82,32,105,32,32,32,56]),
  (128,[79,112,73,65,100,100,32,84,82,32,105,105,32,32,32,56]),
  (130,[79,112,73,83,117,98,32,84,82,32,105,105,32,32,32,56]),
  (132,[79,112,73,77,117,108,32,84,82,32,105,105,32,32,32,56]),
  (134,[79,112,85,68,105,118,32,84,82,32,105,105,32,32,32,56]),
  (135,[79,112,83,68,105,118,32,84,82,32,105,105,32,32,32,56]),
  (137,[79,112,85,77,111,100,32,84,82,32,105,105,32,32,32,56]),
  (138,[79,112,83,82,101,109,32,84,82,32,105,105,32,32,32,56]),
  (139,[79,112,83,77,111,100,32,84,82,32,105,105,32,32,32,56]),
  (149,[79,112,73,65,100,100,67,97,114,114,121,32,84,82,32,105,105,32,32,32,56]),
  (150,[79,112,73,83,117,98,66,111,114,114,111,119,32,84,82,32,105,105,32,32,32,56]),
  (151,[79,112,85,77,117,108,69,120,116,101,110,100,101,100,32,84,82,32,105,105,32,32,32,56]),
  (152,[79,112,83,77,117,108,69,120,116,101,110,100,101,100,32,84,82,32,105,105,32,32,32,56]),
  (154,[79,112,65,110,121,32,84,82,32,105,32,32,32,56]),
  (155,[79,112,65,108,108,32,84,82,32,105,32,32,32,56]),
  (164,[79,112,76,111,103,105,99,97,108,69,113,117,97,108,32,84,82,32,105,105,32,32,32,56]),
  (165,[79,112,76,111,103,105,99,97,108,78,111,116,69,113,117,97,108,32,84,82,32,105,105,32,32,32,56]),
  (166,[79,112,76,111,103,105,99,97,108,79,114,32,84,82,32,105,105,32,32,32,56]),
  (167,[79,112,76,111,103,105,99,97,108,65,110,100,32,84,82,32,105,105,32,32,32,56]),
  (168,[79,112,76,111,103,105,99,97,108,78,111,116,32,84,82,32,105,32,32,32,56]),
  (169,[79,112,83,101,108,101,99,116,32,84,82,32,105,105,105,32,32,32,56]),
  (170,[79,112,73,69,113,117,97,108,32,84,82,32,105,105,32,32,32,56]),
  (171,[79,112,73,78,111,116,69,113,117,97,108,32,84,82,32,105,105,32,32,32,56])]
def tabC:List (Int×Bs):=
 [(172,[79,112,85,71,114,101,97,116,101,114,84,104,97,110,32,84,82,32,105,105,32,32,32,56]),
  (173,[79,112,83,71,114,101,97,116,101,114,84,104,97,110,32,84,82,32,105,105,32,32,32,56]),
  (174,[79,112,85,71,114,101,97,116,101,114,84,104,97,110,69,113,117,97,108,32,84,82,32,105,105,32,32,32,56]),
  (175,[79,112,83,71,114,101,97,116,101,114,84,104,97,110,69,113,117,97,108,32,84,82,32,105,105,32,32,32,56]),
  (176,[79,112,85,76,101,115,115,84,104,97,110,32,84,82,32,105,105,32,32,32,56]),
  (177,[79,112,83,76,101,115,115,84,104,97,110,32,84,82,32,105,105,32,32,32,56]),
  (178,[79,112,85,76,101,115,115,84,104,97,110,69,113,117,97,108,32,84,82,32,105,105,32,32,32,56]),
  (179,[79,112,83,76,101,115,115,84,104,97,110,69,113,117,97,108,32,84,82,32,105,105,32,32,32,56]),
  (194,[79,112,83,104,105,102,116,82,105,103,104,116,76,111,103,105,99,97,108,32,84,82,32,105,105,32,32,32,56]),
  (195,[79,112,83,104,105,102,116,82,105,103,104,116,65,114,105,116,104,109,101,116,105,99,32,84,82,32,105,105,32,32,32,56]),
  (196,[79,112,83,104,105,102,116,76,101,102,116,76,111,103,105,99,97,108,32,84,82,32,105,105,32,32,32,56]),
  (197,[79,112,66,105,116,119,105,115,101,79,114,32,84,82,32,105,105,32,32,32,56]),
  (198,[79,112,66,105,116,119,105,115,101,88,111,114,32,84,82,32,105,105,32,32,32,56]),
  (199,[79,112,66,105,116,119,105,115,101,65,110,100,32,84,82,32,105,105,32,32,32,56]),
  (200,[79,112,78,111,116,32,84,82,32,105,32,32,32,56]),
  (201,[79,112,66,105,116,70,105,101,108,100,73,110,115,101,114,116,32,84,82,32,105,105,105,105,32,32,32,56]),
  (202,[79,112,66,105,116,70,105,101,108,100,83,69,120,116,114,97,99,116,32,84,82,32,105,105,105,32,32,32,56]),
  (203,[79,112,66,105,116,70,105,101,108,100,85,69,120,116,114,97,99,116,32,84,82,32,105,105,105,32,32,32,56]),
  (204,[79,112,66,105,116,82,101,118,101,114,115,101,32,84,82,32,105,32,32,32,56]),
  (205,[79,112,66,105,116,67,111,117,110,116,32,84,82,32,105,32,32,32,56]),
  (245,[79,112,80,104,105,32,84,82,32,32,105,105,32,32,56]),
  (246,[79,112,76,111,111,112,77,101,114,103,101,32,32,105,105,103,32,32,32,56]),
  (247,[79,112,83,101,108,101,99,116,105,111,110,77,101,114,103,101,32,32,105,104,32,32,32,56]),
  (248,[79,112,76,97,98,101,108,32,82,32,32,32,32,56]),
  (249,[79,112,66,114,97,110,99,104,32,32,105,32,32,32,56]),
  (250,[79,112,66,114,97,110,99,104,67,111,110,100,105,116,105,111,110,97,108,32,32,105,105,105,32,32,32,56]),
  (251,[79,112,83,119,105,116,99,104,32,32,105,105,32,110,105,32,32,56]),
  (252,[79,112,75,105,108,108,32,32,32,32,32,56]),
  (253,[79,112,82,101,116,117,114,110,32,32,32,32,32,56]),
  (254,[79,112,82,101,116,117,114,110,86,97,108,117,101,32,32,105,32,32,32,56]),
  (255,[79,112,85,110,114,101,97,99,104,97,98,108,101,32,32,32,32,32,56])]
def tabN:List (Int×Bs):=
 [(107,[48,32,77,97,116,114,105,120,32,49,32,83,104,97,100,101,114,32]),
  (97,[48,32,76,111,103,105,99,97,108,32]),
  (109,[48,32,83,105,109,112,108,101,32,49,32,71,76,83,76,52,53,48,32]),
  (101,[48,32,86,101,114,116,101,120,32,52,32,70,114,97,103,109,101,110,116,32]),
  (120,[55,32,79,114,105,103,105,110,85,112,112,101,114,76,101,102,116,32]),
  (108,[48,32,85,110,107,110,111,119,110,32,49,32,69,83,83,76,32,50,32,71,76,83,76,32]),
  (99,[49,32,73,110,112,117,116,32,51,32,79,117,116,112,117,116,32,54,32,80,114,105,118,97,116,101,32,55,32,70,117,110,99,116,105,111,110,32]),
  (100,[48,32,82,101,108,97,120,101,100,80,114,101,99,105,115,105,111,110,32,49,49,32,66,117,105,108,116,73,110,32,49,52,32,70,108,97,116,32,51,48,32,76,111,99,97,116,105,111,110,32]),
  (102,[48,32,78,111,110,101,32,49,32,73,110,108,105,110,101,32,50,32,68,111,110,116,73,110,108,105,110,101,32,52,32,80,117,114,101,32,56,32,67,111,110,115,116,32]),
  (104,[48,32,78,111,110,101,32,49,32,70,108,97,116,116,101,110,32,50,32,68,111,110,116,70,108,97,116,116,101,110,32]),
  (103,[48,32,78,111,110,101,32,49,32,85,110,114,111,108,108,32,50,32,68,111,110,116,85,110,114,111,108,108,32])]
def tabR:List (Int×Fl):=
 [(1,[79,112,85,110,100,101,102],true,true,[],[],0,7),
  (3,[79,112,83,111,117,114,99,101],false,false,[108,110],[],0,4),
  (5,[79,112,78,97,109,101],false,false,[105,115],[],0,5),
  (6,[79,112,77,101,109,98,101,114,78,97,109,101],false,false,[105,110,115],[],0,5),
  (7,[79,112,83,116,114,105,110,103],false,true,[115],[],0,4),
  (14,[79,112,77,101,109,111,114,121,77,111,100,101,108],false,false,[97,109],[],0,1),
  (15,[79,112,69,110,116,114,121,80,111,105,110,116],false,false,[101,105,115],[105],0,2),
  (16,[79,112,69,120,101,99,117,116,105,111,110,77,111,100,101],false,false,[105,120],[],0,3),
  (17,[79,112,67,97,112,97,98,105,108,105,116,121],false,false,[107],[],0,0),
  (19,[79,112,84,121,112,101,86,111,105,100],false,true,[],[],0,7),
  (20,[79,112,84,121,112,101,66,111,111,108],false,true,[],[],0,7),
  (21,[79,112,84,121,112,101,73,110,116],false,true,[110,110],[],0,7),
  (23,[79,112,84,121,112,101,86,101,99,116,111,114],false,true,[105,110],[],0,7),
  (28,[79,112,84,121,112,101,65,114,114,97,121],false,true,[105,105],[],0,7),
  (30,[79,112,84,121,112,101,83,116,114,117,99,116],false,true,[],[105],0,7),
  (32,[79,112,84,121,112,101,80,111,105,110,116,101,114],false,true,[99,105],[],0,7),
  (33,[79,112,84,121,112,101,70,117,110,99,116,105,111,110],false,true,[105],[105],0,7),
  (41,[79,112,67,111,110,115,116,97,110,116,84,114,117,101],true,true,[],[],0,7),
  (42,[79,112,67,111,110,115,116,97,110,116,70,97,108,115,101],true,true,[],[],0,7),
  (43,[79,112,67,111,110,115,116,97,110,116],true,true,[110],[],0,7),
  (44,[79,112,67,111,110,115,116,97,110,116,67,111,109,112,111,115,105,116,101],true,true,[],[105],0,7),
  (46,[79,112,67,111,110,115,116,97,110,116,78,117,108,108],true,true,[],[],0,7),
  (54,[79,112,70,117,110,99,116,105,111,110],true,true,[102,105],[],0,8),
  (55,[79,112,70,117,110,99,116,105,111,110,80,97,114,97,109,101,116,101,114],true,true,[],[],0,8),
  (56,[79,112,70,117,110,99,116,105,111,110,69,110,100],false,false,[],[],0,8),
  (57,[79,112,70,117,110,99,116,105,111,110,67,97,108,108],true,true,[105],[105],0,8),
  (59,[79,112,86,97,114,105,97,98,108,101],true,true,[99],[105],1,7),
  (61,[79,112,76,111,97,100],true,true,[105],[],0,8),
  (62,[79,112,83,116,111,114,101],false,false,[105,105],[],0,8),
  (65,[79,112,65,99,99,101,115,115,67,104,97,105,110],true,true,[105],[105],0,8),
  (71,[79,112,68,101,99,111,114,97,116,101],false,false,[105,100],[110],0,6),
  (77,[79,112,86,101,99,116,111,114,69,120,116,114,97,99,116,68,121,110,97,109,105,99],true,true,[105,105],[],0,8),
  (78,[79,112,86,101,99,116,111,114,73,110,115,101,114,116,68,121,110,97,109,105,99],true,true,[105,105,105],[],0,8),
  (79,[79,112,86,101,99,116,111,114,83,104,117,102,102,108,101],true,true,[105,105],[110],0,8),
  (80,[79,112,67,111,109,112,111,115,105,116,101,67,111,110,115,116,114,117,99,116],true,true,[],[105],0,8),
  (81,[79,112,67,111,109,112,111,115,105,116,101,69,120,116,114,97,99,116],true,true,[105],[110],0,8),
  (82,[79,112,67,111,109,112,111,115,105,116,101,73,110,115,101,114,116],true,true,[105,105],[110],0,8),
  (83,[79,112,67,111,112,121,79,98,106,101,99,116],true,true,[105],[],0,8),
  (124,[79,112,66,105,116,99,97,115,116],true,true,[105],[],0,8),
  (126,[79,112,83,78,101,103,97,116,101],true,true,[105],[],0,8),
  (128,[79,112,73,65,100,100],true,true,[105,105],[],0,8),
  (130,[79,112,73,83,117,98],true,true,[105,105],[],0,8),
  (132,[79,112,73,77,117,108],true,true,[105,105],[],0,8),
  (134,[79,112,85,68,105,118],true,true,[105,105],[],0,8),
  (135,[79,112,83,68,105,118],true,true,[105,105],[],0,8),
  (137,[79,112,85,77,111,100],true,true,[105,105],[],0,8),
  (138,[79,112,83,82,101,109],true,true,[105,105],[],0,8),
  (139,[79,112,83,77,111,100],true,true,[105,105],[],0,8),
  (149,[79,112,73,65,100,100,67,97,114,114,121],true,true,[105,105],[],0,8),
  (150,[79,112,73,83,117,98,66,111,114,114,111,119],true,true,[105,105],[],0,8),
  (151,[79,112,85,77,117,108,69,120,116,101,110,100,101,100],true,true,[105,105],[],0,8),
  (152,[79,112,83,77,117,108,69,120,116,101,110,100,101,100],true,true,[105,105],[],0,8),
  (154,[79,112,65,110,121],true,true,[105],[],0,8),
  (155,[79,112,65,108,108],true,true,[105],[],0,8),
  (164,[79,112,76,111,103,105,99,97,108,69,113,117,97,108],true,true,[105,105],[],0,8),
  (165,[79,112,76,111,103,105,99,97,108,78,111,116,69,113,117,97,108],true,true,[105,105],[],0,8),
  (166,[79,112,76,111,103,105,99,97,108,79,114],true,true,[105,105],[],0,8),
  (167,[79,112,76,111,103,105,99,97,108,65,110,100],true,true,[105,105],[],0,8),
  (168,[79,112,76,111,103,105,99,97,108,78,111,116],true,true,[105],[],0,8),
  (169,[79,112,83,101,108,101,99,116],true,true,[105,105,105],[],0,8),
  (170,[79,112,73,69,113,117,97,108],true,true,[105,105],[],0,8),
  (171,[79,112,73,78,111,116,69,113,117,97,108],true,true,[105,105],[],0,8),
  (172,[79,112,85,71,114,101,97,116,101,114,84,104,97,110],true,true,[105,105],[],0,8),
  (173,[79,112,83,71,114,101,97,116,101,114,84,104,97,110],true,true,[105,105],[],0,8),
  (174,[79,112,85,71,114,101,97,116,101,114,84,104,97,110,69,113,117,97,108],true,true,[105,105],[],0,8),
  (175,[79,112,83,71,114,101,97,116,101,114,84,104,97,110,69,113,117,97,108],true,true,[105,105],[],0,8),
  (176,[79,112,85,76,101,115,115,84,104,97,110],true,true,[105,105],[],0,8),
  (177,[79,112,83,76,101,115,115,84,104,97,110],true,true,[105,105],[],0,8),
  (178,[79,112,85,76,101,115,115,84,104,97,110,69,113,117,97,108],true,true,[105,105],[],0,8),
  (179,[79,112,83,76,101,115,115,84,104,97,110,69,113,117,97,108],true,true,[105,105],[],0,8),
  (194,[79,112,83,104,105,102,116,82,105,103,104,116,76,111,103,105,99,97,108],true,true,[105,105],[],0,8),
  (195,[79,112,83,104,105,102,116,82,105,103,104,116,65,114,105,116,104,109,101,116,105,99],true,true,[105,105],[],0,8),
  (196,[79,112,83,104,105,102,116,76,101,102,116,76,111,103,105,99,97,108],true,true,[105,105],[],0,8),
  (197,[79,112,66,105,116,119,105,115,101,79,114],true,true,[105,105],[],0,8),
  (198,[79,112,66,105,116,119,105,115,101,88,111,114],true,true,[105,105],[],0,8),
  (199,[79,112,66,105,116,119,105,115,101,65,110,100],true,true,[105,105],[],0,8),
  (200,[79,112,78,111,116],true,true,[105],[],0,8),
  (201,[79,112,66,105,116,70,105,101,108,100,73,110,115,101,114,116],true,true,[105,105,105,105],[],0,8),
  (202,[79,112,66,105,116,70,105,101,108,100,83,69,120,116,114,97,99,116],true,true,[105,105,105],[],0,8),
  (203,[79,112,66,105,116,70,105,101,108,100,85,69,120,116,114,97,99,116],true,true,[105,105,105],[],0,8),
  (204,[79,112,66,105,116,82,101,118,101,114,115,101],true,true,[105],[],0,8),
  (205,[79,112,66,105,116,67,111,117,110,116],true,true,[105],[],0,8),
  (245,[79,112,80,104,105],true,true,[],[105,105],0,8),
  (246,[79,112,76,111,111,112,77,101,114,103,101],false,false,[105,105,103],[],0,8),
  (247,[79,112,83,101,108,101,99,116,105,111,110,77,101,114,103,101],false,false,[105,104],[],0,8),
  (248,[79,112,76,97,98,101,108],false,true,[],[],0,8),
  (249,[79,112,66,114,97,110,99,104],false,false,[105],[],0,8),
  (250,[79,112,66,114,97,110,99,104,67,111,110,100,105,116,105,111,110,97,108],false,false,[105,105,105],[],0,8),
  (251,[79,112,83,119,105,116,99,104],false,false,[105,105],[110,105],0,8),
  (252,[79,112,75,105,108,108],false,false,[],[],0,8),
  (253,[79,112,82,101,116,117,114,110],false,false,[],[],0,8),
  (254,[79,112,82,101,116,117,114,110,86,97,108,117,101],false,false,[105],[],0,8),
  (255,[79,112,85,110,114,101,97,99,104,97,98,108,101],false,false,[],[],0,8)]
def tabM:List (Int×Int×Bs):=
 [(107,0,[77,97,116,114,105,120]),
  (107,1,[83,104,97,100,101,114]),
  (97,0,[76,111,103,105,99,97,108]),
  (109,0,[83,105,109,112,108,101]),
  (109,1,[71,76,83,76,52,53,48]),
  (101,0,[86,101,114,116,101,120]),
  (101,4,[70,114,97,103,109,101,110,116]),
  (120,7,[79,114,105,103,105,110,85,112,112,101,114,76,101,102,116]),
  (108,0,[85,110,107,110,111,119,110]),
  (108,1,[69,83,83,76]),
  (108,2,[71,76,83,76]),
  (99,1,[73,110,112,117,116]),
  (99,3,[79,117,116,112,117,116]),
  (99,6,[80,114,105,118,97,116,101]),
  (99,7,[70,117,110,99,116,105,111,110]),
  (100,0,[82,101,108,97,120,101,100,80,114,101,99,105,115,105,111,110]),
  (100,11,[66,117,105,108,116,73,110]),
  (100,14,[70,108,97,116]),
  (100,30,[76,111,99,97,116,105,111,110]),
  (102,0,[78,111,110,101]),
  (102,1,[73,110,108,105,110,101]),
  (102,2,[68,111,110,116,73,110,108,105,110,101]),
  (102,4,[80,117,114,101]),
  (102,8,[67,111,110,115,116]),
  (104,0,[78,111,110,101]),
  (104,1,[70,108,97,116,116,101,110]),
  (104,2,[68,111,110,116,70,108,97,116,116,101,110]),
  (103,0,[78,111,110,101]),
  (103,1,[85,110,114,111,108,108]),
  (103,2,[68,111,110,116,85,110,114,111,108,108])]
def fldS(st:Nat×List Bs)(c:UInt8):Nat×List Bs:=if c=32 then(st.1+1,st.2) else(st.1,st.2.modify st.1 (·++[c]))
def fldG(s:Bs):Nat×List Bs:=s.foldl fldS (0,[[],[],[],[],[],[]])
def fld(s:Bs)(k:Nat):Bs:=(fldG s).2.getD k []
def zk6(s:Bs):Fl:=
 (fld s 0,(fld s 1).contains 84,(fld s 1).contains 82,fld s 2,fld s 3,(match fld s 4 with | []=>0 |c::_=>c.toNat-48),(match fld s 5 with | []=>0 |c::_=>c.toNat-48))
def zoI(s:Bs):Bool:=
 s.all (·<128)&&(fld s 1).all (·<128)&&decide (s.count 32<=5)&&decide (s.length<=100)&&!s.isEmpty&&(match fld s 5 with | []=>false |c::_=>decide (48<=c.toNat)) &&
  (match fld s 4 with | []=>true |c::_=>decide (48<=c.toNat))
def zkk:List (Int×Bs):=tabA++(tabB++tabC)
theorem zt5:zkk.all (λp=>zoI p.2)=true:=by decide +kernel
theorem zr1:(zkk.map λp=>(p.1,zk6 p.2))=tabR:=by kernel_rfl
theorem keyA:tabA.all (λp=>decide (p.1<=71))=true:=by decide +kernel
theorem keyB:tabB.all (λp=>decide (71<p.1)&&decide (p.1<=171))=true:=by decide +kernel
theorem keyC:tabC.all (λp=>decide (171<p.1))=true:=by decide +kernel
def rowP(op:Int):Option Bs:=look zkk op
theorem zub{op:Int}(h:op<=71):look tabA op=rowP op:=by
 unfold rowP zkk
 rw[ZZ,ZZ,zbz (a:=tabB),zbz (a:=tabC),Option.or_none,Option.or_none]
 ·intro p hp;have:=List.all_eq_true.1 keyC p hp;simp at this;omega
 ·intro p hp;have:=List.all_eq_true.1 keyB p hp;simp at this;omega
theorem zuc{op:Int}(h:¬op<=71)(h':op<=171):look tabB op=rowP op:=by
 unfold rowP zkk
 rw[ZZ,ZZ,zbz (a:=tabA),zbz (a:=tabC),Option.or_none,Option.none_or]
 ·intro p hp;have:=List.all_eq_true.1 keyC p hp;simp at this;omega
 ·intro p hp;have:=List.all_eq_true.1 keyA p hp;simp at this;omega
theorem zud{op:Int}(h:¬op<=71)(h':¬op<=171):look tabC op=rowP op:=by
 unfold rowP zkk
 rw[ZZ,ZZ,zbz (a:=tabA),zbz (a:=tabB),Option.none_or,Option.none_or]
 ·intro p hp;have:=List.all_eq_true.1 keyB p hp;simp at this;omega
 ·intro p hp;have:=List.all_eq_true.1 keyA p hp;simp at this;omega
theorem zt4{op:Int}{s:Bs}(h:rowP op=some s):zoI s=true:=List.all_eq_true.1 zt5 _ (Ya h)
def frm(op:Int):Option Fl:=look tabR op
theorem ztm(op:Int):frm op=(rowP op).map zk6:=by
 unfold frm rowP
 rw[<-zoA,zr1]
theorem zow(s:Bs):(fldG s).2.length=6:=by
 suffices h:∀(l:Bs) (st:Nat×List Bs),(l.foldl fldS st).2.length=st.2.length from h s _
 intro l
 induction l with
 |nil=>intro st;rfl
 |cons c l ih=>
  intro st
  rw[List.foldl_cons,ih]
  unfold fldS
  split<;>simp
theorem ztj(s:Bs):(fldG s).1=s.count 32:=by
 suffices h:∀(l:Bs) (st:Nat×List Bs),(l.foldl fldS st).1=st.1+l.count 32 from(h s _).trans (Nat.zero_add _)
 intro l
 induction l with
 |nil=>intro st;simp
 |cons c l ih=>
  intro st
  rw[List.foldl_cons,ih]
  unfold fldS
  split
  ·rename_i e;subst e;simp;omega
  ·rename_i e;rw[List.count_cons_of_ne e]
theorem zqX(s:Bs):∀x∈(fldG s).2,x.length<=s.length:=by
 suffices h:∀(l:Bs) (st:Nat×List Bs) (n:Nat),(∀x∈st.2,x.length<=n)->∀x∈(l.foldl fldS st).2,x.length<=n+l.length by
  intro x hx
  have:=h s (0,[[],[],[],[],[],[]]) 0 (by simp) x hx
  omega
 intro l
 induction l with
 |nil=>intro st n h x hx;exact h x hx
 |cons c l ih=>
  intro st n h x hx
  have:=ih (fldS st c) (n+1) (λy hy=>by
   unfold fldS at hy
   split at hy
   ·have:=h y hy;omega
   ·obtain⟨i,hi,e⟩:=List.mem_iff_getElem.1 hy
    rw[List.getElem_modify]at e
    rw[List.length_modify]at hi
    split at e
    ·rw[<-e]
     have:=h _ (List.getElem_mem hi)
     simp
     omega
    ·rw[<-e]
     have:=h _ (List.getElem_mem hi)
     omega) x hx
  simp only[List.length_cons]
  omega
theorem zhp(s:Bs)(c:UInt8):fldG (s++[c])=fldS (fldG s) c:=by simp[fldG,List.foldl_append]
abbrev Fl.fixed(f:Fl):Bs:=f.2.2.2.1
abbrev Fl.rest(f:Fl):Bs:=f.2.2.2.2.1
abbrev Fl.most(f:Fl):Nat:=f.2.2.2.2.2.1
def zfo(f:Fl):Bool:=f.fixed.all (λc=>c !=0)&&f.rest.all (λc=>c !=0)&&decide (f.fixed.length<=100)&&decide (f.rest.length<=100)&&decide (f.most<=100)
theorem zpN:tabR.all (λp=>zfo p.2)=true:=by decide +kernel
def letP(f:Fl)(k:Nat):Nat:=
 if k<f.fixed.length then(f.fixed.getD k 0).toNat
 else if f.rest.length=0 then 0
 else if 0<f.most/\f.most*f.rest.length<=k-f.fixed.length then 0
 else(f.rest.getD ((k-f.fixed.length) % f.rest.length) 0).toNat
def ZI(c:Int):Int:=
 if c=105 then 1 else if c=110 then 2 else if c=115 then 3 else if (look tabN c).isSome then 4 else 0
theorem zsz:tabN.all (λp=>!p.2.isEmpty)=true:=by decide +kernel
theorem zk3:tabM.all (λp=>(look tabN p.1).isSome)=true:=by decide +kernel
theorem zpT:tabN.all (λp=>tabM.any λq=>decide (q.1=p.1))=true:=by decide +kernel
theorem zse:tabR.all (λp=>p.2.fixed.all (λc=>decide (ZI c.toNat≠0))&&p.2.rest.all (λc=>decide (ZI c.toNat≠0)))=true:=by decide +kernel
theorem zoy{op:Int}{f:Fl}(h:frm op=some f):zfo f=true:=List.all_eq_true.1 zpN _ (Ya h)
theorem zlC:ZI 0=0:=by decide +kernel
theorem zmG{op:Int}{f:Fl}(h:frm op=some f){k:Nat}(hk:letP f k≠0):ZI (letP f k)≠0:=by
 have h2:=List.all_eq_true.1 zse _ (Ya h)
 rw[Bool.and_eq_true]at h2
 have h3:=List.all_eq_true.1 h2.1
 have h4:=List.all_eq_true.1 h2.2
 unfold letP at hk⊢
 split
 ·rename_i hlt
  rw[zs hlt]
  exact of_decide_eq_true (h3 _ (List.getElem_mem hlt))
 ·rename_i hlt
  rw[if_neg hlt]at hk
  split
  ·rename_i e;rw[if_pos e]at hk;exact absurd rfl hk
  ·rename_i e
   rw[if_neg e]at hk
   split
   ·rename_i e2;rw[if_pos e2]at hk;exact absurd rfl hk
   ·have:(k-f.fixed.length) % f.rest.length<f.rest.length:=Nat.mod_lt _ (by omega)
    rw[zs this]
    exact of_decide_eq_true (h4 _ (List.getElem_mem this))
def bad(f:Fl)(ks:List Int)(k:Nat):Bool:=ks.getD k 0==0||ZI (letP f k) !=ks.getD k 0
def Yg(f:Fl)(n:Nat):Bool:=decide (n<f.fixed.length)||(decide (f.rest.length≠0)&&decide ((n-f.fixed.length) % f.rest.length≠0))
def fitF(f:Fl)(ks:List Int):Nat×Bool:=match (List.range ks.length).find? (bad f ks) with
 |some k=>(k,false)
 |none=>if Yg f ks.length then(ks.length,false) else(0,true)
def fitP(op:Int)(ks:List Int):Nat×Bool:=match frm op with
 |none=>(0,false)
 |some f=>fitF f ks
theorem zm6{op:Int}{ks:List Int}(h:frm op=none):fitP op ks=(0,false):=by unfold fitP;rw[h]
theorem zjL{op:Int}{ks:List Int}{f:Fl}(h:frm op=some f):fitP op ks=fitF f ks:=by unfold fitP;rw[h]
theorem YO{p:Nat->Bool}{n k:Nat}(hk:k<n)(hp:p k=true)(h:∀j,j<k->p j=false):(List.range n).find? p=some k:=by
 rw[List.find?_range_eq_some]
 exact⟨hp,by simpa using hk,λj hj=>by simp[h j hj]⟩
theorem zkS{f:Fl}{ks:List Int}{k:Nat}(hk:k<ks.length)(hp:bad f ks k=true)(h:∀j,j<k->bad f ks j=false):fitF f ks=(k,false):=by
 unfold fitF
 rw[YO hk hp h]
theorem zl5{f:Fl}{ks:List Int}(h:∀j,j<ks.length->bad f ks j=false):fitF f ks=if Yg f ks.length then(ks.length,false) else(0,true):=by
 unfold fitF
 have:(List.range ks.length).find? (bad f ks)=none:=by
  rw[List.find?_eq_none]
  intro j hj
  rw[h j (List.mem_range.1 hj)]
  simp
 rw[this]
end Go.Gm
namespace Go.Proofs
open Go.Gk Go.RowKit Go.Gm
theorem zcO{s:Bs}{k:Nat}(hk:k<s.length)(h:s[k]<128):Utf8.decode (bs s) k=(s[k].toNat,1):=by
 have e:((bs s).get! (k+0)).toNat=s[k].toNat:=by
  have:(bs s).get! (k+0)=s[k]:=by
   show(s.toArray)[k+0]! =s[k]
   simp[hk]
  rw[this]
 have h':s[k].toNat<128:=h
 unfold Utf8.decode
 simp only[e]
 rw[if_pos h']
theorem zf5{c:UInt8}(h:c<128):Utf8.encode (c.toNat:Int)=bs [c]:=by
 have h':c.toNat<128:=h
 have hv:Utf8.valid (c.toNat:Int)=true:=by
  unfold Utf8.valid
  have:(decide (0<=(c.toNat:Int))&&decide ((c.toNat:Int)<0xD800))=true:=by simp;omega
  rw[this];rfl
 unfold Utf8.encode
 simp only[hv,if_true,Int.toNat_natCast]
 rw[if_pos (by omega)]
 show _=bs [c]
 unfold bs
 simp
theorem zcP{w:World}{r:Nat}{s:ByteArray}{p:Nat}(h:r<w.heap.size):(zaD w r s p).heap[r]? =some (.stringIter s p):=by
 simp[zaD,h]
theorem zpQ{α β:Type}(f:α->β)(g:α->α)(l:List α){i:Nat}(h:i<l.length):(l.map f).set i (f (g l[i]))=(l.modify i g).map f:=by
 apply List.ext_getElem
 ·simp
 ·intro j h1 h2
  simp only[List.getElem_set,List.getElem_map,List.getElem_modify]
  split
  ·rename_i e;subst e;rfl
  ·rfl
abbrev six(l:List Bs):List Value:=l.map λx=>.string (bs x)
theorem zoJ{s:Bs}(h:zoI s=true):(∀c∈s,c<128)/\(∀c∈fld s 1,c<128)/\s.count 32<=5/\s.length<=100/\s≠[]/\(∃c r,fld s 5=c::r/\48<=c.toNat)/\(∀c r,fld s 4=c::r->48<=c.toNat):=by
 unfold zoI at h
 simp only[Bool.and_eq_true,decide_eq_true_eq,List.all_eq_true,Bool.not_eq_true',List.isEmpty_eq_false_iff]at h
 obtain⟨⟨⟨⟨⟨⟨h1,h1'⟩,h2⟩,h3⟩,h4⟩,h5⟩,h6⟩:=h
 refine⟨h1,h1',h2,h3,h4,?_,?_⟩
 ·cases e:fld s 5 with
  |nil=>rw[e]at h5;cases h5
  |cons c r=>rw[e]at h5;exact⟨c,r,rfl,of_decide_eq_true h5⟩
 ·intro c r e
  rw[e]at h6
  exact of_decide_eq_true h6
theorem zot{s:Bs}(hs:zoI s=true){w:World}{R:VWP}
  (hR:∀w',Below w.heap.size w w'->R (.agg #[.string (bs (fld s 0)),.string (bs (fld s 1)),.string (bs (fld s 2)),.string (bs (fld s 3)),.string (bs (fld s 4)),.string (bs (fld s 5))]) w') :
  cR 143 #[.string (bs s)] w R:=by
 obtain⟨h128,-,h5,hlen,-⟩:=zoJ hs
 refine za.of (zgR (bs s) R w ?_) λ_ _ h=>h
 refine Nw.gen λw1 e1=>Nw.gen λw2 e2=>Nw.gen λw3 e3=>?_
 have hA1:Blk w1 w.heap.size 220 (six [[],[],[],[],[],[]]):=by rw[e1];exact Blk.new w _ _
 have z1:w1.heap.size=w.heap.size+1:=by rw[e1];simp
 have b1:Below w.heap.size w w1:=by rw[e1];exact(Below.refl _ _).alloc (Nat.le_refl _) _
 have hA2:Blk w2 w.heap.size 220 (six [[],[],[],[],[],[]]):=by rw[e2];exact hA1.alloc _
 have hB2:Blk w2 w1.heap.size 220 (six [[],[],[],[],[],[]]):=by rw[e2];exact Blk.new w1 _ _
 have z2:w2.heap.size=w.heap.size+2:=by rw[e2];simp[z1]
 have b2:Below w.heap.size w w2:=by rw[e2];exact b1.alloc (by omega) _
 have hA3:Blk w3 w.heap.size 220 (six [[],[],[],[],[],[]]):=by rw[e3];exact hA2.alloc _
 have hB3:Blk w3 w1.heap.size 220 (six [[],[],[],[],[],[]]):=by rw[e3];exact hB2.alloc _
 have hI3:w3.heap[w2.heap.size]? =some (.stringIter (bs s) 0):=by
  rw[e3]
  show(w2.heap.push _)[w2.heap.size]? =_
  simp
 have z3:w3.heap.size=w.heap.size+3:=by rw[e3];simp[z2]
 have b3:Below w.heap.size w w3:=by rw[e3];exact b2.alloc (by omega) _
 clear e1 e2 e3 hA1 hA2 hB2
 refine zk.ghost (λj st w'=>∃k,k<=s.length/\j=s.length-k/\st=(((fldG (s.take k)).1:Int),())/\w'.heap.size=w.heap.size+3/\Below w.heap.size w w'/\w'.heap[w2.heap.size]? =some (.stringIter (bs s) k)/\
  Blk w' w.heap.size 220 (six [[],[],[],[],[],[]])/\Blk w' w1.heap.size 220 (six (fldG (s.take k)).2)) s.length ⟨0,Nat.zero_le _,rfl,rfl,z3,b3,hI3,hA3,hB3⟩ ?_
 rintro _ _ w4 ⟨k,hk,rfl,rfl,hz,hb,hI,hA,hB⟩ next hnext
 have hat:(fldG (s.take k)).1<=5:=by
  rw[ztj]
  exact Nat.le_trans ((List.take_sublist k s).count_le _) h5
 refine⟨bs s,k,hI,λhlt=>?_,λhge=>?_⟩
 ·rw[zP]at hlt
  have hc128:=h128 _ (List.getElem_mem hlt)
  rw[zcO hlt hc128]
  dsimp only
  have hc:=Chg.iter w2.heap.size w4 (bs s) (k+1)
  have hI5:=zcP (w:=w4) (s:=bs s) (p:=k+1) (r:=w2.heap.size) (by omega)
  generalize zaD w4 w2.heap.size (bs s) (k+1)=w5 at hc hI5
  have hA5:=hc.blk hA (by omega)
  have hB5:=hc.blk hB (by omega)
  have hb5:=hc.below hb (by omega)
  have hz5:=hc.size.trans hz
  have htk:s.take (k+1)=s.take k++[s[k]]:=List.take_succ_eq_append_getElem hlt
  refine zm (λe=>?_) (λe=>?_)
  ·have e:s[k]=32:=by
    apply UInt8.toNat.inj
    have:(s[k].toNat:Int)=32:=e
    show s[k].toNat=32
    omega
   rw[zr (by omega)]
   refine hnext (s.length-(k+1)) _ _ (by omega) ⟨k+1,hlt,rfl,?_,hz5,hb5,hI5,hA5,?_⟩
   ·rw[htk,zhp,fldS,if_pos e]
   ·rw[htk,zhp,fldS,if_pos e];exact hB5
  ·have e:s[k]≠32:=by
    intro h
    apply e
    rw[h]
    rfl
   have h6:=zow (s.take k)
   have hlt6:(fldG (s.take k)).1<(fldG (s.take k)).2.length:=by omega
   refine⟨⟨by omega,by omega⟩,?_⟩
   rw[Int.toNat_natCast]
   refine hB5.rT (x:=bs (fldG (s.take k)).2[(fldG (s.take k)).1]) (by simp[six,hlt6]) ⟨?_,⟨by omega,by omega⟩,hB5.wr (by simpa[six] using hlt6),?_⟩
   ·rw[zf5 hc128]
    unfold zh1
    rw[zP,zP]
    have:=zqX (s.take k) _ (List.getElem_mem hlt6)
    rw[List.length_take]at this
    simp only[List.length_singleton]
    omega
   ·rw[zf5 hc128,zmz]
    refine hnext (s.length-(k+1)) _ _ (by omega) ⟨k+1,hlt,rfl,?_,?_,?_,?_,?_,?_⟩
    ·rw[htk,zhp,fldS,if_neg e]
    ·simpa[World.setCell] using hz5
    ·exact(Chg.set _ _ _ _).below hb5 (by omega)
    ·rw[(Chg.set _ _ _ _).block _ (by omega)];exact hI5
    ·exact(Chg.set _ _ _ _).blk hA5 (by omega)
    ·have:=hB5.set (fldG (s.take k)).1 (.string (bs ((fldG (s.take k)).2[(fldG (s.take k)).1]++[s[k]])))
     rw[htk,zhp,fldS,if_neg e]
     have e3:=zpQ (λx=>Value.string (bs x)) (·++[s[k]]) (fldG (s.take k)).2 hlt6
     show Blk _ _ _ (((fldG (s.take k)).2.modify (fldG (s.take k)).1 (·++[s[k]])).map λx=>Value.string (bs x))
     rw[<-e3]
     exact this
 ·rw[zP]at hge
  have:k=s.length:=by omega
  subst this
  rw[List.take_length]at hB
  have hR':∀w',Below w.heap.size w w'->R (.agg #[.string (bs ((fldG s).2.getD 0 [])),.string (bs ((fldG s).2.getD 1 [])),.string (bs ((fldG s).2.getD 2 [])),.string (bs ((fldG s).2.getD 3 [])),.string (bs ((fldG s).2.getD 4 [])),.string (bs ((fldG s).2.getD 5 []))]) w':=hR
  have h6:=zow s
  generalize (fldG s).2=l at hB h6 hR'
  match l,h6 with
  | [a0,a1,a2,a3,a4,a5],_=>
   refine hB.rT (n:=0) rfl (hB.rT (n:=1) rfl (hB.rT (n:=2) rfl (hB.rT (n:=3) rfl (hB.rT (n:=4) rfl (hB.rT (n:=5) rfl ?_)))))
   refine Ym (vs:=six [a0,a1,a2,a3,a4,a5]) hA rfl λw' h1 h2=>?_
   refine h1.rT (n:=0) rfl (h1.rT (n:=1) rfl (h1.rT (n:=2) rfl (h1.rT (n:=3) rfl (h1.rT (n:=4) rfl (h1.rT (n:=5) rfl ?_)))))
   exact hR' w' (h2.below hb (Nat.le_refl _))
abbrev rowT(op:Int):Bs:=(rowP op).getD []
theorem zti(op:Int)(R:VWP)(w:World):zcl op R w=zlt tabA op (λs=>R (.string (bs s)) w) (R (.string (bs [])) w):=by kernel_rfl
theorem zsL(op:Int)(R:VWP)(w:World):zbq op R w=zlt tabB op (λs=>R (.string (bs s)) w) (R (.string (bs [])) w):=by kernel_rfl
theorem zt9(op:Int)(R:VWP)(w:World):zcn op R w=zlt tabC op (λs=>R (.string (bs s)) w) (R (.string (bs [])) w):=by kernel_rfl
theorem zsI{op:Int}{w:World}{R:VWP}(hR:R (.string (bs (rowT op))) w):cR 142 #[.int .u16 op] w R:=by
 refine za.of (zjg op R w ?_) λ_ _ h=>h
 unfold rowT at hR
 refine zf (λh=>?_) (λh=>zf (λh'=>?_) (λh'=>?_))
 ·rw[<-zub h]at hR
  refine za.of (zhA op _ w ?_) λ_ _ h=>h
  rw[zti]
  exact zdx (λx hx=>⟨_,rfl,by rw[hx]at hR;exact hR⟩) (λhx=>⟨_,rfl,by rw[hx]at hR;exact hR⟩)
 ·rw[<-zuc h h']at hR
  refine za.of (zgT op _ w ?_) λ_ _ h=>h
  rw[zsL]
  exact zdx (λx hx=>⟨_,rfl,by rw[hx]at hR;exact hR⟩) (λhx=>⟨_,rfl,by rw[hx]at hR;exact hR⟩)
 ·rw[<-zud h h']at hR
  refine za.of (zhB op _ w ?_) λ_ _ h=>h
  rw[zt9]
  exact zdx (λx hx=>⟨_,rfl,by rw[hx]at hR;exact hR⟩) (λhx=>⟨_,rfl,by rw[hx]at hR;exact hR⟩)
abbrev Fm:=Int×ByteArray×Bool×Bool×ByteArray×ByteArray×Int×Int×Unit
abbrev fmV(f:Fm):List Value:=[.int .u16 f.1,.string f.2.1,.bool f.2.2.1,.bool f.2.2.2.1,.string f.2.2.2.2.1,.string f.2.2.2.2.2.1,.int .i64 f.2.2.2.2.2.2.1,.int .u8 f.2.2.2.2.2.2.2.1]
abbrev fmA(f:Fm):Value:=.agg #[.int .u16 f.1,.string f.2.1,.bool f.2.2.1,.bool f.2.2.2.1,.string f.2.2.2.2.1,.string f.2.2.2.2.2.1,.int .i64 f.2.2.2.2.2.2.1,.int .u8 f.2.2.2.2.2.2.2.1]
def fmO(op:Int):Option Fl->Fm
 |none=>(0,bs [],false,false,bs [],bs [],0,0,())
 |some f=>(op,bs f.1,f.2.1,f.2.2.1,bs f.fixed,bs f.rest,(f.most:Int),(f.2.2.2.2.2.2:Int),())
theorem Fm.load{w:World}{b:Nat}{T:TypeId}{f:Fm}(h:Blk w b T (fmV f)){φ:Int->ByteArray->Bool->Bool->ByteArray->ByteArray->Int->Int->Prop}
  (hφ:φ f.1 f.2.1 f.2.2.1 f.2.2.2.1 f.2.2.2.2.1 f.2.2.2.2.2.1 f.2.2.2.2.2.2.1 f.2.2.2.2.2.2.2.1) :
  ldI w ((blk b).add 0) .u16 λx1=>zv w ((blk b).add 1) λx2=>ldB w ((blk b).add 2) λx3=>ldB w ((blk b).add 3) λx4=>zv w ((blk b).add 4) λx5=>zv w ((blk b).add 5) λx6=>
   ldI w ((blk b).add 6) .i64 λx7=>ldI w ((blk b).add 7) .u8 λx8=>φ x1 x2 x3 x4 x5 x6 x7 x8:=
 h.rI (n:=0) rfl (h.rT (n:=1) rfl (h.rB (n:=2) rfl (h.rB (n:=3) rfl (h.rT (n:=4) rfl (h.rT (n:=5) rfl (h.rI (n:=6) rfl (h.rI (n:=7) rfl hφ)))))))
theorem zoe{c:UInt8}{r:Bs}(h:48<=c.toNat):IntKind.u8.wrap (Yu (bs (c::r)) 0-48)=((c.toNat-48:Nat):Int):=by
 have e:Yu (bs (c::r)) 0=(c.toNat:Int):=ziU (c::r) 0
 have:=c.toNat_lt
 rw[e,IntKind.wrap_u8]
 omega
theorem zjf{op:Int}{w:World}{R:VWP}(hR:∀w',Below w.heap.size w w'->R (.tuple #[fmA (fmO op (frm op)),.bool (frm op).isSome]) w') :
  cR 108 #[.int .u16 op] w R:=by
 refine za.of (zjT op R w ?_) λ_ _ h=>h
 refine Nw.gen λw1 e1=>?_
 have hA1:Blk w1 w.heap.size 187 (fmV (fmO op none)):=by rw[e1];exact Blk.new w _ _
 have z1:w1.heap.size=w.heap.size+1:=by rw[e1];simp
 have b1:Below w.heap.size w w1:=by rw[e1];exact(Below.refl _ _).alloc (Nat.le_refl _) _
 clear e1
 refine zsI ⟨_,rfl,?_⟩
 dsimp only[zB,Go.Gk.Sl.zw,zi,zu,zb,zh];rw[YR]
 rw[ztm]at hR
 cases hrow:rowP op with
 |none=>
  rw[hrow]at hR
  refine zD (by unfold rowT;rw[hrow];rfl) ?_
  refine Ym (vs:=fmV (fmO op none)) hA1 rfl λw2 h1 h2=>?_
  exact Fm.load h1 (hR w2 (h2.below b1 (Nat.le_refl _)))
 |some s=>
  rw[hrow]at hR
  have hok:=zt4 hrow
  obtain⟨h128,h128',h5,hlen,hne,⟨c5,r5,e5,g5⟩,g4⟩:=zoJ hok
  have ert:rowT op=s:=by unfold rowT;rw[hrow];rfl
  rw[ert]
  refine zE (by simpa using hne) ?_
  refine zot hok λw2 b2=>?_
  have hA2:=hA1.below b2
  have b2':Below w.heap.size w w2:=b1.trans (b2.mono (by omega))
  have z2:w.heap.size<w2.heap.size:=by have:=b2.size;omega
  refine⟨(bs (fld s 0),bs (fld s 1),bs (fld s 2),bs (fld s 3),bs (fld s 4),bs (fld s 5),()),rfl,?_⟩
  refine zjF (T:=220) (vs:=six [fld s 0,fld s 1,fld s 2,fld s 3,fld s 4,fld s 5]) rfl λw3 hB b3 z3=>?_
  have hA3:=hA2.below b3
  have b3':Below w.heap.size w w3:=b2'.trans (b3.mono (by omega))
  refine⟨⟨by decide,by decide⟩,hB.drew.rT (n:=0) rfl ⟨⟨by decide,by decide⟩,hB.drew.rT (n:=2) rfl ⟨⟨by decide,by decide⟩,hB.drew.rT (n:=3) rfl ⟨⟨by decide,by decide⟩,hB.drew.rT (n:=5) rfl ⟨⟨by decide,?_⟩,?_⟩⟩⟩⟩⟩
  ·rw[zP,e5];simp
  refine Nw.gen λw4 e4=>?_
  have hC4:Blk w4 w3.drew.heap.size 187 (fmV (fmO op none)):=by rw[e4];exact Blk.new w3.drew _ _
  have hB4:Blk w4 w2.heap.size 220 (six [fld s 0,fld s 1,fld s 2,fld s 3,fld s 4,fld s 5]):=by rw[e4];exact hB.drew.alloc _
  have hA4:Blk w4 w.heap.size 187 (fmV (fmO op none)):=by rw[e4];exact hA3.drew.alloc _
  have b4:Below w.heap.size w w4:=by rw[e4];exact b3'.drew.alloc (by show w.heap.size<=w3.heap.size;omega) _
  have z4:w4.heap.size=w3.heap.size+1:=by rw[e4];simp
  clear e4
  refine⟨hB4.cell (n:=5) rfl,hB4.cell (n:=3) rfl,hB4.cell (n:=2) rfl,hB4.cell (n:=0) rfl,?_⟩
  have zd:w3.drew.heap.size=w3.heap.size:=rfl
  generalize w3.drew.heap.size=n4 at zd hC4
  rw[e5,zoe g5]
  refine Ym (vs:=[.int .u16 op,.string (bs (fld s 0)),.bool false,.bool false,.string (bs (fld s 2)),.string (bs (fld s 3)),.int .i64 0,.int .u8 ((c5.toNat-48:Nat):Int)]) hC4 rfl λw5 hC5 c5'=>?_
  have hB5:=c5'.blk hB4 (by omega)
  have hA5:=c5'.blk hA4 (by omega)
  have b5:=c5'.below b4 (by omega)
  have z5:=c5'.size
  refine⟨⟨by decide,by decide⟩,hB5.rT (n:=1) rfl ?_⟩
  refine Nw.gen λw6 e6=>?_
  have hI6:w6.heap[w5.heap.size]? =some (.stringIter (bs (fld s 1)) 0):=by
   rw[e6]
   show(w5.heap.push _)[w5.heap.size]? =_
   simp
  have hC6:=hC5.alloc (.stringIter (bs (fld s 1)) 0)
  have hB6:=hB5.alloc (.stringIter (bs (fld s 1)) 0)
  have hA6:=hA5.alloc (.stringIter (bs (fld s 1)) 0)
  have z6:w6.heap.size=w5.heap.size+1:=by rw[e6];simp
  have b6:Below w.heap.size w w6:=by rw[e6];exact b5.alloc (by omega) _
  rw[<-e6]at hC6 hB6 hA6
  clear e6
  refine zk.ghost (λj (_:Unit) w'=>∃k,k<=(fld s 1).length/\j=(fld s 1).length-k/\w'.heap.size=w6.heap.size/\Below w.heap.size w w'/\w'.heap[w5.heap.size]? =some (.stringIter (bs (fld s 1)) k)/\
   Blk w' w.heap.size 187 (fmV (fmO op none))/\Blk w' w2.heap.size 220 (six [fld s 0,fld s 1,fld s 2,fld s 3,fld s 4,fld s 5])/\
   Blk w' n4 187 [.int .u16 op,.string (bs (fld s 0)),.bool (((fld s 1).take k).contains 84),.bool (((fld s 1).take k).contains 82),.string (bs (fld s 2)),.string (bs (fld s 3)),.int .i64 0,.int .u8 ((c5.toNat-48:Nat):Int)])
   (fld s 1).length ⟨0,Nat.zero_le _,rfl,rfl,b6,hI6,hA6,hB6,hC6⟩ ?_
  rintro _ _ w7 ⟨k,hk,rfl,hz,hb,hI,hA,hB',hC⟩ next hnext
  refine⟨bs (fld s 1),k,hI,λhlt=>?_,λhge=>?_⟩
  ·rw[zP]at hlt
   have hc128:=h128' _ (List.getElem_mem hlt)
   rw[zcO hlt hc128]
   dsimp only
   have hc:=Chg.iter w5.heap.size w7 (bs (fld s 1)) (k+1)
   have hI8:=zcP (w:=w7) (s:=bs (fld s 1)) (p:=k+1) (r:=w5.heap.size) (by omega)
   generalize zaD w7 w5.heap.size (bs (fld s 1)) (k+1)=w8 at hc hI8
   have hA8:=hc.blk hA (by omega)
   have hB8:=hc.blk hB' (by omega)
   have hC8:=hc.blk hC (by omega)
   have hb8:=hc.below hb (by omega)
   have hz8:=hc.size.trans hz
   have htk:(fld s 1).take (k+1)=(fld s 1).take k++[(fld s 1)[k]]:=List.take_succ_eq_append_getElem hlt
   have hcon:∀(d:UInt8),((fld s 1).take (k+1)).contains d=(((fld s 1).take k).contains d||(((fld s 1)[k].toNat:Int)==((d.toNat:Nat):Int))):=by
    intro d
    rw[htk,List.contains_append]
    congr 1
    simp only[List.contains_cons,List.contains_nil,Bool.or_false]
    by_cases e:(fld s 1)[k]=d
    ·rw[e];simp
    ·have e1:(d==(fld s 1)[k])=false:=beq_eq_false_iff_ne.2 λh=>e h.symm
     have e2:(((fld s 1)[k].toNat:Int)==((d.toNat:Nat):Int))=false:=beq_eq_false_iff_ne.2 λh=>e (UInt8.toNat.inj (by omega))
     rw[e1,e2]
   refine zl.cut (λ_ w9=>Chg n4 w8 w9/\Blk w9 n4 187 [.int .u16 op,.string (bs (fld s 0)),.bool (((fld s 1).take (k+1)).contains 84),.bool (((fld s 1).take k).contains 82),.string (bs (fld s 2)),.string (bs (fld s 3)),.int .i64 0,.int .u8 ((c5.toNat-48:Nat):Int)]) ?_ ?_
   ·refine hC8.rB (n:=2) rfl (zo (λht=>?_) (λht=>?_))
    ·refine⟨hC8.wr (n:=2) (by simp),Chg.set _ _ _ _,?_⟩
     have:=hC8.set 2 (.bool true)
     rw[hcon 84,ht]
     exact this
    ·refine⟨hC8.wr (n:=2) (by simp),Chg.set _ _ _ _,?_⟩
     have:=hC8.set 2 (.bool (((fld s 1)[k].toNat:Int)==84))
     rw[hcon 84,ht,Bool.false_or]
     exact this
   ·rintro _ w9 ⟨c9,hC9⟩
    have fin:∀w10,Chg n4 w9 w10->Blk w10 n4 187 [.int .u16 op,.string (bs (fld s 0)),.bool (((fld s 1).take (k+1)).contains 84),.bool (((fld s 1).take (k+1)).contains 82),.string (bs (fld s 2)),.string (bs (fld s 3)),.int .i64 0,.int .u8 ((c5.toNat-48:Nat):Int)]->next () w10:=by
     intro w10 c10 hC10
     have cc:=c9.trans c10
     refine hnext ((fld s 1).length-(k+1)) _ _ (by omega) ⟨k+1,hlt,rfl,cc.size.trans hz8,cc.below hb8 (by omega),?_,cc.blk hA8 (by omega),cc.blk hB8 (by omega),hC10⟩
     rw[cc.block _ (by omega)]
     exact hI8
    refine hC9.rB (n:=3) rfl (zo (λht=>?_) (λht=>?_))
    ·refine⟨hC9.wr (n:=3) (by simp),fin _ (Chg.set _ _ _ _) ?_⟩
     have:=hC9.set 3 (.bool true)
     rw[hcon 82,ht]
     exact this
    ·refine⟨hC9.wr (n:=3) (by simp),fin _ (Chg.set _ _ _ _) ?_⟩
     have:=hC9.set 3 (.bool (((fld s 1)[k].toNat:Int)==82))
     rw[hcon 82,ht,Bool.false_or]
     exact this
  ·rw[zP]at hge
   have hk:k=(fld s 1).length:=by omega
   subst hk
   rw[List.take_length]at hC
   refine zl.cut (λ_ w9=>Chg n4 w7 w9/\Blk w9 n4 187 (fmV (fmO op (some (zk6 s))))) ?_ ?_
   ·refine⟨⟨by decide,by decide⟩,hB'.rT (n:=4) rfl ?_⟩
    rw[YR]
    cases e4:fld s 4 with
    |nil=>
     refine zE rfl ⟨Chg.refl _ _,?_⟩
     have ep:zk6 s=(fld s 0,(fld s 1).contains 84,(fld s 1).contains 82,fld s 2,fld s 3,0,c5.toNat-48):=by
      unfold zk6
      rw[e4,e5]
     rw[ep]
     exact hC
    |cons c4 r4=>
     have g:=g4 _ _ e4
     refine zD rfl ⟨⟨by decide,by decide⟩,?_⟩
     rw[e4]at hB'
     refine hB'.rT (n:=4) rfl ⟨⟨by decide,by rw[zP];simp⟩,hC.wr (n:=6) (by simp),Chg.set _ _ _ _,?_⟩
     rw[zoe g,zq (by omega) (by have:=c4.toNat_lt;omega)]
     have ep:zk6 s=(fld s 0,(fld s 1).contains 84,(fld s 1).contains 82,fld s 2,fld s 3,c4.toNat-48,c5.toNat-48):=by
      unfold zk6
      rw[e4,e5]
     rw[ep]
     exact hC.set 6 (.int .i64 ((c4.toNat-48:Nat):Int))
   ·rintro _ w9 ⟨c9,hC9⟩
    refine Fm.load hC9 ?_
    refine Ym (vs:=fmV (fmO op (some (zk6 s)))) (c9.blk hA (by omega)) rfl λw10 h1 h2=>?_
    exact Fm.load h1 (hR w10 (h2.below (c9.below hb (by omega)) (Nat.le_refl _)))
def fl0:Fl:=([],false,false,[],[],0,0)
def flOf(op:Int):Fl:=(frm op).getD fl0
theorem zjb(op:Int):zfo (flOf op)=true:=by
 unfold flOf
 cases h:frm op with
 |none=>decide +kernel
 |some f=>exact zoy h
structure FmIs (f:Fm) (g:Fl):Prop where
 fixed:f.2.2.2.2.1=bs g.fixed
 rest:f.2.2.2.2.2.1=bs g.rest
 most:f.2.2.2.2.2.2.1=(g.most:Int)
theorem fmIs(op:Int):FmIs (fmO op (frm op)) (flOf op):=by
 unfold flOf
 cases h:frm op with
 |none=>exact⟨rfl,rfl,rfl⟩
 |some f=>exact⟨rfl,rfl,rfl⟩
structure LOk (g:Fl):Prop where
 fixed:∀c∈g.fixed,c≠0
 rest:∀c∈g.rest,c≠0
 fl:g.fixed.length<=100
 rl:g.rest.length<=100
 ml:g.most<=100
theorem lOk{g:Fl}(h:zfo g=true):LOk g:=by
 unfold zfo at h
 simp only[Bool.and_eq_true,List.all_eq_true,bne_iff_ne,decide_eq_true_eq]at h
 obtain⟨⟨⟨⟨h1,h2⟩,h3⟩,h4⟩,h5⟩:=h
 exact⟨h1,h2,h3,h4,h5⟩
def fixP(g:Fl)(k:Nat):Nat:=if k<g.fixed.length then(g.fixed.getD k 0).toNat else 0
def zk9(g:Fl)(k:Nat):Nat:=
 if k<g.fixed.length then 0 else if g.rest.length=0 then 0 else if 0<g.most/\g.most*g.rest.length<=k-g.fixed.length then 0
 else(g.rest.getD ((k-g.fixed.length) % g.rest.length) 0).toNat
theorem zsi{g:Fl}{k:Nat}(h:fixP g k≠0):letP g k=fixP g k:=by
 unfold fixP at h⊢
 unfold letP
 split
 ·rfl
 ·rename_i h1;rw[if_neg h1]at h;exact absurd rfl h
theorem zmH{g:Fl}(hg:LOk g){k:Nat}(h:fixP g k=0):letP g k=zk9 g k:=by
 unfold fixP at h
 unfold zk9 letP
 split at h
 ·rename_i h1
  rw[zs h1]at h
  exact absurd (UInt8.toNat.inj (b:=0) h) (hg.fixed _ (List.getElem_mem h1))
 ·rename_i h1
  rw[if_neg h1,if_neg h1]
section
variable {f:Fm} {g:Fl} {w:World} {R:VWP}
theorem zpB(hf:FmIs f g){i:Nat}(hR:∀w',Below w.heap.size w w'->R (.int .u8 (fixP g i:Int)) w') :
  cR 145 #[fmA f,.int .i64 (i:Int)] w R:=by
 refine za.of (zez f i R w ?_) λ_ _ h=>h
 refine zn λw1 hB b1 z1=>?_
 have hB:Blk w1 w.heap.size 191 (fmV f):=hB
 have hf4:=hf.fixed
 refine zl.cut (λ_ w'=>w'=w1/\i<g.fixed.length) ?_ ?_
 ·refine zf (λh=>absurd h (by omega)) (λ_=>?_)
  refine hB.rT (n:=4) rfl ?_
  rw[hf4,zP]
  refine zf (λh=>?_) (λh=>⟨rfl,by omega⟩)
  have:=hR w1 b1
  rwa[fixP,if_neg (by omega)]at this
 ·rintro _ w' ⟨rfl,hlt⟩
  refine hB.rT (n:=4) rfl ?_
  rw[hf4,zP,ziU]
  refine⟨⟨by omega,by omega⟩,?_⟩
  have:=hR w' b1
  rwa[fixP,if_pos hlt]at this
theorem zrx(hf:FmIs f g)(hg:LOk g){i:Nat}(hi:i<=9223372036854775807)(hR:∀w',Below w.heap.size w w'->R (.int .u8 (zk9 g i:Int)) w') :
  cR 146 #[fmA f,.int .i64 (i:Int)] w R:=by
 refine za.of (zfc f i R w ?_) λ_ _ h=>h
 refine zn λw1 hB b1 z1=>?_
 have hB:Blk w1 w.heap.size 191 (fmV f):=hB
 have h1:=hg.fl
 have h2:=hg.rl
 have h3:=hg.ml
 refine hB.rT (n:=4) rfl ?_
 have hf4:=hf.fixed
 have hf5:=hf.rest
 have hf6:=hf.most
 rw[hf4,zP,zq (by omega) (by omega)]
 have hmul:g.most*g.rest.length<=10000:=Nat.le_trans (Nat.mul_le_mul h3 h2) (by omega)
 refine zl.cut (λ_ w'=>w'=w1/\g.fixed.length<=i/\g.rest.length≠0/\¬(0<g.most/\g.most*g.rest.length<=i-g.fixed.length)) ?_ ?_
 ·refine zf (λh=>?_) (λh=>?_)
  ·have:=hR w1 b1
   rwa[zk9,if_pos (by omega)]at this
  ·have hge:¬i<g.fixed.length:=by omega
   refine hB.rT (n:=5) rfl ?_
   rw[hf5,YR]
   refine zo (λe=>?_) (λe=>?_)
   ·have:=hR w1 b1
    rwa[zk9,if_neg hge,if_pos (by rw[List.isEmpty_iff]at e;rw[e];rfl)]at this
   ·have hne:g.rest.length≠0:=by
     intro h
     rw[List.eq_nil_of_length_eq_zero h]at e
     cases e
    refine hB.rI (n:=6) rfl ?_
    rw[hf6]
    refine zf (λhm=>?_) (λhm=>⟨rfl,by omega,hne,by omega⟩)
    refine hB.rI (n:=6) rfl (hB.rT (n:=5) rfl ?_)
    rw[hf6,hf5,zP,<-Int.natCast_mul,zq (by omega) (by omega)]
    refine zf (λhc=>?_) (λhc=>⟨rfl,by omega,hne,by omega⟩)
    have:=hR w1 b1
    rwa[zk9,if_neg hge,if_neg hne,if_pos ⟨by omega,by omega⟩]at this
 ·rintro _ w' ⟨rfl,hge,hne,hno⟩
  refine hB.drew.rT (n:=5) rfl (hB.drew.rT (n:=5) rfl ?_)
  rw[hf5,zP]
  refine zf (λh=>absurd h (by omega)) (λ_=>?_)
  have e:Int.tmod ((i:Int)-(g.fixed.length:Int)) (g.rest.length:Int)=(((i-g.fixed.length) % g.rest.length:Nat):Int):=by
   rw[show(i:Int)-(g.fixed.length:Int)=((i-g.fixed.length:Nat):Int) by omega]
   exact Int.ofNat_tmod _ _ |>.symm
  have hlt:(i-g.fixed.length) % g.rest.length<g.rest.length:=Nat.mod_lt _ (by omega)
  rw[e,ziU]
  refine⟨⟨by omega,by omega⟩,?_⟩
  have:=hR w'.drew b1.drew
  rwa[zk9,if_neg (by omega),if_neg hne,if_neg hno]at this
theorem zk0(hf:FmIs f g)(hg:LOk g){i:Nat}(hi:i<=9223372036854775807)(hR:∀w',Below w.heap.size w w'->R (.int .u8 (letP g i:Int)) w') :
  cR 110 #[fmA f,.int .i64 (i:Int)] w R:=by
 refine za.of (zdE f i R w ?_) λ_ _ h=>h
 refine zn λw1 hB b1 z1=>?_
 have hB:Blk w1 w.heap.size 191 (fmV f):=hB
 refine zf (λh=>absurd h (by omega)) (λ_=>?_)
 refine Fm.load hB (Fm.load hB ?_)
 refine zn λw2 hF b2 z2=>?_
 have b2':=b1.on b2
 refine zk.count 2 (by omega) (λk w'=>Below w.heap.size w w'/\Below w2.heap.size w2 w'/\(0<k->fixP g i=0)/\(1<k->zk9 g i=0)) ⟨b2',Below.refl _ _,λh=>by omega,λh=>by omega⟩ ?_
 rintro k w3 hk ⟨hb,hb2,hk1,hk2⟩ next hnext
 have hF3:=hF.below hb2
 have z3:=hb.size
 refine zf (λh=>?_) (λh=>?_)
 ·refine⟨⟨by omega,by omega⟩,?_⟩
  match k,h,hk1,hk2,hnext with
  | 0,_,_,_,hnext=>
   refine⟨_,hF3.cell (n:=0) rfl,?_⟩
   show cR 145 #[fmA f,.int .i64 (i:Int)] w3 _
   refine zpB hf λw4 b4=>⟨_,rfl,?_⟩
   refine zt (λe=>?_) (λe=>?_)
   ·have:=hR w4 (hb.on b4)
    rwa[zsi (by omega)]at this
   ·exact hnext w4 (by omega) ⟨hb.on b4,hb2.on b4,λ_=>by omega,λh=>by omega⟩
  | 1,_,hk1,_,hnext=>
   refine⟨_,hF3.cell (n:=1) rfl,?_⟩
   show cR 146 #[fmA f,.int .i64 (i:Int)] w3 _
   refine zrx hf hg hi λw4 b4=>⟨_,rfl,?_⟩
   have hf0:=hk1 (by omega)
   refine zt (λe=>?_) (λe=>?_)
   ·have:=hR w4 (hb.on b4)
    rwa[zmH hg hf0]at this
   ·exact hnext w4 (by omega) ⟨hb.on b4,hb2.on b4,λ_=>hf0,λ_=>by omega⟩
  |k+2,h,_,_,_=>dsimp only at h;omega
 ·have hk:1<k:=by dsimp only at h;omega
  have:=hR w3 hb
  rwa[zmH hg (hk1 (by omega)),hk2 hk]at this
end
theorem zqB(c:Int)(R:VWP)(w:World):zcm c R w=zlt tabN c (λs=>R (.string (bs s)) w) (R (.string (bs [])) w):=by kernel_rfl
theorem zms{c:Int}{w:World}{R:VWP}(hR:R (.int .u8 (ZI c)) w):cR 109 #[.int .u8 c] w R:=by
 refine za.of (ziw c R w ?_) λ_ _ h=>h
 unfold ZI at hR
 refine zm (λe=>by rwa[if_pos e]at hR) (λe=>?_)
 rw[if_neg e]at hR
 refine zm (λe=>by rwa[if_pos e]at hR) (λe=>?_)
 rw[if_neg e]at hR
 refine zm (λe=>by rwa[if_pos e]at hR) (λe=>?_)
 rw[if_neg e]at hR
 refine za.of (zcL c _ w ?_) λ_ _ h=>h
 rw[zqB]
 refine zdx (λs hs=>⟨_,rfl,?_⟩) (λhs=>⟨_,rfl,?_⟩)
 ·dsimp only[zB,Go.Gk.Sl.zw,zi,zu,zb,zh];rw[YR]
  have:=List.all_eq_true.1 zsz _ (Ya hs)
  rw[hs]at hR
  exact zD this hR
 ·dsimp only[zB,Go.Gk.Sl.zw,zi,zu,zb,zh];rw[YR]
  rw[hs]at hR
  exact zE rfl hR
theorem zmq{op:Int}{s:Sl}{ks:List Int}{w:World}{R:VWP}(hs:IsS (Value.int .u8) w s ks)
  (hR:∀w',Below w.heap.size w w'->R (.tuple #[.int .i64 ((fitP op ks).1:Int),.bool (fitP op ks).2]) w') :
  cR 73 #[.int .u16 op,.slice s.a s.l s.c] w R:=by
 refine za.of (ziv op s R w ?_) λ_ _ h=>h
 have hg:=lOk (zjb op)
 have hlen:=hs.len
 have hmax:=hs.bound
 refine zjf λw1 b1=>⟨fmO op (frm op),(frm op).isSome,rfl,?_⟩
 refine zjF (T:=187) (vs:=fmV (fmO op (frm op))) rfl λw2 hB b2 z2=>?_
 refine zo (λhn=>?_) (λhn=>?_)
 ·have hfr:frm op=none:=by
   cases h:frm op with
   |none=>rfl
   |some g=>rw[h]at hn;cases hn
  rw[zm6 hfr]at hR
  exact hR w2 (b1.on b2)
 ·obtain⟨g,hfr⟩:∃g,frm op=some g:=by
   cases h:frm op with
   |none=>rw[h]at hn;cases hn
   |some g=>exact⟨g,rfl⟩
  rw[zjL hfr]at hR
  have efl:flOf op=g:=by unfold flOf;rw[hfr];rfl
  have hfm:=fmIs op
  rw[efl]at hfm hg
  generalize fmO op (frm op)=fm at hB hfm
  refine Fm.load hB ?_
  refine box8 rfl λw3 hC b3 z3=>?_
  have hC:Blk w3 w2.heap.size 191 (fmV fm):=hC
  have b3':=(b1.on b2).on b3
  refine zk.count s.l (by omega) (λk w'=>Below w.heap.size w w'/\Below w3.heap.size w3 w'/\∀j,j<k->bad g ks j=false) ⟨b3',Below.refl _ _,λj hj=>by omega⟩ ?_
  rintro k w4 hk ⟨hb,hb3,hj⟩ next hnext
  have hC4:=hC.below hb3
  have hs4:=hs.below hb
  refine zf (λh=>?_) (λh=>?_)
  ·have hlt:k<ks.length:=by dsimp only at h;omega
   have hbadE:bad g ks k=(ks[k]==0||ZI (letP g k) !=ks[k]):=by unfold bad;rw[zs hlt]
   refine zl.cut (λ_ w'=>Below w4.heap.size w4 w'/\bad g ks k=false) ?_ ?_
   ·refine hs4.addr hlt λa _ hc=>⟨_,hc,?_⟩
    refine zm (λe=>?_) (λe=>?_)
    ·have:=hR w4 hb
     rwa[zkS hlt (by rw[hbadE,e];rfl) hj]at this
    ·refine Fm.load hC4 ?_
     refine zk0 hfm hg (by omega) λw5 b5=>⟨_,rfl,?_⟩
     refine zms ⟨_,rfl,?_⟩
     refine zt (λe2=>?_) (λe2=>?_)
     ·have:=hR w5 (hb.on b5)
      rwa[zkS hlt (by rw[hbadE,bne_iff_ne.2 e2,Bool.or_true]) hj]at this
     ·refine⟨b5,?_⟩
      rw[hbadE,e2]
      simpa using e
   ·rintro _ w5 ⟨b5,hbk⟩
    refine hnext w5 (by omega) ⟨hb.on b5,hb3.on b5,λj hj'=>?_⟩
    by_cases e:j=k
    ·subst e;exact hbk
    ·exact hj j (by omega)
  ·have hk:k=ks.length:=by dsimp only at h;omega
   subst hk
   have hfit:=zl5 hj
   have hR':=hR w4 hb
   rw[show fitF g ks=_ from hfit]at hR'
   have h1:=hg.fl
   refine hC4.rT (n:=4) rfl ?_
   rw[hfm.fixed,zP,zq (by omega) (by omega),hlen]
   refine zf (λhn=>?_) (λhn=>?_)
   ·rwa[if_pos (by unfold Yg;rw[decide_eq_true (by omega),Bool.true_or])]at hR'
   ·have hge:¬ks.length<g.fixed.length:=by omega
    refine hC4.rT (n:=5) rfl ?_
    rw[hfm.rest,YR]
    refine zo (λe=>?_) (λe=>?_)
    ·have hne:g.rest.length≠0:=by
      intro h
      rw[List.eq_nil_of_length_eq_zero h]at e
      cases e
     refine hC4.rT (n:=5) rfl ?_
     rw[hfm.rest,zP]
     refine zf (λh=>absurd h (by omega)) (λ_=>?_)
     have e3:Int.tmod ((ks.length:Int)-(g.fixed.length:Int)) (g.rest.length:Int)=(((ks.length-g.fixed.length) % g.rest.length:Nat):Int):=by
      rw[show(ks.length:Int)-(g.fixed.length:Int)=((ks.length-g.fixed.length:Nat):Int) by omega]
      exact Int.ofNat_tmod _ _ |>.symm
     rw[e3]
     refine zt (λe4=>?_) (λe4=>?_)
     ·rwa[if_pos (by unfold Yg;rw[decide_eq_false hge,decide_eq_true hne,decide_eq_true (by omega)];rfl)]at hR'
     ·rwa[if_neg (by unfold Yg;rw[decide_eq_false hge,decide_eq_true hne,decide_eq_false (by omega)];decide)]at hR'
    ·have hz:g.rest.length=0:=by
      have:g.rest.isEmpty=true:=by simpa using e
      rw[List.isEmpty_iff]at this
      rw[this]
      rfl
     rwa[if_neg (by unfold Yg;rw[decide_eq_false hge,decide_eq_false (show ¬g.rest.length≠0 by omega),Bool.false_and];decide)]at hR'
theorem zqZ{f:Fm}{w:World}{R:VWP}(hR:∀w',Below w.heap.size w w'->R (fmA f) w') :
  cR 180 #[.int .u16 f.1,.string f.2.1,.bool f.2.2.1,.bool f.2.2.2.1,.string f.2.2.2.2.1,.string f.2.2.2.2.2.1,.int .i64 f.2.2.2.2.2.2.1,.int .u8 f.2.2.2.2.2.2.2.1] w R:=by
 refine za.of (ze6 _ _ _ _ _ _ _ _ R w ?_) λ_ _ h=>h
 refine box8 rfl λw1 hB b1 z1=>?_
 have hB:Blk w1 w.heap.size 187 (fmV f):=hB
 exact Fm.load hB (hR w1 b1)
def refB(op:Int)(f:Fl)(R:VWP)(w w1:World):Prop:=
 cR 180 #[.int .u16 op,.string (bs f.1),.bool f.2.1,.bool f.2.2.1,.string (bs f.2.2.2.1),.string (bs f.2.2.2.2.1),.int .i64 (f.2.2.2.2.2.1:Int),.int .u8 (f.2.2.2.2.2.2:Int)] w1 λv1 w2=>
 ∃x2:Fm,v1=fmA x2/\stC (blk w.heap.size) 0 (fmV x2) w2 λw10=>
  ldI w10 ((blk w.heap.size).add 0) .u16 λx1=>zv w10 ((blk w.heap.size).add 1) λx2=>ldB w10 ((blk w.heap.size).add 2) λx3=>ldB w10 ((blk w.heap.size).add 3) λx4=>zv w10 ((blk w.heap.size).add 4) λx5=>zv w10 ((blk w.heap.size).add 5) λx6=>
   ldI w10 ((blk w.heap.size).add 6) .i64 λx7=>ldI w10 ((blk w.heap.size).add 7) .u8 λx8=>
   R (.tuple #[(.agg #[(.int .u16 x1),(.string x2),(.bool x3),(.bool x4),(.string x5),(.string x6),(.int .i64 x7),(.int .u8 x8)]),(.bool true)]) w10
def refD(R:VWP)(w w1:World):Prop:=
 stC (blk w.heap.size) 0 (fmV (0,bs [],false,false,bs [],bs [],0,0,())) w1 λw10=>
  ldI w10 ((blk w.heap.size).add 0) .u16 λx1=>zv w10 ((blk w.heap.size).add 1) λx2=>ldB w10 ((blk w.heap.size).add 2) λx3=>ldB w10 ((blk w.heap.size).add 3) λx4=>zv w10 ((blk w.heap.size).add 4) λx5=>zv w10 ((blk w.heap.size).add 5) λx6=>
   ldI w10 ((blk w.heap.size).add 6) .i64 λx7=>ldI w10 ((blk w.heap.size).add 7) .u8 λx8=>
   R (.tuple #[(.agg #[(.int .u16 x1),(.string x2),(.bool x3),(.bool x4),(.string x5),(.string x6),(.int .i64 x7),(.int .u8 x8)]),(.bool false)]) w10
set_option maxRecDepth 100000 in
theorem zt3(op:Int)(R:VWP)(w:World):YK op R w =
  Nw (w.alloc (.cells #[(.int .u16 (0:Int)),(.string (BM #[])),(.bool false),(.bool false),(.string (BM #[])),(.string (BM #[])),(.int .i64 (0:Int)),(.int .u8 (0:Int))] 187)) λw1=>
   zlt tabR op (λf=>refB op f R w w1) (refD R w w1):=by kernel_rfl
theorem zhe{op:Int}{w:World}{R:VWP}(hR:∀w',Below w.heap.size w w'->R (.tuple #[fmA (fmO op (frm op)),.bool (frm op).isSome]) w') :
  cR 152 #[.int .u16 op] w R:=by
 refine za.of (zfC op R w ?_) λ_ _ h=>h
 rw[zt3]
 refine zn λw1 hA b1 z1=>?_
 have hA:Blk w1 w.heap.size 187 (fmV (fmO op none)):=hA
 refine zdx (λf hf=>?_) (λhf=>?_)
 ·have hf:frm op=some f:=hf
  rw[hf]at hR
  unfold refB
  refine zqZ (f:=fmO op (some f)) λw2 b2=>⟨fmO op (some f),rfl,?_⟩
  refine Ym (hA.below b2) rfl λw3 h1 h2=>?_
  exact Fm.load h1 (hR w3 (h2.below (b1.on b2) (Nat.le_refl _)))
 ·have hf:frm op=none:=hf
  rw[hf]at hR
  unfold refD
  refine Ym hA rfl λw3 h1 h2=>?_
  exact Fm.load (f:=fmO op none) h1 (hR w3 (h2.below b1 (Nat.le_refl _)))
abbrev Nm:=Int×Int×Bs
abbrev nmV(x:Nm):List Value:=[.int .u8 x.1,.int .u32 x.2.1,.string (bs x.2.2)]
theorem ztv(x:Nm):(nmV x).length=3:=rfl
theorem eNm:YT Tryz.prog 255 258 3 24:=⟨by kernel_rfl,Tryz.t258,.agg #[.int .u8 0,.int .u32 0,.string (BM #[])],by kernel_rfl,rfl,rfl,rfl,rfl⟩
def zp1:List Nm->Sl->World->(Sl->World->Prop)->Prop
 | [],r,w,K=>K r w
 |p::l,r,w,K=>Nw (w.alloc (.cells #[(.int .u8 p.1),(.int .u32 p.2.1),(.string (bs p.2.2))] 258)) λw1=>
  zp Tryz.prog 255 (.slice r.a r.l r.c) (.slice (some (blk w.heap.size)) 1 1) w1 λr' w2=>zp1 l r' w2 K
theorem zmw{w0:World}{K:Sl->World->Prop}:∀(l:List Nm) {r:Sl} {w:World} {xs:List Value},Own w 258 3 r xs->Below w0.heap.size w0 w->zz w0.heap.size r->r.l+l.length<=1000->
  (∀r' w',Own w' 258 3 r' (xs++flat nmV l)->Below w0.heap.size w0 w'->K r' w')->zp1 l r w K
 | [],r,w,xs,hO,hb,hF,hl,hK=>hK r w (by simpa[flat] using hO) hb
 |p::l,r,w,xs,hO,hb,hF,hl,hK=>by
  simp only[List.length_cons]at hl
  refine zn λw1 hB b1 z1=>?_
  refine ZX eNm (hO.below b1) (news:=nmV p) rfl (λj u hj=>hB.cell hj) ?_ (by omega) (by omega) λr' w2 hO' hl' hg=>?_
  ·intro u hu
   simp only[nmV,List.mem_cons,List.not_mem_nil,or_false]at hu
   rcases hu with rfl |rfl |rfl<;>rfl
  ·rcases hg with⟨h1,h2,h3⟩ | ⟨b,hb',hab,hg⟩
   ·rw[h3]at hl'
    omega
   ·have hBb:w0.heap.size<=b:=by
     rcases hab with h |h
     ·have:=hF _ h
      exact this
     ·have:=hb.size
      omega
    refine zmw l hO' ((hb.on b1).trans (yf hg hBb (by have:=hb.size;omega))) ?_ (by omega) λr2 w3 h4 h5=>hK r2 w3 ?_ h5
    ·intro a ha
     rw[hb']at ha
     cases ha
     exact hBb
    ·have:xs++flat nmV (p::l)=(xs++nmV p)++flat nmV l:=by simp[flat]
     rw[this]
     exact h4
set_option maxRecDepth 100000 in
theorem zsX(R:VWP)(w:World):ZB R w=zp1 tabM ⟨none,0,0⟩ w λr w'=>R (.slice r.a r.l r.c) w':=by kernel_rfl
theorem zlj{w:World}{R:VWP}(hR:∀s w',IsC 3 nmV w' s tabM->Below w.heap.size w w'->R (.slice s.a s.l s.c) w'):cR 182 #[] w R:=by
 refine za.of (zdF R w ?_) λ_ _ h=>h
 rw[zsX]
 refine zmw tabM (Own.nil _ _ _) (Below.refl _ _) (λa ha=>by cases ha) (by decide +kernel) λr w' h1 h2=>hR r w' ?_ h2
 rw[List.nil_append]at h1
 exact Own.isC ztv (by omega) h1
theorem zmE{c:Int}:(Gm.look tabN c).isSome=true↔∃p∈tabM,p.1=c:=by
 constructor
 ·intro h
  obtain⟨s,hs⟩:=Option.isSome_iff_exists.1 h
  have:=List.all_eq_true.1 zpT _ (Ya hs)
  obtain⟨q,hq,e⟩:=List.any_eq_true.1 this
  exact⟨q,hq,of_decide_eq_true e⟩
 ·rintro⟨p,hp,rfl⟩
  exact List.all_eq_true.1 zk3 _ hp
theorem zlR{c:Int}{w:World}{R:VWP}(hR:∀w',Below w.heap.size w w'->R (.int .u8 (ZI c)) w'):cR 156 #[.int .u8 c] w R:=by
 refine za.of (ze5 c R w ?_) λ_ _ h=>h
 unfold ZI at hR
 refine zm (λe=>by rw[if_pos e]at hR;exact hR w (Below.refl _ _)) (λe=>?_)
 rw[if_neg e]at hR
 refine zm (λe=>by rw[if_pos e]at hR;exact hR w (Below.refl _ _)) (λe=>?_)
 rw[if_neg e]at hR
 refine zm (λe=>by rw[if_pos e]at hR;exact hR w (Below.refl _ _)) (λe=>?_)
 rw[if_neg e]at hR
 refine zlj λs w1 hs b1=>⟨s,rfl,?_⟩
 have hlen:=hs.len
 have hmax:=hs.bound
 refine zk.count s.l (by omega) (λk w'=>w'=w1/\∀j (hj:j<tabM.length),j<k->tabM[j].1≠c) ⟨rfl,λj hj h=>by omega⟩ ?_
 rintro k _ hk ⟨rfl,hj⟩ next hnext
 refine zf (λh=>?_) (λh=>?_)
 ·have hlt:k<tabM.length:=by dsimp only at h;omega
  obtain⟨a,ha⟩:=hs.base hlt
  refine⟨⟨by omega,by omega⟩,zj ha ⟨_,hs.cell a ha k hlt 0 (by omega),?_⟩⟩
  refine zm (λe=>?_) (λe=>?_)
  ·have:=hR _ b1
   rwa[if_pos (zmE.2 ⟨_,List.getElem_mem hlt,e⟩)]at this
  ·refine hnext _ (by omega) ⟨rfl,λj hj' hjk=>?_⟩
   by_cases e':j=k
   ·subst e';exact e
   ·exact hj j hj' (by omega)
 ·have hk:k=tabM.length:=by dsimp only at h;omega
  have:=hR _ b1
  rwa[if_neg (λh=>by
   obtain⟨p,hp,e⟩:=zmE.1 h
   obtain⟨i,hi,e'⟩:=List.mem_iff_getElem.1 hp
   exact hj i hi (by omega) (by rw[e'];exact e))]at this
theorem zri(k:Nat):letP fl0 k=0:=by
 simp[letP,fl0,Fl.fixed,Fl.rest]
theorem zjz{op:Int}{i:Nat}{w:World}{R:VWP}(hi:i<=9223372036854775807)(hR:∀w',Below w.heap.size w w'->R (.int .u8 (letP (flOf op) i:Int)) w') :
  cR 155 #[.int .u16 op,.int .i64 (i:Int)] w R:=by
 refine za.of (zd2 op i R w ?_) λ_ _ h=>h
 have hg:=lOk (zjb op)
 have hfm:=fmIs op
 refine zhe λw1 b1=>⟨fmO op (frm op),(frm op).isSome,rfl,?_⟩
 have hnone:(!(frm op).isSome)=true->flOf op=fl0:=by
  intro h
  unfold flOf
  cases e:frm op with
  |none=>rfl
  |some f=>rw[e]at h;cases h
 generalize (frm op).isSome=is at hnone
 generalize flOf op=g at hg hfm hnone hR
 generalize fmO op (frm op)=fm at hfm
 refine box8 rfl λw2 hB b2 z2=>?_
 have hB:Blk w2 w1.heap.size 187 (fmV fm):=hB
 have hb:=b1.on b2
 have h1:=hg.fl
 have h2:=hg.rl
 have h3:=hg.ml
 refine zl.cut (λ_ w'=>w'=w2) ?_ ?_
 ·refine zo (λhn=>?_) (λhn=>zf (λh=>absurd h (by omega)) (λ_=>rfl))
  have:=hR w2 hb
  rwa[hnone hn,zri]at this
 ·rintro _ w' rfl
  refine hB.rT (n:=4) rfl ?_
  rw[hfm.fixed,zP]
  refine zf (λhlt=>?_) (λhge=>?_)
  ·have hlt':i<g.fixed.length:=by omega
   refine hB.rT (n:=4) rfl ?_
   rw[hfm.fixed,zP,ziU]
   refine⟨⟨by omega,by omega⟩,?_⟩
   have:=hR w' hb
   rwa[letP,if_pos hlt']at this
  ·have hge':¬i<g.fixed.length:=by omega
   refine hB.rT (n:=5) rfl ?_
   rw[hfm.rest,zP]
   refine zm (λe=>?_) (λe=>?_)
   ·have:=hR w' hb
    rwa[letP,if_neg hge',if_pos (by omega)]at this
   ·have hne:¬g.rest.length=0:=by omega
    refine hB.rT (n:=4) rfl ?_
    rw[hfm.fixed,zP,zq (by omega) (by omega)]
    have hk:(i:Int)-(g.fixed.length:Int)=((i-g.fixed.length:Nat):Int):=by omega
    rw[hk]
    refine zl.cut (λ_ w2=>w2=w'.drew/\¬(0<g.most/\g.most*g.rest.length<=i-g.fixed.length)) ?_ ?_
    ·refine hB.drew.rI (n:=6) rfl ?_
     rw[hfm.most]
     refine zf (λhm=>?_) (λhm=>⟨rfl,by omega⟩)
     refine hB.drew.rT (n:=5) rfl ?_
     rw[hfm.rest,zP]
     refine zf (λh=>absurd h (by omega)) (λ_=>?_)
     refine hB.drew.rI (n:=6) rfl ?_
     rw[hfm.most]
     have hdv:(i-g.fixed.length) / g.rest.length<=i-g.fixed.length:=Nat.div_le_self _ _
     have hiff:g.most<=(i-g.fixed.length) / g.rest.length↔g.most*g.rest.length<=i-g.fixed.length:=Nat.le_div_iff_mul_le (by omega)
     rw[show Int.tdiv ((i-g.fixed.length:Nat):Int) (g.rest.length:Int)=(((i-g.fixed.length) / g.rest.length:Nat):Int) from(Int.ofNat_tdiv _ _).symm]
     generalize (i-g.fixed.length) / g.rest.length=q at hdv hiff
     rw[zq (by omega) (by omega)]
     refine zf (λhc=>?_) (λhc=>⟨rfl,λh=>?_⟩)
     ·have:=hR w'.drew hb.drew
      rwa[letP,if_neg hge',if_neg hne,if_pos ⟨by omega,hiff.1 (by omega)⟩]at this
     ·have:=hiff.2 h.2
      omega
    ·rintro _ w2 ⟨rfl,hno⟩
     refine hB.drew.drew.rT (n:=5) rfl (hB.drew.drew.rT (n:=5) rfl ?_)
     rw[hfm.rest,zP]
     refine zf (λh=>absurd h (by omega)) (λ_=>?_)
     have hlt:(i-g.fixed.length) % g.rest.length<g.rest.length:=Nat.mod_lt _ (by omega)
     rw[show Int.tmod ((i-g.fixed.length:Nat):Int) (g.rest.length:Int)=(((i-g.fixed.length) % g.rest.length:Nat):Int) from(Int.ofNat_tmod _ _).symm,ziU]
     refine⟨⟨by omega,by omega⟩,?_⟩
     have:=hR w'.drew.drew hb.drew.drew
     rwa[letP,if_neg hge',if_neg hne,if_neg hno]at this
theorem zqd{op:Int}{s:Sl}{ks:List Int}{w:World}{R:VWP}(hs:IsS (Value.int .u8) w s ks)(hmx:ks.length<=9223372036854000000)
  (hR:∀w',Below w.heap.size w w'->R (.tuple #[.int .i64 ((fitP op ks).1:Int),.bool (fitP op ks).2]) w') :
  cR 119 #[.int .u16 op,.slice s.a s.l s.c] w R:=by
 refine za.of (ze4 op s R w ?_) λ_ _ h=>h
 have hg:=lOk (zjb op)
 have hlen:=hs.len
 have hfm:=fmIs op
 refine zhe λw1 b1=>⟨fmO op (frm op),(frm op).isSome,rfl,?_⟩
 refine box8 rfl λw2 hB b2 z2=>?_
 have hb2:=b1.on b2
 refine zo (λhn=>?_) (λhn=>?_)
 ·have hfr:frm op=none:=by
   cases h:frm op with
   |none=>rfl
   |some g=>rw[h]at hn;cases hn
  rw[zm6 hfr]at hR
  exact hR w2 hb2
 ·obtain⟨g,hfr⟩:∃g,frm op=some g:=by
   cases h:frm op with
   |none=>rw[h]at hn;cases hn
   |some g=>exact⟨g,rfl⟩
  rw[zjL hfr]at hR
  have efl:flOf op=g:=by unfold flOf;rw[hfr];rfl
  have hkind:∀k,letP g k≠0->ZI (letP g k)≠0:=λk hk=>zmG hfr hk
  rw[efl]at hfm hg
  have hB:Blk w2 w1.heap.size 187 (fmV (fmO op (frm op))):=hB
  generalize fmO op (frm op)=fm at hB hfm
  refine zk.count s.l (by omega) (λk w'=>Below w.heap.size w w'/\Below w2.heap.size w2 w'/\∀j,j<k->bad g ks j=false) ⟨hb2,Below.refl _ _,λj hj=>by omega⟩ ?_
  rintro k w4 hk ⟨hb,hb3,hj⟩ next hnext
  have hB4:=hB.below hb3
  have hs4:=hs.below hb
  refine zf (λh=>?_) (λh=>?_)
  ·have hlt:k<ks.length:=by dsimp only at h;omega
   have hbadE:bad g ks k=(ks[k]==0||ZI (letP g k) !=ks[k]):=by unfold bad;rw[zs hlt]
   refine zl.cut (λ_ w'=>Below w4.heap.size w4 w'/\bad g ks k=false) ?_ ?_
   ·refine zjz (by omega) λw5 b5=>⟨_,rfl,?_⟩
    rw[efl]
    refine zm (λe=>?_) (λe=>?_)
    ·have:=hR w5.drew (hb.on b5).drew
     have hz:letP g k=0:=by omega
     rwa[zkS hlt (by
      rw[hbadE,hz]
      by_cases e0:ks[k]=0
      ·rw[e0];rfl
      ·rw[show((0:Nat):Int)=0 from rfl,zlC,bne_iff_ne.2 (λh=>e0 h.symm),Bool.or_true]) hj]at this
    ·have hz:letP g k≠0:=by omega
     have hs5:=(hs4.below b5).drew
     refine hs5.addr hlt λa ha hc=>⟨_,hc,?_⟩
     refine zlR λw6 b6=>⟨_,rfl,?_⟩
     refine⟨(hs5.below b6).cell a ha k hlt,?_⟩
     refine zt (λe2=>?_) (λe2=>?_)
     ·have:=hR w6 ((hb.on b5).drew.on b6)
      rwa[zkS hlt (by rw[hbadE,bne_iff_ne.2 e2,Bool.or_true]) hj]at this
     ·refine⟨b5.drew.on b6,?_⟩
      have:=hkind k hz
      rw[hbadE,e2]
      rw[e2]at this
      simpa using this
   ·rintro _ w5 ⟨b5,hbk⟩
    refine hnext w5 (by omega) ⟨hb.on b5,hb3.on b5,λj hj'=>?_⟩
    by_cases e:j=k
    ·subst e;exact hbk
    ·exact hj j (by omega)
  ·have hk:k=ks.length:=by dsimp only at h;omega
   subst hk
   have hfit:=zl5 hj
   have hR':=hR w4 hb
   rw[show fitF g ks=_ from hfit]at hR'
   have h1:=hg.fl
   have h2:=hg.rl
   have hrest:g.fixed.length<ks.length->g.rest.length≠0:=by
    intro hlt hz
    have:=hj _ hlt
    unfold bad at this
    simp only[Bool.or_eq_false_iff,beq_eq_false_iff_ne,bne_eq_false_iff_eq]at this
    have hl:letP g g.fixed.length=0:=by rw[letP,if_neg (by omega),if_pos hz]
    rw[hl,show((0:Nat):Int)=0 from rfl,zlC]at this
    exact this.1 this.2.symm
   refine hB4.rT (n:=4) rfl ?_
   rw[hfm.fixed,zP,hlen]
   refine zk.ghost (λm st w'=>∃j:Nat,w'=w4/\st=(((g.fixed.length+j*g.rest.length:Nat):Int),())/\m=ks.length+101-(g.fixed.length+j*g.rest.length)/\(0<j->g.fixed.length+(j-1)*g.rest.length<ks.length)) _
    ⟨0,rfl,by simp,rfl,λh=>by omega⟩ ?_
   rintro _ _ _ ⟨j,rfl,rfl,rfl,hjj⟩ next hnext
   refine zf (λhn=>?_) (λhn=>?_)
   ·have hn':g.fixed.length+j*g.rest.length<ks.length:=by dsimp only at hn;omega
    have hr0:=hrest (by omega)
    refine hB4.rT (n:=5) rfl ?_
    rw[hfm.rest,zP]
    have e1:g.fixed.length+(j+1)*g.rest.length=g.fixed.length+j*g.rest.length+g.rest.length:=by rw[Nat.succ_mul];omega
    refine hnext (ks.length+101-(g.fixed.length+(j+1)*g.rest.length)) _ _ (by omega) ⟨j+1,rfl,?_,rfl,λ_=>by simpa using hn'⟩
    rw[zq (by omega) (by omega),e1]
    simp
   ·have hn':¬g.fixed.length+j*g.rest.length<ks.length:=by dsimp only at hn;omega
    refine zt (λe=>?_) (λe=>?_)
    ·have hne:g.fixed.length+j*g.rest.length≠ks.length:=by intro h;apply e;dsimp only;omega
     have hw:Yg g ks.length=true:=by
      unfold Yg
      rw[Bool.or_eq_true]
      by_cases hf:ks.length<g.fixed.length
      ·exact .inl (decide_eq_true hf)
      ·right
       have hj0:0<j:=by
        rcases Nat.eq_zero_or_pos j with h |h
        ·subst h;simp at hn' hne;omega
        ·exact h
       have h3:=hjj hj0
       have hr0:g.rest.length≠0:=by
        intro hz
        rw[hz]at h3 hn'
        simp at h3 hn'
        omega
       rw[Bool.and_eq_true]
       refine⟨decide_eq_true hr0,decide_eq_true λhm=>?_⟩
       have hd:=Nat.div_add_mod (ks.length-g.fixed.length) g.rest.length
       rw[hm,Nat.add_zero,Nat.mul_comm]at hd
       generalize (ks.length-g.fixed.length) / g.rest.length=q at hd
       have q1:(j-1)*g.rest.length<q*g.rest.length:=by omega
       have q2:q*g.rest.length<j*g.rest.length:=by omega
       have q3:=Nat.lt_of_mul_lt_mul_right q1
       have q4:=Nat.lt_of_mul_lt_mul_right q2
       omega
     rwa[if_pos hw]at hR'
    ·have he:g.fixed.length+j*g.rest.length=ks.length:=by dsimp only at e;omega
     have hw:¬Yg g ks.length=true:=by
      unfold Yg
      rw[Bool.or_eq_true,Bool.and_eq_true,not_or,not_and]
      refine⟨by simp;omega,λ_ h=>?_⟩
      have:=of_decide_eq_true h
      apply this
      rw[<-he,Nat.add_sub_cancel_left]
      exact Nat.mul_mod_left _ _
     rwa[if_neg hw]at hR'
end Go.Proofs
namespace Go.Gk
open Go.RowKit
theorem Blk.put{w:World}{b:Nat}{T:TypeId}{cs:List Value}(h:Blk w b T cs){l:Nat}(hl:b≠l)(o:Obj):Blk (w.putObj l o) b T cs:=h.of_block (World.putObj_heap_other hl)
theorem _root_.Go.RowKit.Below.putObj{B:Nat}{w w':World}(h:Below B w w'){b:Nat}(hb:B<=b)(o:Obj):Below B w (w'.putObj b o):=
 ⟨h.os,h.tape,h.output,by simpa using h.size,λk hk=>(World.putObj_heap_other (by omega)).trans (h.block k hk)⟩
theorem yv{w:World}{b k:Nat}(h:k≠b)(n:Nat)(v:Value):(w.setCell ((blk b).add n) v).heap[k]? =w.heap[k]?:=Below.heap_setCell _ _ _ _ (by rw[z0];exact h)
theorem zd4(w:World)(o o':Obj):Below w.heap.size w ((w.alloc o).alloc o'):=(((Below.refl _ _).alloc (Nat.le_refl _) o).alloc (by simp) o')
theorem zjX(w:World)(o o':Obj):((w.alloc o).alloc o').heap.size=w.heap.size+2:=by simp
theorem zn2(w:World)(o o':Obj):((w.alloc o).alloc o').heap[w.heap.size]? =some o:=(zhn (w.alloc o) o' (by simp)).trans (World.alloc_heap_new w o)
theorem zn3(w:World)(o o':Obj):((w.alloc o).alloc o').heap[w.heap.size+1]? =some o':=by
 have:=World.alloc_heap_new (w.alloc o) o'
 simpa using this
theorem zdy{d:Nat}{w:World}{k:World->Prop}(h:w.heap[d]? =some (.deferred (some [])))(hk:k (w.putObj d (.deferred none))):za4 [d] w k:=⟨h,hk⟩
theorem ZH.mono{P:Program}{fs:List Nat}{f:Value}{args:List Value}{w:World}{S T:VWP}(h:ZH P fs f args w S)(hk:∀v w',S v w'->T v w'):ZH P fs f args w T:=by
 revert h
 unfold ZH
 split
 ·split
  ·exact λh=>za.mono h hk
  ·rintro⟨v,w',h1,h2⟩
   exact⟨v,w',h1,hk _ _ h2⟩
 ·rintro⟨r,h1,h2,h3⟩
  exact⟨r,h1,h2,RoundIn.mono h3 λe w' he=>by cases e<;>first |exact hk _ _ he |exact he.elim⟩
 ·exact id
end Go.Gk
namespace Go.Gk
open Go.RowKit Go.MapKept
variable {P:Program}
def zI:List (Int×Int)->Int->Option Int
 | [],_=>none
 |p::r,k=>if k=p.1 then some p.2 else zI r k
def setL:List (Int×Int)->Int->Int->List (Int×Int)
 | [],k,v=>[(k,v)]
 |p::r,k,v=>if k=p.1 then(k,v)::r else p::setL r k v
theorem zfp(k v k':Int):∀L,zI (setL L k v) k'=if k'=k then some v else zI L k'
 | []=>by simp only[setL,zI]
 |p::r=>by
  have ih:=zfp k v k' r
  simp only[setL]
  split
  ·rename_i e
   simp only[zI]
   split
   ·rfl
   ·rename_i e'
    rw[if_neg (by rw[<-e];exact e')]
  ·rename_i e
   simp only[zI]
   split
   ·rename_i e'
    rw[if_neg (by rw[e'];exact λh=>e h.symm)]
   ·exact ih
def IsMp(w:World)(r:Nat)(κ:IntKind)(L:List (Int×Int)):Prop:=
 ∃es clock,w.heap[r]? =some (.map es clock)/\es.toList.map (λe=>(e.key,e.val))=(L.map λp=>(Value.int .u32 p.1,Value.int κ p.2))/\(∀x∈es.toList,x.born<clock)/\(es.toList.map (·.born)).Nodup
theorem IsMp.lt{w:World}{r:Nat}{κ:IntKind}{L:List (Int×Int)}(h:IsMp w r κ L):r<w.heap.size:=by
 obtain⟨es,c,h,_⟩:=h
 exact(Array.getElem?_eq_some_iff.1 h).1
theorem IsMp.of_block{w w':World}{r:Nat}{κ:IntKind}{L:List (Int×Int)}(h:IsMp w r κ L)(hb:w'.heap[r]? =w.heap[r]?):IsMp w' r κ L:=by
 obtain⟨es,c,h,h2⟩:=h
 exact⟨es,c,hb.trans h,h2⟩
theorem IsMp.below{w w':World}{r:Nat}{κ:IntKind}{L:List (Int×Int)}(h:IsMp w r κ L)(hb:Below w.heap.size w w'):IsMp w' r κ L:=h.of_block (hb.block r h.lt)
theorem IsMp.new(w:World)(κ:IntKind):IsMp (w.alloc (.map #[] 0)) w.heap.size κ []:=⟨#[],0,by show(w.heap.push _)[w.heap.size]? =_;simp,rfl,(by simp),by simp⟩
theorem zit(κ:IntKind)(k:Int):∀(es:List MapEntry) (L:List (Int×Int)) (i:Nat),es.map (λe=>(e.key,e.val))=(L.map λp=>(Value.int .u32 p.1,Value.int κ p.2))->
  ∃o,Instr.findNow (.int .u32) (.int .u32 k) es i=some o/\(match o with
   |none=>zI L k=none
   |some (j,v)=>∃m x,j=i+m/\m<es.length/\v =.int κ x/\zI L k=some x/\∃e,es[m]? =some e/\e.key =.int .u32 k/\∀v',(es.modify m λe=>{e with key:=.int .u32 k,val:=.int κ v'}).map (λe=>(e.key,e.val))=(setL L k v').map λp=>(Value.int .u32 p.1,Value.int κ p.2))
 | [],[],i,_=>⟨none,rfl,rfl⟩
 | [],_::_,_,h=>by simp at h
 |_::_,[],_,h=>by simp at h
 |e::es,p::L,i,h=>by
  simp only[List.map_cons,List.cons.injEq,Prod.mk.injEq]at h
  obtain⟨⟨h1,h2⟩,h3⟩:=h
  unfold Instr.findNow
  rw[h1]
  simp only[Instr.sameNow,if_true]
  by_cases hk:k=p.1
  ·rw[show(k==p.1)=true from beq_iff_eq.2 hk]
   refine⟨some (i,e.val),rfl,0,p.2,rfl,by simp,h2,by simp[zI,hk],e,rfl,by rw[h1,hk],λv'=>?_⟩
   simp[setL,hk,h3]
  ·rw[show(k==p.1)=false from beq_eq_false_iff_ne.2 hk]
   obtain⟨o,ho,hm⟩:=zit κ k es L (i+1) h3
   refine⟨o,ho,?_⟩
   cases o with
   |none=>simpa[zI,hk] using hm
   |some q=>
    obtain⟨j,v⟩:=q
    obtain⟨m,x,g1,g2,g3,g4,e',g5,g6,g7⟩:=hm
    refine⟨m+1,x,by omega,by simp;omega,g3,by simpa[zI,hk] using g4,e',by simpa using g5,g6,λv'=>?_⟩
    have:=g7 v'
    simp[setL,hk,h1,h2,this]
theorem zkB{t kt et:TypeId}(ht:P.underlying t=some (.map kt et))(hk:P.underlying kt=some (.int .u32)){κ:IntKind}(hz:∃i,P.info? et=some i/\i.zero=some (.int κ 0)){w:World}{r:Nat}{L:List (Int×Int)}(h:IsMp w r κ L)(k:Int)(ok:Bool) :
  (Instr.lookup t (.map (some r)) (.int .u32 k) ok).run P w =.ok (if ok then .tuple #[.int κ ((zI L k).getD 0),.bool (zI L k).isSome] else .int κ ((zI L k).getD 0)) w:=by
 obtain⟨es,c,hb,hes,_⟩:=h
 obtain⟨i,hi,hzi⟩:=hz
 obtain⟨o,ho,hm⟩:=zit κ k es.toList L 0 hes
 unfold Instr.lookup
 have hck:∀e,(Instr.checkKey e 10000 kt (.int .u32 k)).run P w =.ok () w:=λe=>run_checkKey (d:=.int .u32) hk (by simp[IsKey]) e 9999
 have hg:(getObj r).run P w =.ok (.map es c) w:=Go.MapKept.run_getObj_map hb
 simp only[Sem.run_bind,run_underlying ht,Result.andThen_ok,hg,Sem.run_pure,hck,run_findKey hk ho]
 cases o with
 |none=>
  have hzr:(zeroValue et).run P w =.ok (.int κ 0) w:=by simp[zeroValue,typeInfo,hi,hzi,Result.andThen]
  have hm:zI L k=none:=hm
  simp only[Sem.run_bind,hzr,Result.andThen_ok,Sem.run_pure,hm,Option.getD_none,Option.isSome_none]
 |some q=>
  obtain⟨j,v⟩:=q
  obtain⟨m,x,g1,g2,g3,g4,_⟩:=hm
  simp only[Sem.run_bind,Sem.run_pure,Result.andThen_ok,g3,g4,Option.getD_some,Option.isSome_some]
theorem zmK{t kt et:TypeId}(ht:P.underlying t=some (.map kt et))(hk:P.underlying kt=some (.int .u32)){κ:IntKind}(hz:∃i,P.info? et=some i/\i.zero=some (.int κ 0)){w:World}{r:Nat}{L:List (Int×Int)}(h:IsMp w r κ L){k:Int}{φ:Int->Bool->Prop}
  (hφ:φ ((zI L k).getD 0) (zI L k).isSome):zn5 P t (.map (some r)) (.int .u32 k) (BK.int κ) w φ:=⟨(zI L k).getD 0,(zI L k).isSome,zkB ht hk hz h k true,hφ⟩
theorem zso{t kt et:TypeId}(ht:P.underlying t=some (.map kt et))(hk:P.underlying kt=some (.int .u32)){κ:IntKind}(hz:∃i,P.info? et=some i/\i.zero=some (.int κ 0)){w:World}{r:Nat}{L:List (Int×Int)}(h:IsMp w r κ L){k:Int}{φ:Int->Prop}
  (hφ:φ ((zI L k).getD 0)):zlF P t (.map (some r)) (.int .u32 k) (BK.int κ) w φ:=⟨(zI L k).getD 0,zkB ht hk hz h k false,hφ⟩
theorem zqI{t kt et:TypeId}(ht:P.underlying t=some (.map kt et))(hk:P.underlying kt=some (.int .u32)){κ:IntKind}{w:World}{r:Nat}{L:List (Int×Int)}(h:IsMp w r κ L){k v:Int}{K:World->Prop}
  (hK:∀w',IsMp w' r κ (setL L k v)->Go.Proofs.Chg r w w'->K w'):updW P t (.map (some r)) (.int .u32 k) (.int κ v) w K:=by
 have hlt:=h.lt
 obtain⟨es,c,hb,hes,hstamp,hnd⟩:=h
 obtain⟨o,ho,hm⟩:=zit κ k es.toList L 0 hes
 have hck:∀e,(Instr.checkKey e 10000 kt (.int .u32 k)).run P w =.ok () w:=λe=>run_checkKey (d:=.int .u32) hk (by simp[IsKey]) e 9999
 have hg:(getObj r).run P w =.ok (.map es c) w:=Go.MapKept.run_getObj_map hb
 have chg:∀ob:Obj,Go.Proofs.Chg r w {w with heap:=w.heap.setIfInBounds r ob}:=λob=>⟨rfl,rfl,rfl,by simp,λi hi=>by simp[Array.getElem?_setIfInBounds_ne (Ne.symm hi)]⟩
 unfold updW Instr.mapUpdate
 simp only[Sem.run_bind,run_underlying ht,Result.andThen_ok,hg,Sem.run_pure,hck,run_findKey hk ho]
 cases o with
 |none=>
  simp only[run_setObj_map _ hb]
  refine⟨_,rfl,hK _ ⟨_,_,(heap_set hb).1,?_,λx hx=>?_,?_⟩ (chg _)⟩
  rotate_left
  ·rw[Array.toList_push]at hx
   rcases List.mem_append.1 hx with hx |hx
   ·exact Nat.lt_succ_of_lt (hstamp x hx)
   ·rw[List.mem_singleton.1 hx]
    exact Nat.lt_succ_self c
  ·rw[Array.toList_push,List.map_append]
   refine List.nodup_append.2 ⟨hnd,by simp,?_⟩
   intro a ha b hb e
   obtain⟨x,hx,rfl⟩:=List.mem_map.1 ha
   simp only[List.map_cons,List.map_nil,List.mem_singleton]at hb
   have:=hstamp x hx
   omega
  simp only[Array.toList_push,List.map_append,hes,List.map_cons,List.map_nil]
  have:∀L:List (Int×Int),zI L k=none->setL L k v=L++[(k,v)]:=by
   intro L
   induction L with
   |nil=>intro _;rfl
   |cons p r ih=>
    intro hn
    simp only[zI]at hn
    split at hn
    ·cases hn
    ·rename_i e
     simp only[setL]
     rw[if_neg e,ih hn]
     rfl
  rw[this L hm]
  simp
 |some q=>
  obtain⟨j,v0⟩:=q
  obtain⟨m,x,g1,g2,g3,g4,e,g5,g6,g7⟩:=hm
  have hj:j=m:=by omega
  subst hj
  have hst:(Instr.keyThatStays (((es[j]?).map (·.key)).getD (.int .u32 k)) (.int .u32 k)).run P w =.ok (.int .u32 k) w:=by
   have:((es[j]?).map (·.key)).getD (.int .u32 k) =.int .u32 k:=by
    rw[<-Array.getElem?_toList,g5]
    exact g6
   rw[this]
   unfold Instr.keyThatStays
   rw[if_pos (by simp[Instr.sameBits])]
   rfl
  simp only[Sem.run_bind,hst,Result.andThen_ok,run_setObj_map _ hb]
  have hbn:(es.modify j λe=>{e with key:=.int .u32 k,val:=.int κ v}).toList.map (·.born)=es.toList.map (·.born):=by
   rw[Array.toList_modify]
   apply List.ext_getElem
   ·simp
   ·intro n q1 q2
    simp only[List.getElem_map,List.getElem_modify]
    split<;>rfl
  refine⟨_,rfl,hK _ ⟨_,_,(heap_set hb).1,?_,λx hx=>?_,by rw[hbn];exact hnd⟩ (chg _)⟩
  rotate_left
  ·have:x.born∈es.toList.map (·.born):=by rw[<-hbn];exact List.mem_map.2 ⟨x,hx,rfl⟩
   obtain⟨y,hy,e⟩:=List.mem_map.1 this
   rw[<-e]
   exact hstamp y hy
  have:=g7 v
  rw[<-this]
  congr 1
  rw[Array.toList_modify]
end Go.Gk
