/- FlowLives, part 10; made small by a program. -/
import Derived.Test.YtgkgagmdkgdjdaaGreatProg
import Derived.Test.YtgkgagmdkgdjdaaGreatPFlowLives9
namespace Go.Proofs
open Go.Gk
set_option linter.unusedVariables false
set_option maxRecDepth 100000
def Yq:Ann:=(.q (.q (.q (.seq (some ⟨[1,2,5,6,7,8],[]⟩) Z10 Z1J))))
def Yn(p0:(Int×Int×Sl×Unit))(p1:Int)(R:VWP)(w:World):Prop:=Nw (w.alloc (.cells #[zu p0.1,zu p0.2.1,p0.2.2.1.zw] 25)) λw1=>da w1 (zB w) λx1 x2 x3=>di 6 #[.agg #[zu x1,zu x2,x3.zw],zu p1] w1 λx5 x6 w2=>de w2 #[zi 0,zi 0] 29 (zi x6.1) (zi x6.2.1) λw5=>da w5 (zB w) λx7 x8 x9=>dx54 8 #[.agg #[zu x7,zu x8,x9.zw]] w5 λx11 w6=>di 7 #[.agg #[zu x11.1,zu x11.2.1,x11.2.2.1.zw],zu p1] w6 λx13 x14 w7=>de w7 #[zi 0,zi 0] 29 (zi x14.1) (zi x14.2.1) λw10=>zl (S:=Unit) (λm15=>db w10 (zB w7) λx17 x18=>db w10 (zB w2) λx19 x20=>ifB (!(x17==x19&&(x18==x20&&true))) (R (.bool false) w10) (dz 9 #[x13.zw,x5.zw] w10 λx22 w11=>ifB (!x22) (R (.bool false) w11) (m15 () w11))) (λs16 w12=>cR 10 #[x13.zw] w12 λv23 w13=>v23=(.tuple #[])/\da w13 (zB w) λx24 x25 x26=>dx54 8 #[.agg #[zu x24,zu x25,x26.zw]] w13 λx28 w14=>di 7 #[.agg #[zu x28.1,zu x28.2.1,x28.2.2.1.zw],zu p1] w14 λx30 x31 w15=>df w15 (zB w7) (zi x31.1) (zi x31.2.1) λw17=>db w17 (zB w7) λx32 x33=>db w17 (zB w2) λx34 x35=>ifB (x32==x34&&(x33==x35&&true)) (dz 9 #[x30.zw,x5.zw] w17 λx37 w18=>R (.bool x37) w18) (R (.bool false) w17))
theorem zce(p0)(p1)(R)(w)(h:Yn p0 p1 R w):cC 3 #[.agg #[.int .u32 p0.1,.int .u32 p0.2.1,.slice p0.2.2.1.a p0.2.2.1.l p0.2.2.1.c],.int .u32 p1] w R:=lwC Yq Tryz.func3 h
def zbX:Ann:=(.q (.q (.seq none Z10 (.seq none (.q (.one (.loop ⟨[1,2,5,6],[(8,(.b (.int .i64)))]⟩ (.seq none Z13 (.seq none (.one (.q (.q (.q (.cond (.q (.seq none (.q (.one (.loop ⟨[2,5,9,10],[(11,(.b .slice)),(12,(.b (.int .u32)))]⟩ (.seq none Z13 (.seq (some ⟨[2,5,9,10,12],[(11,(.b .slice))]⟩) Z1S .nil))))) Z11)) .nil))))) .nil))))) Z11))))
def zbI(p0:(Int×Int×Sl×Unit))(p1:Int)(R:VWP)(w:World):Prop:=Nw (w.alloc (.cells #[zu p0.1,zu p0.2.1,p0.2.2.1.zw] 25)) λw1=>Nw (w1.alloc (.cells #[zi 0,zi 0] 29)) λw2=>da w2 (zB w) λx1 x2 x3=>di 21 #[.agg #[zu x1,zu x2,x3.zw]] w2 λx5 x6 w3=>de w3 #[zi 0,zi 0] 29 (zi x6.1) (zi x6.2.1) λw6=>ldI w6 (zB w3) .i64 λx7=>ifB (x7 !=0) (db w6.drew (zB w3) λx8 x9=>df w6.drew (zB w1) (zi x8) (zi x9) λw8=>db w8 (zB w1) λx10 x11=>R (.tuple #[.slice none 0 0,.agg #[zi x10,zi x11]]) w8) (zk (S:=Int×Unit) (λs12 w9 n13=>ifB (decide (s12.1<(x5.l:Int))) ((0<=s12.1/\s12.1<(x5.l:Int))/\zc x5.a λa14=>dd w9 (a14.add (s12.1.toNat *11)) λx15 x16 x17 x18 x19 x20 x21 x22 x23 x24 x25=>dx55 w9 #[zu 0,zu 0,.slice none 0 0,.slice none 0 0,zi 0,zu 0,zi 0,.slice none 0 0,.slice none 0 0,zi 0,.slice none 0 0] 69 (zu x15) (zu x16) (x17.zw) (x18.zw) (zi x19) (zu x20) (zi x21) (x22.zw) (x23.zw) (zi x24) (x25.zw) λw21=>dd w21 (zB w9) λx26 x27 x28 x29 x30 x31 x32 x33 x34 x35 x36=>dl 22 #[.agg #[zu x26,zu x27,x28.zw,x29.zw,zi x30,zu x31,zi x32,x33.zw,x34.zw,zi x35,x36.zw],zu p1] w21 λx38 w22=>ifB (decide (x38≥(0:Int))) (zk (S:=Sl×Int×Unit) (λs39 w23 n40=>ldI w23 ((zB w).add 1) .u32 λx41=>ifB (decide (s39.2.1<x41)) (zl (S:=Sl×Unit) (λm42=>dd w23 (zB w9) λx44 x45 x46 x47 x48 x49 x50 x51 x52 x53 x54=>dz 23 #[.agg #[zu x44,zu x45,x46.zw,x47.zw,zi x48,zu x49,zi x50,x51.zw,x52.zw,zi x53,x54.zw],zu s39.2.1] w23 λx56 w24=>ifB x56 (dd w24 (zB w9) λx57 x58 x59 x60 x61 x62 x63 x64 x65 x66 x67=>dz 24 #[.agg #[zu x57,zu x58,x59.zw,x60.zw,zi x61,zu x62,zi x63,x64.zw,x65.zw,zi x66,x67.zw],zi x38,zu s39.2.1] w24 λx69 w25=>ifB x69 (Nw (w25.alloc (.cells #[zu s39.2.1] 22)) λw26=>zp Tryz.prog 26 (s39.1.zw) (.slice (some (zB w25)) 1 1) w26 λr70 w27=>m42 (r70,()) w27) (m42 (s39.1,()) w25)) (m42 (s39.1,()) w24)) (λs43 w28=>n40 (s43.1,(IntKind.u32.wrap (s39.2.1+(1:Int))),()) w28)) (df w23 (zB w1) (zi 0) (zi 0) λw30=>db w30 (zB w1) λx71 x72=>R (.tuple #[s39.1.zw,.agg #[zi x71,zi x72]]) w30)) ((Sl.mk none 0 0),1,()) w22) (n13 ((IntKind.i64.wrap (s12.1+(1:Int))),()) w22)) (df w9 (zB w1) (zi 3) (zi 0) λw32=>db w32 (zB w1) λx73 x74=>R (.tuple #[.slice none 0 0,.agg #[zi x73,zi x74]]) w32)) (0,()) w6)
theorem zeB(p0)(p1)(R)(w)(h:zbI p0 p1 R w):cC 6 #[.agg #[.int .u32 p0.1,.int .u32 p0.2.1,.slice p0.2.2.1.a p0.2.2.1.l p0.2.2.1.c],.int .u32 p1] w R:=lwC zbX Tryz.func6 h
def zks:Ann:=(.q (.q (.seq none Z10 (.seq none (.q (.one (.loop ⟨[1,5,21,22],[(23,(.b (.int .i64)))]⟩ (.q (.seq none .c (.seq (some ⟨[1,5,21,22,23],[]⟩) (.one (.q Z1E)) .nil)))))) Z11))))
def zko(p0:(Int×Int×Sl×Unit))(p1:Int)(R:VWP)(w:World):Prop:=Nw (w.alloc (.cells #[zu p0.1,zu p0.2.1,p0.2.2.1.zw] 25)) λw1=>Nw (w1.alloc (.cells #[zi 0,zi 0] 29)) λw2=>da w2 (zB w) λx1 x2 x3=>di 25 #[.agg #[zu x1,zu x2,x3.zw]] w2 λx5 x6 w3=>de w3 #[zi 0,zi 0] 29 (zi x6.1) (zi x6.2.1) λw6=>ldI w6 (zB w3) .i64 λx7=>ifB (x7 !=0) (db w6.drew (zB w3) λx8 x9=>df w6.drew (zB w1) (zi x8) (zi x9) λw8=>db w8 (zB w1) λx10 x11=>R (.tuple #[.slice none 0 0,.agg #[zi x10,zi x11]]) w8) (zk (S:=Int×Unit) (λs12 w9 n13=>ifB (decide (s12.1<(x5.l:Int))) (zl (S:=Unit) (λm14=>(0<=s12.1/\s12.1<(x5.l:Int))/\zc x5.a λa16=>ldP w9 (a16.add s12.1.toNat) λx17=>zc x17 λa18=>ldM w9 (a18.add 9) λx19=>zhr Tryz.prog 80 (.map x19) (zu p1) [(.int .i64),(.int .i64),(.int .i64),.bool] w9 λ(x20:(Int×Int×Int×Bool×Unit)) (b21:Bool)=>dn w9 #[zi 0,zi 0,zi 0,.bool false] 78 (zi x20.1) (zi x20.2.1) (zi x20.2.2.1) (.bool x20.2.2.2.1) λw14=>ifB b21 (ldB w14.drew ((zB w9).add 3) λx22=>ifB x22 (ldI w14.drew (zB w9) .i64 λx23=>zc x17 λa24=>ldI w14.drew (a24.add 3) .i64 λx25=>ifB (x23==x25) (ldI w14.drew.drew ((zB w9).add 1) .i64 λx26=>dk 28 #[.pointer x17] w14.drew.drew λx28 w15=>w15.cell? ((zB w9).add 1)=some (zi x26)/\(0<=x26/\x26<(x28.l:Int))/\zc x28.a λa29=>ldM w15 (a29.add x26.toNat) λx30=>dQ 27 #[.map x30] w15 λx32 w16=>dk 26 #[x32] w16 λx34 w17=>df w17 (zB w1) (zi 0) (zi 0) λw19=>db w19 (zB w1) λx35 x36=>R (.tuple #[x34.zw,.agg #[zi x35,zi x36]]) w19) (m14 () w14.drew)) (m14 () w14.drew)) (m14 () w14.drew)) (λs15 w20=>n13 ((IntKind.i64.wrap (s12.1+(1:Int))),()) w20)) (df w9 (zB w1) (zi 3) (zi 0) λw22=>db w22 (zB w1) λx37 x38=>R (.tuple #[.slice none 0 0,.agg #[zi x37,zi x38]]) w22)) (0,()) w6)
theorem zkN(p0)(p1)(R)(w)(h:zko p0 p1 R w):cC 7 #[.agg #[.int .u32 p0.1,.int .u32 p0.2.1,.slice p0.2.2.1.a p0.2.2.1.l p0.2.2.1.c],.int .u32 p1] w R:=lwC zks Tryz.func7 h
def ZG:Ann:=(.q (.q (.q (.q (.seq none (.one (.loop ⟨[2,3,7],[(8,(.b .bool))]⟩ (.seq none Z13 (.one (.q (.q (.one (.loop ⟨[2,3,7],[(8,(.b .bool)),(9,(.b (.int .i64)))]⟩ (.seq none Z13 (.seq none (.one (.q (.one (.loop ⟨[2,3,7,9],[(8,(.b .bool)),(10,(.b (.int .i64)))]⟩ (.seq none Z13 (.seq (some ⟨[2,3,7,9,10],[(8,(.b .bool))]⟩) Z1a .nil)))))) .nil)))))))))) (.seq none (.q (.one (.loop ⟨[2,3,7],[(12,(.b (.int .i64)))]⟩ (.seq none Z13 (.seq (some ⟨[2,3,7,12],[]⟩) Z1L .nil))))) Z11))))))
def ZF(p0:(Int×Int×Sl×Sl×Int×Int×Int×Sl×Sl×Int×Sl×Unit))(p1:Int)(p2:Int)(R:VWP)(w:World):Prop:=Nw (w.alloc (.cells #[zu p0.1,zu p0.2.1,p0.2.2.1.zw,p0.2.2.2.1.zw,zi p0.2.2.2.2.1,zu p0.2.2.2.2.2.1,zi p0.2.2.2.2.2.2.1,p0.2.2.2.2.2.2.2.1.zw,p0.2.2.2.2.2.2.2.2.1.zw,zi p0.2.2.2.2.2.2.2.2.2.1,p0.2.2.2.2.2.2.2.2.2.2.1.zw] 69)) λw1=>ldS w1 ((zB w).add 10) λx1=>(0<=(x1.l:Int)/\(x1.l:Int)<=(x1.l:Int)/\1*(x1.l:Int)<=281474976710656/\(x1.l:Int)<=9223372036854775807)/\Nw (w1.alloc (.cells (madeCells #[.bool false] (x1.l*1)) 4)) λw2=>dd w2 (zB w) λx2 x3 x4 x5 x6 x7 x8 x9 x10 x11 x12=>dz 54 #[.agg #[zu x2,zu x3,x4.zw,x5.zw,zi x6,zu x7,zi x8,x9.zw,x10.zw,zi x11,x12.zw],zi p1,zu p2] w2 λx14 w3=>(0<=p1/\p1<(x1.l:Int))/\Wr w3 ((zB w1).add p1.toNat)/\Nw (w3.setCell ((zB w1).add p1.toNat) (.bool (!x14))) λw4=>zk (S:=Bool×Unit) (λs15 w5 n16=>ifB s15.1 (zk (S:=Bool×Int×Unit) (λs17 w6 n18=>ifB (decide (s17.2.1<(x1.l:Int))) (zk (S:=Bool×Int×Unit) (λs19 w7 n20=>ldS w7 ((zB w).add 10) λx21=>(0<=s17.2.1/\s17.2.1<(x21.l:Int))/\zc x21.a λa22=>ldS w7 (a22.add s17.2.1.toNat) λx23=>ifB (decide (s19.2.1<(x23.l:Int))) (zl (S:=Bool×Unit) (λm24=>ldS w7 ((zB w).add 10) λx26=>(0<=s17.2.1/\s17.2.1<(x26.l:Int))/\zc x26.a λa27=>ldS w7 (a27.add s17.2.1.toNat) λx28=>(0<=s19.2.1/\s19.2.1<(x28.l:Int))/\zc x28.a λa29=>ldI w7 (a29.add s19.2.1.toNat) .i64 λx30=>(0<=s17.2.1/\s17.2.1<(x1.l:Int))/\ldB w7 ((zB w1).add s17.2.1.toNat) λx31=>ifB x31 ((0<=x30/\x30<(x1.l:Int))/\ldB w7 ((zB w1).add x30.toNat) λx32=>ifB (!x32) (dd w7 (zB w) λx33 x34 x35 x36 x37 x38 x39 x40 x41 x42 x43=>dz 54 #[.agg #[zu x33,zu x34,x35.zw,x36.zw,zi x37,zu x38,zi x39,x40.zw,x41.zw,zi x42,x43.zw],zi x30,zu p2] w7 λx45 w8=>ifB (!x45) ((0<=x30/\x30<(x1.l:Int))/\Wr w8 ((zB w1).add x30.toNat)/\Nw (w8.setCell ((zB w1).add x30.toNat) (.bool true)) λw9=>m24 (true,()) w9) (m24 (s19.1,()) w8)) (m24 (s19.1,()) w7)) (m24 (s19.1,()) w7)) (λs25 w10=>n20 (s25.1,(IntKind.i64.wrap (s19.2.1+(1:Int))),()) w10)) (n18 (s19.1,(IntKind.i64.wrap (s17.2.1+(1:Int))),()) w7)) (s17.1,0,()) w6) (n16 (s17.1,()) w6)) (false,0,()) w5) (zk (S:=Int×Unit) (λs46 w11 n47=>ifB (decide (s46.1<(x1.l:Int))) (zl (S:=Unit) (λm48=>(0<=s46.1/\s46.1<(x1.l:Int))/\ldB w11 ((zB w1).add s46.1.toNat) λx50=>ifB x50 (dd w11 (zB w) λx51 x52 x53 x54 x55 x56 x57 x58 x59 x60 x61=>dz 55 #[.agg #[zu x51,zu x52,x53.zw,x54.zw,zi x55,zu x56,zi x57,x58.zw,x59.zw,zi x60,x61.zw],zi s46.1,zu p2] w11 λx63 w12=>ifB x63 (R (.bool true) w12) (m48 () w12)) (m48 () w11)) (λs49 w13=>n47 ((IntKind.i64.wrap (s46.1+(1:Int))),()) w13)) (R (.bool false) w11)) (0,()) w5)) (true,()) w4
theorem zaF(p0)(p1)(p2)(R)(w)(h:ZF p0 p1 p2 R w):cC 24 #[.agg #[.int .u32 p0.1,.int .u32 p0.2.1,.slice p0.2.2.1.a p0.2.2.1.l p0.2.2.1.c,.slice p0.2.2.2.1.a p0.2.2.2.1.l p0.2.2.2.1.c,.int .i64 p0.2.2.2.2.1,.int .u32 p0.2.2.2.2.2.1,.int .i64 p0.2.2.2.2.2.2.1,.slice p0.2.2.2.2.2.2.2.1.a p0.2.2.2.2.2.2.2.1.l p0.2.2.2.2.2.2.2.1.c,.slice p0.2.2.2.2.2.2.2.2.1.a p0.2.2.2.2.2.2.2.2.1.l p0.2.2.2.2.2.2.2.2.1.c,.int .i64 p0.2.2.2.2.2.2.2.2.2.1,.slice p0.2.2.2.2.2.2.2.2.2.2.1.a p0.2.2.2.2.2.2.2.2.2.2.1.l p0.2.2.2.2.2.2.2.2.2.2.1.c],.int .i64 p1,.int .u32 p2] w R:=lwC ZG Tryz.func24 h
def zeL:Ann:=(.q (.one (.q (.q (.q (.one (.loop ⟨[0,4,5],[]⟩ (.one (.seq none (.q (.one (.loop ⟨[0,4,5,20],[(21,(.b (.int .i64)))]⟩ (.q (.seq none .c (.seq none (.one (.q (.q (.one (.loop ⟨[0,4,5,6,20,21,28],[]⟩ (.q (.seq none .c Z1h))))))) .nil)))))) (.q (.seq none (.q (.one (.loop ⟨[0,4,5,40],[(8,(.b .bool)),(41,(.b (.int .i64)))]⟩ (.q (.seq none .c (.seq none (.one (.q (.q (.one (.loop ⟨[0,4,5,9,40,41,49,50],[(8,(.b .bool)),(51,(.b (.int .i64)))]⟩ (.q (.seq none .c (.seq none (.one (.q (.q (.one (.loop ⟨[0,4,5,9,40,41,49,50,51,59],[(8,(.b .bool))]⟩ (.q (.seq none .c Z1a))))))) .nil)))))))) .nil)))))) (.seq none Z13 Z11))))))))))))
def zeE(p0:Option Addr)(R:VWP)(w:World):Prop:=dy 62 #[.pointer p0] w λx2 x3 w1=>zk (S:=Unit) (λs4 w2 n5=>zk (S:=Int×Unit) (λs6 w3 n7=>ifB (decide (s6.1<(x2.l:Int))) ((0<=s6.1/\s6.1<(x3.l:Int))/\zc x3.a λa8=>ldM w3 (a8.add s6.1.toNat) λx9=>rngW Tryz.prog 88 (.map x9) w3 λw4=>zk (S:=Unit) (λs10 w5 n11=>nxtM Tryz.prog (.pointer (some (zB w3))) 0 w5 (λx12 x13 w6=>entW Tryz.prog (.pointer (some (zB w3))) (BK.int .u32) BK.raw w6 λ(x14:Int) (x15:Value)=>(0<=s6.1/\s6.1<(x2.l:Int))/\zc x2.a λa16=>ldM w6 (a16.add s6.1.toNat) λx17=>delS Tryz.prog #[88,22] (.map x17) (zu x14) w6 λw8=>n11 () w8) (λw7=>n7 ((IntKind.i64.wrap (s6.1+(1:Int))),()) w7)) () w4) (zk (S:=Bool×Int×Unit) (λs18 w9 n19=>ifB (decide (s18.2.1<(x2.l:Int))) (zc p0 λa20=>ldP w9 (a20.add 10) λx21=>dk 63 #[.pointer x21,zi s18.2.1] w9 λx23 w10=>zk (S:=Bool×Int×Unit) (λs24 w11 n25=>ifB (decide (s24.2.1<(x23.l:Int))) ((0<=s24.2.1/\s24.2.1<(x23.l:Int))/\zc x23.a λa26=>ldI w11 (a26.add s24.2.1.toNat) .i64 λx27=>(0<=x27/\x27<(x2.l:Int))/\zc x2.a λa28=>ldM w11 (a28.add x27.toNat) λx29=>rngW Tryz.prog 88 (.map x29) w11 λw12=>zk (S:=Bool×Unit) (λs30 w13 n31=>nxtM Tryz.prog (.pointer (some (zB w11))) 0 w13 (λx32 x33 w14=>entW Tryz.prog (.pointer (some (zB w11))) (BK.int .u32) BK.raw w14 λ(x34:Int) (x35:Value)=>(0<=s18.2.1/\s18.2.1<(x3.l:Int))/\zc x3.a λa36=>ldM w14 (a36.add s18.2.1.toNat) λx37=>zlF Tryz.prog 88 (.map x37) (zu x34) (BK.int .i64) w14 λ(x38:Int)=>ifB (x38==0) ((0<=s18.2.1/\s18.2.1<(x2.l:Int))/\zc x2.a λa39=>ldM w14 (a39.add s18.2.1.toNat) λx40=>zlF Tryz.prog 88 (.map x40) (zu x34) (BK.int .i64) w14 λ(x41:Int)=>ifB (x41==0) ((0<=s18.2.1/\s18.2.1<(x2.l:Int))/\zc x2.a λa42=>ldM w14 (a42.add s18.2.1.toNat) λx43=>updW Tryz.prog 88 (.map x43) (zu x34) (zi 1) w14 λw16=>n31 (true,()) w16) (n31 (s30.1,()) w14)) (n31 (s30.1,()) w14)) (λw15=>n25 (s30.1,(IntKind.i64.wrap (s24.2.1+(1:Int))),()) w15)) (s24.1,()) w12) (n19 (s24.1,(IntKind.i64.wrap (s18.2.1+(1:Int))),()) w11)) (s18.1,0,()) w10) (ifB s18.1 (n5 () w9) (R (x2.zw) w9))) (false,0,()) w3)) (0,()) w2) () w1
theorem zgO(p0)(R)(w)(h:zeE p0 R w):cC 28 #[.pointer p0] w R:=lwC zeL Tryz.func28 h
def ZW:Ann:=Z16
def ZR(p0:(Int×Int×Sl×Sl×Int×Int×Int×Sl×Sl×Int×Sl×Unit))(p1:Int)(p2:Int)(R:VWP)(w:World):Prop:=Nw (w.alloc (.cells #[zu p0.1,zu p0.2.1,p0.2.2.1.zw,p0.2.2.2.1.zw,zi p0.2.2.2.2.1,zu p0.2.2.2.2.2.1,zi p0.2.2.2.2.2.2.1,p0.2.2.2.2.2.2.2.1.zw,p0.2.2.2.2.2.2.2.2.1.zw,zi p0.2.2.2.2.2.2.2.2.2.1,p0.2.2.2.2.2.2.2.2.2.2.1.zw] 69)) λw1=>dd w1.drew (zB w) λx1 x2 x3 x4 x5 x6 x7 x8 x9 x10 x11=>dd w1.drew (zB w) λx12 x13 x14 x15 x16 x17 x18 x19 x20 x21 x22=>dl 52 #[.agg #[zu x12,zu x13,x14.zw,x15.zw,zi x16,zu x17,zi x18,x19.zw,x20.zw,zi x21,x22.zw],zu p2] w1.drew λx24 w2=>w2.cell? ((zB w).add 0)=some (zu x1)/\w2.cell? ((zB w).add 1)=some (zu x2)/\w2.cell? ((zB w).add 2)=some (x3.zw)/\w2.cell? ((zB w).add 3)=some (x4.zw)/\w2.cell? ((zB w).add 4)=some (zi x5)/\w2.cell? ((zB w).add 5)=some (zu x6)/\w2.cell? ((zB w).add 6)=some (zi x7)/\w2.cell? ((zB w).add 7)=some (x8.zw)/\w2.cell? ((zB w).add 8)=some (x9.zw)/\w2.cell? ((zB w).add 9)=some (zi x10)/\w2.cell? ((zB w).add 10)=some (x11.zw)/\dl 91 #[.agg #[zu x1,zu x2,x3.zw,x4.zw,zi x5,zu x6,zi x7,x8.zw,x9.zw,zi x10,x11.zw],zi x24] w2 λx26 w3=>R (.bool (x26==p1)) w3
theorem zby(p0)(p1)(p2)(R)(w)(h:ZR p0 p1 p2 R w):cC 54 #[.agg #[.int .u32 p0.1,.int .u32 p0.2.1,.slice p0.2.2.1.a p0.2.2.1.l p0.2.2.1.c,.slice p0.2.2.2.1.a p0.2.2.2.1.l p0.2.2.2.1.c,.int .i64 p0.2.2.2.2.1,.int .u32 p0.2.2.2.2.2.1,.int .i64 p0.2.2.2.2.2.2.1,.slice p0.2.2.2.2.2.2.2.1.a p0.2.2.2.2.2.2.2.1.l p0.2.2.2.2.2.2.2.1.c,.slice p0.2.2.2.2.2.2.2.2.1.a p0.2.2.2.2.2.2.2.2.1.l p0.2.2.2.2.2.2.2.2.1.c,.int .i64 p0.2.2.2.2.2.2.2.2.2.1,.slice p0.2.2.2.2.2.2.2.2.2.2.1.a p0.2.2.2.2.2.2.2.2.2.2.1.l p0.2.2.2.2.2.2.2.2.2.2.1.c],.int .i64 p1,.int .u32 p2] w R:=lwC ZW Tryz.func54 h
def Ys:Ann:=(.q (.seq none (.q (.one (.loop ⟨[1,2,3],[(7,(.b (.int .i64)))]⟩ (.seq none Z13 (.seq (some ⟨[1,2,3,7],[]⟩) Z1L .nil))))) (.seq none (.q (.one (.loop ⟨[1,2,3],[(8,(.b (.int .i64)))]⟩ (.seq none Z13 (.seq (some ⟨[1,2,3,8],[]⟩) (.one (.q (.q (.one (.loop ⟨[1,2,3,8,9],[(10,(.b (.int .i64)))]⟩ (.seq (some ⟨[1,2,3,8,9,10],[]⟩) Z13 (.seq (some ⟨[1,2,3,8,9,10],[]⟩) Z1L .nil))))))) .nil))))) Z11)))
def Yp(p0:(Int×Int×Sl×Sl×Int×Int×Int×Sl×Sl×Int×Sl×Unit))(p1:Int)(p2:Int)(R:VWP)(w:World):Prop:=Nw (w.alloc (.cells #[zu p0.1,zu p0.2.1,p0.2.2.1.zw,p0.2.2.2.1.zw,zi p0.2.2.2.2.1,zu p0.2.2.2.2.2.1,zi p0.2.2.2.2.2.2.1,p0.2.2.2.2.2.2.2.1.zw,p0.2.2.2.2.2.2.2.2.1.zw,zi p0.2.2.2.2.2.2.2.2.2.1,p0.2.2.2.2.2.2.2.2.2.2.1.zw] 69)) λw1=>ldS w1 (((zB w).add 5).add 3) λx1=>(0<=p1/\p1<(x1.l:Int))/\zc x1.a λa2=>ldI w1 ((a2.add (p1.toNat *3)).add 1) .i64 λx3=>zk (S:=Int×Unit) (λs4 w2 n5=>ldS w2 (((zB w).add 5).add 3) λx6=>(0<=p1/\p1<(x6.l:Int))/\zc x6.a λa7=>ldI w2 ((a7.add (p1.toNat *3)).add 2) .i64 λx8=>ifB (decide (s4.1<x8)) (zl (S:=Unit) (λm9=>ldS w2 ((zB w).add 2) λx11=>(0<=s4.1/\s4.1<(x11.l:Int))/\zc x11.a λa12=>ldI w2 (a12.add (s4.1.toNat *4)) .u16 λx13=>ifB (x13 !=245) (ldS w2 ((zB w).add 2) λx14=>(0<=s4.1/\s4.1<(x14.l:Int))/\zc x14.a λa15=>dm w2 (a15.add (s4.1.toNat *4)) λx16 x17 x18 x19=>dz 92 #[.agg #[zh x16,zu x17,zu x18,x19.zw],zu p2] w2 λx21 w3=>ifB x21 (R (.bool true) w3) (m9 () w3)) (m9 () w2)) (λs10 w4=>n5 ((IntKind.i64.wrap (s4.1+(1:Int))),()) w4)) (ldI w2 (((zB w).add 5).add 1) .i64 λx22=>zk (S:=Int×Unit) (λs23 w5 n24=>ldI w5 (((zB w).add 5).add 4) .i64 λx25=>ifB (decide (s23.1<x25)) (zl (S:=Unit) (λm26=>ldS w5 ((zB w).add 2) λx28=>(0<=s23.1/\s23.1<(x28.l:Int))/\zc x28.a λa29=>dm w5 (a29.add (s23.1.toNat *4)) λx30 x31 x32 x33=>dn w5 #[zh 0,zu 0,zu 0,.slice none 0 0] 50 (zh x30) (zu x31) (zu x32) (x33.zw) λw10=>zk (S:=Int×Unit) (λs34 w11 n35=>zl (S:=Unit) (λm36=>ldI w11 (zB w5) .u16 λx38=>ifB (x38==245) (ldS w11 ((zB w5).add 3) λx39=>ifB (decide (s34.1<(x39.l:Int))) (m36 () w11) (m26 () w11)) (m26 () w11)) (λs37 w12=>zl (S:=Unit) (λm40=>ldS w12.drew ((zB w5).add 3) λx42=>(0<=s34.1/\s34.1<(x42.l:Int))/\zc x42.a λa43=>ldI w12.drew ((a43.add (s34.1.toNat *3)).add 1) .u32 λx44=>ifB (x44==p2) (ldS w12.drew ((zB w5).add 3) λx45=>(0<=(IntKind.i64.wrap (s34.1+(1:Int)))/\(IntKind.i64.wrap (s34.1+(1:Int)))<(x45.l:Int))/\zc x45.a λa46=>ldI w12.drew ((a46.add ((Int.toNat (IntKind.i64.wrap (s34.1+(1:Int))))*3)).add 1) .u32 λx47=>ldS w12.drew (((zB w).add 5).add 3) λx48=>(0<=p1/\p1<(x48.l:Int))/\zc x48.a λa49=>ldI w12.drew (a49.add (p1.toNat *3)) .u32 λx50=>ifB (x47==x50) (R (.bool true) w12.drew) (m40 () w12.drew)) (m40 () w12.drew)) (λs41 w13=>n35 ((IntKind.i64.wrap (s34.1+(2:Int))),()) w13))) (0,()) w10) (λs27 w14=>n24 ((IntKind.i64.wrap (s23.1+(1:Int))),()) w14)) (R (.bool false) w5)) (x22,()) w2)) (x3,()) w1
theorem zcf(p0)(p1)(p2)(R)(w)(h:Yp p0 p1 p2 R w):cC 55 #[.agg #[.int .u32 p0.1,.int .u32 p0.2.1,.slice p0.2.2.1.a p0.2.2.1.l p0.2.2.1.c,.slice p0.2.2.2.1.a p0.2.2.2.1.l p0.2.2.2.1.c,.int .i64 p0.2.2.2.2.1,.int .u32 p0.2.2.2.2.2.1,.int .i64 p0.2.2.2.2.2.2.1,.slice p0.2.2.2.2.2.2.2.1.a p0.2.2.2.2.2.2.2.1.l p0.2.2.2.2.2.2.2.1.c,.slice p0.2.2.2.2.2.2.2.2.1.a p0.2.2.2.2.2.2.2.2.1.l p0.2.2.2.2.2.2.2.2.1.c,.int .i64 p0.2.2.2.2.2.2.2.2.2.1,.slice p0.2.2.2.2.2.2.2.2.2.2.1.a p0.2.2.2.2.2.2.2.2.2.2.1.l p0.2.2.2.2.2.2.2.2.2.2.1.c],.int .i64 p1,.int .u32 p2] w R:=lwC Ys Tryz.func55 h
def zeM:Ann:=(.q (.seq none (.q (.one (.loop ⟨[1,2,20],[(3,(.b .slice)),(21,(.b (.int .i64)))]⟩ Z15))) (.q (.seq none (.q (.one (.loop ⟨[1,2,3,4,37,38],[(39,(.b (.int .i64)))]⟩ (.q (.seq none .c (.seq none (.one (.q (.q (.one (.loop ⟨[1,2,3,4,5,37,38,39,54,55],[(56,(.b (.int .i64)))]⟩ (.q (.seq none .c (.seq (some ⟨[1,2,3,4,5,37,38,39,54,55,56],[]⟩) (.one (.q (.q (.seq none (.q (.cond (.seq none (.q (.one (.loop ⟨[1,2,3,4,5,37,38,39,54,55,56,70,71],[(72,(.b (.int .i64)))]⟩ Z15))) .nil) .nil)) (.q (.q (.one (.loop ⟨[1,2,3,4,5,12,37,38,39,54,55,56,86,87],[(88,(.b (.int .i64)))]⟩ Z15)))))))) .nil)))))))) .nil)))))) Z11))))
def zeF(p0:Option Addr)(R:VWP)(w:World):Prop:=Nw (w.alloc (.cells #[.pointer p0] 76)) λw1=>Nw (w1.alloc (.cells #[.slice none 0 0] 89)) λw2=>ldP w2 (zB w) λx1=>zc x1 λa2=>ldS w2 ((a2.add 4).add 3) λx3=>zk (S:=Sl×Int×Unit) (λs4 w3 n5=>ifB (decide (s4.2.1<(x3.l:Int))) (ldS w3 (zB w1) λx6=>Nw (w3.alloc (.map #[] 0)) λw4=>Nw (w4.alloc (.cells #[.map (some w3.heap.size)] 88)) λw5=>zp Tryz.prog 89 (x6.zw) (.slice (some (zB w4)) 1 1) w5 λr7 w6=>Wr w6 (zB w1)/\Nw (w6.setCell (zB w1) (r7.zw)) λw7=>Nw (w7.alloc (.map #[] 0)) λw8=>Nw (w8.alloc (.cells #[.map (some w7.heap.size)] 88)) λw9=>zp Tryz.prog 89 (s4.1.zw) (.slice (some (zB w8)) 1 1) w9 λr8 w10=>n5 (r8,(IntKind.i64.wrap (s4.2.1+(1:Int))),()) w10) (ldP w3 (zB w) λx9=>zc x9 λa10=>ldS w3 ((a10.add 4).add 3) λx11=>zk (S:=Int×Unit) (λs12 w11 n13=>ifB (decide (s12.1<(x11.l:Int))) ((0<=s12.1/\s12.1<(x11.l:Int))/\zc x11.a λa14=>ds w11 (a14.add (s12.1.toNat *3)) λx15 x16 x17=>dt w11 #[zu 0,zi 0,zi 0] 42 (zu x15) (zi x16) (zi x17) λw15=>ldP w15.drew (zB w) λx18=>zc x18 λa19=>ldS w15.drew (a19.add 2) λx20=>ldI w15.drew ((zB w11).add 1) .i64 λx21=>ldI w15.drew ((zB w11).add 2) .i64 λx22=>(0<=(IntKind.i64.wrap (x21+(1:Int)))/\(IntKind.i64.wrap (x21+(1:Int)))<=x22/\x22<=(x20.c:Int))/\zk (S:=Int×Unit) (λs23 w16 n24=>ifB (decide (s23.1<(((x22.toNat-(Int.toNat (IntKind.i64.wrap (x21+(1:Int))))):Nat):Int))) (zl (S:=Unit) (λm25=>(0<=s23.1/\s23.1<(((x22.toNat-(Int.toNat (IntKind.i64.wrap (x21+(1:Int))))):Nat):Int))/\zc (if x20.c=(Int.toNat (IntKind.i64.wrap (x21+(1:Int)))) then x20.a else Option.map (λa=>a.add ((Int.toNat (IntKind.i64.wrap (x21+(1:Int))))*4)) x20.a) λa27=>dm w16 (a27.add (s23.1.toNat *4)) λx28 x29 x30 x31=>dn w16 #[zh 0,zu 0,zu 0,.slice none 0 0] 50 (zh x28) (zu x29) (zu x30) (x31.zw) λw21=>(0<=s12.1/\s12.1<(s4.1.l:Int))/\zc s4.1.a λa32=>ldM w21.drew (a32.add s12.1.toNat) λx33=>ldI w21.drew ((zB w16).add 2) .u32 λx34=>updW Tryz.prog 88 (.map x33) (zu x34) (zi 1) w21.drew λw22=>ldI w22 (zB w16) .u16 λx35=>ifB (x35 !=245) (dm w22 (zB w16) λx36 x37 x38 x39=>dk 69 #[.agg #[zh x36,zu x37,zu x38,x39.zw]] w22 λx41 w23=>zk (S:=Int×Unit) (λs42 w24 n43=>ifB (decide (s42.1<(x41.l:Int))) ((0<=s42.1/\s42.1<(x41.l:Int))/\zc x41.a λa44=>ldI w24 (a44.add s42.1.toNat) .u32 λx45=>cR 100 #[zi s12.1,zu x45,.pointer (some (zB w)),.pointer (some (zB w1))] w24 λv46 w25=>v46=(.tuple #[])/\n43 ((IntKind.i64.wrap (s42.1+(1:Int))),()) w25) (m25 () w24)) (0,()) w23) (dm w22 (zB w16) λx47 x48 x49 x50=>dy 102 #[.agg #[zh x47,zu x48,zu x49,x50.zw]] w22 λx52 x53 w26=>zk (S:=Int×Unit) (λs54 w27 n55=>ifB (decide (s54.1<(x52.l:Int))) ((0<=s54.1/\s54.1<(x52.l:Int))/\zc x52.a λa56=>ldI w27 (a56.add s54.1.toNat) .u32 λx57=>ldP w27.drew (zB w) λx58=>zc x58 λa59=>ldM w27.drew (a59.add 9) λx60=>(0<=s54.1/\s54.1<(x53.l:Int))/\zc x53.a λa61=>ldI w27.drew (a61.add s54.1.toNat) .u32 λx62=>zlG Tryz.prog 80 (.map x60) (zu x62) [(.int .i64),(.int .i64),(.int .i64),.bool] w27.drew λ(x63:(Int×Int×Int×Bool×Unit))=>cR 100 #[zi x63.2.1,zu x57,.pointer (some (zB w)),.pointer (some (zB w1))] w27.drew λv64 w28=>v64=(.tuple #[])/\n55 ((IntKind.i64.wrap (s54.1+(1:Int))),()) w28) (m25 () w27)) (0,()) w26)) (λs26 w29=>n24 ((IntKind.i64.wrap (s23.1+(1:Int))),()) w29)) (n13 ((IntKind.i64.wrap (s12.1+(1:Int))),()) w16)) (0,()) w15.drew) (ldS w11 (zB w1) λx65=>Wr w11 (zB w1)/\Nw (w11.setCell (zB w1) (x65.zw)) λw30=>ldS w30 (zB w1) λx66=>R (.tuple #[x66.zw,s4.1.zw]) w30)) (0,()) w3)) ((Sl.mk none 0 0),0,()) w2
theorem zgP(p0)(R)(w)(h:zeF p0 R w):cC 62 #[.pointer p0] w R:=lwC zeM Tryz.func62 h
def zdo:Ann:=(.q Z13)
def zdf(p0:Int)(p1:Int)(c0:Addr)(c1:Addr)(R:VWP)(w:World):Prop:=ldP w c0 λx1=>dA 101 #[.pointer x1,zu p1] w λx3 x4 w1=>dn w1 #[zi 0,zi 0,zi 0,.bool false] 78 (zi x3.1) (zi x3.2.1) (zi x3.2.2.1) (.bool x3.2.2.2.1) λw6=>ifB x4 (ldS w6 c1 λx5=>(0<=p0/\p0<(x5.l:Int))/\zc x5.a λa6=>ldM w6 (a6.add p0.toNat) λx7=>updW Tryz.prog 88 (.map x7) (zu p1) (zi 1) w6 λw7=>R (.tuple #[]) w7) (R (.tuple #[]) w6)
theorem zf8(p0)(p1)(c0)(c1)(R)(w)(h:zdf p0 p1 c0 c1 R w):cC 100 #[.int .i64 p0,.int .u32 p1,.pointer (some c0),.pointer (some c1)] w R:=lwC zdo Tryz.func100 h
end Go.Proofs
namespace Go.Proofs
open Go.Gk Go.RowKit Go.Gm Go.Gr Go.Dm
inductive WanN (nx:List (List Nat)) (mk us:Nat->Bool):Nat->Prop
 |here {k:Nat}:mk k=false->us k=true->WanN nx mk us k
 |step {k t:Nat}:mk k=false->t∈nx.getD k []->WanN nx mk us t->WanN nx mk us k
inductive SeeN (nx:List (List Nat)) (mk:Nat->Bool) (fr:Nat):Nat->Prop
 |zero:mk fr=false->SeeN nx mk fr fr
 |step {i t:Nat}:SeeN nx mk fr i->t∈nx.getD i []->mk t=false->SeeN nx mk fr t
section
variable {nx:List (List Nat)} {mk us:Nat->Bool} {fr i:Nat}
theorem SeeN.mk_of(h:SeeN nx mk fr i):mk i=false:=by cases h with
 |zero h=>exact h
 |step _ _ h=>exact h
theorem SeeN.back{k t:Nat}(hk:mk k=false)(ht:t∈nx.getD k [])(h:SeeN nx mk t i):SeeN nx mk k i:=by
 induction h with
 |zero h=>exact .step (.zero hk) ht h
 |step _ h2 h3 ih=>exact .step ih h2 h3
theorem SeeN.wan(h:SeeN nx mk fr i)(hw:WanN nx mk us i):WanN nx mk us fr:=by
 induction h with
 |zero _=>exact hw
 |step h1 h2 _ ih=>exact ih (.step h1.mk_of h2 hw)
theorem ztA:WanN nx mk us fr↔∃i,SeeN nx mk fr i/\us i=true:=by
 constructor
 ·intro h
  induction h with
  |here h1 h2=>exact⟨_,.zero h1,h2⟩
  |step h1 h2 _ ih=>
   obtain⟨i,h3,h4⟩:=ih
   exact⟨i,h3.back h1 h2,h4⟩
 ·rintro⟨i,h1,h2⟩
  exact h1.wan (.here h1.mk_of h2)
theorem SeeN.lt(ok:NxOk nx)(hf:fr<nx.length)(h:SeeN nx mk fr i):i<nx.length:=by
 cases h with
 |zero _=>exact hf
 |step _ h _=>exact ok.rows _ _ h
end
def usN(pl:List PI)(b:Bk3)(id:Int)(i:Nat):Bool:=decide (b.2.1<=(i:Int)/\(i:Int)<b.2.2)&&((ix pl i).1 !=245&&(zL pl i).contains id)
def usQ(pl:List PI)(b:Bk3)(id:Int)(i j:Nat):Bool:=((ix pl i).2.2.2.getD (2*j) ag0).2.1==id&&((ix pl i).2.2.2.getD (2*j+1) ag0).2.1==b.1
def usP(pl:List PI)(f:FnL)(b:Bk3)(id:Int)(i:Nat):Bool:=decide (f.at_<=(i:Int)/\(i:Int)<f.en)&&((ix pl i).1==245&&(List.range ((ix pl i).2.2.2.length / 2)).any (usQ pl b id i))
def usB(pl:List PI)(fl:List FnL)(n:Nat)(id:Int)(k:Nat):Bool:=(List.range pl.length).any (usN pl (bx (fx fl n).bk k) id)||(List.range pl.length).any (usP pl (fx fl n) (bx (fx fl n).bk k) id)
def mkB(pl:List PI)(fl:List FnL)(n:Nat)(id:Int)(k:Nat):Bool:=ovI (bkO (fx fl n).bk (mkA pl id))==(k:Int)
open Classical in
noncomputable def wanB(pl:List PI)(fl:List FnL)(n:Nat)(id:Int)(k:Nat):Bool:=decide (WanN (nxF pl fl n) (mkB pl fl n id) (usB pl fl n id) k)
section
variable {w w':World} {R:VWP} {p:Bv} {pl:List PI} {fl:List FnL} {n k:Nat} {id:Int}
theorem zpe(h:IsRb w p pl fl n)(hR:∀w',Below w.heap.size w w'->R (.bool (mkB pl fl n id k)) w'):cR 54 #[bvA p,.int .i64 (k:Int),.int .u32 id] w R:=by
 refine za.of (zby p (k:Int) id R w ?_) λ_ _ h=>h
 refine zn λw1 hP1 b1 z1=>?_
 have hP1:Blk w1 w.heap.size 69 (bvL p):=hP1
 have h1:=h.below b1.drew
 refine Bv.load hP1.drew (Bv.load hP1 (zew h1 λw2 b2=>⟨_,rfl,?_⟩))
 have hP2:=hP1.drew.below b2
 refine⟨hP2.cell (n:=0) rfl,hP2.cell (n:=1) rfl,hP2.cell (n:=2) rfl,hP2.cell (n:=3) rfl,hP2.cell (n:=4) rfl,hP2.cell (n:=5) rfl,hP2.cell (n:=6) rfl,hP2.cell (n:=7) rfl,hP2.cell (n:=8) rfl,hP2.cell (n:=9) rfl,hP2.cell (n:=10) rfl,?_⟩
 exact zk8 (h1.below b2) λw3 b3=>⟨_,rfl,hR w3 ((b1.drew.on b2).on b3)⟩
theorem znM{pl:List PI}{fl:List FnL}:usB pl fl n id k=true↔(∃i,i<pl.length/\usN pl (bx (fx fl n).bk k) id i=true)\/∃i,i<pl.length/\usP pl (fx fl n) (bx (fx fl n).bk k) id i=true:=by
 unfold usB
 rw[Bool.or_eq_true,List.any_eq_true,List.any_eq_true]
 simp only[List.mem_range]
set_option maxHeartbeats 2000000 in
theorem zqo(F:Fls pl fl)(hp:PlOk pl)(hn:n<fl.length)(h:IsRb w p pl fl n)(hk:k<(fx fl n).bk.length)(hR:∀w',Below w.heap.size w w'->R (.bool (usB pl fl n id k)) w'):cR 55 #[bvA p,.int .i64 (k:Int),.int .u32 id] w R:=by
 refine za.of (zcf p (k:Int) id R w ?_) λ_ _ h=>h
 refine zn λw1 hP1 b1 z1=>?_
 have hP1:Blk w1 w.heap.size 69 (bvL p):=hP1
 have h1:=h.below b1
 have hbx:bx (fx fl n).bk k=(fx fl n).bk[k]:=zs hk
 obtain⟨f,e,hb1,hb2,hb3,_,_,hb6⟩:=F.bl hn hk
 have hbE:(fx fl n).bk[k]=((ix pl f).2.2.1,(f:Int),(e:Int)):=by rw[<-hbx,hb1]
 obtain⟨A,E,q1,q2,q3,q4,_,_,T⟩:=F.tl hn
 have hlen:=hp.len
 have hM:∀{w':World},Blk w' w.heap.size 69 (bvL p)->∀{φ:Sl->Prop},φ p.2.2.1->ldS w' ((Gk.blk w.heap.size).add 2) φ:=λ{w'} hP {φ} hφ=>hP.rS (n:=2) (x:=p.2.2.1) rfl hφ
 have yes:∀{w':World},Below w1.heap.size w1 w'->((∃i,i<pl.length/\usN pl (bx (fx fl n).bk k) id i=true)\/∃i,i<pl.length/\usP pl (fx fl n) (bx (fx fl n).bk k) id i=true)->R (.bool true) w':=λ{w'} hb hu=>by
  have:=hR w' (b1.on hb)
  rwa[znM.2 hu]at this
 refine Z8 hP1 (zp9 h1.hB hk ?_)
 rw[hbE]
 refine zk.ghost (λm (st:Int×Unit) w'=>∃i:Nat,st=((i:Int),())/\f<=i/\i<=e/\m=e-i/\Below w1.heap.size w1 w'/\∀j,j<i->usN pl (bx (fx fl n).bk k) id j=false) (e-f) ⟨f,rfl,Nat.le_refl _,by omega,rfl,Below.refl _ _,λj hj=>?_⟩ ?_
 ·unfold usN
  rw[hb1,decide_eq_false (by dsimp only;omega),Bool.false_and]
 rintro _ _ w2 ⟨i,rfl,hi1,hi2,rfl,b2,hj⟩ next hnext
 have hP2:=hP1.below b2
 have h2:=h1.below b2
 refine Z8 hP2 (zl2 h2.hB hk ?_)
 rw[hbE]
 refine zf (λg=>?_) (λg=>?_)
 ·have hie:i<e:=by dsimp only at g;omega
  have hil:i<pl.length:=by omega
  have hix:=yg hil
  have go:∀{w':World},Below w1.heap.size w1 w'->usN pl (bx (fx fl n).bk k) id i=false->next (IntKind.i64.wrap ((i:Int)+1),()) w':=λ{w'} hb hu=>by
   rw[zr (by omega)]
   refine hnext (e-(i+1)) _ w' (by omega) ⟨i+1,rfl,by omega,by omega,rfl,hb,λj j1=>?_⟩
   by_cases ej:j=i
   ·subst ej;exact hu
   ·exact hj j (by omega)
  have hu:usN pl (bx (fx fl n).bk k) id i=((ix pl i).1 !=245&&(zL pl i).contains id):=by
   unfold usN
   rw[hb1,decide_eq_true (by dsimp only;omega),Bool.true_and]
  refine zl.all (hM hP2 (zco h2.hN hil (zt (λe1=>?_) (λe1=>go b2 ?_))))
  ·have e1:(ix pl i).1≠245:=by rw[hix];exact e1
   refine hM hP2 (yu h2.hN hil λt hI=>zoY (x:=mkIn pl[i] t) hI (hp.at hil) λw3 b3=>⟨_,rfl,?_⟩)
   have hids:idsP pl[i].2.1 pl[i].2.2.2=zL pl i:=by unfold zL;rw[hix]
   have hu2:usN pl (bx (fx fl n).bk k) id i=(idsP pl[i].2.1 pl[i].2.2.2).contains id:=by rw[hu,hids,bne_iff_ne.2 e1,Bool.true_and]
   exact zo (λhy=>yes (b2.on b3) (.inl ⟨i,hil,by rw[hu2];exact hy⟩)) (λhy=>go (b2.on b3) (by rw[hu2];exact hy))
  ·have e1:(ix pl i).1=245:=by rw[hix];exact e1
   rw[hu,e1]
   rfl
 have hie:i=e:=by dsimp only at g;omega
 subst hie
 have hN:∀j,usN pl (bx (fx fl n).bk k) id j=false:=λj=>by
  by_cases h1:j<i
  ·exact hj j h1
  ·unfold usN
   rw[hb1,decide_eq_false (by dsimp only;omega),Bool.false_and]
 have hAE:∀{w':World},Blk w' w.heap.size 69 (bvL p)->∀{m:Nat} {v:Int},(bvL p)[5+m]? =some (.int .i64 v)->∀{φ:Int->Prop},φ v->ldI w' (((Gk.blk w.heap.size).add 5).add m) .i64 φ:=λ{w'} hP {m v} hv {φ} hφ=>by
  rw[zy]
  exact hP.rI (n:=5+m) (x:=v) hv hφ
 refine hAE hP2 (m:=1) (v:=p.2.2.2.2.2.2.1) rfl ?_
 rw[h1.hA,q1]
 refine zk.ghost (λm (st:Int×Unit) w'=>∃i:Nat,st=((i:Int),())/\A<=i/\i<=E/\m=E-i/\Below w1.heap.size w1 w'/\∀j,j<i->usP pl (fx fl n) (bx (fx fl n).bk k) id j=false) (E-A) ⟨A,rfl,Nat.le_refl _,by omega,rfl,b2,λj hj=>?_⟩ ?_
 ·unfold usP
  rw[q1,decide_eq_false (by omega),Bool.false_and]
 clear hnext next hj hi1 hi2 hP2 h2 b2 g
 rintro _ _ w5 ⟨i',rfl,hi1,hi2,rfl,b5,hj⟩ next hnext
 have hP5:=hP1.below b5
 have h5:=h1.below b5
 refine hAE hP5 (m:=4) (v:=p.2.2.2.2.2.2.2.2.2.1) rfl ?_
 rw[h1.hE,q2]
 refine zf (λg=>?_) (λg=>?_)
 rotate_left
 ·have hie:i'=E:=by dsimp only at g;omega
  have:=hR w5 (b1.on b5)
  rwa[show usB pl fl n id k=false from by
   rw[<-Bool.not_eq_true,znM]
   rintro(⟨j,_,h⟩ | ⟨j,_,h⟩)
   ·rw[hN j]at h;cases h
   ·by_cases h1:j<i'
    ·rw[hj j h1]at h;cases h
    ·unfold usP at h
     rw[q2,decide_eq_false (by omega),Bool.false_and]at h
     cases h]at this
 have hiE:i'<E:=by dsimp only at g;omega
 have hil:i'<pl.length:=by omega
 have hix:=yg hil
 have go:∀{w':World},Below w1.heap.size w1 w'->usP pl (fx fl n) (bx (fx fl n).bk k) id i'=false->next (IntKind.i64.wrap ((i':Int)+1),()) w':=λ{w'} hb hu=>by
  rw[zr (by omega)]
  refine hnext (E-(i'+1)) _ w' (by omega) ⟨i'+1,rfl,by omega,by omega,rfl,hb,λj j1=>?_⟩
  by_cases ej:j=i'
  ·subst ej;exact hu
  ·exact hj j (by omega)
 have hu:usP pl (fx fl n) (bx (fx fl n).bk k) id i'=((ix pl i').1==245&&(List.range ((ix pl i').2.2.2.length / 2)).any (usQ pl (bx (fx fl n).bk k) id i')):=by
  unfold usP
  rw[q1,q2,decide_eq_true (by omega),Bool.true_and]
 refine zl.all (hM hP5 (yu h5.hN hil λt hI=>box4 rfl λw10 hI10 b10 z10=>?_))
 have hI10:Blk w10 w5.heap.size 50 (inV (mkIn pl[i'] t)):=hI10
 have hA10:=hI.below b10
 have htl:=hI.len
 have hal:=hp.at hil
 have has:(ix pl i').2.2.2=pl[i'].2.2.2:=by rw[hix]
 have b510:=b5.on b10
 have hP10:=hP5.below b10
 have h10:=h5.below b10
 refine zk.ghost (λm (st:Int×Unit) w'=>∃j:Nat,st=(((2*j:Nat):Int),())/\m=pl[i'].2.2.2.length-2*j/\(j=0\/(2*j<=pl[i'].2.2.2.length/\(ix pl i').1=245))/\Below w10.heap.size w10 w'/\∀j',j'<j->usQ pl (bx (fx fl n).bk k) id i' j'=false) pl[i'].2.2.2.length ⟨0,rfl,rfl,.inl rfl,Below.refl _ _,λj' h=>by omega⟩ ?_
 rintro _ _ w11 ⟨j,rfl,rfl,hjl,b11,hjj⟩ next4 hnext4
 have hI11:=hI10.below b11
 have b511:=b510.on b11
 refine zl.cut (λ(_:Unit) w'=>w'=w11/\(ix pl i').1=245/\2*j<pl[i'].2.2.2.length) ?_ ?_
 ·refine hI11.rI0 rfl (zm (λe=>hI11.rS (n:=3) (x:=t) rfl (zf (λg2=>⟨rfl,by rw[hix];exact e,by omega⟩) (λg2=>?_))) (λe=>?_))
  ·refine go b511 ?_
   rw[hu]
   have e:(ix pl i').1=245:=by rw[hix];exact e
   have:(List.range ((ix pl i').2.2.2.length / 2)).any (usQ pl (bx (fx fl n).bk k) id i')=false:=by
    rw[<-Bool.not_eq_true,List.any_eq_true]
    rintro⟨j',h1,h2⟩
    rw[List.mem_range,has]at h1
    rw[hjj j' (by omega)]at h2
    cases h2
   rw[this,Bool.and_false]
  ·refine go b511 ?_
   have e:(ix pl i').1≠245:=by rw[hix];exact e
   rw[hu,beq_eq_false_iff_ne.2 e,Bool.false_and]
 rintro _ w12 ⟨rfl,e245,hj2⟩
 have hev:=F.phi i' hil e245
 rw[has]at hev
 have hj3:2*j+1<pl[i'].2.2.2.length:=by omega
 have e1:IntKind.i64.wrap (((2*j:Nat):Int)+1)=((2*j+1:Nat):Int):=zr (by omega)
 have e2:IntKind.i64.wrap (((2*j:Nat):Int)+2)=((2*(j+1):Nat):Int):=(zfR (by omega)).1
 have bd:Below w12.heap.size w12 w12.drew:=(Below.refl _ _).drew
 have b11d:=b11.on bd
 have hq:usQ pl (bx (fx fl n).bk k) id i' j=(pl[i'].2.2.2[2*j].2.1==id&&pl[i'].2.2.2[2*j+1].2.1==(bx (fx fl n).bk k).1):=by
  unfold usQ
  rw[has,zs (by omega),zs hj3]
 dsimp only
 rw[e1,e2]
 refine zl.cut (λ(_:Unit) w'=>Below w10.heap.size w10 w'/\usQ pl (bx (fx fl n).bk k) id i' j=false) ?_ ?_
 ·refine hI11.drew.rS (n:=3) (x:=t) rfl (zbt (hA10.below b11d) (k:=2*j) (by omega) (zm (λhid=>?_) (λhid=>⟨b11d,?_⟩)))
  ·refine hI11.drew.rS (n:=3) (x:=t) rfl (zbt (hA10.below b11d) hj3 ?_)
   refine Z8 (hP10.below b11d) (znv (h10.below b11d).hB hk (zm (λhl=>?_) (λhl=>⟨b11d,?_⟩)))
   ·refine yes ((b510.on b11d)) (.inr ⟨i',hil,?_⟩)
    rw[hu,e245,List.any_eq_true.2 ⟨j,List.mem_range.2 (by rw[has];omega),?_⟩]
    ·rfl
    ·rw[hq,hbx,hid,hl];simp
   ·rw[hq,hbx,beq_eq_false_iff_ne.2 hl,Bool.and_false]
  ·rw[hq,beq_eq_false_iff_ne.2 hid,Bool.false_and]
 rintro _ w13 ⟨b13,hno⟩
 refine hnext4 (pl[i'].2.2.2.length-2*(j+1)) _ w13 (by omega) ⟨j+1,rfl,rfl,.inr ⟨by omega,e245⟩,b13,λj' h=>?_⟩
 by_cases ej:j'=j
 ·subst ej;exact hno
 ·exact hjj j' (by omega)
end
theorem Mz.on{w0 w' w'':World}{mb m:Nat}{Q:Nat->Prop}{bl:List Bool}(h:Mz w0 mb Q m w' bl)(hb:Below w'.heap.size w' w''):Mz w0 mb Q m w'' bl:=⟨h.below.on hb,h.blk.below hb,h.len,h.sound⟩
open Classical in
theorem zpr{pl:List PI}{fl:List FnL}{n k:Nat}{id:Int}:wanB pl fl n id k=true↔WanN (nxF pl fl n) (mkB pl fl n id) (usB pl fl n id) k:=by
 unfold wanB
 rw[decide_eq_true_eq]
section
variable {w w':World} {R:VWP} {p:Bv} {pl:List PI} {fl:List FnL} {n fr:Nat} {id:Int}
set_option maxHeartbeats 4000000 in
theorem znK(F:Fls pl fl)(hp:PlOk pl)(hn:n<fl.length)(h:IsRb w p pl fl n)(ok:NxOk (nxF pl fl n))(hfr:fr<(fx fl n).bk.length)(hR:∀w',Below w.heap.size w w'->R (.bool (wanB pl fl n id fr)) w') :
  cR 24 #[bvA p,.int .i64 (fr:Int),.int .u32 id] w R:=by
 refine za.of (zaF p (fr:Int) id R w ?_) λ_ _ h=>h
 refine zn λw1 hP1 b1 z1=>?_
 have hP1:Blk w1 w.heap.size 69 (bvL p):=hP1
 have h1:=h.below b1
 obtain⟨hs,hX⟩:=h.hX
 have hnl:=zhy pl fl n
 have hwan:wanB pl fl n id fr=true↔∃i,SeeN (nxF pl fl n) (mkB pl fl n id) fr i/\usB pl fl n id i=true:=by
  rw[zpr]
  exact ztA
 have rm:∀{w':World} {k:Nat} {R':VWP},Below w1.heap.size w1 w'->(∀w'',Below w'.heap.size w' w''->R' (.bool (mkB pl fl n id k)) w'')->cR 54 #[bvA p,.int .i64 (k:Int),.int .u32 id] w' R':=λ{w' k R'} hb hR'=>zpe (h1.below hb) hR'
 have ru:∀{w':World} {k:Nat} {R':VWP},Below w1.heap.size w1 w'->k<(fx fl n).bk.length->(∀w'',Below w'.heap.size w' w''->R' (.bool (usB pl fl n id k)) w'')->cR 55 #[bvA p,.int .i64 (k:Int),.int .u32 id] w' R':=λ{w' k R'} hb hk hR'=>zqo F hp hn (h1.below hb) hk hR'
 generalize mkB pl fl n id=mk at *
 generalize usB pl fl n id=us at *
 generalize wanB pl fl n id fr=wv at *
 generalize hnx:nxF pl fl n=nx at *
 obtain⟨s,hs10⟩:∃s,p.2.2.2.2.2.2.2.2.2.2.1=s:=⟨_,rfl⟩
 rw[hs10]at hX
 refine hP1.rS (n:=10) (x:=s) (by rw[<-hs10];rfl) ?_
 have hhl:=hX.len
 have hsl:s.l=nx.length:=by have:=hX.top.len;omega
 have hmax:=ok.max
 have hpos:=ok.pos
 have hfl:fr<nx.length:=by omega
 have hP1':∀{w':World},Blk w' w.heap.size 69 (bvL p)->∀{φ:Sl->Prop},φ s->ldS w' ((Gk.blk w.heap.size).add 10) φ:=λ{w'} hP {φ} hφ=>hP.rS (n:=10) (x:=s) (by rw[<-hs10];rfl) hφ
 refine⟨⟨by omega,by omega,by omega,by omega⟩,Nw.gen λw2 hw2=>?_⟩
 have hb2:Below w1.heap.size w1 w2:=by rw[hw2];exact(Below.refl _ _).alloc (Nat.le_refl _) _
 have hB2:Blk w2 w1.heap.size 4 ((List.replicate nx.length false).map Value.bool):=by rw[hw2,hsl,List.map_replicate];exact Blk.made w1 _ _ _
 clear hw2
 have hfrr:∀j,(List.replicate nx.length false).getD j false=false:=λj=>by
  simp only[List.getD,List.getElem?_replicate]
  split<;>rfl
 have s1:=b1.size
 refine Bv.load (hP1.below hb2) (rm hb2 λw3 b3=>⟨_,rfl,?_⟩)
 have hb3:=hb2.on b3
 have hB3:=hB2.below b3
 refine⟨⟨by omega,by omega⟩,hB3.wr (n:=fr) (by rw[List.length_map,List.length_replicate];exact hfl),Nw.gen λw4 hw4=>?_⟩
 have m3:Mz w1 w1.heap.size (SeeN nx mk fr) nx.length w4 ((List.replicate nx.length false).set fr (!mk fr)):=by
  rw[hw4]
  refine⟨hb3.setCell (by rw[z0];exact Nat.le_refl _) _,by rw[List.map_set];exact hB3.set _ _,by simp,λj hj=>?_⟩
  rw[List.getD_eq_getElem?_getD,List.getElem?_set]at hj
  split at hj
  ·rename_i e
   subst e
   rw[if_pos (by simpa using hfl)]at hj
   exact .zero (by simpa using hj)
  ·rw[<-List.getD_eq_getElem?_getD,hfrr]at hj;cases hj
 clear hw4
 have hz3:mk fr=false->((List.replicate nx.length false).set fr (!mk fr)).getD fr false=true:=λe=>by
  rw[List.getD_eq_getElem?_getD,List.getElem?_set_self (by simpa using hfl),e]
  rfl
 let Cl:List Bool->Nat->Prop:=λbl i=>bl.getD i false=true->∀t∈nx.getD i [],mk t=false->bl.getD t false=true
 refine zk.ghost (λm (st:Bool×Unit) w'=>∃bl,Mz w1 w1.heap.size (SeeN nx mk fr) nx.length w' bl/\(mk fr=false->bl.getD fr false=true)/\((st.1=true/\m=nx.length-bl.count true+1)\/(st.1=false/\m=0/\∀i,i<nx.length->Cl bl i))) (nx.length-((List.replicate nx.length false).set fr (!mk fr)).count true+1) ⟨_,m3,hz3,.inl ⟨rfl,rfl⟩⟩ ?_
 rintro m ⟨mo,_⟩ w4 ⟨bl,m4,hz4,hst⟩ next hnext
 dsimp only at hst⊢
 refine zo (λhmo=>?_) (λhmo=>?_)
 rotate_left
 ·rcases hst with⟨h1,_⟩ | ⟨_,_,hcl⟩
  ·rw[hmo]at h1;cases h1
  ·have hall:∀j,bl.getD j false=true↔SeeN nx mk fr j:=λj=>⟨m4.sound j,λhj=>by
    induction hj with
    |zero h=>exact hz4 h
    |step hi ht hne ih=>exact hcl _ (hi.lt ok hfl) ih _ ht hne⟩
   refine zk.count nx.length (by omega) (λk w'=>Mz w1 w1.heap.size (SeeN nx mk fr) nx.length w' bl/\∀j,j<k->¬(SeeN nx mk fr j/\us j=true)) ⟨m4,λj h=>by omega⟩ ?_
   rintro k w11 hk ⟨m11,hj⟩ next5 hnext5
   refine zf (λg=>?_) (λg=>?_)
   ·have hkl:k<nx.length:=by omega
    have go:∀{w'},Below w11.heap.size w11 w'->¬(SeeN nx mk fr k/\us k=true)->next5 (IntKind.i64.wrap ((k:Int)+1),()) w':=λ{w'} hb hno=>hnext5 w' hkl ⟨m11.on hb,λj h=>by
     by_cases e:j=k
     ·subst e;exact hno
     ·exact hj j (by omega)⟩
    refine zl.all ⟨⟨by omega,by omega⟩,m11.ld hkl (zo (λhy=>?_) (λhy=>go (Below.refl _ _) λh=>by rw[(hall k).2 h.1]at hy;cases hy))⟩
    refine Bv.load (hP1.below m11.below) (ru m11.below (by omega) λw12 b12=>⟨_,rfl,zo (λhu=>?_) (λhu=>go b12 λh=>by rw[hu]at h;cases h.2)⟩)
    have:=hR w12 ((b1.on m11.below).on b12)
    rwa[hwan.2 ⟨k,(hall k).1 hy,hu⟩]at this
   ·have:=hR w11 (b1.on m11.below)
    rwa[show wv=false from by
     rw[<-Bool.not_eq_true,hwan]
     rintro⟨i,h1,h2⟩
     exact hj i (by have:=h1.lt ok hfl;omega) ⟨h1,h2⟩]at this
 have hm:m=nx.length-bl.count true+1:=by
  rcases hst with⟨_,h⟩ | ⟨h,_⟩
  ·exact h
  ·rw[hmo]at h;cases h
 subst hm
 let J:Bool->(Nat->Prop)->List Bool->Prop:=λmo done bl'=>(mk fr=false->bl'.getD fr false=true)/\((mo=false/\bl'=bl/\∀i,done i->Cl bl i)\/(mo=true/\bl.count true<bl'.count true))
 refine zk.ghost (λg (st:Bool×Int×Unit) w'=>∃i:Nat,st.2.1=(i:Int)/\i<=nx.length/\g=nx.length-i/\∃bl',Mz w1 w1.heap.size (SeeN nx mk fr) nx.length w' bl'/\J st.1 (·<i) bl') nx.length ⟨0,rfl,Nat.zero_le _,rfl,bl,m4,hz4,.inl ⟨rfl,rfl,λi hi=>absurd hi (Nat.not_lt_zero _)⟩⟩ ?_
 rintro _ ⟨mo5,_,_⟩ w5 ⟨i,rfl,hi,rfl,bl5,m5,hJ5⟩ next5 hnext5
 dsimp only at hJ5⊢
 refine zf (λg=>?_) (λg=>?_)
 rotate_left
 ·have hie:i=nx.length:=by omega
  obtain⟨hz5,⟨rfl,rfl,hcl⟩ | ⟨rfl,hup⟩⟩:=hJ5
  ·exact hnext 0 _ w5 (by omega) ⟨_,m5,hz5,.inr ⟨rfl,rfl,λj hj=>hcl j (by omega)⟩⟩
  ·have:=zlx m5.len
   exact hnext _ _ w5 (by omega) ⟨bl5,m5,hz5,.inl ⟨rfl,rfl⟩⟩
 have hlt:i<nx.length:=by omega
 have hih:i<hs.length:=by omega
 have hrowl:=ok.row_le i
 have hgx:nx.getD i []=nx[i]:=zs hlt
 rw[hgx]at hrowl
 refine zk.ghost (λg (st:Bool×Int×Unit) w'=>∃k:Nat,st.2.1=(k:Int)/\k<=nx[i].length/\g=nx[i].length-k/\∃bl',Mz w1 w1.heap.size (SeeN nx mk fr) nx.length w' bl'/\(mk fr=false->bl'.getD fr false=true)/\
   ((st.1=false/\bl'=bl/\(∀j,j<i->Cl bl j)/\(bl.getD i false=true->∀q (hq:q<nx[i].length),q<k->mk nx[i][q]=false->bl.getD nx[i][q] false=true))\/(st.1=true/\bl.count true<bl'.count true))) nx[i].length
  ⟨0,rfl,Nat.zero_le _,rfl,bl5,m5,hJ5.1,hJ5.2.imp (λq=>⟨q.1,q.2.1,q.2.2,λ_ q _ h=>by omega⟩) (λh=>h)⟩ ?_
 rintro _ ⟨mo6,_,_⟩ w6 ⟨k,rfl,hk,rfl,bl6,m6,hz6,hJ6⟩ next6 hnext6
 dsimp only at hJ6⊢
 have hX6:=(hX.below b1).below m6.below
 have hP6:=hP1.below m6.below
 have hrow:=hX6.row i hih hlt
 have hrn:hs[i].l=nx[i].length:=hrow.len
 refine hP1' hP6 (zeY hX6.top hih (zf (λg=>?_) (λg=>?_)))
 rotate_left
 ·have hke:k=nx[i].length:=by omega
  rw[zr (by omega)]
  refine hnext5 (nx.length-(i+1)) _ w6 (by omega) ⟨i+1,rfl,by omega,rfl,bl6,m6,hz6,?_⟩
  refine hJ6.imp (λ⟨q1,q2,q3,q4⟩=>⟨q1,q2,λj hj=>?_⟩) (λh=>h)
  by_cases e:j=i
  ·subst e
   intro hmk t ht hne
   rw[hgx]at ht
   obtain⟨q,hq,rfl⟩:=List.getElem_of_mem ht
   exact q4 hmk q hq (by omega) hne
  ·exact q3 j (by omega)
 have hkl:k<nx[i].length:=by omega
 have htl:nx[i][k]<nx.length:=ok.rows i _ (by rw[hgx];exact List.getElem_mem hkl)
 have hmem:nx[i][k]∈nx.getD i []:=by rw[hgx];exact List.getElem_mem hkl
 generalize htk:nx[i][k]=t at *
 have stay:∀{w'},Below w6.heap.size w6 w'->(bl.getD i false=true->bl6=bl->mk t=false->bl.getD t false=true)->next6 (mo6,IntKind.i64.wrap ((k:Int)+1),()) w':=λ{w'} hb hc=>by
  rw[zr (by omega)]
  refine hnext6 (nx[i].length-(k+1)) _ w' (by omega) ⟨k+1,rfl,by omega,rfl,bl6,m6.on hb,hz6,hJ6.imp (λ⟨q1,q2,q3,q4⟩=>⟨q1,q2,q3,λhmk q hq h1 hne=>?_⟩) (λh=>h)⟩
  by_cases e:q=k
  ·subst e
   rw[htk]at hne⊢
   exact hc hmk q2 hne
  ·exact q4 hmk q hq (by omega) hne
 refine zl.cut (λ(st:Bool×Unit) w'=>next6 (st.1,IntKind.i64.wrap ((k:Int)+1),()) w') ?_ λ_ _ hh=>hh
 refine hP1' hP6 (zeY hX6.top hih (ziZ hrow hkl ⟨⟨by omega,by omega⟩,m6.ld hlt ?_⟩))
 rw[htk]
 refine zo (λhmk=>?_) (λhmk=>stay (Below.refl _ _) λh1 h2 _=>by rw[h2,h1]at hmk;cases hmk)
 refine⟨⟨by omega,by omega⟩,m6.ld htl (zF (zo (λhmt=>stay (Below.refl _ _) λ_ h2 _=>by rw[<-h2];exact hmt) (λhmt=>?_)))⟩
 refine Bv.load hP6 (rm m6.below λw8 b8=>⟨_,rfl,zF (zo (λhy=>stay b8 λ_ _ hne=>by rw[hy]at hne;cases hne) (λhne=>?_))⟩)
 have m8:=m6.on b8
 refine⟨⟨by omega,by omega⟩,m8.blk.wr (n:=t) (by rw[List.length_map,m8.len];exact htl),Nw.gen λw7 hw7=>?_⟩
 have m7:=m8.set (Nat.le_refl _) htl (.step (m6.sound i hmk) hmem hne)
 rw[show((Gk.blk w1.heap.size).add (Int.toNat (t:Int)))=(Gk.blk w1.heap.size).add t from rfl]at hw7
 rw[<-hw7]at m7
 have hup:=zog (by rw[m6.len];exact htl) hmt
 rw[zr (by omega)]
 refine hnext6 (nx[i].length-(k+1)) _ w7 (by omega) ⟨k+1,rfl,by omega,rfl,_,m7,λe=>?_,.inr ⟨rfl,?_⟩⟩
 ·rw[List.getD_eq_getElem?_getD,List.getElem?_set]
  split
  ·rename_i e
   rw[if_pos (by rw[m6.len];omega)]
   rfl
  ·rw[<-List.getD_eq_getElem?_getD];exact hz6 e
 ·rcases hJ6 with⟨_,e,_⟩ | ⟨_,h⟩
  ·rw[e]at hup⊢;exact hup
  ·omega
end
theorem Flo.flt{x:Mo}{pl:List PI}{fl:List FnL}(h:Flo x pl fl){n k i:Nat}(hn:n<fl.length)(hk:k<(fx fl n).bk.length)(hi:i<pl.length)(h1:(bx (fx fl n).bk k).2.1<=(i:Int))(h2:(i:Int)<(bx (fx fl n).bk k).2.2):fltU pl fl (nxF pl fl n) n k i=0:=by
 have h3:=h.no n hn
 unfold flwE at h3
 split at h3
 ·cases h3
 ·have h4:=zmU (g:=bodK pl fl n) h3 k hk
  have h5:=zmU h4 i hi
  refine Classical.byContradiction λhne=>?_
  rw[if_pos ⟨⟨h1,h2⟩,hne⟩]at h5
  cases h5
end Go.Proofs
namespace Go.Proofs
open Go.Gk Go.RowKit Go.Gm Go.Gr
end Go.Proofs
namespace Go.Proofs
open Go.Gk Go.RowKit Go.Gm Go.Gr Go.Dm
section
variable {x:Mo} {pl:List PI} {fl:List FnL} {w:World} {R:VWP} {q:Int} {s:Sl} {T:List Int}
structure Md (w0 w:World) (r:Sl) (D:List Int):Prop where
 own:Own w 22 1 r (D.map (Value.int .u32))
 fr:zz w0.heap.size r
 below:Below w0.heap.size w0 w
theorem Md.on{w0 w w':World}{r:Sl}{D:List Int}(h:Md w0 w r D)(hb:Below w.heap.size w w'):Md w0 w' r D:=⟨h.own.below hb,h.fr,h.below.on hb⟩
theorem Md.len{w0 w:World}{r:Sl}{D:List Int}(h:Md w0 w r D):r.l=D.length:=by have:=h.own.1;rw[List.length_map]at this;omega
theorem Md.push{w0 w:World}{r:Sl}{D:List Int}{v:Int}(h:Md w0 w r D)(hl:D.length<=4398046511104){k:Sl->World->Prop}(hk:∀r' w',Md w0 w' r' (D++[v])->(∀b T cs,22≠T->Blk w b T cs->Blk w' b T cs)->k r' w') :
  Nw (w.alloc (.cells #[.int .u32 v] 22)) λw1=>zp Tryz.prog 26 (.slice r.a r.l r.c) (.slice (some (blk w.heap.size)) 1 1) w1 k:=by
 refine zn λw1 h1 b1 z1=>?_
 have h1:Blk w1 w.heap.size 22 [.int .u32 v]:=h1
 have hl2:=h.len
 have h2:=h.on b1
 refine zb2 eU32 h2.own h2.below h.fr (vs:=[.int .u32 v]) rfl (λu hu=>by rw[List.mem_singleton.1 hu];rfl) h1 (by omega) (by omega) λr' w' g1 g2 g3 _ g5=>hk r' w' ⟨?_,g3,g2⟩ λb T cs hne hB=>?_
 ·rw[List.map_append]
  exact g1
 ·have hB1:=hB.below b1
  exact hB1.of_block (g5 b hB1.lt (yI h2.own hB1 hne))
end
noncomputable def livN(pl:List PI)(fl:List FnL)(n k j:Nat):List Int:=((List.range j).map λ(i:Nat)=>((i+1:Nat):Int)).filter λid=>ownP pl fl n id&&wanB pl fl n id k
noncomputable abbrev livL(bd:Int)(pl:List PI)(fl:List FnL)(n k:Nat):List Int:=livN pl fl n k (bd-1).toNat
theorem zmJ(pl:List PI)(fl:List FnL)(n k j:Nat):livN pl fl n k (j+1)=livN pl fl n k j++(if (ownP pl fl n ((j+1:Nat):Int)&&wanB pl fl n ((j+1:Nat):Int) k)=true then [((j+1:Nat):Int)] else []):=by
 unfold livN
 rw[List.range_succ,List.map_append,List.filter_append,List.map_cons,List.map_nil,List.filter_cons,List.filter_nil]
theorem zsk(pl:List PI)(fl:List FnL)(n k j:Nat):(livN pl fl n k j).length<=j:=by
 unfold livN
 have:=List.length_filter_le (λid=>ownP pl fl n id&&wanB pl fl n id k) ((List.range j).map λ(i:Nat)=>((i+1:Nat):Int))
 rwa[List.length_map,List.length_range]at this
noncomputable def ZJ(x:Mo)(pl:List PI)(fl:List FnL)(label:Int):List Int×Int×Int:=if (floE x pl).1≠0 then([],floE x pl) else
 match (List.range fl.length).find? λn=>(lbO (fx fl n).bk label).isSome with
 |some n=>(livL x.2.1 pl fl n (lbN (fx fl n).bk label),0,0)
 |none=>([],3,0)
section
variable {x:Mo} {pl:List PI} {fl:List FnL} {w:World} {R:VWP} {label:Int}
theorem zo9(h:(floE x pl).1≠0):ZJ x pl fl label=([],floE x pl):=by unfold ZJ;rw[if_pos h]
theorem zq8(h:(floE x pl).1=0){n k:Nat}(hn:n<fl.length)(hk:lbO (fx fl n).bk label=some k)(hj:∀j,j<n->(lbO (fx fl j).bk label).isSome=false):ZJ x pl fl label=(livL x.2.1 pl fl n k,0,0):=by
 unfold ZJ
 rw[if_neg (λq=>q h),Yc (n:=fl.length) (p:=λn=>(lbO (fx fl n).bk label).isSome) hn (by rw[hk];rfl) hj]
 show(livL x.2.1 pl fl n (lbN (fx fl n).bk label),(0:Int),(0:Int))=_
 unfold lbN
 rw[hk]
 rfl
theorem zq9(h:(floE x pl).1=0)(hj:∀j,j<fl.length->(lbO (fx fl j).bk label).isSome=false):ZJ x pl fl label=([],3,0):=by
 unfold ZJ
 rw[if_neg (λq=>q h),zd7 (n:=fl.length) (p:=λn=>(lbO (fx fl n).bk label).isSome) hj]
set_option maxHeartbeats 2000000 in
theorem zqe(hN:IsPl w x.2.2.1 pl)(hp:PlOk pl)(h0:0<=x.2.1)
  (hR:∀w' r,Own w' 22 1 r ((ZJ x pl (cutF pl pl.length) label).1.map (Value.int .u32))->zz w.heap.size r->Below w.heap.size w w'->R (.tuple #[.slice r.a r.l r.c,.agg #[.int .i64 (ZJ x pl (cutF pl pl.length) label).2.1,.int .i64 (ZJ x pl (cutF pl pl.length) label).2.2]]) w') :
  cR 6 #[moA x,.int .u32 label] w R:=by
 refine za.of (zeB x label R w ?_) λ_ _ h=>h
 refine zn λw1 hB1 b1 z1=>?_
 have hB1:Blk w1 w.heap.size 25 (moV x):=hB1
 refine zn λw2 hS2 b2 z2=>?_
 have hS2:Blk w2 w1.heap.size 29 [.int .i64 0,.int .i64 0]:=hS2
 have hb2:=b1.on b2
 have s1:=b1.size
 have out:∀{w':World} (l:List Int) (e a:Int) (r:Sl),Blk w' w1.heap.size 29 [.int .i64 0,.int .i64 0]->Below w.heap.size w w'->Own w' 22 1 r (l.map (Value.int .u32))->zz w.heap.size r->ZJ x pl (cutF pl pl.length) label=(l,e,a)->
   Wr w' (blk w1.heap.size)/\Nw (w'.setCell (blk w1.heap.size) (.int .i64 e)) λw8=>Wr w8 ((blk w1.heap.size).add 1)/\Nw (w8.setCell ((blk w1.heap.size).add 1) (.int .i64 a)) λw9=>ldI w9 ((blk w1.heap.size).add 0) .i64 λx9=>ldI w9 ((blk w1.heap.size).add 1) .i64 λx10=>
    R (.tuple #[.slice r.a r.l r.c,.agg #[.int .i64 x9,.int .i64 x10]]) w9:=λ{w'} l e a r hS hb hO hFr he=>
  st2 hS rfl λw9 hS9 c9=>Sp.load hS9 (by
   have:=hR w9 r (by
    rw[he]
    exact hO.of_block λa ha=>c9.block _ λe=>by
     obtain⟨cs,hc⟩:=hO.type ha
     exact Blk.apart hc hS (by decide) e) hFr (c9.below hb (by omega))
   rw[he]at this
   exact this)
 have nilO:∀w',Own w' 22 1 ⟨none,0,0⟩ (([]:List Int).map (Value.int .u32)):=λw'=>Own.nil _ _ _
 have nilF:zz w.heap.size ⟨none,0,0⟩:=λa ha=>by cases ha
 refine Mo.load (hB1.below b2) (znH (x:=x) (hN.below hb2) hp h0 (λw3 hne b3=>⟨⟨none,0,0⟩,((floE x pl).1,(floE x pl).2,()),rfl,?_⟩) (λw3 s hF hBs b3=>⟨s,(0,0,()),rfl,?_⟩))
 ·refine box2 rfl λw6 h6 b6 z6=>h6.rI0 rfl (zD (by simpa using hne) (Sp.load h6.drew ?_))
  have b26:=b3.on b6
  exact out [] _ _ ⟨none,0,0⟩ (hS2.below b26).drew (hb2.on b26).drew (nilO _) nilF (zo9 hne)
 refine box2 rfl λw6 h6 b6 z6=>h6.rI0 rfl (zE rfl ?_)
 have b26:=b3.on b6
 have hb6:=hb2.on b26
 have hS6:=hS2.below b26
 have hB6:=(hB1.below b2).below b26
 have hz:(floE x pl).1=0:=by rw[zrX hF]
 obtain⟨_,hlay,_⟩:=zeq hF.ok
 have hnb:=(Ye (zfj hlay)).1
 have F:=Fls.of hp h0 hF.ok
 obtain⟨ps,hpl,hpS,hpB⟩:=hBs.ex
 have hpS:=IsC.below ziV hpS b6
 generalize cutF pl pl.length=fl at *
 have hbound:=hpS.bound
 have hsl:=hpS.len
 refine zk.count ps.length hbound (λn w'=>Below w6.heap.size w6 w'/\∀j,j<n->(lbO (fx fl j).bk label).isSome=false) ⟨Below.refl _ _,λj h=>by omega⟩ ?_
 rintro n w9 hn ⟨b9,hj⟩ next hnext
 have hb9:=hb6.on b9
 refine zf (λg=>?_) (λg=>?_)
 rotate_left
 ·exact out [] 3 0 ⟨none,0,0⟩ (hS6.below b9) hb9 (nilO _) nilF (zq9 hz λj h1=>hj j (by dsimp only at g;omega))
 have hnp:n<ps.length:=by dsimp only at g;omega
 have hnf:n<fl.length:=by omega
 obtain⟨hRb,ok⟩:=hpB n hnp
 have hRb9:=(hRb.below b6).below b9
 refine ztN (IsC.below ziV hpS b9) hnp (zn λw10 hZ10 b10 z10=>st11 hZ10 rfl λw21 hP21 c21=>?_)
 have hP21:Blk w21 w9.heap.size 69 (bvL ps[n]):=hP21
 have b921:Below w9.heap.size w9 w21:=c21.below b10 (Nat.le_refl _)
 have hR21:=hRb9.below b921
 refine Bv.load hP21 (zd8 hR21 λw22 b22=>⟨_,rfl,?_⟩)
 have b922:=b921.on b22
 have hb22:=hb9.on b922
 have hS22:=(hS6.below b9).below b922
 have hP22:=hP21.below b22
 have hR22:=hR21.below b22
 have hB22:=(hB6.below b9).below b922
 cases hat:lbO (fx fl n).bk label with
 |none=>
  refine zE (decide_eq_false (by show ¬((-1:Int)≥0);decide)) (hnext w22 hnp ⟨b9.on b922,λj h1=>?_⟩)
  by_cases e:j=n
  ·subst e;rw[hat];rfl
  ·exact hj j (by omega)
 |some k=>
  obtain⟨hkl,_⟩:=zfn hat
  have hlE:ZJ x pl fl label=(livL x.2.1 pl fl n k,0,0):=zq8 hz hnf hat hj
  refine zD (decide_eq_true (by show(k:Int)≥0;omega)) ?_
  have hm:((x.2.1-1).toNat:Int)=x.2.1-1:=by omega
  generalize hBn:(x.2.1-1).toNat=m at *
  refine zk.ghost (λg (st:Sl×Int×Unit) w'=>∃(r:Sl) (j:Nat),st=(r,((j+1:Nat):Int),())/\j<=m/\g=m-j/\Md w22 w' r (livN pl fl n k j)) m ⟨⟨none,0,0⟩,0,rfl,Nat.zero_le _,rfl,Own.nil _ _ _,λa ha=>(by cases ha),Below.refl _ _⟩ ?_
  rintro _ _ w23 ⟨r,j,rfl,hjm,rfl,hM⟩ next2 hnext2
  have b23:=hM.below
  refine(hB22.below b23).rI (n:=1) (x:=x.2.1) rfl (zf (λg2=>?_) (λg2=>?_))
  ·have hjl:j<m:=by dsimp only at g2;omega
   have hw:IntKind.u32.wrap (((j+1:Nat):Int)+1)=((j+1+1:Nat):Int):=by
    rw[zqu (by omega) (by omega)]
    omega
   refine zl.cut (λ(st:Sl×Unit) w'=>Md w22 w' st.1 (livN pl fl n k (j+1))) ?_ ?_
   ·have no:∀{w'},Below w23.heap.size w23 w'->(ownP pl fl n ((j+1:Nat):Int)&&wanB pl fl n ((j+1:Nat):Int) k)=false->Md w22 w' r (livN pl fl n k (j+1)):=λ{w'} hb he=>by
     rw[zmJ,he,if_neg (by decide),List.append_nil]
     exact hM.on hb
    refine Bv.load (hP22.below b23) (zmY F (hR22.below b23) λw24 b24=>⟨_,rfl,zo (λho=>?_) (λho=>no b24 (by rw[ho,Bool.false_and]))⟩)
    refine Bv.load ((hP22.below b23).below b24) (znK F hp hnf ((hR22.below b23).below b24) ok hkl λw25 b25=>⟨_,rfl,zo (λhwn=>?_) (λhwn=>no (b24.on b25) (by rw[ho,hwn];rfl))⟩)
    refine(hM.on (b24.on b25)).push (by have:=zsk pl fl n k j;omega) λr' w' h' _=>?_
    show Md w22 w' r' (livN pl fl n k (j+1))
    rw[zmJ,ho,hwn,if_pos (by decide)]
    exact h'
   ·rintro⟨r',_⟩ w28 hM28
    dsimp only at hM28⊢
    rw[hw]
    exact hnext2 (m-(j+1)) _ w28 (by omega) ⟨r',j+1,rfl,by omega,rfl,hM28⟩
  ·have hje:j=m:=by dsimp only at g2;omega
   subst hje
   refine out (livN pl fl n k j) 0 0 r (hS22.below b23) (hb22.on b23) hM.own (λa ha=>?_) ?_
   ·have:=hM.fr a ha
    have:=hb22.size
    omega
   ·rw[hlE]
    unfold livL
    rw[hBn]
end
theorem zpI:(match frm 248 with |some f=>!f.ty&&decide (f.fixed.length=0)&&decide (f.rest.length=0) |none=>false)=true:=by decide +kernel
theorem zre{bd:Int}{pl:List PI}(hs:(zG bd pl).1=0){k:Nat}(hk:k<pl.length)(h:(ix pl k).1=248):zL pl k=[]:=by
 have hf:=(Ye hs).2 k hk
 obtain⟨f,hf,h1,_,_,h4,_⟩:=zfa hf
 rw[yg hk]at h
 have h2:=zpI
 rw[h]at hf
 rw[hf]at h2
 have h2:(!f.ty&&decide (f.fixed.length=0)&&decide (f.rest.length=0))=true:=h2
 rw[Bool.and_eq_true,Bool.and_eq_true,decide_eq_true_eq,decide_eq_true_eq]at h2
 have e1:pl[k].2.1=0:=by
  have hty:f.ty=false:=by simpa using h2.1.1
  rw[hty]at h1
  unfold idP at h1
  by_cases hz:pl[k].2.1=0
  ·exact hz
  ·rw[if_neg (by simp[hz])]at h1
   cases h1
 have e2:pl[k].2.2.2=[]:=by
  unfold YS at h4
  split at h4
  ·cases h4
  ·rw[if_pos h2.2]at h4
   simp only[beq_iff_eq]at h4
   have:=h2.1.2
   exact List.length_eq_zero_iff.1 (by omega)
 unfold zL idsP idsN
 rw[yg hk,e1,e2]
 rfl
def frN(fl:List FnL)(n k:Nat):Nat:=(bx (fx fl n).bk k).2.1.toNat
def toN(fl:List FnL)(n k:Nat):Nat:=(bx (fx fl n).bk k).2.2.toNat
def rawI(pl:List PI)(fl:List FnL)(n k i:Nat):List (Nat×Int):=if (ix pl i).1≠245 then(zL pl i).map λid=>(k,id)
 else(List.range ((ix pl i).2.2.2.length / 2)).map λj=>(lbN (fx fl n).bk ((ix pl i).2.2.2.getD (2*j+1) ag0).2.1,((ix pl i).2.2.2.getD (2*j) ag0).2.1)
def ownF(pl:List PI)(fl:List FnL)(n:Nat)(l:List (Nat×Int)):List (Nat×Int):=l.filter λp=>ownP pl fl n p.2
def mkK(pl:List PI)(fl:List FnL)(n k t:Nat):List (Nat×Int):=(List.range t).flatMap λj=>ownF pl fl n (rawI pl fl n k (frN fl n k+1+j))
def mkT(pl:List PI)(fl:List FnL)(n k:Nat):List (Nat×Int):=(List.range k).flatMap λk'=>mkK pl fl n k' (toN fl n k'-(frN fl n k'+1))
def mdK(pl:List PI)(fl:List FnL)(n k t:Nat):List (Nat×Int):=(List.range t).map λj=>(k,(ix pl (frN fl n k+1+j)).2.2.1)
def mdT(pl:List PI)(fl:List FnL)(n k:Nat):List (Nat×Int):=(List.range k).flatMap λk'=>mdK pl fl n k' (toN fl n k'-(frN fl n k'+1))
theorem zsw(pl:List PI)(fl:List FnL)(n k t:Nat):mkK pl fl n k (t+1)=mkK pl fl n k t++ownF pl fl n (rawI pl fl n k (frN fl n k+1+t)):=by
 unfold mkK;rw[List.range_succ,List.flatMap_append,List.flatMap_cons,List.flatMap_nil,List.append_nil]
theorem zsy(pl:List PI)(fl:List FnL)(n k:Nat):mkT pl fl n (k+1)=mkT pl fl n k++mkK pl fl n k (toN fl n k-(frN fl n k+1)):=by
 unfold mkT;rw[List.range_succ,List.flatMap_append,List.flatMap_cons,List.flatMap_nil,List.append_nil]
theorem zss(pl:List PI)(fl:List FnL)(n k t:Nat):mdK pl fl n k (t+1)=mdK pl fl n k t++[(k,(ix pl (frN fl n k+1+t)).2.2.1)]:=by
 unfold mdK;rw[List.range_succ,List.map_append,List.map_cons,List.map_nil]
theorem zsu(pl:List PI)(fl:List FnL)(n k:Nat):mdT pl fl n (k+1)=mdT pl fl n k++mdK pl fl n k (toN fl n k-(frN fl n k+1)):=by
 unfold mdT;rw[List.range_succ,List.flatMap_append,List.flatMap_cons,List.flatMap_nil,List.append_nil]
theorem zsx{pl:List PI}{fl:List FnL}{n k m:Nat}{id:Int}:(k,id)∈mkT pl fl n m↔ownP pl fl n id=true/\∃k',k'<m/\∃i,frN fl n k'<i/\i<toN fl n k'/\(k,id)∈rawI pl fl n k' i:=by
 unfold mkT mkK ownF
 simp only[List.mem_flatMap,List.mem_range,List.mem_filter]
 constructor
 ·rintro⟨k',h1,j,h2,h3,h4⟩
  exact⟨h4,k',h1,frN fl n k'+1+j,by omega,by omega,h3⟩
 ·rintro⟨h4,k',h1,i,h2,h3,h5⟩
  exact⟨k',h1,i-(frN fl n k'+1),by omega,by rw[show frN fl n k'+1+(i-(frN fl n k'+1))=i by omega];exact h5,h4⟩
theorem zst{pl:List PI}{fl:List FnL}{n k m:Nat}{id:Int}:(k,id)∈mdT pl fl n m↔k<m/\∃i,frN fl n k<i/\i<toN fl n k/\(ix pl i).2.2.1=id:=by
 unfold mdT mdK
 simp only[List.mem_flatMap,List.mem_range,List.mem_map,Prod.mk.injEq]
 constructor
 ·rintro⟨k',h1,j,h2,rfl,h4⟩
  exact⟨h1,frN fl n k'+1+j,by omega,by omega,h4⟩
 ·rintro⟨h1,i,h2,h3,h5⟩
  exact⟨k,h1,i-(frN fl n k+1),by omega,rfl,by rw[show frN fl n k+1+(i-(frN fl n k+1))=i by omega];exact h5⟩
section
variable {x:Mo} {pl:List PI} {fl:List FnL} {n k i:Nat} {id:Int}
theorem Fls.fr_to(F:Fls pl fl)(hn:n<fl.length)(hk:k<(fx fl n).bk.length):(bx (fx fl n).bk k).2.1=(frN fl n k:Int)/\(bx (fx fl n).bk k).2.2=(toN fl n k:Int)/\frN fl n k+2<=toN fl n k/\toN fl n k<pl.length/\(ix pl (frN fl n k)).1=248:=by
 obtain⟨f,t,h1,h2,h3,h4,_⟩:=F.bl hn hk
 unfold frN toN
 rw[h1]
 exact⟨rfl,rfl,h2,h3,h4⟩
theorem zqD(F:Fls pl fl)(hF:Flo x pl fl)(hn:n<fl.length)(hk:k<(fx fl n).bk.length)(h1:frN fl n k<=i)(h2:i<toN fl n k)(hop:(ix pl i).1=245){j:Nat}(hj:2*j+1<(ix pl i).2.2.2.length) :
  ∃p,p<(fx fl n).bk.length/\lbO (fx fl n).bk ((ix pl i).2.2.2.getD (2*j+1) ag0).2.1=some p/\(bx (fx fl n).bk p).1=((ix pl i).2.2.2.getD (2*j+1) ag0).2.1:=by
 obtain⟨e1,e2,_,e4,_⟩:=F.fr_to hn hk
 have hf:=hF.flt hn hk (i:=i) (by omega) (by omega) (by omega)
 rw[znz]at hf
 have hsc:¬zd9 pl fl n i≠0:=λg=>by rw[if_pos g]at hf;exact g hf
 rw[if_neg hsc]at hf
 have hph:phiU pl fl (nxF pl fl n) n k i=0:=by
  refine Classical.byContradiction λg=>?_
  rw[if_pos g]at hf
  exact g hf
 unfold phiU at hph
 rw[if_neg (λg=>g hop)]at hph
 have hperm:(zaf (fx fl n).bk (nxF pl fl n) k).Perm (parN (ix pl i).2.2.2 (ix pl i).2.2.2.length):=by
  refine Classical.byContradiction λg=>?_
  rw[if_pos g]at hph
  cases hph
 have hq:((ix pl i).2.2.2.getD (2*j+1) ag0).2.1∈parN (ix pl i).2.2.2 (ix pl i).2.2.2.length:=by
  have hl:=Yb (ix pl i).2.2.2 (ix pl i).2.2.2.length
  have hg:=zfu (ix pl i).2.2.2 (ix pl i).2.2.2.length j (by omega)
  rw[zs (by omega)]at hg
  rw[<-hg]
  exact List.getElem_mem _
 have hnl:=zhy pl fl n
 exact zix (nx:=nxF pl fl n) (by omega) hnl (F.lab _ (zf9 hn)) (hperm.mem_iff.2 hq)
theorem ztu(F:Fls pl fl)(hF:Flo x pl fl)(hs:(zG x.2.1 pl).1=0)(hn:n<fl.length)(hk:k<(fx fl n).bk.length):(k,id)∈mkT pl fl n (fx fl n).bk.length↔ownP pl fl n id=true/\usB pl fl n id k=true:=by
 rw[zsx,znM]
 refine and_congr_right λ_=>?_
 obtain⟨A,E,q1,q2,q3,q4,q5,_,T⟩:=F.tl hn
 obtain⟨d1,d2,d3,d4,d5⟩:=F.fr_to hn hk
 constructor
 ·rintro⟨k',hk',i,h1,h2,h3⟩
  obtain⟨e1,e2,e3,e4,e5⟩:=F.fr_to hn hk'
  unfold rawI at h3
  by_cases hop:(ix pl i).1≠245
  ·rw[if_pos hop]at h3
   obtain⟨y,hy,h3⟩:=List.mem_map.1 h3
   simp only[Prod.mk.injEq]at h3
   obtain⟨rfl,rfl⟩:=h3
   refine .inl ⟨i,by omega,?_⟩
   unfold usN
   rw[decide_eq_true (by omega),bne_iff_ne.2 hop,List.contains_iff_mem.2 hy]
   rfl
  ·rw[if_neg hop]at h3
   have hop:(ix pl i).1=245:=Classical.not_not.1 hop
   obtain⟨j,hj,h3⟩:=List.mem_map.1 h3
   simp only[Prod.mk.injEq]at h3
   obtain⟨h3,h4⟩:=h3
   have hj:=List.mem_range.1 hj
   obtain⟨p,hp1,hp2,hp3⟩:=zqD F hF hn hk' (by omega) h2 hop (j:=j) (by omega)
   have hpk:p=k:=by
    unfold lbN at h3
    rw[hp2]at h3
    exact h3
   subst hpk
   have hbk:=T.bks _ (zjG hk')
   refine .inr ⟨i,by omega,?_⟩
   unfold usP
   rw[decide_eq_true (by omega),hop,List.any_eq_true.2 ⟨j,List.mem_range.2 hj,by unfold usQ;rw[h4,hp3];simp⟩]
   rfl
 ·rintro(⟨i,hi,h⟩ | ⟨i,hi,h⟩)
  ·unfold usN at h
   rw[Bool.and_eq_true,Bool.and_eq_true,decide_eq_true_eq,bne_iff_ne,List.contains_iff_mem]at h
   obtain⟨⟨h1,h2⟩,h3,h4⟩:=h
   refine⟨k,hk,i,?_,by omega,?_⟩
   ·by_cases e:i=frN fl n k
    ·subst e
     rw[zre hs (by omega) d5]at h4
     cases h4
    ·omega
   ·unfold rawI
    rw[if_pos h3]
    exact List.mem_map.2 ⟨id,h4,rfl⟩
  ·unfold usP at h
   rw[Bool.and_eq_true,Bool.and_eq_true,decide_eq_true_eq,beq_iff_eq,List.any_eq_true]at h
   obtain⟨⟨h1,h2⟩,hop,j,hj,h4⟩:=h
   have hj:=List.mem_range.1 hj
   unfold usQ at h4
   rw[Bool.and_eq_true,beq_iff_eq,beq_iff_eq]at h4
   have hiA:i≠A:=λe=>by subst e;rw[q5]at hop;cases hop
   rcases T.all i (by omega) (by omega) with hp | ⟨b,hb,g1,g2⟩
   ·obtain⟨m,g1,_,_,g4⟩:=T.par _ hp
    have:m=i:=by omega
    subst this
    rw[g4]at hop;cases hop
   ·obtain⟨k',hk',rfl⟩:=List.getElem_of_mem hb
    have hbx:bx (fx fl n).bk k'=(fx fl n).bk[k']:=zs hk'
    rw[<-hbx]at g1 g2
    obtain⟨e1,e2,e3,e4,e5⟩:=F.fr_to hn hk'
    have hne:i≠frN fl n k':=λe=>by subst e;rw[e5]at hop;cases hop
    refine⟨k',hk',i,by omega,by omega,?_⟩
    unfold rawI
    rw[if_neg (λg=>g hop)]
    refine List.mem_map.2 ⟨j,List.mem_range.2 hj,?_⟩
    simp only[Prod.mk.injEq]
    refine⟨?_,h4.1⟩
    unfold lbN
    rw[h4.2,zgX (F.lab _ (zf9 hn)) hk]
    rfl
theorem ztt(F:Fls pl fl)(hn:n<fl.length)(hk:k<(fx fl n).bk.length)(ho:ownP pl fl n id=true):(k,id)∈mdT pl fl n (fx fl n).bk.length↔mkB pl fl n id k=true:=by
 rw[zst]
 obtain⟨hh,hh1,hh2,hh3⟩:=zjw ho
 obtain⟨m,i,e1,e2,e3,e4,e5,e6,e7,e8,e9⟩:=F.home_inv hh1
 have hmn:m=n:=by omega
 subst hmn
 obtain⟨h3,h4⟩:=zq5 hh1 e1
 obtain⟨d1,d2,d3,d4,d5⟩:=F.fr_to hn hk
 unfold mkB
 rw[beq_iff_eq,<-h3]
 constructor
 ·rintro⟨_,i',g1,g2,g3⟩
  have:=F.homeI hn hk (i:=i') (by omega) (by omega) (by rw[g3];exact e6)
  rw[g3,hh1]at this
  cases this
  rfl
 ·intro hq
  refine⟨hk,i,?_⟩
  rcases e9 with⟨g1,_,_⟩ | ⟨b,hb,g1,g2,g3,g4⟩
  ·omega
  ·have hbk:b=k:=by omega
   subst hbk
   have hne:i≠frN fl m b:=λe=>by
    subst e
    rw[g4,d5]at hh3
    cases hh3
   exact⟨by omega,by omega,e5⟩
end
end Go.Proofs
namespace Go.Proofs
open Go.Gk Go.RowKit Go.Gm
variable {P:Program} {α S:Type}
theorem zqj{t kt et:TypeId}(ht:P.underlying t=some (.map kt et)){f:α->Value}{w:World}{bm:Nat}{L:List (Int×α)}(hM:IsMq w bm f L){body:S->Int->Value->World->(S->World->Prop)->Prop}{fin:S->World->Prop}{s0:S}
  (I:List Int->S->World->Prop) (hst:∀d s w1 w2,w.heap.size<w1.heap.size->I d s w1->Fr w1.heap.size (λi=>i=w.heap.size) w1 w2->I d s w2)
  (h0:∀w1,Below w.heap.size w w1->w1.heap.size=w.heap.size+1->I [] s0 w1)
  (hb:∀d s w1 k v,w.heap.size<w1.heap.size->w1.heap[bm]? =w.heap[bm]?->I d s w1->k∈L.map (·.1)->k ∉ d->∀next:S->World->Prop,(∀s' w2,I (k::d) s' w2->Fr w1.heap.size (λi=>i≠bm/\i≠w.heap.size) w1 w2->next s' w2)->body s k v w1 next)
  (hf:∀d s w1,I d s w1->(∀k∈L.map (·.1),k∈d)->fin s w1) :
  rngW P t (.map (some bm)) w λw4=>zk (S:=S) (λs w5 n=>nxtM P (.pointer (some (blk w.heap.size))) 0 w5 (λ_ _ w6=>entW P (.pointer (some (blk w.heap.size))) (BK.int .u32) BK.raw w6 λ(k:Int) (v:Value)=>body s k v w6 n) (λw7=>fin s w7)) s0 w4:=by
 have hlt:=hM.lt
 obtain⟨⟨es,clock,hes,hmap,hstamp,hnd⟩,hkd⟩:=hM
 refine⟨_,run_range_map (P:=P) w t kt et bm es clock ht hes,?_⟩
 have hI8:(w.alloc (.mapIter (some bm) clock #[] clock)).heap[w.heap.size]? =some (.mapIter (some bm) clock #[] clock):=by
  show(w.heap.push _)[w.heap.size]? =_
  simp
 have b8:Below w.heap.size w (w.alloc (.mapIter (some bm) clock #[] clock)):=(Below.refl _ _).alloc (Nat.le_refl _) _
 have z8:(w.alloc (.mapIter (some bm) clock #[] clock)).heap.size=w.heap.size+1:=by
  show(w.heap.push _).size=_
  simp
 generalize (w.alloc (.mapIter (some bm) clock #[] clock))=w8 at hI8 b8 z8
 have entry:∀e∈es.toList,∃k:Int,e.key =.int .u32 k/\k∈L.map (·.1):=by
  intro e he
  have:(e.key,e.val)∈L.map λp=>(Value.int .u32 p.1,f p.2):=by rw[<-hmap];exact List.mem_map.2 ⟨e,he,rfl⟩
  obtain⟨p,hp1,hp2⟩:=List.mem_map.1 this
  simp only[Prod.mk.injEq]at hp2
  exact⟨p.1,hp2.1.symm,List.mem_map.2 ⟨p,hp1,rfl⟩⟩
 have pair:∀{k:Int},k∈L.map (·.1)->∃e∈es.toList,e.key =.int .u32 k:=by
  intro k hk
  obtain⟨p,hp,rfl⟩:=List.mem_map.1 hk
  have:(Value.int .u32 p.1,f p.2)∈es.toList.map λe=>(e.key,e.val):=by rw[hmap];exact List.mem_map.2 ⟨_,hp,rfl⟩
  obtain⟨e,he,hp2⟩:=List.mem_map.1 this
  simp only[Prod.mk.injEq]at hp2
  exact⟨e,he,hp2.1⟩
 have uniq:∀e1∈es.toList,∀e2∈es.toList,e1.key=e2.key->e1=e2:=by
  have hkn:(es.toList.map (·.key)).Nodup:=by
   have h1:es.toList.map (·.key)=(L.map (·.1)).map (Value.int .u32):=by
    have:=congrArg (List.map Prod.fst) hmap
    rw[List.map_map,List.map_map]at this
    rw[List.map_map]
    exact this
   rw[h1]
   refine List.pairwise_map.2 (hkd.imp λ{a b} h e=>h ?_)
   simp only[Value.int.injEq,true_and]at e
   exact e
  intro e1 h1 e2 h2 hk
  obtain⟨i1,hi1,w1'⟩:=List.mem_iff_getElem.1 h1
  obtain⟨i2,hi2,w2'⟩:=List.mem_iff_getElem.1 h2
  have hi1':i1<(es.toList.map (·.key)).length:=by simpa using hi1
  have hi2':i2<(es.toList.map (·.key)).length:=by simpa using hi2
  have hbb:(es.toList.map (·.key))[i1]=(es.toList.map (·.key))[i2]:=by
   rw[List.getElem_map,List.getElem_map,w1',w2'];exact hk
  have:=(List.getElem_inj hkn).1 hbb
  subst this
  rw[<-w1',<-w2']
 refine zk.ghost (λj (s:S) w'=>∃(seen:Array Nat) (d:List Int),j=(leftOf es seen).size/\w'.heap[w.heap.size]? =some (.mapIter (some bm) clock seen clock)/\w'.heap[bm]? =w.heap[bm]?/\I d s w'/\(∀e∈es.toList,seen.contains e.born=true->∀k:Int,e.key =.int .u32 k->k∈d)/\(∀k∈d,∃e∈es.toList,seen.contains e.born=true/\e.key =.int .u32 k)) (leftOf es #[]).size
  ⟨#[],[],rfl,hI8,b8.block _ hlt,h0 w8 b8 z8,λe _ h=>by simp at h,λk hk=>by cases hk⟩ ?_
 rintro _ s w9 ⟨seen,d,rfl,hI,hM,hJ,hsn,hds⟩ next hnext
 have hlt9:w.heap.size<w9.heap.size:=(Array.getElem?_eq_some_iff.1 hI).1
 rcases run_next_at (P:=P) w9 0 w.heap.size bm clock clock seen es clock hI (hM.trans hes) hstamp (Nat.le_refl _) with⟨hz,hrun⟩ | ⟨e,he,w10,hw10,hrun⟩
 ·refine .inr ⟨w9,hrun,hf d s w9 hJ λk hk=>?_⟩
  obtain⟨e,he,hek⟩:=pair hk
  exact hsn e he (all_seen es seen hz e he) k hek
 ·obtain⟨he1,he2⟩:=mem_left he
  obtain⟨k,q1,q3⟩:=entry e he1
  refine .inl ⟨e.key,e.val,_,hrun,?_⟩
  have hc:Chg w.heap.size w9 (ChangeMaps.setBlock w10 w.heap.size (.mapIter (some bm) clock (seen.push e.born) clock)):=by
   rcases hw10 with rfl |rfl
   ·exact zj6 _ _ _
   ·exact(Chg.refl _ _).drew.trans (zj6 _ _ _)
  have hI11:(ChangeMaps.setBlock w10 w.heap.size (.mapIter (some bm) clock (seen.push e.born) clock)).heap[w.heap.size]? =some (.mapIter (some bm) clock (seen.push e.born) clock):=by
   have:w.heap.size<w10.heap.size:=by rcases hw10 with rfl |rfl<;>exact hlt9
   simp[ChangeMaps.setBlock,this]
  generalize (ChangeMaps.setBlock w10 w.heap.size (.mapIter (some bm) clock (seen.push e.born) clock))=w11 at hc hI11
  have hM11:w11.heap[bm]? =w.heap[bm]?:=(hc.block bm (by omega)).trans hM
  have hrunE:=run_entry_at (P:=P) w11 w.heap.size bm clock seen es clock e hI11 (hM11.trans hes) he1 hnd
  rw[q1]at hrunE
  have hs11:=hc.size
  refine⟨k,e.val,hrunE,hb d s w11 k e.val (by omega) hM11 (hst d s w9 w11 hlt9 hJ hc.fr) q3 (λhkd'=>by
   obtain⟨e',g1,g2,g3⟩:=hds k hkd'
   rw[uniq e' g1 e he1 (g3.trans q1.symm),he2]at g2
   cases g2) next λs' w2 hI2 hfr=>?_⟩
  refine hnext _ s' w2 (left_shrinks es seen e he) ⟨seen.push e.born,k::d,rfl,(hfr.block _ (by omega) (λh=>h.2 rfl)).trans hI11,(hfr.block _ (by omega) (λh=>h.1 rfl)).trans hM11,hI2,λe2 he2' hs2 k2 g1=>?_,λk2 hk2=>?_⟩
  rotate_left
  ·rcases List.mem_cons.1 hk2 with rfl |hk2
   ·exact⟨e,he1,by rw[Array.contains_push];simp,q1⟩
   ·obtain⟨e',g1,g2,g3⟩:=hds k2 hk2
    exact⟨e',g1,by rw[Array.contains_push,g2];rfl,g3⟩
  rw[Array.contains_push]at hs2
  rcases(Bool.or_eq_true_iff.1 hs2).symm with h |h
  ·have hbe:e2.born=e.born:=by simpa using h
   have:e2=e:=by
    obtain⟨i1,hi1,w1'⟩:=List.mem_iff_getElem.1 he2'
    obtain⟨i2,hi2,w2'⟩:=List.mem_iff_getElem.1 he1
    have hi1':i1<(es.toList.map (·.born)).length:=by simpa using hi1
    have hi2':i2<(es.toList.map (·.born)).length:=by simpa using hi2
    have hbb:(es.toList.map (·.born))[i1]=(es.toList.map (·.born))[i2]:=by
     rw[List.getElem_map,List.getElem_map,w1',w2'];exact hbe
    have:=(List.getElem_inj hnd).1 hbb
    subst this
    rw[<-w1',<-w2']
   subst this
   rw[q1]at g1
   simp only[Value.int.injEq,true_and]at g1
   rw[<-g1]
   exact List.mem_cons_self
  ·exact List.mem_cons_of_mem _ (hsn e2 he2' h k2 g1)
end Go.Proofs
namespace Go.Proofs
open Go.Gk Go.RowKit Go.Gm Go.Gr Go.Dm
def Kc(w w':World):Prop:=∀b T cs,Blk w b T cs->Blk w' b T cs
theorem Kc.refl(w:World):Kc w w:=λ_ _ _ h=>h
theorem Kc.trans{a b c:World}(h:Kc a b)(k:Kc b c):Kc a c:=λx T cs q=>k x T cs (h x T cs q)
theorem Kc.of_below{w w':World}(h:Below w.heap.size w w'):Kc w w':=λ_ _ _ q=>q.below h
theorem Kc.own{w w':World}(h:Kc w w'){T:TypeId}{sz:Nat}{s:Sl}{xs:List Value}(hO:Own w T sz s xs):Own w' T sz s xs:=hO.of_block λa ha=>by
 obtain⟨cs,hc⟩:=hO.type ha
 have h1:w.heap[a.block]? =_:=hc
 have h2:w'.heap[a.block]? =_:=h _ _ _ hc
 rw[h1,h2]
theorem Kc.of_chg{α:Type}{f:α->Value}{L:List (Int×α)}{w w':World}{r:Nat}(hM:IsMq w r f L)(c:Chg r w w'):Kc w w':=λb T cs hB=>c.blk hB (λe=>hM.notBlk hB e.symm)
abbrev mpV(b:Nat):Value:=.map (some b)
structure MpsL (w:World) (s:Sl) (bs:List Nat) (ML:List (Nat×Int)):Prop where
 own:Own w 88 1 s (bs.map mpV)
 mp:∀k (h:k<bs.length),∃L,IsMq w bs[k] (Value.int .i64) L/\∀id,zW L id=if (k,id)∈ML then some 1 else none
theorem eMap:YT Tryz.prog 89 88 1 8:=⟨by kernel_rfl,Tryz.t88,.map none,by kernel_rfl,rfl,rfl,rfl,rfl⟩
section
variable {w w' w0:World} {s:Sl} {bs:List Nat} {ML:List (Nat×Int)} {k:Nat} {id:Int}
theorem MpsL.len(h:MpsL w s bs ML):s.l=bs.length:=by have:=h.own.1;rw[List.length_map]at this;omega
theorem MpsL.fr{X:Nat->Prop}(h:MpsL w s bs ML)(hf:Fr w.heap.size X w w')(hb:∀b∈bs,¬X b)(hs:∀b,s.a=some (blk b)->¬X b):MpsL w' s bs ML:=
 ⟨hf.own h.own hs,λk hk=>by
  obtain⟨L,h1,h2⟩:=h.mp k hk
  exact⟨L,h1.of_block (hf.block _ h1.lt (hb _ (List.getElem_mem hk))),h2⟩⟩
theorem MpsL.on(h:MpsL w s bs ML)(hb:Below w.heap.size w w'):MpsL w' s bs ML:=h.fr (X:=λ_=>False) (Fr.of_below hb) (λ_ _=>id) (λ_ _=>id)
theorem MpsL.lt(h:MpsL w s bs ML){b:Nat}(hb:b∈bs):b<w.heap.size:=by
 obtain⟨k,hk,rfl⟩:=List.getElem_of_mem hb
 obtain⟨L,h1,_⟩:=h.mp k hk
 exact h1.lt
theorem MpsL.notBlk(h:MpsL w s bs ML){b c:Nat}(hb:b∈bs){T:TypeId}{cs:List Value}(hB:Blk w c T cs):b≠c:=by
 obtain⟨k,hk,rfl⟩:=List.getElem_of_mem hb
 obtain⟨L,h1,_⟩:=h.mp k hk
 exact h1.notBlk hB
theorem MpsL.notOwn(h:MpsL w s bs ML){b:Nat}(hb:b∈bs){T:TypeId}{sz:Nat}{t:Sl}{xs:List Value}(hO:Own w T sz t xs):t.a≠some (blk b):=λe=>by
 obtain⟨cs,hc⟩:=hO.type e
 exact h.notBlk hb hc rfl
theorem MpsL.kc(h:MpsL w s bs ML){b:Nat}(hb:b∈bs)(c:Chg b w w'):Kc w w':=by
 obtain⟨k,hk,rfl⟩:=List.getElem_of_mem hb
 obtain⟨L,h1,_⟩:=h.mp k hk
 exact Kc.of_chg h1 c
theorem MpsL.addr(h:MpsL w s bs ML)(hk:k<bs.length){φ:Option Nat->Prop}(hφ:φ (some bs[k])) :
  (0<=(k:Int)/\(k:Int)<(s.l:Int))/\zc s.a λa=>ldM w (a.add (Int.toNat (k:Int))) φ:=by
 have hl:=h.len
 exact h.own.isS.addr hk λ_ _ hc=>⟨some bs[k],hc,hφ⟩
theorem MpsL.chg(h:MpsL w s bs ML)(hnd:bs.Nodup)(hk:k<bs.length)(c:Chg bs[k] w w'){L:List (Int×Int)}{ML':List (Nat×Int)}(hL:IsMq w' bs[k] (Value.int .i64) L)(h1:∀id,zW L id=if (k,id)∈ML' then some 1 else none)
  (h2:∀j id,j≠k->((j,id)∈ML'↔(j,id)∈ML)):MpsL w' s bs ML':=by
 refine⟨(h.kc (List.getElem_mem hk) c).own h.own,λj hj=>?_⟩
 by_cases e:j=k
 ·subst e
  exact⟨L,hL,h1⟩
 ·obtain⟨L2,g1,g2⟩:=h.mp j hj
  refine⟨L2,g1.of_block (c.block _ λq=>e ((List.getElem_inj hnd).1 q)),λid=>?_⟩
  rw[g2 id]
  simp only[h2 j id e]
theorem MpsL.put(h:MpsL w s bs ML)(hnd:bs.Nodup)(hk:k<bs.length){K:World->Prop}(hK:∀w',MpsL w' s bs (ML++[(k,id)])->Chg bs[k] w w'->K w'):updW Tryz.prog 88 (.map (some bs[k])) (.int .u32 id) (.int .i64 1) w K:=by
 obtain⟨L,g1,g2⟩:=h.mp k hk
 refine zkZ zj7 uU32 g1 (v:=(1:Int)) rfl λw' hL c=>hK w' (h.chg hnd hk c hL (λid'=>?_) λj id' e=>?_) c
 ·rw[zhs,g2 id']
  by_cases e:id'=id
  ·subst e
   rw[if_pos rfl,if_pos (List.mem_append_right _ (List.mem_singleton.2 rfl))]
  ·rw[if_neg e]
   simp[e]
 ·simp[e]
theorem MpsL.del(h:MpsL w s bs ML)(hnd:bs.Nodup)(hk:k<bs.length){K:World->Prop}(hK:∀w',MpsL w' s bs (ML.filter λp=>decide (p≠(k,id)))->Chg bs[k] w w'->K w'){ts:Array TypeId}(hts:ts[0]? =some 88):delS Tryz.prog ts (.map (some bs[k])) (.int .u32 id) w K:=by
 obtain⟨L,g1,g2⟩:=h.mp k hk
 refine ztd zj7 uU32 g1 (λw' hL c=>hK w' (h.chg hnd hk c hL (λid'=>?_) λj id' e=>?_) c) hts
 ·rw[zmL _ _ g1.nd,g2 id']
  by_cases e:id'=id
  ·subst e
   rw[if_pos rfl,if_neg (by simp)]
  ·rw[if_neg e]
   simp[e]
 ·simp[e]
theorem MpsL.look(h:MpsL w s bs ML)(hk:k<bs.length){φ:Int->Prop}(hφ:φ (if (k,id)∈ML then 1 else 0)):zlF Tryz.prog 88 (.map (some bs[k])) (.int .u32 id) (BK.int .i64) w φ:=by
 obtain⟨L,g1,g2⟩:=h.mp k hk
 refine zrl zj7 uU32 zInt g1 ?_
 rw[g2 id]
 split
 ·rename_i e;rw[if_pos e]at hφ;exact hφ
 ·rename_i e;rw[if_neg e]at hφ;exact hφ
theorem zqv{t:Sl}{cs:List Nat}{VL:List (Nat×Int)}(h:MpsL w s bs [])(hb:Below w0.heap.size w0 w)(hF:zz w0.heap.size s)(hl:bs.length<=17592186044000)(h2:MpsL w t cs VL)(hap:∀b,s.a=some (blk b)->t.a≠some (blk b)){K:Sl->World->Prop}
  (hK:∀r w',MpsL w' r (bs++[w.heap.size]) []->zz w0.heap.size r->Below w0.heap.size w0 w'->MpsL w' t cs VL->(∀b,r.a=some (blk b)->t.a≠some (blk b))->w.heap.size<w'.heap.size->(∀b T xs,T≠88->Blk w b T xs->Blk w' b T xs)->K r w') :
  Nw (w.alloc (.map #[] 0)) λw4=>Nw (w4.alloc (.cells #[.map (some w.heap.size)] 88)) λw5=>zp Tryz.prog 89 (.slice s.a s.l s.c) (.slice (some (blk w4.heap.size)) 1 1) w5 K:=by
 refine Nw.gen λw4 hw4=>?_
 have b4:Below w.heap.size w w4:=by rw[hw4];exact(Below.refl _ _).alloc (Nat.le_refl _) _
 have m4:IsMq w4 w.heap.size (Value.int .i64) ([]:List (Int×Int)):=by rw[hw4];exact IsMq.new w _
 clear hw4
 refine zn λw5 h5 b5 z5=>?_
 have h5:Blk w5 w4.heap.size 88 [mpV w.heap.size]:=h5
 have b45:=b4.on b5
 have h5s:=h.on b45
 have h5t:=h2.on b45
 have m5:=m4.below b5
 have hsl:=h.len
 have hm5:=m4.lt
 have z5':=b5.size
 refine zcR eMap h5s.own (vs:=[mpV w.heap.size]) rfl (λu hu=>by rw[List.mem_singleton.1 hu];rfl) h5 (by omega) (by omega) λr w' b' g1 _ g3 g4 hf=>?_
 have hx:∀k,s.a=some (blk k)->w0.heap.size<=k:=λk h=>hF _ h
 have hs:=hb.size
 have hz:=hf.size
 have hns:∀b T xs,T≠88->Blk w5 b T xs->s.a≠some (blk b):=λb T xs hT hB=>yI h5s.own hB (Ne.symm hT)
 have hsl':∀b,s.a=some (blk b)->b<w.heap.size:=λb e=>(h.own.lt e).2
 have m':IsMq w' w.heap.size (Value.int .i64) ([]:List (Int×Int)):=m5.of_block (hf.block _ (by omega) λe=>by have:=hsl' _ e;omega)
 refine hK r w' ⟨by rw[List.map_append];exact g1,λk hk=>?_⟩ (λa ha=>?_) (zdw (hb.on b45) hf hx) (h5t.fr hf (λb hb' e=>h5t.notOwn hb' h5s.own e) λb e1 e2=>hap b e2 e1) (λb e1 e2=>?_) (by omega) (λb T xs hT hB=>(hB.below b45).of_block (hf.block _ (hB.below b45).lt (hns _ _ _ hT (hB.below b45))))
 ·by_cases e:k<bs.length
  ·obtain⟨L,q1,q2⟩:=h5s.mp k e
   rw[List.getElem_append_left e]
   exact⟨L,q1.of_block (hf.block _ q1.lt (h5s.notOwn (List.getElem_mem e) h5s.own)),q2⟩
  ·have hke:k=bs.length:=by rw[List.length_append]at hk;simp only[List.length_cons,List.length_nil]at hk;omega
   subst hke
   rw[List.getElem_append_right (Nat.le_refl _)]
   simp only[Nat.sub_self,List.getElem_cons_zero]
   exact⟨[],m',λid=>by simp[zW]⟩
 ·rw[g3]at ha
  cases ha
  rcases g4 with g4 |g4
  ·exact hx _ g4
  ·show w0.heap.size<=b';omega
 ·rw[g3]at e1
  have e1:b'=b:=by cases e1;rfl
  subst e1
  rcases g4 with g4 |g4
  ·exact hap _ g4 e2
  ·have:b'<w.heap.size:=(h2.own.lt e2).2
   omega
end
structure Us2 (w0 w:World) (u m:Sl) (bs cs:List Nat) (ML VL:List (Nat×Int)):Prop where
 below:Below w0.heap.size w0 w
 mu:MpsL w u bs ML
 mm:MpsL w m cs VL
 nd:(bs++cs).Nodup
 ge:∀b∈bs++cs,w0.heap.size<=b
 fu:zz w0.heap.size u
 fm:zz w0.heap.size m
theorem zrs{bs cs:List Nat}{a b:Nat}(h:(bs++cs).Nodup)(hlt:∀x∈bs++cs,x<a)(hab:a<b):(bs++[a]++(cs++[b])).Nodup:=by
 have hl1:∀x∈bs,x<a:=λx hx=>hlt x (List.mem_append_left _ hx)
 have hl2:∀x∈cs,x<a:=λx hx=>hlt x (List.mem_append_right _ hx)
 rw[List.nodup_append]at h
 obtain⟨h1,h2,h3⟩:=h
 rw[List.nodup_append,List.nodup_append,List.nodup_append]
 refine⟨⟨h1,by simp,λx hx y hy=>?_⟩,⟨h2,by simp,λx hx y hy=>?_⟩,λx hx y hy=>?_⟩
 ·have:=hl1 x hx;rw[List.mem_singleton]at hy;omega
 ·have:=hl2 x hx;rw[List.mem_singleton]at hy;omega
 ·rcases List.mem_append.1 hx with hx |hx<;>rcases List.mem_append.1 hy with hy |hy
  ·exact h3 x hx y hy
  ·have:=hl1 x hx;rw[List.mem_singleton]at hy;omega
  ·have:=hl2 y hy;rw[List.mem_singleton]at hx;omega
  ·rw[List.mem_singleton]at hx hy;omega
theorem zch{bs cs:List Nat}(h:(bs++cs).Nodup):bs.Nodup/\cs.Nodup/\∀a∈bs,∀b∈cs,a≠b:=List.nodup_append.1 h
section
variable {x:Mo} {pl:List PI} {fl:List FnL} {n bb:Nat} {w w' w0:World} {u m:Sl} {bs cs:List Nat} {ML VL:List (Nat×Int)} {k:Nat} {id:Int} {R:VWP}
theorem Us2.on(h:Us2 w0 w u m bs cs ML VL)(hb:Below w.heap.size w w'):Us2 w0 w' u m bs cs ML VL:=⟨h.below.on hb,h.mu.on hb,h.mm.on hb,h.nd,h.ge,h.fu,h.fm⟩
theorem MpsL.other(h:MpsL w m cs VL){r:Nat}(c:Chg r w w')(hk:Kc w w')(hr:r ∉ cs):MpsL w' m cs VL:=⟨hk.own h.own,λk hk=>by
 obtain⟨L,h1,h2⟩:=h.mp k hk
 exact⟨L,h1.of_block (c.block _ λe=>hr (e▸List.getElem_mem hk)),h2⟩⟩
theorem Us2.putU(h:Us2 w0 w u m bs cs ML VL)(hk:k<bs.length){K:World->Prop}(hK:∀w',Us2 w0 w' u m bs cs (ML++[(k,id)]) VL->Kc w w'->K w'):updW Tryz.prog 88 (.map (some bs[k])) (.int .u32 id) (.int .i64 1) w K:=by
 obtain⟨n1,n2,n3⟩:=zch h.nd
 have hm:=List.getElem_mem hk
 refine h.mu.put n1 hk λw' h1 c=>?_
 have kc:=h.mu.kc hm c
 exact hK w' ⟨c.below h.below (h.ge _ (List.mem_append_left _ hm)),h1,h.mm.other c kc λq=>n3 _ hm _ q rfl,h.nd,h.ge,h.fu,h.fm⟩ kc
theorem Us2.putM(h:Us2 w0 w u m bs cs ML VL)(hk:k<cs.length){K:World->Prop}(hK:∀w',Us2 w0 w' u m bs cs ML (VL++[(k,id)])->Kc w w'->K w'):updW Tryz.prog 88 (.map (some cs[k])) (.int .u32 id) (.int .i64 1) w K:=by
 obtain⟨n1,n2,n3⟩:=zch h.nd
 have hm:=List.getElem_mem hk
 refine h.mm.put n2 hk λw' h1 c=>?_
 have kc:=h.mm.kc hm c
 exact hK w' ⟨c.below h.below (h.ge _ (List.mem_append_right _ hm)),h.mu.other c kc λq=>n3 _ q _ hm rfl,h1,h.nd,h.ge,h.fu,h.fm⟩ kc
theorem zmN{c0 c1:Nat}{T0 T1:TypeId}(hbd:IsBd w0 bb x pl fl n)(h:Us2 w0 w u m bs cs ML VL)(hC0:Blk w c0 T0 [.pointer (some (Gk.blk bb))])(hC1:Blk w c1 T1 [.slice u.a u.l u.c])(hk:k<bs.length)
  (hR:∀w',Us2 w0 w' u m bs cs (ML++ownF pl fl n [(k,id)]) VL->Kc w w'->R (.tuple #[]) w'):cR 100 #[.int .i64 (k:Int),.int .u32 id,.pointer (some (Gk.blk c0)),.pointer (some (Gk.blk c1))] w R:=by
 refine za.of (zf8 (k:Int) id (Gk.blk c0) (Gk.blk c1) R w ?_) λ_ _ h=>h
 refine⟨some (Gk.blk bb),hC0.cell0 rfl,zoL (hbd.below h.below) λw1 b1=>⟨(hmO pl fl id).getD hm0,ownP pl fl n id,rfl,?_⟩⟩
 refine box4 rfl λw6 h6 b6 z6=>?_
 have b16:=b1.on b6
 have h6':=h.on b16
 refine zo (λho=>?_) (λho=>?_)
 ·refine⟨u,(hC1.below b16).cell0 rfl,h6'.mu.addr hk (h6'.putU hk λw7 h7 kc=>hR w7 ?_ ((Kc.of_below b16).trans kc))⟩
  unfold ownF
  rw[List.filter_cons,if_pos (by exact ho),List.filter_nil]
  exact h7
 ·refine hR w6 ?_ (Kc.of_below b16)
  unfold ownF
  rw[List.filter_cons,if_neg (by rw[ho];decide),List.filter_nil,List.append_nil]
  exact h6'
theorem zs7(l l':List (Nat×Int)):ownF pl fl n (l++l')=ownF pl fl n l++ownF pl fl n l':=List.filter_append ..
theorem zte{w0 w:World}{s:Sl}{pl:List PI}(h:IsPl w0 s pl)(hb:Below w0.heap.size w0 w){F j M:Nat}(hk:F+j<pl.length)(hj:j<M){φ:Int->Int->Int->Sl->Prop}(hφ:∀t,IsAg w0 t pl[F+j].2.2.2->φ pl[F+j].1 pl[F+j].2.1 pl[F+j].2.2.1 t) :
  (0<=(j:Int)/\(j:Int)<((M:Nat):Int))/\zc (if s.c=F then s.a else Option.map (λa=>a.add (F*4)) s.a) λa=>ldI w ((a.add (Int.toNat (j:Int)*4)).add 0) .u16 λx=>ldI w ((a.add (Int.toNat (j:Int)*4)).add 1) .u32 λy=>ldI w ((a.add (Int.toNat (j:Int)*4)).add 2) .u32 λz=>ldS w ((a.add (Int.toNat (j:Int)*4)).add 3) λt=>φ x y z t:=by
 obtain⟨⟨_,_⟩,hd⟩:=ztf h hb hk hφ
 obtain⟨a,ha⟩:=h.base hk
 have hl:=h.len
 have hc:=h.cap
 refine⟨⟨by omega,by omega⟩,?_⟩
 rw[if_neg (by omega),ha]
 rw[ha]at hd
 have e:∀c,((a.add (F*4)).add (Int.toNat (j:Int)*4)).add c=(a.add (Int.toNat ((F+j:Nat):Int)*4)).add c:=λc=>by
  rw[Int.toNat_natCast,Int.toNat_natCast,zy,zy,zy,Nat.add_mul,Nat.add_assoc]
 change ldI w (((a.add (F*4)).add (Int.toNat (j:Int)*4)).add 0) .u16 λx=>ldI w (((a.add (F*4)).add (Int.toNat (j:Int)*4)).add 1) .u32 λy=>ldI w (((a.add (F*4)).add (Int.toNat (j:Int)*4)).add 2) .u32 λz=>ldS w (((a.add (F*4)).add (Int.toNat (j:Int)*4)).add 3) λt=>φ x y z t
 rw[e 0,e 1,e 2,e 3]
 exact hd
set_option maxHeartbeats 4000000 in
theorem zr4(F:Fls pl fl)(hF:Flo x pl fl)(hp:PlOk pl)(hn:n<fl.length)(h:IsBd w bb x pl fl n)
  (hR:∀w' u m bs cs,Us2 w w' u m bs cs (mkT pl fl n (fx fl n).bk.length) (mdT pl fl n (fx fl n).bk.length)->bs.length=(fx fl n).bk.length->cs.length=(fx fl n).bk.length->R (.tuple #[.slice u.a u.l u.c,.slice m.a m.l m.c]) w') :
  cR 62 #[.pointer (some (Gk.blk bb))] w R:=by
 refine za.of (zgP _ R w ?_) λ_ _ h=>h
 obtain⟨v,hr,gb,tb,M,ov,dp,hB,hN,hFn,hM,hl,hG,hD⟩:=h.ex
 refine zn λw1 hA1 b1 z1=>?_
 have hA1:Blk w1 w.heap.size 76 [.pointer (some (Gk.blk bb))]:=hA1
 refine zn λw2 hU2 b2 z2=>?_
 have hU2:Blk w2 w1.heap.size 89 [.slice none 0 0]:=hU2
 have hb2:=b1.on b2
 have hA2:=hA1.below b2
 refine⟨some (Gk.blk bb),hA2.cell0 rfl,zj rfl (zeW (hB.below hb2) ?_)⟩
 have hlen:=hp.len
 have hbk:=hFn.bk
 have hbkl:=hbk.len
 have hKl:(fx fl n).bk.length<=pl.length:=by
  have:=(zlz pl pl.length).2 (fx fl n) (by rw[<-F.cut];exact zf9 hn)
  exact this.2
 have s1:=b1.size
 refine zk.countSl (fx fl n).bk.length (by omega) (λk r w'=>∃u bs cs,Us2 w w' u r bs cs [] []/\bs.length=k/\cs.length=k/\Blk w' w.heap.size 76 [.pointer (some (Gk.blk bb))]/\Blk w' w1.heap.size 89 [.slice u.a u.l u.c]/\(∀b,u.a=some (Gk.blk b)->r.a≠some (Gk.blk b)))
  ⟨⟨none,0,0⟩,[],[],⟨hb2,⟨Own.nil _ _ _,λk h=>(by cases h)⟩,⟨Own.nil _ _ _,λk h=>(by cases h)⟩,by simp,by simp,λa ha=>(by cases ha),λa ha=>(by cases ha)⟩,rfl,rfl,hA2,hU2,λb e=>(by cases e)⟩ ?_
 rintro k r w3 hk ⟨u,bs,cs,h3,hbl,hcl,hA3,hU3,hap⟩ next hnext
 refine zf (λg=>?_) (λg=>?_)
 ·have hkl:k<(fx fl n).bk.length:=by dsimp only at g;omega
  refine⟨u,hU3.cell0 rfl,?_⟩
  refine zqv h3.mu h3.below h3.fu (by omega) h3.mm hap λu' w6 q1 q2 q3 q4 q5 q6 q7=>?_
  have hU6:=q7 _ _ _ (by decide) hU3
  have hA6:=q7 _ _ _ (by decide) hA3
  refine⟨hU6.wr0 (by simp),Nw.gen λw7 hw7=>?_⟩
  have c7:Chg w1.heap.size w6 w7:=by rw[hw7];exact Chg.set _ 0 _ _
  have hU7:Blk w7 w1.heap.size 89 [.slice u'.a u'.l u'.c]:=by rw[hw7];exact hU6.set0 _
  clear hw7
  have hA7:=c7.blk hA6 (by omega)
  have hU7s:MpsL w7 u' (bs++[w3.heap.size]) []:=q1.fr (c7.fr (B:=w6.heap.size)) (λb hb e=>q1.notBlk hb hU6 e) λb e e2=>by
   subst e2
   exact yI q1.own hU6 (by decide) e
  have hM7:MpsL w7 r cs []:=q4.fr (c7.fr (B:=w6.heap.size)) (λb hb e=>q4.notBlk hb hU6 e) λb e e2=>by
   subst e2
   exact yI q4.own hU6 (by decide) e
  have hb7:=c7.below q3 (by omega)
  have z7:=c7.size
  refine zqv hM7 hb7 h3.fm (by omega) hU7s (λb e1 e2=>q5 b e2 e1) λr' w10 p1 p2 p3 p4 p5 p6 p7=>?_
  have hge:=h3.ge
  have hz3:=h3.below.size
  refine hnext r' w10 hkl ⟨u',bs++[w3.heap.size],cs++[w7.heap.size],⟨p3,p4,p1,zrs h3.nd (λy hy=>?_) (by omega),λb hb=>?_,q2,p2⟩,by rw[List.length_append,hbl];rfl,by rw[List.length_append,hcl];rfl,p7 _ _ _ (by decide) hA7,p7 _ _ _ (by decide) hU7,λb e1 e2=>p5 b e2 e1⟩
  ·rcases List.mem_append.1 hy with hy |hy
   ·exact h3.mu.lt hy
   ·exact h3.mm.lt hy
  ·rcases List.mem_append.1 hb with hb |hb<;>rcases List.mem_append.1 hb with hb |hb
   ·exact hge b (List.mem_append_left _ hb)
   ·rw[List.mem_singleton.1 hb];omega
   ·exact hge b (List.mem_append_right _ hb)
   ·rw[List.mem_singleton.1 hb];omega
 have hke:k=(fx fl n).bk.length:=by dsimp only at g;omega
 clear hnext next
 refine⟨some (Gk.blk bb),hA3.cell0 rfl,zj rfl (zeW (hB.below h3.below) ?_)⟩
 refine zk.count (fx fl n).bk.length (by omega) (λk w'=>Us2 w w' u r bs cs (mkT pl fl n k) (mdT pl fl n k)/\Blk w' w.heap.size 76 [.pointer (some (Gk.blk bb))]/\Blk w' w1.heap.size 89 [.slice u.a u.l u.c]) ⟨h3,hA3,hU3⟩ ?_
 subst hke
 clear h3 hA3 hU3 g hk
 rintro k w11 hk ⟨h11,hA11,hU11⟩ next hnext
 have hb11:=h11.below
 refine zf (λg=>?_) (λg=>?_)
 rotate_left
 ·have hke:k=(fx fl n).bk.length:=by dsimp only at g;omega
  subst hke
  refine⟨u,hU11.cell0 rfl,hU11.wr0 (by simp),Nw.gen λw12 hw12=>?_⟩
  have c12:Chg w1.heap.size w11 w12:=by rw[hw12];exact Chg.set _ 0 _ _
  have hU12:Blk w12 w1.heap.size 89 [.slice u.a u.l u.c]:=by rw[hw12];exact hU11.set0 _
  clear hw12
  have f12:=c12.fr (B:=w11.heap.size)
  refine⟨u,hU12.cell0 rfl,hR w12 u r bs cs ⟨c12.below hb11 (by omega),h11.mu.fr f12 (λb hb e=>h11.mu.notBlk hb hU11 e) (λb e e2=>?_),h11.mm.fr f12 (λb hb e=>h11.mm.notBlk hb hU11 e) (λb e e2=>?_),h11.nd,h11.ge,h11.fu,h11.fm⟩ hbl hcl⟩
  ·subst e2;exact yI h11.mu.own hU11 (by decide) e
  ·subst e2;exact yI h11.mm.own hU11 (by decide) e
 have hkl:k<(fx fl n).bk.length:=by dsimp only at g;omega
 obtain⟨d1,d2,d3,d4,d5⟩:=F.fr_to hn hkl
 have hbx:bx (fx fl n).bk k=(fx fl n).bk[k]:=zs hkl
 rw[hbx]at d1 d2
 refine zf4 (IsC.below zU hbk hb11) hkl (box3 rfl λw15 hX15 b15 z15=>?_)
 rw[d1,d2]at hX15
 have hX15:Blk w15 w11.heap.size 42 [.int .u32 (fx fl n).bk[k].1,.int .i64 (frN fl n k:Int),.int .i64 (toN fl n k:Int)]:=hX15
 have hA15:=hA11.below b15
 have h15:=h11.on b15.drew
 refine⟨some (Gk.blk bb),hA15.drew.cell0 rfl,zj rfl ((hB.below h15.below).rS (n:=2) (x:=x.2.2.1) rfl (hX15.drew.rI (n:=1) (x:=(frN fl n k:Int)) rfl (hX15.drew.rI (n:=2) (x:=(toN fl n k:Int)) rfl ?_)))⟩
 rw[zr (by omega)]
 have hNl:=hN.len
 have hNc:=hN.cap
 refine⟨⟨by omega,by omega,by omega⟩,?_⟩
 rw[Int.toNat_natCast,Int.toNat_natCast]
 refine zk.count (toN fl n k-(frN fl n k+1)) (by omega) (λt w'=>Us2 w w' u r bs cs (mkT pl fl n k++mkK pl fl n k t) (mdT pl fl n k++mdK pl fl n k t)/\Blk w' w.heap.size 76 [.pointer (some (Gk.blk bb))]/\Blk w' w1.heap.size 89 [.slice u.a u.l u.c])
  ⟨by simpa[mkK,mdK] using h15,hA15.drew,(hU11.below b15).drew⟩ ?_
 rintro t w16 ht ⟨h16,hA16,hU16⟩ next2 hnext2
 refine zf (λg2=>?_) (λg2=>?_)
 rotate_left
 ·have hte:t=toN fl n k-(frN fl n k+1):=by dsimp only at g2;omega
  subst hte
  refine hnext w16 hkl ⟨?_,hA16,hU16⟩
  rw[zsy,zsu]
  exact h16
 have htl:t<toN fl n k-(frN fl n k+1):=by dsimp only at g2;omega
 have hil:frN fl n k+1+t<pl.length:=by omega
 have hix:=yg hil
 refine zl.cut (λ(_:Unit) w'=>Us2 w w' u r bs cs (mkT pl fl n k++mkK pl fl n k (t+1)) (mdT pl fl n k++mdK pl fl n k (t+1))/\Blk w' w.heap.size 76 [.pointer (some (Gk.blk bb))]/\Blk w' w1.heap.size 89 [.slice u.a u.l u.c]) ?_ λ_ w' h'=>hnext2 w' htl h'
 rw[zsw,zss,<-List.append_assoc,<-List.append_assoc]
 have hb16:=h16.below
 refine zte hN hb16 hil htl λtl hI=>box4 rfl λw21 hI21 b21 z21=>?_
 have hI21:Blk w21 w16.heap.size 50 (inV (mkIn pl[frN fl n k+1+t] tl)):=hI21
 have b21d:=b21.drew
 have h21:=h16.on b21d
 have hI21d:=hI21.drew
 generalize hi:frN fl n k+1+t=i at *
 refine h21.mm.addr (by omega) (hI21d.rI (n:=2) (x:=pl[i].2.2.1) rfl (h21.putM (by omega) λw22 h22 kc=>?_))
 have k22:=(Kc.of_below b21d).trans kc
 have hI22:=kc _ _ _ hI21d
 have hA22:=k22 _ _ _ hA16
 have hU22:=k22 _ _ _ hU16
 rw[show pl[i].2.2.1=(ix pl i).2.2.1 by rw[hix]]at h22
 have hag:=hI.below h22.below
 have hVL:∀{w':World} {ML':List (Nat×Int)},Us2 w w' u r bs cs ML' (mdT pl fl n k++mdK pl fl n k t++[(k,(ix pl i).2.2.1)])->Us2 w w' u r bs cs ML' (mdT pl fl n k++mdK pl fl n k t++[(k,(ix pl i).2.2.1)]):=λh=>h
 have htl':=hag.len
 have hal:=hp.at hil
 have has:(ix pl i).2.2.2=pl[i].2.2.2:=by rw[hix]
 have step:∀{q:Nat} (hq:q<(rawI pl fl n k i).length) {w':World} {VL':List (Nat×Int)},Us2 w w' u r bs cs (mkT pl fl n k++mkK pl fl n k t++ownF pl fl n ((rawI pl fl n k i).take q)++ownF pl fl n [(rawI pl fl n k i)[q]]) VL'->Us2 w w' u r bs cs (mkT pl fl n k++mkK pl fl n k t++ownF pl fl n ((rawI pl fl n k i).take (q+1))) VL':=λ{q} hq {w' VL'} h'=>by
  rw[List.take_succ_eq_append_getElem hq,zs7,<-List.append_assoc]
  exact h'
 refine hI22.rI0 rfl (zt (λhne=>?_) (λhe=>?_))
 ·have hne:(ix pl i).1≠245:=by rw[hix];exact hne
  have hraw:rawI pl fl n k i=(zL pl i).map λid=>(k,id):=by unfold rawI;rw[if_pos hne]
  refine Ins.load (x:=mkIn pl[i] tl) hI22 (zi7 (x:=mkIn pl[i] tl) hag hal λs w23 hr23 _ b23=>⟨s,rfl,?_⟩)
  have hids:idsP pl[i].2.1 pl[i].2.2.2=zL pl i:=by unfold zL;rw[hix]
  have hr23:Own w23 22 1 s ((zL pl i).map (Value.int .u32)):=by rw[<-hids];exact hr23
  have hSl:=hr23.isS.len
  have hrl:(rawI pl fl n k i).length=(zL pl i).length:=by rw[hraw,List.length_map]
  refine zk.count (zL pl i).length hr23.isS.bound (λq w'=>Us2 w w' u r bs cs (mkT pl fl n k++mkK pl fl n k t++ownF pl fl n ((rawI pl fl n k i).take q)) (mdT pl fl n k++mdK pl fl n k t++[(k,(ix pl i).2.2.1)])/\Kc w23 w')
   ⟨by simpa[ownF] using h22.on b23,Kc.refl _⟩ ?_
  rintro q w24 hq ⟨h24,k24⟩ next3 hnext3
  have hA24:=k24 _ _ _ (hA22.below b23)
  have hU24:=k24 _ _ _ (hU22.below b23)
  refine zf (λg3=>?_) (λg3=>?_)
  ·have hql:q<(zL pl i).length:=by dsimp only at g3;omega
   refine zcK (k24.own hr23).isS hql (zmN h h24 hA24 hU24 (by omega) λw25 h25 k25=>⟨rfl,hnext3 w25 hql ⟨step (by omega) ?_,k24.trans k25⟩⟩)
   have e:(rawI pl fl n k i)[q]'(by omega)=(k,(zL pl i)[q]):=by simp only[hraw,List.getElem_map]
   rw[e]
   exact h25
  ·have hqe:q=(rawI pl fl n k i).length:=by dsimp only at g3;omega
   rw[hqe,List.take_length]at h24
   exact⟨h24,hA24,hU24⟩
 ·have he:(ix pl i).1=245:=by rw[hix];exact he
  have hev:=F.phi i hil he
  have hraw:rawI pl fl n k i=(List.range ((ix pl i).2.2.2.length / 2)).map λj=>(lbN (fx fl n).bk ((ix pl i).2.2.2.getD (2*j+1) ag0).2.1,((ix pl i).2.2.2.getD (2*j) ag0).2.1):=by unfold rawI;rw[if_neg (λg=>g he)]
  have hrl:(rawI pl fl n k i).length=(ix pl i).2.2.2.length / 2:=by rw[hraw,List.length_map,List.length_range]
  refine Ins.load (x:=mkIn pl[i] tl) hI22 (zhj (x:=mkIn pl[i] tl) hag hal λs1 s2 w26 hv26 hp26 _ _ b26=>⟨s1,s2,rfl,?_⟩)
  rw[<-has]at hv26 hp26
  have hvl:=zhh (ix pl i).2.2.2 (ix pl i).2.2.2.length
  have hpl:=Yb (ix pl i).2.2.2 (ix pl i).2.2.2.length
  have hSl:=hv26.isS.len
  refine zk.count ((ix pl i).2.2.2.length / 2) (by rw[has];omega) (λq w'=>Us2 w w' u r bs cs (mkT pl fl n k++mkK pl fl n k t++ownF pl fl n ((rawI pl fl n k i).take q)) (mdT pl fl n k++mdK pl fl n k t++[(k,(ix pl i).2.2.1)])/\Kc w26 w')
   ⟨by simpa[ownF] using h22.on b26,Kc.refl _⟩ ?_
  rintro q w27 hq ⟨h27,k27⟩ next3 hnext3
  have hA27:=k27 _ _ _ (hA22.below b26)
  have hU27:=k27 _ _ _ (hU22.below b26)
  refine zf (λg3=>?_) (λg3=>?_)
  ·have hql:q<(ix pl i).2.2.2.length / 2:=by dsimp only at g3;omega
   have h27d:=h27.on ((Below.refl _ _).drew)
   obtain⟨p,hp1,hp2,hp3⟩:=zqD F hF hn hkl (i:=i) (by omega) (by omega) he (j:=q) (by omega)
   refine zcK (k27.own hv26).isS (by omega) ⟨some (Gk.blk bb),hA27.drew.cell0 rfl,zj rfl ⟨some hr,(hB.below h27d.below).cell (n:=9) rfl,?_⟩⟩
   refine zcK (l:=parN (ix pl i).2.2.2 (ix pl i).2.2.2.length) ((k27.trans (Kc.of_below (Below.refl _ _).drew)).own hp26).isS (k:=q) (by omega) (zsn (hM.below h27d.below) ?_)
   have e1:(parN (ix pl i).2.2.2 (ix pl i).2.2.2.length)[q]'(by omega)=((ix pl i).2.2.2.getD (2*q+1) ag0).2.1:=by
    have:=zfu (ix pl i).2.2.2 (ix pl i).2.2.2.length q (by omega)
    rwa[zs (by omega)]at this
   have e2:(valN (ix pl i).2.2.2 (ix pl i).2.2.2.length)[q]'(by omega)=((ix pl i).2.2.2.getD (2*q) ag0).2.1:=by
    have:=zma (ix pl i).2.2.2 (ix pl i).2.2.2.length q (by omega)
    rwa[zs (by omega)]at this
   rw[e1,e2,hl,<-hp3,F.homeL hn hp1]
   show cR 100 #[.int .i64 (p:Int),_,_,_] _ _
   refine zmN h h27d hA27.drew hU27.drew (by omega) λw28 h28 k28=>⟨rfl,hnext3 w28 hql ⟨step (by omega) ?_,k27.trans k28⟩⟩
   have e:(rawI pl fl n k i)[q]'(by omega)=(p,((ix pl i).2.2.2.getD (2*q) ag0).2.1):=by
    simp only[hraw,List.getElem_map,List.getElem_range,Prod.mk.injEq,and_true]
    unfold lbN
    rw[hp2]
    rfl
   rw[e]
   exact h28
  ·have hqe:q=(rawI pl fl n k i).length:=by dsimp only at g3;omega
   rw[hqe,List.take_length]at h27
   exact⟨h27,hA27,hU27⟩
end
theorem countP_lt{α:Type}{p q:α->Bool}:∀{l:List α},(∀x∈l,q x=true->p x=true)->∀{a:α},a∈l->p a=true->q a=false->l.countP q<l.countP p
 | [],_,a,ha,_,_=>by cases ha
 |b::l,h,a,ha,hp,hq=>by
  have hle:l.countP q<=l.countP p:=List.countP_mono_left λx hx=>h x (List.mem_cons_of_mem _ hx)
  rw[List.countP_cons,List.countP_cons]
  rcases List.mem_cons.1 ha with rfl |ha
  ·rw[hq,hp]
   simp only[if_true]
   simp
   omega
  ·have ih:=countP_lt (l:=l) (λx hx=>h x (List.mem_cons_of_mem _ hx)) ha hp hq
   cases hb:q b with
   |false=>split<;>split<;>simp_all<;>omega
   |true=>
    rw[h b List.mem_cons_self hb]
    simp only[if_true]
    omega
def uniP(pl:List PI)(K:Nat):List (Nat×Int):=(List.range K).flatMap λk=>(List.range pl.length).map λi=>(k,(ix pl i).2.2.1)
def muP(pl:List PI)(K:Nat)(VL ML:List (Nat×Int)):Nat:=(uniP pl K).countP λp=>decide (p ∉ VL/\p ∉ ML)
theorem ztX{pl:List PI}{K:Nat}{VL ML:List (Nat×Int)}{p:Nat×Int}(hp:p∈uniP pl K)(h1:p ∉ VL)(h2:p ∉ ML):muP pl K VL (ML++[p])<muP pl K VL ML:=by
 refine countP_lt (λx _ h=>?_) hp (decide_eq_true ⟨h1,h2⟩) (decide_eq_false λh=>h.2 (List.mem_append_right _ (List.mem_singleton.2 rfl)))
 have:=of_decide_eq_true h
 exact decide_eq_true ⟨this.1,λq=>this.2 (List.mem_append_left _ q)⟩
theorem zul{pl:List PI}{K:Nat}{VL ML ML':List (Nat×Int)}(h:∀p:Nat×Int,p.1<K->(p∈ML'↔p∈ML/\p ∉ VL)):muP pl K VL ML'=muP pl K VL ML:=by
 unfold muP
 refine List.countP_congr λp hp=>?_
 obtain⟨k,hk,hp⟩:=List.mem_flatMap.1 hp
 obtain⟨i,_,rfl⟩:=List.mem_map.1 hp
 rw[decide_eq_true_eq,decide_eq_true_eq,h _ (List.mem_range.1 hk)]
 constructor
 ·rintro⟨h1,h2⟩
  exact⟨h1,λq=>h2 ⟨q,h1⟩⟩
 ·rintro⟨h1,h2⟩
  exact⟨h1,λq=>h2 q.1⟩
section
variable {x:Mo} {pl:List PI} {fl:List FnL} {n bb:Nat} {w w' w0:World} {u m:Sl} {bs cs:List Nat} {ML VL:List (Nat×Int)} {k:Nat} {id:Int} {R:VWP}
theorem zty(F:Fls pl fl)(ho:ownP pl fl n id=true){K:Nat}(hk:k<K):(k,id)∈uniP pl K:=by
 obtain⟨hh,hh1,_,_⟩:=zjw ho
 obtain⟨_,i,_,_,e3,_,e5,_⟩:=F.home_inv hh1
 exact List.mem_flatMap.2 ⟨k,List.mem_range.2 hk,List.mem_map.2 ⟨i,List.mem_range.2 e3,by rw[e5]⟩⟩
theorem MpsL.keys(h:MpsL w u bs ML)(hk:k<bs.length):∃L,IsMq w bs[k] (Value.int .i64) L/\∀id,id∈L.map (·.1)↔(k,id)∈ML:=by
 obtain⟨L,h1,h2⟩:=h.mp k hk
 refine⟨L,h1,λid=>?_⟩
 have h3:=h2 id
 constructor
 ·intro hm
  refine Classical.byContradiction λhn=>?_
  rw[if_neg hn,zfH]at h3
  exact h3 hm
 ·intro hm
  refine Classical.byContradiction λhn=>?_
  rw[if_pos hm]at h3
  rw[zfH.2 hn]at h3
  cases h3
theorem Us2.fr{X:Nat->Prop}(h:Us2 w0 w u m bs cs ML VL)(hf:Fr w.heap.size X w w')(hb:∀b∈bs++cs,¬X b)(hu:∀b,u.a=some (Gk.blk b)->¬X b)(hm:∀b,m.a=some (Gk.blk b)->¬X b)(hX:∀b,X b->w0.heap.size<=b):Us2 w0 w' u m bs cs ML VL:=
 ⟨zdw h.below hf hX,h.mu.fr hf (λb q=>hb b (List.mem_append_left _ q)) hu,h.mm.fr hf (λb q=>hb b (List.mem_append_right _ q)) hm,h.nd,h.ge,h.fu,h.fm⟩
theorem Us2.iter{w3:World}{ML3 VL3:List (Nat×Int)}(h3:Us2 w0 w3 u m bs cs ML3 VL3)(h:Us2 w0 w u m bs cs ML VL)(hf:Fr w.heap.size (λi=>i=w3.heap.size) w w'):Us2 w0 w' u m bs cs ML VL:=by
 have hz:=h3.below.size
 refine h.fr hf (λb hb e=>?_) (λb hb e=>?_) (λb hb e=>?_) (λb e=>by omega)
 ·subst e
  rcases List.mem_append.1 hb with hb |hb
  ·have:=h3.mu.lt hb;omega
  ·have:=h3.mm.lt hb;omega
 ·subst e
  have:w3.heap.size<w3.heap.size:=(h3.mu.own.lt hb).2
  omega
 ·subst e
  have:w3.heap.size<w3.heap.size:=(h3.mm.own.lt hb).2
  omega
theorem Us2.putU'(h:Us2 w0 w u m bs cs ML VL)(hk:k<bs.length){K:World->Prop}(hK:∀w',Us2 w0 w' u m bs cs (ML++[(k,id)]) VL->Chg bs[k] w w'->K w'):updW Tryz.prog 88 (.map (some bs[k])) (.int .u32 id) (.int .i64 1) w K:=by
 obtain⟨n1,n2,n3⟩:=zch h.nd
 have hm:=List.getElem_mem hk
 refine h.mu.put n1 hk λw' h1 c=>?_
 exact hK w' ⟨c.below h.below (h.ge _ (List.mem_append_left _ hm)),h1,h.mm.other c (h.mu.kc hm c) λq=>n3 _ hm _ q rfl,h.nd,h.ge,h.fu,h.fm⟩ c
theorem Us2.delU(h:Us2 w0 w u m bs cs ML VL)(hk:k<bs.length){K:World->Prop}(hK:∀w',Us2 w0 w' u m bs cs (ML.filter λp=>decide (p≠(k,id))) VL->Chg bs[k] w w'->K w'){ts:Array TypeId}(hts:ts[0]? =some 88):delS Tryz.prog ts (.map (some bs[k])) (.int .u32 id) w K:=by
 obtain⟨n1,n2,n3⟩:=zch h.nd
 have hm:=List.getElem_mem hk
 refine h.mu.del n1 hk (λw' h1 c=>?_) hts
 exact hK w' ⟨c.below h.below (h.ge _ (List.mem_append_left _ hm)),h1,h.mm.other c (h.mu.kc hm c) λq=>n3 _ hm _ q rfl,h.nd,h.ge,h.fu,h.fm⟩ c
abbrev Wn(pl:List PI)(fl:List FnL)(n:Nat)(k:Nat)(id:Int):Prop:=WanN (nxF pl fl n) (mkB pl fl n id) (usB pl fl n id) k
set_option maxHeartbeats 4000000 in
theorem zrj(F:Fls pl fl)(hF:Flo x pl fl)(hp:PlOk pl)(hsh:(zG x.2.1 pl).1=0)(hn:n<fl.length)(h:IsBd w bb x pl fl n)
  (hR:∀w' u bs ML,Below w.heap.size w w'->MpsL w' u bs ML->bs.length=(fx fl n).bk.length->(∀k id,k<(fx fl n).bk.length->((k,id)∈ML↔ownP pl fl n id=true/\Wn pl fl n k id))->R (.slice u.a u.l u.c) w') :
  cR 28 #[.pointer (some (Gk.blk bb))] w R:=by
 refine za.of (zgO _ R w ?_) λ_ _ h=>h
 obtain⟨v,hr,gb,tb,M,ov,dp,hB,hN,hFn,hM,hl,hG,hD⟩:=h.ex
 refine zr4 F hF hp hn h λw1 u m bs cs h1 hbl hcl=>⟨u,m,rfl,?_⟩
 have ok:=hD.ok
 have hnl:=zhy pl fl n
 have hmax:=ok.max
 have hU:∀k id,k<(fx fl n).bk.length->((k,id)∈mkT pl fl n (fx fl n).bk.length↔ownP pl fl n id=true/\usB pl fl n id k=true):=λk id hk=>ztu F hF hsh hn hk
 have hV:∀k id,k<(fx fl n).bk.length->ownP pl fl n id=true->((k,id)∈mdT pl fl n (fx fl n).bk.length↔mkB pl fl n id k=true):=λk id hk ho=>ztt F hn hk ho
 generalize mkT pl fl n (fx fl n).bk.length=ML0 at *
 generalize mdT pl fl n (fx fl n).bk.length=VL at *
 generalize hK:(fx fl n).bk.length=K at *
 obtain⟨nd1,nd2,nd3⟩:=zch h1.nd
 have hul:=h1.mu.len
 have hml:=h1.mm.len
 have hKn:K<=4096:=by omega
 refine zk.ghost (λj (_:Unit) w'=>∃ML,Us2 w w' u m bs cs ML VL/\(∀k id,k<K->(k,id)∈ML->ownP pl fl n id=true/\((k,id)∈ML0\/Wn pl fl n k id))/\(∀k id,k<K->(k,id)∈ML0->(k,id) ∉ VL->(k,id)∈ML)/\j=muP pl K VL ML)
  (muP pl K VL ML0) ⟨ML0,h1,λk id hk hm=>⟨((hU k id hk).1 hm).1,.inl hm⟩,λk id _ hm _=>hm,rfl⟩ ?_
 rintro _ _ w2 ⟨ML,h2,hS,hC,rfl⟩ next hnext
 refine zk.count K (by omega) (λk w'=>∃ML',Us2 w w' u m bs cs ML' VL/\∀j id,(j,id)∈ML'↔(j,id)∈ML/\¬(j<k/\(j,id)∈VL)) ⟨ML,h2,λj id=>by simp⟩ ?_
 rintro k w3 hk ⟨ML3,h3,hE3⟩ next2 hnext2
 refine zf (λg=>?_) (λg=>?_)
 ·have hkl:k<K:=by dsimp only at g;omega
  obtain⟨L,hL1,hL2⟩:=h3.mm.keys (k:=k) (by omega)
  refine h3.mm.addr (by omega) (zqj (L:=L) zj7 hL1 (λd (_:Unit) w'=>∃ML',Us2 w w' u m bs cs ML' VL/\(∀j id,(j,id)∈ML'↔(j,id)∈ML3/\¬(j=k/\id∈d))/\∀id∈d,(k,id)∈VL) ?_ ?_ ?_ ?_)
  ·rintro d _ w5 w6 _ ⟨ML',h5,q1,q2⟩ hf
   exact⟨ML',h3.iter h5 hf,q1,q2⟩
  ·rintro w4 b4 _
   exact⟨ML3,h3.on b4,λj id=>by simp,λid h=>by cases h⟩
  ·rintro d _ w6 id v' hlt hbm ⟨ML',h6,q1,q2⟩ hid _ next3 hnext3
   refine h6.mu.addr (by omega) (h6.delU (by omega) (λw8 h8 c8=>hnext3 () w8 ⟨_,h8,λj id'=>?_,λid' h'=>?_⟩ (c8.fr.wide λi e=>?_)) rfl)
   ·rw[List.mem_filter,q1 j id',decide_eq_true_eq,List.mem_cons,ne_eq,Prod.mk.injEq]
    constructor
    ·rintro⟨⟨g1,g2⟩,g3⟩
     refine⟨g1,?_⟩
     rintro⟨rfl,rfl |g4⟩
     ·exact g3 ⟨rfl,rfl⟩
     ·exact g2 ⟨rfl,g4⟩
    ·rintro⟨g1,g2⟩
     exact⟨⟨g1,λg3=>g2 ⟨g3.1,.inr g3.2⟩⟩,λg3=>g2 ⟨g3.1,.inl g3.2⟩⟩
   ·rcases List.mem_cons.1 h' with rfl |h'
    ·exact(hL2 id').1 hid
    ·exact q2 id' h'
   ·subst e
    refine⟨λe=>nd3 _ (List.getElem_mem (by omega)) _ (List.getElem_mem (by omega)) e,λe=>?_⟩
    have:=h3.mu.lt (List.getElem_mem (l:=bs) (n:=k) (by omega))
    omega
  ·rintro d _ w7 ⟨ML',h7,q1,q2⟩ hall
   refine hnext2 w7 hkl ⟨ML',h7,λj id=>?_⟩
   rw[q1 j id,hE3 j id]
   constructor
   ·rintro⟨⟨g1,g2⟩,g3⟩
    refine⟨g1,λg4=>?_⟩
    by_cases e:j=k
    ·subst e
     exact g3 ⟨rfl,hall id ((hL2 id).2 g4.2)⟩
    ·exact g2 ⟨by omega,g4.2⟩
   ·rintro⟨g1,g2⟩
    refine⟨⟨g1,λg3=>g2 ⟨by omega,g3.2⟩⟩,?_⟩
    rintro⟨rfl,g4⟩
    exact g2 ⟨by omega,q2 id g4⟩
 have hke:k=K:=by dsimp only at g;omega
 subst hke
 clear hnext2 next2
 have hS3:∀j id,j<k->(j,id)∈ML3->ownP pl fl n id=true/\Wn pl fl n j id:=λj id hj hm=>by
  obtain⟨g1,g2⟩:=(hE3 j id).1 hm
  obtain⟨ho,g3⟩:=hS j id hj g1
  refine⟨ho,?_⟩
  rcases g3 with g3 |g3
  ·refine .here ?_ ((hU j id hj).1 g3).2
   rw[<-Bool.not_eq_true]
   exact λq=>g2 ⟨hj,(hV j id hj ho).2 q⟩
  ·exact g3
 have hC3:∀j id,j<k->(j,id)∈ML0->(j,id) ∉ VL->(j,id)∈ML3:=λj id hj g1 g2=>(hE3 j id).2 ⟨hC j id hj g1 g2,λq=>g2 q.2⟩
 have hmu:muP pl k VL ML3=muP pl k VL ML:=zul λp hp=>(hE3 p.1 p.2).trans ⟨λq=>⟨q.1,λe=>q.2 ⟨hp,e⟩⟩,λq=>⟨q.1,λe=>q.2 e.2⟩⟩
 generalize hK2:k=K at *
 clear hE3 hS hC
 have rows:∀j t,t∈(nxF pl fl n).getD j []->t<K:=λj t ht=>by have:=ok.rows j t ht;omega
 generalize hnx:nxF pl fl n=nx at *
 let Sd:List (Nat×Int)->Prop:=λML'=>∀j id,j<K->(j,id)∈ML'->ownP pl fl n id=true/\Wn pl fl n j id
 let Cq:Nat->Nat->Prop:=λj t=>∀id,(t,id)∈ML3->(j,id)∈VL\/(j,id)∈ML3
 refine zk.ghost (λg (st:Bool×Int×Unit) w'=>∃(mo:Bool) (j:Nat) (ML':List (Nat×Int)),st=(mo,(j:Int),())/\j<=K/\g=K-j/\Us2 w w' u m bs cs ML' VL/\Sd ML'/\(∀p∈ML3,p∈ML')/\
  ((mo=false/\ML'=ML3/\∀i,i<j->∀t∈nx.getD i [],Cq i t)\/(mo=true/\muP pl K VL ML'<muP pl K VL ML3))) K ⟨false,0,ML3,rfl,Nat.zero_le _,rfl,h3,hS3,λ_ h=>h,.inl ⟨rfl,rfl,λi hi=>by omega⟩⟩ ?_
 rintro _ _ w9 ⟨mo,j,ML9,rfl,hj,rfl,h9,hS9,hP9,hJ9⟩ next4 hnext4
 refine zf (λg4=>?_) (λg4=>?_)
 rotate_left
 ·have hje:j=K:=by dsimp only at g4;omega
  subst hje
  rcases hJ9 with⟨rfl,rfl,hcl⟩ | ⟨rfl,hlt⟩
  ·refine zE rfl (hR w9 u bs ML9 h9.below h9.mu hbl λi id hi=>⟨λhm=>hS9 i id hi hm,?_⟩)
   rintro⟨ho,hw⟩
   rw[<-hnx]at hcl
   induction hw with
   |here q1 q2=>exact hC3 _ id hi ((hU _ id hi).2 ⟨ho,q2⟩) λq=>by rw[(hV _ id hi ho).1 q]at q1;cases q1
   | @step i t q1 q2 _ ih=>
    rcases hcl i hi t q2 id (ih (rows i t (by rw[<-hnx];exact q2))) with q |q
    ·rw[(hV i id hi ho).1 q]at q1;cases q1
    ·exact q
  ·refine zD rfl (hnext _ () w9 (by omega) ⟨ML9,h9,λi id hi hm=>⟨(hS9 i id hi hm).1,.inr (hS9 i id hi hm).2⟩,λi id hi g1 g2=>hP9 _ (hC3 i id hi g1 g2),rfl⟩)
 have hjl:j<K:=by dsimp only at g4;omega
 refine zj rfl ⟨some (Gk.blk gb),(hB.below h9.below).cell (n:=10) rfl,?_⟩
 refine GP.next (nx:=nx) (.inr ⟨gb,rfl,ok,hG.below h9.below⟩) (i:=(j:Int)) λr w10 hO10 _ b10=>⟨r,rfl,?_⟩
 rw[zb3]at hO10
 obtain⟨row,hrow⟩:∃row,nx.getD j []=row:=⟨_,rfl⟩
 rw[hrow]at hO10
 have hrl:=hO10.isS.len
 have hrn:row.length<=4096:=by have:=ok.row_le j;rw[hrow]at this;omega
 refine zk.ghost (λg (st:Bool×Int×Unit) w'=>∃(mo:Bool) (q:Nat) (ML':List (Nat×Int)),st=(mo,(q:Int),())/\q<=row.length/\g=row.length-q/\Us2 w w' u m bs cs ML' VL/\Sd ML'/\(∀p∈ML3,p∈ML')/\Kc w10 w'/\w10.heap.size<=w'.heap.size/\
  ((mo=false/\ML'=ML3/\(∀i,i<j->∀t∈nx.getD i [],Cq i t)/\∀q' (hq:q'<row.length),q'<q->Cq j row[q'])\/(mo=true/\muP pl K VL ML'<muP pl K VL ML3))) row.length
  ⟨mo,0,ML9,rfl,Nat.zero_le _,rfl,h9.on b10,hS9,hP9,Kc.refl _,Nat.le_refl _,hJ9.imp (λq=>⟨q.1,q.2.1,q.2.2,λq' _ h=>by omega⟩) (λq=>q)⟩ ?_
 rintro _ _ w11 ⟨mo,q,ML11,rfl,hq,rfl,h11,hS11,hP11,k11,z11,hJ11⟩ next5 hnext5
 have hO11:=k11.own hO10
 refine zf (λg5=>?_) (λg5=>?_)
 rotate_left
 ·have hqe:q=row.length:=by dsimp only at g5;omega
  rw[zr (by omega)]
  refine hnext4 (K-(j+1)) _ w11 (by omega) ⟨mo,j+1,ML11,rfl,by omega,rfl,h11,hS11,hP11,hJ11.imp (λ⟨q1,q2,q3,q4⟩=>⟨q1,q2,λi hi t ht=>?_⟩) (λq=>q)⟩
  by_cases e:i=j
  ·subst e
   rw[hrow]at ht
   obtain⟨q',hq',rfl⟩:=List.getElem_of_mem ht
   exact q4 q' hq' (by omega)
  ·exact q3 i (by omega) t ht
 have hql:q<row.length:=by dsimp only at g5;omega
 have htm:row[q]∈nx.getD j []:=by rw[hrow];exact List.getElem_mem hql
 have htK:=rows j _ htm
 obtain⟨t,ht⟩:∃t,row[q]=t:=⟨_,rfl⟩
 refine ziZ hO11.isS hql ?_
 rw[ht]at htm htK⊢
 obtain⟨L,hL1,hL2⟩:=h11.mu.keys (k:=t) (by omega)
 refine h11.mu.addr (k:=t) (by omega) (zqj (L:=L) zj7 hL1 (λd (st:Bool×Unit) w'=>∃ML',Us2 w w' u m bs cs ML' VL/\Sd ML'/\(∀p∈ML11,p∈ML')/\Kc w10 w'/\w10.heap.size<=w'.heap.size/\w11.heap.size<=w'.heap.size/\
  ((st.1=false/\mo=false/\ML'=ML11/\∀id∈d,(j,id)∈VL\/(j,id)∈ML11)\/(st.1=true/\muP pl K VL ML'<muP pl K VL ML3))) ?_ ?_ ?_ ?_)
 ·rintro d st w5 w6 hlt ⟨ML',h5,q1,q2,q3,q4,q5,q6⟩ hf
  refine⟨ML',h11.iter h5 hf,q1,q2,λb T xs hB'=>(q3 _ _ _ hB').of_block (hf.block _ (q3 _ _ _ hB').lt λe=>?_),by have:=hf.size;omega,by have:=hf.size;omega,q6⟩
  have:=hB'.lt
  omega
 ·rintro w4 b4 z4
  refine⟨ML11,h11.on b4,hS11,λ_ h=>h,k11.trans (Kc.of_below b4),by omega,by omega,?_⟩
  rcases hJ11 with⟨q1,_⟩ | ⟨q1,q2⟩
  ·exact .inl ⟨q1,q1,rfl,λid h=>by cases h⟩
  ·exact .inr ⟨q1,q2⟩
 ·rintro d st w6 id v' hlt hbm ⟨ML',h6,q1,q2,q3,q4,q5,q6⟩ hid _ next6 hnext6
  have htm':(t,id)∈ML':=q2 _ ((hL2 id).1 hid)
  have stay:(j,id)∈VL\/(j,id)∈ML'->next6 (st.1,()) w6:=λhc=>hnext6 _ w6 ⟨ML',h6,q1,q2,q3,q4,q5,q6.imp (λ⟨e1,e2,e3,e4⟩=>⟨e1,e2,e3,λid' h'=>by
   rcases List.mem_cons.1 h' with rfl |h'
   ·rw[<-e3];exact hc
   ·exact e4 id' h'⟩) (λq=>q)⟩ (Fr.refl _ _ _)
  refine h6.mm.addr (by omega) (h6.mm.look (k:=j) (id:=id) (by omega) ?_)
  by_cases hv:(j,id)∈VL
  ·rw[if_pos hv]
   exact zE rfl (stay (.inl hv))
  rw[if_neg hv]
  refine zD rfl (h6.mu.addr (by omega) (h6.mu.look (k:=j) (id:=id) (by omega) ?_))
  by_cases hm:(j,id)∈ML'
  ·rw[if_pos hm]
   exact zE rfl (stay (.inr hm))
  rw[if_neg hm]
  obtain⟨ho,hwt⟩:=q1 t id htK htm'
  refine zD rfl (h6.mu.addr (by omega) (h6.putU' (k:=j) (id:=id) (by omega) λw16 h16 c16=>?_))
  have hmu2:=ztX (zty F ho hjl) hv hm
  refine hnext6 (true,()) w16 ⟨_,h16,λi id' hi hmm=>?_,λp hp=>List.mem_append_left _ (q2 p hp),q3.trans (h6.mu.kc (List.getElem_mem (by omega)) c16),by have:=c16.size;omega,by have:=c16.size;omega,.inr ⟨rfl,?_⟩⟩ (c16.fr.wide λi e=>?_)
  ·rcases List.mem_append.1 hmm with hmm |hmm
   ·exact q1 i id' hi hmm
   ·rw[List.mem_singleton]at hmm
    cases hmm
    refine⟨ho,.step ?_ (by rw[hnx];exact htm) hwt⟩
    rw[<-Bool.not_eq_true]
    exact λq=>hv ((hV j id hjl ho).2 q)
  ·rcases q6 with⟨e1,e2,e3,_⟩ | ⟨_,e⟩
   ·rcases hJ11 with⟨_,e4,_⟩ | ⟨e4,_⟩
    ·rw[e3,e4]at hmu2⊢
     exact hmu2
    ·rw[e4]at e2;cases e2
   ·omega
  ·subst e
   refine⟨λe=>?_,λe=>?_⟩
   ·have:=(List.getElem_inj nd1).1 e
    subst this
    exact hm htm'
   ·have:=h11.mu.lt (List.getElem_mem (l:=bs) (n:=j) (by omega))
    omega
 ·rintro d st w7 ⟨ML',h7,q1,q2,q3,q4,q5,q6⟩ hall
  rw[zr (by omega)]
  refine hnext5 (row.length-(q+1)) _ w7 (by omega) ⟨st.1,q+1,ML',rfl,by omega,rfl,h7,q1,λp hp=>q2 p (hP11 p hp),q3,q4,?_⟩
  rcases q6 with⟨e1,e2,e3,e4⟩ | ⟨e1,e2⟩
  ·rcases hJ11 with⟨_,f1,f2,f3⟩ | ⟨f1,_⟩
   ·refine .inl ⟨e1,by rw[e3,f1],f2,λq' hq' hlt=>?_⟩
    by_cases e:q'=q
    ·subst e
     rw[ht]
     intro id hm
     have:=e4 id (hall id ((hL2 id).2 (by rw[f1];exact hm)))
     rwa[f1]at this
    ·exact f3 q' hq' (by omega)
   ·rw[f1]at e2;cases e2
  ·exact .inr ⟨e1,e2⟩
end
end Go.Proofs
namespace Go.Proofs
open Go.Gk
set_option linter.unusedVariables false
set_option maxRecDepth 100000
def y4:Ann:=Z16
def yx(p0:Option Nat)(R:VWP)(w:World):Prop:=Nw (w.alloc (.cells #[.map p0] 88)) λw1=>R (.func (.func 61) #[] #[.pointer (some (zB w))]) w1
theorem Z4(p0)(R)(w)(h:yx p0 R w):cC 27 #[.map p0] w R:=lwC y4 Tryz.func27 h
def yn:Ann:=(.q (.one (.loop ⟨[0,5],[]⟩ (.q (.seq none .c Z1I)))))
def yl(p0:Value)(c0:Addr)(R:VWP)(w:World):Prop:=ldM w c0 λx1=>rngW Tryz.prog 88 (.map x1) w λw1=>zk (S:=Unit) (λs2 w2 n3=>nxtM Tryz.prog (.pointer (some (zB w))) 0 w2 (λx4 x5 w3=>entW Tryz.prog (.pointer (some (zB w))) (BK.int .u32) BK.raw w3 λ(x6:Int) (x7:Value)=>ZH Tryz.prog Tryz.fs p0 [(zu x6)] w3 λv8 w5=>∃x9:Bool,v8=(.bool x9)/\ifB (!x9) (R (.tuple #[]) w5) (n3 () w5)) (λw4=>R (.tuple #[]) w4)) () w1
theorem Zj(p0)(c0)(R)(w)(h:yl p0 c0 R w):cC 61 #[p0,.pointer (some c0)] w R:=lwC yn Tryz.func61 h
end Go.Proofs
namespace Go.Proofs
open Go.Gk Go.RowKit Go.Gm Go.Gr Go.Dm
theorem zjs{d:List Int}{n:Nat}(hd:d.Nodup)(h:∀y∈d,0<=y/\y<(n:Int)):d.length<=n:=by
 have h1:(d.map Int.toNat).Nodup:=by
  refine List.pairwise_map.2 (List.Pairwise.imp_of_mem (λ{a b} ha hb hne e=>hne ?_) hd)
  have:=h a ha
  have:=h b hb
  omega
 have h2:=YF h1 (n:=n) (λy hy=>by
  obtain⟨z,hz,rfl⟩:=List.mem_map.1 hy
  have:=h z hz
  omega)
 rwa[List.length_map]at h2
section
variable {w:World} {R:VWP} {bm vb:Nat} {L:List (Int×Int)} {Tv:TypeId}
set_option maxHeartbeats 2000000 in
theorem zkI(hM:IsMq w bm (Value.int .i64) L)(hV:Blk w vb Tv [.map (some bm)])(hrg:∀id∈L.map (·.1),0<=id/\id<65536)
  (hR:∀r (T:List Int) w',Own w' 22 1 r (T.map (Value.int .u32))->T.Nodup->(∀id,id∈T↔id∈L.map (·.1))->zz w.heap.size r->Below w.heap.size w w'->R (.slice r.a r.l r.c) w') :
  cR 97 #[.slice none 0 0,.func (.func 61) #[] #[.pointer (some (blk vb))]] w R:=by
 refine za.of (Yl ⟨none,0,0⟩ _ R w ?_) λ_ _ h=>h
 refine zn λw4 hC4 b4 z4=>?_
 have hC4:Blk w4 w.heap.size 26 [.slice none 0 0]:=hC4
 intro mk hy
 have hcf:Tryz.fs.contains 61=true:=by kernel_rfl
 unfold zm0
 simp only[hcf]
 generalize hw5:((w4.alloc (.deferred (some []))).alloc (mk .ready none))=w5
 have b5:Below w4.heap.size w4 w5:=by rw[<-hw5];exact zd4 w4 _ _
 have z5:w5.heap.size=w4.heap.size+2:=by rw[<-hw5];exact zjX w4 _ _
 have hd5:w5.heap[w4.heap.size]? =some (.deferred (some [])):=by rw[<-hw5];exact zn2 w4 _ _
 have hl5:w5.heap[w4.heap.size+1]? =some (mk .ready none):=by rw[<-hw5];exact zn3 w4 _ _
 clear hw5
 have b45:=b4.on b5
 have hlt:=hV.lt
 have hmlt:=hM.lt
 refine za.of (Zj (.func (.yield (w4.heap.size+1)) #[] #[]) (blk vb) _ w5 ?_) λ_ _ h=>h
 refine⟨some bm,(hV.below b45).cell0 rfl,?_⟩
 refine zqj (L:=L) zj7 (hM.below b45) (λd (_:Unit) w'=>w'.heap[w4.heap.size+1]? =some (mk .ready none)/\w'.heap[w4.heap.size]? =some (.deferred (some []))/\w5.heap.size+1<=w'.heap.size/\Below w.heap.size w w'/\d.Nodup/\(∀id∈d,id∈L.map (·.1))/\
  ∃r,Blk w' w.heap.size 26 [.slice r.a r.l r.c]/\Own w' 22 1 r (d.reverse.map (Value.int .u32))/\∀a,r.a=some a->w5.heap.size+1<=a.block) ?_ ?_ ?_ ?_
 ·rintro d _ w1 w2 hlt1 ⟨q1,q2,q3,q4,q5,q6,r,q7,q8,q9⟩ hf
  have hb:=hf.block
  refine⟨(hb _ (by omega) (by omega)).trans q1,(hb _ (by omega) (by omega)).trans q2,by have:=hf.size;omega,⟨hf.os.trans q4.os,hf.tape.trans q4.tape,hf.output.trans q4.output,by have:=hf.size;have:=q4.size;omega,λk hk=>(hb k (by omega) (by omega)).trans (q4.block k hk)⟩,q5,q6,r,q7.of_block (hb _ q7.lt (by omega)),q8.of_block λa ha=>hb _ (q8.lt ha).2 (by have:=q9 a ha;omega),q9⟩
 ·rintro w1 b1 z1
  exact⟨(b1.block _ (by omega)).trans hl5,(b1.block _ (by omega)).trans hd5,by omega,b45.on b1,List.nodup_nil,λid h=>(by cases h),⟨none,0,0⟩,(hC4.below b5).below b1,Own.nil _ _ _,λa ha=>(by cases ha)⟩
 ·rintro d _ w6 id v' hlt6 hbm ⟨hl6,hd6,hz6,hb6,hnd,hsub,r,hC6,hO6,hF6⟩ hid hnid next hnext
  refine hy (id,()) w6 _ hl6 ?_
  have hlt6:w4.heap.size+1<w6.heap.size:=(Array.getElem?_eq_some_iff.1 hl6).1
  refine⟨hl6,Nw.gen λw7 e7=>?_⟩
  have ho7:∀b,b≠w4.heap.size+1->w7.heap[b]? =w6.heap[b]?:=λb hb=>by rw[e7];exact World.putObj_heap_other hb
  have hz7:w7.heap.size=w6.heap.size:=by rw[e7];simp
  have hl7:w7.heap[w4.heap.size+1]? =some (mk .busy none):=by rw[e7];exact zd6 hlt6 _
  have hb7:Below w.heap.size w w7:=by rw[e7];exact hb6.putObj (by omega) _
  clear e7
  have hC7:=hC6.of_block (ho7 _ (by omega))
  have hO7:Own w7 22 1 r (d.reverse.map (Value.int .u32)):=hO6.of_block λa ha=>ho7 _ (by have:=hF6 a ha;omega)
  have hd7:w7.heap[w4.heap.size]? =some (.deferred (some [])):=by rw[ho7 _ (by omega)];exact hd6
  refine hC7.cell0 rfl |>λhc=>⟨r,hc,?_⟩
  refine zn λw8 hD8 b8 z8=>?_
  have hdl:d.length<=65536:=zjs hnd λy hy=>hrg y (hsub y hy)
  have hrl:r.l=d.length:=by
   have:=hO6.1
   rw[List.length_map,List.length_reverse]at this
   omega
  refine zt2 eU32 (hO7.below b8) (B:=w5.heap.size+1) (by have:=b8.size;omega) hF6 rfl (by simp[Value.oneCell']) hD8 (by omega) (by omega) λr' w9 hO9 b9 hF9=>?_
  have b79:Below (w5.heap.size+1) w7 w9:=(b8.mono (by omega)).trans b9
  have kb:∀i,i<w5.heap.size+1->w9.heap[i]? =w7.heap[i]?:=λi hi=>b79.block i hi
  have hC9:=hC7.of_block (kb _ (by omega))
  refine⟨hC9.wr0 (by simp),Nw.gen λw10 e10=>?_⟩
  have c10:Chg w.heap.size w9 w10:=by rw[e10];exact Chg.set w.heap.size 0 w9 _
  have hC10:Blk w10 w.heap.size 26 [.slice r'.a r'.l r'.c]:=by rw[e10];exact hC9.set0 _
  clear e10
  have hl10:w10.heap[w4.heap.size+1]? =some (mk .busy none):=by rw[c10.block _ (by omega),kb _ (by omega)];exact hl7
  have hlt10:w4.heap.size+1<w10.heap.size:=(Array.getElem?_eq_some_iff.1 hl10).1
  have s79:=b79.size
  have s10:=c10.size
  have hbf:Below w.heap.size w (w10.putObj (w4.heap.size+1) (mk .ready none)):=(c10.below (hb7.trans (b79.mono (by omega))) (Nat.le_refl _)).putObj (by omega) _
  refine⟨hl10,⟨true,rfl,zE rfl (hnext () _ ⟨zd6 hlt10 _,?_,by simp;omega,?_,List.nodup_cons.2 ⟨hnid,hnd⟩,λy hy=>?_,r',?_,?_,hF9⟩ ?_)⟩⟩
  ·rw[World.putObj_heap_other (by omega),c10.block _ (by omega),kb _ (by omega)]
   exact hd7
  ·exact hbf
  ·rcases List.mem_cons.1 hy with rfl |hy
   ·exact hid
   ·exact hsub y hy
  ·exact hC10.put (by omega) _
  ·rw[List.reverse_cons,List.map_append]
   have hO10:Own w10 22 1 r' (d.reverse.map (Value.int .u32)++[Value.int .u32 id]):=hO9.of_block λa ha=>c10.block _ (by have:=hF9 a ha;omega)
   exact hO10.of_block λa ha=>World.putObj_heap_other (by have:=hF9 a ha;omega)
  ·refine⟨hbf.os.trans hb6.os.symm,hbf.tape.trans hb6.tape.symm,hbf.output.trans hb6.output.symm,by simp;omega,λk hk hx=>?_⟩
   have hk':k=bm\/k=w5.heap.size:=by
    refine Classical.byContradiction λg=>hx ⟨λe=>g (.inl e),λe=>g (.inr e)⟩
   rw[World.putObj_heap_other (by omega),c10.block _ (by omega),kb _ (by omega)]
   exact ho7 _ (by omega)
 ·rintro d _ w6 ⟨hl6,hd6,hz6,hb6,hnd,hsub,r,hC6,hO6,hF6⟩ hall
  refine⟨hl6,?_⟩
  have hC7:=hC6.put (l:=w4.heap.size+1) (by omega) (mk .exhausted none)
  refine hC7.cell0 rfl |>λhc=>⟨r,hc,?_⟩
  refine zdy (by rw[World.putObj_heap_other (by omega)];exact hd6) ?_
  refine hR r d.reverse _ ?_ ((List.reverse_perm d).symm.nodup hnd) (λid=>by rw[List.mem_reverse];exact⟨hsub id,hall id⟩) (λa ha=>by have:=hF6 a ha;omega) ((hb6.putObj (by omega) _).putObj (by omega) _)
  refine(hO6.of_block λa ha=>World.putObj_heap_other (by have:=hF6 a ha;omega)).of_block λa ha=>World.putObj_heap_other (by have:=hF6 a ha;omega)
theorem zkJ(hM:IsMq w bm (Value.int .i64) L)(hV:Blk w vb Tv [.map (some bm)])(hrg:∀id∈L.map (·.1),0<=id/\id<65536)
  (hR:∀r (A:List Int) w',Own w' 22 1 r (A.map (Value.int .u32))->A.Nodup->(∀id,id∈A↔id∈L.map (·.1))->A.Pairwise (·<=·)->zz w.heap.size r->Below w.heap.size w w'->R (.slice r.a r.l r.c) w') :
  cR 26 #[.func (.func 61) #[] #[.pointer (some (blk vb))]] w R:=by
 refine za.of (zdA _ R w ?_) λ_ _ h=>h
 refine za.of (zcT _ _ w ?_) λ_ _ h=>h
 refine zkI hM hV hrg λr T w1 hO1 hT1 hT2 hF1 b1=>⟨r,rfl,r,rfl,?_⟩
 have hTl:T.length<=65536:=zjs hT1 λy hy=>hrg y ((hT2 y).1 hy)
 refine zil hO1 (by omega) λA w2 hO2 hP hA hF2=>⟨rfl,?_⟩
 refine hR r A w2 hO2 (hP.symm.nodup hT1) (λid=>by rw[hP.mem_iff];exact hT2 id) hA hF1 (b1.trans ⟨hF2.os,hF2.tape,hF2.output,hF2.size,λk hk=>hF2.block k (by have:=b1.size;omega) λe=>?_⟩)
 have:=hF1 _ e
 have:(blk k).block=k:=rfl
 omega
end
section
variable {x:Mo} {pl:List PI} {fl:List FnL} {w:World} {R:VWP} {label id:Int} {n k:Nat}
theorem ztU(F:Fls pl fl)(hn:n<fl.length){h:Hm}(hh:hmO pl fl id=some h)(hl:h.2.2.2.1=true)(h1:h.1=(n:Int)):∃k:Nat,h.2.1=(k:Int)/\lbO (fx fl n).bk id=some k:=by
 obtain⟨m,i,e1,e2,e3,e4,e5,e6,e7,e8,e9⟩:=F.home_inv hh
 have hmn:m=n:=by omega
 subst hmn
 rcases e9 with⟨_,_,g⟩ | ⟨b,hb,g1,g2,g3,g4⟩
 ·rw[g]at hl;cases hl
 ·refine⟨b,g1,?_⟩
  obtain⟨a,e,q1,q2,q3,q4,q5,q6,T⟩:=F.tl e2
  obtain⟨f,t,hbx,_,_,hop,_,_⟩:=F.bl e2 hb
  rw[g4,beq_iff_eq]at hl
  have hif:i=f:=by
   refine Classical.byContradiction λhne=>?_
   refine T.nl _ (zjG hb) i ?_ g3 hl
   rw[hbx]at g2⊢
   dsimp only at g2⊢
   omega
  subst hif
  rw[<-e5,show(ix pl i).2.2.1=(bx (fx fl m).bk b).1 by rw[hbx]]
  exact zgX (F.lab _ (zf9 e2)) hb
theorem zt0(F:Fls pl fl)(hp:PlOk pl)(h0:0<=x.2.1)(hs:(zG x.2.1 pl).1=0)(ho:ownP pl fl n id=true):1<=id/\id<x.2.1:=by
 obtain⟨hh,hh1,hh2,_⟩:=zjw ho
 obtain⟨m,i,e1,e2,e3,e4,e5,e6,_⟩:=F.home_inv hh1
 have h4:=(zq5 hh1 hh2).2
 have:=zuk (id:=id) hp h0 hs (by omega)
 omega
theorem ztq{m:Nat}:id∈livN pl fl n k m↔(1<=id/\id<=(m:Int))/\ownP pl fl n id=true/\wanB pl fl n id k=true:=by
 unfold livN
 rw[List.mem_filter,List.mem_map,Bool.and_eq_true]
 refine and_congr_left λ_=>?_
 constructor
 ·rintro⟨i,hi,rfl⟩
  have:=List.mem_range.1 hi
  omega
 ·rintro⟨h1,h2⟩
  exact⟨(id-1).toNat,List.mem_range.2 (by omega),by omega⟩
theorem zsl(m:Nat):(livN pl fl n k m).Pairwise (·<·):=by
 unfold livN
 refine List.Pairwise.sublist List.filter_sublist ?_
 refine List.pairwise_map.2 ((List.pairwise_lt_range (n:=m)).imp λ{a b} h=>?_)
 omega
theorem ztV{A:List Int}{m:Nat}(h1:A.Nodup)(h2:A.Pairwise (·<=·))(h3:∀id,id∈A↔ownP pl fl n id=true/\wanB pl fl n id k=true)(h4:∀id,ownP pl fl n id=true->1<=id/\id<=(m:Int)):A=livN pl fl n k m:=by
 have hr:=zsl (pl:=pl) (fl:=fl) (n:=n) (k:=k) m
 refine List.Perm.eq_of_pairwise (le:=λ(x y:Int)=>x<=y) (λa b _ _ h1 h2=>Int.le_antisymm h1 h2) h2 (hr.imp λ{a b} h=>Int.le_of_lt h) ?_
 refine(List.perm_ext_iff_of_nodup h1 (hr.imp λ{a b} h e=>by omega)).2 λid=>?_
 rw[h3 id,ztq]
 exact⟨λh=>⟨h4 id h.1,h⟩,λh=>h.2⟩
set_option maxHeartbeats 4000000 in
theorem zl4(hN:IsPl w x.2.2.1 pl)(hp:PlOk pl)(h0:0<=x.2.1)
  (hR:∀w' r,Own w' 22 1 r ((ZJ x pl (cutF pl pl.length) label).1.map (Value.int .u32))->zz w.heap.size r->Below w.heap.size w w'->R (.tuple #[.slice r.a r.l r.c,.agg #[.int .i64 (ZJ x pl (cutF pl pl.length) label).2.1,.int .i64 (ZJ x pl (cutF pl pl.length) label).2.2]]) w') :
  cR 7 #[moA x,.int .u32 label] w R:=by
 refine za.of (zkN x label R w ?_) λ_ _ h=>h
 refine zn λw1 hB1 b1 z1=>?_
 have hB1:Blk w1 w.heap.size 25 (moV x):=hB1
 refine zn λw2 hS2 b2 z2=>?_
 have hS2:Blk w2 w1.heap.size 29 [.int .i64 0,.int .i64 0]:=hS2
 have hb2:=b1.on b2
 have s1:=b1.size
 have out:∀{w':World} (l:List Int) (e a:Int) (r:Sl),Blk w' w1.heap.size 29 [.int .i64 0,.int .i64 0]->Below w.heap.size w w'->Own w' 22 1 r (l.map (Value.int .u32))->zz w.heap.size r->ZJ x pl (cutF pl pl.length) label=(l,e,a)->
   Wr w' (blk w1.heap.size)/\Nw (w'.setCell (blk w1.heap.size) (.int .i64 e)) λw8=>Wr w8 ((blk w1.heap.size).add 1)/\Nw (w8.setCell ((blk w1.heap.size).add 1) (.int .i64 a)) λw9=>ldI w9 ((blk w1.heap.size).add 0) .i64 λx9=>ldI w9 ((blk w1.heap.size).add 1) .i64 λx10=>
    R (.tuple #[.slice r.a r.l r.c,.agg #[.int .i64 x9,.int .i64 x10]]) w9:=λ{w'} l e a r hS hb hO hFr he=>
  st2 hS rfl λw9 hS9 c9=>Sp.load hS9 (by
   have:=hR w9 r (by
    rw[he]
    exact hO.of_block λa ha=>c9.block _ λe=>by
     obtain⟨cs,hc⟩:=hO.type ha
     exact Blk.apart hc hS (by decide) e) hFr (c9.below hb (by omega))
   rw[he]at this
   exact this)
 have nilO:∀w',Own w' 22 1 ⟨none,0,0⟩ (([]:List Int).map (Value.int .u32)):=λw'=>Own.nil _ _ _
 have nilF:zz w.heap.size ⟨none,0,0⟩:=λa ha=>by cases ha
 refine Mo.load (hB1.below b2) (zoc (x:=x) (hN.below hb2) hp h0 (λw3 hne b3=>⟨⟨none,0,0⟩,((floE x pl).1,(floE x pl).2,()),rfl,?_⟩) (λw3 s hF hBs b3=>⟨s,(0,0,()),rfl,?_⟩))
 ·refine box2 rfl λw6 h6 b6 z6=>h6.rI0 rfl (zD (by simpa using hne) (Sp.load h6.drew ?_))
  have b26:=b3.on b6
  exact out [] _ _ ⟨none,0,0⟩ (hS2.below b26).drew (hb2.on b26).drew (nilO _) nilF (zo9 hne)
 refine box2 rfl λw6 h6 b6 z6=>h6.rI0 rfl (zE rfl ?_)
 have b26:=b3.on b6
 have hb6:=hb2.on b26
 have hS6:=hS2.below b26
 have hz:(floE x pl).1=0:=by rw[zrX hF]
 obtain⟨_,hlay,_⟩:=zeq hF.ok
 have hsh:=zfj hlay
 have hnb:=(Ye hsh).1
 have F:=Fls.of hp h0 hF.ok
 obtain⟨bs,hbl,hbS,hbB⟩:=(hBs.below b6).ex
 generalize cutF pl pl.length=fl at *
 have hbound:=hbS.bound
 have hsl:=hbS.len
 refine zk.count bs.length hbound (λn w'=>Below w6.heap.size w6 w'/\∀j,j<n->(lbO (fx fl j).bk label).isSome=false) ⟨Below.refl _ _,λj h=>by omega⟩ ?_
 rintro n w9 hn ⟨b9,hj⟩ next hnext
 have hb9:=hb6.on b9
 refine zf (λg=>?_) (λg=>?_)
 rotate_left
 ·exact out [] 3 0 ⟨none,0,0⟩ (hS6.below b9) hb9 (nilO _) nilF (zq9 hz λj h1=>hj j (by dsimp only at g;omega))
 have hnb':n<bs.length:=by dsimp only at g;omega
 have hnf:n<fl.length:=by omega
 have hBd:=(hbB n hnb').below b9
 have go:∀{w':World},Below w9.heap.size w9 w'->lbO (fx fl n).bk label=none->next (IntKind.i64.wrap ((n:Int)+1),()) w':=λ{w'} hb hno=>hnext w' hnb' ⟨b9.on hb,λj h1=>by
  by_cases e:j=n
  ·subst e;rw[hno];rfl
  ·exact hj j (by omega)⟩
 refine zl.all ((hbS.below b9).addr hnb' λa ha hc=>⟨some (Gk.blk bs[n]),hc,?_⟩)
 obtain⟨v,hr,gb,tb,M,ov,dp,hBB,hN9,hFn,hM,hl,hG,hD⟩:=hBd.ex
 refine zj rfl ⟨some hr,hBB.cell (n:=9) rfl,zsm hM ?_⟩
 rw[hl]
 refine box4 rfl λw14 h14 b14 z14=>?_
 have b14d:Below w9.heap.size w9 w14.drew:=b14.drew
 cases ho:hmO pl fl label with
 |none=>
  refine zE rfl (go b14d ?_)
  cases hat:lbO (fx fl n).bk label with
  |none=>rfl
  |some k=>
   obtain⟨hk,he⟩:=zfn hat
   have:=F.homeL hnf hk
   rw[he,ho]at this
   cases this
 |some h=>
  rw[ho]at h14
  have h14:Blk w14 w9.heap.size 78 (hmL h):=h14
  have no:¬(h.2.2.2.1=true/\h.1=(n:Int))->lbO (fx fl n).bk label=none:=λhq=>by
   cases hat:lbO (fx fl n).bk label with
   |none=>rfl
   |some k=>
    obtain⟨hk,he⟩:=zfn hat
    have:=F.homeL hnf hk
    rw[he,ho]at this
    cases this
    exact absurd ⟨rfl,rfl⟩ hq
  refine zD rfl (h14.drew.rB (n:=3) (x:=h.2.2.2.1) rfl (zo (λhlb=>?_) (λhlb=>go b14d (no λq=>by rw[q.1]at hlb;cases hlb))))
  refine h14.drew.rI0 (x:=h.1) rfl (zj rfl ((hBB.below b14d).rI (n:=3) (x:=(n:Int)) rfl (zm (λhfn=>?_) (λhfn=>go b14d (no λq=>hfn q.2)))))
  obtain⟨k,hk1,hat⟩:=ztU F hnf ho hlb hfn
  obtain⟨hkl,_⟩:=zfn hat
  have hlE:ZJ x pl fl label=(livL x.2.1 pl fl n k,0,0):=zq8 hz hnf hat hj
  have b14e:=b14d.drew
  refine h14.drew.drew.rI (n:=1) (x:=h.2.1) rfl ?_
  rw[hk1]
  have hF':Flo x pl fl:=hF
  refine zrj F hF' hp hsh hnf (hBd.below b14e) λw15 u us ML b15 hU hul hML=>⟨u,rfl,?_⟩
  refine⟨?_,hU.addr (by omega) ?_⟩
  ·have:=(h14.drew.drew.below b15).cell (n:=1) (v:=.int .i64 h.2.1) rfl
   rw[hk1]at this
   exact this
  obtain⟨L,hL1,hL2⟩:=hU.keys (k:=k) (by omega)
  refine za.of (Z4 (some us[k]) _ _ (zn λw16 h16 b16 z16=>⟨_,rfl,?_⟩)) λ_ _ h=>h
  have h16:Blk w16 w15.heap.size 88 [.map (some us[k])]:=h16
  have hkey:∀id,id∈L.map (·.1)↔ownP pl fl n id=true/\wanB pl fl n id k=true:=λid=>by
   rw[hL2 id,hML k id hkl,zpr]
  have hpos:∀id,ownP pl fl n id=true->1<=id/\id<x.2.1:=λid ho=>zt0 F hp h0 hsh ho
  refine zkJ (hL1.below b16) h16 (λid hid=>by have:=hpos id ((hkey id).1 hid).1;omega) λr A w17 hO hA1 hA2 hA3 hFr b17=>⟨r,rfl,?_⟩
  have b917:=b14e.on (b15.on (b16.on b17))
  have hAe:A=livL x.2.1 pl fl n k:=ztV hA1 hA3 (λid=>(hA2 id).trans (hkey id)) λid ho=>by have:=hpos id ho;omega
  rw[hAe]at hO
  refine out (livL x.2.1 pl fl n k) 0 0 r ((hS6.below b9).below b917) (hb9.on b917) hO (λa ha=>?_) hlE
  have:=hFr a ha
  have e1:=hb9.size
  have e2:=b14e.size
  have e3:=b15.size
  have e4:=b16.size
  omega
theorem zle(hN:IsPl w x.2.2.1 pl)(hp:PlOk pl)(hbd:0<=x.2.1/\x.2.1<=4294967295)(hR:∀w',Below w.heap.size w w'->R (.bool true) w') :
  cR 3 #[moA x,.int .u32 label] w R:=by
 refine za.of (zce x label R w ?_) λ_ _ h=>h
 refine zn λw1 hB1 b1 z1=>?_
 have hB1:Blk w1 w.heap.size 25 (moV x):=hB1
 obtain⟨y,hy⟩:∃y,ZJ x pl (cutF pl pl.length) label=y:=⟨_,rfl⟩
 have copyE:∀cb,ZJ (x.1,x.2.1,⟨some (blk cb),pl.length,pl.length⟩,()) pl (cutF pl pl.length) label=y:=λcb=>by rw[<-hy];rfl
 refine Mo.load hB1 (zqe (x:=x) (hN.below b1) hp hbd.1 λw2 r hr hrF b2=>⟨r,((ZJ x pl (cutF pl pl.length) label).2.1,(ZJ x pl (cutF pl pl.length) label).2.2,()),rfl,box2 rfl λw5 h5 b5 z5=>?_⟩)
 rw[hy]at hr h5
 have b15:=b2.on b5
 have hb5:=b1.on b15
 have hr5:=hr.below b5
 refine Mo.load (hB1.below b15) (zfT (x:=x) (hN.below hb5) hp λcb w6 _ _ hC6 b6=>⟨(x.1,x.2.1,⟨some (blk cb),pl.length,pl.length⟩,()),rfl,?_⟩)
 refine zl4 (x:=(x.1,x.2.1,⟨some (blk cb),pl.length,pl.length⟩,())) hC6 hp hbd.1 λw7 r2 hr2 hr2F b7=>⟨r2,((ZJ (x.1,x.2.1,⟨some (blk cb),pl.length,pl.length⟩,()) pl (cutF pl pl.length) label).2.1,(ZJ (x.1,x.2.1,⟨some (blk cb),pl.length,pl.length⟩,()) pl (cutF pl pl.length) label).2.2,()),rfl,box2 rfl λw10 h10 b10 z10=>?_⟩
 rw[copyE cb]at hr2 h10
 have b510:=(b6.on b7).on b10
 have hb10:=hb5.on b510
 have hr10:=hr5.below b510
 have hr210:=hr2.below b10
 have h510:=h5.below b510
 refine zl.cut (λ(_:Unit) w'=>w'.heap=w10.heap/\Below w10.heap.size w10 w') ?_ ?_
 ·refine Sp.load h10 (Sp.load h510 (zF (zD (by simp) ?_)))
  refine zll hr210.isS hr10.isS λw11 hh b11=>⟨_,rfl,zF (zD (decide_eq_true rfl) ⟨hh,b11⟩)⟩
 rintro _ w12 ⟨hh12,b12⟩
 have hr12:=hr10.below b12
 have hr212:=hr210.below b12
 have hb12:=hb10.on b12
 have h10':=h10.below b12
 have h512:=h510.below b12
 have hB12:=(hB1.below b15).below (b510.on b12)
 refine zkK hr212 λw13 hO=>⟨rfl,?_⟩
 have z7:=b7.size
 have e6:=b6.size
 have e5:=b5.size
 have e1:=b1.size
 have e2:=b2.size
 have hfar:∀a,r2.a=some a->w6.heap.size<=a.block:=λa ha=>hr2F a ha
 have bO:Below w6.heap.size w12 w13:=hO.below hfar
 have kp:∀i,i<w6.heap.size->w13.heap[i]? =w12.heap[i]?:=λi hi=>bO.block i hi
 have hb13:Below w.heap.size w w13:=hb12.trans (bO.mono (by omega))
 have hB13:=hB12.of_block (kp _ (by omega))
 have h513:=h512.of_block (kp _ (by have:=h5.lt;omega))
 have hr13:Own w13 22 1 r (y.1.map (Value.int .u32)):=hr12.of_block λa ha=>kp _ (by have:=(hr5.lt ha).2;omega)
 have h10'':Blk w13 w7.heap.size 29 [.int .i64 y.2.1,.int .i64 y.2.2]:=h10'.of_block (hO.block _ λa ha e=>by
  have:=(hr2.lt ha).2
  omega)
 refine Mo.load hB13 (zfT (x:=x) (hN.below hb13) hp λcb2 w14 _ _ hC14 b14=>⟨(x.1,x.2.1,⟨some (blk cb2),pl.length,pl.length⟩,()),rfl,?_⟩)
 refine zl4 (x:=(x.1,x.2.1,⟨some (blk cb2),pl.length,pl.length⟩,())) hC14 hp hbd.1 λw15 r3 hr3 hr3F b15'=>⟨r3,((ZJ (x.1,x.2.1,⟨some (blk cb2),pl.length,pl.length⟩,()) pl (cutF pl pl.length) label).2.1,(ZJ (x.1,x.2.1,⟨some (blk cb2),pl.length,pl.length⟩,()) pl (cutF pl pl.length) label).2.2,()),rfl,?_⟩
 rw[copyE cb2]at hr3
 dsimp only
 rw[copyE cb2]
 have b1315:=b14.on b15'
 refine st2 (h10''.below b1315) rfl λw17 h17 c17=>?_
 have h517:=c17.blk (h513.below b1315) (by have:=h5.lt;have:=b5.size;omega)
 have hr17:Own w17 22 1 r (y.1.map (Value.int .u32)):=(hr13.below b1315).of_block λa ha=>c17.block _ (by have:=(hr5.lt ha).2;omega)
 have hr317:Own w17 22 1 r3 (y.1.map (Value.int .u32)):=hr3.of_block λa ha=>c17.block _ (by
  have:=hr3F a ha
  have:=b14.size
  have:=hO.size
  have:=b12.size
  have:=h10.lt
  omega)
 refine Sp.load h17 (Sp.load h517 (zD (by simp) ?_))
 refine zll hr317.isS hr17.isS λw18 hh b18=>⟨_,rfl,?_⟩
 rw[decide_eq_true rfl]
 exact hR w18 ((c17.below (hb13.on b1315) (by omega)).on b18)
end
end Go.Proofs
