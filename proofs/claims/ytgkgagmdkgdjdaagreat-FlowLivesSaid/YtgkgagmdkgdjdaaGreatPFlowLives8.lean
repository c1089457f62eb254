/- FlowLives, part 8; made small by a program. -/
import Derived.Test.YtgkgagmdkgdjdaaGreatProg
import Derived.Sort.AssemblyPlain
import Derived.Test.YtgkgagmdkgdjdaaGreatPFlowLives7
namespace Go.Proofs
open Go.Gk
set_option linter.unusedVariables false
set_option maxRecDepth 100000
def za1:Ann:=Z1i
def zav(p0:Value)(R:VWP)(w:World):Prop:=dk 59 #[p0] w λx2 w1=>cR 60 #[x2.zw] w1 λv3 w2=>v3=(.tuple #[])/\R (x2.zw) w2
theorem zdA(p0)(R)(w)(h:zav p0 R w):cC 26 #[p0] w R:=lwC za1 Tryz.func26 h
def zaa:Ann:=Z16
def YW(p0:Value)(R:VWP)(w:World):Prop:=dk 97 #[.slice none 0 0,p0] w λx2 w1=>R (x2.zw) w1
theorem zcT(p0)(R)(w)(h:YW p0 R w):cC 59 #[p0] w R:=lwC zaa Tryz.func59 h
def Z3:Ann:=Z11
def yc(p0:Sl)(R:VWP)(w:World):Prop:=dl 99 #[.int .u64 (IntKind.u64.wrap (p0.l:Int))] w λx2 w1=>cR 98 #[p0.zw,zi 0,zi (p0.l:Int),zi x2] w1 λv3 w2=>v3=(.tuple #[])/\R (.tuple #[]) w2
theorem yU(p0)(R)(w)(h:yc p0 R w):cC 60 #[.slice p0.a p0.l p0.c] w R:=lwC Z3 Tryz.func60 h
def yM:Ann:=(.q (.seq none (.q (.one (.loop ⟨[],[(7,(.b (.int .u32)))]⟩ (.q Z1K)))) Z11))
def yL(p0:Sl)(p1:Value)(R:VWP)(w:World):Prop:=Nw (w.alloc (.cells #[p0.zw] 26)) λw1=>zik Tryz.prog Tryz.fs p1 w1 (T:=Int×Unit) (λs1=>[(zu s1.1)]) (λmk2 l3 s1 w2 S4=>w2.heap[l3]? =some (mk2 .ready none)/\Nw (w2.putObj l3 (mk2 .busy none)) λw3=>ldS w3 (zB w) λx6=>Nw (w3.alloc (.cells #[zu s1.1] 22)) λw4=>zp Tryz.prog 26 (x6.zw) (.slice (some (zB w3)) 1 1) w4 λr7 w5=>Wr w5 (zB w)/\Nw (w5.setCell (zB w) (r7.zw)) λw6=>w6.heap[l3]? =some (mk2 .busy none)/\S4 (.bool true) (w6.putObj l3 (mk2 .ready none))) (λmk2 l3 d5 w7=>yJ mk2 l3 .ready none w7 λw8=>ldS w8 (zB w) λx8=>za4 (d5::[]) w8 λw9=>R (x8.zw) w9)
theorem Yl(p0:Sl)(p1:Value)(R:VWP)(w:World)(h:yL p0 p1 R w):Calls Tryz.prog 97 #[.slice p0.a p0.l p0.c,p1] w (Ret R):=zht (fs:=Tryz.fs) (an:=yM) (args:=[(.slice p0.a p0.l p0.c),p1]) Tryz.fsOK Tryz.mixed Tryz.func97 (by kernel_rfl) (by kernel_rfl) (Eq.mpr (by kernel_rfl:zmM Tryz.prog Tryz.fs Tryz.f97 yM [(.slice p0.a p0.l p0.c),p1] w R=yL p0 p1 R w) h)
def Zc:Ann:=(.q (.q (.one (.loop ⟨[0],[(1,(.b (.int .i64))),(2,(.b (.int .i64))),(3,(.b (.int .i64))),(8,(.b .bool)),(9,(.b .bool))]⟩ (.one (.q (.seq none Z10 (.seq none Z10 (.seq (some ⟨[0,1,2,8,9,10],[(3,(.b (.int .i64)))]⟩) Z10 (.q (.seq (some ⟨[0,1,2,3,8,9,10],[(11,(.b (.int .i64))),(12,(.b (.int .i64)))]⟩) Z1F (.seq (some ⟨[0,1,2,3,8,9,10,11],[]⟩) (.q (.cond Z13 .nil)) (.seq (some ⟨[0,2,3,10,11],[(1,(.b (.int .i64)))]⟩) Z1F (.q (.q (.q (.q (.q (.cond Z16 Z16)))))))))))))))))))
def Zb(p0:Sl)(p1:Int)(p2:Int)(p3:Int)(R:VWP)(w:World):Prop:=zk (S:=Int×Int×Int×Bool×Bool×Unit) (λs1 w1 n2=>ifB (decide ((IntKind.i64.wrap (s1.2.1-s1.1))<=12)) (cR 127 #[p0.zw,zi s1.1,zi s1.2.1] w1 λv3 w2=>v3=(.tuple #[])/\R (.tuple #[]) w2) (ifB (s1.2.2.1==0) (cR 128 #[p0.zw,zi s1.1,zi s1.2.1] w1 λv4 w3=>v4=(.tuple #[])/\R (.tuple #[]) w3) (zl (S:=Int×Unit) (λm5=>ifB (!s1.2.2.2.1) (cR 129 #[p0.zw,zi s1.1,zi s1.2.1] w1 λv7 w4=>v7=(.tuple #[])/\m5 ((IntKind.i64.wrap (s1.2.2.1-(1:Int))),()) w4) (m5 (s1.2.2.1,()) w1)) (λs6 w5=>dT 130 #[p0.zw,zi s1.1,zi s1.2.1] w5 λx9 x10 w6=>zl (S:=Int×Int×Unit) (λm11=>ifB (x10==2) (cR 131 #[p0.zw,zi s1.1,zi s1.2.1] w6 λv13 w7=>v13=(.tuple #[])/\m11 ((IntKind.i64.wrap ((IntKind.i64.wrap (s1.2.1-(1:Int)))-(IntKind.i64.wrap (x9-s1.1)))),1,()) w7) (m11 (x9,x10,()) w6)) (λs12 w8=>zl (S:=Unit) (λm14=>ifB s1.2.2.2.1 (ifB s1.2.2.2.2.1 (ifB (s12.2.1==1) (dz 132 #[p0.zw,zi s1.1,zi s1.2.1] w8 λx17 w9=>ifB x17 (R (.tuple #[]) w9) (m14 () w9)) (m14 () w8)) (m14 () w8)) (m14 () w8)) (λs15 w10=>zl (S:=Int×Unit) (λm18=>ifB (decide (s1.1>(0:Int))) ((0<=(IntKind.i64.wrap (s1.1-(1:Int)))/\(IntKind.i64.wrap (s1.1-(1:Int)))<(p0.l:Int))/\zc p0.a λa20=>ldI w10.drew (a20.add (Int.toNat (IntKind.i64.wrap (s1.1-(1:Int))))) .u32 λx21=>(0<=s12.1/\s12.1<(p0.l:Int))/\zc p0.a λa22=>ldI w10.drew (a22.add s12.1.toNat) .u32 λx23=>dz 133 #[zu x21,zu x23] w10.drew λx25 w11=>ifB (!x25) (dl 134 #[p0.zw,zi s1.1,zi s1.2.1,zi s12.1] w11 λx27 w12=>n2 (x27,s1.2.1,s6.1,s1.2.2.2.1,s1.2.2.2.2.1,()) w12) (m18 (s1.1,()) w11)) (m18 (s1.1,()) w10.drew)) (λs19 w13=>dW 135 #[p0.zw,zi s19.1,zi s1.2.1,zi s12.1] w13 λx29 x30 w14=>ifB (decide ((IntKind.i64.wrap (x29-s19.1))<(IntKind.i64.wrap (s1.2.1-x29)))) (cR 98 #[p0.zw,zi s19.1,zi x29,zi s6.1] w14 λv31 w15=>v31=(.tuple #[])/\n2 ((IntKind.i64.wrap (x29+(1:Int))),s1.2.1,s6.1,(decide ((IntKind.i64.wrap (x29-s19.1))≥(IntKind.i64.wrap (Int.tdiv (IntKind.i64.wrap (s1.2.1-s1.1)) 8)))),x30,()) w15) (cR 98 #[p0.zw,zi (IntKind.i64.wrap (x29+(1:Int))),zi s1.2.1,zi s6.1] w14 λv32 w16=>v32=(.tuple #[])/\n2 (s19.1,x29,s6.1,(decide ((IntKind.i64.wrap (s1.2.1-x29))≥(IntKind.i64.wrap (Int.tdiv (IntKind.i64.wrap (s1.2.1-s1.1)) 8)))),x30,()) w16)))))))) (p1,p2,p3,true,true,()) w
theorem ye(p0)(p1)(p2)(p3)(R)(w)(h:Zb p0 p1 p2 p3 R w):cC 98 #[.slice p0.a p0.l p0.c,.int .i64 p1,.int .i64 p2,.int .i64 p3] w R:=lwC Zc Tryz.func98 h
def zgt:Ann:=(.q (.seq none (.cond Z11 .nil) Z11))
def zgf(p0:Int)(R:VWP)(w:World):Prop:=dl 137 #[.int .u64 p0] w λx2 w1=>R (zi x2) w1
theorem zhD(p0)(R)(w)(h:zgf p0 R w):cC 99 #[.int .u64 p0] w R:=lwC zgt Tryz.func99 h
def yD:Ann:=(.q (.one (.loop ⟨[0,1,2],[(6,(.b (.int .i64)))]⟩ (.seq none Z13 (.seq (some ⟨[0,1,2,6],[]⟩) (.one (.q (.one (.loop ⟨[0,1,2,6],[(7,(.b (.int .i64)))]⟩ (.seq (some ⟨[0,1,2,6,7],[]⟩) Z13 (.seq none Z1K .nil)))))) .nil)))))
def yA(p0:Sl)(p1:Int)(p2:Int)(R:VWP)(w:World):Prop:=zk (S:=Int×Unit) (λs1 w1 n2=>ifB (decide (s1.1<p2)) (zl (S:=Unit) (λm3=>zk (S:=Int×Unit) (λs5 w2 n6=>zl (S:=Unit) (λm7=>ifB (decide (s5.1>p1)) ((0<=s5.1/\s5.1<(p0.l:Int))/\zc p0.a λa9=>ldI w2.drew (a9.add s5.1.toNat) .u32 λx10=>(0<=(IntKind.i64.wrap (s5.1-(1:Int)))/\(IntKind.i64.wrap (s5.1-(1:Int)))<(p0.l:Int))/\zc p0.a λa11=>ldI w2.drew (a11.add (Int.toNat (IntKind.i64.wrap (s5.1-(1:Int))))) .u32 λx12=>dz 133 #[zu x10,zu x12] w2.drew λx14 w3=>ifB x14 (m7 () w3) (m3 () w3)) (m3 () w2.drew)) (λs8 w4=>(0<=(IntKind.i64.wrap (s5.1-(1:Int)))/\(IntKind.i64.wrap (s5.1-(1:Int)))<(p0.l:Int))/\zc p0.a λa15=>ldI w4.drew (a15.add (Int.toNat (IntKind.i64.wrap (s5.1-(1:Int))))) .u32 λx16=>(0<=s5.1/\s5.1<(p0.l:Int))/\zc p0.a λa17=>ldI w4.drew (a17.add s5.1.toNat) .u32 λx18=>(0<=s5.1/\s5.1<(p0.l:Int))/\zc p0.a λa19=>Wr w4.drew (a19.add s5.1.toNat)/\Nw (w4.drew.setCell (a19.add s5.1.toNat) (zu x16)) λw5=>(0<=(IntKind.i64.wrap (s5.1-(1:Int)))/\(IntKind.i64.wrap (s5.1-(1:Int)))<(p0.l:Int))/\zc p0.a λa20=>Wr w5 (a20.add (Int.toNat (IntKind.i64.wrap (s5.1-(1:Int)))))/\Nw (w5.setCell (a20.add (Int.toNat (IntKind.i64.wrap (s5.1-(1:Int))))) (zu x18)) λw6=>n6 ((IntKind.i64.wrap (s5.1-(1:Int))),()) w6)) (s1.1,()) w1) (λs4 w7=>n2 ((IntKind.i64.wrap (s1.1+(1:Int))),()) w7)) (R (.tuple #[]) w1)) ((IntKind.i64.wrap (p1+(1:Int))),()) w
theorem yp(p0)(p1)(p2)(R)(w)(h:yA p0 p1 p2 R w):cC 127 #[.slice p0.a p0.l p0.c,.int .i64 p1,.int .i64 p2] w R:=lwC yD Tryz.func127 h
def yY:Ann:=(.q (.q (.q (.seq none (.q (.one (.loop ⟨[0,6,7,8],[(9,(.b (.int .i64)))]⟩ Z18))) (.q (.one (.loop ⟨[0,6,7],[(10,(.b (.int .i64)))]⟩ (.seq none Z13 (.seq none Z1h .nil)))))))))
def yk(p0:Sl)(p1:Int)(p2:Int)(R:VWP)(w:World):Prop:=zk (S:=Int×Unit) (λs1 w1 n2=>ifB (decide (s1.1≥(0:Int))) (cR 161 #[p0.zw,zi s1.1,zi (IntKind.i64.wrap (p2-p1)),zi p1] w1 λv3 w2=>v3=(.tuple #[])/\n2 ((IntKind.i64.wrap (s1.1-(1:Int))),()) w2) (zk (S:=Int×Unit) (λs4 w3 n5=>ifB (decide (s4.1≥(0:Int))) ((0<=(IntKind.i64.wrap (p1+s4.1))/\(IntKind.i64.wrap (p1+s4.1))<(p0.l:Int))/\zc p0.a λa6=>ldI w3.drew (a6.add (Int.toNat (IntKind.i64.wrap (p1+s4.1)))) .u32 λx7=>(0<=p1/\p1<(p0.l:Int))/\zc p0.a λa8=>ldI w3.drew (a8.add p1.toNat) .u32 λx9=>(0<=p1/\p1<(p0.l:Int))/\zc p0.a λa10=>Wr w3.drew (a10.add p1.toNat)/\Nw (w3.drew.setCell (a10.add p1.toNat) (zu x7)) λw4=>(0<=(IntKind.i64.wrap (p1+s4.1))/\(IntKind.i64.wrap (p1+s4.1))<(p0.l:Int))/\zc p0.a λa11=>Wr w4 (a11.add (Int.toNat (IntKind.i64.wrap (p1+s4.1))))/\Nw (w4.setCell (a11.add (Int.toNat (IntKind.i64.wrap (p1+s4.1)))) (zu x9)) λw5=>cR 161 #[p0.zw,zi 0,zi s4.1,zi p1] w5 λv12 w6=>v12=(.tuple #[])/\n5 ((IntKind.i64.wrap (s4.1-(1:Int))),()) w6) (R (.tuple #[]) w3)) ((IntKind.i64.wrap ((IntKind.i64.wrap (p2-p1))-1)),()) w1)) ((IntKind.i64.wrap (Int.tdiv (IntKind.i64.wrap ((IntKind.i64.wrap (p2-p1))-1)) 2)),()) w
theorem YH(p0)(p1)(p2)(R)(w)(h:yk p0 p1 p2 R w):cC 128 #[.slice p0.a p0.l p0.c,.int .i64 p1,.int .i64 p2] w R:=lwC yY Tryz.func128 h
def yC:Ann:=(.q (.q (.cond (.q (.q (.q (.one (.loop ⟨[0,1,6,7,8],[(9,(.b (.int .i64)))]⟩ (.seq none Z13 (.seq none (.one (.q (.seq (some ⟨[0,1,6,7,8,9],[(10,(.b (.int .i64)))]⟩) Z13 .nil))) .nil))))))) .nil)))
def ya(p0:Sl)(p1:Int)(p2:Int)(R:VWP)(w:World):Prop:=ifB (decide ((IntKind.i64.wrap (p2-p1))≥8)) (Nw (w.alloc (.cells #[.int .u64 0] 239)) λw1=>Wr w1 (zB w)/\Nw (w1.setCell (zB w) (.int .u64 (IntKind.u64.wrap (IntKind.i64.wrap (p2-p1))))) λw2=>dx53 162 #[zi (IntKind.i64.wrap (p2-p1))] w2 λx2 w3=>zk (S:=Int×Unit) (λs3 w4 n4=>ifB (decide (s3.1<=(IntKind.i64.wrap ((IntKind.i64.wrap (p1+(IntKind.i64.wrap ((IntKind.i64.wrap (Int.tdiv (IntKind.i64.wrap (p2-p1)) 4))*2))))+1)))) (dx53 163 #[.pointer (some (zB w))] w4 λx6 w5=>zl (S:=Int×Unit) (λm7=>ifB (decide ((IntKind.i64.wrap (IntKind.u64.wrap (BitVec.toNat (BitVec.ofInt (IntKind.bits .u64) x6 &&& BitVec.ofInt (IntKind.bits .u64) (IntKind.u64.wrap (x2-(1:Int)))):Int)))≥(IntKind.i64.wrap (p2-p1)))) (m7 ((IntKind.i64.wrap ((IntKind.i64.wrap (IntKind.u64.wrap (BitVec.toNat (BitVec.ofInt (IntKind.bits .u64) x6 &&& BitVec.ofInt (IntKind.bits .u64) (IntKind.u64.wrap (x2-(1:Int)))):Int)))-(IntKind.i64.wrap (p2-p1)))),()) w5) (m7 ((IntKind.i64.wrap (IntKind.u64.wrap (BitVec.toNat (BitVec.ofInt (IntKind.bits .u64) x6 &&& BitVec.ofInt (IntKind.bits .u64) (IntKind.u64.wrap (x2-(1:Int)))):Int))),()) w5)) (λs8 w6=>(0<=(IntKind.i64.wrap (p1+s8.1))/\(IntKind.i64.wrap (p1+s8.1))<(p0.l:Int))/\zc p0.a λa9=>ldI w6.drew (a9.add (Int.toNat (IntKind.i64.wrap (p1+s8.1)))) .u32 λx10=>(0<=s3.1/\s3.1<(p0.l:Int))/\zc p0.a λa11=>ldI w6.drew (a11.add s3.1.toNat) .u32 λx12=>(0<=s3.1/\s3.1<(p0.l:Int))/\zc p0.a λa13=>Wr w6.drew (a13.add s3.1.toNat)/\Nw (w6.drew.setCell (a13.add s3.1.toNat) (zu x10)) λw7=>(0<=(IntKind.i64.wrap (p1+s8.1))/\(IntKind.i64.wrap (p1+s8.1))<(p0.l:Int))/\zc p0.a λa14=>Wr w7 (a14.add (Int.toNat (IntKind.i64.wrap (p1+s8.1))))/\Nw (w7.setCell (a14.add (Int.toNat (IntKind.i64.wrap (p1+s8.1)))) (zu x12)) λw8=>n4 ((IntKind.i64.wrap (s3.1+(1:Int))),()) w8)) (R (.tuple #[]) w4)) ((IntKind.i64.wrap ((IntKind.i64.wrap (p1+(IntKind.i64.wrap ((IntKind.i64.wrap (Int.tdiv (IntKind.i64.wrap (p2-p1)) 4))*2))))-1)),()) w3) (R (.tuple #[]) w)
theorem ZE(p0)(p1)(p2)(R)(w)(h:ya p0 p1 p2 R w):cC 129 #[.slice p0.a p0.l p0.c,.int .i64 p1,.int .i64 p2] w R:=lwC yC Tryz.func129 h
def yH:Ann:=(.q (.q (.q (.q (.q (.q (.seq (some ⟨[9],[(11,(.b (.int .i64)))]⟩) (.q (.cond (.seq (some ⟨[0,9],[(10,(.b (.int .i64))),(11,(.b (.int .i64))),(12,(.b (.int .i64)))]⟩) Z1F .nil) .nil)) (.q (.one (.q (.cond Z11 (.q (.cond Z11 Z11)))))))))))))
def yd(p0:Sl)(p1:Int)(p2:Int)(R:VWP)(w:World):Prop:=Nw (w.alloc (.cells #[zi 0] 3)) λw1=>zl (S:=Int×Unit) (λm1=>ifB (decide ((IntKind.i64.wrap (p2-p1))≥8)) (zl (S:=Int×Int×Int×Unit) (λm3=>ifB (decide ((IntKind.i64.wrap (p2-p1))≥50)) (dl 164 #[p0.zw,zi (IntKind.i64.wrap (p1+(IntKind.i64.wrap ((IntKind.i64.wrap (Int.tdiv (IntKind.i64.wrap (p2-p1)) 4))*1)))),.pointer (some (zB w))] w1 λx6 w2=>dl 164 #[p0.zw,zi (IntKind.i64.wrap (p1+(IntKind.i64.wrap ((IntKind.i64.wrap (Int.tdiv (IntKind.i64.wrap (p2-p1)) 4))*2)))),.pointer (some (zB w))] w2 λx8 w3=>dl 164 #[p0.zw,zi (IntKind.i64.wrap (p1+(IntKind.i64.wrap ((IntKind.i64.wrap (Int.tdiv (IntKind.i64.wrap (p2-p1)) 4))*3)))),.pointer (some (zB w))] w3 λx10 w4=>m3 (x6,x8,x10,()) w4) (m3 ((IntKind.i64.wrap (p1+(IntKind.i64.wrap ((IntKind.i64.wrap (Int.tdiv (IntKind.i64.wrap (p2-p1)) 4))*1)))),(IntKind.i64.wrap (p1+(IntKind.i64.wrap ((IntKind.i64.wrap (Int.tdiv (IntKind.i64.wrap (p2-p1)) 4))*2)))),(IntKind.i64.wrap (p1+(IntKind.i64.wrap ((IntKind.i64.wrap (Int.tdiv (IntKind.i64.wrap (p2-p1)) 4))*3)))),()) w1)) (λs4 w5=>dl 165 #[p0.zw,zi s4.1,zi s4.2.1,zi s4.2.2.1,.pointer (some (zB w))] w5 λx12 w6=>m1 (x12,()) w6)) (m1 ((IntKind.i64.wrap (p1+(IntKind.i64.wrap ((IntKind.i64.wrap (Int.tdiv (IntKind.i64.wrap (p2-p1)) 4))*2)))),()) w1)) (λs2 w7=>ldI w7 (zB w) .i64 λx13=>ifB (x13==0) (R (.tuple #[zi s2.1,zi 1]) w7) (ifB (x13==12) (R (.tuple #[zi s2.1,zi 2]) w7) (R (.tuple #[zi s2.1,zi 0]) w7)))
theorem Yf(p0)(p1)(p2)(R)(w)(h:yd p0 p1 p2 R w):cC 130 #[.slice p0.a p0.l p0.c,.int .i64 p1,.int .i64 p2] w R:=lwC yH Tryz.func130 h
def yG:Ann:=(.q (.q (.one (.loop ⟨[0],[(6,(.b (.int .i64))),(7,(.b (.int .i64)))]⟩ (.seq none Z13 (.one Z16))))))
def yb(p0:Sl)(p1:Int)(p2:Int)(R:VWP)(w:World):Prop:=zk (S:=Int×Int×Unit) (λs1 w1 n2=>ifB (decide (s1.1<s1.2.1)) ((0<=s1.2.1/\s1.2.1<(p0.l:Int))/\zc p0.a λa3=>ldI w1.drew (a3.add s1.2.1.toNat) .u32 λx4=>(0<=s1.1/\s1.1<(p0.l:Int))/\zc p0.a λa5=>ldI w1.drew (a5.add s1.1.toNat) .u32 λx6=>(0<=s1.1/\s1.1<(p0.l:Int))/\zc p0.a λa7=>Wr w1.drew (a7.add s1.1.toNat)/\Nw (w1.drew.setCell (a7.add s1.1.toNat) (zu x4)) λw2=>(0<=s1.2.1/\s1.2.1<(p0.l:Int))/\zc p0.a λa8=>Wr w2 (a8.add s1.2.1.toNat)/\Nw (w2.setCell (a8.add s1.2.1.toNat) (zu x6)) λw3=>n2 ((IntKind.i64.wrap (s1.1+(1:Int))),(IntKind.i64.wrap (s1.2.1-(1:Int))),()) w3) (R (.tuple #[]) w1)) (p1,(IntKind.i64.wrap (p2-(1:Int))),()) w
theorem ZL(p0)(p1)(p2)(R)(w)(h:yb p0 p1 p2 R w):cC 131 #[.slice p0.a p0.l p0.c,.int .i64 p1,.int .i64 p2] w R:=lwC yG Tryz.func131 h
def yh:Ann:=(.q (.q (.seq none (.q (.one (.loop ⟨[0,1,2],[(7,(.b (.int .i64))),(8,(.b (.int .i64)))]⟩ (.seq none Z13 (.seq (some ⟨[0,1,2,8],[(7,(.b (.int .i64)))]⟩) (.one (.seq (some ⟨[0,1,2,8],[(7,(.b (.int .i64)))]⟩) (.one (.loop ⟨[0,1,2,8],[(7,(.b (.int .i64)))]⟩ (.seq (some ⟨[0,1,2,7,8],[]⟩) Z13 Z1K))) (.seq none Z10 (.seq none Z10 (.q (.seq (some ⟨[0,1,2,7,8],[]⟩) (.q (.cond (.q (.one (.loop ⟨[0,1,2,7,8],[(9,(.b (.int .i64)))]⟩ Z1V))) .nil)) (.q (.cond (.q (.one (.loop ⟨[0,1,2,7,8],[(10,(.b (.int .i64)))]⟩ Z1V))) .nil)))))))) .nil))))) Z11)))
def zQ(p0:Sl)(p1:Int)(p2:Int)(R:VWP)(w:World):Prop:=zk (S:=Int×Int×Unit) (λs1 w1 n2=>ifB (decide (s1.2.1<(5:Int))) (zl (S:=Int×Unit) (λm3=>zl (S:=Int×Unit) (λm5=>zk (S:=Int×Unit) (λs7 w2 n8=>zl (S:=Unit) (λm9=>ifB (decide (s7.1<p2)) ((0<=s7.1/\s7.1<(p0.l:Int))/\zc p0.a λa11=>ldI w2.drew (a11.add s7.1.toNat) .u32 λx12=>(0<=(IntKind.i64.wrap (s7.1-(1:Int)))/\(IntKind.i64.wrap (s7.1-(1:Int)))<(p0.l:Int))/\zc p0.a λa13=>ldI w2.drew (a13.add (Int.toNat (IntKind.i64.wrap (s7.1-(1:Int))))) .u32 λx14=>dz 133 #[zu x12,zu x14] w2.drew λx16 w3=>ifB (!x16) (m9 () w3) (m5 (s7.1,()) w3)) (m5 (s7.1,()) w2.drew)) (λs10 w4=>n8 ((IntKind.i64.wrap (s7.1+(1:Int))),()) w4)) (s1.1,()) w1) (λs6 w5=>ifB (s6.1==p2) (R (.bool true) w5) (ifB (decide ((IntKind.i64.wrap (p2-p1))<50)) (R (.bool false) w5) ((0<=(IntKind.i64.wrap (s6.1-(1:Int)))/\(IntKind.i64.wrap (s6.1-(1:Int)))<(p0.l:Int))/\zc p0.a λa17=>ldI w5.drew (a17.add (Int.toNat (IntKind.i64.wrap (s6.1-(1:Int))))) .u32 λx18=>(0<=s6.1/\s6.1<(p0.l:Int))/\zc p0.a λa19=>ldI w5.drew (a19.add s6.1.toNat) .u32 λx20=>(0<=s6.1/\s6.1<(p0.l:Int))/\zc p0.a λa21=>Wr w5.drew (a21.add s6.1.toNat)/\Nw (w5.drew.setCell (a21.add s6.1.toNat) (zu x18)) λw6=>(0<=(IntKind.i64.wrap (s6.1-(1:Int)))/\(IntKind.i64.wrap (s6.1-(1:Int)))<(p0.l:Int))/\zc p0.a λa22=>Wr w6 (a22.add (Int.toNat (IntKind.i64.wrap (s6.1-(1:Int)))))/\Nw (w6.setCell (a22.add (Int.toNat (IntKind.i64.wrap (s6.1-(1:Int))))) (zu x20)) λw7=>zl (S:=Unit) (λm23=>ifB (decide ((IntKind.i64.wrap (s6.1-p1))≥2)) (zk (S:=Int×Unit) (λs25 w8 n26=>ifB (decide (s25.1≥(1:Int))) ((0<=s25.1/\s25.1<(p0.l:Int))/\zc p0.a λa27=>ldI w8.drew (a27.add s25.1.toNat) .u32 λx28=>(0<=(IntKind.i64.wrap (s25.1-(1:Int)))/\(IntKind.i64.wrap (s25.1-(1:Int)))<(p0.l:Int))/\zc p0.a λa29=>ldI w8.drew (a29.add (Int.toNat (IntKind.i64.wrap (s25.1-(1:Int))))) .u32 λx30=>dz 133 #[zu x28,zu x30] w8.drew λx32 w9=>ifB (!x32) (m23 () w9) ((0<=(IntKind.i64.wrap (s25.1-(1:Int)))/\(IntKind.i64.wrap (s25.1-(1:Int)))<(p0.l:Int))/\zc p0.a λa33=>ldI w9.drew (a33.add (Int.toNat (IntKind.i64.wrap (s25.1-(1:Int))))) .u32 λx34=>(0<=s25.1/\s25.1<(p0.l:Int))/\zc p0.a λa35=>ldI w9.drew (a35.add s25.1.toNat) .u32 λx36=>(0<=s25.1/\s25.1<(p0.l:Int))/\zc p0.a λa37=>Wr w9.drew (a37.add s25.1.toNat)/\Nw (w9.drew.setCell (a37.add s25.1.toNat) (zu x34)) λw10=>(0<=(IntKind.i64.wrap (s25.1-(1:Int)))/\(IntKind.i64.wrap (s25.1-(1:Int)))<(p0.l:Int))/\zc p0.a λa38=>Wr w10 (a38.add (Int.toNat (IntKind.i64.wrap (s25.1-(1:Int)))))/\Nw (w10.setCell (a38.add (Int.toNat (IntKind.i64.wrap (s25.1-(1:Int))))) (zu x36)) λw11=>n26 ((IntKind.i64.wrap (s25.1-(1:Int))),()) w11)) (m23 () w8)) ((IntKind.i64.wrap (s6.1-(1:Int))),()) w7) (m23 () w7)) (λs24 w12=>ifB (decide ((IntKind.i64.wrap (p2-s6.1))≥2)) (zk (S:=Int×Unit) (λs39 w13 n40=>ifB (decide (s39.1<p2)) ((0<=s39.1/\s39.1<(p0.l:Int))/\zc p0.a λa41=>ldI w13.drew (a41.add s39.1.toNat) .u32 λx42=>(0<=(IntKind.i64.wrap (s39.1-(1:Int)))/\(IntKind.i64.wrap (s39.1-(1:Int)))<(p0.l:Int))/\zc p0.a λa43=>ldI w13.drew (a43.add (Int.toNat (IntKind.i64.wrap (s39.1-(1:Int))))) .u32 λx44=>dz 133 #[zu x42,zu x44] w13.drew λx46 w14=>ifB (!x46) (m3 (s6.1,()) w14) ((0<=(IntKind.i64.wrap (s39.1-(1:Int)))/\(IntKind.i64.wrap (s39.1-(1:Int)))<(p0.l:Int))/\zc p0.a λa47=>ldI w14.drew (a47.add (Int.toNat (IntKind.i64.wrap (s39.1-(1:Int))))) .u32 λx48=>(0<=s39.1/\s39.1<(p0.l:Int))/\zc p0.a λa49=>ldI w14.drew (a49.add s39.1.toNat) .u32 λx50=>(0<=s39.1/\s39.1<(p0.l:Int))/\zc p0.a λa51=>Wr w14.drew (a51.add s39.1.toNat)/\Nw (w14.drew.setCell (a51.add s39.1.toNat) (zu x48)) λw15=>(0<=(IntKind.i64.wrap (s39.1-(1:Int)))/\(IntKind.i64.wrap (s39.1-(1:Int)))<(p0.l:Int))/\zc p0.a λa52=>Wr w15 (a52.add (Int.toNat (IntKind.i64.wrap (s39.1-(1:Int)))))/\Nw (w15.setCell (a52.add (Int.toNat (IntKind.i64.wrap (s39.1-(1:Int))))) (zu x50)) λw16=>n40 ((IntKind.i64.wrap (s39.1+(1:Int))),()) w16)) (m3 (s6.1,()) w13)) ((IntKind.i64.wrap (s6.1+(1:Int))),()) w12) (m3 (s6.1,()) w12)))))) (λs4 w17=>n2 (s4.1,(IntKind.i64.wrap (s1.2.1+(1:Int))),()) w17)) (R (.bool false) w1)) ((IntKind.i64.wrap (p1+(1:Int))),0,()) w
theorem yV(p0)(p1)(p2)(R)(w)(h:zQ p0 p1 p2 R w):cC 132 #[.slice p0.a p0.l p0.c,.int .i64 p1,.int .i64 p2] w R:=lwC yh Tryz.func132 h
def zee:Ann:=Z16
def zdU(p0:Int)(p1:Int)(R:VWP)(w:World):Prop:=dz 166 #[zu p0] w λx2 w1=>ifB x2 (dz 166 #[zu p1] w1 λx4 w2=>ifB (!x4) (R (.bool true) w2) (R (.bool (decide (p0<p1))) w2)) (R (.bool (decide (p0<p1))) w1)
theorem zgz(p0)(p1)(R)(w)(h:zdU p0 p1 R w):cC 133 #[.int .u32 p0,.int .u32 p1] w R:=lwC zee Tryz.func133 h
def y7:Ann:=(.q (.q (.q (.seq none (.one (.loop ⟨[0,1],[(9,(.b (.int .i64))),(10,(.b (.int .i64)))]⟩ (.one (.seq (some ⟨[0,1,10],[(9,(.b (.int .i64)))]⟩) (.one (.loop ⟨[0,1,10],[(9,(.b (.int .i64)))]⟩ Z1e)) (.seq (some ⟨[0,1,9],[(10,(.b (.int .i64)))]⟩) (.one (.loop ⟨[0,1,9],[(10,(.b (.int .i64)))]⟩ Z1e)) (.seq none Z13 Z16)))))) Z11))))
def zY(p0:Sl)(p1:Int)(p2:Int)(p3:Int)(R:VWP)(w:World):Prop:=(0<=p3/\p3<(p0.l:Int))/\zc p0.a λa1=>ldI w.drew (a1.add p3.toNat) .u32 λx2=>(0<=p1/\p1<(p0.l:Int))/\zc p0.a λa3=>ldI w.drew (a3.add p1.toNat) .u32 λx4=>(0<=p1/\p1<(p0.l:Int))/\zc p0.a λa5=>Wr w.drew (a5.add p1.toNat)/\Nw (w.drew.setCell (a5.add p1.toNat) (zu x2)) λw1=>(0<=p3/\p3<(p0.l:Int))/\zc p0.a λa6=>Wr w1 (a6.add p3.toNat)/\Nw (w1.setCell (a6.add p3.toNat) (zu x4)) λw2=>zk (S:=Int×Int×Unit) (λs7 w3 n8=>zl (S:=Int×Unit) (λm9=>zk (S:=Int×Unit) (λs11 w4 n12=>zl (S:=Unit) (λm13=>ifB (decide (s11.1<=s7.2.1)) ((0<=p1/\p1<(p0.l:Int))/\zc p0.a λa15=>ldI w4.drew (a15.add p1.toNat) .u32 λx16=>(0<=s11.1/\s11.1<(p0.l:Int))/\zc p0.a λa17=>ldI w4.drew (a17.add s11.1.toNat) .u32 λx18=>dz 133 #[zu x16,zu x18] w4.drew λx20 w5=>ifB (!x20) (m13 () w5) (m9 (s11.1,()) w5)) (m9 (s11.1,()) w4.drew)) (λs14 w6=>n12 ((IntKind.i64.wrap (s11.1+(1:Int))),()) w6)) (s7.1,()) w3) (λs10 w7=>zl (S:=Int×Unit) (λm21=>zk (S:=Int×Unit) (λs23 w8 n24=>zl (S:=Unit) (λm25=>ifB (decide (s10.1<=s23.1)) ((0<=p1/\p1<(p0.l:Int))/\zc p0.a λa27=>ldI w8.drew (a27.add p1.toNat) .u32 λx28=>(0<=s23.1/\s23.1<(p0.l:Int))/\zc p0.a λa29=>ldI w8.drew (a29.add s23.1.toNat) .u32 λx30=>dz 133 #[zu x28,zu x30] w8.drew λx32 w9=>ifB x32 (m25 () w9) (m21 (s23.1,()) w9)) (m21 (s23.1,()) w8.drew)) (λs26 w10=>n24 ((IntKind.i64.wrap (s23.1-(1:Int))),()) w10)) (s7.2.1,()) w7) (λs22 w11=>ifB (decide (s10.1>s22.1)) (R (zi s10.1) w11) ((0<=s22.1/\s22.1<(p0.l:Int))/\zc p0.a λa33=>ldI w11.drew (a33.add s22.1.toNat) .u32 λx34=>(0<=s10.1/\s10.1<(p0.l:Int))/\zc p0.a λa35=>ldI w11.drew (a35.add s10.1.toNat) .u32 λx36=>(0<=s10.1/\s10.1<(p0.l:Int))/\zc p0.a λa37=>Wr w11.drew (a37.add s10.1.toNat)/\Nw (w11.drew.setCell (a37.add s10.1.toNat) (zu x34)) λw12=>(0<=s22.1/\s22.1<(p0.l:Int))/\zc p0.a λa38=>Wr w12 (a38.add s22.1.toNat)/\Nw (w12.setCell (a38.add s22.1.toNat) (zu x36)) λw13=>n8 ((IntKind.i64.wrap (s10.1+(1:Int))),(IntKind.i64.wrap (s22.1-(1:Int))),()) w13)))) ((IntKind.i64.wrap (p1+(1:Int))),(IntKind.i64.wrap (p2-(1:Int))),()) w2
theorem Z7(p0)(p1)(p2)(p3)(R)(w)(h:zY p0 p1 p2 p3 R w):cC 134 #[.slice p0.a p0.l p0.c,.int .i64 p1,.int .i64 p2,.int .i64 p3] w R:=lwC y7 Tryz.func134 h
def yS:Ann:=(.q (.q (.q (.seq (some ⟨[0,1,11],[(10,(.b (.int .i64)))]⟩) Z1Y (.seq (some ⟨[0,1,10],[(11,(.b (.int .i64)))]⟩) Z1Z (.seq none Z1F (.q (.q (.q (.seq none (.one (.loop ⟨[0,1],[(10,(.b (.int .i64))),(11,(.b (.int .i64)))]⟩ (.one (.seq (some ⟨[0,1,11],[(10,(.b (.int .i64)))]⟩) Z1Y (.seq (some ⟨[0,1,10],[(11,(.b (.int .i64)))]⟩) Z1Z (.seq none Z13 Z16)))))) Z16))))))))))
def yi(p0:Sl)(p1:Int)(p2:Int)(p3:Int)(R:VWP)(w:World):Prop:=(0<=p3/\p3<(p0.l:Int))/\zc p0.a λa1=>ldI w.drew (a1.add p3.toNat) .u32 λx2=>(0<=p1/\p1<(p0.l:Int))/\zc p0.a λa3=>ldI w.drew (a3.add p1.toNat) .u32 λx4=>(0<=p1/\p1<(p0.l:Int))/\zc p0.a λa5=>Wr w.drew (a5.add p1.toNat)/\Nw (w.drew.setCell (a5.add p1.toNat) (zu x2)) λw1=>(0<=p3/\p3<(p0.l:Int))/\zc p0.a λa6=>Wr w1 (a6.add p3.toNat)/\Nw (w1.setCell (a6.add p3.toNat) (zu x4)) λw2=>zl (S:=Int×Unit) (λm7=>zk (S:=Int×Unit) (λs9 w3 n10=>zl (S:=Unit) (λm11=>ifB (decide (s9.1<=(IntKind.i64.wrap (p2-(1:Int))))) ((0<=s9.1/\s9.1<(p0.l:Int))/\zc p0.a λa13=>ldI w3.drew (a13.add s9.1.toNat) .u32 λx14=>(0<=p1/\p1<(p0.l:Int))/\zc p0.a λa15=>ldI w3.drew (a15.add p1.toNat) .u32 λx16=>dz 133 #[zu x14,zu x16] w3.drew λx18 w4=>ifB x18 (m11 () w4) (m7 (s9.1,()) w4)) (m7 (s9.1,()) w3.drew)) (λs12 w5=>n10 ((IntKind.i64.wrap (s9.1+(1:Int))),()) w5)) ((IntKind.i64.wrap (p1+(1:Int))),()) w2) (λs8 w6=>zl (S:=Int×Unit) (λm19=>zk (S:=Int×Unit) (λs21 w7 n22=>zl (S:=Unit) (λm23=>ifB (decide (s8.1<=s21.1)) ((0<=s21.1/\s21.1<(p0.l:Int))/\zc p0.a λa25=>ldI w7.drew (a25.add s21.1.toNat) .u32 λx26=>(0<=p1/\p1<(p0.l:Int))/\zc p0.a λa27=>ldI w7.drew (a27.add p1.toNat) .u32 λx28=>dz 133 #[zu x26,zu x28] w7.drew λx30 w8=>ifB (!x30) (m23 () w8) (m19 (s21.1,()) w8)) (m19 (s21.1,()) w7.drew)) (λs24 w9=>n22 ((IntKind.i64.wrap (s21.1-(1:Int))),()) w9)) ((IntKind.i64.wrap (p2-(1:Int))),()) w6) (λs20 w10=>ifB (decide (s8.1>s20.1)) ((0<=p1/\p1<(p0.l:Int))/\zc p0.a λa31=>ldI w10.drew (a31.add p1.toNat) .u32 λx32=>(0<=s20.1/\s20.1<(p0.l:Int))/\zc p0.a λa33=>ldI w10.drew (a33.add s20.1.toNat) .u32 λx34=>(0<=s20.1/\s20.1<(p0.l:Int))/\zc p0.a λa35=>Wr w10.drew (a35.add s20.1.toNat)/\Nw (w10.drew.setCell (a35.add s20.1.toNat) (zu x32)) λw11=>(0<=p1/\p1<(p0.l:Int))/\zc p0.a λa36=>Wr w11 (a36.add p1.toNat)/\Nw (w11.setCell (a36.add p1.toNat) (zu x34)) λw12=>R (.tuple #[zi s20.1,.bool true]) w12) ((0<=s20.1/\s20.1<(p0.l:Int))/\zc p0.a λa37=>ldI w10.drew (a37.add s20.1.toNat) .u32 λx38=>(0<=s8.1/\s8.1<(p0.l:Int))/\zc p0.a λa39=>ldI w10.drew (a39.add s8.1.toNat) .u32 λx40=>(0<=s8.1/\s8.1<(p0.l:Int))/\zc p0.a λa41=>Wr w10.drew (a41.add s8.1.toNat)/\Nw (w10.drew.setCell (a41.add s8.1.toNat) (zu x38)) λw13=>(0<=s20.1/\s20.1<(p0.l:Int))/\zc p0.a λa42=>Wr w13 (a42.add s20.1.toNat)/\Nw (w13.setCell (a42.add s20.1.toNat) (zu x40)) λw14=>zk (S:=Int×Int×Unit) (λs43 w15 n44=>zl (S:=Int×Unit) (λm45=>zk (S:=Int×Unit) (λs47 w16 n48=>zl (S:=Unit) (λm49=>ifB (decide (s47.1<=s43.2.1)) ((0<=s47.1/\s47.1<(p0.l:Int))/\zc p0.a λa51=>ldI w16.drew (a51.add s47.1.toNat) .u32 λx52=>(0<=p1/\p1<(p0.l:Int))/\zc p0.a λa53=>ldI w16.drew (a53.add p1.toNat) .u32 λx54=>dz 133 #[zu x52,zu x54] w16.drew λx56 w17=>ifB x56 (m49 () w17) (m45 (s47.1,()) w17)) (m45 (s47.1,()) w16.drew)) (λs50 w18=>n48 ((IntKind.i64.wrap (s47.1+(1:Int))),()) w18)) (s43.1,()) w15) (λs46 w19=>zl (S:=Int×Unit) (λm57=>zk (S:=Int×Unit) (λs59 w20 n60=>zl (S:=Unit) (λm61=>ifB (decide (s46.1<=s59.1)) ((0<=s59.1/\s59.1<(p0.l:Int))/\zc p0.a λa63=>ldI w20.drew (a63.add s59.1.toNat) .u32 λx64=>(0<=p1/\p1<(p0.l:Int))/\zc p0.a λa65=>ldI w20.drew (a65.add p1.toNat) .u32 λx66=>dz 133 #[zu x64,zu x66] w20.drew λx68 w21=>ifB (!x68) (m61 () w21) (m57 (s59.1,()) w21)) (m57 (s59.1,()) w20.drew)) (λs62 w22=>n60 ((IntKind.i64.wrap (s59.1-(1:Int))),()) w22)) (s43.2.1,()) w19) (λs58 w23=>ifB (decide (s46.1>s58.1)) ((0<=p1/\p1<(p0.l:Int))/\zc p0.a λa69=>ldI w23.drew (a69.add p1.toNat) .u32 λx70=>(0<=s58.1/\s58.1<(p0.l:Int))/\zc p0.a λa71=>ldI w23.drew (a71.add s58.1.toNat) .u32 λx72=>(0<=s58.1/\s58.1<(p0.l:Int))/\zc p0.a λa73=>Wr w23.drew (a73.add s58.1.toNat)/\Nw (w23.drew.setCell (a73.add s58.1.toNat) (zu x70)) λw24=>(0<=p1/\p1<(p0.l:Int))/\zc p0.a λa74=>Wr w24 (a74.add p1.toNat)/\Nw (w24.setCell (a74.add p1.toNat) (zu x72)) λw25=>R (.tuple #[zi s58.1,.bool false]) w25) ((0<=s58.1/\s58.1<(p0.l:Int))/\zc p0.a λa75=>ldI w23.drew (a75.add s58.1.toNat) .u32 λx76=>(0<=s46.1/\s46.1<(p0.l:Int))/\zc p0.a λa77=>ldI w23.drew (a77.add s46.1.toNat) .u32 λx78=>(0<=s46.1/\s46.1<(p0.l:Int))/\zc p0.a λa79=>Wr w23.drew (a79.add s46.1.toNat)/\Nw (w23.drew.setCell (a79.add s46.1.toNat) (zu x76)) λw26=>(0<=s58.1/\s58.1<(p0.l:Int))/\zc p0.a λa80=>Wr w26 (a80.add s58.1.toNat)/\Nw (w26.setCell (a80.add s58.1.toNat) (zu x78)) λw27=>n44 ((IntKind.i64.wrap (s46.1+(1:Int))),(IntKind.i64.wrap (s58.1-(1:Int))),()) w27)))) ((IntKind.i64.wrap (s8.1+(1:Int))),(IntKind.i64.wrap (s20.1-(1:Int))),()) w14)))
theorem Y0(p0)(p1)(p2)(p3)(R)(w)(h:yi p0 p1 p2 p3 R w):cC 135 #[.slice p0.a p0.l p0.c,.int .i64 p1,.int .i64 p2,.int .i64 p3] w R:=lwC yS Tryz.func135 h
def zeo:Ann:=(.q (.seq (some ⟨[],[(0,(.b (.int .u64))),(2,(.b (.int .i64)))]⟩) Z10 (.seq (some ⟨[],[(0,(.b (.int .u64))),(2,(.b (.int .i64)))]⟩) Z10 (.seq (some ⟨[],[(0,(.b (.int .u64))),(2,(.b (.int .i64)))]⟩) Z10 Z11))))
def zed(p0:Int)(R:VWP)(w:World):Prop:=zl (S:=Int×Int×Unit) (λm1=>ifB (decide (p0≥(4294967296:Int))) (m1 ((Int.fdiv p0 (2 ^ (min 32 (IntKind.bits .u64)))),32,()) w) (m1 (p0,0,()) w)) (λs2 w1=>zl (S:=Int×Int×Unit) (λm3=>ifB (decide (s2.1≥(65536:Int))) (m3 ((Int.fdiv s2.1 (2 ^ (min 16 (IntKind.bits .u64)))),(IntKind.i64.wrap (s2.2.1+(16:Int))),()) w1) (m3 (s2.1,s2.2.1,()) w1)) (λs4 w2=>zl (S:=Int×Int×Unit) (λm5=>ifB (decide (s4.1≥(256:Int))) (m5 ((Int.fdiv s4.1 (2 ^ (min 8 (IntKind.bits .u64)))),(IntKind.i64.wrap (s4.2.1+(8:Int))),()) w2) (m5 (s4.1,s4.2.1,()) w2)) (λs6 w3=>(0<=(IntKind.u8.wrap s6.1)/\(IntKind.u8.wrap s6.1)<((BM #[0,1,2,2,3,3,3,3,4,4,4,4,4,4,4,4,5,5,5,5,5,5,5,5,5,5,5,5,5,5,5,5,6,6,6,6,6,6,6,6,6,6,6,6,6,6,6,6,6,6,6,6,6,6,6,6,6,6,6,6,6,6,6,6,7,7,7,7,7,7,7,7,7,7,7,7,7,7,7,7,7,7,7,7,7,7,7,7,7,7,7,7,7,7,7,7,7,7,7,7,7,7,7,7,7,7,7,7,7,7,7,7,7,7,7,7,7,7,7,7,7,7,7,7,7,7,7,7,8,8,8,8,8,8,8,8,8,8,8,8,8,8,8,8,8,8,8,8,8,8,8,8,8,8,8,8,8,8,8,8,8,8,8,8,8,8,8,8,8,8,8,8,8,8,8,8,8,8,8,8,8,8,8,8,8,8,8,8,8,8,8,8,8,8,8,8,8,8,8,8,8,8,8,8,8,8,8,8,8,8,8,8,8,8,8,8,8,8,8,8,8,8,8,8,8,8,8,8,8,8,8,8,8,8,8,8,8,8,8,8,8,8,8,8,8,8,8,8,8,8,8,8,8,8,8,8]).size:Int))/\R (zi (IntKind.i64.wrap (s6.2.1+(IntKind.i64.wrap (Yu (BM #[0,1,2,2,3,3,3,3,4,4,4,4,4,4,4,4,5,5,5,5,5,5,5,5,5,5,5,5,5,5,5,5,6,6,6,6,6,6,6,6,6,6,6,6,6,6,6,6,6,6,6,6,6,6,6,6,6,6,6,6,6,6,6,6,7,7,7,7,7,7,7,7,7,7,7,7,7,7,7,7,7,7,7,7,7,7,7,7,7,7,7,7,7,7,7,7,7,7,7,7,7,7,7,7,7,7,7,7,7,7,7,7,7,7,7,7,7,7,7,7,7,7,7,7,7,7,7,7,8,8,8,8,8,8,8,8,8,8,8,8,8,8,8,8,8,8,8,8,8,8,8,8,8,8,8,8,8,8,8,8,8,8,8,8,8,8,8,8,8,8,8,8,8,8,8,8,8,8,8,8,8,8,8,8,8,8,8,8,8,8,8,8,8,8,8,8,8,8,8,8,8,8,8,8,8,8,8,8,8,8,8,8,8,8,8,8,8,8,8,8,8,8,8,8,8,8,8,8,8,8,8,8,8,8,8,8,8,8,8,8,8,8,8,8,8,8,8,8,8,8,8,8,8,8,8,8]) (IntKind.u8.wrap s6.1)))))) w3)))
theorem zg8(p0)(R)(w)(h:zed p0 R w):cC 137 #[.int .u64 p0] w R:=lwC zeo Tryz.func137 h
def yZ:Ann:=(.q (.one (.loop ⟨[0,2,3],[(8,(.b (.int .i64)))]⟩ (.one (.q (.seq none Z13 (.seq (some ⟨[0,2,3,8],[(9,(.b (.int .i64)))]⟩) Z13 (.seq none Z13 Z11))))))))
def yX(p0:Sl)(p1:Int)(p2:Int)(p3:Int)(R:VWP)(w:World):Prop:=zk (S:=Int×Unit) (λs1 w1 n2=>ifB (decide ((IntKind.i64.wrap ((IntKind.i64.wrap (2*s1.1))+1))≥p2)) (R (.tuple #[]) w1) (zl (S:=Int×Unit) (λm3=>ifB (decide ((IntKind.i64.wrap ((IntKind.i64.wrap ((IntKind.i64.wrap (2*s1.1))+1))+1))<p2)) ((0<=(IntKind.i64.wrap (p3+(IntKind.i64.wrap ((IntKind.i64.wrap (2*s1.1))+1))))/\(IntKind.i64.wrap (p3+(IntKind.i64.wrap ((IntKind.i64.wrap (2*s1.1))+1))))<(p0.l:Int))/\zc p0.a λa5=>ldI w1.drew (a5.add (Int.toNat (IntKind.i64.wrap (p3+(IntKind.i64.wrap ((IntKind.i64.wrap (2*s1.1))+1)))))) .u32 λx6=>(0<=(IntKind.i64.wrap ((IntKind.i64.wrap (p3+(IntKind.i64.wrap ((IntKind.i64.wrap (2*s1.1))+1))))+1))/\(IntKind.i64.wrap ((IntKind.i64.wrap (p3+(IntKind.i64.wrap ((IntKind.i64.wrap (2*s1.1))+1))))+1))<(p0.l:Int))/\zc p0.a λa7=>ldI w1.drew (a7.add (Int.toNat (IntKind.i64.wrap ((IntKind.i64.wrap (p3+(IntKind.i64.wrap ((IntKind.i64.wrap (2*s1.1))+1))))+1)))) .u32 λx8=>dz 133 #[zu x6,zu x8] w1.drew λx10 w2=>ifB x10 (m3 ((IntKind.i64.wrap ((IntKind.i64.wrap ((IntKind.i64.wrap (2*s1.1))+1))+1)),()) w2) (m3 ((IntKind.i64.wrap ((IntKind.i64.wrap (2*s1.1))+1)),()) w2)) (m3 ((IntKind.i64.wrap ((IntKind.i64.wrap (2*s1.1))+1)),()) w1.drew)) (λs4 w3=>(0<=(IntKind.i64.wrap (p3+s1.1))/\(IntKind.i64.wrap (p3+s1.1))<(p0.l:Int))/\zc p0.a λa11=>ldI w3.drew (a11.add (Int.toNat (IntKind.i64.wrap (p3+s1.1)))) .u32 λx12=>(0<=(IntKind.i64.wrap (p3+s4.1))/\(IntKind.i64.wrap (p3+s4.1))<(p0.l:Int))/\zc p0.a λa13=>ldI w3.drew (a13.add (Int.toNat (IntKind.i64.wrap (p3+s4.1)))) .u32 λx14=>dz 133 #[zu x12,zu x14] w3.drew λx16 w4=>ifB (!x16) (R (.tuple #[]) w4) ((0<=(IntKind.i64.wrap (p3+s4.1))/\(IntKind.i64.wrap (p3+s4.1))<(p0.l:Int))/\zc p0.a λa17=>ldI w4.drew (a17.add (Int.toNat (IntKind.i64.wrap (p3+s4.1)))) .u32 λx18=>(0<=(IntKind.i64.wrap (p3+s1.1))/\(IntKind.i64.wrap (p3+s1.1))<(p0.l:Int))/\zc p0.a λa19=>ldI w4.drew (a19.add (Int.toNat (IntKind.i64.wrap (p3+s1.1)))) .u32 λx20=>(0<=(IntKind.i64.wrap (p3+s1.1))/\(IntKind.i64.wrap (p3+s1.1))<(p0.l:Int))/\zc p0.a λa21=>Wr w4.drew (a21.add (Int.toNat (IntKind.i64.wrap (p3+s1.1))))/\Nw (w4.drew.setCell (a21.add (Int.toNat (IntKind.i64.wrap (p3+s1.1)))) (zu x18)) λw5=>(0<=(IntKind.i64.wrap (p3+s4.1))/\(IntKind.i64.wrap (p3+s4.1))<(p0.l:Int))/\zc p0.a λa22=>Wr w5 (a22.add (Int.toNat (IntKind.i64.wrap (p3+s4.1))))/\Nw (w5.setCell (a22.add (Int.toNat (IntKind.i64.wrap (p3+s4.1)))) (zu x20)) λw6=>n2 (s4.1,()) w6)))) (p1,()) w
theorem YI(p0)(p1)(p2)(p3)(R)(w)(h:yX p0 p1 p2 p3 R w):cC 161 #[.slice p0.a p0.l p0.c,.int .i64 p1,.int .i64 p2,.int .i64 p3] w R:=lwC yZ Tryz.func161 h
def zac:Ann:=Z16
def Za(p0:Int)(R:VWP)(w:World):Prop:=dl 99 #[.int .u64 (IntKind.u64.wrap p0)] w λx2 w1=>ifB (decide (x2<0)) (False) (R (.int .u64 (IntKind.u64.wrap ((1:Int)*2 ^ (min x2.toNat (IntKind.bits .u64))))) w1)
theorem zcV(p0)(R)(w)(h:Za p0 R w):cC 162 #[.int .i64 p0] w R:=lwC zac Tryz.func162 h
def za2:Ann:=(.q Z1i)
def zaw(p0:Option Addr)(R:VWP)(w:World):Prop:=zc p0 λa1=>ldI w.drew a1 .u64 λx2=>zc p0 λa3=>ldI w.drew a3 .u64 λx4=>zc p0 λa5=>Wr w.drew a5/\Nw (w.drew.setCell a5 (.int .u64 (IntKind.u64.wrap (BitVec.toNat (BitVec.ofInt (IntKind.bits .u64) x2 ^^^ BitVec.ofInt (IntKind.bits .u64) (IntKind.u64.wrap (x4*2 ^ (min 13 (IntKind.bits .u64))))):Int)))) λw1=>zc p0 λa6=>ldI w1.drew a6 .u64 λx7=>zc p0 λa8=>ldI w1.drew a8 .u64 λx9=>zc p0 λa10=>Wr w1.drew a10/\Nw (w1.drew.setCell a10 (.int .u64 (IntKind.u64.wrap (BitVec.toNat (BitVec.ofInt (IntKind.bits .u64) x7 ^^^ BitVec.ofInt (IntKind.bits .u64) (Int.fdiv x9 (2 ^ (min 7 (IntKind.bits .u64))))):Int)))) λw2=>zc p0 λa11=>ldI w2.drew a11 .u64 λx12=>zc p0 λa13=>ldI w2.drew a13 .u64 λx14=>zc p0 λa15=>Wr w2.drew a15/\Nw (w2.drew.setCell a15 (.int .u64 (IntKind.u64.wrap (BitVec.toNat (BitVec.ofInt (IntKind.bits .u64) x12 ^^^ BitVec.ofInt (IntKind.bits .u64) (IntKind.u64.wrap (x14*2 ^ (min 17 (IntKind.bits .u64))))):Int)))) λw3=>zc p0 λa16=>ldI w3 a16 .u64 λx17=>R (.int .u64 x17) w3
theorem zdB(p0)(R)(w)(h:zaw p0 R w):cC 163 #[.pointer p0] w R:=lwC za2 Tryz.func163 h
def y6:Ann:=Z16
def zX(p0:Sl)(p1:Int)(p2:Option Addr)(R:VWP)(w:World):Prop:=dl 165 #[p0.zw,zi (IntKind.i64.wrap (p1-(1:Int))),zi p1,zi (IntKind.i64.wrap (p1+(1:Int))),.pointer p2] w λx2 w1=>R (zi x2) w1
theorem Z6(p0)(p1)(p2)(R)(w)(h:zX p0 p1 p2 R w):cC 164 #[.slice p0.a p0.l p0.c,.int .i64 p1,.pointer p2] w R:=lwC y6 Tryz.func164 h
def Zs:Ann:=(.q Z1i)
def Zo(p0:Sl)(p1:Int)(p2:Int)(p3:Int)(p4:Option Addr)(R:VWP)(w:World):Prop:=dT 184 #[p0.zw,zi p1,zi p2,.pointer p4] w λx2 x3 w1=>dT 184 #[p0.zw,zi x3,zi p3,.pointer p4] w1 λx5 x6 w2=>dT 184 #[p0.zw,zi x2,zi x5,.pointer p4] w2 λx8 x9 w3=>R (zi x9) w3
theorem zan(p0)(p1)(p2)(p3)(p4)(R)(w)(h:Zo p0 p1 p2 p3 p4 R w):cC 165 #[.slice p0.a p0.l p0.c,.int .i64 p1,.int .i64 p2,.int .i64 p3,.pointer p4] w R:=lwC Zs Tryz.func165 h
def zdk:Ann:=Z16
def zdb(p0:Int)(R:VWP)(w:World):Prop:=R (.bool (p0 !=p0)) w
theorem zfz(p0)(R)(w)(h:zdb p0 R w):cC 166 #[.int .u32 p0] w R:=lwC zdk Tryz.func166 h
def Zt:Ann:=(.q (.seq none Z1F Z11))
def Zp(p0:Sl)(p1:Int)(p2:Int)(p3:Option Addr)(R:VWP)(w:World):Prop:=(0<=p2/\p2<(p0.l:Int))/\zc p0.a λa1=>ldI w.drew (a1.add p2.toNat) .u32 λx2=>(0<=p1/\p1<(p0.l:Int))/\zc p0.a λa3=>ldI w.drew (a3.add p1.toNat) .u32 λx4=>dz 133 #[zu x2,zu x4] w.drew λx6 w1=>ifB x6 (zc p3 λa7=>ldI w1 a7 .i64 λx8=>zc p3 λa9=>Wr w1 a9/\Nw (w1.setCell a9 (zi (IntKind.i64.wrap (x8+(1:Int))))) λw2=>R (.tuple #[zi p2,zi p1]) w2) (R (.tuple #[zi p1,zi p2]) w1)
theorem zao(p0)(p1)(p2)(p3)(R)(w)(h:Zp p0 p1 p2 p3 R w):cC 184 #[.slice p0.a p0.l p0.c,.int .i64 p1,.int .i64 p2,.pointer p3] w R:=lwC Zt Tryz.func184 h
end Go.Proofs
namespace Go.Proofs
open Go.Gk Go.RowKit
abbrev ltI:Int->Int->Bool:=Go.Sort.ltInt
def Dtw(w:World)(g:Nat)(rest:List Value)(d:Array Int):Prop:=Blk w g 22 (d.toList.map (Value.int .u32)++rest)
theorem Fr.chg{B b:Nat}{X:Nat->Prop}{w0 w w':World}(h:Fr B X w0 w)(c:Chg b w w')(hb:X b\/B<=b):Fr B X w0 w':=
 h.trans ⟨c.os,c.tape,c.output,Nat.le_of_eq c.size.symm,λk hk hx=>c.block k (λe=>by
  rcases hb with hb |hb
  ·exact hx (e▸hb)
  ·omega)⟩
theorem Fr.onto{X:Nat->Prop}{B:Nat}{w0 w w':World}(h:Fr B X w0 w)(k:Fr w.heap.size X w w')(hB:B<=w.heap.size):Fr B X w0 w':=h.trans (k.mono hB λ_ _ h=>h)
section
variable {w w':World} {g:Nat} {rest:List Value} {d:Array Int}
theorem Dtw.drew(h:Dtw w g rest d):Dtw w.drew g rest d:=Blk.drew h
theorem Dtw.below(h:Dtw w g rest d)(hb:Below w.heap.size w w'):Dtw w' g rest d:=Blk.below h hb
theorem Dtw.lt(h:Dtw w g rest d):g<w.heap.size:=Blk.lt h
theorem Dtw.cell(h:Dtw w g rest d){i:Nat}(hi:i<d.size):w.cell? ((blk g).add i)=some (.int .u32 d[i]!):=by
 refine Blk.cell h ?_
 rw[List.getElem?_append_left (by simpa using hi)]
 simp[hi]
theorem Dtw.set(h:Dtw w g rest d){i:Nat}(hi:i<d.size)(v:Int):Wr w ((blk g).add i)/\Dtw (w.setCell ((blk g).add i) (.int .u32 v)) g rest (d.setIfInBounds i v):=by
 refine⟨Blk.wr h (by simp;omega),?_⟩
 have:=Blk.set h i (.int .u32 v)
 rw[List.set_append_left _ _ (by simpa using hi),<-List.map_set]at this
 unfold Dtw
 rw[Array.toList_setIfInBounds]
 exact this
theorem Dtw.at(h:Dtw w g rest d){e:Int}{i n:Nat}(he:e=(i:Int))(hi:i<d.size)(hn:n=d.size){φ:Int->Prop}(hφ:φ d[i]!) :
  (0<=e/\e<(n:Int))/\zc (some (blk g)) λa=>ldI w (a.add (Int.toNat e)) .u32 φ:=by
 subst he
 exact⟨⟨by omega,by omega⟩,zj rfl ⟨_,h.cell hi,hφ⟩⟩
theorem Dtw.swap(h:Dtw w g rest d){e1 e2:Int}{i j n:Nat}(h1:e1=(i:Int))(h2:e2=(j:Int))(hi:i<d.size)(hj:j<d.size)(hn:n=d.size){K:World->Prop}(hK:∀w',Dtw w' g rest (Go.Sort.swp d j i)->Chg g w w'->K w') :
  (0<=e1/\e1<(n:Int))/\zc (some (blk g)) λa1=>ldI w.drew (a1.add (Int.toNat e1)) .u32 λx1=>
  (0<=e2/\e2<(n:Int))/\zc (some (blk g)) λa2=>ldI w.drew (a2.add (Int.toNat e2)) .u32 λx2=>
  (0<=e2/\e2<(n:Int))/\zc (some (blk g)) λa3=>Wr w.drew (a3.add (Int.toNat e2))/\Nw (w.drew.setCell (a3.add (Int.toNat e2)) (.int .u32 x1)) λw1=>
  (0<=e1/\e1<(n:Int))/\zc (some (blk g)) λa4=>Wr w1 (a4.add (Int.toNat e1))/\Nw (w1.setCell (a4.add (Int.toNat e1)) (.int .u32 x2)) λw2=>K w2:=by
 subst h1 h2
 obtain⟨s1,s2⟩:=h.drew.set hj d[i]!
 obtain⟨s3,s4⟩:=s2.set (i:=i) (by simpa using hi) d[j]!
 refine h.drew.at rfl hi hn (h.drew.at rfl hj hn ⟨⟨by omega,by omega⟩,zj rfl ⟨s1,Nw.mk ⟨⟨by omega,by omega⟩,zj rfl ⟨s3,Nw.mk (hK _ s4 ?_)⟩⟩⟩⟩)
 exact(((Chg.refl g w).drew).trans (Chg.set g j _ _)).trans (Chg.set g i _ _)
end
section
variable {w:World} {g n c:Nat} {rest:List Value} {d:Array Int} {R:VWP}
theorem yz{x y:Int}(hR:R (.bool (ltI x y)) w):cR 133 #[.int .u32 x,.int .u32 y] w R:=by
 refine za.of (zgz x y R w ?_) λ_ _ h=>h
 refine za.of (zfz x _ w ?_) λ_ _ h=>h
 exact⟨_,rfl,zE (by simp) hR⟩
theorem zo1{a j:Nat}{d:Array Int}(h:j<=a\/ltI d[j]! d[j-1]! =false):Go.Sort.insInner ltI a j d=d:=by
 cases j with
 |zero=>rfl
 |succ j=>
  rw[Go.Sort.insInner,if_neg]
  intro hh
  rw[Bool.and_eq_true,decide_eq_true_eq]at hh
  rcases h with h |h
  ·omega
  ·rw[Nat.add_sub_cancel]at h
   rw[h]at hh
   cases hh.2
theorem ztR{a j:Nat}{d:Array Int}(h1:a<j)(h2:ltI d[j]! d[j-1]! =true):Go.Sort.insInner ltI a j d=Go.Sort.insInner ltI a (j-1) (Go.Sort.swp d j (j-1)):=by
 cases j with
 |zero=>omega
 |succ j=>
  rw[Nat.add_sub_cancel]at h2⊢
  rw[Go.Sort.insInner,if_pos]
  rw[h2,Bool.and_true,decide_eq_true_eq]
  exact h1
theorem zmD{a b:Nat}(hD:Dtw w g rest d)(hn:n=d.size)(hmax:n<=35184372088832)(hab:a<=b)(hb:b<=n)
  (hR:∀w',Dtw w' g rest (Go.Sort.insertionSort ltI d a b)->Fr w.heap.size (·=g) w w'->R (.tuple #[]) w') :
  cR 127 #[.slice (some (blk g)) n c,.int .i64 (a:Int),.int .i64 (b:Int)] w R:=by
 refine za.of (yp ⟨some (blk g),n,c⟩ a b R w ?_) λ_ _ h=>h
 refine zk.ghost (λk (st:Int×Unit) w'=>∃(i:Nat) (d':Array Int),st=((i:Int),())/\k=b-i/\a+1<=i/\Dtw w' g rest d'/\d'.size=n/\Go.Sort.insOuter ltI a b i d'=Go.Sort.insertionSort ltI d a b/\Fr w.heap.size (·=g) w w') (b-(a+1))
  ⟨a+1,d,by rw[zr (by omega)],rfl,Nat.le_refl _,hD,hn.symm,rfl,Fr.refl _ _ _⟩ ?_
 rintro _ _ w1 ⟨i,d1,rfl,rfl,hi,hD1,hn1,he,hF⟩ next hnext
 refine zf (λh=>?_) (λh=>?_)
 ·have hib:i<b:=by dsimp only at h;omega
  refine zl.cut (λ_ w'=>∃d2,Dtw w' g rest d2/\d2.size=n/\d2=Go.Sort.insInner ltI a i d1/\Fr w.heap.size (·=g) w w') ?_ ?_
  ·refine zk.ghost (λk (st:Int×Unit) w'=>∃(j:Nat) (d2:Array Int),st=((j:Int),())/\k=j/\j<=i/\a<=j/\Dtw w' g rest d2/\d2.size=n/\Go.Sort.insInner ltI a j d2=Go.Sort.insInner ltI a i d1/\Fr w.heap.size (·=g) w w') i
    ⟨i,d1,rfl,rfl,Nat.le_refl _,by omega,hD1,hn1,rfl,hF⟩ ?_
   rintro j _ w2 ⟨_,d2,rfl,rfl,hj,haj,hD2,hn2,he2,hF2⟩ next2 hnext2
   refine zl.cut (λ_ w'=>Dtw w' g rest d2/\Fr w.heap.size (·=g) w w'/\a<j/\ltI d2[j]! d2[j-1]! =true) ?_ ?_
   ·refine zf (λh=>?_) (λh=>?_)
    ·have hj':a<j:=by dsimp only at h;omega
     refine hD2.drew.at rfl (by omega) hn2.symm (hD2.drew.at (i:=j-1) (by rw[zq (by dsimp only;omega) (by dsimp only;omega)];dsimp only;omega) (by omega) hn2.symm (yz ⟨_,rfl,?_⟩))
     refine zo (λhb=>⟨hD2.drew,hF2.drew,hj',hb⟩) (λhb=>⟨d2,hD2.drew,hn2,?_,hF2.drew⟩)
     rw[<-he2,zo1 (.inr hb)]
    ·exact⟨d2,hD2.drew,hn2,by rw[<-he2,zo1 (.inl (by dsimp only at h;omega))],hF2.drew⟩
   ·rintro _ w3 ⟨hD3,hF3,haj',hlt⟩
    have e1:IntKind.i64.wrap ((j:Int)-1)=((j-1:Nat):Int):=by rw[zq (by omega) (by omega)];omega
    refine hD3.swap (i:=j-1) (j:=j) e1 rfl (by omega) (by omega) hn2.symm λw4 hD4 c4=>?_
    rw[show IntKind.i64.wrap ((((j:Int),()):Int×Unit).1-1)=((j-1:Nat):Int) from e1]
    exact hnext2 (j-1) _ _ (by omega) ⟨j-1,_,rfl,rfl,by omega,by omega,hD4,by rw[Go.Sort.size_swp];exact hn2,by rw[<-he2,ztR haj' hlt],hF3.chg c4 (.inl rfl)⟩
  ·rintro _ w2 ⟨d2,hD2,hn2,e2,hF2⟩
   rw[zr (by omega)]
   refine hnext (b-(i+1)) _ _ (by omega) ⟨i+1,d2,rfl,rfl,by omega,hD2,hn2,?_,hF2⟩
   rw[<-he,e2]
   conv=>rhs;rw[Go.Sort.insOuter,if_pos hib]
 ·have:¬i<b:=by dsimp only at h;omega
  rw[Go.Sort.insOuter,if_neg this]at he
  subst he
  exact hR w1 hD1 hF
theorem wr64{x:Int}{k:Nat}(h:x=(k:Int))(hk:k<=9223372036854775807):IntKind.i64.wrap x=(k:Int):=by rw[h];exact zq (by omega) (by omega)
theorem zr0{hi f r:Nat}{d:Array Int}(h:2*r+1≥hi):Go.Sort.siftDown ltI hi f r d=d:=by rw[Go.Sort.siftDown,dif_pos h]
def kid(hi f r:Nat)(d:Array Int):Nat:=if 2*r+2<hi/\ltI d[f+(2*r+1)]! d[f+(2*r+2)]! =true then 2*r+2 else 2*r+1
theorem zsd{hi f r:Nat}{d:Array Int}(h:¬2*r+1≥hi):kid hi f r d<hi/\r<kid hi f r d:=by unfold kid;split<;>omega
theorem zsM{hi f r:Nat}{d:Array Int}(h:¬2*r+1≥hi)(hl:ltI d[f+r]! d[f+kid hi f r d]! =false):Go.Sort.siftDown ltI hi f r d=d:=by
 rw[Go.Sort.siftDown,dif_neg h]
 unfold kid at hl
 by_cases e:2*r+2<hi/\ltI d[f+(2*r+1)]! d[f+(2*r+2)]! =true
 ·rw[if_pos e]at hl
  rw[if_pos (by rw[Bool.and_eq_true,decide_eq_true_eq];exact e),if_pos (by rw[hl];rfl)]
 ·rw[if_neg e]at hl
  rw[if_neg (by rw[Bool.and_eq_true,decide_eq_true_eq];exact e),if_pos (by rw[hl];rfl)]
theorem zt6{hi f r:Nat}{d:Array Int}(h:¬2*r+1≥hi)(hl:ltI d[f+r]! d[f+kid hi f r d]! =true):Go.Sort.siftDown ltI hi f r d=Go.Sort.siftDown ltI hi f (kid hi f r d) (Go.Sort.swp d (f+r) (f+kid hi f r d)):=by
 have hk:=zsd (f:=f) (d:=d) h
 conv=>lhs;rw[Go.Sort.siftDown,dif_neg h]
 unfold kid at hl hk⊢
 by_cases e:2*r+2<hi/\ltI d[f+(2*r+1)]! d[f+(2*r+2)]! =true
 ·rw[if_pos e]at hl hk⊢
  rw[if_pos (by rw[Bool.and_eq_true,decide_eq_true_eq];exact e),if_neg (by rw[hl];simp),dif_pos hk.1]
 ·rw[if_neg e]at hl⊢
  rw[if_neg (by rw[Bool.and_eq_true,decide_eq_true_eq];exact e),if_neg (by rw[hl];simp)]
theorem zna{lo hi f:Nat}(hD:Dtw w g rest d)(hn:n=d.size)(hmax:n<=35184372088832)(hf:f+hi<=n)(hlo:lo<=n)
  (hR:∀w',Dtw w' g rest (Go.Sort.siftDown ltI hi f lo d)->Fr w.heap.size (·=g) w w'->R (.tuple #[]) w') :
  cR 161 #[.slice (some (blk g)) n c,.int .i64 (lo:Int),.int .i64 (hi:Int),.int .i64 (f:Int)] w R:=by
 refine za.of (YI ⟨some (blk g),n,c⟩ lo hi f R w ?_) λ_ _ h=>h
 refine zk.ghost (λk (st:Int×Unit) w'=>∃(r:Nat) (d':Array Int),st=((r:Int),())/\k=n-r/\r<=n/\Dtw w' g rest d'/\d'.size=n/\Go.Sort.siftDown ltI hi f r d'=Go.Sort.siftDown ltI hi f lo d/\Fr w.heap.size (·=g) w w') (n-lo)
  ⟨lo,d,rfl,rfl,hlo,hD,hn.symm,rfl,Fr.refl _ _ _⟩ ?_
 rintro _ _ w1 ⟨r,d1,rfl,rfl,hr,hD1,hn1,he,hF⟩ next hnext
 have e1:IntKind.i64.wrap (IntKind.i64.wrap (2*(r:Int))+1)=((2*r+1:Nat):Int):=by
  have e0:IntKind.i64.wrap (2*(r:Int))=((2*r:Nat):Int):=wr64 (by omega) (by omega)
  rw[e0]
  exact wr64 (by omega) (by omega)
 have e2:IntKind.i64.wrap (((2*r+1:Nat):Int)+1)=((2*r+2:Nat):Int):=wr64 (by omega) (by omega)
 dsimp only
 rw[e1]
 refine zf (λh=>?_) (λh=>?_)
 ·rw[zr0 (by omega)]at he
  subst he
  exact hR w1 hD1 hF
 have hge:¬2*r+1≥hi:=by omega
 obtain⟨hk1,hk2⟩:=zsd (f:=f) (d:=d1) hge
 refine zl.cut (λ(st:Int×Unit) w'=>st.1=((kid hi f r d1:Nat):Int)/\Dtw w' g rest d1/\Fr w.heap.size (·=g) w w') ?_ ?_
 ·rw[e2]
  have e3:IntKind.i64.wrap ((f:Int)+((2*r+1:Nat):Int))=((f+(2*r+1):Nat):Int):=wr64 (by omega) (by omega)
  rw[e3]
  have e4:IntKind.i64.wrap (((f+(2*r+1):Nat):Int)+1)=((f+(2*r+2):Nat):Int):=wr64 (by omega) (by omega)
  rw[e4]
  refine zf (λh=>?_) (λh=>?_)
  ·refine hD1.drew.at rfl (by omega) hn1.symm (hD1.drew.at rfl (by omega) hn1.symm (yz ⟨_,rfl,?_⟩))
   refine zo (λhb=>⟨?_,hD1.drew,hF.drew⟩) (λhb=>⟨?_,hD1.drew,hF.drew⟩)
   ·unfold kid;rw[if_pos ⟨by omega,hb⟩]
   ·unfold kid;rw[if_neg (λg=>by rw[hb]at g;cases g.2)]
  ·refine⟨?_,hD1.drew,hF.drew⟩
   unfold kid;rw[if_neg (λg=>by omega)]
 ·rintro⟨ck,_⟩ w2 ⟨ec,hD2,hF2⟩
  dsimp only at ec⊢
  subst ec
  have e5:IntKind.i64.wrap ((f:Int)+(r:Int))=((f+r:Nat):Int):=wr64 (by omega) (by omega)
  have e6:IntKind.i64.wrap ((f:Int)+((kid hi f r d1:Nat):Int))=((f+kid hi f r d1:Nat):Int):=wr64 (by omega) (by omega)
  rw[e5,e6]
  refine hD2.drew.at rfl (by omega) hn1.symm (hD2.drew.at rfl (by omega) hn1.symm (yz ⟨_,rfl,?_⟩))
  refine zF (zo (λhb=>?_) (λhb=>?_))
  ·refine hD2.drew.swap (i:=f+kid hi f r d1) (j:=f+r) rfl rfl (by omega) (by omega) hn1.symm λw3 hD3 c3=>?_
   exact hnext (n-kid hi f r d1) _ _ (by omega) ⟨_,_,rfl,rfl,by omega,hD3,by rw[Go.Sort.size_swp];exact hn1,by rw[<-he,zt6 hge hb],hF2.drew.chg c3 (.inl rfl)⟩
  ·rw[zsM hge hb]at he
   subst he
   exact hR _ hD2.drew hF2.drew
theorem znb(hi f r:Nat)(d:Array Int):(Go.Sort.siftDown ltI hi f r d).size=d.size:=by
 fun_induction Go.Sort.siftDown ltI hi f r d<;>simp_all[Go.Sort.size_swp]
theorem zra{a b:Nat}(hD:Dtw w g rest d)(hn:n=d.size)(hmax:n<=35184372088832)(hab:a<b)(hb:b<=n)
  (hR:∀w',Dtw w' g rest (Go.Sort.heapSort ltI d a b)->Fr w.heap.size (·=g) w w'->R (.tuple #[]) w') :
  cR 128 #[.slice (some (blk g)) n c,.int .i64 (a:Int),.int .i64 (b:Int)] w R:=by
 refine za.of (YH ⟨some (blk g),n,c⟩ a b R w ?_) λ_ _ h=>h
 have e1:IntKind.i64.wrap ((b:Int)-(a:Int))=((b-a:Nat):Int):=wr64 (by omega) (by omega)
 have e2:IntKind.i64.wrap (((b-a:Nat):Int)-1)=((b-a-1:Nat):Int):=wr64 (by omega) (by omega)
 have e3:IntKind.i64.wrap (Int.tdiv ((b-a-1:Nat):Int) 2)=(((b-a-1) / 2:Nat):Int):=wr64 (by rw[Int.tdiv_eq_ediv_of_nonneg (by omega)];omega) (by omega)
 have down:∀k:Nat,k<=n->IntKind.i64.wrap ((k:Int)-1)=(k:Int)-1:=λk hk=>zq (by omega) (by omega)
 unfold yk
 rw[e1,e2,e3]
 generalize hh:Go.Sort.heapBuild ltI (b-a) a ((b-a-1) / 2+1) d=dh
 refine zk.ghost (λk (st:Int×Unit) w'=>∃(d':Array Int),st=((k:Int)-1,())/\k<=n/\2*k<=b-a+1/\Dtw w' g rest d'/\d'.size=n/\Go.Sort.heapBuild ltI (b-a) a k d'=dh/\Fr w.heap.size (·=g) w w') ((b-a-1) / 2+1)
  ⟨d,(by rw[Prod.mk.injEq];exact⟨by omega,rfl⟩),by omega,by omega,hD,hn.symm,hh,Fr.refl _ _ _⟩ ?_
 rintro k _ w1 ⟨d1,rfl,hk,hk2,hD1,hn1,he,hF⟩ next hnext
 dsimp only
 refine zf (λh=>?_) (λh=>?_)
 ·obtain⟨m,rfl⟩:∃m,k=m+1:=⟨k-1,by omega⟩
  rw[show(((m+1:Nat):Int)-1)=(m:Int) by omega]
  dsimp only[zB,Go.Gk.Sl.zw,zi,zu,zb,zh];refine zna (lo:=m) hD1 hn1.symm hmax (by omega) (by omega) λw2 hD2 hF2=>⟨rfl,?_⟩
  rw[down m (by omega)]
  exact hnext m _ _ (by omega) ⟨_,rfl,by omega,by omega,hD2,by rw[znb];exact hn1,he,hF.onto hF2 hF.size⟩
 ·have hk0:k=0:=by omega
  subst hk0
  have he:d1=dh:=he
  subst he
  have hfin:Go.Sort.heapSort ltI d a b=Go.Sort.heapPop ltI a (b-a) d1:=by unfold Go.Sort.heapSort;rw[hh]
  refine zk.ghost (λk (st:Int×Unit) w'=>∃(d':Array Int),st=((k:Int)-1,())/\k<=b-a/\Dtw w' g rest d'/\d'.size=n/\Go.Sort.heapPop ltI a k d'=Go.Sort.heapSort ltI d a b/\Fr w.heap.size (·=g) w w') (b-a)
   ⟨d1,(by rw[Prod.mk.injEq];exact⟨by omega,rfl⟩),Nat.le_refl _,hD1,hn1,hfin.symm,hF⟩ ?_
  rintro k _ w2 ⟨d2,rfl,hkb,hD2,hn2,he2,hF2⟩ next2 hnext2
  dsimp only
  refine zf (λh=>?_) (λh=>?_)
  ·obtain⟨m,rfl⟩:∃m,k=m+1:=⟨k-1,by omega⟩
   rw[show(((m+1:Nat):Int)-1)=(m:Int) by omega]
   have e4:IntKind.i64.wrap ((a:Int)+(m:Int))=((a+m:Nat):Int):=wr64 (by omega) (by omega)
   rw[e4]
   refine hD2.swap (i:=a+m) (j:=a) rfl rfl (by omega) (by omega) hn2.symm λw3 hD3 c3=>?_
   have hF3:=hF2.chg c3 (.inl rfl)
   dsimp only[zB,Go.Gk.Sl.zw,zi,zu,zb,zh];refine zna (lo:=0) (hi:=m) (f:=a) hD3 (by rw[Go.Sort.size_swp];exact hn2.symm) hmax (by omega) (by omega) λw4 hD4 hF4=>⟨rfl,?_⟩
   rw[down m (by omega)]
   exact hnext2 m _ _ (by omega) ⟨_,rfl,by omega,hD4,by rw[znb,Go.Sort.size_swp];exact hn2,he2,hF3.onto hF4 hF3.size⟩
  ·have hk0:k=0:=by omega
   subst hk0
   have he2:d2=Go.Sort.heapSort ltI d a b:=he2
   subst he2
   exact hR w2 hD2 hF2
theorem znJ{a b:Nat}(hD:Dtw w g rest d)(hn:n=d.size)(hmax:n<=35184372088832)(hab:a<b)(hb:b<=n)
  (hR:∀w',Dtw w' g rest (Go.Sort.reverseRange d a b)->Fr w.heap.size (·=g) w w'->R (.tuple #[]) w') :
  cR 131 #[.slice (some (blk g)) n c,.int .i64 (a:Int),.int .i64 (b:Int)] w R:=by
 refine za.of (ZL ⟨some (blk g),n,c⟩ a b R w ?_) λ_ _ h=>h
 have e1:IntKind.i64.wrap ((b:Int)-1)=((b-1:Nat):Int):=wr64 (by omega) (by omega)
 unfold yb
 rw[e1]
 refine zk.ghost (λk (st:Int×Int×Unit) w'=>∃(i j:Nat) (d':Array Int),st=((i:Int),(j:Int),())/\k=j-i/\j<n/\i<=n/\Dtw w' g rest d'/\d'.size=n/\Go.Sort.reverseLoop i j d'=Go.Sort.reverseRange d a b/\Fr w.heap.size (·=g) w w') (b-1-a)
  ⟨a,b-1,d,rfl,rfl,by omega,by omega,hD,hn.symm,rfl,Fr.refl _ _ _⟩ ?_
 rintro _ _ w1 ⟨i,j,d1,rfl,rfl,hj,hi,hD1,hn1,he,hF⟩ next hnext
 refine zf (λh=>?_) (λh=>?_)
 ·have hij:i<j:=by dsimp only at h;omega
  refine hD1.swap (i:=j) (j:=i) rfl rfl (by omega) (by omega) hn1.symm λw2 hD2 c2=>?_
  dsimp only
  rw[zr (by omega),wr64 (k:=j-1) (by omega) (by omega)]
  refine hnext (j-1-(i+1)) _ _ (by omega) ⟨i+1,j-1,_,rfl,rfl,by omega,by omega,hD2,by rw[Go.Sort.size_swp];exact hn1,?_,hF.chg c2 (.inl rfl)⟩
  rw[<-he]
  conv=>rhs;rw[Go.Sort.reverseLoop,if_pos hij]
 ·have:¬i<j:=by dsimp only at h;omega
  rw[Go.Sort.reverseLoop,if_neg this]at he
  subst he
  exact hR w1 hD1 hF
end
theorem Zv{p:Int->Bool}{d:Array Int}{j i:Nat}(h:j<i\/p d[i]! =false):Go.Sort.scanUp p d j i=i:=by
 rw[Go.Sort.scanUp,if_neg]
 intro hh
 rw[Bool.and_eq_true,decide_eq_true_eq]at hh
 rcases h with h |h
 ·omega
 ·rw[h]at hh;cases hh.2
theorem zi4{p:Int->Bool}{d:Array Int}{j i:Nat}(h1:i<=j)(h2:p d[i]! =true):Go.Sort.scanUp p d j (i+1)=Go.Sort.scanUp p d j i:=by
 conv=>rhs;rw[Go.Sort.scanUp,if_pos (by rw[Bool.and_eq_true,decide_eq_true_eq];exact⟨h1,h2⟩)]
theorem ZA{p:Int->Bool}{d:Array Int}{i j:Nat}(h:j<i\/p d[j]! =false):Go.Sort.scanDown p d i j=j:=by
 cases j with
 |zero=>rfl
 |succ j=>
  rw[Go.Sort.scanDown,if_neg]
  intro hh
  rw[Bool.and_eq_true,decide_eq_true_eq]at hh
  rcases h with h |h
  ·omega
  ·rw[h]at hh;cases hh.2
theorem zfM{p:Int->Bool}{d:Array Int}{i j:Nat}(h1:i<=j+1)(h2:p d[j+1]! =true):Go.Sort.scanDown p d i j=Go.Sort.scanDown p d i (j+1):=by
 conv=>rhs;rw[Go.Sort.scanDown,if_pos (by rw[Bool.and_eq_true,decide_eq_true_eq];exact⟨h1,h2⟩)]
theorem zsQ{p:Int->Bool}{d:Array Int}{j i:Nat}(h:i<=j+1):i<=Go.Sort.scanUp p d j i/\Go.Sort.scanUp p d j i<=j+1:=
 ⟨Go.Sort.scanUp_ge p d j i,by
  by_cases e:i<=j
  ·fun_induction Go.Sort.scanUp p d j i with
   |case1 i hc ih=>
    by_cases e2:i+1<=j
    ·exact ih (by omega) e2
    ·rw[Zv (.inl (by omega))];omega
   |case2 i hc=>omega
  ·rw[Zv (.inl (by omega))];omega⟩
theorem zkR{p:Int->Bool}{d:Array Int}{i:Nat}:∀{j:Nat},i<=j+1->Go.Sort.scanDown p d i j<=j/\i<=Go.Sort.scanDown p d i j+1
 | 0,h=>⟨Nat.le_refl _,h⟩
 |j+1,h=>by
  rw[Go.Sort.scanDown]
  split
  ·rename_i hc
   rw[Bool.and_eq_true,decide_eq_true_eq]at hc
   have:=zkR (p:=p) (d:=d) (j:=j) hc.1
   omega
  ·omega
theorem znC{p q:Int->Bool}{d:Array Int}{i0 j0 I J:Nat}(hq:∀x,q x=!p x)(hI:Go.Sort.scanUp p d j0 i0=I)(hJ:Go.Sort.scanDown q d I j0=J)(h:¬I>J)(h0:0<I):I<J:=by
 have s1:=Go.Sort.scanUp_spec p d j0 _ i0 rfl
 have s2:=Go.Sort.scanDown_spec q d I j0
 rw[hI]at s1
 rw[hJ]at s2
 rcases Nat.lt_or_ge I J with q1 |q1
 ·exact q1
 ·exfalso
  have e:I=J:=by omega
  have e1:=s1.2.2.2 (by have:=s2.1;omega)
  have e2:=s2.2.2.2 (by omega) (by omega)
  rw[hq,<-e,e1]at e2
  cases e2
section
variable {w:World} {g n c:Nat} {rest:List Value} {d:Array Int} {R:VWP}
theorem zoM{a b pv:Nat}(hD:Dtw w g rest d)(hn:n=d.size)(hmax:n<=35184372088832)(hab:a<b)(hb:b<=n)(hp1:a<=pv)(hp2:pv<b)
  (hR:∀w',Dtw w' g rest (Go.Sort.partitionEqual ltI d a b pv).2->Fr w.heap.size (·=g) w w'->R (.int .i64 ((Go.Sort.partitionEqual ltI d a b pv).1:Int)) w') :
  cR 134 #[.slice (some (blk g)) n c,.int .i64 (a:Int),.int .i64 (b:Int),.int .i64 (pv:Int)] w R:=by
 refine za.of (Z7 ⟨some (blk g),n,c⟩ a b pv R w ?_) λ_ _ h=>h
 have ea:IntKind.i64.wrap ((a:Int)+1)=((a+1:Nat):Int):=wr64 (by omega) (by omega)
 have eb:IntKind.i64.wrap ((b:Int)-1)=((b-1:Nat):Int):=wr64 (by omega) (by omega)
 unfold zY
 rw[ea,eb]
 refine hD.swap (i:=pv) (j:=a) rfl rfl (by omega) (by omega) hn λw1 hD1 c1=>?_
 have hF1:=(Fr.refl w.heap.size (·=g) w).chg c1 (.inl rfl)
 refine zk.ghost (λk (st:Int×Int×Unit) w'=>∃(i j:Nat) (d':Array Int),st=((i:Int),(j:Int),())/\k=j+1-i/\a<i/\i<=j+1/\j<b/\Dtw w' g rest d'/\d'.size=n/\Go.Sort.partEqLoop ltI a i j d'=Go.Sort.partitionEqual ltI d a b pv/\Fr w.heap.size (·=g) w w') (b-1+1-(a+1))
  ⟨a+1,b-1,_,rfl,rfl,by omega,by omega,by omega,hD1,by rw[Go.Sort.size_swp];exact hn.symm,rfl,hF1⟩ ?_
 rintro _ _ w2 ⟨i0,j0,d2,rfl,rfl,hi,hij0,hjb,hD2,hn2,he,hF2⟩ next hnext
 dsimp only
 obtain⟨u1,u2⟩:=zsQ (p:=λx=>!ltI d2[a]! x) (d:=d2) (j:=j0) (i:=i0) hij0
 obtain⟨v1,v2⟩:=zkR (p:=λx=>ltI d2[a]! x) (d:=d2) (i:=Go.Sort.scanUp (λx=>!ltI d2[a]! x) d2 j0 i0) (j:=j0) u2
 refine zl.cut (λ(st:Int×Unit) w'=>st.1=((Go.Sort.scanUp (λx=>!ltI d2[a]! x) d2 j0 i0:Nat):Int)/\Dtw w' g rest d2/\Fr w.heap.size (·=g) w w') ?_ ?_
 ·clear u1 u2 v1 v2
  refine zk.ghost (λk (st:Int×Unit) w'=>∃i:Nat,st=((i:Int),())/\k=j0+1-i/\i0<=i/\i<=j0+1/\Go.Sort.scanUp (λx=>!ltI d2[a]! x) d2 j0 i=Go.Sort.scanUp (λx=>!ltI d2[a]! x) d2 j0 i0/\Dtw w' g rest d2/\Fr w.heap.size (·=g) w w') (j0+1-i0)
   ⟨i0,rfl,rfl,Nat.le_refl _,by omega,rfl,hD2,hF2⟩ ?_
  rintro _ _ wq ⟨i,rfl,rfl,hi0,hi1,hsc,hDq,hFq⟩ nextq hnextq
  refine zl.cut (λ_ w'=>i<=j0/\(λx=>!ltI d2[a]! x) d2[i]! =true/\Dtw w' g rest d2/\Fr w.heap.size (·=g) w w') ?_ ?_
  ·refine zf (λh=>?_) (λh=>?_)
   ·have hij:i<=j0:=by dsimp only at h;omega
    refine(hDq.drew.at rfl (by omega) hn2.symm (hDq.drew.at rfl (by omega) hn2.symm (yz ⟨_,rfl,?_⟩)))
    refine zF (zo (λhb=>?_) (λhb=>?_))
    ·exact⟨by rw[<-hsc,Zv (p:=λx=>!ltI d2[a]! x) (.inr (by rw[hb];rfl))],hDq.drew,hFq.drew⟩
    ·exact⟨hij,by dsimp only;rw[hb];rfl,hDq.drew,hFq.drew⟩
   ·exact⟨by rw[<-hsc,Zv (p:=λx=>!ltI d2[a]! x) (.inl (by dsimp only at h;omega))],hDq.drew,hFq.drew⟩
  ·rintro _ wr ⟨hij,hp,hDr,hFr⟩
   rw[zr (by omega)]
   exact hnextq (j0+1-(i+1)) _ _ (by omega) ⟨i+1,rfl,rfl,by omega,by omega,by rw[<-hsc,zi4 (p:=λx=>!ltI d2[a]! x) hij hp],hDr,hFr⟩
 rintro⟨i2,_⟩ w3 ⟨e2,hD3,hF3⟩
 dsimp only at e2⊢
 subst e2
 have heq:=Go.Sort.partEqLoop_eq (lt:=ltI) a i0 j0 d2
 generalize hI:Go.Sort.scanUp (λx=>!ltI d2[a]! x) d2 j0 i0=I at u1 u2 v1 v2 heq⊢
 refine zl.cut (λ(st:Int×Unit) w'=>st.1=((Go.Sort.scanDown (λx=>ltI d2[a]! x) d2 I j0:Nat):Int)/\Dtw w' g rest d2/\Fr w.heap.size (·=g) w w') ?_ ?_
 ·clear v1 v2 heq
  refine zk.ghost (λk (st:Int×Unit) w'=>st=((k:Int),())/\k<=j0/\I<=k+1/\Go.Sort.scanDown (λx=>ltI d2[a]! x) d2 (I) k=Go.Sort.scanDown (λx=>ltI d2[a]! x) d2 (I) j0/\Dtw w' g rest d2/\Fr w.heap.size (·=g) w w') j0
   ⟨rfl,Nat.le_refl _,by omega,rfl,hD3,hF3⟩ ?_
  rintro j _ wq ⟨rfl,hj0,hj1,hsc,hDq,hFq⟩ nextq hnextq
  refine zl.cut (λ_ w'=>I<=j/\(λx=>ltI d2[a]! x) d2[j]! =true/\Dtw w' g rest d2/\Fr w.heap.size (·=g) w w') ?_ ?_
  ·refine zf (λh=>?_) (λh=>?_)
   ·have hij:I<=j:=by dsimp only at h;omega
    refine hDq.drew.at rfl (by omega) hn2.symm (hDq.drew.at rfl (by omega) hn2.symm (yz ⟨_,rfl,?_⟩))
    refine zo (λhb=>⟨hij,hb,hDq.drew,hFq.drew⟩) (λhb=>⟨by rw[<-hsc,ZA (p:=λx=>ltI d2[a]! x) (.inr hb)],hDq.drew,hFq.drew⟩)
   ·exact⟨by rw[<-hsc,ZA (p:=λx=>ltI d2[a]! x) (.inl (by dsimp only at h;omega))],hDq.drew,hFq.drew⟩
  ·rintro _ wr ⟨hij,hp,hDr,hFr⟩
   obtain⟨m,rfl⟩:∃m,j=m+1:=⟨j-1,by omega⟩
   rw[show IntKind.i64.wrap (((((m+1:Nat):Int),()):Int×Unit).1-1)=(m:Int) from wr64 (by dsimp only;omega) (by omega)]
   exact hnextq m _ _ (by omega) ⟨rfl,by omega,by omega,by rw[<-hsc,zfM (p:=λx=>ltI d2[a]! x) hij hp],hDr,hFr⟩
 rintro⟨j2,_⟩ w4 ⟨e2,hD4,hF4⟩
 dsimp only at e2⊢
 subst e2
 generalize hJ:Go.Sort.scanDown (λx=>ltI d2[a]! x) d2 I j0=J at v1 v2 heq⊢
 refine zf (λh=>?_) (λh=>?_)
 ·have h:I>J:=by omega
  rw[if_pos h,he]at heq
  have:=hR w4
  rw[heq]at this
  exact this hD4 hF4
 ·have h:¬I>J:=by omega
  rw[if_neg h]at heq
  have hIJ:I<J:=znC (λx=>(Bool.not_not _).symm) hI hJ h (by omega)
  refine hD4.swap (i:=J) (j:=I) rfl rfl (by omega) (by omega) hn2.symm λw5 hD5 c5=>?_
  rw[wr64 (k:=I+1) (by omega) (by omega),wr64 (k:=J-1) (by omega) (by omega)]
  exact hnext (J-1+1-(I+1)) _ _ (by omega) ⟨I+1,J-1,_,rfl,rfl,by omega,by omega,by omega,hD5,by rw[Go.Sort.size_swp];exact hn2,by rw[<-heq,he],hF4.chg c5 (.inl rfl)⟩
theorem zsF{a b pv:Nat}(hD:Dtw w g rest d)(hn:n=d.size)(hmax:n<=35184372088832)(hab:a<b)(hb:b<=n)(hp1:a<=pv)(hp2:pv<b)
  (hR:∀w',Dtw w' g rest (Go.Sort.partition ltI d a b pv).2.2->Fr w.heap.size (·=g) w w'->R (.tuple #[.int .i64 ((Go.Sort.partition ltI d a b pv).1:Int),.bool (Go.Sort.partition ltI d a b pv).2.1]) w') :
  cR 135 #[.slice (some (blk g)) n c,.int .i64 (a:Int),.int .i64 (b:Int),.int .i64 (pv:Int)] w R:=by
 refine za.of (Y0 ⟨some (blk g),n,c⟩ a b pv R w ?_) λ_ _ h=>h
 have ea:IntKind.i64.wrap ((a:Int)+1)=((a+1:Nat):Int):=wr64 (by omega) (by omega)
 have eb:IntKind.i64.wrap ((b:Int)-1)=((b-1:Nat):Int):=wr64 (by omega) (by omega)
 unfold yi
 rw[ea,eb]
 refine hD.swap (i:=pv) (j:=a) rfl rfl (by omega) (by omega) hn λw1 hD1 c1=>?_
 have hF1:=(Fr.refl w.heap.size (·=g) w).chg c1 (.inl rfl)
 have hn1:(Go.Sort.swp d a pv).size=n:=by rw[Go.Sort.size_swp];exact hn.symm
 have hpt:Go.Sort.partition ltI d a b pv=(if Go.Sort.scanUp (λx=>ltI x (Go.Sort.swp d a pv)[a]!) (Go.Sort.swp d a pv) (b-1) (a+1)>Go.Sort.scanDown (λx=>!ltI x (Go.Sort.swp d a pv)[a]!) (Go.Sort.swp d a pv) (Go.Sort.scanUp (λx=>ltI x (Go.Sort.swp d a pv)[a]!) (Go.Sort.swp d a pv) (b-1) (a+1)) (b-1) then
  (Go.Sort.scanDown (λx=>!ltI x (Go.Sort.swp d a pv)[a]!) (Go.Sort.swp d a pv) (Go.Sort.scanUp (λx=>ltI x (Go.Sort.swp d a pv)[a]!) (Go.Sort.swp d a pv) (b-1) (a+1)) (b-1),true,Go.Sort.swp (Go.Sort.swp d a pv) (Go.Sort.scanDown (λx=>!ltI x (Go.Sort.swp d a pv)[a]!) (Go.Sort.swp d a pv) (Go.Sort.scanUp (λx=>ltI x (Go.Sort.swp d a pv)[a]!) (Go.Sort.swp d a pv) (b-1) (a+1)) (b-1)) a)
  else((Go.Sort.partLoop ltI a (Go.Sort.scanUp (λx=>ltI x (Go.Sort.swp d a pv)[a]!) (Go.Sort.swp d a pv) (b-1) (a+1)+1) (Go.Sort.scanDown (λx=>!ltI x (Go.Sort.swp d a pv)[a]!) (Go.Sort.swp d a pv) (Go.Sort.scanUp (λx=>ltI x (Go.Sort.swp d a pv)[a]!) (Go.Sort.swp d a pv) (b-1) (a+1)) (b-1)-1) (Go.Sort.swp (Go.Sort.swp d a pv) (Go.Sort.scanUp (λx=>ltI x (Go.Sort.swp d a pv)[a]!) (Go.Sort.swp d a pv) (b-1) (a+1)) (Go.Sort.scanDown (λx=>!ltI x (Go.Sort.swp d a pv)[a]!) (Go.Sort.swp d a pv) (Go.Sort.scanUp (λx=>ltI x (Go.Sort.swp d a pv)[a]!) (Go.Sort.swp d a pv) (b-1) (a+1)) (b-1)))).1,false,
   Go.Sort.swp (Go.Sort.partLoop ltI a (Go.Sort.scanUp (λx=>ltI x (Go.Sort.swp d a pv)[a]!) (Go.Sort.swp d a pv) (b-1) (a+1)+1) (Go.Sort.scanDown (λx=>!ltI x (Go.Sort.swp d a pv)[a]!) (Go.Sort.swp d a pv) (Go.Sort.scanUp (λx=>ltI x (Go.Sort.swp d a pv)[a]!) (Go.Sort.swp d a pv) (b-1) (a+1)) (b-1)-1) (Go.Sort.swp (Go.Sort.swp d a pv) (Go.Sort.scanUp (λx=>ltI x (Go.Sort.swp d a pv)[a]!) (Go.Sort.swp d a pv) (b-1) (a+1)) (Go.Sort.scanDown (λx=>!ltI x (Go.Sort.swp d a pv)[a]!) (Go.Sort.swp d a pv) (Go.Sort.scanUp (λx=>ltI x (Go.Sort.swp d a pv)[a]!) (Go.Sort.swp d a pv) (b-1) (a+1)) (b-1)))).2 (Go.Sort.partLoop ltI a (Go.Sort.scanUp (λx=>ltI x (Go.Sort.swp d a pv)[a]!) (Go.Sort.swp d a pv) (b-1) (a+1)+1) (Go.Sort.scanDown (λx=>!ltI x (Go.Sort.swp d a pv)[a]!) (Go.Sort.swp d a pv) (Go.Sort.scanUp (λx=>ltI x (Go.Sort.swp d a pv)[a]!) (Go.Sort.swp d a pv) (b-1) (a+1)) (b-1)-1) (Go.Sort.swp (Go.Sort.swp d a pv) (Go.Sort.scanUp (λx=>ltI x (Go.Sort.swp d a pv)[a]!) (Go.Sort.swp d a pv) (b-1) (a+1)) (Go.Sort.scanDown (λx=>!ltI x (Go.Sort.swp d a pv)[a]!) (Go.Sort.swp d a pv) (Go.Sort.scanUp (λx=>ltI x (Go.Sort.swp d a pv)[a]!) (Go.Sort.swp d a pv) (b-1) (a+1)) (b-1)))).1 a)):=by
  unfold Go.Sort.partition
  rfl
 generalize hpp:Go.Sort.partition ltI d a b pv=pp at hR hpt
 generalize Go.Sort.swp d a pv=d1 at hD1 hn1 hpt
 have hbb:b-1<b:=by omega
 generalize hB1:b-1=b1 at hpt hbb⊢
 obtain⟨u1,u2⟩:=zsQ (p:=λx=>ltI x d1[a]!) (d:=d1) (j:=b1) (i:=a+1) (by omega)
 obtain⟨v1,v2⟩:=zkR (p:=λx=>!ltI x d1[a]!) (d:=d1) (i:=Go.Sort.scanUp (λx=>ltI x d1[a]!) d1 b1 (a+1)) (j:=b1) u2
 refine zl.cut (λ(st:Int×Unit) w'=>st.1=((Go.Sort.scanUp (λx=>ltI x d1[a]!) d1 b1 (a+1):Nat):Int)/\Dtw w' g rest d1/\Fr w.heap.size (·=g) w w') ?_ ?_
 ·clear u1 u2 v1 v2 hpt
  refine zk.ghost (λk (st:Int×Unit) w'=>∃i:Nat,st=((i:Int),())/\k=b1+1-i/\(a+1)<=i/\i<=b1+1/\Go.Sort.scanUp (λx=>ltI x d1[a]!) d1 b1 i=Go.Sort.scanUp (λx=>ltI x d1[a]!) d1 b1 (a+1)/\Dtw w' g rest d1/\Fr w.heap.size (·=g) w w') (b1+1-(a+1))
   ⟨(a+1),rfl,rfl,Nat.le_refl _,by omega,rfl,hD1,hF1⟩ ?_
  rintro _ _ wq ⟨i,rfl,rfl,hi0,hi1,hsc,hDq,hFq⟩ nextq hnextq
  refine zl.cut (λ_ w'=>i<=b1/\(λx=>ltI x d1[a]!) d1[i]! =true/\Dtw w' g rest d1/\Fr w.heap.size (·=g) w w') ?_ ?_
  ·refine zf (λh=>?_) (λh=>?_)
   ·have hij:i<=b1:=by dsimp only at h;omega
    refine(hDq.drew.at rfl (by omega) hn1.symm (hDq.drew.at rfl (by omega) hn1.symm (yz ⟨_,rfl,?_⟩)))
    refine zo (λhb=>⟨hij,hb,hDq.drew,hFq.drew⟩) (λhb=>⟨by rw[<-hsc,Zv (p:=λx=>ltI x d1[a]!) (.inr hb)],hDq.drew,hFq.drew⟩)
   ·exact⟨by rw[<-hsc,Zv (p:=λx=>ltI x d1[a]!) (.inl (by dsimp only at h;omega))],hDq.drew,hFq.drew⟩
  ·rintro _ wr ⟨hij,hp,hDr,hFr⟩
   rw[zr (by omega)]
   exact hnextq (b1+1-(i+1)) _ _ (by omega) ⟨i+1,rfl,rfl,by omega,by omega,by rw[<-hsc,zi4 (p:=λx=>ltI x d1[a]!) hij hp],hDr,hFr⟩
 rintro⟨i2,_⟩ w3 ⟨e2,hD3,hF3⟩
 dsimp only at e2⊢
 subst e2
 generalize hI:Go.Sort.scanUp (λx=>ltI x d1[a]!) d1 b1 (a+1)=I at u1 u2 v1 v2 hpt⊢
 refine zl.cut (λ(st:Int×Unit) w'=>st.1=((Go.Sort.scanDown (λx=>!ltI x d1[a]!) d1 I b1:Nat):Int)/\Dtw w' g rest d1/\Fr w.heap.size (·=g) w w') ?_ ?_
 ·clear v1 v2 hpt
  refine zk.ghost (λk (st:Int×Unit) w'=>st=((k:Int),())/\k<=b1/\I<=k+1/\Go.Sort.scanDown (λx=>!ltI x d1[a]!) d1 (I) k=Go.Sort.scanDown (λx=>!ltI x d1[a]!) d1 (I) b1/\Dtw w' g rest d1/\Fr w.heap.size (·=g) w w') b1
   ⟨rfl,Nat.le_refl _,by omega,rfl,hD3,hF3⟩ ?_
  rintro j _ wq ⟨rfl,hj0,hj1,hsc,hDq,hFq⟩ nextq hnextq
  refine zl.cut (λ_ w'=>I<=j/\(λx=>!ltI x d1[a]!) d1[j]! =true/\Dtw w' g rest d1/\Fr w.heap.size (·=g) w w') ?_ ?_
  ·refine zf (λh=>?_) (λh=>?_)
   ·have hij:I<=j:=by dsimp only at h;omega
    refine hDq.drew.at rfl (by omega) hn1.symm (hDq.drew.at rfl (by omega) hn1.symm (yz ⟨_,rfl,?_⟩))
    refine zF (zo (λhb=>?_) (λhb=>?_))
    ·exact⟨by rw[<-hsc,ZA (p:=λx=>!ltI x d1[a]!) (.inr (by rw[hb];rfl))],hDq.drew,hFq.drew⟩
    ·exact⟨hij,by dsimp only;rw[hb];rfl,hDq.drew,hFq.drew⟩
   ·exact⟨by rw[<-hsc,ZA (p:=λx=>!ltI x d1[a]!) (.inl (by dsimp only at h;omega))],hDq.drew,hFq.drew⟩
  ·rintro _ wr ⟨hij,hp,hDr,hFr⟩
   obtain⟨m,rfl⟩:∃m,j=m+1:=⟨j-1,by omega⟩
   rw[show IntKind.i64.wrap (((((m+1:Nat):Int),()):Int×Unit).1-1)=(m:Int) from wr64 (by dsimp only;omega) (by omega)]
   exact hnextq m _ _ (by omega) ⟨rfl,by omega,by omega,by rw[<-hsc,zfM (p:=λx=>!ltI x d1[a]!) hij hp],hDr,hFr⟩
 rintro⟨j2,_⟩ w4 ⟨e2,hD4,hF4⟩
 dsimp only at e2⊢
 subst e2
 generalize hJ:Go.Sort.scanDown (λx=>!ltI x d1[a]!) d1 I b1=J at v1 v2 hpt⊢
 refine zf (λh=>?_) (λh=>?_)
 ·have h:I>J:=by omega
  rw[if_pos h]at hpt
  subst hpt
  refine hD4.swap (i:=a) (j:=J) rfl rfl (by omega) (by omega) hn1.symm λw5 hD5 c5=>?_
  exact hR w5 hD5 (hF4.chg c5 (.inl rfl))
 ·have h:¬I>J:=by omega
  rw[if_neg h]at hpt
  refine hD4.swap (i:=J) (j:=I) rfl rfl (by omega) (by omega) hn1.symm λw5 hD5 c5=>?_
  have hF5:=hF4.chg c5 (.inl rfl)
  have hn5:(Go.Sort.swp d1 I J).size=n:=by rw[Go.Sort.size_swp];exact hn1
  generalize Go.Sort.swp d1 I J=d5 at hD5 hn5 hpt
  generalize hpl:Go.Sort.partLoop ltI a (I+1) (J-1) d5=L at hpt
  have hIJ:I<J:=znC (λ_=>rfl) hI hJ h (by omega)
  rw[wr64 (k:=I+1) (by omega) (by omega),wr64 (k:=J-1) (by omega) (by omega)]
  refine zk.ghost (λk (st:Int×Int×Unit) w'=>∃(i j:Nat) (d':Array Int),st=((i:Int),(j:Int),())/\k=j+1-i/\a<i/\i<=j+1/\j<b/\Dtw w' g rest d'/\d'.size=n/\Go.Sort.partLoop ltI a i j d'=L/\Fr w.heap.size (·=g) w w') (J-1+1-(I+1))
   ⟨I+1,J-1,_,rfl,rfl,by omega,by omega,by omega,hD5,hn5,hpl,hF5⟩ ?_
  clear hpl hD5 hn5 hF5 c5
  rintro _ _ w2 ⟨i0,j0,d2,rfl,rfl,hi,hij0,hjb,hD2,hn2,he,hF2⟩ next hnext
  dsimp only
  obtain⟨u1',u2'⟩:=zsQ (p:=λx=>ltI x d2[a]!) (d:=d2) (j:=j0) (i:=i0) hij0
  obtain⟨v1',v2'⟩:=zkR (p:=λx=>!ltI x d2[a]!) (d:=d2) (i:=Go.Sort.scanUp (λx=>ltI x d2[a]!) d2 j0 i0) (j:=j0) u2'
  refine zl.cut (λ(st:Int×Unit) w'=>st.1=((Go.Sort.scanUp (λx=>ltI x d2[a]!) d2 j0 i0:Nat):Int)/\Dtw w' g rest d2/\Fr w.heap.size (·=g) w w') ?_ ?_
  ·clear u1' u2' v1' v2' hpt
   refine zk.ghost (λk (st:Int×Unit) w'=>∃i:Nat,st=((i:Int),())/\k=j0+1-i/\i0<=i/\i<=j0+1/\Go.Sort.scanUp (λx=>ltI x d2[a]!) d2 j0 i=Go.Sort.scanUp (λx=>ltI x d2[a]!) d2 j0 i0/\Dtw w' g rest d2/\Fr w.heap.size (·=g) w w') (j0+1-i0)
    ⟨i0,rfl,rfl,Nat.le_refl _,by omega,rfl,hD2,hF2⟩ ?_
   rintro _ _ wq ⟨i,rfl,rfl,hi0,hi1,hsc,hDq,hFq⟩ nextq hnextq
   refine zl.cut (λ_ w'=>i<=j0/\(λx=>ltI x d2[a]!) d2[i]! =true/\Dtw w' g rest d2/\Fr w.heap.size (·=g) w w') ?_ ?_
   ·refine zf (λh=>?_) (λh=>?_)
    ·have hij:i<=j0:=by dsimp only at h;omega
     refine(hDq.drew.at rfl (by omega) hn2.symm (hDq.drew.at rfl (by omega) hn2.symm (yz ⟨_,rfl,?_⟩)))
     refine zo (λhb=>⟨hij,hb,hDq.drew,hFq.drew⟩) (λhb=>⟨by rw[<-hsc,Zv (p:=λx=>ltI x d2[a]!) (.inr hb)],hDq.drew,hFq.drew⟩)
    ·exact⟨by rw[<-hsc,Zv (p:=λx=>ltI x d2[a]!) (.inl (by dsimp only at h;omega))],hDq.drew,hFq.drew⟩
   ·rintro _ wr ⟨hij,hp,hDr,hFr⟩
    rw[zr (by omega)]
    exact hnextq (j0+1-(i+1)) _ _ (by omega) ⟨i+1,rfl,rfl,by omega,by omega,by rw[<-hsc,zi4 (p:=λx=>ltI x d2[a]!) hij hp],hDr,hFr⟩
  rintro⟨i2,_⟩ w3 ⟨e2,hD3,hF3⟩
  dsimp only at e2⊢
  subst e2
  have heq:=Go.Sort.partLoop_eq (lt:=ltI) a i0 j0 d2
  generalize hI':Go.Sort.scanUp (λx=>ltI x d2[a]!) d2 j0 i0=I' at u1' u2' v1' v2' heq⊢
  refine zl.cut (λ(st:Int×Unit) w'=>st.1=((Go.Sort.scanDown (λx=>!ltI x d2[a]!) d2 I' j0:Nat):Int)/\Dtw w' g rest d2/\Fr w.heap.size (·=g) w w') ?_ ?_
  ·clear v1' v2' heq hpt
   refine zk.ghost (λk (st:Int×Unit) w'=>st=((k:Int),())/\k<=j0/\I'<=k+1/\Go.Sort.scanDown (λx=>!ltI x d2[a]!) d2 (I') k=Go.Sort.scanDown (λx=>!ltI x d2[a]!) d2 (I') j0/\Dtw w' g rest d2/\Fr w.heap.size (·=g) w w') j0
    ⟨rfl,Nat.le_refl _,by omega,rfl,hD3,hF3⟩ ?_
   rintro j _ wq ⟨rfl,hj0,hj1,hsc,hDq,hFq⟩ nextq hnextq
   refine zl.cut (λ_ w'=>I'<=j/\(λx=>!ltI x d2[a]!) d2[j]! =true/\Dtw w' g rest d2/\Fr w.heap.size (·=g) w w') ?_ ?_
   ·refine zf (λh=>?_) (λh=>?_)
    ·have hij:I'<=j:=by dsimp only at h;omega
     refine hDq.drew.at rfl (by omega) hn2.symm (hDq.drew.at rfl (by omega) hn2.symm (yz ⟨_,rfl,?_⟩))
     refine zF (zo (λhb=>?_) (λhb=>?_))
     ·exact⟨by rw[<-hsc,ZA (p:=λx=>!ltI x d2[a]!) (.inr (by rw[hb];rfl))],hDq.drew,hFq.drew⟩
     ·exact⟨hij,by dsimp only;rw[hb];rfl,hDq.drew,hFq.drew⟩
    ·exact⟨by rw[<-hsc,ZA (p:=λx=>!ltI x d2[a]!) (.inl (by dsimp only at h;omega))],hDq.drew,hFq.drew⟩
   ·rintro _ wr ⟨hij,hp,hDr,hFr⟩
    obtain⟨m,rfl⟩:∃m,j=m+1:=⟨j-1,by omega⟩
    rw[show IntKind.i64.wrap (((((m+1:Nat):Int),()):Int×Unit).1-1)=(m:Int) from wr64 (by dsimp only;omega) (by omega)]
    exact hnextq m _ _ (by omega) ⟨rfl,by omega,by omega,by rw[<-hsc,zfM (p:=λx=>!ltI x d2[a]!) hij hp],hDr,hFr⟩
  rintro⟨j2,_⟩ w4 ⟨e2,hD4,hF4⟩
  dsimp only at e2⊢
  subst e2
  generalize hJ':Go.Sort.scanDown (λx=>!ltI x d2[a]!) d2 I' j0=J' at v1' v2' heq⊢
  refine zf (λh=>?_) (λh=>?_)
  ·have h:I'>J':=by omega
   rw[if_pos h,he]at heq
   refine hD4.swap (i:=a) (j:=J') rfl rfl (by omega) (by omega) hn2.symm λw5 hD5 c5=>?_
   subst heq
   dsimp only at hpt
   subst hpt
   exact hR w5 hD5 (hF4.chg c5 (.inl rfl))
  ·have h:¬I'>J':=by omega
   rw[if_neg h]at heq
   have hIJ':I'<J':=znC (λ_=>rfl) hI' hJ' h (by omega)
   refine hD4.swap (i:=J') (j:=I') rfl rfl (by omega) (by omega) hn2.symm λw5 hD5 c5=>?_
   rw[wr64 (k:=I'+1) (by omega) (by omega),wr64 (k:=J'-1) (by omega) (by omega)]
   exact hnext (J'-1+1-(I'+1)) _ _ (by omega) ⟨I'+1,J'-1,_,rfl,rfl,by omega,by omega,by omega,hD5,by rw[Go.Sort.size_swp];exact hn2,by rw[<-heq,he],hF4.chg c5 (.inl rfl)⟩
end
theorem zlS{d:Array Int}{b i:Nat}(h:b<=i\/ltI d[i]! d[i-1]! =true):Go.Sort.scanSorted ltI d b i=i:=by
 rw[Go.Sort.scanSorted,if_neg]
 intro hh
 rw[Bool.and_eq_true,decide_eq_true_eq]at hh
 rcases h with h |h
 ·omega
 ·rw[h]at hh;cases hh.2
theorem zsK{d:Array Int}{b i:Nat}(h1:i<b)(h2:ltI d[i]! d[i-1]! =false):Go.Sort.scanSorted ltI d b (i+1)=Go.Sort.scanSorted ltI d b i:=by
 conv=>rhs;rw[Go.Sort.scanSorted,if_pos (by rw[Bool.and_eq_true,decide_eq_true_eq,h2];exact⟨h1,rfl⟩)]
theorem zpk{d:Array Int}{j:Nat}(h:j=0\/ltI d[j]! d[j-1]! =false):Go.Sort.shiftDown ltI j d=d:=by
 cases j with
 |zero=>rfl
 |succ j=>
  rw[Go.Sort.shiftDown,if_pos]
  rcases h with h |h
  ·omega
  ·rw[Nat.add_sub_cancel]at h;rw[h];rfl
theorem zue{d:Array Int}{j:Nat}(h:ltI d[j+1]! d[j]! =true):Go.Sort.shiftDown ltI (j+1) d=Go.Sort.shiftDown ltI j (Go.Sort.swp d (j+1) j):=by
 conv=>lhs;rw[Go.Sort.shiftDown,if_neg (by rw[h];simp)]
theorem zpl{d:Array Int}{b j:Nat}(h:b<=j\/ltI d[j]! d[j-1]! =false):Go.Sort.shiftUp ltI b j d=d:=by
 rw[Go.Sort.shiftUp]
 split
 ·rcases h with h |h
  ·omega
  ·rw[h];rfl
 ·rfl
theorem zuf{d:Array Int}{b j:Nat}(h0:j<b)(h:ltI d[j]! d[j-1]! =true):Go.Sort.shiftUp ltI b j d=Go.Sort.shiftUp ltI b (j+1) (Go.Sort.swp d j (j-1)):=by
 conv=>lhs;rw[Go.Sort.shiftUp,if_pos h0,if_neg (by rw[h];simp)]
section
variable {w:World} {g n c:Nat} {rest:List Value} {d:Array Int} {R:VWP}
theorem znF{a b:Nat}(hD:Dtw w g rest d)(hn:n=d.size)(hmax:n<=35184372088832)(hab:a<b)(hb:b<=n)
  (hR:∀w',Dtw w' g rest (Go.Sort.partialInsertionSort ltI d a b).1->Fr w.heap.size (·=g) w w'->R (.bool (Go.Sort.partialInsertionSort ltI d a b).2) w') :
  cR 132 #[.slice (some (blk g)) n c,.int .i64 (a:Int),.int .i64 (b:Int)] w R:=by
 refine za.of (yV ⟨some (blk g),n,c⟩ a b R w ?_) λ_ _ h=>h
 have ea:IntKind.i64.wrap ((a:Int)+1)=((a+1:Nat):Int):=wr64 (by omega) (by omega)
 have eba:IntKind.i64.wrap ((b:Int)-(a:Int))=((b-a:Nat):Int):=wr64 (by omega) (by omega)
 unfold zQ
 rw[ea,eba]
 generalize hgoal:Go.Sort.partialInsertionSort ltI d a b=pp at hR
 have hgoal:Go.Sort.partialIns ltI a b 5 (a+1) d=pp:=hgoal
 refine zk.ghost (λs (st:Int×Int×Unit) w'=>∃(i:Nat) (d':Array Int),st=((i:Int),(5:Int)-(s:Int),())/\s<=5/\a+1<=i/\i<=b/\Dtw w' g rest d'/\d'.size=n/\Go.Sort.partialIns ltI a b s i d'=pp/\Fr w.heap.size (·=g) w w') 5
  ⟨a+1,d,rfl,Nat.le_refl _,Nat.le_refl _,by omega,hD,hn.symm,hgoal,Fr.refl _ _ _⟩ ?_
 rintro s _ w1 ⟨i0,d1,rfl,hs,hi0,hib,hD1,hn1,he,hF⟩ next hnext
 dsimp only
 refine zf (λh=>?_) (λh=>?_)
 ·obtain⟨s,rfl⟩:∃m,s=m+1:=⟨s-1,by omega⟩
  rw[show IntKind.i64.wrap ((5:Int)-((s+1:Nat):Int)+1)=(5:Int)-(s:Int) by rw[zq (by omega) (by omega)];omega]
  refine zl.cut (λ(st:Int×Unit) w'=>∃(i:Nat) (d':Array Int),st=((i:Int),())/\a+1<=i/\i<=b/\Dtw w' g rest d'/\d'.size=n/\Go.Sort.partialIns ltI a b s i d'=pp/\Fr w.heap.size (·=g) w w') ?_ ?_
  rotate_left
  ·rintro _ w2 ⟨i,d2,rfl,q1,q2,q3,q4,q5,q6⟩
   exact hnext s _ _ (by omega) ⟨i,d2,rfl,by omega,q1,q2,q3,q4,q5,q6⟩
  refine zl.cut (λ(st:Int×Unit) w'=>∃i:Nat,st=((i:Int),())/\i=Go.Sort.scanSorted ltI d1 b i0/\a+1<=i/\i<=b/\Dtw w' g rest d1/\Fr w.heap.size (·=g) w w') ?_ ?_
  ·refine zk.ghost (λk (st:Int×Unit) w'=>∃i:Nat,st=((i:Int),())/\k=b-i/\a+1<=i/\i<=b/\Go.Sort.scanSorted ltI d1 b i=Go.Sort.scanSorted ltI d1 b i0/\Dtw w' g rest d1/\Fr w.heap.size (·=g) w w') (b-i0)
    ⟨i0,rfl,rfl,hi0,hib,rfl,hD1,hF⟩ ?_
   rintro _ _ wq ⟨i,rfl,rfl,q1,q2,hsc,hDq,hFq⟩ nextq hnextq
   dsimp only
   have ei:IntKind.i64.wrap ((i:Int)-1)=((i-1:Nat):Int):=wr64 (by omega) (by omega)
   rw[ei]
   refine zl.cut (λ_ w'=>i<b/\ltI d1[i]! d1[i-1]! =false/\Dtw w' g rest d1/\Fr w.heap.size (·=g) w w') ?_ ?_
   ·refine zf (λh=>?_) (λh=>?_)
    ·have hib':i<b:=by omega
     refine hDq.drew.at rfl (by omega) hn1.symm (hDq.drew.at rfl (by omega) hn1.symm (yz ⟨_,rfl,?_⟩))
     refine zF (zo (λhb=>?_) (λhb=>⟨hib',hb,hDq.drew,hFq.drew⟩))
     exact⟨i,rfl,by rw[<-hsc,zlS (.inr hb)],q1,q2,hDq.drew,hFq.drew⟩
    ·exact⟨i,rfl,by rw[<-hsc,zlS (.inl (by omega))],q1,q2,hDq.drew,hFq.drew⟩
   ·rintro _ wr ⟨hib',hb,hDr,hFr⟩
    rw[zr (by omega)]
    exact hnextq (b-(i+1)) _ _ (by omega) ⟨i+1,rfl,rfl,by omega,by omega,by rw[<-hsc,zsK hib' hb],hDr,hFr⟩
  rintro _ w2 ⟨i,rfl,ei,q1,q2,hD2,hF2⟩
  dsimp only
  have hps:Go.Sort.partialIns ltI a b (s+1) i0 d1=(if i=b then(d1,true) else if b-a<50 then(d1,false) else
    Go.Sort.partialIns ltI a b s i (if b-i≥2 then Go.Sort.shiftUp ltI b (i+1) (if i-a≥2 then Go.Sort.shiftDown ltI (i-1) (Go.Sort.swp d1 i (i-1)) else Go.Sort.swp d1 i (i-1)) else(if i-a≥2 then Go.Sort.shiftDown ltI (i-1) (Go.Sort.swp d1 i (i-1)) else Go.Sort.swp d1 i (i-1)))):=by
   rw[ei];rfl
  rw[hps]at he
  refine zm (λe=>?_) (λe=>?_)
  ·rw[if_pos (by omega)]at he
   subst he
   exact hR w2 hD2 hF2
  have hib2:i<b:=by omega
  rw[if_neg (by omega)]at he
  refine zf (λh5=>?_) (λh5=>?_)
  ·rw[if_pos (by omega)]at he
   subst he
   exact hR w2 hD2 hF2
  rw[if_neg (by omega)]at he
  have ei1:IntKind.i64.wrap ((i:Int)-1)=((i-1:Nat):Int):=wr64 (by omega) (by omega)
  have eia:IntKind.i64.wrap ((i:Int)-(a:Int))=((i-a:Nat):Int):=wr64 (by omega) (by omega)
  have ebi:IntKind.i64.wrap ((b:Int)-(i:Int))=((b-i:Nat):Int):=wr64 (by omega) (by omega)
  have ei2:IntKind.i64.wrap ((i:Int)+1)=((i+1:Nat):Int):=wr64 (by omega) (by omega)
  rw[ei1,eia,ebi,ei2]
  refine hD2.swap (i:=i-1) (j:=i) rfl rfl (by omega) (by omega) hn1.symm λw3 hD3 c3=>?_
  have hF3:=hF2.chg c3 (.inl rfl)
  have hn3:(Go.Sort.swp d1 i (i-1)).size=n:=by rw[Go.Sort.size_swp];exact hn1
  generalize Go.Sort.swp d1 i (i-1)=d3 at hD3 hn3 he
  refine zl.cut (λ_ w'=>∃d4,Dtw w' g rest d4/\d4.size=n/\d4=(if i-a≥2 then Go.Sort.shiftDown ltI (i-1) d3 else d3)/\Fr w.heap.size (·=g) w w') ?_ ?_
  ·refine zf (λh2=>?_) (λh2=>?_)
   ·rw[if_pos (by omega)]
    refine zk.ghost (λk (st:Int×Unit) w'=>∃d':Array Int,st=((k:Int),())/\k<i/\Dtw w' g rest d'/\d'.size=n/\Go.Sort.shiftDown ltI k d'=Go.Sort.shiftDown ltI (i-1) d3/\Fr w.heap.size (·=g) w w') (i-1)
     ⟨d3,rfl,by omega,hD3,hn3,rfl,hF3⟩ ?_
    rintro j _ wq ⟨dq,rfl,hji,hDq,hnq,hsq,hFq⟩ nextq hnextq
    dsimp only
    refine zf (λh=>?_) (λh=>?_)
    ·obtain⟨m,rfl⟩:∃m,j=m+1:=⟨j-1,by omega⟩
     have em:IntKind.i64.wrap (((m+1:Nat):Int)-1)=(m:Int):=wr64 (by omega) (by omega)
     rw[em]
     refine hDq.drew.at rfl (by omega) hnq.symm (hDq.drew.at rfl (by omega) hnq.symm (yz ⟨_,rfl,?_⟩))
     refine zF (zo (λhb=>?_) (λhb=>⟨dq,hDq.drew,hnq,by rw[<-hsq,zpk (.inr hb)],hFq.drew⟩))
     refine hDq.drew.swap (i:=m) (j:=m+1) rfl rfl (by omega) (by omega) hnq.symm λwr hDr cr=>?_
     exact hnextq m _ _ (by omega) ⟨_,rfl,by omega,hDr,by rw[Go.Sort.size_swp];exact hnq,by rw[<-hsq,zue hb],hFq.drew.chg cr (.inl rfl)⟩
    ·exact⟨dq,hDq,hnq,by rw[<-hsq,zpk (.inl (by omega))],hFq⟩
   ·rw[if_neg (by omega)]
    exact⟨d3,hD3,hn3,rfl,hF3⟩
  rintro _ w4 ⟨d4,hD4,hn4,e4,hF4⟩
  rw[<-e4]at he
  clear e4
  refine zf (λh2=>?_) (λh2=>?_)
  ·rw[if_pos (by omega)]at he
   refine zk.ghost (λk (st:Int×Unit) w'=>∃(j:Nat) (d':Array Int),st=((j:Int),())/\k=b-j/\i<j/\Dtw w' g rest d'/\d'.size=n/\Go.Sort.shiftUp ltI b j d'=Go.Sort.shiftUp ltI b (i+1) d4/\Fr w.heap.size (·=g) w w') (b-(i+1))
    ⟨i+1,d4,rfl,rfl,by omega,hD4,hn4,rfl,hF4⟩ ?_
   rintro _ _ wq ⟨j,dq,rfl,rfl,hij,hDq,hnq,hsq,hFq⟩ nextq hnextq
   dsimp only
   refine zf (λh=>?_) (λh=>?_)
   ·have em:IntKind.i64.wrap ((j:Int)-1)=((j-1:Nat):Int):=wr64 (by omega) (by omega)
    rw[em]
    refine hDq.drew.at rfl (by omega) hnq.symm (hDq.drew.at rfl (by omega) hnq.symm (yz ⟨_,rfl,?_⟩))
    refine zF (zo (λhb=>?_) (λhb=>⟨i,dq,rfl,q1,q2,hDq.drew,hnq,?_,hFq.drew⟩))
    ·refine hDq.drew.swap (i:=j-1) (j:=j) rfl rfl (by omega) (by omega) hnq.symm λwr hDr cr=>?_
     rw[zr (by omega)]
     exact hnextq (b-(j+1)) _ _ (by omega) ⟨j+1,_,rfl,rfl,by omega,hDr,by rw[Go.Sort.size_swp];exact hnq,by rw[<-hsq,zuf (by omega) hb],hFq.drew.chg cr (.inl rfl)⟩
    ·rw[<-he,<-hsq,zpl (.inr hb)]
   ·exact⟨i,dq,rfl,q1,q2,hDq,hnq,by rw[<-he,<-hsq,zpl (.inl (by omega))],hFq⟩
  ·rw[if_neg (by omega)]at he
   exact⟨i,d4,rfl,q1,q2,hD4,hn4,he,hF4⟩
 ·have hs0:s=0:=by omega
  subst hs0
  have he:(d1,false)=pp:=he
  subst he
  exact hR w1 hD1 hF
theorem zhd{i j r:Nat}{s:Int}{T:TypeId}(hD:Dtw w g rest d)(hn:n=d.size)(hi:i<n)(hj:j<n)(hS:Blk w r T [.int .i64 s])(hT:T≠22)
  (hR:∀w' (p q:Nat) s',((p=i/\q=j)\/(p=j/\q=i))->Dtw w' g rest d->Blk w' r T [.int .i64 s']->Chg r w w'->R (.tuple #[.int .i64 (p:Int),.int .i64 (q:Int)]) w') :
  cR 184 #[.slice (some (blk g)) n c,.int .i64 (i:Int),.int .i64 (j:Int),.pointer (some (blk r))] w R:=by
 refine za.of (zao ⟨some (blk g),n,c⟩ i j (some (blk r)) R w ?_) λ_ _ h=>h
 have hne:g≠r:=Blk.apart hD hS hT.symm
 refine hD.drew.at rfl (by omega) hn (hD.drew.at rfl (by omega) hn (yz ⟨_,rfl,?_⟩))
 refine zo (λhb=>?_) (λhb=>?_)
 ·refine zj rfl (hS.drew.rI0 rfl (zj rfl ⟨hS.drew.wr0 (by simp),Nw.mk ?_⟩))
  have c1:=((Chg.refl r w).drew).trans (Chg.set r 0 w.drew (.int .i64 (IntKind.i64.wrap (s+1))))
  exact hR _ j i _ (.inr ⟨rfl,rfl⟩) (c1.blk hD hne) (hS.drew.set0 _) c1
 ·exact hR _ i j s (.inl ⟨rfl,rfl⟩) hD.drew hS.drew (Chg.refl r w).drew
theorem zk2{i j k r:Nat}{s:Int}{T:TypeId}(hD:Dtw w g rest d)(hn:n=d.size)(hi:i<n)(hj:j<n)(hk:k<n)(hS:Blk w r T [.int .i64 s])(hT:T≠22)
  (hR:∀w' (p:Nat) s',(p=i\/p=j\/p=k)->Dtw w' g rest d->Blk w' r T [.int .i64 s']->Chg r w w'->R (.int .i64 (p:Int)) w') :
  cR 165 #[.slice (some (blk g)) n c,.int .i64 (i:Int),.int .i64 (j:Int),.int .i64 (k:Int),.pointer (some (blk r))] w R:=by
 refine za.of (zan ⟨some (blk g),n,c⟩ i j k (some (blk r)) R w ?_) λ_ _ h=>h
 refine zhd (n:=n) (c:=c) hD hn hi hj hS hT λw1 a1 b1 s1 h1 hD1 hS1 c1=>⟨_,_,rfl,?_⟩
 refine zhd (n:=n) (c:=c) hD1 hn (i:=b1) (j:=k) (by omega) hk hS1 hT λw2 a2 b2 s2 h2 hD2 hS2 c2=>⟨_,_,rfl,?_⟩
 refine zhd (n:=n) (c:=c) hD2 hn (i:=a1) (j:=a2) (by omega) (by omega) hS2 hT λw3 a3 b3 s3 h3 hD3 hS3 c3=>⟨_,_,rfl,?_⟩
 exact hR w3 b3 s3 (by omega) hD3 hS3 ((c1.trans c2).trans c3)
theorem zfI{i r:Nat}{s:Int}{T:TypeId}(hD:Dtw w g rest d)(hn:n=d.size)(hmax:n<=35184372088832)(h0:0<i)(hi:i+1<n)(hS:Blk w r T [.int .i64 s])(hT:T≠22)
  (hR:∀w' (p:Nat) s',(i-1<=p/\p<=i+1)->Dtw w' g rest d->Blk w' r T [.int .i64 s']->Chg r w w'->R (.int .i64 (p:Int)) w') :
  cR 164 #[.slice (some (blk g)) n c,.int .i64 (i:Int),.pointer (some (blk r))] w R:=by
 refine za.of (Z6 ⟨some (blk g),n,c⟩ i (some (blk r)) R w ?_) λ_ _ h=>h
 have e1:IntKind.i64.wrap ((i:Int)-1)=((i-1:Nat):Int):=wr64 (by omega) (by omega)
 have e2:IntKind.i64.wrap ((i:Int)+1)=((i+1:Nat):Int):=wr64 (by omega) (by omega)
 unfold zX
 rw[e1,e2]
 refine zk2 (n:=n) (c:=c) hD hn (by omega) (by omega) (by omega) hS hT λw1 p s1 hp hD1 hS1 c1=>⟨_,rfl,?_⟩
 exact hR w1 p s1 (by omega) hD1 hS1 c1
theorem zpY{a b:Nat}(hD:Dtw w g rest d)(hn:n=d.size)(hmax:n<=35184372088832)(hab:a<b)(hb:b<=n)
  (hR:∀w' (p:Nat) h,a<=p->p<b->Dtw w' g rest d->Fr w.heap.size (·=g) w w'->R (.tuple #[.int .i64 (p:Int),.int .i64 h]) w') :
  cR 130 #[.slice (some (blk g)) n c,.int .i64 (a:Int),.int .i64 (b:Int)] w R:=by
 refine za.of (Yf ⟨some (blk g),n,c⟩ a b R w ?_) λ_ _ h=>h
 have eba:IntKind.i64.wrap ((b:Int)-(a:Int))=((b-a:Nat):Int):=wr64 (by omega) (by omega)
 generalize hl:b-a=l at eba
 have e4:IntKind.i64.wrap (Int.tdiv (l:Int) 4)=((l / 4:Nat):Int):=wr64 (by rw[Int.tdiv_eq_ediv_of_nonneg (by omega)];omega) (by omega)
 generalize hq:l / 4=q at e4
 have m1:IntKind.i64.wrap ((q:Int)*1)=(q:Int):=wr64 (by omega) (by omega)
 have m2:IntKind.i64.wrap ((q:Int)*2)=((q*2:Nat):Int):=wr64 (by omega) (by omega)
 have m3:IntKind.i64.wrap ((q:Int)*3)=((q*3:Nat):Int):=wr64 (by omega) (by omega)
 have a1:IntKind.i64.wrap ((a:Int)+(q:Int))=((a+q:Nat):Int):=wr64 (by omega) (by omega)
 have a2:IntKind.i64.wrap ((a:Int)+((q*2:Nat):Int))=((a+q*2:Nat):Int):=wr64 (by omega) (by omega)
 have a3:IntKind.i64.wrap ((a:Int)+((q*3:Nat):Int))=((a+q*3:Nat):Int):=wr64 (by omega) (by omega)
 unfold yd
 rw[eba,e4,m1,m2,m3,a1,a2,a3]
 refine zn λw1 hS1 b1 z1=>?_
 have hD1:=hD.below b1
 have hT:3≠22:=by decide
 have hgl:=hD.lt
 refine zl.cut (λ(st:Int×Unit) w'=>∃(p:Nat) (s:Int),st=((p:Int),())/\a<=p/\p<b/\Dtw w' g rest d/\Blk w' w.heap.size 3 [.int .i64 s]/\Chg w.heap.size w1 w') ?_ ?_
 ·refine zf (λh8=>?_) (λh8=>?_)
  ·refine zl.cut (λ(st:Int×Int×Int×Unit) w'=>∃(i j k:Nat) (s:Int),st=((i:Int),(j:Int),(k:Int),())/\(a<=i/\i<b)/\(a<=j/\j<b)/\(a<=k/\k<b)/\Dtw w' g rest d/\Blk w' w.heap.size 3 [.int .i64 s]/\Chg w.heap.size w1 w') ?_ ?_
   ·refine zf (λh50=>?_) (λh50=>?_)
    ·refine zfI (n:=n) (c:=c) hD1 hn hmax (by omega) (by omega) hS1 hT λw2 p1 s2 hp1 hD2 hS2 c2=>⟨_,rfl,?_⟩
     refine zfI (n:=n) (c:=c) hD2 hn hmax (by omega) (by omega) hS2 hT λw3 p2 s3 hp2 hD3 hS3 c3=>⟨_,rfl,?_⟩
     refine zfI (n:=n) (c:=c) hD3 hn hmax (by omega) (by omega) hS3 hT λw4 p3 s4 hp3 hD4 hS4 c4=>⟨_,rfl,?_⟩
     exact⟨p1,p2,p3,s4,rfl,by omega,by omega,by omega,hD4,hS4,(c2.trans c3).trans c4⟩
    ·exact⟨a+q,a+q*2,a+q*3,0,rfl,by omega,by omega,by omega,hD1,hS1,Chg.refl _ _⟩
   ·rintro _ w2 ⟨i,j,k,s,rfl,hi,hj,hk,hD2,hS2,c2⟩
    refine zk2 (n:=n) (c:=c) hD2 hn (i:=i) (j:=j) (k:=k) (by omega) (by omega) (by omega) hS2 hT λw3 p s3 hp hD3 hS3 c3=>⟨_,rfl,?_⟩
    exact⟨p,s3,rfl,by omega,by omega,hD3,hS3,c2.trans c3⟩
  ·exact⟨a+q*2,0,rfl,by omega,by omega,hD1,hS1,Chg.refl _ _⟩
 ·rintro _ w2 ⟨p,s,rfl,hp1,hp2,hD2,hS2,c2⟩
  have hF:Fr w.heap.size (·=g) w w2:=(Fr.of_below b1).chg c2 (.inr (Nat.le_refl _))
  refine hS2.rI0 rfl (zm (λ_=>hR w2 p _ hp1 hp2 hD2 hF) (λ_=>zm (λ_=>hR w2 p _ hp1 hp2 hD2 hF) (λ_=>hR w2 p _ hp1 hp2 hD2 hF)))
end
abbrev zpL:ByteArray:=BM #[0,1,2,2,3,3,3,3,4,4,4,4,4,4,4,4,5,5,5,5,5,5,5,5,5,5,5,5,5,5,5,5,6,6,6,6,6,6,6,6,6,6,6,6,6,6,6,6,6,6,6,6,6,6,6,6,6,6,6,6,6,6,6,6,7,7,7,7,7,7,7,7,7,7,7,7,7,7,7,7,7,7,7,7,7,7,7,7,7,7,7,7,7,7,7,7,7,7,7,7,7,7,7,7,7,7,7,7,7,7,7,7,7,7,7,7,7,7,7,7,7,7,7,7,7,7,7,7,8,8,8,8,8,8,8,8,8,8,8,8,8,8,8,8,8,8,8,8,8,8,8,8,8,8,8,8,8,8,8,8,8,8,8,8,8,8,8,8,8,8,8,8,8,8,8,8,8,8,8,8,8,8,8,8,8,8,8,8,8,8,8,8,8,8,8,8,8,8,8,8,8,8,8,8,8,8,8,8,8,8,8,8,8,8,8,8,8,8,8,8,8,8,8,8,8,8,8,8,8,8,8,8,8,8,8,8,8,8,8,8,8,8,8,8,8,8,8,8,8,8,8,8,8,8,8,8]
theorem zrh:((List.range 256).all λm=>decide ((zpL.data.getD m 0).toNat<=8)&&(m==0||decide (2 ^ (zpL.data.getD m 0).toNat<=2*m)))=true:=by decide +kernel
theorem zrg{m:Nat}(hm:m<256):∃t:Nat,Yu zpL (m:Int)=(t:Int)/\t<=8/\(0<m->2 ^ t<=2*m):=by
 have h:=List.all_eq_true.1 zrh m (List.mem_range.2 hm)
 rw[Bool.and_eq_true,decide_eq_true_eq,Bool.or_eq_true,decide_eq_true_eq,beq_iff_eq]at h
 exact⟨_,rfl,h.1,λh0=>h.2.resolve_left (by omega)⟩
theorem zrW(x k:Nat)(hk:k<64):Int.fdiv (x:Int) (2 ^ (min k (IntKind.bits .u64)))=((x / 2 ^ k:Nat):Int):=by
 have hm:min k (IntKind.bits .u64)=k:=by rw[show IntKind.bits .u64=64 from rfl];omega
 rw[hm,show((2:Int) ^ k)=((2 ^ k:Nat):Int) by simp,Int.ofNat_fdiv]
theorem zlW{x m L k:Nat}(h:0<x->0<m/\2 ^ L*m<=x)(hm:2 ^ k<=m):0<x->0<m / 2 ^ k/\2 ^ (L+k)*(m / 2 ^ k)<=x:=λhx=>by
 obtain⟨h1,h2⟩:=h hx
 refine⟨Nat.div_pos hm (Nat.two_pow_pos k),?_⟩
 rw[Nat.pow_add,Nat.mul_assoc]
 exact Nat.le_trans (Nat.mul_le_mul_left _ (Nat.mul_div_le m (2 ^ k))) h2
section
variable {w:World} {R:VWP}
theorem zpw{x:Nat}(hx:x<=70368744177664)(hR:∀L:Nat,L<=64->(0<x->2 ^ L<=2*x)->R (.int .i64 (L:Int)) w):cR 137 #[.int .u64 (x:Int)] w R:=by
 refine za.of (zg8 x R w ?_) λ_ _ h=>h
 refine zl.cut (λ(st:Int×Int×Unit) w'=>w'=w/\∃m L:Nat,st=((m:Int),(L:Int),())/\m<2 ^ 32/\L<=32/\(0<x->0<m/\2 ^ L*m<=x)) ?_ ?_
 ·refine zf (λh=>?_) (λh=>?_)
  ·rw[zrW x 32 (by decide)]
   exact⟨rfl,x / 2 ^ 32,32,rfl,by omega,Nat.le_refl _,by have:=zlW (x:=x) (m:=x) (L:=0) (k:=32) (λh=>⟨h,by omega⟩) (by omega);simpa using this⟩
  ·exact⟨rfl,x,0,rfl,by omega,by omega,λh=>⟨h,by omega⟩⟩
 rintro _ w ⟨rfl,m1,L1,rfl,h1,h2,h3⟩
 refine zl.cut (λ(st:Int×Int×Unit) w'=>w'=w/\∃m L:Nat,st=((m:Int),(L:Int),())/\m<2 ^ 16/\L<=48/\(0<x->0<m/\2 ^ L*m<=x)) ?_ ?_
 ·refine zf (λh=>?_) (λh=>?_)
  ·dsimp only at h⊢
   rw[zrW m1 16 (by decide)]
   have e:IntKind.i64.wrap ((L1:Int)+16)=((L1+16:Nat):Int):=by rw[zq (by omega) (by omega)];omega
   rw[e]
   exact⟨rfl,m1 / 2 ^ 16,L1+16,rfl,by omega,by omega,zlW h3 (by omega)⟩
  ·exact⟨rfl,m1,L1,rfl,by dsimp only at h;omega,by omega,h3⟩
 rintro _ w ⟨rfl,m2,L2,rfl,h4,h5,h6⟩
 refine zl.cut (λ(st:Int×Int×Unit) w'=>w'=w/\∃m L:Nat,st=((m:Int),(L:Int),())/\m<2 ^ 8/\L<=56/\(0<x->0<m/\2 ^ L*m<=x)) ?_ ?_
 ·refine zf (λh=>?_) (λh=>?_)
  ·dsimp only at h⊢
   rw[zrW m2 8 (by decide)]
   have e:IntKind.i64.wrap ((L2:Int)+8)=((L2+8:Nat):Int):=by rw[zq (by omega) (by omega)];omega
   rw[e]
   exact⟨rfl,m2 / 2 ^ 8,L2+8,rfl,by omega,by omega,zlW h6 (by omega)⟩
  ·exact⟨rfl,m2,L2,rfl,by dsimp only at h;omega,by omega,h6⟩
 rintro _ w ⟨rfl,m3,L3,rfl,h7,h8,h9⟩
 dsimp only
 have e8:IntKind.u8.wrap (m3:Int)=(m3:Int):=by rw[IntKind.wrap_u8];omega
 rw[e8]
 obtain⟨t,ht,ht8,htm⟩:=zrg (m:=m3) (by omega)
 refine⟨⟨by omega,Int.lt_of_lt_of_le (b:=256) (by omega) (by decide +kernel)⟩,?_⟩
 ·rw[ht,zq (x:=(t:Int)) (by omega) (by omega)]
  have e:IntKind.i64.wrap ((L3:Int)+(t:Int))=((L3+t:Nat):Int):=by rw[zq (by omega) (by omega)];omega
  rw[e]
  refine hR (L3+t) (by omega) λhx0=>?_
  obtain⟨k1,k2⟩:=h9 hx0
  have:=htm k1
  rw[Nat.pow_add]
  calc 2 ^ L3*2 ^ t<=2 ^ L3*(2*m3):=Nat.mul_le_mul_left _ this
   _=2*(2 ^ L3*m3):=by rw[Nat.mul_left_comm]
   _<=2*x:=Nat.mul_le_mul_left _ k2
theorem zli{x:Nat}(hx:x<=70368744177664)(hR:∀L:Nat,L<=64->(0<x->2 ^ L<=2*x)->R (.int .i64 (L:Int)) w):cR 99 #[.int .u64 (x:Int)] w R:=by
 refine za.of (zhD x R w ?_) λ_ _ h=>h
 exact zpw hx λL h1 h2=>⟨_,rfl,hR L h1 h2⟩
theorem zpp{x:Nat}(hx:x<=9223372036854775807):IntKind.u64.wrap (x:Int)=(x:Int):=by
 rw[IntKind.wrap_u64]
 exact Int.emod_eq_of_lt (by omega) (by omega)
theorem znB{x:Nat}(h0:0<x)(hx:x<=35184372088832)(hR:∀L:Nat,2 ^ L<=2*x->R (.int .u64 ((2 ^ L:Nat):Int)) w):cR 162 #[.int .i64 (x:Int)] w R:=by
 refine za.of (zcV x R w ?_) λ_ _ h=>h
 unfold Za
 rw[zpp (by omega)]
 refine zli (by omega) λL h1 h2=>⟨_,rfl,?_⟩
 have h3:=h2 h0
 refine zf (λh=>by omega) (λ_=>?_)
 have e:(1:Int)*2 ^ (min (Int.toNat (L:Int)) (IntKind.bits .u64))=((2 ^ L:Nat):Int):=by
  rw[show min (Int.toNat (L:Int)) (IntKind.bits .u64)=L by rw[show IntKind.bits .u64=64 from rfl,Int.toNat_natCast];omega]
  simp
 rw[e,zpp (by omega)]
 exact hR L h3
theorem mask{x:Int}{L:Nat}(hL:2 ^ L<=70368744177664):∃v:Nat,v<2 ^ L/\
  IntKind.i64.wrap (IntKind.u64.wrap ((BitVec.toNat (BitVec.ofInt (IntKind.bits .u64) x &&& BitVec.ofInt (IntKind.bits .u64) (IntKind.u64.wrap (((2 ^ L:Nat):Int)-1))):Nat):Int))=(v:Int):=by
 have hp:=Nat.two_pow_pos L
 have q1:((2 ^ L:Nat):Int)-1=((2 ^ L-1:Nat):Int):=by omega
 have q2:=zpp (x:=2 ^ L-1) (by omega)
 rw[q1,q2,BitVec.toNat_and]
 have hb:(BitVec.ofInt (IntKind.bits .u64) ((2 ^ L-1:Nat):Int)).toNat=2 ^ L-1:=by
  rw[BitVec.ofInt_natCast,BitVec.toNat_ofNat,show IntKind.bits .u64=64 from rfl]
  exact Nat.mod_eq_of_lt (by omega)
 rw[hb]
 have hle:=Nat.and_le_right (n:=(BitVec.ofInt (IntKind.bits .u64) x).toNat) (m:=2 ^ L-1)
 exact⟨(BitVec.ofInt (IntKind.bits .u64) x).toNat &&& (2 ^ L-1),by omega,by rw[zpp (by omega),zq (by omega) (by omega)]⟩
theorem znO{r:Nat}{T:TypeId}{x:Int}(hS:Blk w r T [.int .u64 x])(hR:∀w' y,Blk w' r T [.int .u64 y]->Chg r w w'->R (.int .u64 y) w'):cR 163 #[.pointer (some (blk r))] w R:=by
 refine za.of (zdB (some (blk r)) R w ?_) λ_ _ h=>h
 have one:∀{w:World} {x:Int} {v:Int->Int->Int} {K:World->Prop},Blk w r T [.int .u64 x]->(∀w' y,Blk w' r T [.int .u64 y]->Chg r w w'->K w')->
   zc (some (blk r)) λa1=>ldI w.drew a1 .u64 λx2=>zc (some (blk r)) λa3=>ldI w.drew a3 .u64 λx4=>zc (some (blk r)) λa5=>Wr w.drew a5/\Nw (w.drew.setCell a5 (.int .u64 (v x2 x4))) K:=λhS hK=>
  zj rfl (hS.drew.rI0 rfl (zj rfl (hS.drew.rI0 rfl (zj rfl ⟨hS.drew.wr0 (by simp),Nw.mk (hK _ _ (hS.drew.set0 _) (((Chg.refl r _).drew).trans (Chg.set r 0 _ _)))⟩))))
 refine one (v:=λx2 x4=>IntKind.u64.wrap ((BitVec.toNat (BitVec.ofInt (IntKind.bits .u64) x2 ^^^ BitVec.ofInt (IntKind.bits .u64) (IntKind.u64.wrap (x4*2 ^ (min 13 (IntKind.bits .u64))))):Nat):Int)) hS λw1 y1 hS1 c1=>?_
 refine one (v:=λx2 x4=>IntKind.u64.wrap ((BitVec.toNat (BitVec.ofInt (IntKind.bits .u64) x2 ^^^ BitVec.ofInt (IntKind.bits .u64) (Int.fdiv x4 (2 ^ (min 7 (IntKind.bits .u64))))):Nat):Int)) hS1 λw2 y2 hS2 c2=>?_
 refine one (v:=λx2 x4=>IntKind.u64.wrap ((BitVec.toNat (BitVec.ofInt (IntKind.bits .u64) x2 ^^^ BitVec.ofInt (IntKind.bits .u64) (IntKind.u64.wrap (x4*2 ^ (min 17 (IntKind.bits .u64))))):Nat):Int)) hS2 λw3 y3 hS3 c3=>?_
 exact zj rfl (hS3.rI0 rfl (hR w3 y3 hS3 ((c1.trans c2).trans c3)))
end
section
variable {w:World} {g n c:Nat} {rest:List Value} {d:Array Int} {R:VWP}
theorem zp3{a b:Nat}(hD:Dtw w g rest d)(hn:n=d.size)(hmax:n<=35184372088832)(hab:a<b)(hb:b<=n)
  (hR:∀w' d',Dtw w' g rest d'->Go.Sort.PermIn a b d d'->Fr w.heap.size (·=g) w w'->R (.tuple #[]) w') :
  cR 129 #[.slice (some (blk g)) n c,.int .i64 (a:Int),.int .i64 (b:Int)] w R:=by
 refine za.of (ZE ⟨some (blk g),n,c⟩ a b R w ?_) λ_ _ h=>h
 have eba:IntKind.i64.wrap ((b:Int)-(a:Int))=((b-a:Nat):Int):=wr64 (by omega) (by omega)
 generalize hl:b-a=l at eba
 unfold ya
 rw[eba]
 refine zf (λh8=>?_) (λh8=>hR w d hD (Go.Sort.permIn_refl d a b) (Fr.refl _ _ _))
 have e4:IntKind.i64.wrap (Int.tdiv (l:Int) 4)=((l / 4:Nat):Int):=wr64 (by rw[Int.tdiv_eq_ediv_of_nonneg (by omega)];omega) (by omega)
 generalize hq:l / 4=q at e4
 have m2:IntKind.i64.wrap ((q:Int)*2)=((q*2:Nat):Int):=wr64 (by omega) (by omega)
 have a2:IntKind.i64.wrap ((a:Int)+((q*2:Nat):Int))=((a+q*2:Nat):Int):=wr64 (by omega) (by omega)
 have a3:IntKind.i64.wrap (((a+q*2:Nat):Int)+1)=((a+q*2+1:Nat):Int):=wr64 (by omega) (by omega)
 have a4:IntKind.i64.wrap (((a+q*2:Nat):Int)-1)=((a+q*2-1:Nat):Int):=wr64 (by omega) (by omega)
 rw[e4,m2,a2,a3,a4]
 refine Nw.gen λw1 e1=>?_
 have hS1:∃T,T=239/\Blk w1 w.heap.size T [.int .u64 0]:=⟨_,rfl,by rw[e1];exact Blk.new _ _ _⟩
 obtain⟨T,hT,hS1⟩:=hS1
 have hT':T≠22:=by rw[hT];decide
 clear hT
 have b1:Below w.heap.size w w1:=by rw[e1];exact(Below.refl _ _).alloc (Nat.le_refl _) _
 clear e1
 have hgl:=hD.lt
 refine⟨hS1.wr0 (by simp),Nw.gen λw2 e2=>?_⟩
 have c2:Chg w.heap.size w1 w2:=by rw[e2];exact Chg.set w.heap.size 0 w1 _
 have hS2:Blk w2 w.heap.size T [.int .u64 (IntKind.u64.wrap (l:Int))]:=by rw[e2];exact hS1.set0 _
 clear e2
 have hD2:=c2.blk (hD.below b1) (by omega)
 have hF2:Fr w.heap.size (·=g) w w2:=(Fr.of_below b1).chg c2 (.inr (Nat.le_refl _))
 refine znB (by omega) (by omega) λL hL=>⟨_,rfl,?_⟩
 refine zk.ghost (λk (st:Int×Unit) w'=>∃(i:Nat) (d':Array Int) (x:Int),st=((i:Int),())/\k=a+q*2+2-i/\a<=i/\i<=a+q*2+2/\Dtw w' g rest d'/\Go.Sort.PermIn a b d d'/\Blk w' w.heap.size T [.int .u64 x]/\Fr w.heap.size (·=g) w w') (a+q*2+2-(a+q*2-1))
  ⟨a+q*2-1,d,_,rfl,rfl,by omega,by omega,hD2,Go.Sort.permIn_refl d a b,hS2,hF2⟩ ?_
 rintro _ _ w3 ⟨i,d3,x3,rfl,rfl,hi1,hi2,hD3,hP3,hS3,hF3⟩ next hnext
 dsimp only
 have hn3:d3.size=n:=by rw[hP3.1];exact hn.symm
 refine zf (λh=>?_) (λh=>hR w3 d3 hD3 hP3 hF3)
 refine znO hS3 λw4 y hS4 c4=>⟨_,rfl,?_⟩
 have hD4:=c4.blk hD3 (Blk.apart hD3 hS3 hT'.symm)
 have hF4:=hF3.chg c4 (.inr (Nat.le_refl _))
 obtain⟨v,hv,ev⟩:=mask (x:=y) (L:=L) (by omega)
 dsimp only[zB,Go.Gk.Sl.zw,zi,zu,zb,zh];rw[ev]
 refine zl.cut (λ(st:Int×Unit) w'=>w'=w4/\∃o:Nat,st=((o:Int),())/\o<l) ?_ ?_
 ·refine zf (λh=>?_) (λh=>?_)
  ·rw[wr64 (x:=(v:Int)-(l:Int)) (k:=v-l) (by omega) (by omega)]
   exact⟨rfl,v-l,rfl,by omega⟩
  ·exact⟨rfl,v,rfl,by omega⟩
 ·rintro _ _ ⟨rfl,o,rfl,ho⟩
  dsimp only
  have eo:IntKind.i64.wrap ((a:Int)+(o:Int))=((a+o:Nat):Int):=wr64 (by omega) (by omega)
  rw[eo]
  refine Dtw.swap (hD4) (i:=a+o) (j:=i) rfl rfl (by omega) (by omega) hn3.symm λw5 hD5 c5=>?_
  rw[zr (by omega)]
  refine hnext (a+q*2+2-(i+1)) _ _ (by omega) ⟨i+1,_,y,rfl,rfl,by omega,by omega,hD5,?_,c5.blk hS4 (Ne.symm (Blk.apart hD3 hS3 hT'.symm)),hF4.chg c5 (.inl rfl)⟩
  exact Go.Sort.permIn_trans _ _ _ a b hP3 (Go.Sort.swp_permIn d3 a b i (a+o) (by omega) (by omega) (by omega) (by omega) (by omega))
theorem zsB:∀(N a b:Nat) (lim:Int) (w:World) (d:Array Int) (R:VWP),b-a<=N->Dtw w g rest d->n=d.size->n<=35184372088832->a<=b->b<=n->Go.Sort.Below ltI a b d->
  (∀w' d',Dtw w' g rest d'->Go.Sort.PermIn a b d d'->Go.Sort.SortedIn ltI a b d'->Fr w.heap.size (·=g) w w'->R (.tuple #[]) w')->
  cR 98 #[.slice (some (blk g)) n c,.int .i64 (a:Int),.int .i64 (b:Int),.int .i64 lim] w R:=by
 intro N
 induction N with
 |zero=>
  intro a b lim w d R hN hD hn hmax hab hb hB hR
  refine za.of (ye ⟨some (blk g),n,c⟩ a b lim R w ?_) λ_ _ h=>h
  refine zk.ghost (λ_ st w'=>st=((a:Int),(b:Int),lim,true,true,())/\w'=w) 0 ⟨rfl,rfl⟩ ?_
  rintro _ _ w1 ⟨rfl,rfl⟩ next _
  dsimp only
  have e:IntKind.i64.wrap ((b:Int)-(a:Int))=((b-a:Nat):Int):=wr64 (by omega) (by omega)
  rw[e]
  refine zf (λh=>?_) (λh=>by omega)
  refine zmD hD hn hmax hab hb λw2 hD2 hF2=>⟨rfl,?_⟩
  obtain⟨p1,p2⟩:=Go.Sort.insertionSort_holds Go.Sort.swo_ltInt d a b hab (by omega)
  exact hR w2 _ hD2 p1 p2 hF2
 |succ N ih=>
  intro a0 b0 lim0 w d0 R hN hD0 hn0 hmax hab0 hb0 hB0 hR
  refine za.of (ye ⟨some (blk g),n,c⟩ a0 b0 lim0 R w ?_) λ_ _ h=>h
  refine zk.ghost (λk (st:Int×Int×Int×Bool×Bool×Unit) w'=>∃(a b:Nat) (lim:Int) (wb wp:Bool) (d:Array Int),st=((a:Int),(b:Int),lim,wb,wp,())/\k=b-a/\b-a<=N+1/\a<=b/\b<=n/\Dtw w' g rest d/\d.size=n/\Go.Sort.Below ltI a b d/\
   (∀D,Go.Sort.PermIn a b d D->Go.Sort.SortedIn ltI a b D->Go.Sort.PermIn a0 b0 d0 D/\Go.Sort.SortedIn ltI a0 b0 D)/\Fr w.heap.size (·=g) w w') (b0-a0)
   ⟨a0,b0,lim0,true,true,d0,rfl,rfl,hN,hab0,hb0,hD0,hn0.symm,hB0,λD h1 h2=>⟨h1,h2⟩,Fr.refl _ _ _⟩ ?_
  rintro _ _ w1 ⟨a,b,lim,wb,wp,d,rfl,rfl,hk,hab,hb,hD,hn,hB,hC,hF⟩ next hnext
  dsimp only
  have e:IntKind.i64.wrap ((b:Int)-(a:Int))=((b-a:Nat):Int):=wr64 (by omega) (by omega)
  rw[e]
  refine zf (λh=>?_) (λh12=>?_)
  ·refine zmD hD hn.symm hmax hab hb λw2 hD2 hF2=>⟨rfl,?_⟩
   obtain⟨p1,p2⟩:=Go.Sort.insertionSort_holds Go.Sort.swo_ltInt d a b hab (by omega)
   obtain⟨q1,q2⟩:=hC _ p1 p2
   exact hR w2 _ hD2 q1 q2 (hF.onto hF2 hF.size)
  have h12:12<b-a:=by omega
  refine zm (λ_=>?_) (λ_=>?_)
  ·refine zra hD hn.symm hmax (by omega) hb λw2 hD2 hF2=>⟨rfl,?_⟩
   obtain⟨p1,p2⟩:=Go.Sort.heapSort_holds Go.Sort.swo_ltInt d a b hab (by omega)
   obtain⟨q1,q2⟩:=hC _ p1 p2
   exact hR w2 _ hD2 q1 q2 (hF.onto hF2 hF.size)
  refine zl.cut (λ_ w'=>∃d1,Dtw w' g rest d1/\Go.Sort.PermIn a b d d1/\Fr w.heap.size (·=g) w w') ?_ ?_
  ·refine zF (zo (λ_=>⟨d,hD,Go.Sort.permIn_refl d a b,hF⟩) (λ_=>?_))
   exact zp3 hD hn.symm hmax (by omega) hb λw2 d2 hD2 hP2 hF2=>⟨rfl,d2,hD2,hP2,hF.onto hF2 hF.size⟩
  rintro⟨lim1,_⟩ w2 ⟨d1,hD1,hP1,hF1⟩
  have hn1:d1.size=n:=by rw[hP1.1];exact hn
  have hB1:=hB.perm (by omega) hP1
  dsimp only
  refine zpY hD1 hn1.symm hmax (by omega) hb λw3 pv hint hp1 hp2 hD1' hF3=>⟨_,_,rfl,?_⟩
  have hF3:=hF1.onto hF3 hF1.size
  refine zl.cut (λ(st:Int×Int×Unit) w'=>∃(p:Nat) (h:Int) (d2:Array Int),st=((p:Int),h,())/\a<=p/\p<b/\Dtw w' g rest d2/\Go.Sort.PermIn a b d1 d2/\Fr w.heap.size (·=g) w w') ?_ ?_
  ·refine zm (λ_=>?_) (λ_=>⟨pv,hint,d1,rfl,hp1,hp2,hD1',Go.Sort.permIn_refl d1 a b,hF3⟩)
   refine znJ hD1' hn1.symm hmax (by omega) hb λw4 hD4 hF4=>⟨rfl,?_⟩
   have e1:IntKind.i64.wrap ((b:Int)-1)=((b-1:Nat):Int):=wr64 (by omega) (by omega)
   have e2:IntKind.i64.wrap ((pv:Int)-(a:Int))=((pv-a:Nat):Int):=wr64 (by omega) (by omega)
   have e3:IntKind.i64.wrap (((b-1:Nat):Int)-((pv-a:Nat):Int))=((b-1-(pv-a):Nat):Int):=wr64 (by omega) (by omega)
   rw[e1,e2,e3]
   exact⟨b-1-(pv-a),1,_,rfl,by omega,by omega,hD4,Go.Sort.reverseRange_holds d1 a b hab (by omega),hF3.onto hF4 hF3.size⟩
  rintro _ w4 ⟨p,hi,d2,rfl,hp3,hp4,hD2,hP2,hF4⟩
  have hn2:d2.size=n:=by rw[hP2.1];exact hn1
  have hB2:=hB1.perm (by omega) hP2
  have hP02:=Go.Sort.permIn_trans _ _ _ a b hP1 hP2
  dsimp only
  refine zl.cut (λ_ w'=>∃d3,Dtw w' g rest d3/\Go.Sort.PermIn a b d2 d3/\Fr w.heap.size (·=g) w w') ?_ ?_
  ·have same:∃d3,Dtw w4 g rest d3/\Go.Sort.PermIn a b d2 d3/\Fr w.heap.size (·=g) w w4:=⟨d2,hD2,Go.Sort.permIn_refl d2 a b,hF4⟩
   refine zo (λ_=>zo (λ_=>zm (λ_=>?_) (λ_=>same)) (λ_=>same)) (λ_=>same)
   refine znF hD2 hn2.symm hmax (by omega) hb λw5 hD5 hF5=>⟨_,rfl,?_⟩
   obtain⟨p1,p2⟩:=Go.Sort.partialInsertionSort_holds Go.Sort.swo_ltInt d2 a b (by omega) (by omega) hB2
   refine zo (λhs=>?_) (λ_=>⟨_,hD5,p1,hF4.onto hF5 hF4.size⟩)
   obtain⟨q1,q2⟩:=hC _ (Go.Sort.permIn_trans _ _ _ a b hP02 p1) (p2 hs)
   exact hR w5 _ hD5 q1 q2 (hF4.onto hF5 hF4.size)
  rintro _ w5 ⟨d3,hD3,hP3,hF5⟩
  have hn3:d3.size=n:=by rw[hP3.1];exact hn2
  have hB3:=hB2.perm (by omega) hP3
  have hP03:=Go.Sort.permIn_trans _ _ _ a b hP02 hP3
  have hC3:∀D,Go.Sort.PermIn a b d3 D->Go.Sort.SortedIn ltI a b D->Go.Sort.PermIn a0 b0 d0 D/\Go.Sort.SortedIn ltI a0 b0 D:=λD h1 h2=>hC D (Go.Sort.permIn_trans _ _ _ a b hP03 h1) h2
  refine zl.cut (λ(st:Int×Unit) w'=>st=((a:Int),())/\Dtw w' g rest d3/\Fr w.heap.size (·=g) w w') ?_ ?_
  ·refine zf (λh=>?_) (λh=>⟨rfl,hD3.drew,hF5.drew⟩)
   have ha0:0<a:=by omega
   have e1:IntKind.i64.wrap ((a:Int)-1)=((a-1:Nat):Int):=wr64 (by omega) (by omega)
   rw[e1]
   refine hD3.drew.at rfl (by omega) hn3.symm (hD3.drew.at rfl (by omega) hn3.symm (yz ⟨_,rfl,?_⟩))
   refine zF (zo (λ_=>⟨rfl,hD3.drew,hF5.drew⟩) (λhl=>?_))
   refine zoM hD3.drew hn3.symm hmax (by omega) hb hp3 hp4 λw6 hD6 hF6=>⟨_,rfl,?_⟩
   obtain⟨r1,r2,r3,r4,r5⟩:=Go.Sort.round_eq (lt:=ltI) Go.Sort.swo_ltInt (Go.Sort.partitionEqual_holds ltI) ha0 hp3 hp4 (by omega) hB3 hl (Prod.eta _).symm
   exact hnext (b-(Go.Sort.partitionEqual ltI d3 a b p).1) _ _ (by omega) ⟨_,b,lim1,wb,wp,_,rfl,rfl,by omega,r2,hb,hD6,by rw[r3];exact hn3,r4,λD h1 h2=>by
    obtain⟨s1,s2⟩:=r5 D h1 h2
    exact hC3 D s1 s2,hF5.drew.onto hF6 hF5.drew.size⟩
  rintro _ w6 ⟨rfl,hD6,hF6⟩
  dsimp only
  refine zsF hD6 hn3.symm hmax (by omega) hb hp3 hp4 λw7 hD7 hF7=>⟨_,_,rfl,?_⟩
  have hF7:=hF6.onto hF7 hF6.size
  obtain⟨r1,r2,r3,r4,r5,r6,r7⟩:=Go.Sort.round_part (lt:=ltI) Go.Sort.swo_ltInt (Go.Sort.partition_holds ltI) hp3 hp4 (by omega) hB3 (mid:=(Go.Sort.partition ltI d3 a b p).1) (ap:=(Go.Sort.partition ltI d3 a b p).2.1) (d4:=(Go.Sort.partition ltI d3 a b p).2.2) rfl
  generalize (Go.Sort.partition ltI d3 a b p).1=mid at r1 r2 r4 r5 r6 r7⊢
  generalize (Go.Sort.partition ltI d3 a b p).2.1=ap
  generalize (Go.Sort.partition ltI d3 a b p).2.2=d4 at hD7 r3 r4 r5 r6 r7
  have hn4:d4.size=n:=by rw[r3];exact hn3
  have e1:IntKind.i64.wrap ((mid:Int)+1)=((mid+1:Nat):Int):=wr64 (by omega) (by omega)
  dsimp only[zB,Go.Gk.Sl.zw,zi,zu,zb,zh];rw[e1]
  refine zf (λ_=>?_) (λ_=>?_)
  ·refine ih a mid lim1 w7 d4 _ (by omega) hD7 hn4.symm hmax r1 (by omega) r4 λw8 d8 hD8 hP8 hS8 hF8=>⟨rfl,?_⟩
   obtain⟨t1,t2⟩:=r6 d8 hP8 hS8
   exact hnext (b-(mid+1)) _ _ (by omega) ⟨mid+1,b,lim1,_,_,d8,rfl,rfl,by omega,by omega,hb,hD8,by rw[hP8.1];exact hn4,t1,λD h1 h2=>by
    obtain⟨s1,s2⟩:=t2 D h1 h2
    exact hC3 D s1 s2,hF7.onto hF8 hF7.size⟩
  ·refine ih (mid+1) b lim1 w7 d4 _ (by omega) hD7 hn4.symm hmax (by omega) hb r5 λw8 d8 hD8 hP8 hS8 hF8=>⟨rfl,?_⟩
   obtain⟨t1,t2⟩:=r7 d8 hP8 hS8
   exact hnext (mid-a) _ _ (by omega) ⟨a,mid,lim1,_,_,d8,rfl,rfl,by omega,r1,by omega,hD8,by rw[hP8.1];exact hn4,t1,λD h1 h2=>by
    obtain⟨s1,s2⟩:=t2 D h1 h2
    exact hC3 D s1 s2,hF7.onto hF8 hF7.size⟩
end
section
variable {w:World} {R:VWP}
theorem zsN(hR:R (.tuple #[]) w):cR 60 #[.slice none 0 0] w R:=by
 refine za.of (yU ⟨none,0,0⟩ R w ?_) λ_ _ h=>h
 unfold yc
 have e0:IntKind.u64.wrap (((⟨none,0,0⟩:Sl).l:Nat):Int)=((0:Nat):Int):=by decide
 rw[e0]
 refine zli (x:=0) (by omega) λL _ _=>⟨_,rfl,?_⟩
 refine za.of (ye ⟨none,0,0⟩ 0 0 L _ w ?_) λ_ _ h=>h
 refine zk.ghost (λ_ st w'=>st=((0:Int),(0:Int),(L:Int),true,true,())/\w'=w) 0 ⟨rfl,rfl⟩ ?_
 rintro _ _ w ⟨rfl,rfl⟩ next _
 refine zD (by show decide (IntKind.i64.wrap ((0:Int)-0)<=12)=true;decide) ?_
 refine za.of (yp ⟨none,0,0⟩ 0 0 _ w ?_) λ_ _ h=>h
 refine zk.ghost (λ_ (st:Int×Unit) w'=>st=(1,())/\w'=w) 0 ⟨rfl,rfl⟩ ?_
 rintro _ _ w ⟨rfl,rfl⟩ next _
 exact zE (by decide) ⟨rfl,rfl,hR⟩
theorem zil{r:Sl}{T:List Int}(h:Own w 22 1 r (T.map (Value.int .u32)))(hmax:T.length<=35184372088832)
  (hR:∀(A:List Int) w',Own w' 22 1 r (A.map (Value.int .u32))->A.Perm T->A.Pairwise (·<=·)->Fr w.heap.size (λk=>r.a=some (blk k)) w w'->R (.tuple #[]) w') :
  cR 60 #[.slice r.a r.l r.c] w R:=by
 obtain⟨h0,hc⟩:=h
 rw[List.length_map,Nat.mul_one]at h0
 rcases hc with rfl | ⟨g,cs,ha,hB,h1,h2,h3,h4⟩
 ·have hT:T=[]:=List.eq_nil_of_length_eq_zero h0
  subst hT
  exact zsN (hR [] w (Own.nil _ _ _) (List.Perm.refl _) List.Pairwise.nil (Fr.refl _ _ _))
 ·obtain⟨ra,rl,rc⟩:=r
  dsimp only at h0 ha h1 h2 h3 h4
  subst ha
  have hD:Dtw w g (cs.drop rl) T.toArray:=by
   unfold Dtw
   rw[Nat.mul_one]at h4
   rw[List.toList_toArray,<-h4,List.take_append_drop]
   exact hB
  refine za.of (yU ⟨some (blk g),rl,rc⟩ R w ?_) λ_ _ h=>h
  unfold yc
  dsimp only
  rw[zpp (x:=rl) (by omega)]
  refine zli (by omega) λL _ _=>⟨_,rfl,?_⟩
  have hp:=zsB (g:=g) (n:=rl) (c:=rc) (rest:=cs.drop rl) rl 0 rl (L:Int) w T.toArray (λv w'=>v =.tuple #[]/\R (.tuple #[]) w') (by omega) hD (by simpa using h0.symm) (by omega) (by omega) (Nat.le_refl _) (.inl rfl) λw' d' hD' hP hS hF=>⟨rfl,?_⟩
  ·exact hp
  ·have hsz:d'.size=rl:=by rw[hP.1];simpa using h0
   refine hR d'.toList w' ⟨by rw[List.length_map,Nat.mul_one];simpa using hsz,.inr ⟨g,_,rfl,hD',h1,h2,?_,?_⟩⟩ ?_ ?_ (hF.mono (Nat.le_refl _) λk _ hk=>by rw[hk])
   ·rw[List.length_append,List.length_map,List.length_drop,h3,Nat.mul_one,Array.length_toList,hsz]
    omega
   ·rw[List.take_left' (by rw[List.length_map,Array.length_toList,hsz,Nat.mul_one])]
   ·have:=hP.2.2
    rw[Array.toList_extract,Array.toList_extract,List.extract_eq_take_drop,List.extract_eq_take_drop]at this
    simp only[List.drop_zero,Nat.sub_zero]at this
    rwa[List.take_of_length_le (by rw[Array.length_toList];omega),List.take_of_length_le (by omega)]at this
   ·rw[List.pairwise_iff_getElem]
    intro i j hi hj hij
    rw[Array.length_toList]at hi hj
    have:=hS i j (Nat.zero_le _) hij (by omega)
    rw[getElem!_pos d' i hi,getElem!_pos d' j hj]at this
    have:=of_decide_eq_false this
    simp only[Array.getElem_toList]
    omega
theorem zt2{P:Program}{t e:TypeId}{sz bytes B:Nat}(he:YT P t e sz bytes){w:World}{s:Sl}{xs:List Value}(h:Own w e sz s xs)(hB0:B<=w.heap.size)(hF:zz B s){vs:List Value}(hvs:vs.length=sz)(hv:∀u∈vs,u.oneCell'=true){b c:Nat}{T:TypeId}
  (hB:Blk w b T vs) (h63:s.l+1<=9223372036854775807) (hbytes:(s.l+1)*bytes<=140737488355328) {k:Sl->World->Prop}
  (hk:∀r w',Own w' e sz r (xs++vs)->Below B w w'->zz B r->k r w'):zp P t (.slice s.a s.l s.c) (.slice (some (blk b)) 1 c) w k:=by
 refine ZX he h (news:=vs) (by omega) (λj u hj=>hB.cell hj) hv h63 hbytes λr w' h1 hl' hg=>?_
 rcases hg with⟨_,_,h3⟩ | ⟨b',h3,h4,h5⟩
 ·rw[h3]at hl';omega
 ·have hbb:B<=b':=by
   rcases h4 with h4 |h4
   ·exact hF _ h4
   ·omega
  exact hk r w' h1 (yf h5 hbb hB0) (λa ha=>by rw[h3]at ha;cases ha;exact hbb)
end
end Go.Proofs
namespace Go.Gk
theorem zk.two{α β:Type}{body:α×β×Int×Unit->World->(α×β×Int×Unit->World->Prop)->Prop}{w:World}{a0:α}{b0:β}(n:Nat)(hn:n<=9223372036854775807)(I:Nat->α->β->World->Prop)(h0:I 0 a0 b0 w)
  (h:∀k a b w,k<=n->I k a b w->∀next:α×β×Int×Unit->World->Prop,(∀a' b' w',k<n->I (k+1) a' b' w'->next (a',b',IntKind.i64.wrap ((k:Int)+1),()) w')->body (a,b,(k:Int),()) w next):zk body (a0,b0,(0:Int),()) w:=by
 refine zk.ghost (λj s w=>∃k:Nat,k<=n/\j=n-k/\∃a b,s=(a,b,(k:Int),())/\I k a b w) n ⟨0,Nat.zero_le _,rfl,a0,b0,rfl,h0⟩ ?_
 rintro _ _ w ⟨k,hk,rfl,a,b,rfl,hI⟩ next hnext
 refine h k a b w hk hI next λa' b' w' hlt hI'=>?_
 rw[zr (by omega)]
 exact hnext (n-(k+1)) _ _ (by omega) ⟨k+1,by omega,rfl,a',b',rfl,hI'⟩
end Go.Gk
namespace Go.Proofs
open Go.Gk Go.RowKit Go.Gm Go.Gr Go.Dm
section
variable {w:World} {R:VWP}
theorem zrB{s t:Sl}{l m:List Int}(hs:IsS (Value.int .u32) w s l)(ht:IsS (Value.int .u32) w t m)(hR:∀w',Below w.heap.size w w'->R (.bool (decide (l=m))) w'):cR 159 #[.slice s.a s.l s.c,.slice t.a t.l t.c] w R:=by
 refine za.of (zam s t R w ?_) λ_ _ h=>h
 have h1:=hs.len
 have h2:=ht.len
 have no:l≠m->∀{w'},Below w.heap.size w w'->R (.bool false) w':=λh {w'} hb=>by
  have:=hR w' hb
  rwa[decide_eq_false h]at this
 refine zt (λe=>no (λh=>e (by rw[h1,h2,h])) (Below.refl _ _)) (λe=>?_)
 refine zk.count l.length hs.bound (λk w'=>Below w.heap.size w w'/\∀j (q1:j<l.length) (q2:j<m.length),j<k->l[j]=m[j]) ⟨Below.refl _ _,λj _ _ h=>by omega⟩ ?_
 rintro k w1 hk ⟨hb,hj⟩ next hnext
 refine zf (λh=>?_) (λh=>?_)
 ·have hlt:k<l.length:=by dsimp only at h;omega
  have hlm:k<m.length:=by omega
  refine zcK (hs.below hb.drew) hlt (zcK (ht.below hb.drew) hlm (zt (λe=>no (λg=>e (by subst g;rfl)) hb.drew) (λe=>hnext _ hlt ⟨hb.drew,λj q1 q2 hjk=>?_⟩)))
  by_cases ej:j=k
  ·subst ej;exact e
  ·exact hj j q1 q2 (by omega)
 ·have hk':k=l.length:=by dsimp only at h;omega
  have:=hR w1 hb
  rwa[decide_eq_true (List.ext_getElem (by omega) λj q1 q2=>hj j q1 q2 (by omega))]at this
theorem zdw{X:Nat->Prop}{w0 w w':World}(hb:Below w0.heap.size w0 w)(h:Fr w.heap.size X w w')(hX:∀k,X k->w0.heap.size<=k):Below w0.heap.size w0 w':=
 ⟨h.os.trans hb.os,h.tape.trans hb.tape,h.output.trans hb.output,Nat.le_trans hb.size h.size,λk hk=>(h.block k (by have:=hb.size;omega) λx=>absurd (hX k x) (by omega)).trans (hb.block k hk)⟩
theorem zoQ{w0:World}{r q:Sl}{xs ys:List Value}(hr:Own w 22 1 r xs)(hq:Own w 22 1 q ys)(hFr:zz w0.heap.size r)(hap:∀b,r.a=some (blk b)->q.a≠some (blk b))(hb:Below w0.heap.size w0 w)
  {v:Int} {b c:Nat} {T:TypeId} (hB:Blk w b T [.int .u32 v]) (hlen:r.l+1<=5864062014805) {k:Sl->World->Prop}
  (hk:∀r' w',Own w' 22 1 r' (xs++[.int .u32 v])->Own w' 22 1 q ys->zz w0.heap.size r'->(∀b,r'.a=some (blk b)->q.a≠some (blk b))->Below w0.heap.size w0 w'->k r' w') :
  zp Tryz.prog 26 (.slice r.a r.l r.c) (.slice (some (blk b)) 1 c) w k:=by
 refine zcR eU32 hr (vs:=[.int .u32 v]) rfl (λu hu=>by rw[List.mem_singleton.1 hu];rfl) hB (by omega) (by omega) λr' w' b' h1 _ h3 h4 hf=>?_
 have hx:∀k,r.a=some (blk k)->w0.heap.size<=k:=λk h=>hFr _ h
 have hs:=hb.size
 refine hk r' w' h1 (hf.own hq λb hqb hrb=>hap b hrb hqb) (λa ha=>?_) (λb1 hb1 hq1=>?_) (zdw hb hf hx)
 ·rw[h3]at ha
  cases ha
  rcases h4 with h4 |h4
  ·exact hx _ h4
  ·show w0.heap.size<=b';omega
 ·rw[h3]at hb1
  have hb1:b'=b1:=by cases hb1;rfl
  subst hb1
  rcases h4 with h4 |h4
  ·exact hap _ h4 hq1
  ·have:b'<w.heap.size:=(hq.lt hq1).2
   omega
theorem zhh(al:List Ag):∀k,(valN al k).length=(k+1) / 2
 | 0=>rfl
 |k+1=>by
  have ih:=zhh al k
  simp only[valN]
  split
  ·rw[List.length_append,ih,List.length_singleton];omega
  ·omega
theorem Yb(al:List Ag):∀k,(parN al k).length=k / 2
 | 0=>rfl
 |k+1=>by
  have ih:=Yb al k
  simp only[parN]
  split
  ·omega
  ·rw[List.length_append,ih,List.length_singleton];omega
theorem zma(al:List Ag):∀k j,j<(k+1) / 2->(valN al k).getD j 0=(al.getD (2*j) ag0).2.1
 | 0,j,h=>by omega
 |k+1,j,h=>by
  have ih:=zma al k j
  have hl:=zhh al k
  simp only[valN]
  split
  ·by_cases e:j<(k+1) / 2
   ·rw[<-ih e,List.getD_eq_getElem?_getD,List.getElem?_append_left (by omega),List.getD_eq_getElem?_getD]
   ·have:j=(k+1) / 2:=by omega
    have h2:2*j=k:=by omega
    rw[h2,List.getD_eq_getElem?_getD,List.getElem?_append_right (by omega),hl,this,Nat.sub_self]
    rfl
  ·exact ih (by omega)
theorem zfu(al:List Ag):∀k j,j<k / 2->(parN al k).getD j 0=(al.getD (2*j+1) ag0).2.1
 | 0,j,h=>by omega
 |k+1,j,h=>by
  have ih:=zfu al k j
  have hl:=Yb al k
  simp only[parN]
  split
  ·exact ih (by omega)
  ·by_cases e:j<k / 2
   ·rw[<-ih e,List.getD_eq_getElem?_getD,List.getElem?_append_left (by omega),List.getD_eq_getElem?_getD]
   ·have:j=k / 2:=by omega
    have h2:2*j+1=k:=by omega
    rw[h2,List.getD_eq_getElem?_getD,List.getElem?_append_right (by omega),hl,this,Nat.sub_self]
    rfl
theorem zhj{x:Ins}{al:List Ag}(hI:IsAg w x.2.2.2.1 al)(h24:24*al.length<=140737488351232)
  (hR:∀r q w',Own w' 22 1 r ((valN al al.length).map (Value.int .u32))->Own w' 22 1 q ((parN al al.length).map (Value.int .u32))->zz w.heap.size r->zz w.heap.size q->Below w.heap.size w w'->
   R (.tuple #[.slice r.a r.l r.c,.slice q.a q.l q.c]) w'):cR 102 #[inA x] w R:=by
 refine za.of (zjd x R w ?_) λ_ _ h=>h
 refine zn λw1 hB b1 z1=>?_
 have hB:Blk w1 w.heap.size 50 (inV x):=hB
 have hlen:=hI.len
 refine hB.rS (n:=3) (x:=x.2.2.2.1) rfl ?_
 refine zk.two al.length hI.bound (λk r q w'=>(Own w' 22 1 r ((valN al k).map (Value.int .u32))/\Own w' 22 1 q ((parN al k).map (Value.int .u32)))/\(zz w1.heap.size r/\zz w1.heap.size q)/\(∀b,r.a=some (blk b)->q.a≠some (blk b))/\Below w1.heap.size w1 w')
  ⟨⟨Own.nil _ _ _,Own.nil _ _ _⟩,⟨λa ha=>(by cases ha),λa ha=>(by cases ha)⟩,λb hb=>(by cases hb),Below.refl _ _⟩ ?_
 rintro k r q w3 hk ⟨⟨hr,hq⟩,⟨hFr,hFq⟩,hap,hb⟩ next hnext
 have s1:=b1.size
 refine zf (λh=>?_) (λh=>?_)
 ·have hlt:k<al.length:=by dsimp only at h;omega
  refine zl.cut (λst w'=>(Own w' 22 1 st.1 ((valN al (k+1)).map (Value.int .u32))/\Own w' 22 1 st.2.1 ((parN al (k+1)).map (Value.int .u32)))/\(zz w1.heap.size st.1/\zz w1.heap.size st.2.1)/\(∀b,st.1.a=some (blk b)->st.2.1.a≠some (blk b))/\Below w1.heap.size w1 w') ?_ ?_
  ·refine zir (hI.below (b1.on hb)) hlt (box3 rfl λw4 h4 b4 z4=>?_)
   have hrl:r.l=(k+1) / 2:=by have:=hr.1;have h2:=zhh al k;rw[List.length_map]at this;omega
   have hql:q.l=k / 2:=by have:=hq.1;have h2:=Yb al k;rw[List.length_map]at this;omega
   have hm:Int.tmod (k:Int) 2=((k % 2:Nat):Int):=(Int.ofNat_tmod k 2).symm
   refine zm (λe=>?_) (λe=>?_)
   ·have e':k % 2=0:=by dsimp only at e;omega
    refine h4.rI (n:=1) rfl (zn λw5 h5 b5 z5=>?_)
    have b35:=b4.on b5
    refine zoQ (hr.below b35) (hq.below b35) hFr hap (hb.on b35) (v:=al[k].2.1) h5 (by omega) λr' w6 g1 g2 g3 g4 g5=>⟨⟨?_,?_⟩,⟨g3,hFq⟩,g4,g5⟩
    ·simp only[valN]
     rw[if_pos e',List.map_append,zs hlt]
     exact g1
    ·simp only[parN]
     rw[if_pos e']
     exact g2
   ·have e':¬k % 2=0:=by dsimp only at e;omega
    refine h4.rI (n:=1) rfl (zn λw5 h5 b5 z5=>?_)
    have b35:=b4.on b5
    refine zoQ (hq.below b35) (hr.below b35) hFq (λb h1 h2=>hap b h2 h1) (hb.on b35) (v:=al[k].2.1) h5 (by omega) λq' w6 g1 g2 g3 g4 g5=>⟨⟨?_,?_⟩,⟨hFr,g3⟩,λb h1 h2=>g4 b h2 h1,g5⟩
    ·simp only[valN]
     rw[if_neg e']
     exact g2
    ·simp only[parN]
     rw[if_neg e',List.map_append,zs hlt]
     exact g1
  ·rintro⟨r',q',_⟩ w' h
   exact hnext r' q' w' hlt h
 ·have hk:k=al.length:=by dsimp only at h;omega
  subst hk
  exact hR r q w3 hr hq (λa ha=>by have:=hFr a ha;omega) (λa ha=>by have:=hFq a ha;omega) (b1.on hb)
end
abbrev hmK:List BK:=[.int .i64,.int .i64,.int .i64,.bool]
abbrev hmV(h:Hm):Value:=.agg #[.int .i64 h.1,.int .i64 h.2.1,.int .i64 h.2.2.1,.bool h.2.2.2.1]
abbrev hmL(h:Hm):List Value:=[.int .i64 h.1,.int .i64 h.2.1,.int .i64 h.2.2.1,.bool h.2.2.2.1]
def hm0:Hm:=(0,0,0,false,())
abbrev IsHm(w:World)(r:Nat)(M:List (Int×Hm)):Prop:=IsMq w r hmV M
theorem zpo:Tryz.prog.underlying 80=some (.map 22 78):=by kernel_rfl
theorem ztG:∃i,Tryz.prog.info? 78=some i/\i.zero=some (hmV hm0):=⟨Tryz.t78,by kernel_rfl,rfl⟩
section
variable {w:World} {r:Nat} {M:List (Int×Hm)} {id:Int}
theorem zsm(h:IsHm w r M){φ:Hm->Bool->Prop}(hφ:φ ((zW M id).getD hm0) (zW M id).isSome):zhr Tryz.prog 80 (.map (some r)) (.int .u32 id) [.int .i64,.int .i64,.int .i64,.bool] w φ:=
 zpO (ks:=hmK) (L:=M) (d:=hm0) zpo uU32 ztG h hφ
theorem zsn(h:IsHm w r M){φ:Hm->Prop}(hφ:φ ((zW M id).getD hm0)):zlG Tryz.prog 80 (.map (some r)) (.int .u32 id) [.int .i64,.int .i64,.int .i64,.bool] w φ:=
 zrk (ks:=hmK) (L:=M) (d:=hm0) zpo uU32 ztG h hφ
end
abbrev bdV(x:Mo)(n:Nat)(v:Fv)(hr gb tb:Nat):List Value:=
 [.int .u32 x.1,.int .u32 x.2.1,.slice x.2.2.1.a x.2.2.1.l x.2.2.1.c,.int .i64 (n:Int),.int .u32 v.1,.int .i64 v.2.1,.slice v.2.2.1.a v.2.2.1.l v.2.2.1.c,.slice v.2.2.2.1.a v.2.2.2.1.l v.2.2.2.1.c,.int .i64 v.2.2.2.2.1,.map (some hr),.pointer (some (Gk.blk gb)),.pointer (some (Gk.blk tb))]
structure IsBd (w:World) (bb:Nat) (x:Mo) (pl:List PI) (fl:List FnL) (n:Nat):Prop where
 ex:∃(v:Fv) (hr gb tb:Nat) (M:List (Int×Hm)) (ov:Nat->Option Nat) (dp:Nat->Int),Blk w bb 83 (bdV x n v hr gb tb)/\IsPl w x.2.2.1 pl/\IsFn w v (fx fl n)/\IsHm w hr M/\(∀id,zW M id=hmO pl fl id)/\IsG w gb (nxF pl fl n)/\Dt w tb (nxF pl fl n) ov dp
section
variable {w w':World} {R:VWP} {bb n:Nat} {x:Mo} {pl:List PI} {fl:List FnL} {id:Int}
theorem IsBd.below(h:IsBd w bb x pl fl n)(hb:Below w.heap.size w w'):IsBd w' bb x pl fl n:=by
 obtain⟨v,hr,gb,tb,M,ov,dp,h1,h2,h3,h4,h5,h6,h7⟩:=h.ex
 exact⟨v,hr,gb,tb,M,ov,dp,h1.below hb,h2.below hb,h3.below hb,h4.below hb,h5,h6.below hb,h7.below hb⟩
theorem zeW{v:Fv}{hr gb tb:Nat}(h:Blk w bb 83 (bdV x n v hr gb tb)){φ:Sl->Prop}(hφ:φ v.2.2.2.1):ldS w (((Gk.blk bb).add 4).add 3) φ:=by
 rw[zy]
 exact h.rS (n:=7) (x:=v.2.2.2.1) rfl hφ
theorem zoL(h:IsBd w bb x pl fl n)(hR:∀w',Below w.heap.size w w'->R (.tuple #[hmV ((hmO pl fl id).getD hm0),.bool (ownP pl fl n id)]) w') :
  cR 101 #[.pointer (some (Gk.blk bb)),.int .u32 id] w R:=by
 obtain⟨v,hr,gb,tb,M,ov,dp,hB,hN,hF,hM,hl,hG,hD⟩:=h.ex
 refine za.of (zh5 _ id R w ?_) λ_ _ h=>h
 refine zn λw1 hC1 b1 z1=>?_
 have hC1:Blk w1 w.heap.size 78 (hmL hm0):=hC1
 refine zj rfl ⟨some hr,(hB.below b1).cell (n:=9) rfl,zsm (hM.below b1) ?_⟩
 rw[hl id]
 generalize hh:(hmO pl fl id).getD hm0=h at hR
 refine box4 rfl λw6 h6 b6 z6=>?_
 have hC6:=(hC1.below b6).drew
 have hd6:=h6.drew
 have bd6:Below w.heap.size w w6.drew:=(b1.on b6).drew
 have fin:∀b,b=ownP pl fl n id->Wr w6.drew (Gk.blk w.heap.size)/\Nw (w6.drew.setCell (Gk.blk w.heap.size) (.int .i64 h.1)) λw7=>Wr w7 ((Gk.blk w.heap.size).add 1)/\Nw (w7.setCell ((Gk.blk w.heap.size).add 1) (.int .i64 h.2.1)) λw8=>
   Wr w8 ((Gk.blk w.heap.size).add 2)/\Nw (w8.setCell ((Gk.blk w.heap.size).add 2) (.int .i64 h.2.2.1)) λw9=>Wr w9 ((Gk.blk w.heap.size).add 3)/\Nw (w9.setCell ((Gk.blk w.heap.size).add 3) (.bool h.2.2.2.1)) λw10=>
   ldI w10 ((Gk.blk w.heap.size).add 0) .i64 λx13=>ldI w10 ((Gk.blk w.heap.size).add 1) .i64 λx14=>ldI w10 ((Gk.blk w.heap.size).add 2) .i64 λx15=>ldB w10 ((Gk.blk w.heap.size).add 3) λx16=>
   R (.tuple #[.agg #[.int .i64 x13,.int .i64 x14,.int .i64 x15,.bool x16],.bool b]) w10:=λb hb=>by
  subst hb
  exact st4 hC6 rfl λw10 h10 c10=>h10.rI (n:=0) rfl (h10.rI (n:=1) rfl (h10.rI (n:=2) rfl (h10.rB (n:=3) rfl (hR w10 (c10.below bd6 (Nat.le_refl _))))))
 refine hd6.rI (n:=0) rfl (hd6.rI (n:=1) rfl (hd6.rI (n:=2) rfl (hd6.rB (n:=3) rfl ?_)))
 cases ho:hmO pl fl id with
 |none=>
  refine zE rfl (fin false ?_)
  unfold ownP
  rw[ho]
 |some h'=>
  have e:h'=h:=by rw[ho]at hh;exact hh
  subst e
  have hown:ownP pl fl n id=(h'.1==(n:Int)&&!h'.2.2.2.1):=by unfold ownP;rw[ho]
  refine zD rfl (hd6.rB (n:=3) rfl (zF (zo (λe=>fin false ?_) (λe=>?_))))
  ·rw[hown,show h'.2.2.2.1=true from e]
   simp
  ·have e:h'.2.2.2.1=false:=e
   have hB6:=((hB.below b1).below b6).drew
   refine hd6.rI0 rfl (zj rfl (hB6.rI (n:=3) rfl ?_))
   refine st4 hC6 rfl λw10 h10 c10=>⟨?_,?_,?_⟩
   ·refine(c10.blk hB6 λq=>?_).cell (n:=3) rfl
    have:=hB.lt
    omega
   ·refine(c10.blk hd6 λq=>?_).cell0 rfl
    have:=b1.size
    omega
   ·refine h10.rI (n:=0) rfl (h10.rI (n:=1) rfl (h10.rI (n:=2) rfl (h10.rB (n:=3) rfl ?_)))
    have:=hR w10 (c10.below bd6 (Nat.le_refl _))
    rw[hown,e]at this
    simpa using this
theorem zq5{h:Hm}(hh:hmO pl fl id=some h)(hn:h.1=(n:Int)):h.2.1=ovI (bkO (fx fl n).bk (mkA pl id))/\h.2.2.1=mkA pl id:=by
 unfold hmO at hh
 cases hf:fnO fl (mkA pl id) with
 |none=>rw[hf]at hh;cases hh
 |some m=>
  rw[hf,Option.map_some,Option.some.injEq]at hh
  have:m=n:=by rw[<-hh]at hn;dsimp only at hn;omega
  subst this
  rw[<-hh]
  exact⟨rfl,rfl⟩
theorem zjw(h:ownP pl fl n id=true):∃hh,hmO pl fl id=some hh/\hh.1=(n:Int)/\hh.2.2.2.1=false:=by
 unfold ownP at h
 split at h
 ·rename_i hh e
  rw[Bool.and_eq_true,beq_iff_eq]at h
  exact⟨hh,e,h.1,by simpa using h.2⟩
 ·cases h
theorem zig{nx:List (List Nat)}(hx:NxOk nx)(k:Nat):Yk nx (k:Int)=true↔zS nx (-1) k:=by
 unfold Yk
 rw[Bool.and_eq_true,decide_eq_true_eq,Int.toNat_natCast,List.contains_iff_mem,zfP hx.rows hx.pos]
 exact⟨λh=>h.2,λh=>⟨by omega,h⟩⟩
theorem zr8{od:List Nat}{ov:Nat->Option Nat}{a b:Nat}:DomP od ov (a:Int) (b:Int)↔b∈od/\Anc ov a b:=by
 unfold DomP
 constructor
 ·rintro⟨a',b',e1,e2,h⟩
  have e1:a=a':=by omega
  have e2:b=b':=by omega
  subst e1 e2
  exact h
 ·exact λh=>⟨a,b,rfl,rfl,h⟩
theorem zm7{k:Nat}{p:Int}(h:IsBd w bb x pl fl n)(hR:∀w',Below w.heap.size w w'->R (.bool (mayU pl fl (nxF pl fl n) n id k p)) w') :
  cR 160 #[.pointer (some (Gk.blk bb)),.int .u32 id,.int .i64 (k:Int),.int .i64 p] w R:=by
 refine za.of (zh4 _ id (k:Int) p R w ?_) λ_ _ h=>h
 refine zoL h λw1 b1=>⟨(hmO pl fl id).getD hm0,ownP pl fl n id,rfl,?_⟩
 obtain⟨v,hr,gb,tb,M,ov,dp,hB,hN,hF,hM,hl,hG,hD⟩:=(h.below b1).ex
 refine box4 rfl λw6 h6 b6 z6=>?_
 have b06:=b1.on b6
 have yes:mayU pl fl (nxF pl fl n) n id k p=true->∀{w'},Below w.heap.size w w'->R (.bool true) w':=λe {w'} hb=>by
  have:=hR w' hb
  rwa[e]at this
 refine zl.cut (λ(_:Unit) w8=>Below w6.heap.size w6 w8/\∃hh,hmO pl fl id=some hh/\hh.1=(n:Int)/\ownP pl fl n id=true/\¬hh.2.1<0/\zS (nxF pl fl n) (-1) k) ?_ ?_
 ·refine zF (zo (λe=>?_) (λe=>yes (by unfold mayU;rw[if_neg (by rw[show ownP pl fl n id=false from e];simp)]) b06))
  have e:ownP pl fl n id=true:=e
  obtain⟨hh,ho,h1,h2⟩:=zjw e
  obtain⟨h3,h4⟩:=zq5 ho h1
  rw[ho]at h6
  rw[ho]
  refine h6.rI (n:=1) rfl (zf (λhlt=>yes ?_ b06) (λhge=>?_))
  ·have hlt:hh.2.1<0:=hlt
   rw[h3]at hlt
   unfold mayU
   split
   ·cases hbk:bkO (fx fl n).bk (mkA pl id) with
    |none=>rfl
    |some q=>rw[hbk]at hlt;exact absurd hlt (by show ¬(q:Int)<0;omega)
   ·rfl
  ·have hge:¬hh.2.1<0:=hge
   have hB6:=hB.below b6
   refine zj rfl ⟨some (Gk.blk gb),hB6.cell (n:=10) rfl,GP.reached (nx:=nxF pl fl n) (.inr ⟨gb,rfl,hD.ok,hG.below b6⟩) ⟨_,rfl,?_⟩⟩
   refine zF (zo (λhr=>⟨Below.refl _ _,hh,rfl,h1,e,hge,(zig hD.ok k).1 hr⟩) (λhr=>yes ?_ b06))
   unfold mayU
   rw[if_neg λq=>?_]
   have:=(zig hD.ok k).2 q.2
   rw[hr]at this
   cases this
 rintro _ w8 ⟨b68,hh,ho,h1,hown,hge,hre⟩
 obtain⟨h3,h4⟩:=zq5 ho h1
 rw[ho]at h6
 have h8:=h6.below b68
 have b08:=b06.on b68
 have hD8:=(hD.below b6).below b68
 obtain⟨q,hq⟩:∃q:Nat,bkO (fx fl n).bk (mkA pl id)=some q:=by
  cases hbk:bkO (fx fl n).bk (mkA pl id) with
  |none=>rw[hbk]at h3;exact absurd (show hh.2.1<0 by rw[h3];decide) hge
  |some q=>exact⟨q,rfl⟩
 have h3:hh.2.1=(q:Int):=by rw[h3,hq];rfl
 have hm:mayU pl fl (nxF pl fl n) n id k p=if q=k then decide (mkA pl id<p) else(by classical exact decide (¬zS (nxF pl fl n) (q:Int) k)):=by
  unfold mayU
  rw[if_pos ⟨hown,hre⟩,hq]
 refine h8.rI (n:=1) rfl (zm (λe=>?_) (λe=>?_))
 ·have e:hh.2.1=(k:Int):=e
  refine h8.rI (n:=2) rfl ?_
  have:=hR w8 b08
  rw[hm,if_pos (by omega),<-h4]at this
  exact this
 ·have e:¬hh.2.1=(k:Int):=e
  have hB8:=((hB.below b6).below b68).drew
  refine zj rfl ⟨some (Gk.blk tb),hB8.cell (n:=11) rfl,h8.drew.rI (n:=1) rfl ?_⟩
  show za _ _ #[_,.int .i64 hh.2.1,_] _ _
  rw[h3]
  have bd:Below w8.heap.size w8 w8.drew:=(Below.refl _ _).drew
  refine zld (hD8.below bd) λb w9 b9 hb=>⟨b,rfl,?_⟩
  have:=hR w9 ((b08.on bd).on b9)
  rw[hm,if_neg (by omega)]at this
  have hdr:b=true↔¬zS (nxF pl fl n) (q:Int) k:=by
   rw[hb,zr8,<-hD8.domR]
   unfold DomR
   constructor
   ·rintro⟨_,h |h⟩
    ·omega
    ·exact h
   ·exact λh=>⟨hre,.inr h⟩
  have e2:b=(by classical exact decide (¬zS (nxF pl fl n) (q:Int) k)):=by
   classical
   rw[Bool.eq_iff_iff,hdr,decide_eq_true_eq]
  rw[e2]
  exact this
end
theorem zjH{P:Program}{fs:List Nat}{n:Nat}{first captured:Array Value}{args:List Value}{w:World}{S:VWP}(hf:fs.contains n=true)(h:za P n (first.toList++(args++captured.toList)).toArray w S) :
  ZH P fs (.func (.func n) first captured) args w S:=by
 unfold ZH
 simp only[hf]
 exact h
def zd9(pl:List PI)(fl:List FnL)(n i:Nat):Int:=if (zL pl i).any (othP pl fl n)=true then 192 else 0
open Classical in
noncomputable def phiU(pl:List PI)(fl:List FnL)(nx:List (List Nat))(n k i:Nat):Int:=
 if (ix pl i).1≠245 then 0 else if ¬(zaf (fx fl n).bk nx k).Perm (parN (ix pl i).2.2.2 (ix pl i).2.2.2.length) then 191 else 0
noncomputable def useU(pl:List PI)(fl:List FnL)(nx:List (List Nat))(n k i:Nat):Int:=
 if (ix pl i).1≠245 then(if (zL pl i).any (λid=>!mayU pl fl nx n id k i)=true then 190 else 0)
 else if (List.range ((ix pl i).2.2.2.length / 2)).any (λj=>!mayU pl fl nx n ((ix pl i).2.2.2.getD (2*j) ag0).2.1 (lbN (fx fl n).bk ((ix pl i).2.2.2.getD (2*j+1) ag0).2.1) (bx (fx fl n).bk (lbN (fx fl n).bk ((ix pl i).2.2.2.getD (2*j+1) ag0).2.1)).2.2)=true then 190
 else 0
theorem znz(pl:List PI)(fl:List FnL)(nx:List (List Nat))(n k i:Nat):fltU pl fl nx n k i=if zd9 pl fl n i≠0 then zd9 pl fl n i else if phiU pl fl nx n k i≠0 then phiU pl fl nx n k i else useU pl fl nx n k i:=by
 unfold fltU zd9 phiU useU
 by_cases h1:(zL pl i).any (othP pl fl n)=true
 ·simp only[if_pos h1]
  rfl
 simp only[if_neg h1]
 by_cases h2:(ix pl i).1≠245
 ·simp only[if_pos h2]
  rfl
 simp only[if_neg h2]
 by_cases h3:¬(zaf (fx fl n).bk nx k).Perm (parN (ix pl i).2.2.2 (ix pl i).2.2.2.length)
 ·simp only[if_pos h3]
  rfl
 ·simp only[if_neg h3]
  rfl
theorem zgX{bk:List Bk3}(hd:(bk.map (·.1)).Nodup){k:Nat}(hk:k<bk.length):lbO bk (bx bk k).1=some k:=by
 refine Yc hk (beq_self_eq_true _) λj hj=>beq_eq_false_iff_ne.2 λe=>?_
 have:=List.pairwise_iff_getElem.1 (List.nodup_iff_pairwise_ne.1 hd) j k (by rw[List.length_map];omega) (by rwa[List.length_map]) hj
 unfold bx at e
 rw[zs (by omega),zs hk]at e
 simp only[List.getElem_map]at this
 exact this e
theorem zfn{bk:List Bk3}{id:Int}{k:Nat}(h:lbO bk id=some k):k<bk.length/\(bx bk k).1=id:=by
 obtain⟨h1,h2,_⟩:=zai h
 exact⟨h1,beq_iff_eq.1 h2⟩
section
variable {w:World} {R:VWP} {bb n i k:Nat} {x:Mo} {pl:List PI} {fl:List FnL}
theorem znv{s:Sl}{l:List (Int×Int×Int)}(h:IsBk w s l){k:Nat}(hk:k<l.length){φ:Int->Prop}(hφ:φ l[k].1) :
  (0<=(k:Int)/\(k:Int)<(s.l:Int))/\zc s.a λa=>ldI w (a.add (Int.toNat (k:Int)*3)) .u32 φ:=by
 obtain⟨a,ha⟩:=h.base hk
 exact⟨⟨by omega,by have:=h.len;omega⟩,zj ha ⟨_,h.cell a ha k hk 0 (by omega),hφ⟩⟩
theorem zl2{s:Sl}{l:List (Int×Int×Int)}(h:IsBk w s l){k:Nat}(hk:k<l.length){φ:Int->Prop}(hφ:φ l[k].2.2) :
  (0<=(k:Int)/\(k:Int)<(s.l:Int))/\zc s.a λa=>ldI w ((a.add (Int.toNat (k:Int)*3)).add 2) .i64 φ:=by
 obtain⟨a,ha⟩:=h.base hk
 exact⟨⟨by omega,by have:=h.len;omega⟩,zj ha ⟨l[k].2.2,by rw[zy];exact h.cell a ha k hk 2 (by omega),hφ⟩⟩
theorem PlOk.at(hp:PlOk pl)(hi:i<pl.length):24*pl[i].2.2.2.length<=140737488351232:=hp.args _ (List.getElem_mem hi)
theorem zqq(hp:PlOk pl)(h:IsBd w bb x pl fl n)(hi:i<pl.length)(hR:∀w',Below w.heap.size w w'->R (.int .i64 (zd9 pl fl n i)) w') :
  cR 124 #[.pointer (some (Gk.blk bb)),.int .i64 (k:Int),.int .i64 (i:Int)] w R:=by
 refine za.of (zg5 _ (k:Int) (i:Int) R w ?_) λ_ _ h=>h
 obtain⟨v,hr,gb,tb,M,ov,dp,hB,hN,hF,hM,hl,hG,hD⟩:=h.ex
 refine zj rfl (hB.rS (n:=2) (x:=x.2.2.1) rfl (yu hN hi λt hI=>?_))
 refine zi7 (x:=mkIn pl[i] t) hI (hp.at hi) λr w1 hr1 _ b1=>⟨r,rfl,?_⟩
 have hids:idsP pl[i].2.1 pl[i].2.2.2=zL pl i:=by unfold zL;rw[yg hi]
 have hr1:Own w1 22 1 r ((zL pl i).map (Value.int .u32)):=by rw[<-hids];exact hr1
 have hS:=hr1.isS
 refine zk.count (zL pl i).length hS.bound (λj w'=>Below w1.heap.size w1 w'/\∀q (h:q<(zL pl i).length),q<j->othP pl fl n (zL pl i)[q]=false) ⟨Below.refl _ _,λq _ h=>by omega⟩ ?_
 rintro j w2 hj ⟨b2,hq⟩ next hnext
 have b02:=b1.on b2
 have hSl:=hS.len
 refine zf (λh=>?_) (λh=>?_)
 ·have hlt:j<(zL pl i).length:=by dsimp only at h;omega
  refine zl.all (zcK (hS.below b2) hlt (zj rfl ⟨some hr,(hB.below b02).cell (n:=9) rfl,zsm (hM.below b02) ?_⟩))
  rw[hl]
  generalize hid:(zL pl i)[j]=id
  refine box4 rfl λw7 h7 b7 z7=>?_
  have go:othP pl fl n id=false->∀{w'},Below w2.heap.size w2 w'->next (IntKind.i64.wrap ((j:Int)+1),()) w':=λho {w'} hb=>hnext w' hlt ⟨b2.on hb,λq h1 h2=>by
   by_cases e:q=j
   ·subst e;rw[hid];exact ho
   ·exact hq q h1 (by omega)⟩
  cases ho:hmO pl fl id with
  |none=>exact zE rfl (go (by unfold othP;rw[ho]) b7.drew)
  |some hh=>
   rw[ho]at h7
   have hoe:othP pl fl n id=(hh.1 !=(n:Int)):=by unfold othP;rw[ho]
   refine zD rfl (h7.drew.rI0 rfl (zj rfl (((hB.below b02).below b7).drew.rI (n:=3) rfl (zt (λe=>?_) (λe=>go ?_ b7.drew)))))
   ·have e:hh.1≠(n:Int):=e
    have:=hR w7.drew (b02.on b7.drew)
    unfold zd9 at this
    rw[if_pos (zgL hlt (by rw[hid,hoe];exact bne_iff_ne.2 e))]at this
    exact this
   ·have e:hh.1=(n:Int):=e
    rw[hoe,e]
    simp
 ·have:=hR w2 b02
  unfold zd9 at this
  rw[zeU λq h1=>hq q h1 (by dsimp only at h;omega)]at this
  exact this
theorem zsE(hp:PlOk pl)(h:IsBd w bb x pl fl n)(hi:i<pl.length)(hR:∀w',Below w.heap.size w w'->R (.int .i64 (phiU pl fl (nxF pl fl n) n k i)) w') :
  cR 125 #[.pointer (some (Gk.blk bb)),.int .i64 (k:Int),.int .i64 (i:Int)] w R:=by
 refine za.of (zh6 _ (k:Int) (i:Int) R w ?_) λ_ _ h=>h
 obtain⟨v,hr,gb,tb,M,ov,dp,hB,hN,hF,hM,hl,hG,hD⟩:=h.ex
 have hix:=yg hi
 refine zj rfl (hB.rS (n:=2) (x:=x.2.2.1) rfl (zco hN hi (zt (λe=>?_) (λe=>?_))))
 ·have:=hR w (Below.refl _ _)
  unfold phiU at this
  rw[if_pos (by rw[hix];exact e)]at this
  exact this
 refine zj rfl (hB.rS (n:=2) (x:=x.2.2.1) rfl (yu hN hi λt hI=>?_))
 refine zhj (x:=mkIn pl[i] t) hI (hp.at hi) λr q w1 _ hq1 _ hFq b1=>⟨r,q,rfl,?_⟩
 have hB1:=hB.below b1
 refine zj rfl ⟨some (Gk.blk gb),hB1.cell (n:=10) rfl,GP.ahead (nx:=nxF pl fl n) (.inr ⟨gb,rfl,hD.ok,hG.below b1⟩) λs w2 hs2 _ b2=>⟨s,rfl,?_⟩⟩
 rw[zb3]at hs2
 generalize hrow:(zM (nxF pl fl n)).getD k []=row at hs2
 have hlabs:zaf (fx fl n).bk (nxF pl fl n) k=row.map λp=>(bx (fx fl n).bk p).1:=by unfold zaf;rw[hrow]
 have hS:=hs2.isS (f:=iN)
 have hSl:=hS.len
 have b02:=b1.on b2
 have hnl:(nxF pl fl n).length=(fx fl n).bk.length:=by unfold nxF Yd;rw[Zw,List.length_map]
 have hok:=hD.ok
 have hrowlt:∀p∈row,p<(fx fl n).bk.length:=λp hp'=>by
  rw[<-hrow]at hp'
  unfold zM at hp'
  rw[List.getD_eq_getElem?_getD,List.getElem?_map]at hp'
  cases hq:(List.range (nxF pl fl n).length)[k]? with
  |none=>rw[hq]at hp';cases hp'
  |some a=>rw[hq]at hp';have:=List.mem_range.1 (List.mem_filter.1 hp').1;omega
 have hrowlen:row.length<=4096:=by
  rw[<-hrow]
  unfold zM
  rw[List.getD_eq_getElem?_getD,List.getElem?_map]
  cases hq:(List.range (nxF pl fl n).length)[k]? with
  |none=>simp
  |some a=>
   have h1:=List.length_filter_le (λi=>((nxF pl fl n).getD i []).contains a) (List.range (nxF pl fl n).length)
   rw[List.length_range]at h1
   have:=hok.max
   exact Nat.le_trans h1 this
 have hbk:=hF.bk
 refine zk.countSl row.length (by omega) (λj a w'=>Own w' 22 1 a (((row.take j).map λp=>(bx (fx fl n).bk p).1).map (Value.int .u32))/\zz w2.heap.size a/\Below w2.heap.size w2 w') ⟨Own.nil _ _ _,λa ha=>(by cases ha),Below.refl _ _⟩ ?_
 rintro j a w3 hj ⟨hO,hFa,b3⟩ next hnext
 have b03:=b02.on b3
 refine zf (λh=>?_) (λh=>?_)
 ·have hlt:j<row.length:=by dsimp only at h;omega
  refine ziZ (hS.below b3) hlt (zj rfl (zeW (hB.below b03) ?_))
  have hpl:=hrowlt _ (List.getElem_mem hlt)
  refine znv (IsC.below zU hbk b03) hpl (zn λw4 h4 b4 z4=>?_)
  have hal:a.l=j:=by have:=hO.1;simp only[List.length_map,List.length_take]at this;omega
  refine y8 eU32 (hO.below b4) (b3.on b4) hFa (v:=.int .u32 ((fx fl n).bk[row[j]]).1) rfl h4 (by omega) (by omega) λr' w5 h5 b5 F5=>hnext r' w5 hlt ⟨?_,F5,b5⟩
  rw[List.take_succ_eq_append_getElem hlt,List.map_append,List.map_append]
  show Own w5 22 1 r' (_++[Value.int .u32 (bx (fx fl n).bk row[j]).1])
  unfold bx
  rw[zs hpl]
  exact h5
 ·have hjl:j=row.length:=by dsimp only at h;omega
  subst hjl
  rw[List.take_length,<-hlabs]at hO
  have hq3:=(hq1.below b2).below b3
  have hq1l:(parN pl[i].2.2.2 pl[i].2.2.2.length).length<=35184372088832:=by rw[Yb];have:=hp.at hi;omega
  have hll:(zaf (fx fl n).bk (nxF pl fl n) k).length<=35184372088832:=by rw[hlabs,List.length_map];omega
  refine zil hO hll λA w4 hA4 pA sA f4=>⟨rfl,?_⟩
  have hs1:=b1.size
  have hs2':=b2.size
  have hs3:=b3.size
  have hap:∀b,q.a=some (Gk.blk b)->¬a.a=some (Gk.blk b):=λb h1 h2=>by
   have h3:b<w1.heap.size:=(hq1.lt h1).2
   have h4:w2.heap.size<=b:=hFa _ h2
   omega
  have hq4:=f4.own hq3 hap
  have b04:Below w.heap.size w w4:=zdw b03 f4 λb hb=>by
   have:w2.heap.size<=b:=hFa _ hb
   have:=b02.size
   omega
  refine zil hq4 hq1l λB w5 hB5 pB sB f5=>⟨rfl,?_⟩
  have b05:Below w.heap.size w w5:=zdw b04 f5 λb hb=>hFq _ hb
  have hA5:=f5.own hA4 λb h1 h2=>hap b h2 h1
  refine zrB hA5.isS hB5.isS λw6 b6=>⟨_,rfl,?_⟩
  have he:A=B↔(zaf (fx fl n).bk (nxF pl fl n) k).Perm (parN (ix pl i).2.2.2 (ix pl i).2.2.2.length):=by
   rw[hix]
   constructor
   ·intro e
    subst e
    exact pA.symm.trans pB
   ·intro e
    exact List.Perm.eq_of_pairwise (le:=λ(x y:Int)=>x<=y) (λa b _ _ h1 h2=>Int.le_antisymm h1 h2) sA sB ((pA.trans e).trans pB.symm)
  have hfin:=hR w6 (b05.on b6)
  unfold phiU at hfin
  rw[if_neg (by rw[hix,e];decide)]at hfin
  refine zF (zf (λe=>?_) (λe=>?_))
  ·rw[if_neg λh=>h (he.1 e)]at hfin
   exact hfin
  ·rw[if_pos λh=>e (he.2 h)]at hfin
   exact hfin
theorem zsS(F:Fls pl fl)(hp:PlOk pl)(hn:n<fl.length)(h:IsBd w bb x pl fl n)(hi:i<pl.length)(hk:k<(fx fl n).bk.length)(hphi:phiU pl fl (nxF pl fl n) n k i=0)(hR:∀w',Below w.heap.size w w'->R (.int .i64 (useU pl fl (nxF pl fl n) n k i)) w') :
  cR 126 #[.pointer (some (Gk.blk bb)),.int .i64 (k:Int),.int .i64 (i:Int)] w R:=by
 refine za.of (zh7 _ (k:Int) (i:Int) R w ?_) λ_ _ h=>h
 obtain⟨v,hr,gb,tb,M,ov,dp,hB,hN,hF,hM,hl,hG,hD⟩:=h.ex
 have hix:=yg hi
 refine zj rfl (hB.rS (n:=2) (x:=x.2.2.1) rfl (yu hN hi λt hI=>?_))
 refine box4 rfl λw5 h5 b5 z5=>?_
 have h5:Blk w5 w.heap.size 50 (inV (mkIn pl[i] t)):=h5
 refine h5.rI0 rfl (zt (λe=>?_) (λe=>?_))
 ·refine Ins.load (x:=mkIn pl[i] t) h5 (zi7 (x:=mkIn pl[i] t) (hI.below b5) (hp.at hi) λr w1 hr1 _ b1=>⟨r,rfl,?_⟩)
  have hids:idsP pl[i].2.1 pl[i].2.2.2=zL pl i:=by unfold zL;rw[hix]
  have hr1:Own w1 22 1 r ((zL pl i).map (Value.int .u32)):=by rw[<-hids];exact hr1
  have hS:=hr1.isS
  have hSl:=hS.len
  have b01:=b5.on b1
  refine zk.count (zL pl i).length hS.bound (λj w'=>Below w1.heap.size w1 w'/\∀q (h:q<(zL pl i).length),q<j->(!mayU pl fl (nxF pl fl n) n (zL pl i)[q] k i)=false) ⟨Below.refl _ _,λq _ h=>by omega⟩ ?_
  rintro j w2 hj ⟨b2,hq⟩ next hnext
  have b02:=b01.on b2
  refine zf (λg=>?_) (λg=>?_)
  ·have hlt:j<(zL pl i).length:=by dsimp only at g;omega
   refine zcK (hS.below b2) hlt (zm7 (h.below b02) λw3 b3=>⟨_,rfl,?_⟩)
   refine zo (λe2=>?_) (λe2=>hnext w3 hlt ⟨b2.on b3,λq h1 h2=>?_⟩)
   ·have:=hR w3 (b02.on b3)
    unfold useU at this
    rw[if_pos (by rw[hix];exact e),if_pos (zgL hlt e2)]at this
    exact this
   ·by_cases eq:q=j
    ·subst eq;exact e2
    ·exact hq q h1 (by omega)
  ·have:=hR w2 b02
   unfold useU at this
   rw[if_pos (by rw[hix];exact e),zeU λq h1=>hq q h1 (by dsimp only at g;omega)]at this
   exact this
 ·have e:pl[i].1=245:=e
  refine Ins.load (x:=mkIn pl[i] t) h5 (zhj (x:=mkIn pl[i] t) (hI.below b5) (hp.at hi) λr q w1 hr1 hq1 _ _ b1=>⟨r,q,rfl,?_⟩)
  have hr1:Own w1 22 1 r ((valN pl[i].2.2.2 pl[i].2.2.2.length).map (Value.int .u32)):=hr1
  have hq1:Own w1 22 1 q ((parN pl[i].2.2.2 pl[i].2.2.2.length).map (Value.int .u32)):=hq1
  have hS:=hr1.isS
  have hQ:=hq1.isS
  have hSl:=hS.len
  have b01:=b5.on b1
  have hev:=F.phi i hi (by rw[hix];exact e)
  rw[hix]at hev
  have hvl:=zhh pl[i].2.2.2 pl[i].2.2.2.length
  have hql:=Yb pl[i].2.2.2 pl[i].2.2.2.length
  generalize hal:pl[i].2.2.2=al at *
  have hperm:(zaf (fx fl n).bk (nxF pl fl n) k).Perm (parN al al.length):=by
   unfold phiU at hphi
   rw[if_neg (by rw[hix,e];decide),hix,hal]at hphi
   refine Classical.byContradiction λh=>?_
   rw[if_pos h]at hphi
   cases hphi
  have huse:useU pl fl (nxF pl fl n) n k i=if (List.range (al.length / 2)).any (λj=>!mayU pl fl (nxF pl fl n) n (al.getD (2*j) ag0).2.1 (lbN (fx fl n).bk (al.getD (2*j+1) ag0).2.1) (bx (fx fl n).bk (lbN (fx fl n).bk (al.getD (2*j+1) ag0).2.1)).2.2)=true then 190 else 0:=by
   unfold useU
   rw[if_neg (by rw[hix,e];decide),hix,hal]
  refine zk.count (valN al al.length).length hS.bound (λj w'=>Below w1.heap.size w1 w'/\∀q,q<j->(!mayU pl fl (nxF pl fl n) n (al.getD (2*q) ag0).2.1 (lbN (fx fl n).bk (al.getD (2*q+1) ag0).2.1) (bx (fx fl n).bk (lbN (fx fl n).bk (al.getD (2*q+1) ag0).2.1)).2.2)=false) ⟨Below.refl _ _,λq h=>by omega⟩ ?_
  rintro j w2 hj ⟨b2,hqs⟩ next hnext
  have b02:=b01.on b2
  refine zf (λg=>?_) (λg=>?_)
  ·have hlt:j<(valN al al.length).length:=by dsimp only at g;omega
   have hlq:j<(parN al al.length).length:=by omega
   have hv:=zma al al.length j (by omega)
   have hpv:=zfu al al.length j (by omega)
   rw[zs hlt]at hv
   rw[zs hlq]at hpv
   refine zcK (hS.below b2) hlt ?_
   have bd:Below w2.heap.size w2 w2.drew:=(Below.refl _ _).drew
   have b02d:=b02.on bd
   have hB2:=hB.below b02d
   refine zj rfl ⟨some hr,hB2.cell (n:=9) rfl,zcK ((hQ.below b2).below bd) hlq (zsn (hM.below b02d) ?_)⟩
   rw[hl]
   obtain⟨p,hp1,hp2⟩:∃p,p<(fx fl n).bk.length/\(bx (fx fl n).bk p).1=(parN al al.length)[j]:=by
    have:=hperm.symm.mem_iff.1 (List.getElem_mem hlq)
    unfold zaf at this
    obtain⟨p,hp1,hp2⟩:=List.mem_map.1 this
    refine⟨p,?_,hp2⟩
    refine Classical.byContradiction λhge=>?_
    have hp3:p<(nxF pl fl n).length:=by
     unfold zM at hp1
     rw[List.getD_eq_getElem?_getD,List.getElem?_map]at hp1
     cases hq:(List.range (nxF pl fl n).length)[k]? with
     |none=>rw[hq]at hp1;cases hp1
     |some a=>rw[hq]at hp1;exact List.mem_range.1 (List.mem_filter.1 hp1).1
    have hnl:(nxF pl fl n).length=(fx fl n).bk.length:=by unfold nxF Yd;rw[Zw,List.length_map]
    omega
   have hlb:lbN (fx fl n).bk (al.getD (2*j+1) ag0).2.1=p:=by
    rw[<-hpv,<-hp2]
    unfold lbN
    rw[zgX (F.lab _ (zf9 hn)) hp1]
    rfl
   rw[<-hp2,F.homeL hn hp1,Option.getD_some]
   refine zj rfl (zeW hB2 (zl2 (IsC.below zU hF.bk b02d) hp1 ?_))
   refine zm7 (h.below b02d) λw3 b3=>⟨_,rfl,?_⟩
   have hbx:(bx (fx fl n).bk p).2.2=(fx fl n).bk[p].2.2:=by unfold bx;rw[zs hp1]
   rw[hv,<-hbx]
   refine zo (λe2=>?_) (λe2=>hnext w3 hlt ⟨(b2.on bd).on b3,λq h2=>?_⟩)
   ·have:=hR w3 (b02d.on b3)
    rw[huse,if_pos (List.any_eq_true.2 ⟨j,List.mem_range.2 (by omega),by rw[hlb];exact e2⟩)]at this
    exact this
   ·by_cases eq:q=j
    ·subst eq;rw[hlb];exact e2
    ·exact hqs q (by omega)
  ·have:=hR w2 b02
   rw[huse,if_neg λh=>?_]at this
   ·exact this
   ·obtain⟨q,h1,h2⟩:=List.any_eq_true.1 h
    rw[List.mem_range]at h1
    rw[hqs q (by dsimp only at g;omega)]at h2
    cases h2
end
abbrev Bv:=Int×Int×Sl×Sl×Int×Int×Int×Sl×Sl×Int×Sl×Unit
abbrev bvL(p:Bv):List Value:=[.int .u32 p.1,.int .u32 p.2.1,.slice p.2.2.1.a p.2.2.1.l p.2.2.1.c,.slice p.2.2.2.1.a p.2.2.2.1.l p.2.2.2.1.c,.int .i64 p.2.2.2.2.1,.int .u32 p.2.2.2.2.2.1,.int .i64 p.2.2.2.2.2.2.1,
 .slice p.2.2.2.2.2.2.2.1.a p.2.2.2.2.2.2.2.1.l p.2.2.2.2.2.2.2.1.c,.slice p.2.2.2.2.2.2.2.2.1.a p.2.2.2.2.2.2.2.2.1.l p.2.2.2.2.2.2.2.2.1.c,.int .i64 p.2.2.2.2.2.2.2.2.2.1,.slice p.2.2.2.2.2.2.2.2.2.2.1.a p.2.2.2.2.2.2.2.2.2.2.1.l p.2.2.2.2.2.2.2.2.2.2.1.c]
abbrev bvA(p:Bv):Value:=.agg #[.int .u32 p.1,.int .u32 p.2.1,.slice p.2.2.1.a p.2.2.1.l p.2.2.1.c,.slice p.2.2.2.1.a p.2.2.2.1.l p.2.2.2.1.c,.int .i64 p.2.2.2.2.1,.int .u32 p.2.2.2.2.2.1,.int .i64 p.2.2.2.2.2.2.1,
 .slice p.2.2.2.2.2.2.2.1.a p.2.2.2.2.2.2.2.1.l p.2.2.2.2.2.2.2.1.c,.slice p.2.2.2.2.2.2.2.2.1.a p.2.2.2.2.2.2.2.2.1.l p.2.2.2.2.2.2.2.2.1.c,.int .i64 p.2.2.2.2.2.2.2.2.2.1,.slice p.2.2.2.2.2.2.2.2.2.2.1.a p.2.2.2.2.2.2.2.2.2.2.1.l p.2.2.2.2.2.2.2.2.2.2.1.c]
structure IsRb (w:World) (p:Bv) (pl:List PI) (fl:List FnL) (n:Nat):Prop where
 hN:IsPl w p.2.2.1 pl
 hL:∃L,Fns w p.2.2.2.1 L/\L.map (·.1)=fl
 num:p.2.2.2.2.1=(n:Int)
 hB:IsBk w p.2.2.2.2.2.2.2.2.1 (fx fl n).bk
 hA:p.2.2.2.2.2.2.1=(fx fl n).at_
 hE:p.2.2.2.2.2.2.2.2.2.1=(fx fl n).en
 hX:∃hs,IsNN w p.2.2.2.2.2.2.2.2.2.2.1 hs (nxF pl fl n)
section
variable {w w':World} {R:VWP} {p:Bv} {pl:List PI} {fl:List FnL} {n:Nat} {id:Int}
theorem IsRb.below(h:IsRb w p pl fl n)(hb:Below w.heap.size w w'):IsRb w' p pl fl n:=by
 obtain⟨L,h1,h2⟩:=h.hL
 obtain⟨hs,h3⟩:=h.hX
 exact⟨h.hN.below hb,⟨L,h1.below hb,h2⟩,h.num,IsC.below zU h.hB hb,h.hA,h.hE,⟨hs,h3.below hb⟩⟩
theorem Bv.load{b:Nat}{T:TypeId}(h:Blk w b T (bvL p)){φ:Int->Int->Sl->Sl->Int->Int->Int->Sl->Sl->Int->Sl->Prop}(hφ:φ p.1 p.2.1 p.2.2.1 p.2.2.2.1 p.2.2.2.2.1 p.2.2.2.2.2.1 p.2.2.2.2.2.2.1 p.2.2.2.2.2.2.2.1 p.2.2.2.2.2.2.2.2.1 p.2.2.2.2.2.2.2.2.2.1 p.2.2.2.2.2.2.2.2.2.2.1) :
  ldI w ((Gk.blk b).add 0) .u32 λx1=>ldI w ((Gk.blk b).add 1) .u32 λx2=>ldS w ((Gk.blk b).add 2) λx3=>ldS w ((Gk.blk b).add 3) λx4=>ldI w ((Gk.blk b).add 4) .i64 λx5=>ldI w ((Gk.blk b).add 5) .u32 λx6=>ldI w ((Gk.blk b).add 6) .i64 λx7=>
   ldS w ((Gk.blk b).add 7) λx8=>ldS w ((Gk.blk b).add 8) λx9=>ldI w ((Gk.blk b).add 9) .i64 λx10=>ldS w ((Gk.blk b).add 10) λx11=>φ x1 x2 x3 x4 x5 x6 x7 x8 x9 x10 x11:=
 h.rI (n:=0) rfl (h.rI (n:=1) rfl (h.rS (n:=2) (x:=p.2.2.1) rfl (h.rS (n:=3) (x:=p.2.2.2.1) rfl (h.rI (n:=4) rfl (h.rI (n:=5) rfl (h.rI (n:=6) rfl (h.rS (n:=7) (x:=p.2.2.2.2.2.2.2.1) rfl (h.rS (n:=8) (x:=p.2.2.2.2.2.2.2.2.1) rfl (h.rI (n:=9) rfl (h.rS (n:=10) (x:=p.2.2.2.2.2.2.2.2.2.2.1) rfl hφ))))))))))
theorem Z8{b:Nat}{T:TypeId}(h:Blk w b T (bvL p)){φ:Sl->Prop}(hφ:φ p.2.2.2.2.2.2.2.2.1):ldS w (((Gk.blk b).add 5).add 3) φ:=by
 rw[zy]
 exact h.rS (n:=8) (x:=p.2.2.2.2.2.2.2.2.1) rfl hφ
theorem ztO{fs:Sl}{L:List Fe}(h:Fns w fs L){k:Nat}(hk:k<L.length){φ:Int->Prop}(hφ:φ L[k].1.at_):(0<=(k:Int)/\(k:Int)<(fs.l:Int))/\zc fs.a λa=>ldI w ((a.add (Int.toNat (k:Int)*5)).add 1) .i64 φ:=by
 have hc:IsC 5 feV w fs L:=Own.isC Yj (by omega) h.own
 obtain⟨a,ha⟩:=hc.base hk
 exact⟨⟨by omega,by have:=h.len;omega⟩,zj ha ⟨_,by rw[zy];exact hc.cell a ha k hk 1 (by omega),hφ⟩⟩
theorem ztP{fs:Sl}{L:List Fe}(h:Fns w fs L){k:Nat}(hk:k<L.length){φ:Int->Prop}(hφ:φ L[k].1.en):(0<=(k:Int)/\(k:Int)<(fs.l:Int))/\zc fs.a λa=>ldI w ((a.add (Int.toNat (k:Int)*5)).add 4) .i64 φ:=by
 have hc:IsC 5 feV w fs L:=Own.isC Yj (by omega) h.own
 obtain⟨a,ha⟩:=hc.base hk
 exact⟨⟨by omega,by have:=h.len;omega⟩,zj ha ⟨_,by rw[zy];exact hc.cell a ha k hk 4 (by omega),hφ⟩⟩
theorem zp9{s:Sl}{l:List (Int×Int×Int)}(h:IsBk w s l){k:Nat}(hk:k<l.length){φ:Int->Prop}(hφ:φ l[k].2.1) :
  (0<=(k:Int)/\(k:Int)<(s.l:Int))/\zc s.a λa=>ldI w ((a.add (Int.toNat (k:Int)*3)).add 1) .i64 φ:=by
 obtain⟨a,ha⟩:=h.base hk
 exact⟨⟨by omega,by have:=h.len;omega⟩,zj ha ⟨l[k].2.1,by rw[zy];exact h.cell a ha k hk 1 (by omega),hφ⟩⟩
theorem zia{fs:Sl}{L:List Fe}(hL:Fns w fs L)(hLc:L.map (·.1)=fl){q:Int}(hR:R (.int .i64 (ovI (fnO fl q))) w):cR 53 #[.slice fs.a fs.l fs.c,.int .i64 q] w R:=by
 refine za.of (zcu fs q R w ?_) λ_ _ h=>h
 have hll:=hL.len
 have hbound:L.length<=9223372036854775807:=(Own.isC Yj (by omega) hL.own:IsC 5 feV w fs L).bound
 have hfl:L.length=fl.length:=by rw[<-hLc,List.length_map]
 have hget:∀k (h:k<L.length),L[k].1=fx fl k:=λk h=>by
  unfold fx
  rw[zs (by omega)]
  have:(L.map (·.1))[k]'(by rwa[List.length_map])=fl[k]'(by omega):=by congr 1
  rwa[List.getElem_map]at this
 refine zk.count L.length hbound (λk w'=>w'=w/\∀j,j<k->decide ((fx fl j).at_<q/\q<=(fx fl j).en)=false) ⟨rfl,λj h=>by omega⟩ ?_
 rintro k _ hk ⟨rfl,hj⟩ next hnext
 refine zf (λh=>?_) (λh=>?_)
 ·have hlt:k<L.length:=by dsimp only at h;omega
  have go:¬((fx fl k).at_<q/\q<=(fx fl k).en)->∀j,j<k+1->decide ((fx fl j).at_<q/\q<=(fx fl j).en)=false:=λh j h1=>by
   by_cases e:j=k
   ·subst e;exact decide_eq_false h
   ·exact hj j (by omega)
  have hg:=hget k hlt
  refine zl.all (ztO hL hlt ?_)
  rw[hg]
  refine zf (λh1=>ztP hL hlt ?_) (λh1=>hnext _ hlt ⟨rfl,go λh2=>h1 (by have:=h2.1;omega)⟩)
  rw[hg]
  refine zf (λh2=>?_) (λh2=>hnext _ hlt ⟨rfl,go λh3=>h2 h3.2⟩)
  have:fnO fl q=some k:=Yc (by omega) (decide_eq_true ⟨by omega,h2⟩) hj
  rw[this]at hR
  exact hR
 ·have:fnO fl q=none:=zd7 λj h1=>hj j (by dsimp only at h;omega)
  rw[this]at hR
  exact hR
theorem zk8(h:IsRb w p pl fl n){q:Int}(hR:∀w',Below w.heap.size w w'->R (.int .i64 (ovI (bkO (fx fl n).bk q))) w'):cR 91 #[bvA p,.int .i64 q] w R:=by
 refine za.of (zbw p q R w ?_) λ_ _ h=>h
 refine zn λw1 hP1 b1 z1=>?_
 have hP1:Blk w1 w.heap.size 69 (bvL p):=hP1
 have h1:=h.below b1
 have hl:=h.hB.len
 refine zk.count (fx fl n).bk.length h.hB.bound (λk w'=>w'=w1/\∀j,j<k->decide ((bx (fx fl n).bk j).2.1<=q/\q<(bx (fx fl n).bk j).2.2)=false) ⟨rfl,λj h=>by omega⟩ ?_
 rintro k _ hk ⟨rfl,hj⟩ next hnext
 have hR:=hR _ b1
 refine Z8 hP1 (zf (λg=>?_) (λg=>?_))
 ·have hlt:k<(fx fl n).bk.length:=by dsimp only at g;omega
  have hbx:bx (fx fl n).bk k=(fx fl n).bk[k]:=zs hlt
  have go:¬((bx (fx fl n).bk k).2.1<=q/\q<(bx (fx fl n).bk k).2.2)->∀j,j<k+1->decide ((bx (fx fl n).bk j).2.1<=q/\q<(bx (fx fl n).bk j).2.2)=false:=λh j h1=>by
   by_cases e:j=k
   ·subst e;exact decide_eq_false h
   ·exact hj j (by omega)
  refine zl.all (Z8 hP1 (zp9 h1.hB hlt ?_))
  rw[<-hbx]
  refine zf (λg1=>Z8 hP1 (zl2 h1.hB hlt ?_)) (λg1=>hnext _ hlt ⟨rfl,go λg2=>g1 g2.1⟩)
  rw[<-hbx]
  refine zf (λg2=>?_) (λg2=>hnext _ hlt ⟨rfl,go λg3=>g2 g3.2⟩)
  have:bkO (fx fl n).bk q=some k:=Yc hlt (decide_eq_true ⟨by omega,g2⟩) hj
  rw[this]at hR
  exact hR
 ·have:bkO (fx fl n).bk q=none:=zd7 λj h1=>hj j (by dsimp only at g;omega)
  rw[this]at hR
  exact hR
theorem zd8(h:IsRb w p pl fl n)(hR:∀w',Below w.heap.size w w'->R (.int .i64 (ovI (lbO (fx fl n).bk id))) w'):cR 22 #[bvA p,.int .u32 id] w R:=by
 refine za.of (zal p id R w ?_) λ_ _ h=>h
 refine zn λw1 hP1 b1 z1=>?_
 have hP1:Blk w1 w.heap.size 69 (bvL p):=hP1
 have h1:=h.below b1
 have hl:=h.hB.len
 refine zk.count (fx fl n).bk.length h.hB.bound (λk w'=>w'=w1/\∀j,j<k->((bx (fx fl n).bk j).1==id)=false) ⟨rfl,λj h=>by omega⟩ ?_
 rintro k _ hk ⟨rfl,hj⟩ next hnext
 have hR:=hR _ b1
 refine Z8 hP1 (zf (λg=>?_) (λg=>?_))
 ·have hlt:k<(fx fl n).bk.length:=by dsimp only at g;omega
  have hbx:bx (fx fl n).bk k=(fx fl n).bk[k]:=zs hlt
  refine Z8 hP1 (znv h1.hB hlt ?_)
  rw[<-hbx]
  refine zo (λg1=>?_) (λg1=>hnext _ hlt ⟨rfl,λj h1=>?_⟩)
  ·have:lbO (fx fl n).bk id=some k:=Yc hlt g1 hj
   rw[this]at hR
   exact hR
  ·by_cases e:j=k
   ·subst e;exact g1
   ·exact hj j (by omega)
 ·have:lbO (fx fl n).bk id=none:=zd7 λj h1=>hj j (by dsimp only at g;omega)
  rw[this]at hR
  exact hR
theorem zew(h:IsRb w p pl fl n)(hR:∀w',Below w.heap.size w w'->R (.int .i64 (mkA pl id)) w'):cR 52 #[bvA p,.int .u32 id] w R:=by
 refine za.of (zbx p id R w ?_) λ_ _ h=>h
 refine zn λw1 hP1 b1 z1=>?_
 have hP1:Blk w1 w.heap.size 69 (bvL p):=hP1
 refine hP1.rS (n:=2) (x:=p.2.2.1) rfl (hP1.rS (n:=2) (x:=p.2.2.1) rfl ?_)
 have h1:=h.hN.below b1
 show cR 90 #[.slice p.2.2.1.a p.2.2.1.l p.2.2.1.c,.int .u32 id,.int .i64 (p.2.2.1.l:Int)] w1 _
 rw[h1.len]
 have hlr:=h1.len
 have:=zfL (id:=id) (R:=λv w'=>v =.int .i64 (mkA pl id)/\w'=w1) h1 (Nat.le_refl _) ⟨rfl,rfl⟩
 rw[hlr]at this
 refine za.mono this ?_
 rintro _ _ ⟨rfl,rfl⟩
 exact⟨_,rfl,hR _ b1⟩
theorem ztz(F:Fls pl fl)(n:Nat)(id:Int):ownP pl fl n id=(decide (0<=mkA pl id)&&(decide (ovI (fnO fl (mkA pl id))=(n:Int))&&(ix pl (mkA pl id).toNat).1 !=248)):=by
 unfold ownP hmO
 cases hf:fnO fl (mkA pl id) with
 |none=>
  show false=_
  have:decide (ovI none=(n:Int))=false:=decide_eq_false (by show ¬((-1:Int)=n);omega)
  rw[this]
  simp
 |some m=>
  obtain⟨hm,hd,_⟩:=zai hf
  obtain⟨d1,_⟩:=of_decide_eq_true hd
  obtain⟨a,_,q1,_⟩:=F.tl hm
  rw[Option.map_some,decide_eq_true (show 0<=mkA pl id by omega),Bool.true_and]
  show(((m:Int)==(n:Int))&&!((ix pl (mkA pl id).toNat).1==248))=(decide ((m:Int)=(n:Int))&&_)
  rfl
theorem zmY(F:Fls pl fl)(h:IsRb w p pl fl n)(hR:∀w',Below w.heap.size w w'->R (.bool (ownP pl fl n id)) w'):cR 23 #[bvA p,.int .u32 id] w R:=by
 refine za.of (zct p id R w ?_) λ_ _ h=>h
 refine zn λw1 hP1 b1 z1=>?_
 have hP1:Blk w1 w.heap.size 69 (bvL p):=hP1
 have h1:=h.below b1
 rw[ztz F]at hR
 refine Bv.load hP1 (zew (p:=p) h1 λw2 b2=>⟨_,rfl,?_⟩)
 have b02:=b1.on b2
 refine zf (λg=>?_) (λg=>?_)
 ·have g:0<=mkA pl id:=g
  have bd:Below w2.heap.size w2 w2.drew:=(Below.refl _ _).drew
  have hP2:=(hP1.below b2).below bd
  refine hP2.rS (n:=3) (x:=p.2.2.2.1) rfl (hP2.rI (n:=4) rfl ?_)
  have h2:=(h1.below b2).below bd
  obtain⟨L,hL,hLc⟩:=h2.hL
  have hR:=hR _ (b02.on bd)
  rw[decide_eq_true g,Bool.true_and]at hR
  refine zia hL hLc ⟨_,rfl,hP2.cell (n:=4) rfl,zm (λe=>?_) (λe=>?_)⟩
  ·refine hP2.rS (n:=2) (x:=p.2.2.1) rfl ?_
   have hk:∃k:Nat,mkA pl id=(k:Int)/\k<pl.length:=by
    unfold mkA zK
    cases hq:(List.range pl.length).find? (mk1 pl id) with
    |none=>
     unfold mkA zK at g
     rw[hq]at g
     exact absurd g (by decide)
    |some j=>exact⟨j,rfl,(zai hq).1⟩
   obtain⟨k,ek,hk⟩:=hk
   rw[ek]
   rw[ek]at hR e
   have e:ovI (fnO fl (k:Int))=p.2.2.2.2.1:=e
   rw[h2.num]at e
   refine zco h2.hN hk ?_
   rw[decide_eq_true e,Bool.true_and,Int.toNat_natCast,yg hk]at hR
   exact hR
  ·have e:¬ovI (fnO fl (mkA pl id))=p.2.2.2.2.1:=e
   rw[h2.num]at e
   rw[decide_eq_false e]at hR
   exact hR
 ·have hR:=hR _ b02.drew
  rw[decide_eq_false (show ¬0<=mkA pl id from g)]at hR
  exact hR
structure Mz (w0:World) (mb:Nat) (Q:Nat->Prop) (m:Nat) (w':World) (bl:List Bool):Prop where
 below:Below w0.heap.size w0 w'
 blk:Blk w' mb 4 (bl.map Value.bool)
 len:bl.length=m
 sound:∀j,bl.getD j false=true->Q j
theorem Mz.ld{w0:World}{mb m:Nat}{Q:Nat->Prop}{bl:List Bool}(h:Mz w0 mb Q m w' bl){i:Nat}(hi:i<m){φ:Bool->Prop}(hφ:φ (bl.getD i false)):ldB w' ((Gk.blk mb).add (Int.toNat (i:Int))) φ:=
 h.blk.rB (n:=i) (by rw[List.getElem?_map,List.getElem?_eq_getElem (by rw[h.len];exact hi),zs (by rw[h.len];exact hi)];rfl) hφ
theorem Mz.set{w0:World}{mb m:Nat}{Q:Nat->Prop}{bl:List Bool}(h:Mz w0 mb Q m w' bl)(hmb:w0.heap.size<=mb){t:Nat}(ht:t<m)(hQ:Q t):Mz w0 mb Q m (w'.setCell ((Gk.blk mb).add t) (.bool true)) (bl.set t true):=by
 refine⟨h.below.setCell (by rw[z0];exact hmb) _,by rw[List.map_set];exact h.blk.set _ _,by rw[List.length_set];exact h.len,λj hj=>?_⟩
 rw[List.getD_eq_getElem?_getD,List.getElem?_set]at hj
 split at hj
 ·rename_i e
  rw[<-e];exact hQ
 ·exact h.sound j (by rw[List.getD_eq_getElem?_getD];exact hj)
theorem zlx{bl:List Bool}{m:Nat}(h:bl.length=m):bl.count true<=m:=by rw[<-h];exact List.count_le_length
set_option maxHeartbeats 2000000 in
theorem zj8(h:IsRb w p pl fl n)(ok:NxOk (nxF pl fl n)){wo:Int}(hR:∀w' (bl:List Bool) b,Below w.heap.size w w'->Blk w' b 4 (bl.map Value.bool)->bl.length=(nxF pl fl n).length->(∀j,bl.getD j false=true↔zS (nxF pl fl n) wo j)->R (.slice (some (Gk.blk b)) bl.length bl.length) w') :
  cR 121 #[bvA p,.int .i64 wo] w R:=by
 refine za.of (za8 p wo R w ?_) λ_ _ h=>h
 refine zn λw1 hP1 b1 z1=>?_
 have hP1:Blk w1 w.heap.size 69 (bvL p):=hP1
 obtain⟨hs,hX⟩:=h.hX
 generalize hnx:nxF pl fl n=nx at *
 obtain⟨s,hs10⟩:∃s,p.2.2.2.2.2.2.2.2.2.2.1=s:=⟨_,rfl⟩
 rw[hs10]at hX
 refine hP1.rS (n:=10) (x:=s) (by rw[<-hs10];rfl) ?_
 have hhl:=hX.len
 have hsl:s.l=nx.length:=by have:=hX.top.len;omega
 have hmax:=ok.max
 have hpos:=ok.pos
 have hP1':∀{w':World},Blk w' w.heap.size 69 (bvL p)->∀{φ:Sl->Prop},φ s->ldS w' ((Gk.blk w.heap.size).add 10) φ:=λ{w'} hP {φ} hφ=>hP.rS (n:=10) (x:=s) (by rw[<-hs10];rfl) hφ
 refine⟨⟨by omega,by omega,by omega,by omega⟩,Nw.gen λw2 hw2=>?_⟩
 have hb2:Below w1.heap.size w1 w2:=by rw[hw2];exact(Below.refl _ _).alloc (Nat.le_refl _) _
 have hB2:Blk w2 w1.heap.size 4 ((List.replicate nx.length false).map Value.bool):=by rw[hw2,hsl,List.map_replicate];exact Blk.made w1 _ _ _
 clear hw2
 have hfr:∀j,(List.replicate nx.length false).getD j false=false:=λj=>by
  simp only[List.getD,List.getElem?_replicate]
  split<;>rfl
 have s1:=b1.size
 refine zm (λhe=>?_) (λhwo=>?_)
 ·have he:wo=0:=he
  have:=hR w2 (List.replicate nx.length false) w1.heap.size (b1.on hb2) hB2 (by simp) λj=>⟨λhj=>(by rw[hfr j]at hj;cases hj),λhj=>?_⟩
  ·rw[List.length_replicate]at this
   rw[hsl]
   exact this
  ·exfalso
   subst he
   induction hj with
   |zero h _=>exact h rfl
   |step _ _ _ ih=>exact ih
 have hwo:wo≠0:=hwo
 refine⟨⟨by omega,by omega⟩,hB2.wr (n:=0) (by simp;omega),Nw.gen λw3 hw3=>?_⟩
 have m2:Mz w1 w1.heap.size (zS nx wo) nx.length w2 (List.replicate nx.length false):=⟨hb2,hB2,by simp,λj hj=>by rw[hfr j]at hj;cases hj⟩
 have m3:=m2.set (Nat.le_refl _) (t:=0) hpos (.zero hwo hpos)
 rw[<-hw3]at m3
 clear hw3
 have hz3:((List.replicate nx.length false).set 0 true).getD 0 false=true:=by
  rw[List.getD_eq_getElem?_getD,List.getElem?_set_self (by simp;omega)]
  rfl
 let Cl:List Bool->Nat->Prop:=λbl i=>bl.getD i false=true->∀t∈nx.getD i [],(t:Int)≠wo->bl.getD t false=true
 refine zk.ghost (λm (st:Bool×Unit) w'=>∃bl,Mz w1 w1.heap.size (zS nx wo) nx.length w' bl/\bl.getD 0 false=true/\((st.1=true/\m=nx.length-bl.count true+1)\/(st.1=false/\m=0/\∀i,i<nx.length->Cl bl i))) (nx.length-((List.replicate nx.length false).set 0 true).count true+1) ⟨_,m3,hz3,.inl ⟨rfl,rfl⟩⟩ ?_
 rintro m ⟨mo,_⟩ w4 ⟨bl,m4,hz4,hst⟩ next hnext
 dsimp only at hst⊢
 refine zo (λhmo=>?_) (λhmo=>?_)
 rotate_left
 ·rcases hst with⟨h1,_⟩ | ⟨_,_,hcl⟩
  ·rw[hmo]at h1;cases h1
  ·have:=hR w4 bl w1.heap.size (b1.on m4.below) m4.blk m4.len λj=>⟨m4.sound j,λhj=>?_⟩
   ·rw[m4.len]at this
    rw[hsl]
    exact this
   ·induction hj with
    |zero _ _=>exact hz4
    |step hi ht hne ih=>
     rename_i i t
     have hil:i<nx.length:=by
      refine Classical.byContradiction λhge=>?_
      rw[ztn (by omega)]at ht
      cases ht
     exact hcl i hil ih t ht hne
 have hm:m=nx.length-bl.count true+1:=by
  rcases hst with⟨_,h⟩ | ⟨h,_⟩
  ·exact h
  ·rw[hmo]at h;cases h
 subst hm
 let J:Bool->(Nat->Prop)->List Bool->Prop:=λmo done bl'=>bl'.getD 0 false=true/\((mo=false/\bl'=bl/\∀i,done i->Cl bl i)\/(mo=true/\bl.count true<bl'.count true))
 refine zk.ghost (λg (st:Bool×Int×Unit) w'=>∃i:Nat,st.2.1=(i:Int)/\i<=nx.length/\g=nx.length-i/\∃bl',Mz w1 w1.heap.size (zS nx wo) nx.length w' bl'/\J st.1 (·<i) bl') nx.length ⟨0,rfl,Nat.zero_le _,rfl,bl,m4,hz4,.inl ⟨rfl,rfl,λi hi=>absurd hi (Nat.not_lt_zero _)⟩⟩ ?_
 rintro _ ⟨mo5,_,_⟩ w5 ⟨i,rfl,hi,rfl,bl5,m5,hJ5⟩ next5 hnext5
 dsimp only at hJ5⊢
 have hP5:=hP1.below m5.below
 refine hP1' hP5 (zf (λg=>?_) (λg=>?_))
 rotate_left
 ·have hie:i=nx.length:=by omega
  obtain⟨hz5,⟨rfl,rfl,hcl⟩ | ⟨rfl,hup⟩⟩:=hJ5
  ·exact hnext 0 _ w5 (by omega) ⟨_,m5,hz5,.inr ⟨rfl,rfl,λj hj=>hcl j (by omega)⟩⟩
  ·have:=zlx m5.len
   exact hnext _ _ w5 (by omega) ⟨bl5,m5,hz5,.inl ⟨rfl,rfl⟩⟩
 have hlt:i<nx.length:=by omega
 have hih:i<hs.length:=by omega
 have hrowl:=ok.row_le i
 have hgx:nx.getD i []=nx[i]:=zs hlt
 rw[hgx]at hrowl
 refine zk.ghost (λg (st:Bool×Int×Unit) w'=>∃k:Nat,st.2.1=(k:Int)/\k<=nx[i].length/\g=nx[i].length-k/\∃bl',Mz w1 w1.heap.size (zS nx wo) nx.length w' bl'/\bl'.getD 0 false=true/\
   ((st.1=false/\bl'=bl/\(∀j,j<i->Cl bl j)/\(bl.getD i false=true->∀q (hq:q<nx[i].length),q<k->(nx[i][q]:Int)≠wo->bl.getD nx[i][q] false=true))\/(st.1=true/\bl.count true<bl'.count true))) nx[i].length
  ⟨0,rfl,Nat.zero_le _,rfl,bl5,m5,hJ5.1,hJ5.2.imp (λq=>⟨q.1,q.2.1,q.2.2,λ_ q _ h=>by omega⟩) id⟩ ?_
 rintro _ ⟨mo6,_,_⟩ w6 ⟨k,rfl,hk,rfl,bl6,m6,hz6,hJ6⟩ next6 hnext6
 dsimp only at hJ6⊢
 have hX6:=(hX.below b1).below m6.below
 have hP6:=hP1.below m6.below
 have hrow:=hX6.row i hih hlt
 have hrn:hs[i].l=nx[i].length:=hrow.len
 refine hP1' hP6 (zeY hX6.top hih (zf (λg=>?_) (λg=>?_)))
 rotate_left
 ·have hke:k=nx[i].length:=by omega
  rw[zr (by omega)]
  refine hnext5 (nx.length-(i+1)) _ w6 (by omega) ⟨i+1,rfl,by omega,rfl,bl6,m6,hz6,?_⟩
  refine hJ6.imp (λ⟨q1,q2,q3,q4⟩=>⟨q1,q2,λj hj=>?_⟩) id
  by_cases e:j=i
  ·subst e
   intro hmk t ht hne
   rw[hgx]at ht
   obtain⟨q,hq,rfl⟩:=List.getElem_of_mem ht
   exact q4 hmk q hq (by omega) hne
  ·exact q3 j (by omega)
 have hkl:k<nx[i].length:=by omega
 have htl:nx[i][k]<nx.length:=ok.rows i _ (by rw[hgx];exact List.getElem_mem hkl)
 have hmem:nx[i][k]∈nx.getD i []:=by rw[hgx];exact List.getElem_mem hkl
 generalize htk:nx[i][k]=t at *
 have keep:(bl.getD i false=true->bl6=bl->(t:Int)≠wo->bl.getD t false=true)->∀q (hq:q<nx[i].length),q<k+1->True:=λ_ _ _ _=>trivial
 have stay:(bl.getD i false=true->bl6=bl->(t:Int)≠wo->bl.getD t false=true)->next6 (mo6,IntKind.i64.wrap ((k:Int)+1),()) w6:=λhc=>by
  rw[zr (by omega)]
  refine hnext6 (nx[i].length-(k+1)) _ w6 (by omega) ⟨k+1,rfl,by omega,rfl,bl6,m6,hz6,hJ6.imp (λ⟨q1,q2,q3,q4⟩=>⟨q1,q2,q3,λhmk q hq h1 hne=>?_⟩) id⟩
  by_cases e:q=k
  ·subst e
   rw[htk]at hne⊢
   exact hc hmk q2 hne
  ·exact q4 hmk q hq (by omega) hne
 clear keep
 refine zl.cut (λ(st:Bool×Unit) w'=>next6 (st.1,IntKind.i64.wrap ((k:Int)+1),()) w') ?_ λ_ _ hh=>hh
 refine hP1' hP6 (zeY hX6.top hih (ziZ hrow hkl ⟨⟨by omega,by omega⟩,m6.ld hlt ?_⟩))
 rw[htk]
 refine zo (λhmk=>?_) (λhmk=>stay λh1 h2 _=>by rw[h2,h1]at hmk;cases hmk)
 refine zt (λhne=>⟨⟨by omega,by omega⟩,m6.ld htl ?_⟩) (λhe=>stay λ_ _ hne=>absurd he hne)
 have hne:(t:Int)≠wo:=hne
 refine zF (zo (λhmt=>stay λ_ h2 _=>by rw[<-h2];exact hmt) (λhmt=>⟨⟨by omega,by omega⟩,m6.blk.wr (n:=t) (by rw[List.length_map,m6.len];exact htl),Nw.gen λw7 hw7=>?_⟩))
 have m7:=m6.set (Nat.le_refl _) htl (.step (m6.sound i hmk) hmem hne)
 rw[show((Gk.blk w1.heap.size).add (Int.toNat (t:Int)))=(Gk.blk w1.heap.size).add t from rfl]at hw7
 rw[<-hw7]at m7
 have hup:=zog (by rw[m6.len];exact htl) hmt
 rw[zr (by omega)]
 refine hnext6 (nx[i].length-(k+1)) _ w7 (by omega) ⟨k+1,rfl,by omega,rfl,_,m7,?_,.inr ⟨rfl,?_⟩⟩
 ·rw[List.getD_eq_getElem?_getD,List.getElem?_set]
  split
  ·rename_i e
   rw[if_pos (by rw[m6.len];omega)]
   rfl
  ·rw[<-List.getD_eq_getElem?_getD];exact hz6
 ·rcases hJ6 with⟨_,e,_⟩ | ⟨_,h⟩
  ·rw[e]at hup⊢;exact hup
  ·omega
end
end Go.Proofs
