/- ConstsRenamed, part 7; made small by a program. -/
import Derived.Test.YtnplhdcedgcdhaaGreatDoorProg
import Derived.Sort.AssemblyPlain
import Derived.Test.YtnplhdcedgcdhaaGreatDoorPConstsRenamed6
namespace Go.Proofs
open Go.Gk
set_option linter.unusedVariables false
set_option maxRecDepth 100000
def Yo:Ann:=(.q (.q (.q (.q .nil))))
def Yk(p0:Value)(R:VWP)(w:World):Prop:=df 60 #[p0] w λx2 w1=>cR 61 #[x2.zw] w1 λv3 w2=>v3=(.tuple #[])/\R (x2.zw) w2
theorem zbm(p0)(R)(w)(h:Yk p0 R w):Calls Tryz.prog 43 #[p0] w (Ret R):=lwC Yo Tryz.func43 (by kernel_rfl) (by kernel_rfl) h
def yU:Ann:=(.q (.q .nil))
def yP(p0:Sl)(R:VWP)(w:World):Prop:=Nw (w.alloc (.cells #[p0.zw] 30)) λw1=>R (.func (.func 62) #[] #[.pointer (some (zB w))]) w1
theorem ZO(p0)(R)(w)(h:yP p0 R w):Calls Tryz.prog 44 #[.slice p0.a p0.l p0.c] w (Ret R):=lwC yU Tryz.func44 (by kernel_rfl) (by kernel_rfl) h
def ZU:Ann:=(.q (.q .nil))
def ZR(p0:Value)(R:VWP)(w:World):Prop:=df 84 #[.slice none 0 0,p0] w λx2 w1=>R (x2.zw) w1
theorem zaK(p0)(R)(w)(h:ZR p0 R w):Calls Tryz.prog 60 #[p0] w (Ret R):=lwC ZU Tryz.func60 (by kernel_rfl) (by kernel_rfl) h
def Zp:Ann:=(.q .nil)
def zP(p0:Sl)(R:VWP)(w:World):Prop:=dw 86 #[.int .u64 (IntKind.u64.wrap (p0.l:Int))] w λx2 w1=>cR 85 #[p0.zw,zi 0,zi (p0.l:Int),zi x2] w1 λv3 w2=>v3=(.tuple #[])/\R (.tuple #[]) w2
theorem yC(p0)(R)(w)(h:zP p0 R w):Calls Tryz.prog 61 #[.slice p0.a p0.l p0.c] w (Ret R):=lwC Zp Tryz.func61 (by kernel_rfl) (by kernel_rfl) h
def yy:Ann:=(.q (.one (.loop ⟨[0,5,6],[(7,(.b (.int .i64)))]⟩ (.q (.seq none .c (.seq none (.one (.q (.q .c))) .nil))))))
def yw(p0:Value)(c0:Addr)(R:VWP)(w:World):Prop:=ldS w c0 λx1=>zl (S:=Int×Unit) (λs2 w1 n3=>ifB (decide (s2.1<(x1.l:Int))) ((0<=s2.1/\s2.1<(x1.l:Int))/\zc x1.a λa4=>ldI w1 (a4.add s2.1.toNat) .u32 λx5=>yL Tryz.prog Tryz.fs p0 [(zu x5)] w1 λv6 w2=>∃x7:Bool,v6=(.bool x7)/\ifB (!x7) (R (.tuple #[]) w2) (n3 ((IntKind.i64.wrap (s2.1+(1:Int))),()) w2)) (R (.tuple #[]) w1)) (0,()) w
theorem Z8(p0)(c0)(R)(w)(h:yw p0 c0 R w):Calls Tryz.prog 62 #[p0,.pointer (some c0)] w (Ret R):=lwC yy Tryz.func62 (by kernel_rfl) (by kernel_rfl) h
def yx:Ann:=(.q (.seq none (.q (.one (.loop ⟨[],[(7,(.b (.int .u32)))]⟩ (.q (.one .nil))))) (.q .nil)))
def yv(p0:Sl)(p1:Value)(R:VWP)(w:World):Prop:=Nw (w.alloc (.cells #[p0.zw] 30)) λw1=>zhm Tryz.prog Tryz.fs p1 w1 (T:=Int×Unit) (λs1=>[(zu s1.1)]) (λmk2 l3 s1 w2 S4=>w2.heap[l3]? =some (mk2 .ready none)/\Nw (w2.putObj l3 (mk2 .busy none)) λw3=>ldS w3 (zB w) λx6=>Nw (w3.alloc (.cells #[zu s1.1] 22)) λw4=>zF Tryz.prog 30 (x6.zw) (.slice (some (zB w3)) 1 1) w4 λr7 w5=>Wr w5 (zB w)/\Nw (w5.setCell (zB w) (r7.zw)) λw6=>w6.heap[l3]? =some (mk2 .busy none)/\S4 (.bool true) (w6.putObj l3 (mk2 .ready none))) (λmk2 l3 d5 w7=>Z3 mk2 l3 .ready none w7 λw8=>ldS w8 (zB w) λx8=>zbM (d5::[]) w8 λw9=>R (x8.zw) w9)
theorem Z7(p0:Sl)(p1:Value)(R:VWP)(w:World)(h:yv p0 p1 R w):Calls Tryz.prog 84 #[.slice p0.a p0.l p0.c,p1] w (Ret R):=zgt (fs:=Tryz.fs) (an:=yx) (args:=[(.slice p0.a p0.l p0.c),p1]) Tryz.fsOK Tryz.mixed Tryz.func84 (by kernel_rfl) (by kernel_rfl) (Eq.mpr (by kernel_rfl:zkf Tryz.prog Tryz.fs Tryz.f84 yx [(.slice p0.a p0.l p0.c),p1] w R=yv p0 p1 R w) h)
def yV:Ann:=(.q (.q (.one (.loop ⟨[0],[(1,(.b (.int .i64))),(2,(.b (.int .i64))),(3,(.b (.int .i64))),(8,(.b .bool)),(9,(.b .bool))]⟩ (.one (.q (.seq none (.q (.cond (.q .nil) .nil)) (.seq none (.q (.cond (.q .nil) .nil)) (.seq (some ⟨[0,1,2,8,9,10],[(3,(.b (.int .i64)))]⟩) (.q (.cond (.q .nil) .nil)) (.q (.seq (some ⟨[0,1,2,3,8,9,10],[(11,(.b (.int .i64))),(12,(.b (.int .i64)))]⟩) (.q (.cond (.q (.q .nil)) .nil)) (.seq (some ⟨[0,1,2,3,8,9,10,11],[]⟩) (.q (.cond (.q .c) .nil)) (.seq (some ⟨[0,2,3,10,11],[(1,(.b (.int .i64)))]⟩) (.q (.cond (.q (.q .nil)) .nil)) (.q (.q (.q (.q (.q (.cond (.q (.q .nil)) (.q (.q .nil)))))))))))))))))))))
def yR(p0:Sl)(p1:Int)(p2:Int)(p3:Int)(R:VWP)(w:World):Prop:=zl (S:=Int×Int×Int×Bool×Bool×Unit) (λs1 w1 n2=>ifB (decide ((IntKind.i64.wrap (s1.2.1-s1.1))<=12)) (cR 115 #[p0.zw,zi s1.1,zi s1.2.1] w1 λv3 w2=>v3=(.tuple #[])/\R (.tuple #[]) w2) (ifB (s1.2.2.1==0) (cR 116 #[p0.zw,zi s1.1,zi s1.2.1] w1 λv4 w3=>v4=(.tuple #[])/\R (.tuple #[]) w3) (zj (S:=Int×Unit) (λm5=>ifB (!s1.2.2.2.1) (cR 117 #[p0.zw,zi s1.1,zi s1.2.1] w1 λv7 w4=>v7=(.tuple #[])/\m5 ((IntKind.i64.wrap (s1.2.2.1-(1:Int))),()) w4) (m5 (s1.2.2.1,()) w1)) (λs6 w5=>dq 118 #[p0.zw,zi s1.1,zi s1.2.1] w5 λx9 x10 w6=>zj (S:=Int×Int×Unit) (λm11=>ifB (x10==2) (cR 119 #[p0.zw,zi s1.1,zi s1.2.1] w6 λv13 w7=>v13=(.tuple #[])/\m11 ((IntKind.i64.wrap ((IntKind.i64.wrap (s1.2.1-(1:Int)))-(IntKind.i64.wrap (x9-s1.1)))),1,()) w7) (m11 (x9,x10,()) w6)) (λs12 w8=>zj (S:=Unit) (λm14=>ifB s1.2.2.2.1 (ifB s1.2.2.2.2.1 (ifB (s12.2.1==1) (dL 120 #[p0.zw,zi s1.1,zi s1.2.1] w8 λx17 w9=>ifB x17 (R (.tuple #[]) w9) (m14 () w9)) (m14 () w8)) (m14 () w8)) (m14 () w8)) (λs15 w10=>zj (S:=Int×Unit) (λm18=>ifB (decide (s1.1>(0:Int))) ((0<=(IntKind.i64.wrap (s1.1-(1:Int)))/\(IntKind.i64.wrap (s1.1-(1:Int)))<(p0.l:Int))/\zc p0.a λa20=>ldI w10.drew (a20.add (Int.toNat (IntKind.i64.wrap (s1.1-(1:Int))))) .u32 λx21=>(0<=s12.1/\s12.1<(p0.l:Int))/\zc p0.a λa22=>ldI w10.drew (a22.add s12.1.toNat) .u32 λx23=>dL 121 #[zu x21,zu x23] w10.drew λx25 w11=>ifB (!x25) (dw 122 #[p0.zw,zi s1.1,zi s1.2.1,zi s12.1] w11 λx27 w12=>n2 (x27,s1.2.1,s6.1,s1.2.2.2.1,s1.2.2.2.2.1,()) w12) (m18 (s1.1,()) w11)) (m18 (s1.1,()) w10.drew)) (λs19 w13=>dy 123 #[p0.zw,zi s19.1,zi s1.2.1,zi s12.1] w13 λx29 x30 w14=>ifB (decide ((IntKind.i64.wrap (x29-s19.1))<(IntKind.i64.wrap (s1.2.1-x29)))) (cR 85 #[p0.zw,zi s19.1,zi x29,zi s6.1] w14 λv31 w15=>v31=(.tuple #[])/\n2 ((IntKind.i64.wrap (x29+(1:Int))),s1.2.1,s6.1,(decide ((IntKind.i64.wrap (x29-s19.1))≥(IntKind.i64.wrap (Int.tdiv (IntKind.i64.wrap (s1.2.1-s1.1)) 8)))),x30,()) w15) (cR 85 #[p0.zw,zi (IntKind.i64.wrap (x29+(1:Int))),zi s1.2.1,zi s6.1] w14 λv32 w16=>v32=(.tuple #[])/\n2 (s19.1,x29,s6.1,(decide ((IntKind.i64.wrap (s1.2.1-x29))≥(IntKind.i64.wrap (Int.tdiv (IntKind.i64.wrap (s1.2.1-s1.1)) 8)))),x30,()) w16)))))))) (p1,p2,p3,true,true,()) w
theorem zR(p0)(p1)(p2)(p3)(R)(w)(h:yR p0 p1 p2 p3 R w):Calls Tryz.prog 85 #[.slice p0.a p0.l p0.c,.int .i64 p1,.int .i64 p2,.int .i64 p3] w (Ret R):=lwC yV Tryz.func85 (by kernel_rfl) (by kernel_rfl) h
def zdh:Ann:=(.q (.seq none (.cond (.q .nil) .nil) (.q .nil)))
def zda(p0:Int)(R:VWP)(w:World):Prop:=dw 125 #[.int .u64 p0] w λx2 w1=>R (zi x2) w1
theorem zeq(p0)(R)(w)(h:zda p0 R w):Calls Tryz.prog 86 #[.int .u64 p0] w (Ret R):=lwC zdh Tryz.func86 (by kernel_rfl) (by kernel_rfl) h
def yj:Ann:=(.q (.one (.loop ⟨[0,1,2],[(6,(.b (.int .i64)))]⟩ (.seq none (.q .c) (.seq (some ⟨[0,1,2,6],[]⟩) (.one (.q (.one (.loop ⟨[0,1,2,6],[(7,(.b (.int .i64)))]⟩ (.seq (some ⟨[0,1,2,6,7],[]⟩) (.q .c) (.seq none (.one .nil) .nil)))))) .nil)))))
def yg(p0:Sl)(p1:Int)(p2:Int)(R:VWP)(w:World):Prop:=zl (S:=Int×Unit) (λs1 w1 n2=>ifB (decide (s1.1<p2)) (zj (S:=Unit) (λm3=>zl (S:=Int×Unit) (λs5 w2 n6=>zj (S:=Unit) (λm7=>ifB (decide (s5.1>p1)) ((0<=s5.1/\s5.1<(p0.l:Int))/\zc p0.a λa9=>ldI w2.drew (a9.add s5.1.toNat) .u32 λx10=>(0<=(IntKind.i64.wrap (s5.1-(1:Int)))/\(IntKind.i64.wrap (s5.1-(1:Int)))<(p0.l:Int))/\zc p0.a λa11=>ldI w2.drew (a11.add (Int.toNat (IntKind.i64.wrap (s5.1-(1:Int))))) .u32 λx12=>dL 121 #[zu x10,zu x12] w2.drew λx14 w3=>ifB x14 (m7 () w3) (m3 () w3)) (m3 () w2.drew)) (λs8 w4=>(0<=(IntKind.i64.wrap (s5.1-(1:Int)))/\(IntKind.i64.wrap (s5.1-(1:Int)))<(p0.l:Int))/\zc p0.a λa15=>ldI w4.drew (a15.add (Int.toNat (IntKind.i64.wrap (s5.1-(1:Int))))) .u32 λx16=>(0<=s5.1/\s5.1<(p0.l:Int))/\zc p0.a λa17=>ldI w4.drew (a17.add s5.1.toNat) .u32 λx18=>(0<=s5.1/\s5.1<(p0.l:Int))/\zc p0.a λa19=>Wr w4.drew (a19.add s5.1.toNat)/\Nw (w4.drew.setCell (a19.add s5.1.toNat) (zu x16)) λw5=>(0<=(IntKind.i64.wrap (s5.1-(1:Int)))/\(IntKind.i64.wrap (s5.1-(1:Int)))<(p0.l:Int))/\zc p0.a λa20=>Wr w5 (a20.add (Int.toNat (IntKind.i64.wrap (s5.1-(1:Int)))))/\Nw (w5.setCell (a20.add (Int.toNat (IntKind.i64.wrap (s5.1-(1:Int))))) (zu x18)) λw6=>n6 ((IntKind.i64.wrap (s5.1-(1:Int))),()) w6)) (s1.1,()) w1) (λs4 w7=>n2 ((IntKind.i64.wrap (s1.1+(1:Int))),()) w7)) (R (.tuple #[]) w1)) ((IntKind.i64.wrap (p1+(1:Int))),()) w
theorem zY(p0)(p1)(p2)(R)(w)(h:yg p0 p1 p2 R w):Calls Tryz.prog 115 #[.slice p0.a p0.l p0.c,.int .i64 p1,.int .i64 p2] w (Ret R):=lwC yj Tryz.func115 (by kernel_rfl) (by kernel_rfl) h
def yJ:Ann:=(.q (.q (.q (.seq none (.q (.one (.loop ⟨[0,6,7,8],[(9,(.b (.int .i64)))]⟩ (.seq none (.q .c) (.seq none (.one .nil) .nil))))) (.q (.one (.loop ⟨[0,6,7],[(10,(.b (.int .i64)))]⟩ (.seq none (.q .c) (.seq none (.one (.q .nil)) .nil)))))))))
def zX(p0:Sl)(p1:Int)(p2:Int)(R:VWP)(w:World):Prop:=zl (S:=Int×Unit) (λs1 w1 n2=>ifB (decide (s1.1≥(0:Int))) (cR 151 #[p0.zw,zi s1.1,zi (IntKind.i64.wrap (p2-p1)),zi p1] w1 λv3 w2=>v3=(.tuple #[])/\n2 ((IntKind.i64.wrap (s1.1-(1:Int))),()) w2) (zl (S:=Int×Unit) (λs4 w3 n5=>ifB (decide (s4.1≥(0:Int))) ((0<=(IntKind.i64.wrap (p1+s4.1))/\(IntKind.i64.wrap (p1+s4.1))<(p0.l:Int))/\zc p0.a λa6=>ldI w3.drew (a6.add (Int.toNat (IntKind.i64.wrap (p1+s4.1)))) .u32 λx7=>(0<=p1/\p1<(p0.l:Int))/\zc p0.a λa8=>ldI w3.drew (a8.add p1.toNat) .u32 λx9=>(0<=p1/\p1<(p0.l:Int))/\zc p0.a λa10=>Wr w3.drew (a10.add p1.toNat)/\Nw (w3.drew.setCell (a10.add p1.toNat) (zu x7)) λw4=>(0<=(IntKind.i64.wrap (p1+s4.1))/\(IntKind.i64.wrap (p1+s4.1))<(p0.l:Int))/\zc p0.a λa11=>Wr w4 (a11.add (Int.toNat (IntKind.i64.wrap (p1+s4.1))))/\Nw (w4.setCell (a11.add (Int.toNat (IntKind.i64.wrap (p1+s4.1)))) (zu x9)) λw5=>cR 151 #[p0.zw,zi 0,zi s4.1,zi p1] w5 λv12 w6=>v12=(.tuple #[])/\n5 ((IntKind.i64.wrap (s4.1-(1:Int))),()) w6) (R (.tuple #[]) w3)) ((IntKind.i64.wrap ((IntKind.i64.wrap (p2-p1))-1)),()) w1)) ((IntKind.i64.wrap (Int.tdiv (IntKind.i64.wrap ((IntKind.i64.wrap (p2-p1))-1)) 2)),()) w
theorem ZF(p0)(p1)(p2)(R)(w)(h:zX p0 p1 p2 R w):Calls Tryz.prog 116 #[.slice p0.a p0.l p0.c,.int .i64 p1,.int .i64 p2] w (Ret R):=lwC yJ Tryz.func116 (by kernel_rfl) (by kernel_rfl) h
def yi:Ann:=(.q (.q (.cond (.q (.q (.q (.one (.loop ⟨[0,1,6,7,8],[(9,(.b (.int .i64)))]⟩ (.seq none (.q .c) (.seq none (.one (.q (.seq (some ⟨[0,1,6,7,8,9],[(10,(.b (.int .i64)))]⟩) (.q .c) .nil))) .nil))))))) .nil)))
def zN(p0:Sl)(p1:Int)(p2:Int)(R:VWP)(w:World):Prop:=ifB (decide ((IntKind.i64.wrap (p2-p1))≥8)) (Nw (w.alloc (.cells #[.int .u64 0] 228)) λw1=>Wr w1 (zB w)/\Nw (w1.setCell (zB w) (.int .u64 (IntKind.u64.wrap (IntKind.i64.wrap (p2-p1))))) λw2=>dx52 152 #[zi (IntKind.i64.wrap (p2-p1))] w2 λx2 w3=>zl (S:=Int×Unit) (λs3 w4 n4=>ifB (decide (s3.1<=(IntKind.i64.wrap ((IntKind.i64.wrap (p1+(IntKind.i64.wrap ((IntKind.i64.wrap (Int.tdiv (IntKind.i64.wrap (p2-p1)) 4))*2))))+1)))) (dx52 153 #[.pointer (some (zB w))] w4 λx6 w5=>zj (S:=Int×Unit) (λm7=>ifB (decide ((IntKind.i64.wrap (IntKind.u64.wrap (BitVec.toNat (BitVec.ofInt (IntKind.bits .u64) x6 &&& BitVec.ofInt (IntKind.bits .u64) (IntKind.u64.wrap (x2-(1:Int)))):Int)))≥(IntKind.i64.wrap (p2-p1)))) (m7 ((IntKind.i64.wrap ((IntKind.i64.wrap (IntKind.u64.wrap (BitVec.toNat (BitVec.ofInt (IntKind.bits .u64) x6 &&& BitVec.ofInt (IntKind.bits .u64) (IntKind.u64.wrap (x2-(1:Int)))):Int)))-(IntKind.i64.wrap (p2-p1)))),()) w5) (m7 ((IntKind.i64.wrap (IntKind.u64.wrap (BitVec.toNat (BitVec.ofInt (IntKind.bits .u64) x6 &&& BitVec.ofInt (IntKind.bits .u64) (IntKind.u64.wrap (x2-(1:Int)))):Int))),()) w5)) (λs8 w6=>(0<=(IntKind.i64.wrap (p1+s8.1))/\(IntKind.i64.wrap (p1+s8.1))<(p0.l:Int))/\zc p0.a λa9=>ldI w6.drew (a9.add (Int.toNat (IntKind.i64.wrap (p1+s8.1)))) .u32 λx10=>(0<=s3.1/\s3.1<(p0.l:Int))/\zc p0.a λa11=>ldI w6.drew (a11.add s3.1.toNat) .u32 λx12=>(0<=s3.1/\s3.1<(p0.l:Int))/\zc p0.a λa13=>Wr w6.drew (a13.add s3.1.toNat)/\Nw (w6.drew.setCell (a13.add s3.1.toNat) (zu x10)) λw7=>(0<=(IntKind.i64.wrap (p1+s8.1))/\(IntKind.i64.wrap (p1+s8.1))<(p0.l:Int))/\zc p0.a λa14=>Wr w7 (a14.add (Int.toNat (IntKind.i64.wrap (p1+s8.1))))/\Nw (w7.setCell (a14.add (Int.toNat (IntKind.i64.wrap (p1+s8.1)))) (zu x12)) λw8=>n4 ((IntKind.i64.wrap (s3.1+(1:Int))),()) w8)) (R (.tuple #[]) w4)) ((IntKind.i64.wrap ((IntKind.i64.wrap (p1+(IntKind.i64.wrap ((IntKind.i64.wrap (Int.tdiv (IntKind.i64.wrap (p2-p1)) 4))*2))))-1)),()) w3) (R (.tuple #[]) w)
theorem Zw(p0)(p1)(p2)(R)(w)(h:zN p0 p1 p2 R w):Calls Tryz.prog 117 #[.slice p0.a p0.l p0.c,.int .i64 p1,.int .i64 p2] w (Ret R):=lwC yi Tryz.func117 (by kernel_rfl) (by kernel_rfl) h
def yr:Ann:=(.q (.q (.q (.q (.q (.q (.seq (some ⟨[9],[(11,(.b (.int .i64)))]⟩) (.q (.cond (.seq (some ⟨[0,9],[(10,(.b (.int .i64))),(11,(.b (.int .i64))),(12,(.b (.int .i64)))]⟩) (.q (.cond (.q (.q .nil)) .nil)) .nil) .nil)) (.q (.one (.q (.cond (.q .nil) (.q (.cond (.q .nil) (.q .nil))))))))))))))
def zQ(p0:Sl)(p1:Int)(p2:Int)(R:VWP)(w:World):Prop:=Nw (w.alloc (.cells #[zi 0] 3)) λw1=>zj (S:=Int×Unit) (λm1=>ifB (decide ((IntKind.i64.wrap (p2-p1))≥8)) (zj (S:=Int×Int×Int×Unit) (λm3=>ifB (decide ((IntKind.i64.wrap (p2-p1))≥50)) (dw 154 #[p0.zw,zi (IntKind.i64.wrap (p1+(IntKind.i64.wrap ((IntKind.i64.wrap (Int.tdiv (IntKind.i64.wrap (p2-p1)) 4))*1)))),.pointer (some (zB w))] w1 λx6 w2=>dw 154 #[p0.zw,zi (IntKind.i64.wrap (p1+(IntKind.i64.wrap ((IntKind.i64.wrap (Int.tdiv (IntKind.i64.wrap (p2-p1)) 4))*2)))),.pointer (some (zB w))] w2 λx8 w3=>dw 154 #[p0.zw,zi (IntKind.i64.wrap (p1+(IntKind.i64.wrap ((IntKind.i64.wrap (Int.tdiv (IntKind.i64.wrap (p2-p1)) 4))*3)))),.pointer (some (zB w))] w3 λx10 w4=>m3 (x6,x8,x10,()) w4) (m3 ((IntKind.i64.wrap (p1+(IntKind.i64.wrap ((IntKind.i64.wrap (Int.tdiv (IntKind.i64.wrap (p2-p1)) 4))*1)))),(IntKind.i64.wrap (p1+(IntKind.i64.wrap ((IntKind.i64.wrap (Int.tdiv (IntKind.i64.wrap (p2-p1)) 4))*2)))),(IntKind.i64.wrap (p1+(IntKind.i64.wrap ((IntKind.i64.wrap (Int.tdiv (IntKind.i64.wrap (p2-p1)) 4))*3)))),()) w1)) (λs4 w5=>dw 155 #[p0.zw,zi s4.1,zi s4.2.1,zi s4.2.2.1,.pointer (some (zB w))] w5 λx12 w6=>m1 (x12,()) w6)) (m1 ((IntKind.i64.wrap (p1+(IntKind.i64.wrap ((IntKind.i64.wrap (Int.tdiv (IntKind.i64.wrap (p2-p1)) 4))*2)))),()) w1)) (λs2 w7=>ldI w7 (zB w) .i64 λx13=>ifB (x13==0) (R (.tuple #[zi s2.1,zi 1]) w7) (ifB (x13==12) (R (.tuple #[zi s2.1,zi 2]) w7) (R (.tuple #[zi s2.1,zi 0]) w7)))
theorem Z4(p0)(p1)(p2)(R)(w)(h:zQ p0 p1 p2 R w):Calls Tryz.prog 118 #[.slice p0.a p0.l p0.c,.int .i64 p1,.int .i64 p2] w (Ret R):=lwC yr Tryz.func118 (by kernel_rfl) (by kernel_rfl) h
def yp:Ann:=(.q (.q (.one (.loop ⟨[0],[(6,(.b (.int .i64))),(7,(.b (.int .i64)))]⟩ (.seq none (.q .c) (.one (.q (.q .nil))))))))
def zO(p0:Sl)(p1:Int)(p2:Int)(R:VWP)(w:World):Prop:=zl (S:=Int×Int×Unit) (λs1 w1 n2=>ifB (decide (s1.1<s1.2.1)) ((0<=s1.2.1/\s1.2.1<(p0.l:Int))/\zc p0.a λa3=>ldI w1.drew (a3.add s1.2.1.toNat) .u32 λx4=>(0<=s1.1/\s1.1<(p0.l:Int))/\zc p0.a λa5=>ldI w1.drew (a5.add s1.1.toNat) .u32 λx6=>(0<=s1.1/\s1.1<(p0.l:Int))/\zc p0.a λa7=>Wr w1.drew (a7.add s1.1.toNat)/\Nw (w1.drew.setCell (a7.add s1.1.toNat) (zu x4)) λw2=>(0<=s1.2.1/\s1.2.1<(p0.l:Int))/\zc p0.a λa8=>Wr w2 (a8.add s1.2.1.toNat)/\Nw (w2.setCell (a8.add s1.2.1.toNat) (zu x6)) λw3=>n2 ((IntKind.i64.wrap (s1.1+(1:Int))),(IntKind.i64.wrap (s1.2.1-(1:Int))),()) w3) (R (.tuple #[]) w1)) (p1,(IntKind.i64.wrap (p2-(1:Int))),()) w
theorem Z0(p0)(p1)(p2)(R)(w)(h:zO p0 p1 p2 R w):Calls Tryz.prog 119 #[.slice p0.a p0.l p0.c,.int .i64 p1,.int .i64 p2] w (Ret R):=lwC yp Tryz.func119 (by kernel_rfl) (by kernel_rfl) h
def zV:Ann:=(.q (.q (.seq none (.q (.one (.loop ⟨[0,1,2],[(7,(.b (.int .i64))),(8,(.b (.int .i64)))]⟩ (.seq none (.q .c) (.seq (some ⟨[0,1,2,8],[(7,(.b (.int .i64)))]⟩) (.one (.seq (some ⟨[0,1,2,8],[(7,(.b (.int .i64)))]⟩) (.one (.loop ⟨[0,1,2,8],[(7,(.b (.int .i64)))]⟩ (.seq (some ⟨[0,1,2,7,8],[]⟩) (.q .c) (.one .nil)))) (.seq none (.q (.cond (.q .nil) .nil)) (.seq none (.q (.cond (.q .nil) .nil)) (.q (.seq (some ⟨[0,1,2,7,8],[]⟩) (.q (.cond (.q (.one (.loop ⟨[0,1,2,7,8],[(9,(.b (.int .i64)))]⟩ (.seq none (.q .c) (.seq none (.one (.seq none (.q .c) .nil)) .nil))))) .nil)) (.q (.cond (.q (.one (.loop ⟨[0,1,2,7,8],[(10,(.b (.int .i64)))]⟩ (.seq none (.q .c) (.seq none (.one (.seq none (.q .c) .nil)) .nil))))) .nil)))))))) .nil))))) (.q .nil))))
def zG(p0:Sl)(p1:Int)(p2:Int)(R:VWP)(w:World):Prop:=zl (S:=Int×Int×Unit) (λs1 w1 n2=>ifB (decide (s1.2.1<(5:Int))) (zj (S:=Int×Unit) (λm3=>zj (S:=Int×Unit) (λm5=>zl (S:=Int×Unit) (λs7 w2 n8=>zj (S:=Unit) (λm9=>ifB (decide (s7.1<p2)) ((0<=s7.1/\s7.1<(p0.l:Int))/\zc p0.a λa11=>ldI w2.drew (a11.add s7.1.toNat) .u32 λx12=>(0<=(IntKind.i64.wrap (s7.1-(1:Int)))/\(IntKind.i64.wrap (s7.1-(1:Int)))<(p0.l:Int))/\zc p0.a λa13=>ldI w2.drew (a13.add (Int.toNat (IntKind.i64.wrap (s7.1-(1:Int))))) .u32 λx14=>dL 121 #[zu x12,zu x14] w2.drew λx16 w3=>ifB (!x16) (m9 () w3) (m5 (s7.1,()) w3)) (m5 (s7.1,()) w2.drew)) (λs10 w4=>n8 ((IntKind.i64.wrap (s7.1+(1:Int))),()) w4)) (s1.1,()) w1) (λs6 w5=>ifB (s6.1==p2) (R (.bool true) w5) (ifB (decide ((IntKind.i64.wrap (p2-p1))<50)) (R (.bool false) w5) ((0<=(IntKind.i64.wrap (s6.1-(1:Int)))/\(IntKind.i64.wrap (s6.1-(1:Int)))<(p0.l:Int))/\zc p0.a λa17=>ldI w5.drew (a17.add (Int.toNat (IntKind.i64.wrap (s6.1-(1:Int))))) .u32 λx18=>(0<=s6.1/\s6.1<(p0.l:Int))/\zc p0.a λa19=>ldI w5.drew (a19.add s6.1.toNat) .u32 λx20=>(0<=s6.1/\s6.1<(p0.l:Int))/\zc p0.a λa21=>Wr w5.drew (a21.add s6.1.toNat)/\Nw (w5.drew.setCell (a21.add s6.1.toNat) (zu x18)) λw6=>(0<=(IntKind.i64.wrap (s6.1-(1:Int)))/\(IntKind.i64.wrap (s6.1-(1:Int)))<(p0.l:Int))/\zc p0.a λa22=>Wr w6 (a22.add (Int.toNat (IntKind.i64.wrap (s6.1-(1:Int)))))/\Nw (w6.setCell (a22.add (Int.toNat (IntKind.i64.wrap (s6.1-(1:Int))))) (zu x20)) λw7=>zj (S:=Unit) (λm23=>ifB (decide ((IntKind.i64.wrap (s6.1-p1))≥2)) (zl (S:=Int×Unit) (λs25 w8 n26=>ifB (decide (s25.1≥(1:Int))) ((0<=s25.1/\s25.1<(p0.l:Int))/\zc p0.a λa27=>ldI w8.drew (a27.add s25.1.toNat) .u32 λx28=>(0<=(IntKind.i64.wrap (s25.1-(1:Int)))/\(IntKind.i64.wrap (s25.1-(1:Int)))<(p0.l:Int))/\zc p0.a λa29=>ldI w8.drew (a29.add (Int.toNat (IntKind.i64.wrap (s25.1-(1:Int))))) .u32 λx30=>dL 121 #[zu x28,zu x30] w8.drew λx32 w9=>ifB (!x32) (m23 () w9) ((0<=(IntKind.i64.wrap (s25.1-(1:Int)))/\(IntKind.i64.wrap (s25.1-(1:Int)))<(p0.l:Int))/\zc p0.a λa33=>ldI w9.drew (a33.add (Int.toNat (IntKind.i64.wrap (s25.1-(1:Int))))) .u32 λx34=>(0<=s25.1/\s25.1<(p0.l:Int))/\zc p0.a λa35=>ldI w9.drew (a35.add s25.1.toNat) .u32 λx36=>(0<=s25.1/\s25.1<(p0.l:Int))/\zc p0.a λa37=>Wr w9.drew (a37.add s25.1.toNat)/\Nw (w9.drew.setCell (a37.add s25.1.toNat) (zu x34)) λw10=>(0<=(IntKind.i64.wrap (s25.1-(1:Int)))/\(IntKind.i64.wrap (s25.1-(1:Int)))<(p0.l:Int))/\zc p0.a λa38=>Wr w10 (a38.add (Int.toNat (IntKind.i64.wrap (s25.1-(1:Int)))))/\Nw (w10.setCell (a38.add (Int.toNat (IntKind.i64.wrap (s25.1-(1:Int))))) (zu x36)) λw11=>n26 ((IntKind.i64.wrap (s25.1-(1:Int))),()) w11)) (m23 () w8)) ((IntKind.i64.wrap (s6.1-(1:Int))),()) w7) (m23 () w7)) (λs24 w12=>ifB (decide ((IntKind.i64.wrap (p2-s6.1))≥2)) (zl (S:=Int×Unit) (λs39 w13 n40=>ifB (decide (s39.1<p2)) ((0<=s39.1/\s39.1<(p0.l:Int))/\zc p0.a λa41=>ldI w13.drew (a41.add s39.1.toNat) .u32 λx42=>(0<=(IntKind.i64.wrap (s39.1-(1:Int)))/\(IntKind.i64.wrap (s39.1-(1:Int)))<(p0.l:Int))/\zc p0.a λa43=>ldI w13.drew (a43.add (Int.toNat (IntKind.i64.wrap (s39.1-(1:Int))))) .u32 λx44=>dL 121 #[zu x42,zu x44] w13.drew λx46 w14=>ifB (!x46) (m3 (s6.1,()) w14) ((0<=(IntKind.i64.wrap (s39.1-(1:Int)))/\(IntKind.i64.wrap (s39.1-(1:Int)))<(p0.l:Int))/\zc p0.a λa47=>ldI w14.drew (a47.add (Int.toNat (IntKind.i64.wrap (s39.1-(1:Int))))) .u32 λx48=>(0<=s39.1/\s39.1<(p0.l:Int))/\zc p0.a λa49=>ldI w14.drew (a49.add s39.1.toNat) .u32 λx50=>(0<=s39.1/\s39.1<(p0.l:Int))/\zc p0.a λa51=>Wr w14.drew (a51.add s39.1.toNat)/\Nw (w14.drew.setCell (a51.add s39.1.toNat) (zu x48)) λw15=>(0<=(IntKind.i64.wrap (s39.1-(1:Int)))/\(IntKind.i64.wrap (s39.1-(1:Int)))<(p0.l:Int))/\zc p0.a λa52=>Wr w15 (a52.add (Int.toNat (IntKind.i64.wrap (s39.1-(1:Int)))))/\Nw (w15.setCell (a52.add (Int.toNat (IntKind.i64.wrap (s39.1-(1:Int))))) (zu x50)) λw16=>n40 ((IntKind.i64.wrap (s39.1+(1:Int))),()) w16)) (m3 (s6.1,()) w13)) ((IntKind.i64.wrap (s6.1+(1:Int))),()) w12) (m3 (s6.1,()) w12)))))) (λs4 w17=>n2 (s4.1,(IntKind.i64.wrap (s1.2.1+(1:Int))),()) w17)) (R (.bool false) w1)) ((IntKind.i64.wrap (p1+(1:Int))),0,()) w
theorem yD(p0)(p1)(p2)(R)(w)(h:zG p0 p1 p2 R w):Calls Tryz.prog 120 #[.slice p0.a p0.l p0.c,.int .i64 p1,.int .i64 p2] w (Ret R):=lwC zV Tryz.func120 (by kernel_rfl) (by kernel_rfl) h
def zb6:Ann:=(.q (.q .nil))
def zbx(p0:Int)(p1:Int)(R:VWP)(w:World):Prop:=dL 156 #[zu p0] w λx2 w1=>ifB x2 (dL 156 #[zu p1] w1 λx4 w2=>ifB (!x4) (R (.bool true) w2) (R (.bool (decide (p0<p1))) w2)) (R (.bool (decide (p0<p1))) w1)
theorem zdk(p0)(p1)(R)(w)(h:zbx p0 p1 R w):Calls Tryz.prog 121 #[.int .u32 p0,.int .u32 p1] w (Ret R):=lwC zb6 Tryz.func121 (by kernel_rfl) (by kernel_rfl) h
def ye:Ann:=(.q (.q (.q (.seq none (.one (.loop ⟨[0,1],[(9,(.b (.int .i64))),(10,(.b (.int .i64)))]⟩ (.one (.seq (some ⟨[0,1,10],[(9,(.b (.int .i64)))]⟩) (.one (.loop ⟨[0,1,10],[(9,(.b (.int .i64)))]⟩ (.seq (some ⟨[0,1,9,10],[]⟩) (.q .c) (.one .nil)))) (.seq (some ⟨[0,1,9],[(10,(.b (.int .i64)))]⟩) (.one (.loop ⟨[0,1,9],[(10,(.b (.int .i64)))]⟩ (.seq (some ⟨[0,1,9,10],[]⟩) (.q .c) (.one .nil)))) (.seq none (.q .c) (.q (.q .nil)))))))) (.q .nil)))))
def zL(p0:Sl)(p1:Int)(p2:Int)(p3:Int)(R:VWP)(w:World):Prop:=(0<=p3/\p3<(p0.l:Int))/\zc p0.a λa1=>ldI w.drew (a1.add p3.toNat) .u32 λx2=>(0<=p1/\p1<(p0.l:Int))/\zc p0.a λa3=>ldI w.drew (a3.add p1.toNat) .u32 λx4=>(0<=p1/\p1<(p0.l:Int))/\zc p0.a λa5=>Wr w.drew (a5.add p1.toNat)/\Nw (w.drew.setCell (a5.add p1.toNat) (zu x2)) λw1=>(0<=p3/\p3<(p0.l:Int))/\zc p0.a λa6=>Wr w1 (a6.add p3.toNat)/\Nw (w1.setCell (a6.add p3.toNat) (zu x4)) λw2=>zl (S:=Int×Int×Unit) (λs7 w3 n8=>zj (S:=Int×Unit) (λm9=>zl (S:=Int×Unit) (λs11 w4 n12=>zj (S:=Unit) (λm13=>ifB (decide (s11.1<=s7.2.1)) ((0<=p1/\p1<(p0.l:Int))/\zc p0.a λa15=>ldI w4.drew (a15.add p1.toNat) .u32 λx16=>(0<=s11.1/\s11.1<(p0.l:Int))/\zc p0.a λa17=>ldI w4.drew (a17.add s11.1.toNat) .u32 λx18=>dL 121 #[zu x16,zu x18] w4.drew λx20 w5=>ifB (!x20) (m13 () w5) (m9 (s11.1,()) w5)) (m9 (s11.1,()) w4.drew)) (λs14 w6=>n12 ((IntKind.i64.wrap (s11.1+(1:Int))),()) w6)) (s7.1,()) w3) (λs10 w7=>zj (S:=Int×Unit) (λm21=>zl (S:=Int×Unit) (λs23 w8 n24=>zj (S:=Unit) (λm25=>ifB (decide (s10.1<=s23.1)) ((0<=p1/\p1<(p0.l:Int))/\zc p0.a λa27=>ldI w8.drew (a27.add p1.toNat) .u32 λx28=>(0<=s23.1/\s23.1<(p0.l:Int))/\zc p0.a λa29=>ldI w8.drew (a29.add s23.1.toNat) .u32 λx30=>dL 121 #[zu x28,zu x30] w8.drew λx32 w9=>ifB x32 (m25 () w9) (m21 (s23.1,()) w9)) (m21 (s23.1,()) w8.drew)) (λs26 w10=>n24 ((IntKind.i64.wrap (s23.1-(1:Int))),()) w10)) (s7.2.1,()) w7) (λs22 w11=>ifB (decide (s10.1>s22.1)) (R (zi s10.1) w11) ((0<=s22.1/\s22.1<(p0.l:Int))/\zc p0.a λa33=>ldI w11.drew (a33.add s22.1.toNat) .u32 λx34=>(0<=s10.1/\s10.1<(p0.l:Int))/\zc p0.a λa35=>ldI w11.drew (a35.add s10.1.toNat) .u32 λx36=>(0<=s10.1/\s10.1<(p0.l:Int))/\zc p0.a λa37=>Wr w11.drew (a37.add s10.1.toNat)/\Nw (w11.drew.setCell (a37.add s10.1.toNat) (zu x34)) λw12=>(0<=s22.1/\s22.1<(p0.l:Int))/\zc p0.a λa38=>Wr w12 (a38.add s22.1.toNat)/\Nw (w12.setCell (a38.add s22.1.toNat) (zu x36)) λw13=>n8 ((IntKind.i64.wrap (s10.1+(1:Int))),(IntKind.i64.wrap (s22.1-(1:Int))),()) w13)))) ((IntKind.i64.wrap (p1+(1:Int))),(IntKind.i64.wrap (p2-(1:Int))),()) w2
theorem Zr(p0)(p1)(p2)(p3)(R)(w)(h:zL p0 p1 p2 p3 R w):Calls Tryz.prog 122 #[.slice p0.a p0.l p0.c,.int .i64 p1,.int .i64 p2,.int .i64 p3] w (Ret R):=lwC ye Tryz.func122 (by kernel_rfl) (by kernel_rfl) h
def y8:Ann:=(.q (.q (.q (.seq (some ⟨[0,1,11],[(10,(.b (.int .i64)))]⟩) (.one (.loop ⟨[0,1,11],[(10,(.b (.int .i64)))]⟩ (.seq (some ⟨[0,1,10,11],[]⟩) (.q .c) (.one .nil)))) (.seq (some ⟨[0,1,10],[(11,(.b (.int .i64)))]⟩) (.one (.loop ⟨[0,1,10],[(11,(.b (.int .i64)))]⟩ (.seq (some ⟨[0,1,10,11],[]⟩) (.q .c) (.one .nil)))) (.seq none (.q (.cond (.q (.q .nil)) .nil)) (.q (.q (.q (.seq none (.one (.loop ⟨[0,1],[(10,(.b (.int .i64))),(11,(.b (.int .i64)))]⟩ (.one (.seq (some ⟨[0,1,11],[(10,(.b (.int .i64)))]⟩) (.one (.loop ⟨[0,1,11],[(10,(.b (.int .i64)))]⟩ (.seq (some ⟨[0,1,10,11],[]⟩) (.q .c) (.one .nil)))) (.seq (some ⟨[0,1,10],[(11,(.b (.int .i64)))]⟩) (.one (.loop ⟨[0,1,10],[(11,(.b (.int .i64)))]⟩ (.seq (some ⟨[0,1,10,11],[]⟩) (.q .c) (.one .nil)))) (.seq none (.q .c) (.q (.q .nil)))))))) (.q (.q .nil))))))))))))
def zW(p0:Sl)(p1:Int)(p2:Int)(p3:Int)(R:VWP)(w:World):Prop:=(0<=p3/\p3<(p0.l:Int))/\zc p0.a λa1=>ldI w.drew (a1.add p3.toNat) .u32 λx2=>(0<=p1/\p1<(p0.l:Int))/\zc p0.a λa3=>ldI w.drew (a3.add p1.toNat) .u32 λx4=>(0<=p1/\p1<(p0.l:Int))/\zc p0.a λa5=>Wr w.drew (a5.add p1.toNat)/\Nw (w.drew.setCell (a5.add p1.toNat) (zu x2)) λw1=>(0<=p3/\p3<(p0.l:Int))/\zc p0.a λa6=>Wr w1 (a6.add p3.toNat)/\Nw (w1.setCell (a6.add p3.toNat) (zu x4)) λw2=>zj (S:=Int×Unit) (λm7=>zl (S:=Int×Unit) (λs9 w3 n10=>zj (S:=Unit) (λm11=>ifB (decide (s9.1<=(IntKind.i64.wrap (p2-(1:Int))))) ((0<=s9.1/\s9.1<(p0.l:Int))/\zc p0.a λa13=>ldI w3.drew (a13.add s9.1.toNat) .u32 λx14=>(0<=p1/\p1<(p0.l:Int))/\zc p0.a λa15=>ldI w3.drew (a15.add p1.toNat) .u32 λx16=>dL 121 #[zu x14,zu x16] w3.drew λx18 w4=>ifB x18 (m11 () w4) (m7 (s9.1,()) w4)) (m7 (s9.1,()) w3.drew)) (λs12 w5=>n10 ((IntKind.i64.wrap (s9.1+(1:Int))),()) w5)) ((IntKind.i64.wrap (p1+(1:Int))),()) w2) (λs8 w6=>zj (S:=Int×Unit) (λm19=>zl (S:=Int×Unit) (λs21 w7 n22=>zj (S:=Unit) (λm23=>ifB (decide (s8.1<=s21.1)) ((0<=s21.1/\s21.1<(p0.l:Int))/\zc p0.a λa25=>ldI w7.drew (a25.add s21.1.toNat) .u32 λx26=>(0<=p1/\p1<(p0.l:Int))/\zc p0.a λa27=>ldI w7.drew (a27.add p1.toNat) .u32 λx28=>dL 121 #[zu x26,zu x28] w7.drew λx30 w8=>ifB (!x30) (m23 () w8) (m19 (s21.1,()) w8)) (m19 (s21.1,()) w7.drew)) (λs24 w9=>n22 ((IntKind.i64.wrap (s21.1-(1:Int))),()) w9)) ((IntKind.i64.wrap (p2-(1:Int))),()) w6) (λs20 w10=>ifB (decide (s8.1>s20.1)) ((0<=p1/\p1<(p0.l:Int))/\zc p0.a λa31=>ldI w10.drew (a31.add p1.toNat) .u32 λx32=>(0<=s20.1/\s20.1<(p0.l:Int))/\zc p0.a λa33=>ldI w10.drew (a33.add s20.1.toNat) .u32 λx34=>(0<=s20.1/\s20.1<(p0.l:Int))/\zc p0.a λa35=>Wr w10.drew (a35.add s20.1.toNat)/\Nw (w10.drew.setCell (a35.add s20.1.toNat) (zu x32)) λw11=>(0<=p1/\p1<(p0.l:Int))/\zc p0.a λa36=>Wr w11 (a36.add p1.toNat)/\Nw (w11.setCell (a36.add p1.toNat) (zu x34)) λw12=>R (.tuple #[zi s20.1,.bool true]) w12) ((0<=s20.1/\s20.1<(p0.l:Int))/\zc p0.a λa37=>ldI w10.drew (a37.add s20.1.toNat) .u32 λx38=>(0<=s8.1/\s8.1<(p0.l:Int))/\zc p0.a λa39=>ldI w10.drew (a39.add s8.1.toNat) .u32 λx40=>(0<=s8.1/\s8.1<(p0.l:Int))/\zc p0.a λa41=>Wr w10.drew (a41.add s8.1.toNat)/\Nw (w10.drew.setCell (a41.add s8.1.toNat) (zu x38)) λw13=>(0<=s20.1/\s20.1<(p0.l:Int))/\zc p0.a λa42=>Wr w13 (a42.add s20.1.toNat)/\Nw (w13.setCell (a42.add s20.1.toNat) (zu x40)) λw14=>zl (S:=Int×Int×Unit) (λs43 w15 n44=>zj (S:=Int×Unit) (λm45=>zl (S:=Int×Unit) (λs47 w16 n48=>zj (S:=Unit) (λm49=>ifB (decide (s47.1<=s43.2.1)) ((0<=s47.1/\s47.1<(p0.l:Int))/\zc p0.a λa51=>ldI w16.drew (a51.add s47.1.toNat) .u32 λx52=>(0<=p1/\p1<(p0.l:Int))/\zc p0.a λa53=>ldI w16.drew (a53.add p1.toNat) .u32 λx54=>dL 121 #[zu x52,zu x54] w16.drew λx56 w17=>ifB x56 (m49 () w17) (m45 (s47.1,()) w17)) (m45 (s47.1,()) w16.drew)) (λs50 w18=>n48 ((IntKind.i64.wrap (s47.1+(1:Int))),()) w18)) (s43.1,()) w15) (λs46 w19=>zj (S:=Int×Unit) (λm57=>zl (S:=Int×Unit) (λs59 w20 n60=>zj (S:=Unit) (λm61=>ifB (decide (s46.1<=s59.1)) ((0<=s59.1/\s59.1<(p0.l:Int))/\zc p0.a λa63=>ldI w20.drew (a63.add s59.1.toNat) .u32 λx64=>(0<=p1/\p1<(p0.l:Int))/\zc p0.a λa65=>ldI w20.drew (a65.add p1.toNat) .u32 λx66=>dL 121 #[zu x64,zu x66] w20.drew λx68 w21=>ifB (!x68) (m61 () w21) (m57 (s59.1,()) w21)) (m57 (s59.1,()) w20.drew)) (λs62 w22=>n60 ((IntKind.i64.wrap (s59.1-(1:Int))),()) w22)) (s43.2.1,()) w19) (λs58 w23=>ifB (decide (s46.1>s58.1)) ((0<=p1/\p1<(p0.l:Int))/\zc p0.a λa69=>ldI w23.drew (a69.add p1.toNat) .u32 λx70=>(0<=s58.1/\s58.1<(p0.l:Int))/\zc p0.a λa71=>ldI w23.drew (a71.add s58.1.toNat) .u32 λx72=>(0<=s58.1/\s58.1<(p0.l:Int))/\zc p0.a λa73=>Wr w23.drew (a73.add s58.1.toNat)/\Nw (w23.drew.setCell (a73.add s58.1.toNat) (zu x70)) λw24=>(0<=p1/\p1<(p0.l:Int))/\zc p0.a λa74=>Wr w24 (a74.add p1.toNat)/\Nw (w24.setCell (a74.add p1.toNat) (zu x72)) λw25=>R (.tuple #[zi s58.1,.bool false]) w25) ((0<=s58.1/\s58.1<(p0.l:Int))/\zc p0.a λa75=>ldI w23.drew (a75.add s58.1.toNat) .u32 λx76=>(0<=s46.1/\s46.1<(p0.l:Int))/\zc p0.a λa77=>ldI w23.drew (a77.add s46.1.toNat) .u32 λx78=>(0<=s46.1/\s46.1<(p0.l:Int))/\zc p0.a λa79=>Wr w23.drew (a79.add s46.1.toNat)/\Nw (w23.drew.setCell (a79.add s46.1.toNat) (zu x76)) λw26=>(0<=s58.1/\s58.1<(p0.l:Int))/\zc p0.a λa80=>Wr w26 (a80.add s58.1.toNat)/\Nw (w26.setCell (a80.add s58.1.toNat) (zu x78)) λw27=>n44 ((IntKind.i64.wrap (s46.1+(1:Int))),(IntKind.i64.wrap (s58.1-(1:Int))),()) w27)))) ((IntKind.i64.wrap (s8.1+(1:Int))),(IntKind.i64.wrap (s20.1-(1:Int))),()) w14)))
theorem ZA(p0)(p1)(p2)(p3)(R)(w)(h:zW p0 p1 p2 p3 R w):Calls Tryz.prog 123 #[.slice p0.a p0.l p0.c,.int .i64 p1,.int .i64 p2,.int .i64 p3] w (Ret R):=lwC y8 Tryz.func123 (by kernel_rfl) (by kernel_rfl) h
def zbD:Ann:=(.q (.seq (some ⟨[],[(0,(.b (.int .u64))),(2,(.b (.int .i64)))]⟩) (.q (.cond (.q .nil) .nil)) (.seq (some ⟨[],[(0,(.b (.int .u64))),(2,(.b (.int .i64)))]⟩) (.q (.cond (.q .nil) .nil)) (.seq (some ⟨[],[(0,(.b (.int .u64))),(2,(.b (.int .i64)))]⟩) (.q (.cond (.q .nil) .nil)) (.q .nil)))))
def zb4(p0:Int)(R:VWP)(w:World):Prop:=zj (S:=Int×Int×Unit) (λm1=>ifB (decide (p0≥(4294967296:Int))) (m1 ((Int.fdiv p0 (2 ^ (min 32 (IntKind.bits .u64)))),32,()) w) (m1 (p0,0,()) w)) (λs2 w1=>zj (S:=Int×Int×Unit) (λm3=>ifB (decide (s2.1≥(65536:Int))) (m3 ((Int.fdiv s2.1 (2 ^ (min 16 (IntKind.bits .u64)))),(IntKind.i64.wrap (s2.2.1+(16:Int))),()) w1) (m3 (s2.1,s2.2.1,()) w1)) (λs4 w2=>zj (S:=Int×Int×Unit) (λm5=>ifB (decide (s4.1≥(256:Int))) (m5 ((Int.fdiv s4.1 (2 ^ (min 8 (IntKind.bits .u64)))),(IntKind.i64.wrap (s4.2.1+(8:Int))),()) w2) (m5 (s4.1,s4.2.1,()) w2)) (λs6 w3=>(0<=(IntKind.u8.wrap s6.1)/\(IntKind.u8.wrap s6.1)<((BM #[0,1,2,2,3,3,3,3,4,4,4,4,4,4,4,4,5,5,5,5,5,5,5,5,5,5,5,5,5,5,5,5,6,6,6,6,6,6,6,6,6,6,6,6,6,6,6,6,6,6,6,6,6,6,6,6,6,6,6,6,6,6,6,6,7,7,7,7,7,7,7,7,7,7,7,7,7,7,7,7,7,7,7,7,7,7,7,7,7,7,7,7,7,7,7,7,7,7,7,7,7,7,7,7,7,7,7,7,7,7,7,7,7,7,7,7,7,7,7,7,7,7,7,7,7,7,7,7,8,8,8,8,8,8,8,8,8,8,8,8,8,8,8,8,8,8,8,8,8,8,8,8,8,8,8,8,8,8,8,8,8,8,8,8,8,8,8,8,8,8,8,8,8,8,8,8,8,8,8,8,8,8,8,8,8,8,8,8,8,8,8,8,8,8,8,8,8,8,8,8,8,8,8,8,8,8,8,8,8,8,8,8,8,8,8,8,8,8,8,8,8,8,8,8,8,8,8,8,8,8,8,8,8,8,8,8,8,8,8,8,8,8,8,8,8,8,8,8,8,8,8,8,8,8,8,8]).size:Int))/\R (zi (IntKind.i64.wrap (s6.2.1+(IntKind.i64.wrap (zaA (BM #[0,1,2,2,3,3,3,3,4,4,4,4,4,4,4,4,5,5,5,5,5,5,5,5,5,5,5,5,5,5,5,5,6,6,6,6,6,6,6,6,6,6,6,6,6,6,6,6,6,6,6,6,6,6,6,6,6,6,6,6,6,6,6,6,7,7,7,7,7,7,7,7,7,7,7,7,7,7,7,7,7,7,7,7,7,7,7,7,7,7,7,7,7,7,7,7,7,7,7,7,7,7,7,7,7,7,7,7,7,7,7,7,7,7,7,7,7,7,7,7,7,7,7,7,7,7,7,7,8,8,8,8,8,8,8,8,8,8,8,8,8,8,8,8,8,8,8,8,8,8,8,8,8,8,8,8,8,8,8,8,8,8,8,8,8,8,8,8,8,8,8,8,8,8,8,8,8,8,8,8,8,8,8,8,8,8,8,8,8,8,8,8,8,8,8,8,8,8,8,8,8,8,8,8,8,8,8,8,8,8,8,8,8,8,8,8,8,8,8,8,8,8,8,8,8,8,8,8,8,8,8,8,8,8,8,8,8,8,8,8,8,8,8,8,8,8,8,8,8,8,8,8,8,8,8,8]) (IntKind.u8.wrap s6.1)))))) w3)))
theorem zdr(p0)(R)(w)(h:zb4 p0 R w):Calls Tryz.prog 125 #[.int .u64 p0] w (Ret R):=lwC zbD Tryz.func125 (by kernel_rfl) (by kernel_rfl) h
def yK:Ann:=(.q (.one (.loop ⟨[0,2,3],[(8,(.b (.int .i64)))]⟩ (.one (.q (.seq none (.q .c) (.seq (some ⟨[0,2,3,8],[(9,(.b (.int .i64)))]⟩) (.q .c) (.seq none (.q .c) (.q .nil)))))))))
def yH(p0:Sl)(p1:Int)(p2:Int)(p3:Int)(R:VWP)(w:World):Prop:=zl (S:=Int×Unit) (λs1 w1 n2=>ifB (decide ((IntKind.i64.wrap ((IntKind.i64.wrap (2*s1.1))+1))≥p2)) (R (.tuple #[]) w1) (zj (S:=Int×Unit) (λm3=>ifB (decide ((IntKind.i64.wrap ((IntKind.i64.wrap ((IntKind.i64.wrap (2*s1.1))+1))+1))<p2)) ((0<=(IntKind.i64.wrap (p3+(IntKind.i64.wrap ((IntKind.i64.wrap (2*s1.1))+1))))/\(IntKind.i64.wrap (p3+(IntKind.i64.wrap ((IntKind.i64.wrap (2*s1.1))+1))))<(p0.l:Int))/\zc p0.a λa5=>ldI w1.drew (a5.add (Int.toNat (IntKind.i64.wrap (p3+(IntKind.i64.wrap ((IntKind.i64.wrap (2*s1.1))+1)))))) .u32 λx6=>(0<=(IntKind.i64.wrap ((IntKind.i64.wrap (p3+(IntKind.i64.wrap ((IntKind.i64.wrap (2*s1.1))+1))))+1))/\(IntKind.i64.wrap ((IntKind.i64.wrap (p3+(IntKind.i64.wrap ((IntKind.i64.wrap (2*s1.1))+1))))+1))<(p0.l:Int))/\zc p0.a λa7=>ldI w1.drew (a7.add (Int.toNat (IntKind.i64.wrap ((IntKind.i64.wrap (p3+(IntKind.i64.wrap ((IntKind.i64.wrap (2*s1.1))+1))))+1)))) .u32 λx8=>dL 121 #[zu x6,zu x8] w1.drew λx10 w2=>ifB x10 (m3 ((IntKind.i64.wrap ((IntKind.i64.wrap ((IntKind.i64.wrap (2*s1.1))+1))+1)),()) w2) (m3 ((IntKind.i64.wrap ((IntKind.i64.wrap (2*s1.1))+1)),()) w2)) (m3 ((IntKind.i64.wrap ((IntKind.i64.wrap (2*s1.1))+1)),()) w1.drew)) (λs4 w3=>(0<=(IntKind.i64.wrap (p3+s1.1))/\(IntKind.i64.wrap (p3+s1.1))<(p0.l:Int))/\zc p0.a λa11=>ldI w3.drew (a11.add (Int.toNat (IntKind.i64.wrap (p3+s1.1)))) .u32 λx12=>(0<=(IntKind.i64.wrap (p3+s4.1))/\(IntKind.i64.wrap (p3+s4.1))<(p0.l:Int))/\zc p0.a λa13=>ldI w3.drew (a13.add (Int.toNat (IntKind.i64.wrap (p3+s4.1)))) .u32 λx14=>dL 121 #[zu x12,zu x14] w3.drew λx16 w4=>ifB (!x16) (R (.tuple #[]) w4) ((0<=(IntKind.i64.wrap (p3+s4.1))/\(IntKind.i64.wrap (p3+s4.1))<(p0.l:Int))/\zc p0.a λa17=>ldI w4.drew (a17.add (Int.toNat (IntKind.i64.wrap (p3+s4.1)))) .u32 λx18=>(0<=(IntKind.i64.wrap (p3+s1.1))/\(IntKind.i64.wrap (p3+s1.1))<(p0.l:Int))/\zc p0.a λa19=>ldI w4.drew (a19.add (Int.toNat (IntKind.i64.wrap (p3+s1.1)))) .u32 λx20=>(0<=(IntKind.i64.wrap (p3+s1.1))/\(IntKind.i64.wrap (p3+s1.1))<(p0.l:Int))/\zc p0.a λa21=>Wr w4.drew (a21.add (Int.toNat (IntKind.i64.wrap (p3+s1.1))))/\Nw (w4.drew.setCell (a21.add (Int.toNat (IntKind.i64.wrap (p3+s1.1)))) (zu x18)) λw5=>(0<=(IntKind.i64.wrap (p3+s4.1))/\(IntKind.i64.wrap (p3+s4.1))<(p0.l:Int))/\zc p0.a λa22=>Wr w5 (a22.add (Int.toNat (IntKind.i64.wrap (p3+s4.1))))/\Nw (w5.setCell (a22.add (Int.toNat (IntKind.i64.wrap (p3+s4.1)))) (zu x20)) λw6=>n2 (s4.1,()) w6)))) (p1,()) w
theorem ZG(p0)(p1)(p2)(p3)(R)(w)(h:yH p0 p1 p2 p3 R w):Calls Tryz.prog 151 #[.slice p0.a p0.l p0.c,.int .i64 p1,.int .i64 p2,.int .i64 p3] w (Ret R):=lwC yK Tryz.func151 (by kernel_rfl) (by kernel_rfl) h
def ZV:Ann:=(.q (.q .nil))
def yQ(p0:Int)(R:VWP)(w:World):Prop:=dw 86 #[.int .u64 (IntKind.u64.wrap p0)] w λx2 w1=>ifB (decide (x2<0)) (False) (R (.int .u64 (IntKind.u64.wrap ((1:Int)*2 ^ (min x2.toNat (IntKind.bits .u64))))) w1)
theorem zaL(p0)(R)(w)(h:yQ p0 R w):Calls Tryz.prog 152 #[.int .i64 p0] w (Ret R):=lwC ZV Tryz.func152 (by kernel_rfl) (by kernel_rfl) h
def Yp:Ann:=(.q (.q (.q (.q (.q .nil)))))
def Yl(p0:Option Addr)(R:VWP)(w:World):Prop:=zc p0 λa1=>ldI w.drew a1 .u64 λx2=>zc p0 λa3=>ldI w.drew a3 .u64 λx4=>zc p0 λa5=>Wr w.drew a5/\Nw (w.drew.setCell a5 (.int .u64 (IntKind.u64.wrap (BitVec.toNat (BitVec.ofInt (IntKind.bits .u64) x2 ^^^ BitVec.ofInt (IntKind.bits .u64) (IntKind.u64.wrap (x4*2 ^ (min 13 (IntKind.bits .u64))))):Int)))) λw1=>zc p0 λa6=>ldI w1.drew a6 .u64 λx7=>zc p0 λa8=>ldI w1.drew a8 .u64 λx9=>zc p0 λa10=>Wr w1.drew a10/\Nw (w1.drew.setCell a10 (.int .u64 (IntKind.u64.wrap (BitVec.toNat (BitVec.ofInt (IntKind.bits .u64) x7 ^^^ BitVec.ofInt (IntKind.bits .u64) (Int.fdiv x9 (2 ^ (min 7 (IntKind.bits .u64))))):Int)))) λw2=>zc p0 λa11=>ldI w2.drew a11 .u64 λx12=>zc p0 λa13=>ldI w2.drew a13 .u64 λx14=>zc p0 λa15=>Wr w2.drew a15/\Nw (w2.drew.setCell a15 (.int .u64 (IntKind.u64.wrap (BitVec.toNat (BitVec.ofInt (IntKind.bits .u64) x12 ^^^ BitVec.ofInt (IntKind.bits .u64) (IntKind.u64.wrap (x14*2 ^ (min 17 (IntKind.bits .u64))))):Int)))) λw3=>zc p0 λa16=>ldI w3 a16 .u64 λx17=>R (.int .u64 x17) w3
theorem zbn(p0)(R)(w)(h:Yl p0 R w):Calls Tryz.prog 153 #[.pointer p0] w (Ret R):=lwC Yp Tryz.func153 (by kernel_rfl) (by kernel_rfl) h
def yd:Ann:=(.q (.q .nil))
def zK(p0:Sl)(p1:Int)(p2:Option Addr)(R:VWP)(w:World):Prop:=dw 155 #[p0.zw,zi (IntKind.i64.wrap (p1-(1:Int))),zi p1,zi (IntKind.i64.wrap (p1+(1:Int))),.pointer p2] w λx2 w1=>R (zi x2) w1
theorem Zq(p0)(p1)(p2)(R)(w)(h:zK p0 p1 p2 R w):Calls Tryz.prog 154 #[.slice p0.a p0.l p0.c,.int .i64 p1,.pointer p2] w (Ret R):=lwC yd Tryz.func154 (by kernel_rfl) (by kernel_rfl) h
def Zj:Ann:=(.q (.q (.q (.q (.q .nil)))))
def Zg(p0:Sl)(p1:Int)(p2:Int)(p3:Int)(p4:Option Addr)(R:VWP)(w:World):Prop:=dq 178 #[p0.zw,zi p1,zi p2,.pointer p4] w λx2 x3 w1=>dq 178 #[p0.zw,zi x3,zi p3,.pointer p4] w1 λx5 x6 w2=>dq 178 #[p0.zw,zi x2,zi x5,.pointer p4] w2 λx8 x9 w3=>R (zi x9) w3
theorem Yh(p0)(p1)(p2)(p3)(p4)(R)(w)(h:Zg p0 p1 p2 p3 p4 R w):Calls Tryz.prog 155 #[.slice p0.a p0.l p0.c,.int .i64 p1,.int .i64 p2,.int .i64 p3,.pointer p4] w (Ret R):=lwC Zj Tryz.func155 (by kernel_rfl) (by kernel_rfl) h
def zba:Ann:=(.q (.q .nil))
def zaT(p0:Int)(R:VWP)(w:World):Prop:=R (.bool (p0 !=p0)) w
theorem zcA(p0)(R)(w)(h:zaT p0 R w):Calls Tryz.prog 156 #[.int .u32 p0] w (Ret R):=lwC zba Tryz.func156 (by kernel_rfl) (by kernel_rfl) h
def Zk:Ann:=(.q (.seq none (.q (.cond (.q (.q .nil)) .nil)) (.q .nil)))
def Zh(p0:Sl)(p1:Int)(p2:Int)(p3:Option Addr)(R:VWP)(w:World):Prop:=(0<=p2/\p2<(p0.l:Int))/\zc p0.a λa1=>ldI w.drew (a1.add p2.toNat) .u32 λx2=>(0<=p1/\p1<(p0.l:Int))/\zc p0.a λa3=>ldI w.drew (a3.add p1.toNat) .u32 λx4=>dL 121 #[zu x2,zu x4] w.drew λx6 w1=>ifB x6 (zc p3 λa7=>ldI w1 a7 .i64 λx8=>zc p3 λa9=>Wr w1 a9/\Nw (w1.setCell a9 (zi (IntKind.i64.wrap (x8+(1:Int))))) λw2=>R (.tuple #[zi p2,zi p1]) w2) (R (.tuple #[zi p1,zi p2]) w1)
theorem Yi(p0)(p1)(p2)(p3)(R)(w)(h:Zh p0 p1 p2 p3 R w):Calls Tryz.prog 178 #[.slice p0.a p0.l p0.c,.int .i64 p1,.int .i64 p2,.pointer p3] w (Ret R):=lwC Zk Tryz.func178 (by kernel_rfl) (by kernel_rfl) h
end Go.Proofs
namespace Go.Proofs
open Go.Gk Go.RowKit
abbrev ltI:Int->Int->Bool:=Go.Sort.ltInt
def Dtw(w:World)(g:Nat)(rest:List Value)(d:Array Int):Prop:=Blk w g 22 (d.toList.map (Value.int .u32)++rest)
theorem Fr.chg{B b:Nat}{X:Nat->Prop}{w0 w w':World}(h:Fr B X w0 w)(c:Chg b w w')(hb:X b\/B<=b):Fr B X w0 w':=
 h.trans ⟨c.os,c.tape,c.output,Nat.le_of_eq c.size.symm,λk hk hx=>c.block k (λe=>by
  rcases hb with hb |hb
  ·exact hx (e▸hb)
  ·omega)⟩
theorem Fr.onto{X:Nat->Prop}{B:Nat}{w0 w w':World}(h:Fr B X w0 w)(k:Fr w.heap.size X w w')(hB:B<=w.heap.size):Fr B X w0 w':=h.trans (k.mono hB λ_ _ h=>h)
section
variable {w w':World} {g:Nat} {rest:List Value} {d:Array Int}
theorem Dtw.drew(h:Dtw w g rest d):Dtw w.drew g rest d:=Blk.drew h
theorem Dtw.below(h:Dtw w g rest d)(hb:Below w.heap.size w w'):Dtw w' g rest d:=Blk.below h hb
theorem Dtw.lt(h:Dtw w g rest d):g<w.heap.size:=Blk.lt h
theorem Dtw.cell(h:Dtw w g rest d){i:Nat}(hi:i<d.size):w.cell? ((blk g).add i)=some (.int .u32 d[i]!):=by
 refine Blk.cell h ?_
 rw[List.getElem?_append_left (by simpa using hi)]
 simp[hi]
theorem Dtw.set(h:Dtw w g rest d){i:Nat}(hi:i<d.size)(v:Int):Wr w ((blk g).add i)/\Dtw (w.setCell ((blk g).add i) (.int .u32 v)) g rest (d.setIfInBounds i v):=by
 refine⟨Blk.wr h (by simp;omega),?_⟩
 have:=Blk.set h i (.int .u32 v)
 rw[List.set_append_left _ _ (by simpa using hi),<-List.map_set]at this
 unfold Dtw
 rw[Array.toList_setIfInBounds]
 exact this
theorem Dtw.at(h:Dtw w g rest d){e:Int}{i n:Nat}(he:e=(i:Int))(hi:i<d.size)(hn:n=d.size){φ:Int->Prop}(hφ:φ d[i]!) :
  (0<=e/\e<(n:Int))/\zc (some (blk g)) λa=>ldI w (a.add (Int.toNat e)) .u32 φ:=by
 subst he
 exact⟨⟨by omega,by omega⟩,ze rfl ⟨_,h.cell hi,hφ⟩⟩
theorem Dtw.swap(h:Dtw w g rest d){e1 e2:Int}{i j n:Nat}(h1:e1=(i:Int))(h2:e2=(j:Int))(hi:i<d.size)(hj:j<d.size)(hn:n=d.size){K:World->Prop}(hK:∀w',Dtw w' g rest (Go.Sort.swp d j i)->Chg g w w'->K w') :
  (0<=e1/\e1<(n:Int))/\zc (some (blk g)) λa1=>ldI w.drew (a1.add (Int.toNat e1)) .u32 λx1=>
  (0<=e2/\e2<(n:Int))/\zc (some (blk g)) λa2=>ldI w.drew (a2.add (Int.toNat e2)) .u32 λx2=>
  (0<=e2/\e2<(n:Int))/\zc (some (blk g)) λa3=>Wr w.drew (a3.add (Int.toNat e2))/\Nw (w.drew.setCell (a3.add (Int.toNat e2)) (.int .u32 x1)) λw1=>
  (0<=e1/\e1<(n:Int))/\zc (some (blk g)) λa4=>Wr w1 (a4.add (Int.toNat e1))/\Nw (w1.setCell (a4.add (Int.toNat e1)) (.int .u32 x2)) λw2=>K w2:=by
 subst h1 h2
 obtain⟨s1,s2⟩:=h.drew.set hj d[i]!
 obtain⟨s3,s4⟩:=s2.set (i:=i) (by simpa using hi) d[j]!
 refine h.drew.at rfl hi hn (h.drew.at rfl hj hn ⟨⟨by omega,by omega⟩,ze rfl ⟨s1,Nw.mk ⟨⟨by omega,by omega⟩,ze rfl ⟨s3,Nw.mk (hK _ s4 ?_)⟩⟩⟩⟩)
 exact(((Chg.refl g w).drew).trans (Chg.set g j _ _)).trans (Chg.set g i _ _)
end
section
variable {w:World} {g n c:Nat} {rest:List Value} {d:Array Int} {R:VWP}
theorem yc{x y:Int}(hR:R (.bool (ltI x y)) w):cR 121 #[.int .u32 x,.int .u32 y] w R:=by
 refine za.of (zdk x y R w ?_) λ_ _ h=>h
 refine za.of (zcA x _ w ?_) λ_ _ h=>h
 exact⟨_,rfl,zC (by simp) hR⟩
theorem zjV{a j:Nat}{d:Array Int}(h:j<=a\/ltI d[j]! d[j-1]! =false):Go.Sort.insInner ltI a j d=d:=by
 cases j with
 |zero=>rfl
 |succ j=>
  rw[Go.Sort.insInner,if_neg]
  intro hh
  rw[Bool.and_eq_true,decide_eq_true_eq]at hh
  rcases h with h |h
  ·omega
  ·rw[Nat.add_sub_cancel]at h
   rw[h]at hh
   cases hh.2
theorem zp8{a j:Nat}{d:Array Int}(h1:a<j)(h2:ltI d[j]! d[j-1]! =true):Go.Sort.insInner ltI a j d=Go.Sort.insInner ltI a (j-1) (Go.Sort.swp d j (j-1)):=by
 cases j with
 |zero=>omega
 |succ j=>
  rw[Nat.add_sub_cancel]at h2⊢
  rw[Go.Sort.insInner,if_pos]
  rw[h2,Bool.and_true,decide_eq_true_eq]
  exact h1
theorem ziy{a b:Nat}(hD:Dtw w g rest d)(hn:n=d.size)(hmax:n<=35184372088832)(hab:a<=b)(hb:b<=n)
  (hR:∀w',Dtw w' g rest (Go.Sort.insertionSort ltI d a b)->Fr w.heap.size (·=g) w w'->R (.tuple #[]) w') :
  cR 115 #[.slice (some (blk g)) n c,.int .i64 (a:Int),.int .i64 (b:Int)] w R:=by
 refine za.of (zY ⟨some (blk g),n,c⟩ a b R w ?_) λ_ _ h=>h
 refine zl.ghost (λk (st:Int×Unit) w'=>∃(i:Nat) (d':Array Int),st=((i:Int),())/\k=b-i/\a+1<=i/\Dtw w' g rest d'/\d'.size=n/\Go.Sort.insOuter ltI a b i d'=Go.Sort.insertionSort ltI d a b/\Fr w.heap.size (·=g) w w') (b-(a+1))
  ⟨a+1,d,by rw[zA (by omega)],rfl,Nat.le_refl _,hD,hn.symm,rfl,Fr.refl _ _ _⟩ ?_
 rintro _ _ w1 ⟨i,d1,rfl,rfl,hi,hD1,hn1,he,hF⟩ next hnext
 refine zg (λh=>?_) (λh=>?_)
 ·have hib:i<b:=by dsimp only at h;omega
  refine zj.cut (λ_ w'=>∃d2,Dtw w' g rest d2/\d2.size=n/\d2=Go.Sort.insInner ltI a i d1/\Fr w.heap.size (·=g) w w') ?_ ?_
  ·refine zl.ghost (λk (st:Int×Unit) w'=>∃(j:Nat) (d2:Array Int),st=((j:Int),())/\k=j/\j<=i/\a<=j/\Dtw w' g rest d2/\d2.size=n/\Go.Sort.insInner ltI a j d2=Go.Sort.insInner ltI a i d1/\Fr w.heap.size (·=g) w w') i
    ⟨i,d1,rfl,rfl,Nat.le_refl _,by omega,hD1,hn1,rfl,hF⟩ ?_
   rintro j _ w2 ⟨_,d2,rfl,rfl,hj,haj,hD2,hn2,he2,hF2⟩ next2 hnext2
   refine zj.cut (λ_ w'=>Dtw w' g rest d2/\Fr w.heap.size (·=g) w w'/\a<j/\ltI d2[j]! d2[j-1]! =true) ?_ ?_
   ·refine zg (λh=>?_) (λh=>?_)
    ·have hj':a<j:=by dsimp only at h;omega
     refine hD2.drew.at rfl (by omega) hn2.symm (hD2.drew.at (i:=j-1) (by rw[zs (by dsimp only;omega) (by dsimp only;omega)];dsimp only;omega) (by omega) hn2.symm (yc ⟨_,rfl,?_⟩))
     refine zv (λhb=>⟨hD2.drew,hF2.drew,hj',hb⟩) (λhb=>⟨d2,hD2.drew,hn2,?_,hF2.drew⟩)
     rw[<-he2,zjV (.inr hb)]
    ·exact⟨d2,hD2.drew,hn2,by rw[<-he2,zjV (.inl (by dsimp only at h;omega))],hF2.drew⟩
   ·rintro _ w3 ⟨hD3,hF3,haj',hlt⟩
    have e1:IntKind.i64.wrap ((j:Int)-1)=((j-1:Nat):Int):=by rw[zs (by omega) (by omega)];omega
    refine hD3.swap (i:=j-1) (j:=j) e1 rfl (by omega) (by omega) hn2.symm λw4 hD4 c4=>?_
    rw[show IntKind.i64.wrap ((((j:Int),()):Int×Unit).1-1)=((j-1:Nat):Int) from e1]
    exact hnext2 (j-1) _ _ (by omega) ⟨j-1,_,rfl,rfl,by omega,by omega,hD4,by rw[Go.Sort.size_swp];exact hn2,by rw[<-he2,zp8 haj' hlt],hF3.chg c4 (.inl rfl)⟩
  ·rintro _ w2 ⟨d2,hD2,hn2,e2,hF2⟩
   rw[zA (by omega)]
   refine hnext (b-(i+1)) _ _ (by omega) ⟨i+1,d2,rfl,rfl,by omega,hD2,hn2,?_,hF2⟩
   rw[<-he,e2]
   conv=>rhs;rw[Go.Sort.insOuter,if_pos hib]
 ·have:¬i<b:=by dsimp only at h;omega
  rw[Go.Sort.insOuter,if_neg this]at he
  subst he
  exact hR w1 hD1 hF
theorem wr64{x:Int}{k:Nat}(h:x=(k:Int))(hk:k<=9223372036854775807):IntKind.i64.wrap x=(k:Int):=by rw[h];exact zs (by omega) (by omega)
theorem zmX{hi f r:Nat}{d:Array Int}(h:2*r+1≥hi):Go.Sort.siftDown ltI hi f r d=d:=by rw[Go.Sort.siftDown,dif_pos h]
def kid(hi f r:Nat)(d:Array Int):Nat:=if 2*r+2<hi/\ltI d[f+(2*r+1)]! d[f+(2*r+2)]! =true then 2*r+2 else 2*r+1
theorem znS{hi f r:Nat}{d:Array Int}(h:¬2*r+1≥hi):kid hi f r d<hi/\r<kid hi f r d:=by unfold kid;split<;>omega
theorem zow{hi f r:Nat}{d:Array Int}(h:¬2*r+1≥hi)(hl:ltI d[f+r]! d[f+kid hi f r d]! =false):Go.Sort.siftDown ltI hi f r d=d:=by
 rw[Go.Sort.siftDown,dif_neg h]
 unfold kid at hl
 by_cases e:2*r+2<hi/\ltI d[f+(2*r+1)]! d[f+(2*r+2)]! =true
 ·rw[if_pos e]at hl
  rw[if_pos (by rw[Bool.and_eq_true,decide_eq_true_eq];exact e),if_pos (by rw[hl];rfl)]
 ·rw[if_neg e]at hl
  rw[if_neg (by rw[Bool.and_eq_true,decide_eq_true_eq];exact e),if_pos (by rw[hl];rfl)]
theorem zph{hi f r:Nat}{d:Array Int}(h:¬2*r+1≥hi)(hl:ltI d[f+r]! d[f+kid hi f r d]! =true):Go.Sort.siftDown ltI hi f r d=Go.Sort.siftDown ltI hi f (kid hi f r d) (Go.Sort.swp d (f+r) (f+kid hi f r d)):=by
 have hk:=znS (f:=f) (d:=d) h
 conv=>lhs;rw[Go.Sort.siftDown,dif_neg h]
 unfold kid at hl hk⊢
 by_cases e:2*r+2<hi/\ltI d[f+(2*r+1)]! d[f+(2*r+2)]! =true
 ·rw[if_pos e]at hl hk⊢
  rw[if_pos (by rw[Bool.and_eq_true,decide_eq_true_eq];exact e),if_neg (by rw[hl];simp),dif_pos hk.1]
 ·rw[if_neg e]at hl⊢
  rw[if_neg (by rw[Bool.and_eq_true,decide_eq_true_eq];exact e),if_neg (by rw[hl];simp)]
theorem ziD{lo hi f:Nat}(hD:Dtw w g rest d)(hn:n=d.size)(hmax:n<=35184372088832)(hf:f+hi<=n)(hlo:lo<=n)
  (hR:∀w',Dtw w' g rest (Go.Sort.siftDown ltI hi f lo d)->Fr w.heap.size (·=g) w w'->R (.tuple #[]) w') :
  cR 151 #[.slice (some (blk g)) n c,.int .i64 (lo:Int),.int .i64 (hi:Int),.int .i64 (f:Int)] w R:=by
 refine za.of (ZG ⟨some (blk g),n,c⟩ lo hi f R w ?_) λ_ _ h=>h
 refine zl.ghost (λk (st:Int×Unit) w'=>∃(r:Nat) (d':Array Int),st=((r:Int),())/\k=n-r/\r<=n/\Dtw w' g rest d'/\d'.size=n/\Go.Sort.siftDown ltI hi f r d'=Go.Sort.siftDown ltI hi f lo d/\Fr w.heap.size (·=g) w w') (n-lo)
  ⟨lo,d,rfl,rfl,hlo,hD,hn.symm,rfl,Fr.refl _ _ _⟩ ?_
 rintro _ _ w1 ⟨r,d1,rfl,rfl,hr,hD1,hn1,he,hF⟩ next hnext
 have e1:IntKind.i64.wrap (IntKind.i64.wrap (2*(r:Int))+1)=((2*r+1:Nat):Int):=by
  have e0:IntKind.i64.wrap (2*(r:Int))=((2*r:Nat):Int):=wr64 (by omega) (by omega)
  rw[e0]
  exact wr64 (by omega) (by omega)
 have e2:IntKind.i64.wrap (((2*r+1:Nat):Int)+1)=((2*r+2:Nat):Int):=wr64 (by omega) (by omega)
 dsimp only
 rw[e1]
 refine zg (λh=>?_) (λh=>?_)
 ·rw[zmX (by omega)]at he
  subst he
  exact hR w1 hD1 hF
 have hge:¬2*r+1≥hi:=by omega
 obtain⟨hk1,hk2⟩:=znS (f:=f) (d:=d1) hge
 refine zj.cut (λ(st:Int×Unit) w'=>st.1=((kid hi f r d1:Nat):Int)/\Dtw w' g rest d1/\Fr w.heap.size (·=g) w w') ?_ ?_
 ·rw[e2]
  have e3:IntKind.i64.wrap ((f:Int)+((2*r+1:Nat):Int))=((f+(2*r+1):Nat):Int):=wr64 (by omega) (by omega)
  rw[e3]
  have e4:IntKind.i64.wrap (((f+(2*r+1):Nat):Int)+1)=((f+(2*r+2):Nat):Int):=wr64 (by omega) (by omega)
  rw[e4]
  refine zg (λh=>?_) (λh=>?_)
  ·refine hD1.drew.at rfl (by omega) hn1.symm (hD1.drew.at rfl (by omega) hn1.symm (yc ⟨_,rfl,?_⟩))
   refine zv (λhb=>⟨?_,hD1.drew,hF.drew⟩) (λhb=>⟨?_,hD1.drew,hF.drew⟩)
   ·unfold kid;rw[if_pos ⟨by omega,hb⟩]
   ·unfold kid;rw[if_neg (λg=>by rw[hb]at g;cases g.2)]
  ·refine⟨?_,hD1.drew,hF.drew⟩
   unfold kid;rw[if_neg (λg=>by omega)]
 ·rintro⟨ck,_⟩ w2 ⟨ec,hD2,hF2⟩
  dsimp only at ec⊢
  subst ec
  have e5:IntKind.i64.wrap ((f:Int)+(r:Int))=((f+r:Nat):Int):=wr64 (by omega) (by omega)
  have e6:IntKind.i64.wrap ((f:Int)+((kid hi f r d1:Nat):Int))=((f+kid hi f r d1:Nat):Int):=wr64 (by omega) (by omega)
  rw[e5,e6]
  refine hD2.drew.at rfl (by omega) hn1.symm (hD2.drew.at rfl (by omega) hn1.symm (yc ⟨_,rfl,?_⟩))
  refine zM (zv (λhb=>?_) (λhb=>?_))
  ·refine hD2.drew.swap (i:=f+kid hi f r d1) (j:=f+r) rfl rfl (by omega) (by omega) hn1.symm λw3 hD3 c3=>?_
   exact hnext (n-kid hi f r d1) _ _ (by omega) ⟨_,_,rfl,rfl,by omega,hD3,by rw[Go.Sort.size_swp];exact hn1,by rw[<-he,zph hge hb],hF2.drew.chg c3 (.inl rfl)⟩
  ·rw[zow hge hb]at he
   subst he
   exact hR _ hD2.drew hF2.drew
theorem ziE(hi f r:Nat)(d:Array Int):(Go.Sort.siftDown ltI hi f r d).size=d.size:=by
 fun_induction Go.Sort.siftDown ltI hi f r d<;>simp_all[Go.Sort.size_swp]
theorem zmD{a b:Nat}(hD:Dtw w g rest d)(hn:n=d.size)(hmax:n<=35184372088832)(hab:a<b)(hb:b<=n)
  (hR:∀w',Dtw w' g rest (Go.Sort.heapSort ltI d a b)->Fr w.heap.size (·=g) w w'->R (.tuple #[]) w') :
  cR 116 #[.slice (some (blk g)) n c,.int .i64 (a:Int),.int .i64 (b:Int)] w R:=by
 refine za.of (ZF ⟨some (blk g),n,c⟩ a b R w ?_) λ_ _ h=>h
 have e1:IntKind.i64.wrap ((b:Int)-(a:Int))=((b-a:Nat):Int):=wr64 (by omega) (by omega)
 have e2:IntKind.i64.wrap (((b-a:Nat):Int)-1)=((b-a-1:Nat):Int):=wr64 (by omega) (by omega)
 have e3:IntKind.i64.wrap (Int.tdiv ((b-a-1:Nat):Int) 2)=(((b-a-1) / 2:Nat):Int):=wr64 (by rw[Int.tdiv_eq_ediv_of_nonneg (by omega)];omega) (by omega)
 have down:∀k:Nat,k<=n->IntKind.i64.wrap ((k:Int)-1)=(k:Int)-1:=λk hk=>zs (by omega) (by omega)
 unfold zX
 rw[e1,e2,e3]
 generalize hh:Go.Sort.heapBuild ltI (b-a) a ((b-a-1) / 2+1) d=dh
 refine zl.ghost (λk (st:Int×Unit) w'=>∃(d':Array Int),st=((k:Int)-1,())/\k<=n/\2*k<=b-a+1/\Dtw w' g rest d'/\d'.size=n/\Go.Sort.heapBuild ltI (b-a) a k d'=dh/\Fr w.heap.size (·=g) w w') ((b-a-1) / 2+1)
  ⟨d,(by rw[Prod.mk.injEq];exact⟨by omega,rfl⟩),by omega,by omega,hD,hn.symm,hh,Fr.refl _ _ _⟩ ?_
 rintro k _ w1 ⟨d1,rfl,hk,hk2,hD1,hn1,he,hF⟩ next hnext
 dsimp only
 refine zg (λh=>?_) (λh=>?_)
 ·obtain⟨m,rfl⟩:∃m,k=m+1:=⟨k-1,by omega⟩
  rw[show(((m+1:Nat):Int)-1)=(m:Int) by omega]
  dsimp only[zB,Go.Gk.Sl.zw,zi,zu,zb,zh];refine ziD (lo:=m) hD1 hn1.symm hmax (by omega) (by omega) λw2 hD2 hF2=>⟨rfl,?_⟩
  rw[down m (by omega)]
  exact hnext m _ _ (by omega) ⟨_,rfl,by omega,by omega,hD2,by rw[ziE];exact hn1,he,hF.onto hF2 hF.size⟩
 ·have hk0:k=0:=by omega
  subst hk0
  have he:d1=dh:=he
  subst he
  have hfin:Go.Sort.heapSort ltI d a b=Go.Sort.heapPop ltI a (b-a) d1:=by unfold Go.Sort.heapSort;rw[hh]
  refine zl.ghost (λk (st:Int×Unit) w'=>∃(d':Array Int),st=((k:Int)-1,())/\k<=b-a/\Dtw w' g rest d'/\d'.size=n/\Go.Sort.heapPop ltI a k d'=Go.Sort.heapSort ltI d a b/\Fr w.heap.size (·=g) w w') (b-a)
   ⟨d1,(by rw[Prod.mk.injEq];exact⟨by omega,rfl⟩),Nat.le_refl _,hD1,hn1,hfin.symm,hF⟩ ?_
  rintro k _ w2 ⟨d2,rfl,hkb,hD2,hn2,he2,hF2⟩ next2 hnext2
  dsimp only
  refine zg (λh=>?_) (λh=>?_)
  ·obtain⟨m,rfl⟩:∃m,k=m+1:=⟨k-1,by omega⟩
   rw[show(((m+1:Nat):Int)-1)=(m:Int) by omega]
   have e4:IntKind.i64.wrap ((a:Int)+(m:Int))=((a+m:Nat):Int):=wr64 (by omega) (by omega)
   rw[e4]
   refine hD2.swap (i:=a+m) (j:=a) rfl rfl (by omega) (by omega) hn2.symm λw3 hD3 c3=>?_
   have hF3:=hF2.chg c3 (.inl rfl)
   dsimp only[zB,Go.Gk.Sl.zw,zi,zu,zb,zh];refine ziD (lo:=0) (hi:=m) (f:=a) hD3 (by rw[Go.Sort.size_swp];exact hn2.symm) hmax (by omega) (by omega) λw4 hD4 hF4=>⟨rfl,?_⟩
   rw[down m (by omega)]
   exact hnext2 m _ _ (by omega) ⟨_,rfl,by omega,hD4,by rw[ziE,Go.Sort.size_swp];exact hn2,he2,hF3.onto hF4 hF3.size⟩
  ·have hk0:k=0:=by omega
   subst hk0
   have he2:d2=Go.Sort.heapSort ltI d a b:=he2
   subst he2
   exact hR w2 hD2 hF2
theorem zjp{a b:Nat}(hD:Dtw w g rest d)(hn:n=d.size)(hmax:n<=35184372088832)(hab:a<b)(hb:b<=n)
  (hR:∀w',Dtw w' g rest (Go.Sort.reverseRange d a b)->Fr w.heap.size (·=g) w w'->R (.tuple #[]) w') :
  cR 119 #[.slice (some (blk g)) n c,.int .i64 (a:Int),.int .i64 (b:Int)] w R:=by
 refine za.of (Z0 ⟨some (blk g),n,c⟩ a b R w ?_) λ_ _ h=>h
 have e1:IntKind.i64.wrap ((b:Int)-1)=((b-1:Nat):Int):=wr64 (by omega) (by omega)
 unfold zO
 rw[e1]
 refine zl.ghost (λk (st:Int×Int×Unit) w'=>∃(i j:Nat) (d':Array Int),st=((i:Int),(j:Int),())/\k=j-i/\j<n/\i<=n/\Dtw w' g rest d'/\d'.size=n/\Go.Sort.reverseLoop i j d'=Go.Sort.reverseRange d a b/\Fr w.heap.size (·=g) w w') (b-1-a)
  ⟨a,b-1,d,rfl,rfl,by omega,by omega,hD,hn.symm,rfl,Fr.refl _ _ _⟩ ?_
 rintro _ _ w1 ⟨i,j,d1,rfl,rfl,hj,hi,hD1,hn1,he,hF⟩ next hnext
 refine zg (λh=>?_) (λh=>?_)
 ·have hij:i<j:=by dsimp only at h;omega
  refine hD1.swap (i:=j) (j:=i) rfl rfl (by omega) (by omega) hn1.symm λw2 hD2 c2=>?_
  dsimp only
  rw[zA (by omega),wr64 (k:=j-1) (by omega) (by omega)]
  refine hnext (j-1-(i+1)) _ _ (by omega) ⟨i+1,j-1,_,rfl,rfl,by omega,by omega,hD2,by rw[Go.Sort.size_swp];exact hn1,?_,hF.chg c2 (.inl rfl)⟩
  rw[<-he]
  conv=>rhs;rw[Go.Sort.reverseLoop,if_pos hij]
 ·have:¬i<j:=by dsimp only at h;omega
  rw[Go.Sort.reverseLoop,if_neg this]at he
  subst he
  exact hR w1 hD1 hF
end
end Go.Proofs
namespace Go.Proofs
open Go.Gk Go.RowKit
theorem Zl{p:Int->Bool}{d:Array Int}{j i:Nat}(h:j<i\/p d[i]! =false):Go.Sort.scanUp p d j i=i:=by
 rw[Go.Sort.scanUp,if_neg]
 intro hh
 rw[Bool.and_eq_true,decide_eq_true_eq]at hh
 rcases h with h |h
 ·omega
 ·rw[h]at hh;cases hh.2
theorem zeZ{p:Int->Bool}{d:Array Int}{j i:Nat}(h1:i<=j)(h2:p d[i]! =true):Go.Sort.scanUp p d j (i+1)=Go.Sort.scanUp p d j i:=by
 conv=>rhs;rw[Go.Sort.scanUp,if_pos (by rw[Bool.and_eq_true,decide_eq_true_eq];exact⟨h1,h2⟩)]
theorem Zs{p:Int->Bool}{d:Array Int}{i j:Nat}(h:j<i\/p d[j]! =false):Go.Sort.scanDown p d i j=j:=by
 cases j with
 |zero=>rfl
 |succ j=>
  rw[Go.Sort.scanDown,if_neg]
  intro hh
  rw[Bool.and_eq_true,decide_eq_true_eq]at hh
  rcases h with h |h
  ·omega
  ·rw[h]at hh;cases hh.2
theorem zcM{p:Int->Bool}{d:Array Int}{i j:Nat}(h1:i<=j+1)(h2:p d[j+1]! =true):Go.Sort.scanDown p d i j=Go.Sort.scanDown p d i (j+1):=by
 conv=>rhs;rw[Go.Sort.scanDown,if_pos (by rw[Bool.and_eq_true,decide_eq_true_eq];exact⟨h1,h2⟩)]
theorem zo8{p:Int->Bool}{d:Array Int}{j i:Nat}(h:i<=j+1):i<=Go.Sort.scanUp p d j i/\Go.Sort.scanUp p d j i<=j+1:=
 ⟨Go.Sort.scanUp_ge p d j i,by
  by_cases e:i<=j
  ·fun_induction Go.Sort.scanUp p d j i with
   |case1 i hc ih=>
    by_cases e2:i+1<=j
    ·exact ih (by omega) e2
    ·rw[Zl (.inl (by omega))];omega
   |case2 i hc=>omega
  ·rw[Zl (.inl (by omega))];omega⟩
theorem zgW{p:Int->Bool}{d:Array Int}{i:Nat}:∀{j:Nat},i<=j+1->Go.Sort.scanDown p d i j<=j/\i<=Go.Sort.scanDown p d i j+1
 | 0,h=>⟨Nat.le_refl _,h⟩
 |j+1,h=>by
  rw[Go.Sort.scanDown]
  split
  ·rename_i hc
   rw[Bool.and_eq_true,decide_eq_true_eq]at hc
   have:=zgW (p:=p) (d:=d) (j:=j) hc.1
   omega
  ·omega
theorem zji{p q:Int->Bool}{d:Array Int}{i0 j0 I J:Nat}(hq:∀x,q x=!p x)(hI:Go.Sort.scanUp p d j0 i0=I)(hJ:Go.Sort.scanDown q d I j0=J)(h:¬I>J)(h0:0<I):I<J:=by
 have s1:=Go.Sort.scanUp_spec p d j0 _ i0 rfl
 have s2:=Go.Sort.scanDown_spec q d I j0
 rw[hI]at s1
 rw[hJ]at s2
 rcases Nat.lt_or_ge I J with q1 |q1
 ·exact q1
 ·exfalso
  have e:I=J:=by omega
  have e1:=s1.2.2.2 (by have:=s2.1;omega)
  have e2:=s2.2.2.2 (by omega) (by omega)
  rw[hq,<-e,e1]at e2
  cases e2
section
variable {w:World} {g n c:Nat} {rest:List Value} {d:Array Int} {R:VWP}
theorem zkr{a b pv:Nat}(hD:Dtw w g rest d)(hn:n=d.size)(hmax:n<=35184372088832)(hab:a<b)(hb:b<=n)(hp1:a<=pv)(hp2:pv<b)
  (hR:∀w',Dtw w' g rest (Go.Sort.partitionEqual ltI d a b pv).2->Fr w.heap.size (·=g) w w'->R (.int .i64 ((Go.Sort.partitionEqual ltI d a b pv).1:Int)) w') :
  cR 122 #[.slice (some (blk g)) n c,.int .i64 (a:Int),.int .i64 (b:Int),.int .i64 (pv:Int)] w R:=by
 refine za.of (Zr ⟨some (blk g),n,c⟩ a b pv R w ?_) λ_ _ h=>h
 have ea:IntKind.i64.wrap ((a:Int)+1)=((a+1:Nat):Int):=wr64 (by omega) (by omega)
 have eb:IntKind.i64.wrap ((b:Int)-1)=((b-1:Nat):Int):=wr64 (by omega) (by omega)
 unfold zL
 rw[ea,eb]
 refine hD.swap (i:=pv) (j:=a) rfl rfl (by omega) (by omega) hn λw1 hD1 c1=>?_
 have hF1:=(Fr.refl w.heap.size (·=g) w).chg c1 (.inl rfl)
 refine zl.ghost (λk (st:Int×Int×Unit) w'=>∃(i j:Nat) (d':Array Int),st=((i:Int),(j:Int),())/\k=j+1-i/\a<i/\i<=j+1/\j<b/\Dtw w' g rest d'/\d'.size=n/\Go.Sort.partEqLoop ltI a i j d'=Go.Sort.partitionEqual ltI d a b pv/\Fr w.heap.size (·=g) w w') (b-1+1-(a+1))
  ⟨a+1,b-1,_,rfl,rfl,by omega,by omega,by omega,hD1,by rw[Go.Sort.size_swp];exact hn.symm,rfl,hF1⟩ ?_
 rintro _ _ w2 ⟨i0,j0,d2,rfl,rfl,hi,hij0,hjb,hD2,hn2,he,hF2⟩ next hnext
 dsimp only
 obtain⟨u1,u2⟩:=zo8 (p:=λx=>!ltI d2[a]! x) (d:=d2) (j:=j0) (i:=i0) hij0
 obtain⟨v1,v2⟩:=zgW (p:=λx=>ltI d2[a]! x) (d:=d2) (i:=Go.Sort.scanUp (λx=>!ltI d2[a]! x) d2 j0 i0) (j:=j0) u2
 refine zj.cut (λ(st:Int×Unit) w'=>st.1=((Go.Sort.scanUp (λx=>!ltI d2[a]! x) d2 j0 i0:Nat):Int)/\Dtw w' g rest d2/\Fr w.heap.size (·=g) w w') ?_ ?_
 ·clear u1 u2 v1 v2
  refine zl.ghost (λk (st:Int×Unit) w'=>∃i:Nat,st=((i:Int),())/\k=j0+1-i/\i0<=i/\i<=j0+1/\Go.Sort.scanUp (λx=>!ltI d2[a]! x) d2 j0 i=Go.Sort.scanUp (λx=>!ltI d2[a]! x) d2 j0 i0/\Dtw w' g rest d2/\Fr w.heap.size (·=g) w w') (j0+1-i0)
   ⟨i0,rfl,rfl,Nat.le_refl _,by omega,rfl,hD2,hF2⟩ ?_
  rintro _ _ wq ⟨i,rfl,rfl,hi0,hi1,hsc,hDq,hFq⟩ nextq hnextq
  refine zj.cut (λ_ w'=>i<=j0/\(λx=>!ltI d2[a]! x) d2[i]! =true/\Dtw w' g rest d2/\Fr w.heap.size (·=g) w w') ?_ ?_
  ·refine zg (λh=>?_) (λh=>?_)
   ·have hij:i<=j0:=by dsimp only at h;omega
    refine(hDq.drew.at rfl (by omega) hn2.symm (hDq.drew.at rfl (by omega) hn2.symm (yc ⟨_,rfl,?_⟩)))
    refine zM (zv (λhb=>?_) (λhb=>?_))
    ·exact⟨by rw[<-hsc,Zl (p:=λx=>!ltI d2[a]! x) (.inr (by rw[hb];rfl))],hDq.drew,hFq.drew⟩
    ·exact⟨hij,by dsimp only;rw[hb];rfl,hDq.drew,hFq.drew⟩
   ·exact⟨by rw[<-hsc,Zl (p:=λx=>!ltI d2[a]! x) (.inl (by dsimp only at h;omega))],hDq.drew,hFq.drew⟩
  ·rintro _ wr ⟨hij,hp,hDr,hFr⟩
   rw[zA (by omega)]
   exact hnextq (j0+1-(i+1)) _ _ (by omega) ⟨i+1,rfl,rfl,by omega,by omega,by rw[<-hsc,zeZ (p:=λx=>!ltI d2[a]! x) hij hp],hDr,hFr⟩
 rintro⟨i2,_⟩ w3 ⟨e2,hD3,hF3⟩
 dsimp only at e2⊢
 subst e2
 have heq:=Go.Sort.partEqLoop_eq (lt:=ltI) a i0 j0 d2
 generalize hI:Go.Sort.scanUp (λx=>!ltI d2[a]! x) d2 j0 i0=I at u1 u2 v1 v2 heq⊢
 refine zj.cut (λ(st:Int×Unit) w'=>st.1=((Go.Sort.scanDown (λx=>ltI d2[a]! x) d2 I j0:Nat):Int)/\Dtw w' g rest d2/\Fr w.heap.size (·=g) w w') ?_ ?_
 ·clear v1 v2 heq
  refine zl.ghost (λk (st:Int×Unit) w'=>st=((k:Int),())/\k<=j0/\I<=k+1/\Go.Sort.scanDown (λx=>ltI d2[a]! x) d2 (I) k=Go.Sort.scanDown (λx=>ltI d2[a]! x) d2 (I) j0/\Dtw w' g rest d2/\Fr w.heap.size (·=g) w w') j0
   ⟨rfl,Nat.le_refl _,by omega,rfl,hD3,hF3⟩ ?_
  rintro j _ wq ⟨rfl,hj0,hj1,hsc,hDq,hFq⟩ nextq hnextq
  refine zj.cut (λ_ w'=>I<=j/\(λx=>ltI d2[a]! x) d2[j]! =true/\Dtw w' g rest d2/\Fr w.heap.size (·=g) w w') ?_ ?_
  ·refine zg (λh=>?_) (λh=>?_)
   ·have hij:I<=j:=by dsimp only at h;omega
    refine hDq.drew.at rfl (by omega) hn2.symm (hDq.drew.at rfl (by omega) hn2.symm (yc ⟨_,rfl,?_⟩))
    refine zv (λhb=>⟨hij,hb,hDq.drew,hFq.drew⟩) (λhb=>⟨by rw[<-hsc,Zs (p:=λx=>ltI d2[a]! x) (.inr hb)],hDq.drew,hFq.drew⟩)
   ·exact⟨by rw[<-hsc,Zs (p:=λx=>ltI d2[a]! x) (.inl (by dsimp only at h;omega))],hDq.drew,hFq.drew⟩
  ·rintro _ wr ⟨hij,hp,hDr,hFr⟩
   obtain⟨m,rfl⟩:∃m,j=m+1:=⟨j-1,by omega⟩
   rw[show IntKind.i64.wrap (((((m+1:Nat):Int),()):Int×Unit).1-1)=(m:Int) from wr64 (by dsimp only;omega) (by omega)]
   exact hnextq m _ _ (by omega) ⟨rfl,by omega,by omega,by rw[<-hsc,zcM (p:=λx=>ltI d2[a]! x) hij hp],hDr,hFr⟩
 rintro⟨j2,_⟩ w4 ⟨e2,hD4,hF4⟩
 dsimp only at e2⊢
 subst e2
 generalize hJ:Go.Sort.scanDown (λx=>ltI d2[a]! x) d2 I j0=J at v1 v2 heq⊢
 refine zg (λh=>?_) (λh=>?_)
 ·have h:I>J:=by omega
  rw[if_pos h,he]at heq
  have:=hR w4
  rw[heq]at this
  exact this hD4 hF4
 ·have h:¬I>J:=by omega
  rw[if_neg h]at heq
  have hIJ:I<J:=zji (λx=>(Bool.not_not _).symm) hI hJ h (by omega)
  refine hD4.swap (i:=J) (j:=I) rfl rfl (by omega) (by omega) hn2.symm λw5 hD5 c5=>?_
  rw[wr64 (k:=I+1) (by omega) (by omega),wr64 (k:=J-1) (by omega) (by omega)]
  exact hnext (J-1+1-(I+1)) _ _ (by omega) ⟨I+1,J-1,_,rfl,rfl,by omega,by omega,by omega,hD5,by rw[Go.Sort.size_swp];exact hn2,by rw[<-heq,he],hF4.chg c5 (.inl rfl)⟩
theorem zoq{a b pv:Nat}(hD:Dtw w g rest d)(hn:n=d.size)(hmax:n<=35184372088832)(hab:a<b)(hb:b<=n)(hp1:a<=pv)(hp2:pv<b)
  (hR:∀w',Dtw w' g rest (Go.Sort.partition ltI d a b pv).2.2->Fr w.heap.size (·=g) w w'->R (.tuple #[.int .i64 ((Go.Sort.partition ltI d a b pv).1:Int),.bool (Go.Sort.partition ltI d a b pv).2.1]) w') :
  cR 123 #[.slice (some (blk g)) n c,.int .i64 (a:Int),.int .i64 (b:Int),.int .i64 (pv:Int)] w R:=by
 refine za.of (ZA ⟨some (blk g),n,c⟩ a b pv R w ?_) λ_ _ h=>h
 have ea:IntKind.i64.wrap ((a:Int)+1)=((a+1:Nat):Int):=wr64 (by omega) (by omega)
 have eb:IntKind.i64.wrap ((b:Int)-1)=((b-1:Nat):Int):=wr64 (by omega) (by omega)
 unfold zW
 rw[ea,eb]
 refine hD.swap (i:=pv) (j:=a) rfl rfl (by omega) (by omega) hn λw1 hD1 c1=>?_
 have hF1:=(Fr.refl w.heap.size (·=g) w).chg c1 (.inl rfl)
 have hn1:(Go.Sort.swp d a pv).size=n:=by rw[Go.Sort.size_swp];exact hn.symm
 have hpt:Go.Sort.partition ltI d a b pv=(if Go.Sort.scanUp (λx=>ltI x (Go.Sort.swp d a pv)[a]!) (Go.Sort.swp d a pv) (b-1) (a+1)>Go.Sort.scanDown (λx=>!ltI x (Go.Sort.swp d a pv)[a]!) (Go.Sort.swp d a pv) (Go.Sort.scanUp (λx=>ltI x (Go.Sort.swp d a pv)[a]!) (Go.Sort.swp d a pv) (b-1) (a+1)) (b-1) then
  (Go.Sort.scanDown (λx=>!ltI x (Go.Sort.swp d a pv)[a]!) (Go.Sort.swp d a pv) (Go.Sort.scanUp (λx=>ltI x (Go.Sort.swp d a pv)[a]!) (Go.Sort.swp d a pv) (b-1) (a+1)) (b-1),true,Go.Sort.swp (Go.Sort.swp d a pv) (Go.Sort.scanDown (λx=>!ltI x (Go.Sort.swp d a pv)[a]!) (Go.Sort.swp d a pv) (Go.Sort.scanUp (λx=>ltI x (Go.Sort.swp d a pv)[a]!) (Go.Sort.swp d a pv) (b-1) (a+1)) (b-1)) a)
  else((Go.Sort.partLoop ltI a (Go.Sort.scanUp (λx=>ltI x (Go.Sort.swp d a pv)[a]!) (Go.Sort.swp d a pv) (b-1) (a+1)+1) (Go.Sort.scanDown (λx=>!ltI x (Go.Sort.swp d a pv)[a]!) (Go.Sort.swp d a pv) (Go.Sort.scanUp (λx=>ltI x (Go.Sort.swp d a pv)[a]!) (Go.Sort.swp d a pv) (b-1) (a+1)) (b-1)-1) (Go.Sort.swp (Go.Sort.swp d a pv) (Go.Sort.scanUp (λx=>ltI x (Go.Sort.swp d a pv)[a]!) (Go.Sort.swp d a pv) (b-1) (a+1)) (Go.Sort.scanDown (λx=>!ltI x (Go.Sort.swp d a pv)[a]!) (Go.Sort.swp d a pv) (Go.Sort.scanUp (λx=>ltI x (Go.Sort.swp d a pv)[a]!) (Go.Sort.swp d a pv) (b-1) (a+1)) (b-1)))).1,false,
   Go.Sort.swp (Go.Sort.partLoop ltI a (Go.Sort.scanUp (λx=>ltI x (Go.Sort.swp d a pv)[a]!) (Go.Sort.swp d a pv) (b-1) (a+1)+1) (Go.Sort.scanDown (λx=>!ltI x (Go.Sort.swp d a pv)[a]!) (Go.Sort.swp d a pv) (Go.Sort.scanUp (λx=>ltI x (Go.Sort.swp d a pv)[a]!) (Go.Sort.swp d a pv) (b-1) (a+1)) (b-1)-1) (Go.Sort.swp (Go.Sort.swp d a pv) (Go.Sort.scanUp (λx=>ltI x (Go.Sort.swp d a pv)[a]!) (Go.Sort.swp d a pv) (b-1) (a+1)) (Go.Sort.scanDown (λx=>!ltI x (Go.Sort.swp d a pv)[a]!) (Go.Sort.swp d a pv) (Go.Sort.scanUp (λx=>ltI x (Go.Sort.swp d a pv)[a]!) (Go.Sort.swp d a pv) (b-1) (a+1)) (b-1)))).2 (Go.Sort.partLoop ltI a (Go.Sort.scanUp (λx=>ltI x (Go.Sort.swp d a pv)[a]!) (Go.Sort.swp d a pv) (b-1) (a+1)+1) (Go.Sort.scanDown (λx=>!ltI x (Go.Sort.swp d a pv)[a]!) (Go.Sort.swp d a pv) (Go.Sort.scanUp (λx=>ltI x (Go.Sort.swp d a pv)[a]!) (Go.Sort.swp d a pv) (b-1) (a+1)) (b-1)-1) (Go.Sort.swp (Go.Sort.swp d a pv) (Go.Sort.scanUp (λx=>ltI x (Go.Sort.swp d a pv)[a]!) (Go.Sort.swp d a pv) (b-1) (a+1)) (Go.Sort.scanDown (λx=>!ltI x (Go.Sort.swp d a pv)[a]!) (Go.Sort.swp d a pv) (Go.Sort.scanUp (λx=>ltI x (Go.Sort.swp d a pv)[a]!) (Go.Sort.swp d a pv) (b-1) (a+1)) (b-1)))).1 a)):=by
  unfold Go.Sort.partition
  rfl
 generalize hpp:Go.Sort.partition ltI d a b pv=pp at hR hpt
 generalize Go.Sort.swp d a pv=d1 at hD1 hn1 hpt
 have hbb:b-1<b:=by omega
 generalize hB1:b-1=b1 at hpt hbb⊢
 obtain⟨u1,u2⟩:=zo8 (p:=λx=>ltI x d1[a]!) (d:=d1) (j:=b1) (i:=a+1) (by omega)
 obtain⟨v1,v2⟩:=zgW (p:=λx=>!ltI x d1[a]!) (d:=d1) (i:=Go.Sort.scanUp (λx=>ltI x d1[a]!) d1 b1 (a+1)) (j:=b1) u2
 refine zj.cut (λ(st:Int×Unit) w'=>st.1=((Go.Sort.scanUp (λx=>ltI x d1[a]!) d1 b1 (a+1):Nat):Int)/\Dtw w' g rest d1/\Fr w.heap.size (·=g) w w') ?_ ?_
 ·clear u1 u2 v1 v2 hpt
  refine zl.ghost (λk (st:Int×Unit) w'=>∃i:Nat,st=((i:Int),())/\k=b1+1-i/\(a+1)<=i/\i<=b1+1/\Go.Sort.scanUp (λx=>ltI x d1[a]!) d1 b1 i=Go.Sort.scanUp (λx=>ltI x d1[a]!) d1 b1 (a+1)/\Dtw w' g rest d1/\Fr w.heap.size (·=g) w w') (b1+1-(a+1))
   ⟨(a+1),rfl,rfl,Nat.le_refl _,by omega,rfl,hD1,hF1⟩ ?_
  rintro _ _ wq ⟨i,rfl,rfl,hi0,hi1,hsc,hDq,hFq⟩ nextq hnextq
  refine zj.cut (λ_ w'=>i<=b1/\(λx=>ltI x d1[a]!) d1[i]! =true/\Dtw w' g rest d1/\Fr w.heap.size (·=g) w w') ?_ ?_
  ·refine zg (λh=>?_) (λh=>?_)
   ·have hij:i<=b1:=by dsimp only at h;omega
    refine(hDq.drew.at rfl (by omega) hn1.symm (hDq.drew.at rfl (by omega) hn1.symm (yc ⟨_,rfl,?_⟩)))
    refine zv (λhb=>⟨hij,hb,hDq.drew,hFq.drew⟩) (λhb=>⟨by rw[<-hsc,Zl (p:=λx=>ltI x d1[a]!) (.inr hb)],hDq.drew,hFq.drew⟩)
   ·exact⟨by rw[<-hsc,Zl (p:=λx=>ltI x d1[a]!) (.inl (by dsimp only at h;omega))],hDq.drew,hFq.drew⟩
  ·rintro _ wr ⟨hij,hp,hDr,hFr⟩
   rw[zA (by omega)]
   exact hnextq (b1+1-(i+1)) _ _ (by omega) ⟨i+1,rfl,rfl,by omega,by omega,by rw[<-hsc,zeZ (p:=λx=>ltI x d1[a]!) hij hp],hDr,hFr⟩
 rintro⟨i2,_⟩ w3 ⟨e2,hD3,hF3⟩
 dsimp only at e2⊢
 subst e2
 generalize hI:Go.Sort.scanUp (λx=>ltI x d1[a]!) d1 b1 (a+1)=I at u1 u2 v1 v2 hpt⊢
 refine zj.cut (λ(st:Int×Unit) w'=>st.1=((Go.Sort.scanDown (λx=>!ltI x d1[a]!) d1 I b1:Nat):Int)/\Dtw w' g rest d1/\Fr w.heap.size (·=g) w w') ?_ ?_
 ·clear v1 v2 hpt
  refine zl.ghost (λk (st:Int×Unit) w'=>st=((k:Int),())/\k<=b1/\I<=k+1/\Go.Sort.scanDown (λx=>!ltI x d1[a]!) d1 (I) k=Go.Sort.scanDown (λx=>!ltI x d1[a]!) d1 (I) b1/\Dtw w' g rest d1/\Fr w.heap.size (·=g) w w') b1
   ⟨rfl,Nat.le_refl _,by omega,rfl,hD3,hF3⟩ ?_
  rintro j _ wq ⟨rfl,hj0,hj1,hsc,hDq,hFq⟩ nextq hnextq
  refine zj.cut (λ_ w'=>I<=j/\(λx=>!ltI x d1[a]!) d1[j]! =true/\Dtw w' g rest d1/\Fr w.heap.size (·=g) w w') ?_ ?_
  ·refine zg (λh=>?_) (λh=>?_)
   ·have hij:I<=j:=by dsimp only at h;omega
    refine hDq.drew.at rfl (by omega) hn1.symm (hDq.drew.at rfl (by omega) hn1.symm (yc ⟨_,rfl,?_⟩))
    refine zM (zv (λhb=>?_) (λhb=>?_))
    ·exact⟨by rw[<-hsc,Zs (p:=λx=>!ltI x d1[a]!) (.inr (by rw[hb];rfl))],hDq.drew,hFq.drew⟩
    ·exact⟨hij,by dsimp only;rw[hb];rfl,hDq.drew,hFq.drew⟩
   ·exact⟨by rw[<-hsc,Zs (p:=λx=>!ltI x d1[a]!) (.inl (by dsimp only at h;omega))],hDq.drew,hFq.drew⟩
  ·rintro _ wr ⟨hij,hp,hDr,hFr⟩
   obtain⟨m,rfl⟩:∃m,j=m+1:=⟨j-1,by omega⟩
   rw[show IntKind.i64.wrap (((((m+1:Nat):Int),()):Int×Unit).1-1)=(m:Int) from wr64 (by dsimp only;omega) (by omega)]
   exact hnextq m _ _ (by omega) ⟨rfl,by omega,by omega,by rw[<-hsc,zcM (p:=λx=>!ltI x d1[a]!) hij hp],hDr,hFr⟩
 rintro⟨j2,_⟩ w4 ⟨e2,hD4,hF4⟩
 dsimp only at e2⊢
 subst e2
 generalize hJ:Go.Sort.scanDown (λx=>!ltI x d1[a]!) d1 I b1=J at v1 v2 hpt⊢
 refine zg (λh=>?_) (λh=>?_)
 ·have h:I>J:=by omega
  rw[if_pos h]at hpt
  subst hpt
  refine hD4.swap (i:=a) (j:=J) rfl rfl (by omega) (by omega) hn1.symm λw5 hD5 c5=>?_
  exact hR w5 hD5 (hF4.chg c5 (.inl rfl))
 ·have h:¬I>J:=by omega
  rw[if_neg h]at hpt
  refine hD4.swap (i:=J) (j:=I) rfl rfl (by omega) (by omega) hn1.symm λw5 hD5 c5=>?_
  have hF5:=hF4.chg c5 (.inl rfl)
  have hn5:(Go.Sort.swp d1 I J).size=n:=by rw[Go.Sort.size_swp];exact hn1
  generalize Go.Sort.swp d1 I J=d5 at hD5 hn5 hpt
  generalize hpl:Go.Sort.partLoop ltI a (I+1) (J-1) d5=L at hpt
  have hIJ:I<J:=zji (λ_=>rfl) hI hJ h (by omega)
  rw[wr64 (k:=I+1) (by omega) (by omega),wr64 (k:=J-1) (by omega) (by omega)]
  refine zl.ghost (λk (st:Int×Int×Unit) w'=>∃(i j:Nat) (d':Array Int),st=((i:Int),(j:Int),())/\k=j+1-i/\a<i/\i<=j+1/\j<b/\Dtw w' g rest d'/\d'.size=n/\Go.Sort.partLoop ltI a i j d'=L/\Fr w.heap.size (·=g) w w') (J-1+1-(I+1))
   ⟨I+1,J-1,_,rfl,rfl,by omega,by omega,by omega,hD5,hn5,hpl,hF5⟩ ?_
  clear hpl hD5 hn5 hF5 c5
  rintro _ _ w2 ⟨i0,j0,d2,rfl,rfl,hi,hij0,hjb,hD2,hn2,he,hF2⟩ next hnext
  dsimp only
  obtain⟨u1',u2'⟩:=zo8 (p:=λx=>ltI x d2[a]!) (d:=d2) (j:=j0) (i:=i0) hij0
  obtain⟨v1',v2'⟩:=zgW (p:=λx=>!ltI x d2[a]!) (d:=d2) (i:=Go.Sort.scanUp (λx=>ltI x d2[a]!) d2 j0 i0) (j:=j0) u2'
  refine zj.cut (λ(st:Int×Unit) w'=>st.1=((Go.Sort.scanUp (λx=>ltI x d2[a]!) d2 j0 i0:Nat):Int)/\Dtw w' g rest d2/\Fr w.heap.size (·=g) w w') ?_ ?_
  ·clear u1' u2' v1' v2' hpt
   refine zl.ghost (λk (st:Int×Unit) w'=>∃i:Nat,st=((i:Int),())/\k=j0+1-i/\i0<=i/\i<=j0+1/\Go.Sort.scanUp (λx=>ltI x d2[a]!) d2 j0 i=Go.Sort.scanUp (λx=>ltI x d2[a]!) d2 j0 i0/\Dtw w' g rest d2/\Fr w.heap.size (·=g) w w') (j0+1-i0)
    ⟨i0,rfl,rfl,Nat.le_refl _,by omega,rfl,hD2,hF2⟩ ?_
   rintro _ _ wq ⟨i,rfl,rfl,hi0,hi1,hsc,hDq,hFq⟩ nextq hnextq
   refine zj.cut (λ_ w'=>i<=j0/\(λx=>ltI x d2[a]!) d2[i]! =true/\Dtw w' g rest d2/\Fr w.heap.size (·=g) w w') ?_ ?_
   ·refine zg (λh=>?_) (λh=>?_)
    ·have hij:i<=j0:=by dsimp only at h;omega
     refine(hDq.drew.at rfl (by omega) hn2.symm (hDq.drew.at rfl (by omega) hn2.symm (yc ⟨_,rfl,?_⟩)))
     refine zv (λhb=>⟨hij,hb,hDq.drew,hFq.drew⟩) (λhb=>⟨by rw[<-hsc,Zl (p:=λx=>ltI x d2[a]!) (.inr hb)],hDq.drew,hFq.drew⟩)
    ·exact⟨by rw[<-hsc,Zl (p:=λx=>ltI x d2[a]!) (.inl (by dsimp only at h;omega))],hDq.drew,hFq.drew⟩
   ·rintro _ wr ⟨hij,hp,hDr,hFr⟩
    rw[zA (by omega)]
    exact hnextq (j0+1-(i+1)) _ _ (by omega) ⟨i+1,rfl,rfl,by omega,by omega,by rw[<-hsc,zeZ (p:=λx=>ltI x d2[a]!) hij hp],hDr,hFr⟩
  rintro⟨i2,_⟩ w3 ⟨e2,hD3,hF3⟩
  dsimp only at e2⊢
  subst e2
  have heq:=Go.Sort.partLoop_eq (lt:=ltI) a i0 j0 d2
  generalize hI':Go.Sort.scanUp (λx=>ltI x d2[a]!) d2 j0 i0=I' at u1' u2' v1' v2' heq⊢
  refine zj.cut (λ(st:Int×Unit) w'=>st.1=((Go.Sort.scanDown (λx=>!ltI x d2[a]!) d2 I' j0:Nat):Int)/\Dtw w' g rest d2/\Fr w.heap.size (·=g) w w') ?_ ?_
  ·clear v1' v2' heq hpt
   refine zl.ghost (λk (st:Int×Unit) w'=>st=((k:Int),())/\k<=j0/\I'<=k+1/\Go.Sort.scanDown (λx=>!ltI x d2[a]!) d2 (I') k=Go.Sort.scanDown (λx=>!ltI x d2[a]!) d2 (I') j0/\Dtw w' g rest d2/\Fr w.heap.size (·=g) w w') j0
    ⟨rfl,Nat.le_refl _,by omega,rfl,hD3,hF3⟩ ?_
   rintro j _ wq ⟨rfl,hj0,hj1,hsc,hDq,hFq⟩ nextq hnextq
   refine zj.cut (λ_ w'=>I'<=j/\(λx=>!ltI x d2[a]!) d2[j]! =true/\Dtw w' g rest d2/\Fr w.heap.size (·=g) w w') ?_ ?_
   ·refine zg (λh=>?_) (λh=>?_)
    ·have hij:I'<=j:=by dsimp only at h;omega
     refine hDq.drew.at rfl (by omega) hn2.symm (hDq.drew.at rfl (by omega) hn2.symm (yc ⟨_,rfl,?_⟩))
     refine zM (zv (λhb=>?_) (λhb=>?_))
     ·exact⟨by rw[<-hsc,Zs (p:=λx=>!ltI x d2[a]!) (.inr (by rw[hb];rfl))],hDq.drew,hFq.drew⟩
     ·exact⟨hij,by dsimp only;rw[hb];rfl,hDq.drew,hFq.drew⟩
    ·exact⟨by rw[<-hsc,Zs (p:=λx=>!ltI x d2[a]!) (.inl (by dsimp only at h;omega))],hDq.drew,hFq.drew⟩
   ·rintro _ wr ⟨hij,hp,hDr,hFr⟩
    obtain⟨m,rfl⟩:∃m,j=m+1:=⟨j-1,by omega⟩
    rw[show IntKind.i64.wrap (((((m+1:Nat):Int),()):Int×Unit).1-1)=(m:Int) from wr64 (by dsimp only;omega) (by omega)]
    exact hnextq m _ _ (by omega) ⟨rfl,by omega,by omega,by rw[<-hsc,zcM (p:=λx=>!ltI x d2[a]!) hij hp],hDr,hFr⟩
  rintro⟨j2,_⟩ w4 ⟨e2,hD4,hF4⟩
  dsimp only at e2⊢
  subst e2
  generalize hJ':Go.Sort.scanDown (λx=>!ltI x d2[a]!) d2 I' j0=J' at v1' v2' heq⊢
  refine zg (λh=>?_) (λh=>?_)
  ·have h:I'>J':=by omega
   rw[if_pos h,he]at heq
   refine hD4.swap (i:=a) (j:=J') rfl rfl (by omega) (by omega) hn2.symm λw5 hD5 c5=>?_
   subst heq
   dsimp only at hpt
   subst hpt
   exact hR w5 hD5 (hF4.chg c5 (.inl rfl))
  ·have h:¬I'>J':=by omega
   rw[if_neg h]at heq
   have hIJ':I'<J':=zji (λ_=>rfl) hI' hJ' h (by omega)
   refine hD4.swap (i:=J') (j:=I') rfl rfl (by omega) (by omega) hn2.symm λw5 hD5 c5=>?_
   rw[wr64 (k:=I'+1) (by omega) (by omega),wr64 (k:=J'-1) (by omega) (by omega)]
   exact hnext (J'-1+1-(I'+1)) _ _ (by omega) ⟨I'+1,J'-1,_,rfl,rfl,by omega,by omega,by omega,hD5,by rw[Go.Sort.size_swp];exact hn2,by rw[<-heq,he],hF4.chg c5 (.inl rfl)⟩
end
end Go.Proofs
namespace Go.Proofs
open Go.Gk Go.RowKit
theorem zhI{d:Array Int}{b i:Nat}(h:b<=i\/ltI d[i]! d[i-1]! =true):Go.Sort.scanSorted ltI d b i=i:=by
 rw[Go.Sort.scanSorted,if_neg]
 intro hh
 rw[Bool.and_eq_true,decide_eq_true_eq]at hh
 rcases h with h |h
 ·omega
 ·rw[h]at hh;cases hh.2
theorem zou{d:Array Int}{b i:Nat}(h1:i<b)(h2:ltI d[i]! d[i-1]! =false):Go.Sort.scanSorted ltI d b (i+1)=Go.Sort.scanSorted ltI d b i:=by
 conv=>rhs;rw[Go.Sort.scanSorted,if_pos (by rw[Bool.and_eq_true,decide_eq_true_eq,h2];exact⟨h1,rfl⟩)]
theorem zk0{d:Array Int}{j:Nat}(h:j=0\/ltI d[j]! d[j-1]! =false):Go.Sort.shiftDown ltI j d=d:=by
 cases j with
 |zero=>rfl
 |succ j=>
  rw[Go.Sort.shiftDown,if_pos]
  rcases h with h |h
  ·omega
  ·rw[Nat.add_sub_cancel]at h;rw[h];rfl
theorem zpP{d:Array Int}{j:Nat}(h:ltI d[j+1]! d[j]! =true):Go.Sort.shiftDown ltI (j+1) d=Go.Sort.shiftDown ltI j (Go.Sort.swp d (j+1) j):=by
 conv=>lhs;rw[Go.Sort.shiftDown,if_neg (by rw[h];simp)]
theorem zk1{d:Array Int}{b j:Nat}(h:b<=j\/ltI d[j]! d[j-1]! =false):Go.Sort.shiftUp ltI b j d=d:=by
 rw[Go.Sort.shiftUp]
 split
 ·rcases h with h |h
  ·omega
  ·rw[h];rfl
 ·rfl
theorem zpQ{d:Array Int}{b j:Nat}(h0:j<b)(h:ltI d[j]! d[j-1]! =true):Go.Sort.shiftUp ltI b j d=Go.Sort.shiftUp ltI b (j+1) (Go.Sort.swp d j (j-1)):=by
 conv=>lhs;rw[Go.Sort.shiftUp,if_pos h0,if_neg (by rw[h];simp)]
section
variable {w:World} {g n c:Nat} {rest:List Value} {d:Array Int} {R:VWP}
theorem zjn{a b:Nat}(hD:Dtw w g rest d)(hn:n=d.size)(hmax:n<=35184372088832)(hab:a<b)(hb:b<=n)
  (hR:∀w',Dtw w' g rest (Go.Sort.partialInsertionSort ltI d a b).1->Fr w.heap.size (·=g) w w'->R (.bool (Go.Sort.partialInsertionSort ltI d a b).2) w') :
  cR 120 #[.slice (some (blk g)) n c,.int .i64 (a:Int),.int .i64 (b:Int)] w R:=by
 refine za.of (yD ⟨some (blk g),n,c⟩ a b R w ?_) λ_ _ h=>h
 have ea:IntKind.i64.wrap ((a:Int)+1)=((a+1:Nat):Int):=wr64 (by omega) (by omega)
 have eba:IntKind.i64.wrap ((b:Int)-(a:Int))=((b-a:Nat):Int):=wr64 (by omega) (by omega)
 unfold zG
 rw[ea,eba]
 generalize hgoal:Go.Sort.partialInsertionSort ltI d a b=pp at hR
 have hgoal:Go.Sort.partialIns ltI a b 5 (a+1) d=pp:=hgoal
 refine zl.ghost (λs (st:Int×Int×Unit) w'=>∃(i:Nat) (d':Array Int),st=((i:Int),(5:Int)-(s:Int),())/\s<=5/\a+1<=i/\i<=b/\Dtw w' g rest d'/\d'.size=n/\Go.Sort.partialIns ltI a b s i d'=pp/\Fr w.heap.size (·=g) w w') 5
  ⟨a+1,d,rfl,Nat.le_refl _,Nat.le_refl _,by omega,hD,hn.symm,hgoal,Fr.refl _ _ _⟩ ?_
 rintro s _ w1 ⟨i0,d1,rfl,hs,hi0,hib,hD1,hn1,he,hF⟩ next hnext
 dsimp only
 refine zg (λh=>?_) (λh=>?_)
 ·obtain⟨s,rfl⟩:∃m,s=m+1:=⟨s-1,by omega⟩
  rw[show IntKind.i64.wrap ((5:Int)-((s+1:Nat):Int)+1)=(5:Int)-(s:Int) by rw[zs (by omega) (by omega)];omega]
  refine zj.cut (λ(st:Int×Unit) w'=>∃(i:Nat) (d':Array Int),st=((i:Int),())/\a+1<=i/\i<=b/\Dtw w' g rest d'/\d'.size=n/\Go.Sort.partialIns ltI a b s i d'=pp/\Fr w.heap.size (·=g) w w') ?_ ?_
  rotate_left
  ·rintro _ w2 ⟨i,d2,rfl,q1,q2,q3,q4,q5,q6⟩
   exact hnext s _ _ (by omega) ⟨i,d2,rfl,by omega,q1,q2,q3,q4,q5,q6⟩
  refine zj.cut (λ(st:Int×Unit) w'=>∃i:Nat,st=((i:Int),())/\i=Go.Sort.scanSorted ltI d1 b i0/\a+1<=i/\i<=b/\Dtw w' g rest d1/\Fr w.heap.size (·=g) w w') ?_ ?_
  ·refine zl.ghost (λk (st:Int×Unit) w'=>∃i:Nat,st=((i:Int),())/\k=b-i/\a+1<=i/\i<=b/\Go.Sort.scanSorted ltI d1 b i=Go.Sort.scanSorted ltI d1 b i0/\Dtw w' g rest d1/\Fr w.heap.size (·=g) w w') (b-i0)
    ⟨i0,rfl,rfl,hi0,hib,rfl,hD1,hF⟩ ?_
   rintro _ _ wq ⟨i,rfl,rfl,q1,q2,hsc,hDq,hFq⟩ nextq hnextq
   dsimp only
   have ei:IntKind.i64.wrap ((i:Int)-1)=((i-1:Nat):Int):=wr64 (by omega) (by omega)
   rw[ei]
   refine zj.cut (λ_ w'=>i<b/\ltI d1[i]! d1[i-1]! =false/\Dtw w' g rest d1/\Fr w.heap.size (·=g) w w') ?_ ?_
   ·refine zg (λh=>?_) (λh=>?_)
    ·have hib':i<b:=by omega
     refine hDq.drew.at rfl (by omega) hn1.symm (hDq.drew.at rfl (by omega) hn1.symm (yc ⟨_,rfl,?_⟩))
     refine zM (zv (λhb=>?_) (λhb=>⟨hib',hb,hDq.drew,hFq.drew⟩))
     exact⟨i,rfl,by rw[<-hsc,zhI (.inr hb)],q1,q2,hDq.drew,hFq.drew⟩
    ·exact⟨i,rfl,by rw[<-hsc,zhI (.inl (by omega))],q1,q2,hDq.drew,hFq.drew⟩
   ·rintro _ wr ⟨hib',hb,hDr,hFr⟩
    rw[zA (by omega)]
    exact hnextq (b-(i+1)) _ _ (by omega) ⟨i+1,rfl,rfl,by omega,by omega,by rw[<-hsc,zou hib' hb],hDr,hFr⟩
  rintro _ w2 ⟨i,rfl,ei,q1,q2,hD2,hF2⟩
  dsimp only
  have hps:Go.Sort.partialIns ltI a b (s+1) i0 d1=(if i=b then(d1,true) else if b-a<50 then(d1,false) else
    Go.Sort.partialIns ltI a b s i (if b-i≥2 then Go.Sort.shiftUp ltI b (i+1) (if i-a≥2 then Go.Sort.shiftDown ltI (i-1) (Go.Sort.swp d1 i (i-1)) else Go.Sort.swp d1 i (i-1)) else(if i-a≥2 then Go.Sort.shiftDown ltI (i-1) (Go.Sort.swp d1 i (i-1)) else Go.Sort.swp d1 i (i-1)))):=by
   rw[ei];rfl
  rw[hps]at he
  refine zm (λe=>?_) (λe=>?_)
  ·rw[if_pos (by omega)]at he
   subst he
   exact hR w2 hD2 hF2
  have hib2:i<b:=by omega
  rw[if_neg (by omega)]at he
  refine zg (λh5=>?_) (λh5=>?_)
  ·rw[if_pos (by omega)]at he
   subst he
   exact hR w2 hD2 hF2
  rw[if_neg (by omega)]at he
  have ei1:IntKind.i64.wrap ((i:Int)-1)=((i-1:Nat):Int):=wr64 (by omega) (by omega)
  have eia:IntKind.i64.wrap ((i:Int)-(a:Int))=((i-a:Nat):Int):=wr64 (by omega) (by omega)
  have ebi:IntKind.i64.wrap ((b:Int)-(i:Int))=((b-i:Nat):Int):=wr64 (by omega) (by omega)
  have ei2:IntKind.i64.wrap ((i:Int)+1)=((i+1:Nat):Int):=wr64 (by omega) (by omega)
  rw[ei1,eia,ebi,ei2]
  refine hD2.swap (i:=i-1) (j:=i) rfl rfl (by omega) (by omega) hn1.symm λw3 hD3 c3=>?_
  have hF3:=hF2.chg c3 (.inl rfl)
  have hn3:(Go.Sort.swp d1 i (i-1)).size=n:=by rw[Go.Sort.size_swp];exact hn1
  generalize Go.Sort.swp d1 i (i-1)=d3 at hD3 hn3 he
  refine zj.cut (λ_ w'=>∃d4,Dtw w' g rest d4/\d4.size=n/\d4=(if i-a≥2 then Go.Sort.shiftDown ltI (i-1) d3 else d3)/\Fr w.heap.size (·=g) w w') ?_ ?_
  ·refine zg (λh2=>?_) (λh2=>?_)
   ·rw[if_pos (by omega)]
    refine zl.ghost (λk (st:Int×Unit) w'=>∃d':Array Int,st=((k:Int),())/\k<i/\Dtw w' g rest d'/\d'.size=n/\Go.Sort.shiftDown ltI k d'=Go.Sort.shiftDown ltI (i-1) d3/\Fr w.heap.size (·=g) w w') (i-1)
     ⟨d3,rfl,by omega,hD3,hn3,rfl,hF3⟩ ?_
    rintro j _ wq ⟨dq,rfl,hji,hDq,hnq,hsq,hFq⟩ nextq hnextq
    dsimp only
    refine zg (λh=>?_) (λh=>?_)
    ·obtain⟨m,rfl⟩:∃m,j=m+1:=⟨j-1,by omega⟩
     have em:IntKind.i64.wrap (((m+1:Nat):Int)-1)=(m:Int):=wr64 (by omega) (by omega)
     rw[em]
     refine hDq.drew.at rfl (by omega) hnq.symm (hDq.drew.at rfl (by omega) hnq.symm (yc ⟨_,rfl,?_⟩))
     refine zM (zv (λhb=>?_) (λhb=>⟨dq,hDq.drew,hnq,by rw[<-hsq,zk0 (.inr hb)],hFq.drew⟩))
     refine hDq.drew.swap (i:=m) (j:=m+1) rfl rfl (by omega) (by omega) hnq.symm λwr hDr cr=>?_
     exact hnextq m _ _ (by omega) ⟨_,rfl,by omega,hDr,by rw[Go.Sort.size_swp];exact hnq,by rw[<-hsq,zpP hb],hFq.drew.chg cr (.inl rfl)⟩
    ·exact⟨dq,hDq,hnq,by rw[<-hsq,zk0 (.inl (by omega))],hFq⟩
   ·rw[if_neg (by omega)]
    exact⟨d3,hD3,hn3,rfl,hF3⟩
  rintro _ w4 ⟨d4,hD4,hn4,e4,hF4⟩
  rw[<-e4]at he
  clear e4
  refine zg (λh2=>?_) (λh2=>?_)
  ·rw[if_pos (by omega)]at he
   refine zl.ghost (λk (st:Int×Unit) w'=>∃(j:Nat) (d':Array Int),st=((j:Int),())/\k=b-j/\i<j/\Dtw w' g rest d'/\d'.size=n/\Go.Sort.shiftUp ltI b j d'=Go.Sort.shiftUp ltI b (i+1) d4/\Fr w.heap.size (·=g) w w') (b-(i+1))
    ⟨i+1,d4,rfl,rfl,by omega,hD4,hn4,rfl,hF4⟩ ?_
   rintro _ _ wq ⟨j,dq,rfl,rfl,hij,hDq,hnq,hsq,hFq⟩ nextq hnextq
   dsimp only
   refine zg (λh=>?_) (λh=>?_)
   ·have em:IntKind.i64.wrap ((j:Int)-1)=((j-1:Nat):Int):=wr64 (by omega) (by omega)
    rw[em]
    refine hDq.drew.at rfl (by omega) hnq.symm (hDq.drew.at rfl (by omega) hnq.symm (yc ⟨_,rfl,?_⟩))
    refine zM (zv (λhb=>?_) (λhb=>⟨i,dq,rfl,q1,q2,hDq.drew,hnq,?_,hFq.drew⟩))
    ·refine hDq.drew.swap (i:=j-1) (j:=j) rfl rfl (by omega) (by omega) hnq.symm λwr hDr cr=>?_
     rw[zA (by omega)]
     exact hnextq (b-(j+1)) _ _ (by omega) ⟨j+1,_,rfl,rfl,by omega,hDr,by rw[Go.Sort.size_swp];exact hnq,by rw[<-hsq,zpQ (by omega) hb],hFq.drew.chg cr (.inl rfl)⟩
    ·rw[<-he,<-hsq,zk1 (.inr hb)]
   ·exact⟨i,dq,rfl,q1,q2,hDq,hnq,by rw[<-he,<-hsq,zk1 (.inl (by omega))],hFq⟩
  ·rw[if_neg (by omega)]at he
   exact⟨i,d4,rfl,q1,q2,hD4,hn4,he,hF4⟩
 ·have hs0:s=0:=by omega
  subst hs0
  have he:(d1,false)=pp:=he
  subst he
  exact hR w1 hD1 hF
theorem zdM{i j r:Nat}{s:Int}{T:TypeId}(hD:Dtw w g rest d)(hn:n=d.size)(hi:i<n)(hj:j<n)(hS:Blk w r T [.int .i64 s])(hT:T≠22)
  (hR:∀w' (p q:Nat) s',((p=i/\q=j)\/(p=j/\q=i))->Dtw w' g rest d->Blk w' r T [.int .i64 s']->Chg r w w'->R (.tuple #[.int .i64 (p:Int),.int .i64 (q:Int)]) w') :
  cR 178 #[.slice (some (blk g)) n c,.int .i64 (i:Int),.int .i64 (j:Int),.pointer (some (blk r))] w R:=by
 refine za.of (Yi ⟨some (blk g),n,c⟩ i j (some (blk r)) R w ?_) λ_ _ h=>h
 have hne:g≠r:=Blk.apart hD hS hT.symm
 refine hD.drew.at rfl (by omega) hn (hD.drew.at rfl (by omega) hn (yc ⟨_,rfl,?_⟩))
 refine zv (λhb=>?_) (λhb=>?_)
 ·refine ze rfl (hS.drew.rI0 rfl (ze rfl ⟨hS.drew.wr0 (by simp),Nw.mk ?_⟩))
  have c1:=((Chg.refl r w).drew).trans (Chg.set r 0 w.drew (.int .i64 (IntKind.i64.wrap (s+1))))
  exact hR _ j i _ (.inr ⟨rfl,rfl⟩) (c1.blk hD hne) (hS.drew.set0 _) c1
 ·exact hR _ i j s (.inl ⟨rfl,rfl⟩) hD.drew hS.drew (Chg.refl r w).drew
theorem zgD{i j k r:Nat}{s:Int}{T:TypeId}(hD:Dtw w g rest d)(hn:n=d.size)(hi:i<n)(hj:j<n)(hk:k<n)(hS:Blk w r T [.int .i64 s])(hT:T≠22)
  (hR:∀w' (p:Nat) s',(p=i\/p=j\/p=k)->Dtw w' g rest d->Blk w' r T [.int .i64 s']->Chg r w w'->R (.int .i64 (p:Int)) w') :
  cR 155 #[.slice (some (blk g)) n c,.int .i64 (i:Int),.int .i64 (j:Int),.int .i64 (k:Int),.pointer (some (blk r))] w R:=by
 refine za.of (Yh ⟨some (blk g),n,c⟩ i j k (some (blk r)) R w ?_) λ_ _ h=>h
 refine zdM (n:=n) (c:=c) hD hn hi hj hS hT λw1 a1 b1 s1 h1 hD1 hS1 c1=>⟨_,_,rfl,?_⟩
 refine zdM (n:=n) (c:=c) hD1 hn (i:=b1) (j:=k) (by omega) hk hS1 hT λw2 a2 b2 s2 h2 hD2 hS2 c2=>⟨_,_,rfl,?_⟩
 refine zdM (n:=n) (c:=c) hD2 hn (i:=a1) (j:=a2) (by omega) (by omega) hS2 hT λw3 a3 b3 s3 h3 hD3 hS3 c3=>⟨_,_,rfl,?_⟩
 exact hR w3 b3 s3 (by omega) hD3 hS3 ((c1.trans c2).trans c3)
theorem zcL{i r:Nat}{s:Int}{T:TypeId}(hD:Dtw w g rest d)(hn:n=d.size)(hmax:n<=35184372088832)(h0:0<i)(hi:i+1<n)(hS:Blk w r T [.int .i64 s])(hT:T≠22)
  (hR:∀w' (p:Nat) s',(i-1<=p/\p<=i+1)->Dtw w' g rest d->Blk w' r T [.int .i64 s']->Chg r w w'->R (.int .i64 (p:Int)) w') :
  cR 154 #[.slice (some (blk g)) n c,.int .i64 (i:Int),.pointer (some (blk r))] w R:=by
 refine za.of (Zq ⟨some (blk g),n,c⟩ i (some (blk r)) R w ?_) λ_ _ h=>h
 have e1:IntKind.i64.wrap ((i:Int)-1)=((i-1:Nat):Int):=wr64 (by omega) (by omega)
 have e2:IntKind.i64.wrap ((i:Int)+1)=((i+1:Nat):Int):=wr64 (by omega) (by omega)
 unfold zK
 rw[e1,e2]
 refine zgD (n:=n) (c:=c) hD hn (by omega) (by omega) (by omega) hS hT λw1 p s1 hp hD1 hS1 c1=>⟨_,rfl,?_⟩
 exact hR w1 p s1 (by omega) hD1 hS1 c1
theorem zlz{a b:Nat}(hD:Dtw w g rest d)(hn:n=d.size)(hmax:n<=35184372088832)(hab:a<b)(hb:b<=n)
  (hR:∀w' (p:Nat) h,a<=p->p<b->Dtw w' g rest d->Fr w.heap.size (·=g) w w'->R (.tuple #[.int .i64 (p:Int),.int .i64 h]) w') :
  cR 118 #[.slice (some (blk g)) n c,.int .i64 (a:Int),.int .i64 (b:Int)] w R:=by
 refine za.of (Z4 ⟨some (blk g),n,c⟩ a b R w ?_) λ_ _ h=>h
 have eba:IntKind.i64.wrap ((b:Int)-(a:Int))=((b-a:Nat):Int):=wr64 (by omega) (by omega)
 generalize hl:b-a=l at eba
 have e4:IntKind.i64.wrap (Int.tdiv (l:Int) 4)=((l / 4:Nat):Int):=wr64 (by rw[Int.tdiv_eq_ediv_of_nonneg (by omega)];omega) (by omega)
 generalize hq:l / 4=q at e4
 have m1:IntKind.i64.wrap ((q:Int)*1)=(q:Int):=wr64 (by omega) (by omega)
 have m2:IntKind.i64.wrap ((q:Int)*2)=((q*2:Nat):Int):=wr64 (by omega) (by omega)
 have m3:IntKind.i64.wrap ((q:Int)*3)=((q*3:Nat):Int):=wr64 (by omega) (by omega)
 have a1:IntKind.i64.wrap ((a:Int)+(q:Int))=((a+q:Nat):Int):=wr64 (by omega) (by omega)
 have a2:IntKind.i64.wrap ((a:Int)+((q*2:Nat):Int))=((a+q*2:Nat):Int):=wr64 (by omega) (by omega)
 have a3:IntKind.i64.wrap ((a:Int)+((q*3:Nat):Int))=((a+q*3:Nat):Int):=wr64 (by omega) (by omega)
 unfold zQ
 rw[eba,e4,m1,m2,m3,a1,a2,a3]
 refine zk λw1 hS1 b1 z1=>?_
 have hD1:=hD.below b1
 have hT:3≠22:=by decide
 have hgl:=hD.lt
 refine zj.cut (λ(st:Int×Unit) w'=>∃(p:Nat) (s:Int),st=((p:Int),())/\a<=p/\p<b/\Dtw w' g rest d/\Blk w' w.heap.size 3 [.int .i64 s]/\Chg w.heap.size w1 w') ?_ ?_
 ·refine zg (λh8=>?_) (λh8=>?_)
  ·refine zj.cut (λ(st:Int×Int×Int×Unit) w'=>∃(i j k:Nat) (s:Int),st=((i:Int),(j:Int),(k:Int),())/\(a<=i/\i<b)/\(a<=j/\j<b)/\(a<=k/\k<b)/\Dtw w' g rest d/\Blk w' w.heap.size 3 [.int .i64 s]/\Chg w.heap.size w1 w') ?_ ?_
   ·refine zg (λh50=>?_) (λh50=>?_)
    ·refine zcL (n:=n) (c:=c) hD1 hn hmax (by omega) (by omega) hS1 hT λw2 p1 s2 hp1 hD2 hS2 c2=>⟨_,rfl,?_⟩
     refine zcL (n:=n) (c:=c) hD2 hn hmax (by omega) (by omega) hS2 hT λw3 p2 s3 hp2 hD3 hS3 c3=>⟨_,rfl,?_⟩
     refine zcL (n:=n) (c:=c) hD3 hn hmax (by omega) (by omega) hS3 hT λw4 p3 s4 hp3 hD4 hS4 c4=>⟨_,rfl,?_⟩
     exact⟨p1,p2,p3,s4,rfl,by omega,by omega,by omega,hD4,hS4,(c2.trans c3).trans c4⟩
    ·exact⟨a+q,a+q*2,a+q*3,0,rfl,by omega,by omega,by omega,hD1,hS1,Chg.refl _ _⟩
   ·rintro _ w2 ⟨i,j,k,s,rfl,hi,hj,hk,hD2,hS2,c2⟩
    refine zgD (n:=n) (c:=c) hD2 hn (i:=i) (j:=j) (k:=k) (by omega) (by omega) (by omega) hS2 hT λw3 p s3 hp hD3 hS3 c3=>⟨_,rfl,?_⟩
    exact⟨p,s3,rfl,by omega,by omega,hD3,hS3,c2.trans c3⟩
  ·exact⟨a+q*2,0,rfl,by omega,by omega,hD1,hS1,Chg.refl _ _⟩
 ·rintro _ w2 ⟨p,s,rfl,hp1,hp2,hD2,hS2,c2⟩
  have hF:Fr w.heap.size (·=g) w w2:=(Fr.of_below b1).chg c2 (.inr (Nat.le_refl _))
  refine hS2.rI0 rfl (zm (λ_=>hR w2 p _ hp1 hp2 hD2 hF) (λ_=>zm (λ_=>hR w2 p _ hp1 hp2 hD2 hF) (λ_=>hR w2 p _ hp1 hp2 hD2 hF)))
end
end Go.Proofs
namespace Go.Proofs
open Go.Gk Go.RowKit
abbrev zlm:ByteArray:=BM #[0,1,2,2,3,3,3,3,4,4,4,4,4,4,4,4,5,5,5,5,5,5,5,5,5,5,5,5,5,5,5,5,6,6,6,6,6,6,6,6,6,6,6,6,6,6,6,6,6,6,6,6,6,6,6,6,6,6,6,6,6,6,6,6,7,7,7,7,7,7,7,7,7,7,7,7,7,7,7,7,7,7,7,7,7,7,7,7,7,7,7,7,7,7,7,7,7,7,7,7,7,7,7,7,7,7,7,7,7,7,7,7,7,7,7,7,7,7,7,7,7,7,7,7,7,7,7,7,8,8,8,8,8,8,8,8,8,8,8,8,8,8,8,8,8,8,8,8,8,8,8,8,8,8,8,8,8,8,8,8,8,8,8,8,8,8,8,8,8,8,8,8,8,8,8,8,8,8,8,8,8,8,8,8,8,8,8,8,8,8,8,8,8,8,8,8,8,8,8,8,8,8,8,8,8,8,8,8,8,8,8,8,8,8,8,8,8,8,8,8,8,8,8,8,8,8,8,8,8,8,8,8,8,8,8,8,8,8,8,8,8,8,8,8,8,8,8,8,8,8,8,8,8,8,8,8]
theorem zmJ:((List.range 256).all λm=>decide ((zlm.data.getD m 0).toNat<=8)&&(m==0||decide (2 ^ (zlm.data.getD m 0).toNat<=2*m)))=true:=by decide +kernel
theorem zmI{m:Nat}(hm:m<256):∃t:Nat,zaA zlm (m:Int)=(t:Int)/\t<=8/\(0<m->2 ^ t<=2*m):=by
 have h:=List.all_eq_true.1 zmJ m (List.mem_range.2 hm)
 rw[Bool.and_eq_true,decide_eq_true_eq,Bool.or_eq_true,decide_eq_true_eq,beq_iff_eq]at h
 exact⟨_,rfl,h.1,λh0=>h.2.resolve_left (by omega)⟩
theorem znJ(x k:Nat)(hk:k<64):Int.fdiv (x:Int) (2 ^ (min k (IntKind.bits .u64)))=((x / 2 ^ k:Nat):Int):=by
 have hm:min k (IntKind.bits .u64)=k:=by rw[show IntKind.bits .u64=64 from rfl];omega
 rw[hm,show((2:Int) ^ k)=((2 ^ k:Nat):Int) by simp,Int.ofNat_fdiv]
theorem zhM{x m L k:Nat}(h:0<x->0<m/\2 ^ L*m<=x)(hm:2 ^ k<=m):0<x->0<m / 2 ^ k/\2 ^ (L+k)*(m / 2 ^ k)<=x:=λhx=>by
 obtain⟨h1,h2⟩:=h hx
 refine⟨Nat.div_pos hm (Nat.two_pow_pos k),?_⟩
 rw[Nat.pow_add,Nat.mul_assoc]
 exact Nat.le_trans (Nat.mul_le_mul_left _ (Nat.mul_div_le m (2 ^ k))) h2
section
variable {w:World} {R:VWP}
theorem zkH{x:Nat}(hx:x<=70368744177664)(hR:∀L:Nat,L<=64->(0<x->2 ^ L<=2*x)->R (.int .i64 (L:Int)) w):cR 125 #[.int .u64 (x:Int)] w R:=by
 refine za.of (zdr x R w ?_) λ_ _ h=>h
 refine zj.cut (λ(st:Int×Int×Unit) w'=>w'=w/\∃m L:Nat,st=((m:Int),(L:Int),())/\m<2 ^ 32/\L<=32/\(0<x->0<m/\2 ^ L*m<=x)) ?_ ?_
 ·refine zg (λh=>?_) (λh=>?_)
  ·rw[znJ x 32 (by decide)]
   exact⟨rfl,x / 2 ^ 32,32,rfl,by omega,Nat.le_refl _,by have:=zhM (x:=x) (m:=x) (L:=0) (k:=32) (λh=>⟨h,by omega⟩) (by omega);simpa using this⟩
  ·exact⟨rfl,x,0,rfl,by omega,by omega,λh=>⟨h,by omega⟩⟩
 rintro _ w ⟨rfl,m1,L1,rfl,h1,h2,h3⟩
 refine zj.cut (λ(st:Int×Int×Unit) w'=>w'=w/\∃m L:Nat,st=((m:Int),(L:Int),())/\m<2 ^ 16/\L<=48/\(0<x->0<m/\2 ^ L*m<=x)) ?_ ?_
 ·refine zg (λh=>?_) (λh=>?_)
  ·dsimp only at h⊢
   rw[znJ m1 16 (by decide)]
   have e:IntKind.i64.wrap ((L1:Int)+16)=((L1+16:Nat):Int):=by rw[zs (by omega) (by omega)];omega
   rw[e]
   exact⟨rfl,m1 / 2 ^ 16,L1+16,rfl,by omega,by omega,zhM h3 (by omega)⟩
  ·exact⟨rfl,m1,L1,rfl,by dsimp only at h;omega,by omega,h3⟩
 rintro _ w ⟨rfl,m2,L2,rfl,h4,h5,h6⟩
 refine zj.cut (λ(st:Int×Int×Unit) w'=>w'=w/\∃m L:Nat,st=((m:Int),(L:Int),())/\m<2 ^ 8/\L<=56/\(0<x->0<m/\2 ^ L*m<=x)) ?_ ?_
 ·refine zg (λh=>?_) (λh=>?_)
  ·dsimp only at h⊢
   rw[znJ m2 8 (by decide)]
   have e:IntKind.i64.wrap ((L2:Int)+8)=((L2+8:Nat):Int):=by rw[zs (by omega) (by omega)];omega
   rw[e]
   exact⟨rfl,m2 / 2 ^ 8,L2+8,rfl,by omega,by omega,zhM h6 (by omega)⟩
  ·exact⟨rfl,m2,L2,rfl,by dsimp only at h;omega,by omega,h6⟩
 rintro _ w ⟨rfl,m3,L3,rfl,h7,h8,h9⟩
 dsimp only
 have e8:IntKind.u8.wrap (m3:Int)=(m3:Int):=by rw[IntKind.wrap_u8];omega
 rw[e8]
 obtain⟨t,ht,ht8,htm⟩:=zmI (m:=m3) (by omega)
 refine⟨⟨by omega,Int.lt_of_lt_of_le (b:=256) (by omega) (by decide +kernel)⟩,?_⟩
 ·rw[ht,zs (x:=(t:Int)) (by omega) (by omega)]
  have e:IntKind.i64.wrap ((L3:Int)+(t:Int))=((L3+t:Nat):Int):=by rw[zs (by omega) (by omega)];omega
  rw[e]
  refine hR (L3+t) (by omega) λhx0=>?_
  obtain⟨k1,k2⟩:=h9 hx0
  have:=htm k1
  rw[Nat.pow_add]
  calc 2 ^ L3*2 ^ t<=2 ^ L3*(2*m3):=Nat.mul_le_mul_left _ this
   _=2*(2 ^ L3*m3):=by rw[Nat.mul_left_comm]
   _<=2*x:=Nat.mul_le_mul_left _ k2
theorem zhk{x:Nat}(hx:x<=70368744177664)(hR:∀L:Nat,L<=64->(0<x->2 ^ L<=2*x)->R (.int .i64 (L:Int)) w):cR 86 #[.int .u64 (x:Int)] w R:=by
 refine za.of (zeq x R w ?_) λ_ _ h=>h
 exact zkH hx λL h1 h2=>⟨_,rfl,hR L h1 h2⟩
theorem zkC{x:Nat}(hx:x<=9223372036854775807):IntKind.u64.wrap (x:Int)=(x:Int):=by
 rw[IntKind.wrap_u64]
 exact Int.emod_eq_of_lt (by omega) (by omega)
theorem zjh{x:Nat}(h0:0<x)(hx:x<=35184372088832)(hR:∀L:Nat,2 ^ L<=2*x->R (.int .u64 ((2 ^ L:Nat):Int)) w):cR 152 #[.int .i64 (x:Int)] w R:=by
 refine za.of (zaL x R w ?_) λ_ _ h=>h
 unfold yQ
 rw[zkC (by omega)]
 refine zhk (by omega) λL h1 h2=>⟨_,rfl,?_⟩
 have h3:=h2 h0
 refine zg (λh=>by omega) (λ_=>?_)
 have e:(1:Int)*2 ^ (min (Int.toNat (L:Int)) (IntKind.bits .u64))=((2 ^ L:Nat):Int):=by
  rw[show min (Int.toNat (L:Int)) (IntKind.bits .u64)=L by rw[show IntKind.bits .u64=64 from rfl,Int.toNat_natCast];omega]
  simp
 rw[e,zkC (by omega)]
 exact hR L h3
theorem mask{x:Int}{L:Nat}(hL:2 ^ L<=70368744177664):∃v:Nat,v<2 ^ L/\
  IntKind.i64.wrap (IntKind.u64.wrap ((BitVec.toNat (BitVec.ofInt (IntKind.bits .u64) x &&& BitVec.ofInt (IntKind.bits .u64) (IntKind.u64.wrap (((2 ^ L:Nat):Int)-1))):Nat):Int))=(v:Int):=by
 have hp:=Nat.two_pow_pos L
 have q1:((2 ^ L:Nat):Int)-1=((2 ^ L-1:Nat):Int):=by omega
 have q2:=zkC (x:=2 ^ L-1) (by omega)
 rw[q1,q2,BitVec.toNat_and]
 have hb:(BitVec.ofInt (IntKind.bits .u64) ((2 ^ L-1:Nat):Int)).toNat=2 ^ L-1:=by
  rw[BitVec.ofInt_natCast,BitVec.toNat_ofNat,show IntKind.bits .u64=64 from rfl]
  exact Nat.mod_eq_of_lt (by omega)
 rw[hb]
 have hle:=Nat.and_le_right (n:=(BitVec.ofInt (IntKind.bits .u64) x).toNat) (m:=2 ^ L-1)
 exact⟨(BitVec.ofInt (IntKind.bits .u64) x).toNat &&& (2 ^ L-1),by omega,by rw[zkC (by omega),zs (by omega) (by omega)]⟩
theorem zjv{r:Nat}{T:TypeId}{x:Int}(hS:Blk w r T [.int .u64 x])(hR:∀w' y,Blk w' r T [.int .u64 y]->Chg r w w'->R (.int .u64 y) w'):cR 153 #[.pointer (some (blk r))] w R:=by
 refine za.of (zbn (some (blk r)) R w ?_) λ_ _ h=>h
 have one:∀{w:World} {x:Int} {v:Int->Int->Int} {K:World->Prop},Blk w r T [.int .u64 x]->(∀w' y,Blk w' r T [.int .u64 y]->Chg r w w'->K w')->
   zc (some (blk r)) λa1=>ldI w.drew a1 .u64 λx2=>zc (some (blk r)) λa3=>ldI w.drew a3 .u64 λx4=>zc (some (blk r)) λa5=>Wr w.drew a5/\Nw (w.drew.setCell a5 (.int .u64 (v x2 x4))) K:=λhS hK=>
  ze rfl (hS.drew.rI0 rfl (ze rfl (hS.drew.rI0 rfl (ze rfl ⟨hS.drew.wr0 (by simp),Nw.mk (hK _ _ (hS.drew.set0 _) (((Chg.refl r _).drew).trans (Chg.set r 0 _ _)))⟩))))
 refine one (v:=λx2 x4=>IntKind.u64.wrap ((BitVec.toNat (BitVec.ofInt (IntKind.bits .u64) x2 ^^^ BitVec.ofInt (IntKind.bits .u64) (IntKind.u64.wrap (x4*2 ^ (min 13 (IntKind.bits .u64))))):Nat):Int)) hS λw1 y1 hS1 c1=>?_
 refine one (v:=λx2 x4=>IntKind.u64.wrap ((BitVec.toNat (BitVec.ofInt (IntKind.bits .u64) x2 ^^^ BitVec.ofInt (IntKind.bits .u64) (Int.fdiv x4 (2 ^ (min 7 (IntKind.bits .u64))))):Nat):Int)) hS1 λw2 y2 hS2 c2=>?_
 refine one (v:=λx2 x4=>IntKind.u64.wrap ((BitVec.toNat (BitVec.ofInt (IntKind.bits .u64) x2 ^^^ BitVec.ofInt (IntKind.bits .u64) (IntKind.u64.wrap (x4*2 ^ (min 17 (IntKind.bits .u64))))):Nat):Int)) hS2 λw3 y3 hS3 c3=>?_
 exact ze rfl (hS3.rI0 rfl (hR w3 y3 hS3 ((c1.trans c2).trans c3)))
end
section
variable {w:World} {g n c:Nat} {rest:List Value} {d:Array Int} {R:VWP}
theorem zkQ{a b:Nat}(hD:Dtw w g rest d)(hn:n=d.size)(hmax:n<=35184372088832)(hab:a<b)(hb:b<=n)
  (hR:∀w' d',Dtw w' g rest d'->Go.Sort.PermIn a b d d'->Fr w.heap.size (·=g) w w'->R (.tuple #[]) w') :
  cR 117 #[.slice (some (blk g)) n c,.int .i64 (a:Int),.int .i64 (b:Int)] w R:=by
 refine za.of (Zw ⟨some (blk g),n,c⟩ a b R w ?_) λ_ _ h=>h
 have eba:IntKind.i64.wrap ((b:Int)-(a:Int))=((b-a:Nat):Int):=wr64 (by omega) (by omega)
 generalize hl:b-a=l at eba
 unfold zN
 rw[eba]
 refine zg (λh8=>?_) (λh8=>hR w d hD (Go.Sort.permIn_refl d a b) (Fr.refl _ _ _))
 have e4:IntKind.i64.wrap (Int.tdiv (l:Int) 4)=((l / 4:Nat):Int):=wr64 (by rw[Int.tdiv_eq_ediv_of_nonneg (by omega)];omega) (by omega)
 generalize hq:l / 4=q at e4
 have m2:IntKind.i64.wrap ((q:Int)*2)=((q*2:Nat):Int):=wr64 (by omega) (by omega)
 have a2:IntKind.i64.wrap ((a:Int)+((q*2:Nat):Int))=((a+q*2:Nat):Int):=wr64 (by omega) (by omega)
 have a3:IntKind.i64.wrap (((a+q*2:Nat):Int)+1)=((a+q*2+1:Nat):Int):=wr64 (by omega) (by omega)
 have a4:IntKind.i64.wrap (((a+q*2:Nat):Int)-1)=((a+q*2-1:Nat):Int):=wr64 (by omega) (by omega)
 rw[e4,m2,a2,a3,a4]
 refine Nw.gen λw1 e1=>?_
 have hS1:∃T,T=228/\Blk w1 w.heap.size T [.int .u64 0]:=⟨_,rfl,by rw[e1];exact Blk.new _ _ _⟩
 obtain⟨T,hT,hS1⟩:=hS1
 have hT':T≠22:=by rw[hT];decide
 clear hT
 have b1:Below w.heap.size w w1:=by rw[e1];exact(Below.refl _ _).alloc (Nat.le_refl _) _
 clear e1
 have hgl:=hD.lt
 refine⟨hS1.wr0 (by simp),Nw.gen λw2 e2=>?_⟩
 have c2:Chg w.heap.size w1 w2:=by rw[e2];exact Chg.set w.heap.size 0 w1 _
 have hS2:Blk w2 w.heap.size T [.int .u64 (IntKind.u64.wrap (l:Int))]:=by rw[e2];exact hS1.set0 _
 clear e2
 have hD2:=c2.blk (hD.below b1) (by omega)
 have hF2:Fr w.heap.size (·=g) w w2:=(Fr.of_below b1).chg c2 (.inr (Nat.le_refl _))
 refine zjh (by omega) (by omega) λL hL=>⟨_,rfl,?_⟩
 refine zl.ghost (λk (st:Int×Unit) w'=>∃(i:Nat) (d':Array Int) (x:Int),st=((i:Int),())/\k=a+q*2+2-i/\a<=i/\i<=a+q*2+2/\Dtw w' g rest d'/\Go.Sort.PermIn a b d d'/\Blk w' w.heap.size T [.int .u64 x]/\Fr w.heap.size (·=g) w w') (a+q*2+2-(a+q*2-1))
  ⟨a+q*2-1,d,_,rfl,rfl,by omega,by omega,hD2,Go.Sort.permIn_refl d a b,hS2,hF2⟩ ?_
 rintro _ _ w3 ⟨i,d3,x3,rfl,rfl,hi1,hi2,hD3,hP3,hS3,hF3⟩ next hnext
 dsimp only
 have hn3:d3.size=n:=by rw[hP3.1];exact hn.symm
 refine zg (λh=>?_) (λh=>hR w3 d3 hD3 hP3 hF3)
 refine zjv hS3 λw4 y hS4 c4=>⟨_,rfl,?_⟩
 have hD4:=c4.blk hD3 (Blk.apart hD3 hS3 hT'.symm)
 have hF4:=hF3.chg c4 (.inr (Nat.le_refl _))
 obtain⟨v,hv,ev⟩:=mask (x:=y) (L:=L) (by omega)
 dsimp only[zB,Go.Gk.Sl.zw,zi,zu,zb,zh];rw[ev]
 refine zj.cut (λ(st:Int×Unit) w'=>w'=w4/\∃o:Nat,st=((o:Int),())/\o<l) ?_ ?_
 ·refine zg (λh=>?_) (λh=>?_)
  ·rw[wr64 (x:=(v:Int)-(l:Int)) (k:=v-l) (by omega) (by omega)]
   exact⟨rfl,v-l,rfl,by omega⟩
  ·exact⟨rfl,v,rfl,by omega⟩
 ·rintro _ _ ⟨rfl,o,rfl,ho⟩
  dsimp only
  have eo:IntKind.i64.wrap ((a:Int)+(o:Int))=((a+o:Nat):Int):=wr64 (by omega) (by omega)
  rw[eo]
  refine Dtw.swap (hD4) (i:=a+o) (j:=i) rfl rfl (by omega) (by omega) hn3.symm λw5 hD5 c5=>?_
  rw[zA (by omega)]
  refine hnext (a+q*2+2-(i+1)) _ _ (by omega) ⟨i+1,_,y,rfl,rfl,by omega,by omega,hD5,?_,c5.blk hS4 (Ne.symm (Blk.apart hD3 hS3 hT'.symm)),hF4.chg c5 (.inl rfl)⟩
  exact Go.Sort.permIn_trans _ _ _ a b hP3 (Go.Sort.swp_permIn d3 a b i (a+o) (by omega) (by omega) (by omega) (by omega) (by omega))
theorem zoo:∀(N a b:Nat) (lim:Int) (w:World) (d:Array Int) (R:VWP),b-a<=N->Dtw w g rest d->n=d.size->n<=35184372088832->a<=b->b<=n->Go.Sort.Below ltI a b d->
  (∀w' d',Dtw w' g rest d'->Go.Sort.PermIn a b d d'->Go.Sort.SortedIn ltI a b d'->Fr w.heap.size (·=g) w w'->R (.tuple #[]) w')->
  cR 85 #[.slice (some (blk g)) n c,.int .i64 (a:Int),.int .i64 (b:Int),.int .i64 lim] w R:=by
 intro N
 induction N with
 |zero=>
  intro a b lim w d R hN hD hn hmax hab hb hB hR
  refine za.of (zR ⟨some (blk g),n,c⟩ a b lim R w ?_) λ_ _ h=>h
  refine zl.ghost (λ_ st w'=>st=((a:Int),(b:Int),lim,true,true,())/\w'=w) 0 ⟨rfl,rfl⟩ ?_
  rintro _ _ w1 ⟨rfl,rfl⟩ next _
  dsimp only
  have e:IntKind.i64.wrap ((b:Int)-(a:Int))=((b-a:Nat):Int):=wr64 (by omega) (by omega)
  rw[e]
  refine zg (λh=>?_) (λh=>by omega)
  refine ziy hD hn hmax hab hb λw2 hD2 hF2=>⟨rfl,?_⟩
  obtain⟨p1,p2⟩:=Go.Sort.insertionSort_holds Go.Sort.swo_ltInt d a b hab (by omega)
  exact hR w2 _ hD2 p1 p2 hF2
 |succ N ih=>
  intro a0 b0 lim0 w d0 R hN hD0 hn0 hmax hab0 hb0 hB0 hR
  refine za.of (zR ⟨some (blk g),n,c⟩ a0 b0 lim0 R w ?_) λ_ _ h=>h
  refine zl.ghost (λk (st:Int×Int×Int×Bool×Bool×Unit) w'=>∃(a b:Nat) (lim:Int) (wb wp:Bool) (d:Array Int),st=((a:Int),(b:Int),lim,wb,wp,())/\k=b-a/\b-a<=N+1/\a<=b/\b<=n/\Dtw w' g rest d/\d.size=n/\Go.Sort.Below ltI a b d/\
   (∀D,Go.Sort.PermIn a b d D->Go.Sort.SortedIn ltI a b D->Go.Sort.PermIn a0 b0 d0 D/\Go.Sort.SortedIn ltI a0 b0 D)/\Fr w.heap.size (·=g) w w') (b0-a0)
   ⟨a0,b0,lim0,true,true,d0,rfl,rfl,hN,hab0,hb0,hD0,hn0.symm,hB0,λD h1 h2=>⟨h1,h2⟩,Fr.refl _ _ _⟩ ?_
  rintro _ _ w1 ⟨a,b,lim,wb,wp,d,rfl,rfl,hk,hab,hb,hD,hn,hB,hC,hF⟩ next hnext
  dsimp only
  have e:IntKind.i64.wrap ((b:Int)-(a:Int))=((b-a:Nat):Int):=wr64 (by omega) (by omega)
  rw[e]
  refine zg (λh=>?_) (λh12=>?_)
  ·refine ziy hD hn.symm hmax hab hb λw2 hD2 hF2=>⟨rfl,?_⟩
   obtain⟨p1,p2⟩:=Go.Sort.insertionSort_holds Go.Sort.swo_ltInt d a b hab (by omega)
   obtain⟨q1,q2⟩:=hC _ p1 p2
   exact hR w2 _ hD2 q1 q2 (hF.onto hF2 hF.size)
  have h12:12<b-a:=by omega
  refine zm (λ_=>?_) (λ_=>?_)
  ·refine zmD hD hn.symm hmax (by omega) hb λw2 hD2 hF2=>⟨rfl,?_⟩
   obtain⟨p1,p2⟩:=Go.Sort.heapSort_holds Go.Sort.swo_ltInt d a b hab (by omega)
   obtain⟨q1,q2⟩:=hC _ p1 p2
   exact hR w2 _ hD2 q1 q2 (hF.onto hF2 hF.size)
  refine zj.cut (λ_ w'=>∃d1,Dtw w' g rest d1/\Go.Sort.PermIn a b d d1/\Fr w.heap.size (·=g) w w') ?_ ?_
  ·refine zM (zv (λ_=>⟨d,hD,Go.Sort.permIn_refl d a b,hF⟩) (λ_=>?_))
   exact zkQ hD hn.symm hmax (by omega) hb λw2 d2 hD2 hP2 hF2=>⟨rfl,d2,hD2,hP2,hF.onto hF2 hF.size⟩
  rintro⟨lim1,_⟩ w2 ⟨d1,hD1,hP1,hF1⟩
  have hn1:d1.size=n:=by rw[hP1.1];exact hn
  have hB1:=hB.perm (by omega) hP1
  dsimp only
  refine zlz hD1 hn1.symm hmax (by omega) hb λw3 pv hint hp1 hp2 hD1' hF3=>⟨_,_,rfl,?_⟩
  have hF3:=hF1.onto hF3 hF1.size
  refine zj.cut (λ(st:Int×Int×Unit) w'=>∃(p:Nat) (h:Int) (d2:Array Int),st=((p:Int),h,())/\a<=p/\p<b/\Dtw w' g rest d2/\Go.Sort.PermIn a b d1 d2/\Fr w.heap.size (·=g) w w') ?_ ?_
  ·refine zm (λ_=>?_) (λ_=>⟨pv,hint,d1,rfl,hp1,hp2,hD1',Go.Sort.permIn_refl d1 a b,hF3⟩)
   refine zjp hD1' hn1.symm hmax (by omega) hb λw4 hD4 hF4=>⟨rfl,?_⟩
   have e1:IntKind.i64.wrap ((b:Int)-1)=((b-1:Nat):Int):=wr64 (by omega) (by omega)
   have e2:IntKind.i64.wrap ((pv:Int)-(a:Int))=((pv-a:Nat):Int):=wr64 (by omega) (by omega)
   have e3:IntKind.i64.wrap (((b-1:Nat):Int)-((pv-a:Nat):Int))=((b-1-(pv-a):Nat):Int):=wr64 (by omega) (by omega)
   rw[e1,e2,e3]
   exact⟨b-1-(pv-a),1,_,rfl,by omega,by omega,hD4,Go.Sort.reverseRange_holds d1 a b hab (by omega),hF3.onto hF4 hF3.size⟩
  rintro _ w4 ⟨p,hi,d2,rfl,hp3,hp4,hD2,hP2,hF4⟩
  have hn2:d2.size=n:=by rw[hP2.1];exact hn1
  have hB2:=hB1.perm (by omega) hP2
  have hP02:=Go.Sort.permIn_trans _ _ _ a b hP1 hP2
  dsimp only
  refine zj.cut (λ_ w'=>∃d3,Dtw w' g rest d3/\Go.Sort.PermIn a b d2 d3/\Fr w.heap.size (·=g) w w') ?_ ?_
  ·have same:∃d3,Dtw w4 g rest d3/\Go.Sort.PermIn a b d2 d3/\Fr w.heap.size (·=g) w w4:=⟨d2,hD2,Go.Sort.permIn_refl d2 a b,hF4⟩
   refine zv (λ_=>zv (λ_=>zm (λ_=>?_) (λ_=>same)) (λ_=>same)) (λ_=>same)
   refine zjn hD2 hn2.symm hmax (by omega) hb λw5 hD5 hF5=>⟨_,rfl,?_⟩
   obtain⟨p1,p2⟩:=Go.Sort.partialInsertionSort_holds Go.Sort.swo_ltInt d2 a b (by omega) (by omega) hB2
   refine zv (λhs=>?_) (λ_=>⟨_,hD5,p1,hF4.onto hF5 hF4.size⟩)
   obtain⟨q1,q2⟩:=hC _ (Go.Sort.permIn_trans _ _ _ a b hP02 p1) (p2 hs)
   exact hR w5 _ hD5 q1 q2 (hF4.onto hF5 hF4.size)
  rintro _ w5 ⟨d3,hD3,hP3,hF5⟩
  have hn3:d3.size=n:=by rw[hP3.1];exact hn2
  have hB3:=hB2.perm (by omega) hP3
  have hP03:=Go.Sort.permIn_trans _ _ _ a b hP02 hP3
  have hC3:∀D,Go.Sort.PermIn a b d3 D->Go.Sort.SortedIn ltI a b D->Go.Sort.PermIn a0 b0 d0 D/\Go.Sort.SortedIn ltI a0 b0 D:=λD h1 h2=>hC D (Go.Sort.permIn_trans _ _ _ a b hP03 h1) h2
  refine zj.cut (λ(st:Int×Unit) w'=>st=((a:Int),())/\Dtw w' g rest d3/\Fr w.heap.size (·=g) w w') ?_ ?_
  ·refine zg (λh=>?_) (λh=>⟨rfl,hD3.drew,hF5.drew⟩)
   have ha0:0<a:=by omega
   have e1:IntKind.i64.wrap ((a:Int)-1)=((a-1:Nat):Int):=wr64 (by omega) (by omega)
   rw[e1]
   refine hD3.drew.at rfl (by omega) hn3.symm (hD3.drew.at rfl (by omega) hn3.symm (yc ⟨_,rfl,?_⟩))
   refine zM (zv (λ_=>⟨rfl,hD3.drew,hF5.drew⟩) (λhl=>?_))
   refine zkr hD3.drew hn3.symm hmax (by omega) hb hp3 hp4 λw6 hD6 hF6=>⟨_,rfl,?_⟩
   obtain⟨r1,r2,r3,r4,r5⟩:=Go.Sort.round_eq (lt:=ltI) Go.Sort.swo_ltInt (Go.Sort.partitionEqual_holds ltI) ha0 hp3 hp4 (by omega) hB3 hl (Prod.eta _).symm
   exact hnext (b-(Go.Sort.partitionEqual ltI d3 a b p).1) _ _ (by omega) ⟨_,b,lim1,wb,wp,_,rfl,rfl,by omega,r2,hb,hD6,by rw[r3];exact hn3,r4,λD h1 h2=>by
    obtain⟨s1,s2⟩:=r5 D h1 h2
    exact hC3 D s1 s2,hF5.drew.onto hF6 hF5.drew.size⟩
  rintro _ w6 ⟨rfl,hD6,hF6⟩
  dsimp only
  refine zoq hD6 hn3.symm hmax (by omega) hb hp3 hp4 λw7 hD7 hF7=>⟨_,_,rfl,?_⟩
  have hF7:=hF6.onto hF7 hF6.size
  obtain⟨r1,r2,r3,r4,r5,r6,r7⟩:=Go.Sort.round_part (lt:=ltI) Go.Sort.swo_ltInt (Go.Sort.partition_holds ltI) hp3 hp4 (by omega) hB3 (mid:=(Go.Sort.partition ltI d3 a b p).1) (ap:=(Go.Sort.partition ltI d3 a b p).2.1) (d4:=(Go.Sort.partition ltI d3 a b p).2.2) rfl
  generalize (Go.Sort.partition ltI d3 a b p).1=mid at r1 r2 r4 r5 r6 r7⊢
  generalize (Go.Sort.partition ltI d3 a b p).2.1=ap
  generalize (Go.Sort.partition ltI d3 a b p).2.2=d4 at hD7 r3 r4 r5 r6 r7
  have hn4:d4.size=n:=by rw[r3];exact hn3
  have e1:IntKind.i64.wrap ((mid:Int)+1)=((mid+1:Nat):Int):=wr64 (by omega) (by omega)
  dsimp only[zB,Go.Gk.Sl.zw,zi,zu,zb,zh];rw[e1]
  refine zg (λ_=>?_) (λ_=>?_)
  ·refine ih a mid lim1 w7 d4 _ (by omega) hD7 hn4.symm hmax r1 (by omega) r4 λw8 d8 hD8 hP8 hS8 hF8=>⟨rfl,?_⟩
   obtain⟨t1,t2⟩:=r6 d8 hP8 hS8
   exact hnext (b-(mid+1)) _ _ (by omega) ⟨mid+1,b,lim1,_,_,d8,rfl,rfl,by omega,by omega,hb,hD8,by rw[hP8.1];exact hn4,t1,λD h1 h2=>by
    obtain⟨s1,s2⟩:=t2 D h1 h2
    exact hC3 D s1 s2,hF7.onto hF8 hF7.size⟩
  ·refine ih (mid+1) b lim1 w7 d4 _ (by omega) hD7 hn4.symm hmax (by omega) hb r5 λw8 d8 hD8 hP8 hS8 hF8=>⟨rfl,?_⟩
   obtain⟨t1,t2⟩:=r7 d8 hP8 hS8
   exact hnext (mid-a) _ _ (by omega) ⟨a,mid,lim1,_,_,d8,rfl,rfl,by omega,r1,by omega,hD8,by rw[hP8.1];exact hn4,t1,λD h1 h2=>by
    obtain⟨s1,s2⟩:=t2 D h1 h2
    exact hC3 D s1 s2,hF7.onto hF8 hF7.size⟩
end
end Go.Proofs
namespace Go.Proofs
open Go.Gk Go.RowKit
section
variable {w:World} {R:VWP}
theorem zox(hR:R (.tuple #[]) w):cR 61 #[.slice none 0 0] w R:=by
 refine za.of (yC ⟨none,0,0⟩ R w ?_) λ_ _ h=>h
 unfold zP
 have e0:IntKind.u64.wrap (((⟨none,0,0⟩:Sl).l:Nat):Int)=((0:Nat):Int):=by decide
 rw[e0]
 refine zhk (x:=0) (by omega) λL _ _=>⟨_,rfl,?_⟩
 refine za.of (zR ⟨none,0,0⟩ 0 0 L _ w ?_) λ_ _ h=>h
 refine zl.ghost (λ_ st w'=>st=((0:Int),(0:Int),(L:Int),true,true,())/\w'=w) 0 ⟨rfl,rfl⟩ ?_
 rintro _ _ w ⟨rfl,rfl⟩ next _
 refine ym (by show decide (IntKind.i64.wrap ((0:Int)-0)<=12)=true;decide) ?_
 refine za.of (zY ⟨none,0,0⟩ 0 0 _ w ?_) λ_ _ h=>h
 refine zl.ghost (λ_ (st:Int×Unit) w'=>st=(1,())/\w'=w) 0 ⟨rfl,rfl⟩ ?_
 rintro _ _ w ⟨rfl,rfl⟩ next _
 exact zC (by decide) ⟨rfl,rfl,hR⟩
theorem zkI{r:Sl}{T:List Int}(h:Own w 22 1 r (T.map (Value.int .u32)))(hmax:T.length<=35184372088832)
  (hR:∀(A:List Int) w',Own w' 22 1 r (A.map (Value.int .u32))->A.Perm T->A.Pairwise (·<=·)->Fr w.heap.size (λk=>r.a=some (blk k)) w w'->R (.tuple #[]) w') :
  cR 61 #[.slice r.a r.l r.c] w R:=by
 obtain⟨h0,hc⟩:=h
 rw[List.length_map,Nat.mul_one]at h0
 rcases hc with rfl | ⟨g,cs,ha,hB,h1,h2,h3,h4⟩
 ·have hT:T=[]:=List.eq_nil_of_length_eq_zero h0
  subst hT
  exact zox (hR [] w (Own.nil _ _ _) (List.Perm.refl _) List.Pairwise.nil (Fr.refl _ _ _))
 ·obtain⟨ra,rl,rc⟩:=r
  dsimp only at h0 ha h1 h2 h3 h4
  subst ha
  have hD:Dtw w g (cs.drop rl) T.toArray:=by
   unfold Dtw
   rw[Nat.mul_one]at h4
   rw[List.toList_toArray,<-h4,List.take_append_drop]
   exact hB
  refine za.of (yC ⟨some (blk g),rl,rc⟩ R w ?_) λ_ _ h=>h
  unfold zP
  dsimp only
  rw[zkC (x:=rl) (by omega)]
  refine zhk (by omega) λL _ _=>⟨_,rfl,?_⟩
  have hp:=zoo (g:=g) (n:=rl) (c:=rc) (rest:=cs.drop rl) rl 0 rl (L:Int) w T.toArray (λv w'=>v =.tuple #[]/\R (.tuple #[]) w') (by omega) hD (by simpa using h0.symm) (by omega) (by omega) (Nat.le_refl _) (.inl rfl) λw' d' hD' hP hS hF=>⟨rfl,?_⟩
  ·exact hp
  ·have hsz:d'.size=rl:=by rw[hP.1];simpa using h0
   refine hR d'.toList w' ⟨by rw[List.length_map,Nat.mul_one];simpa using hsz,.inr ⟨g,_,rfl,hD',h1,h2,?_,?_⟩⟩ ?_ ?_ (hF.mono (Nat.le_refl _) λk _ hk=>by rw[hk])
   ·rw[List.length_append,List.length_map,List.length_drop,h3,Nat.mul_one,Array.length_toList,hsz]
    omega
   ·rw[List.take_left' (by rw[List.length_map,Array.length_toList,hsz,Nat.mul_one])]
   ·have:=hP.2.2
    rw[Array.toList_extract,Array.toList_extract,List.extract_eq_take_drop,List.extract_eq_take_drop]at this
    simp only[List.drop_zero,Nat.sub_zero]at this
    rwa[List.take_of_length_le (by rw[Array.length_toList];omega),List.take_of_length_le (by omega)]at this
   ·rw[List.pairwise_iff_getElem]
    intro i j hi hj hij
    rw[Array.length_toList]at hi hj
    have:=hS i j (Nat.zero_le _) hij (by omega)
    rw[getElem!_pos d' i hi,getElem!_pos d' j hj]at this
    have:=of_decide_eq_false this
    simp only[Array.getElem_toList]
    omega
theorem zpe{P:Program}{t e:TypeId}{sz bytes B:Nat}(he:YH P t e sz bytes){w:World}{s:Sl}{xs:List Value}(h:Own w e sz s xs)(hB0:B<=w.heap.size)(hF:zS B s){vs:List Value}(hvs:vs.length=sz)(hv:∀u∈vs,u.oneCell'=true){b c:Nat}{T:TypeId}
  (hB:Blk w b T vs) (h63:s.l+1<=9223372036854775807) (hbytes:(s.l+1)*bytes<=140737488355328) {k:Sl->World->Prop}
  (hk:∀r w',Own w' e sz r (xs++vs)->Below B w w'->zS B r->k r w'):zF P t (.slice s.a s.l s.c) (.slice (some (blk b)) 1 c) w k:=by
 refine Zn he h (news:=vs) (by omega) (λj u hj=>hB.cell hj) hv h63 hbytes λr w' h1 hl' hg=>?_
 rcases hg with⟨_,_,h3⟩ | ⟨b',h3,h4,h5⟩
 ·rw[h3]at hl';omega
 ·have hbb:B<=b':=by
   rcases h4 with h4 |h4
   ·exact hF _ h4
   ·omega
  exact hk r w' h1 (y9 h5 hbb hB0) (λa ha=>by rw[h3]at ha;cases ha;exact hbb)
theorem zhe{s:Sl}{T:List Int}{vb:Nat}{Tv:TypeId}(hS:IsS (Value.int .u32) w s T)(hV:Blk w vb Tv [.slice s.a s.l s.c])(hmax:T.length<=35184372088832)
  (hR:∀r w',Own w' 22 1 r (T.map (Value.int .u32))->zS w.heap.size r->Below w.heap.size w w'->R (.slice r.a r.l r.c) w') :
  cR 84 #[.slice none 0 0,.func (.func 62) #[] #[.pointer (some (blk vb))]] w R:=by
 refine za.of (Z7 ⟨none,0,0⟩ _ R w ?_) λ_ _ h=>h
 refine zk λw4 hC4 b4 z4=>?_
 have hC4:Blk w4 w.heap.size 30 [.slice none 0 0]:=hC4
 intro mk hy
 have hcf:Tryz.fs.contains 62=true:=by kernel_rfl
 unfold zjB
 simp only[hcf]
 generalize hw5:((w4.alloc (.deferred (some []))).alloc (mk .ready none))=w5
 have b5:Below w4.heap.size w4 w5:=by rw[<-hw5];exact zeS w4 _ _
 have z5:w5.heap.size=w4.heap.size+2:=by rw[<-hw5];exact ziz w4 _ _
 have hd5:w5.heap[w4.heap.size]? =some (.deferred (some [])):=by rw[<-hw5];exact zlk w4 _ _
 have hl5:w5.heap[w4.heap.size+1]? =some (mk .ready none):=by rw[<-hw5];exact zll w4 _ _
 clear hw5
 have b45:=b4.on b5
 have hlt:=hV.lt
 refine za.of (Z8 (.func (.yield (w4.heap.size+1)) #[] #[]) (blk vb) _ w5 ?_) λ_ _ h=>h
 refine((hV.below b4).below b5).cell0 rfl |>λhc=>⟨s,hc,?_⟩
 have hsl:=hS.len
 refine zl.count T.length hS.bound (λk w'=>w'.heap[w4.heap.size+1]? =some (mk .ready none)/\w'.heap[w4.heap.size]? =some (.deferred (some []))/\w5.heap.size<=w'.heap.size/\Below w.heap.size w w'/\
  ∃r,Blk w' w.heap.size 30 [.slice r.a r.l r.c]/\Own w' 22 1 r ((T.take k).map (Value.int .u32))/\zS w5.heap.size r)
  ⟨hl5,hd5,Nat.le_refl _,b45,⟨none,0,0⟩,hC4.below b5,Own.nil _ _ _,λa ha=>by(cases ha)⟩ ?_
 rintro k w6 hk ⟨hl6,hd6,hz6,hb6,r,hC6,hO6,hF6⟩ next hnext
 refine zg (λh=>?_) (λh=>?_)
 ·have hkl:k<T.length:=by dsimp only at h;omega
  refine ZX (hS.below hb6) hkl ?_
  refine hy (T[k],()) w6 _ hl6 ?_
  have hlt6:w4.heap.size+1<w6.heap.size:=(Array.getElem?_eq_some_iff.1 hl6).1
  refine⟨hl6,Nw.gen λw7 e7=>?_⟩
  have ho7:∀b,b≠w4.heap.size+1->w7.heap[b]? =w6.heap[b]?:=λb hb=>by rw[e7];exact World.putObj_heap_other hb
  have hz7:w7.heap.size=w6.heap.size:=by rw[e7];simp
  have hl7:w7.heap[w4.heap.size+1]? =some (mk .busy none):=by rw[e7];exact zbl hlt6 _
  have hb7:Below w.heap.size w w7:=by rw[e7];exact hb6.putObj (by omega) _
  clear e7
  have hC7:=hC6.of_block (ho7 _ (by omega))
  have hO7:Own w7 22 1 r ((T.take k).map (Value.int .u32)):=hO6.of_block λa ha=>ho7 _ (by have:=hF6 a ha;omega)
  have hd7:w7.heap[w4.heap.size]? =some (.deferred (some [])):=by rw[ho7 _ (by omega)];exact hd6
  refine hC7.cell0 rfl |>λhc=>⟨r,hc,?_⟩
  refine zk λw8 hD8 b8 z8=>?_
  have hrl:r.l=k:=by
   have:=hO6.1
   rw[List.length_map,List.length_take]at this
   omega
  refine zpe eU32 (hO7.below b8) (B:=w5.heap.size) (by have:=b8.size;omega) hF6 rfl (by simp[Value.oneCell']) hD8 (by omega) (by omega) λr' w9 hO9 b9 hF9=>?_
  have b79:Below w5.heap.size w7 w9:=(b8.mono (by omega)).trans b9
  have kb:∀i,i<w5.heap.size->w9.heap[i]? =w7.heap[i]?:=λi hi=>b79.block i hi
  have hC9:=hC7.of_block (kb _ (by omega))
  refine⟨hC9.wr0 (by simp),Nw.gen λw10 e10=>?_⟩
  have c10:Chg w.heap.size w9 w10:=by rw[e10];exact Chg.set w.heap.size 0 w9 _
  have hC10:Blk w10 w.heap.size 30 [.slice r'.a r'.l r'.c]:=by rw[e10];exact hC9.set0 _
  clear e10
  have hl10:w10.heap[w4.heap.size+1]? =some (mk .busy none):=by rw[c10.block _ (by omega),kb _ (by omega)];exact hl7
  have hlt10:w4.heap.size+1<w10.heap.size:=(Array.getElem?_eq_some_iff.1 hl10).1
  have s79:=b79.size
  have s10:=c10.size
  refine⟨hl10,⟨true,rfl,zC rfl (hnext _ hkl ⟨zbl hlt10 _,?_,by simp;omega,?_,r',?_,?_,hF9⟩)⟩⟩
  ·rw[World.putObj_heap_other (by omega),c10.block _ (by omega),kb _ (by omega)]
   exact hd7
  ·exact(c10.below (hb7.trans (b79.mono (by omega))) (Nat.le_refl _)).putObj (by omega) _
  ·exact hC10.put (by omega) _
  ·rw[List.take_succ_eq_append_getElem hkl,List.map_append]
   have hO10:Own w10 22 1 r' ((T.take k).map (Value.int .u32)++[Value.int .u32 T[k]]):=hO9.of_block λa ha=>c10.block _ (by have:=hF9 a ha;omega)
   exact hO10.of_block λa ha=>World.putObj_heap_other (by have:=hF9 a ha;omega)
 ·have hk':k=T.length:=by dsimp only at h;omega
  subst hk'
  rw[List.take_length]at hO6
  refine⟨hl6,?_⟩
  have hC7:=hC6.put (l:=w4.heap.size+1) (by omega) (mk .exhausted none)
  refine hC7.cell0 rfl |>λhc=>⟨r,hc,?_⟩
  refine zeE (by rw[World.putObj_heap_other (by omega)];exact hd6) ?_
  refine hR r _ ?_ (λa ha=>by have:=hF6 a ha;omega) ((hb6.putObj (by omega) _).putObj (by omega) _)
  refine(hO6.of_block λa ha=>World.putObj_heap_other (by have:=hF6 a ha;omega)).of_block λa ha=>World.putObj_heap_other (by have:=hF6 a ha;omega)
theorem zj3{s:Sl}{T:List Int}{vb:Nat}{Tv:TypeId}(hS:IsS (Value.int .u32) w s T)(hV:Blk w vb Tv [.slice s.a s.l s.c])(hmax:T.length<=35184372088832)
  (hR:∀r (A:List Int) w',Own w' 22 1 r (A.map (Value.int .u32))->A.Perm T->A.Pairwise (·<=·)->Below w.heap.size w w'->R (.slice r.a r.l r.c) w') :
  cR 43 #[.func (.func 62) #[] #[.pointer (some (blk vb))]] w R:=by
 refine za.of (zbm _ R w ?_) λ_ _ h=>h
 refine za.of (zaK _ _ w ?_) λ_ _ h=>h
 refine zhe hS hV hmax λr w1 hO1 hF1 b1=>⟨r,rfl,r,rfl,?_⟩
 refine zkI hO1 hmax λA w2 hO2 hP hA hF2=>⟨rfl,?_⟩
 refine hR r A w2 hO2 hP hA (b1.trans ⟨hF2.os,hF2.tape,hF2.output,hF2.size,λk hk=>hF2.block k (by have:=b1.size;omega) λe=>?_⟩)
 have:=hF1 _ e
 have:(blk k).block=k:=rfl
 omega
end
end Go.Proofs
namespace Go.Proofs
open Go.Gk Go.RowKit Go.Gm
end Go.Proofs
namespace Go.Proofs
open Go.Gk Go.RowKit Go.Gm
end Go.Proofs
namespace Go.Proofs
open Go.Gk Go.RowKit Go.Gm
noncomputable def rnmP(x:Mo)(pl:List PI)(T:List Int):Int×Int×List PI:=if (zp x.2.1 pl).1≠0 then(0,0,[]) else if wayB x.2.1 T=true then(x.1,x.2.1,zt (toG T) pl) else(0,0,[])
noncomputable def rnmS(x:Mo)(pl:List PI)(T:List Int):Int×Int:=if (zp x.2.1 pl).1≠0 then((zp x.2.1 pl).1,((zp x.2.1 pl).2:Int)) else if wayB x.2.1 T=true then(0,0) else(2,0)
section
variable {x:Mo} {pl:List PI} {w:World} {R:VWP} {s:Sl} {T:List Int}
theorem zhg(hs:IsS (Value.int .u32) w s T)(hmax:4*T.length<=140737488351232)
  (hR:∀w',Own w' 22 1 ⟨some (blk w.heap.size),T.length,T.length⟩ (T.map (Value.int .u32))->Below w.heap.size w w'->R (.slice (some (blk w.heap.size)) T.length T.length) w') :
  cR 23 #[.slice s.a s.l s.c] w R:=by
 refine za.of (zaI s R w ?_) λ_ _ h=>h
 have hl:=hs.len
 unfold yN
 rw[hl]
 refine⟨⟨by omega,by omega,by omega,by omega⟩,Nw.gen λw1 e1=>?_⟩
 have hD1:Blk w1 w.heap.size 22 ((List.replicate T.length (0:Int)).map (Value.int .u32)):=by rw[e1,List.map_replicate];exact Blk.made w _ _ _
 have b1:Below w.heap.size w w1:=by rw[e1];exact(Below.refl _ _).alloc (Nat.le_refl _) _
 clear e1
 refine zl.count T.length (by omega) (λk w'=>Below w.heap.size w w'/\∃C:List Int,Blk w' w.heap.size 22 (C.map (Value.int .u32))/\C.length=T.length/\∀j (h:j<C.length) (h':j<T.length),j<k->C[j]=T[j]) ⟨b1,_,hD1,by simp,λj _ _ h=>by omega⟩ ?_
 rintro k w2 hk ⟨hb,C,hC,hCl,hval⟩ next hnext
 refine zg (λh=>?_) (λh=>?_)
 ·have hlt:k<T.length:=by dsimp only at h;omega
  have hel:=ZX (hs.below hb) hlt (φ:=λx=>(0<=(k:Int)/\(k:Int)<((T.length:Nat):Int))/\Wr w2 ((blk w.heap.size).add (Int.toNat (k:Int)))/\Nw (w2.setCell ((blk w.heap.size).add (Int.toNat (k:Int))) (.int .u32 x)) λw3=>next ((IntKind.i64.wrap ((k:Int)+1)),()) w3) ?_
  ·rw[hl]at hel
   exact hel
  ·have c3:=Chg.set w.heap.size k w2 (.int .u32 T[k])
   refine⟨⟨by omega,by omega⟩,hC.wr (by rw[List.length_map];omega),Nw.mk (hnext _ hlt ⟨c3.below hb (Nat.le_refl _),C.set k T[k],?_,by rw[List.length_set];exact hCl,λj h1 h2 h3=>?_⟩)⟩
   ·rw[List.map_set];exact hC.set _ _
   ·by_cases e:k=j
    ·subst e;rw[List.getElem_set_self]
    ·rw[List.getElem_set_ne e]
     exact hval j (by rw[List.length_set]at h1;exact h1) h2 (by omega)
 ·have hk':k=T.length:=by dsimp only at h;omega
  have e:C=T:=List.ext_getElem hCl λj h1 h2=>hval j h1 h2 (by omega)
  subst e
  exact hR w2 ⟨by rw[List.length_map,Nat.mul_one],.inr ⟨_,_,rfl,hC,Nat.le_refl _,(by dsimp only;omega),by rw[List.length_map,Nat.mul_one],by rw[Nat.mul_one];exact List.take_of_length_le (by rw[List.length_map];exact Nat.le_refl _)⟩⟩ hb
theorem zpz{bm bs:Nat}{cs ds:List Value}{g bd e a:Int}{t:Sl}{K:Int->Int->Sl->Int->Int->World->Prop}(hM:Blk w bm 25 cs)(hS:Blk w bs 56 ds)(h3:cs.length=3)(h2:ds.length=2)
  (hK:∀w',Chg bm w w'->∀w'',Chg bs w' w''->K g bd t e a w'') :
  Wr w (blk bm)/\Nw (w.setCell (blk bm) (.int .u32 g)) λw1=>Wr w1 ((blk bm).add 1)/\Nw (w1.setCell ((blk bm).add 1) (.int .u32 bd)) λw2=>Wr w2 ((blk bm).add 2)/\Nw (w2.setCell ((blk bm).add 2) (.slice t.a t.l t.c)) λw3=>
  Wr w3 (blk bs)/\Nw (w3.setCell (blk bs) (.int .i64 e)) λw4=>Wr w4 ((blk bs).add 1)/\Nw (w4.setCell ((blk bs).add 1) (.int .i64 a)) λw5=>
  ldI w5 ((blk bm).add 0) .u32 λx1=>ldI w5 ((blk bm).add 1) .u32 λx2=>ldS w5 ((blk bm).add 2) λx3=>ldI w5 ((blk bs).add 0) .i64 λx4=>ldI w5 ((blk bs).add 1) .i64 λx5=>K x1 x2 x3 x4 x5 w5:=by
 have hne:bs≠bm:=Blk.apart hS hM (by decide)
 refine st3 hM h3 λw3 hM3 c3=>st2 (c3.blk hS hne) h2 λw5 hS5 c5=>?_
 exact Mo.load (x:=(g,bd,t,())) (c5.blk hM3 hne.symm) (Sp.load hS5 (hK w3 c3 w5 c5))
theorem zj2(hN:IsPl w x.2.2.1 pl)(hp:PlOk pl)(h0:0<=x.2.1)(hs:IsS (Value.int .u32) w s T)(hmax:T.length<=35184372088832)
  (hR:∀(y:Mo) ql w',Below w.heap.size w w'->yS w' w.heap.size y.2.2.1 ql->(y.1,y.2.1,ql)=rnmP x pl T->R (.tuple #[moA y,.agg #[.int .i64 (rnmS x pl T).1,.int .i64 (rnmS x pl T).2]]) w') :
  cR 25 #[moA x,.slice s.a s.l s.c] w R:=by
 refine za.of (zgl x s R w ?_) λ_ _ h=>h
 refine zk λw1 hB1 b1 z1=>?_
 have hB1:Blk w1 w.heap.size 25 (moV x):=hB1
 refine zk λw2 hV2 b2 z2=>?_
 have hV2:Blk w2 w1.heap.size 30 [.slice s.a s.l s.c]:=hV2
 refine zk λw3 hM3 b3 z3=>?_
 have hM3:Blk w3 w2.heap.size 25 [.int .u32 0,.int .u32 0,.slice none 0 0]:=hM3
 refine zk λw4 hS4 b4 z4=>?_
 have hS4:Blk w4 w3.heap.size 56 [.int .i64 0,.int .i64 0]:=hS4
 have b14:=(b2.on b3).on b4
 have hb4:=b1.on b14
 refine Mo.load (hB1.below b14) ?_
 refine zhn (x:=x) (hN.below hb4) hp λw5 b5=>⟨((zp x.2.1 pl).1,((zp x.2.1 pl).2:Int),()),rfl,?_⟩
 refine box2 rfl λw8 h8 b8 z8=>?_
 have s5:=b5.size
 have b48:=b5.on b8
 have hb8:=hb4.on b48
 have hB8:=(hB1.below b14).below b48
 have hV8:=((hV2.below b3).below b4).below b48
 have hM8:=(hM3.below b4).below b48
 have hS8:=hS4.below b48
 refine h8.rI0 rfl (zz (λe=>?_) (λe=>?_))
 ·have e':(zp x.2.1 pl).1≠0:=e
  have er:rnmS x pl T=((zp x.2.1 pl).1,((zp x.2.1 pl).2:Int)):=by unfold rnmS;rw[if_pos e']
  rw[er]at hR
  refine Sp.load h8.drew ?_
  refine st3 hM8.drew rfl λw9 hM9 c9=>?_
  have h9:=c9.blk h8.drew (by omega)
  refine⟨h9.cell (n:=0) rfl,h9.cell (n:=1) rfl,?_⟩
  refine st2 (c9.blk hS8.drew (by omega)) rfl λw10 hS10 c10=>?_
  refine Mo.load (x:=(0,0,⟨none,0,0⟩,())) (c10.blk hM9 (by omega)) (Sp.load hS10 ?_)
  exact hR (0,0,⟨none,0,0⟩,()) [] w10 (c10.below (c9.below hb8.drew (by omega)) (by omega)) (yS.nil _ _) (by unfold rnmP;rw[if_pos e'])
 have e':¬(zp x.2.1 pl).1≠0:=λh=>h e
 have hsh:(zp x.2.1 pl).1=0:=e
 have nb:=(Yv hsh).1
 have hrg:=zcp hp h0 hsh
 refine hV8.cell0 rfl |>λhc=>⟨s,hc,?_⟩
 refine za.of (ZO s _ w8 ?_) λ_ _ h=>h
 refine zk λw14 hW14 b14' z14=>⟨_,rfl,?_⟩
 have hs14:=hs.below (hb8.on b14')
 refine zj3 (s:=s) (T:=T) hs14 hW14 hmax λr A w15 hA15 hP hA b15=>⟨r,rfl,?_⟩
 have b815:=b14'.on b15
 have hb15:=hb8.on b815
 have hB15:=hB8.below b815
 have hV15:=hV8.below b815
 have hM15:=hM8.below b815
 have hS15:=hS8.below b815
 have hs15:=hs.below hb15
 have hl:=hs.len
 have hAl:A.length=T.length:=hP.length_eq
 have hrs:=hA15.isS
 have hrl:=hrs.len
 refine zj.cut (λ(st:Bool×Unit) w'=>w'=w15/\(st.1=true↔(T.length:Int)=x.2.1/\T.getD 0 1=0)) ?_ ?_
 ·refine hV15.cell0 rfl |>λhc=>⟨s,hc,hB15.rI (n:=1) (x:=x.2.1) rfl ?_⟩
  rw[zs (x:=x.2.1) (by omega) (by omega)]
  refine zm (λe1=>?_) (λe1=>⟨rfl,⟨λh=>(by cases h),λh=>absurd (by omega) e1⟩⟩)
  refine hV15.cell0 rfl |>λhc=>⟨s,hc,?_⟩
  have hT0:0<T.length:=by omega
  obtain⟨a,ha⟩:=hs15.base hT0
  refine⟨⟨by omega,by omega⟩,ze ha ⟨T[0],hs15.cell a ha 0 hT0,rfl,?_⟩⟩
  dsimp only
  rw[zo hT0,beq_iff_eq]
  exact⟨λh=>⟨by omega,h⟩,λh=>h.2⟩
 rintro⟨ok0,_⟩ w15 ⟨rfl,hok0⟩
 dsimp only at hok0⊢
 refine zl.ghost (λk (st:Bool×Int×Unit) w'=>∃n:Nat,st.2.1=(n:Int)/\k=A.length-n/\n<=A.length/\w'=w15/\(st.1=true↔ok0=true/\∀j (h:j<A.length),j<n->A[j]=(j:Int))) A.length
  ⟨0,rfl,rfl,Nat.zero_le _,rfl,⟨λh=>⟨h,λj _ h=>by omega⟩,λh=>h.1⟩⟩ ?_
 rintro _ ⟨ok,_,_⟩ w15 ⟨n,e2,rfl,hn,rfl,hok⟩ next hnext
 dsimp only at e2 hok
 subst e2
 refine zg (λh=>?_) (λh=>?_)
 ·have hnl:n<A.length:=by dsimp only at h;omega
  refine zj.cut (λ(st:Bool×Unit) w'=>w'=w15/\(st.1=true↔ok0=true/\∀j (h:j<A.length),j<n+1->A[j]=(j:Int))) ?_ ?_
  ·refine ZX hrs hnl ?_
   refine zv (λht=>⟨rfl,?_⟩) (λhf=>⟨rfl,?_⟩)
   ·obtain⟨k1,k2⟩:=hok.1 ht
    obtain⟨k3,_⟩:=hok0.1 k1
    dsimp only
    rw[zlJ (by omega) (by omega),beq_iff_eq]
    constructor
    ·intro g
     refine⟨k1,λj hj hjn=>?_⟩
     by_cases ej:j=n
     ·subst ej;exact g
     ·exact k2 j hj (by omega)
    ·intro g
     exact g.2 n hnl (by omega)
   ·dsimp only
    constructor
    ·intro g;cases g
    ·intro g
     have hf:ok=false:=hf
     rw[hok.2 ⟨g.1,λj hj hjn=>g.2 j hj (by omega)⟩]at hf
     cases hf
  ·rintro⟨ok',_⟩ w15 ⟨rfl,hok'⟩
   dsimp only at hok'⊢
   rw[zA (by omega)]
   exact hnext (A.length-(n+1)) _ _ (by omega) ⟨n+1,rfl,rfl,by omega,rfl,hok'⟩
 ·have hn':n=A.length:=by dsimp only at h;omega
  subst hn'
  have hway:ok=true↔WayP x.2.1 T:=by
   rw[hok,hok0]
   constructor
   ·rintro⟨⟨g1,g2⟩,g3⟩
    exact⟨g1,g2,(zhN hP hA).2 λj hj=>g3 j hj hj⟩
   ·intro g
    exact⟨⟨g.len,g.zero⟩,λj hj _=>(zhN hP hA).1 g.perm j hj⟩
  have l2:=hM8.lt
  have l3:=hS8.lt
  have s15:=b815.size
  refine zM (zv (λhok1=>?_) (λhok1=>?_))
  ·have hw:WayP x.2.1 T:=hway.1 hok1
   have er:rnmS x pl T=(0,0):=by unfold rnmS;rw[if_neg e',if_pos (ziI hw)]
   rw[er]at hR
   refine Mo.load hB15 ?_
   have hcf:Tryz.fs.contains 46=true:=by kernel_rfl
   refine zk7 (x:=x) (g:=toG T) (hN.below hb15) hp (λw' hb' m hm=>?_) λt w16 hO16 b16=>⟨(x.1,x.2.1,t,()),rfl,?_⟩
   ·unfold yL
    simp only[hcf]
    refine za.of (zeP m (blk w1.heap.size) _ w' ?_) λ_ _ h=>h
    obtain⟨m1,m2⟩:=hrg m hm
    have hmT:m.toNat<T.length:=by have:=hw.len;omega
    refine(hV15.below hb').cell0 rfl |>λhc=>⟨s,hc,?_⟩
    have hel:=ZX (hs15.below hb') hmT (φ:=λv=>(λv w''=>v=Value.int .u32 (toG T m)/\Below w'.heap.size w' w'') (Value.int .u32 v) w') ⟨by unfold toG;rw[zo hmT],Below.refl _ _⟩
    rw[show((m.toNat:Nat):Int)=m by omega]at hel
    exact hel
   refine zpz (g:=x.1) (bd:=x.2.1) (t:=t) (e:=0) (a:=0) (hM15.below b16) (hS15.below b16) rfl rfl λw17 c17 w18 c18=>?_
   have s16:=b16.size
   refine hR (x.1,x.2.1,t,()) (zt (toG T) pl) w18 (c18.below (c17.below (hb15.on b16) (by omega)) (by omega)) ?_ (by unfold rnmP;rw[if_neg e',if_pos (ziI hw)])
   exact((hO16.chg c17 (by omega)).chg c18 (by omega)).lower (by omega)
  ·have hw:¬WayP x.2.1 T:=λh=>by rw[hway.2 h]at hok1;cases hok1
   have er:rnmS x pl T=(2,0):=by unfold rnmS;rw[if_neg e',if_neg (by rw[zhV hw];simp)]
   rw[er]at hR
   refine zpz (g:=0) (bd:=0) (t:=⟨none,0,0⟩) (e:=2) (a:=0) hM15 hS15 rfl rfl λw17 c17 w18 c18=>?_
   exact hR (0,0,⟨none,0,0⟩,()) [] w18 (c18.below (c17.below hb15 (by omega)) (by omega)) (yS.nil _ _) (by unfold rnmP;rw[if_neg e',if_neg (by rw[zhV hw];simp)])
end
end Go.Proofs
namespace Go.Proofs
open Go.Gk
set_option linter.unusedVariables false
set_option maxRecDepth 100000
end Go.Proofs
namespace Go.Proofs
open Go.Gk Go.RowKit Go.Gm
theorem PlOk.turn{g:Int->Int}{pl:List PI}(h:PlOk pl)(hg:∀n∈allP pl,0<=g n/\g n<=4294967295):PlOk (zt g pl):=by
 have get:∀p∈zt g pl,∃q∈pl,p=Zc g q:=λp hp=>by
  obtain⟨q,hq,e⟩:=List.mem_map.1 hp
  exact⟨q,hq,e.symm⟩
 refine⟨by rw[y5];exact h.len,λp hp=>?_,λp hp x hx=>?_,λp hp=>?_⟩
 ·obtain⟨q,hq,rfl⟩:=get p hp
  have:=h.args q hq
  unfold Zc
  dsimp only
  rw[List.length_map]
  exact this
 ·obtain⟨q,hq,rfl⟩:=get p hp
  obtain⟨y,hy,rfl⟩:=List.mem_map.1 hx
  rw[zmn]
  exact h.text q hq y hy
 ·obtain⟨q,hq,rfl⟩:=get p hp
  refine⟨hg _ (zdL hq (by simp[allI])),hg _ (zdL hq (by simp[allI])),λx hx=>?_⟩
  obtain⟨y,hy,rfl⟩:=List.mem_map.1 hx
  by_cases e:y.1=1
  ·rw[zc0 g e]
   refine hg _ (zdL hq ?_)
   simp only[allI,List.mem_cons]
   right;right
   exact List.mem_map.2 ⟨y,List.mem_filter.2 ⟨hy,by simp[e]⟩,rfl⟩
  ·rw[zbo g e]
   exact(h.nums q hq).2.2 y hy
theorem zr.plOk{g:Int->Int}{pl:List PI}{b':Int}(h:zr g pl b')(hp:PlOk pl):PlOk (zt g pl):=by
 refine hp.turn λn hn=>?_
 have hb:=h.pos
 by_cases e:n=0
 ·rw[e,h.zero];omega
 ·have:=h.rng n hn e
  omega
section
variable {x:Mo} {pl:List PI} {w:World} {R:VWP} {s:Sl} {T:List Int}
theorem zpV{y:Mo}{e a:Int}{K:World->World->Prop}(hK:∀w1 w',w1.heap.size=w.heap.size+1->Blk w' w.heap.size 25 (moV y)->Blk w' w1.heap.size 56 [.int .i64 e,.int .i64 a]->Below w.heap.size w w'->w'.heap.size=w.heap.size+2->K w1 w') :
  Nw (w.alloc (.cells #[(.int .u32 (0:Int)),(.int .u32 (0:Int)),(.slice none 0 0)] 25)) λw1=>
  Nw (w1.alloc (.cells #[(.int .i64 (0:Int)),(.int .i64 (0:Int))] 56)) λw2=>
  Wr w2 (blk w.heap.size)/\Nw (w2.setCell (blk w.heap.size) (.int .u32 y.1)) λw3=>
  Wr w3 ((blk w.heap.size).add 1)/\Nw (w3.setCell ((blk w.heap.size).add 1) (.int .u32 y.2.1)) λw4=>
  Wr w4 ((blk w.heap.size).add 2)/\Nw (w4.setCell ((blk w.heap.size).add 2) (.slice y.2.2.1.a y.2.2.1.l y.2.2.1.c)) λw5=>
  Wr w5 (blk w1.heap.size)/\Nw (w5.setCell (blk w1.heap.size) (.int .i64 e)) λw6=>
  Wr w6 ((blk w1.heap.size).add 1)/\Nw (w6.setCell ((blk w1.heap.size).add 1) (.int .i64 a)) λw7=>K w1 w7:=by
 refine zk λw1 hM1 b1 z1=>?_
 refine zk λw2 hS2 b2 z2=>?_
 refine st3 (hM1.below b2) rfl λw3 hM3 c3=>?_
 refine st2 (c3.blk hS2 (by omega)) rfl λw5 hS5 c5=>?_
 exact hK w1 w5 z1 (c5.blk hM3 (by omega)) hS5 (c5.below (c3.below (b1.on b2) (Nat.le_refl _)) (by omega)) (by rw[c5.size,c3.size];omega)
end
end Go.Proofs
namespace Go.Proofs
open Go.Gk Go.RowKit Go.Gm
section
variable {bd b':Int} {pl:List PI} {g:Int->Int}
theorem zdX(T:TyL)(pl:List PI):∀n,((cnsC T pl n).1.map (·.1)).Nodup
 | 0=>.nil
 |n+1=>by
  have ih:=zdX T pl n
  rcases zaO T pl n with h | ⟨h,h7,h59⟩ | ⟨h,hn⟩
  ·obtain⟨p,hp⟩:=Yf T (cnsC T pl n).1 h
   rw[ZW h hp]
   exact zcN ih
  ·rw[zbF h7 h59]
   exact ih
  ·rw[YW h hn]
   exact ih
theorem zn3{C:CnL}(hd:(C.map (·.1)).Nodup){i:Nat}(hi:i<C.length):cnA C C[i].1=C[i].2:=by
 have h:zy C C[i].1=some C[i].2:=zh8 hd (List.getElem_mem hi)
 unfold cnA
 rw[h]
 rfl
theorem zc1(g:Int->Int)(C:CnL):(zdj g C).length=C.length:=List.length_map _
theorem znf(g:Int->Int)(C:CnL){i:Nat}(hi:i<(zdj g C).length):(zdj g C)[i]=(g (C[i]'(by rwa[zc1]at hi)).1,(g (C[i]'(by rwa[zc1]at hi)).2.1,(C[i]'(by rwa[zc1]at hi)).2.2)):=by
 exact List.getElem_map ..
theorem zr.cnL(h:zr g pl b')(W:yq bd pl):Go.Proofs.cnL (zt g pl)=zdj g (Go.Proofs.cnL pl):=by
 have hs:=W.shape
 have h1:=h.tys hs pl.length (Nat.le_refl _)
 have h2:=h.cns W (zhR hs pl.length (Nat.le_refl _)) pl.length (Nat.le_refl _)
 show(cnsC (tysT (zt g pl) (zt g pl).length) (zt g pl) (zt g pl).length).1=_
 rw[y5,h1,h2]
theorem zp6(W:yq bd pl)(hp:PlOk pl)(h0:0<=bd){i:Nat}(hi:i<(cnL pl).length):(0<=(cnL pl)[i].1/\(cnL pl)[i].1<bd)/\(0<=(cnL pl)[i].2.1/\(cnL pl)[i].2.1<bd):=by
 have hl:=zh8 (zdX (tyL pl) pl pl.length) (List.getElem_mem hi)
 obtain⟨k,k1,k2,k3,k4⟩:=((zf1 (T:=tyL pl) W _ pl.length (Nat.le_refl _)).1 _).1 hl
 obtain⟨m1,m2,_⟩:=zee k1
 rw[<-yn k1]at m1 m2
 have q1:=zcp hp h0 W.shape _ m1
 have q2:=zcp hp h0 W.shape _ m2
 rw[k3]at q2
 have k4:=congrArg Prod.fst k4
 refine⟨q2,?_⟩
 rw[show(cnL pl)[i].2.1=(ix pl k).2.1 from k4]
 exact q1
end
section
variable {x:Mo} {pl:List PI} {T:List Int} {s:Sl} {w:World} {R:VWP}
theorem zp1{w':World}(hT:IsS (Value.int .u32) w' s T){n:Int}(h1:0<=n)(h2:n<(T.length:Int)){φ:Int->Prop}(hφ:φ (toG T n)):(0<=n/\n<(s.l:Int))/\zc s.a λa=>ldI w' (a.add (Int.toNat n)) .u32 φ:=by
 obtain⟨j,rfl⟩:=Int.eq_ofNat_of_zero_le h1
 have hj:j<T.length:=by omega
 refine ZX hT hj ?_
 have:toG T (j:Int)=T[j]:=by unfold toG;rw[Int.toNat_natCast];exact zo hj
 rwa[this]at hφ
set_option maxHeartbeats 4000000 in
theorem zeC(hN:IsPl w x.2.2.1 pl)(hp:PlOk pl)(hbd:0<=x.2.1/\x.2.1<=4294967295)(hs:IsS (Value.int .u32) w s T)(hmax:4*T.length<=140737488351232)(htab:Tab w)(hR:∀w',Below w.heap.size w w'->R (.bool true) w') :
  cR 8 #[moA x,.slice s.a s.l s.c] w R:=by
 refine za.of (Yg x s R w ?_) λ_ _ h=>h
 refine zk λw1 hB1 b1 z1=>?_
 have hB1:Blk w1 w.heap.size 25 (moV x):=hB1
 refine Mo.load hB1 (zcV (x:=x) (hN.below b1) hp λca w3 _ _ hC3 b3=>⟨(x.1,x.2.1,⟨some (blk ca),pl.length,pl.length⟩,()),rfl,?_⟩)
 refine zhg (hs.below (b1.on b3)) hmax λw4 hW4 b4=>⟨⟨some (blk w3.heap.size),T.length,T.length⟩,rfl,?_⟩
 refine zj2 (x:=(x.1,x.2.1,⟨some (blk ca),pl.length,pl.length⟩,())) (hC3.below b4) hp hbd.1 hW4.isS (by omega) λy ql w5 b5 hO5 hy=>⟨y,((rnmS x pl T).1,(rnmS x pl T).2,()),rfl,?_⟩
 have hy:(y.1,y.2.1,ql)=rnmP x pl T:=hy
 refine zpV (y:=y) λw6 w12 z6 hY12 hS12 b12 z12=>?_
 have b112:=((b3.on b4).on b5).on b12
 have b012:=b1.on b112
 have hB12:=hB1.below b112
 have s5:w.heap.size<=w5.heap.size:=(((b1.on b3).on b4).on b5).size
 refine zj9 λw13 sl hls b13=>⟨(0,3,sl,()),rfl,?_⟩
 have b013:=b012.on b13
 refine zht hls (htab.below b013) λw14 pb0 b14 hP0=>⟨some (blk pb0),(0,0,()),rfl,box2 rfl λw16 hS16 b16 z16=>?_⟩
 have b1216:=(b13.on b14).on b16
 refine zj.cut (λ(_:Unit) w'=>Below w16.heap.size w16 w') ?_ ?_
 ·refine hS16.rI0 (x:=0) rfl (zz (λq=>absurd rfl q) λ_=>?_)
  refine zgb (hP0.below b16) (by rw[zqa];decide) λw17 b _ _ b17=>⟨⟨some (blk b),_,_⟩,rfl,?_⟩
  exact zz (λq=>absurd rfl q) λ_=>b17
 rintro _ w18 b18
 have b1218:=b1216.on b18
 have b018:=b012.on b1218
 refine(hS12.below b1218).rI0 rfl (zz (λ_=>hR w18 b018) (λhe=>?_))
 have he:(rnmS x pl T).1=0:=he
 have hsh:(zp x.2.1 pl).1=0:=by
  unfold rnmS at he
  by_cases h:(zp x.2.1 pl).1≠0
  ·rw[if_pos h]at he;exact absurd he h
  ·exact Classical.not_not.1 h
 have hway:wayB x.2.1 T=true:=by
  unfold rnmS at he
  rw[if_neg (λh=>h hsh)]at he
  by_cases h:wayB x.2.1 T=true
  ·exact h
  ·rw[if_neg h]at he;exact absurd (show(2:Int)=0 from he) (by decide)
 have hy2:rnmP x pl T=(x.1,x.2.1,zt (toG T) pl):=by
  unfold rnmP
  rw[if_neg (λh=>h hsh),if_pos hway]
 rw[hy2,Prod.mk.injEq,Prod.mk.injEq]at hy
 obtain⟨hy1,hy2,hy3⟩:=hy
 subst hy3
 have hwp:=zoA.1 hway
 have hturn0:=hwp.turn hp hbd.1 hsh
 have hturn:zr (toG T) pl y.2.1:=by rw[hy2];exact hturn0
 have hpq:=hturn.plOk hp
 have hcon:conE y.2.1 (zt (toG T) pl)=conE x.2.1 pl:=hturn.conE hp hbd.1 hsh
 have hY5:=hO5.isPl
 refine Mo.load ((hB12.below b1218)) (zcV (x:=x) (hN.below b018) hp λcb w19 _ _ hC19 b19=>⟨(x.1,x.2.1,⟨some (blk cb),pl.length,pl.length⟩,()),rfl,?_⟩)
 have b019:=b018.on b19
 have hS19:=(hS16.below b18).below b19
 have s13:w.heap.size<=w14.heap.size:=(b013.on b14).size
 have second:∀{w22:World} {K:VWP},Below w12.heap.size w12 w22->((conE x.2.1 pl).1≠0->∀w23,Below w22.heap.size w22 w23->K (.tuple #[.pointer none,.agg #[.int .i64 (conE x.2.1 pl).1,.int .i64 (conE x.2.1 pl).2]]) w23)->
   (CnOk y.2.1 (zt (toG T) pl)->∀w23 qb,Below w22.heap.size w22 w23->IsPo w23 w22.heap.size qb (tyL (zt (toG T) pl)) (cnL (zt (toG T) pl)) (vnL (zt (toG T) pl))->K (.tuple #[.pointer (some (blk qb)),.agg #[.int .i64 0,.int .i64 0]]) w23)->
   cR 27 #[moA y] w22 K:=λ{w22 K} hb h1 h2=>by
  refine zgc (x:=y) ((hY5.below b12).below hb) hpq (by rw[hy2];exact hbd.1) (htab.below (b012.on hb)) (λhc w23 b23=>?_) h2
  rw[hcon]at hc⊢
  exact h1 hc w23 b23
 have b1219:=b1218.on b19
 refine zgc (x:=(x.1,x.2.1,⟨some (blk cb),pl.length,pl.length⟩,())) hC19 hp hbd.1 (htab.below b019) (λhc w20 b20=>?_) (λhC w20 pb b20 hPo=>?_)
 ·have hc:(conE x.2.1 pl).1≠0:=hc
  refine⟨none,((conE x.2.1 pl).1,(conE x.2.1 pl).2,()),rfl,st2 (hS19.below b20) rfl λw22 hS22 c22=>?_⟩
  have lt12:w12.heap.size<=w14.heap.size:=(b13.on b14).size
  have b1222:Below w12.heap.size w12 w22:=c22.below (b1219.on b20) (by omega)
  refine Mo.load (b:=w5.heap.size) (hY12.below b1222) (second b1222 (λ_ w23 b23=>⟨none,((conE x.2.1 pl).1,(conE x.2.1 pl).2,()),rfl,box2 rfl λw26 hS26 b26 z26=>?_⟩) λhC2=>absurd (by
   have h1:=hcon
   rw[ziV (by rw[zfS hC2.ty.chk hC2.ty.no]) hC2.no]at h1
   rw[<-h1]) hc)
  have hS22':=(hS22.below b23).below b26
  have b2226:=b23.on b26
  refine Sp.load hS22' (Sp.load hS26 (zC (by simp) (hS22'.rI0 rfl (zz (λ_=>hR w26 (b012.on (b1222.on b2226))) λq=>absurd q hc))))
 have hC:CnOk x.2.1 pl:=hC
 have W:=hC.whole hp hbd.1
 refine⟨some (blk pb),(0,0,()),rfl,st2 (hS19.below b20) rfl λw22 hS22 c22=>?_⟩
 have lt12:w12.heap.size<=w14.heap.size:=(b13.on b14).size
 have lt19:w14.heap.size<w19.heap.size:=hS19.lt
 have b1222:Below w12.heap.size w12 w22:=c22.below (b1219.on b20) (by omega)
 have hP22:IsPo w22 w19.heap.size pb (tyL pl) (cnL pl) (vnL pl):=hPo.keep (λk h1 _=>c22.block _ (by omega)) (by rw[c22.size];exact Nat.le_refl _)
 have hc0:conE x.2.1 pl=(0,0):=ziV (by rw[zfS hC.ty.chk hC.ty.no]) hC.no
 refine Mo.load (b:=w5.heap.size) (hY12.below b1222) (second b1222 (λhc=>absurd (by rw[hc0]) hc) λhC2 w23 qb b23 hQ=>⟨some (blk qb),(0,0,()),rfl,box2 rfl λw26 hS26 b26 z26=>?_⟩)
 have b2226:=b23.on b26
 have hS22':=hS22.below b2226
 have hP26:=hP22.below b2226
 have hQ26:=hQ.below b26
 have b026:=b012.on (b1222.on b2226)
 refine Sp.load hS22' (Sp.load hS26 (zC (by simp) (hS22'.rI0 rfl (zz (λq=>absurd rfl q) λ_=>?_))))
 have W2:=hC2.whole hpq (by rw[hy2];exact hbd.1)
 have hcl:=zn4 W
 have hcle:=zoL pl pl.length
 have hplen:=hp.len
 have hD:cnL (zt (toG T) pl)=zdj (toG T) (cnL pl):=hturn.cnL W
 have hDl:(cnL (zt (toG T) pl)).length=(cnL pl).length:=by rw[hD,zc1]
 refine zgb hP26 (by omega) λw27 lb _ hL27 b27=>⟨⟨some (blk lb),_,_⟩,rfl,?_⟩
 refine zgb (hQ26.below b27) (by omega) λw28 kb _ hK28 b28=>⟨⟨some (blk kb),_,_⟩,rfl,?_⟩
 have b2628:=b27.on b28
 have hL28:=hL27.below b28
 refine zz (λq=>absurd (by dsimp only;rw[hDl]) q) λ_=>?_
 have hLs:IsS (Value.int .u32) w28 ⟨some (blk lb),(cnL pl).length,(cnL pl).length⟩ ((cnL pl).map (·.1)):=by
  have:=zf9 hL28 (by rw[List.length_map];omega)
  rwa[List.length_map]at this
 have hKs:IsS (Value.int .u32) w28 ⟨some (blk kb),(cnL (zt (toG T) pl)).length,(cnL (zt (toG T) pl)).length⟩ ((cnL (zt (toG T) pl)).map (·.1)):=by
  have:=zf9 hK28 (by rw[List.length_map];omega)
  rwa[List.length_map]at this
 refine zl.count (cnL pl).length (by omega) (λ_ w'=>Below w28.heap.size w28 w') (Below.refl _ _) ?_
 rintro k w29 hk b29 next hnext
 have b2629:=b2628.on b29
 have b029:=b026.on b2629
 refine zg (λg2=>?_) (λ_=>hR w29 b029)
 have hkl:k<(cnL pl).length:=by dsimp only at g2;omega
 have hkl2:k<(cnL (zt (toG T) pl)).length:=by omega
 have hkl3:k<(zdj (toG T) (cnL pl)).length:=by rw[zc1];exact hkl
 obtain⟨⟨i1,i2⟩,i3,i4⟩:=zp6 W hp hbd.1 hkl
 have hwl:=hwp.len
 have eA:cnA (cnL pl) (cnL pl)[k].1=(cnL pl)[k].2:=zn3 (zdX _ _ _) hkl
 have eD:(cnL (zt (toG T) pl))[k]=(toG T (cnL pl)[k].1,(toG T (cnL pl)[k].2.1,(cnL pl)[k].2.2)):=by
  have:=znf (toG T) (cnL pl) hkl3
  rw[<-this]
  congr 1
 have eB:cnA (cnL (zt (toG T) pl)) (toG T (cnL pl)[k].1)=(toG T (cnL pl)[k].2.1,(cnL pl)[k].2.2):=by
  have:=zn3 (zdX (tyL (zt (toG T) pl)) (zt (toG T) pl) (zt (toG T) pl).length) hkl2
  rw[eD]at this
  exact this
 have elL:((cnL pl).map (·.1))[k]'(by rw[List.length_map];exact hkl)=(cnL pl)[k].1:=List.getElem_map ..
 have elK:((cnL (zt (toG T) pl)).map (·.1))[k]'(by rw[List.length_map];exact hkl2)=toG T (cnL pl)[k].1:=by
  rw[List.getElem_map,eD]
 generalize hc:(cnL pl)[k]=c at i1 i2 i3 i4 eA eB elL elK
 have rdL:∀{w'} {φ:Int->Prop},Below w28.heap.size w28 w'->φ c.1->(0<=(k:Int)/\(k:Int)<(((cnL pl).length:Nat):Int))/\zc (some (blk lb)) λa=>ldI w' (a.add (Int.toNat (k:Int))) .u32 φ:=λhb hφ=>
  ZX (hLs.below hb) (k:=k) (by rw[List.length_map];exact hkl) (by rw[elL];exact hφ)
 have rdK:∀{w'} {φ:Int->Prop},Below w28.heap.size w28 w'->φ (toG T c.1)->(0<=(k:Int)/\(k:Int)<(((cnL (zt (toG T) pl)).length:Nat):Int))/\zc (some (blk kb)) λa=>ldI w' (a.add (Int.toNat (k:Int))) .u32 φ:=λhb hφ=>
  ZX (hKs.below hb) (k:=k) (by rw[List.length_map];exact hkl2) (by rw[elK];exact hφ)
 have hlen:=zoI hC hp hbd.1 c.1
 refine zj.cut (λ(_:Unit) w'=>Below w29.heap.size w29 w') ?_ ?_
 rotate_left
 ·rintro _ w33 b33
  exact hnext w33 hkl (b29.on b33)
 refine rdL b29 ?_
 refine zg7 (hP26.below b2629) (by omega) λw30 vb _ hV30 b30=>⟨(cnA (cnL pl) c.1).1,⟨some (blk vb),_,_⟩,_,rfl,?_⟩
 rw[eA]at hV30 hlen⊢
 refine rdK (b29.on b30) ?_
 refine zg7 (hQ26.below (b2629.on b30)) (by rw[eB];dsimp only;omega) λw31 ub _ hU31 b31=>⟨(cnA (cnL (zt (toG T) pl)) (toG T c.1)).1,⟨some (blk ub),_,_⟩,_,rfl,?_⟩
 rw[eB]at hU31⊢
 have b2931:=b30.on b31
 have b2931d:=b2931.drew
 have hT31:=hs.below ((b029.on b2931).drew)
 refine rdL (b29.on b2931d) (zp1 hT31 i1 (by omega) (rdK (b29.on b2931d) (zz (λq=>absurd rfl q) λ_=>zp1 hT31 i3 (by omega) (zz (λq=>absurd rfl q) λ_=>?_))))
 have b31d:Below w31.heap.size w31 w31.drew:=(Below.refl _ _).drew
 refine zkJ ((zmg hV30 (by omega)).below (b31.on b31d)) ((zmg hU31 (by dsimp only;omega)).below b31d) λw32 _ b32=>⟨_,rfl,?_⟩
 exact zC (by simp) (b2931d.on b32)
end
end Go.Proofs
