/- FaceB, part 2; made small by a program. -/
import Derived.Test.YtnpdnjmpmeikiaaGreatDoorProg
import Derived.Laws.Strings
import Derived.MapKept
import Derived.Test.YtnpdnjmpmeikiaaGreatDoorPFaceB1
set_option linter.unusedVariables false
namespace Go.Proofs
open Go.Gk
set_option linter.unusedVariables false
set_option maxRecDepth 100000
def zis:Ann:=(.q (.q (.seq none (.q (.one (.loop ⟨[],[(9,(.b (.int .i64))),(10,(.agg [(.int .u16),(.int .u32),(.int .u32),.slice]))]⟩ (.seq none (.q .nil) (.one (.q .c)))))) (.q .nil))))
def zie(p0:Sl)(R:VWP)(w:World):Prop:=Nw (w.alloc (.map #[] 0)) λw1=>Nw (w1.alloc (.cells #[.map none] 98)) λw2=>Wr w2 (zB w1)/\Nw (w2.setCell (zB w1) (.map (some w.heap.size))) λw3=>dk 108 #[p0.zw] w3 λx2 w4=>zmP Tryz.prog Tryz.fs x2 w4 (T:=Int×(Int×Int×Int×Sl×Unit)×Unit) (λs3=>[(zi s3.1),(.agg #[zh s3.2.1.1,zu s3.2.1.2.1,zu s3.2.1.2.2.1,s3.2.1.2.2.2.1.zw])]) (λmk4 l5 s3 w5 S6=>dg w5 #[zh 0,zu 0,zu 0,.slice none 0 0] 44 (zh s3.2.1.1) (zu s3.2.1.2.1) (zu s3.2.1.2.2.1) (s3.2.1.2.2.2.1.zw) λw10=>w10.heap[l5]? =some (mk4 .ready none)/\Nw (w10.putObj l5 (mk4 .busy none)) λw11=>ldI w11 ((zB w5).add 2) .u32 λx8=>ifB (x8 !=0) (ldM w11 (zB w1) λx9=>ldI w11 ((zB w5).add 2) .u32 λx10=>updW Tryz.prog 98 (.map x9) (zu x10) (zi s3.1) w11 λw12=>w12.heap[l5]? =some (mk4 .busy none)/\S6 (.bool true) (w12.putObj l5 (mk4 .ready none))) (w11.heap[l5]? =some (mk4 .busy none)/\S6 (.bool true) (w11.putObj l5 (mk4 .ready none)))) (λmk4 l5 d7 w13=>Ye mk4 l5 .ready none w13 λw14=>ldM w14 (zB w1) λx11=>zeN (d7::[]) w14 λw15=>R (.map x11) w15)
theorem zjw(p0:Sl)(R:VWP)(w:World)(h:zie p0 R w):Calls Tryz.prog 72 #[.slice p0.a p0.l p0.c] w (Ret R):=zm4 (fs:=Tryz.fs) (an:=zis) (args:=[(.slice p0.a p0.l p0.c)]) Tryz.fsOK Tryz.mixed Tryz.func72 (by kernel_rfl) (by kernel_rfl) (Eq.mpr (by kernel_rfl:zre Tryz.prog Tryz.fs Tryz.f72 zis [(.slice p0.a p0.l p0.c)] w R=zie p0 R w) h)
def yC:Ann:=(.q (.q .nil))
def yA(p0:Sl)(R:VWP)(w:World):Prop:=Nw (w.alloc (.cells #[p0.zw] 23)) λw1=>R (.func (.func 137) #[] #[.pointer (some (zB w))]) w1
theorem Z2(p0)(R)(w)(h:yA p0 R w):Calls Tryz.prog 108 #[.slice p0.a p0.l p0.c] w (Ret R):=lwC yC Tryz.func108 (by kernel_rfl) (by kernel_rfl) h
def yo:Ann:=(.q (.one (.loop ⟨[0,1],[(3,(.b (.int .i64)))]⟩ (.seq none (.q .c) (.seq none (.one (.q .c)) .nil)))))
def yn(p0:Value)(c0:Addr)(R:VWP)(w:World):Prop:=ldS w c0 λx1=>zl (S:=Int×Unit) (λs2 w1 n3=>ifB (decide (s2.1≥(0:Int))) (ldS w1 c0 λx4=>(0<=s2.1/\s2.1<(x4.l:Int))/\zc x4.a λa5=>dc w1 (a5.add (s2.1.toNat *4)) λx6 x7 x8 x9=>zL Tryz.prog Tryz.fs p0 [(zi s2.1),(.agg #[zh x6,zu x7,zu x8,x9.zw])] w1 λv10 w2=>∃x11:Bool,v10=(.bool x11)/\ifB (!x11) (R (.tuple #[]) w2) (n3 ((IntKind.i64.wrap (s2.1-(1:Int))),()) w2)) (R (.tuple #[]) w1)) ((IntKind.i64.wrap ((x1.l:Int)-1)),()) w
theorem Zp(p0)(c0)(R)(w)(h:yn p0 c0 R w):Calls Tryz.prog 137 #[p0,.pointer (some c0)] w (Ret R):=lwC yo Tryz.func137 (by kernel_rfl) (by kernel_rfl) h
end Go.Proofs
namespace Go.Proofs
open Go.Gk
set_option linter.unusedVariables false
set_option maxRecDepth 100000
end Go.Proofs
namespace Go.Proofs
open Go.Gk
set_option linter.unusedVariables false
set_option maxRecDepth 100000
def yT:Ann:=(.q (.q .nil))
def yR(p0:Sl)(p1:Int)(R:VWP)(w:World):Prop:=dl 153 #[p0.zw,zu p1] w λx2 w1=>R (.bool (decide (x2≥(0:Int)))) w1
theorem ZW(p0)(p1)(R)(w)(h:yR p0 p1 R w):Calls Tryz.prog 114 #[.slice p0.a p0.l p0.c,.int .u32 p1] w (Ret R):=lwC yT Tryz.func114 (by kernel_rfl) (by kernel_rfl) h
def Zr:Ann:=(.q (.seq none (.q (.one (.loop ⟨[0,1,7],[(8,(.b (.int .i64)))]⟩ (.q (.seq none .c (.seq none (.one (.q (.q (.cond (.q .nil) .nil)))) .nil)))))) (.q .nil)))
def Zq(p0:Sl)(p1:Int)(R:VWP)(w:World):Prop:=zl (S:=Int×Unit) (λs1 w1 n2=>ifB (decide (s1.1<(p0.l:Int))) ((0<=s1.1/\s1.1<(p0.l:Int))/\zc p0.a λa3=>ldI w1 (a3.add s1.1.toNat) .u32 λx4=>ifB (p1==x4) (R (zi s1.1) w1) (n2 ((IntKind.i64.wrap (s1.1+(1:Int))),()) w1)) (R (zi (-1:Int)) w1)) (0,()) w
theorem YC(p0)(p1)(R)(w)(h:Zq p0 p1 R w):Calls Tryz.prog 153 #[.slice p0.a p0.l p0.c,.int .u32 p1] w (Ret R):=lwC Zr Tryz.func153 (by kernel_rfl) (by kernel_rfl) h
end Go.Proofs
namespace Go.Proofs
open Go.Gk
set_option linter.unusedVariables false
set_option maxRecDepth 100000
def zkB:Ann:=(.q (.q (.seq (some ⟨[1],[(3,(.b .slice))]⟩) (.q .c) (.seq none (.q (.one (.loop ⟨[15,16],[(3,(.b .slice)),(17,(.b (.int .i64)))]⟩ (.q (.seq none .c (.seq (some ⟨[15,16,17],[(3,(.b .slice))]⟩) (.one (.q (.q .c))) .nil)))))) (.q .nil)))))
def zk7(p0:(Int×Int×Int×Sl×Unit))(R:VWP)(w:World):Prop:=Nw (w.alloc (.cells #[zh p0.1,zu p0.2.1,zu p0.2.2.1,p0.2.2.2.1.zw] 44)) λw1=>zo (S:=Sl×Unit) (λm1=>ldI w1 ((zB w).add 1) .u32 λx3=>ifB (x3 !=0) (ldI w1 ((zB w).add 1) .u32 λx4=>Nw (w1.alloc (.cells #[zu x4] 22)) λw2=>zA Tryz.prog 56 (.slice none 0 0) (.slice (some (zB w1)) 1 1) w2 λr5 w3=>m1 (r5,()) w3) (m1 ((Sl.mk none 0 0),()) w1)) (λs2 w4=>ldS w4 ((zB w).add 3) λx6=>zl (S:=Sl×Int×Unit) (λs7 w5 n8=>ifB (decide (s7.2.1<(x6.l:Int))) (zo (S:=Sl×Unit) (λm9=>(0<=s7.2.1/\s7.2.1<(x6.l:Int))/\zc x6.a λa11=>dm w5 (a11.add (s7.2.1.toNat *3)) λx12 x13 x14=>Nw (w5.alloc (.cells #[zb 0,zu 0,.string (BM #[])] 123)) λw6=>dn w6 (zB w5) (zb x12) (zu x13) (.string x14) λw9=>ldI w9 (zB w5) .u8 λx15=>ifB (x15==1) (ldI w9 ((zB w5).add 1) .u32 λx16=>Nw (w9.alloc (.cells #[zu x16] 22)) λw10=>zA Tryz.prog 56 (s7.1.zw) (.slice (some (zB w9)) 1 1) w10 λr17 w11=>m9 (r17,()) w11) (m9 (s7.1,()) w9)) (λs10 w12=>n8 (s10.1,(IntKind.i64.wrap (s7.2.1+(1:Int))),()) w12)) (R (s7.1.zw) w5)) (s2.1,0,()) w4)
theorem zkN(p0)(R)(w)(h:zk7 p0 R w):Calls Tryz.prog 73 #[.agg #[.int .u16 p0.1,.int .u32 p0.2.1,.int .u32 p0.2.2.1,.slice p0.2.2.2.1.a p0.2.2.2.1.l p0.2.2.2.1.c]] w (Ret R):=lwC zkB Tryz.func73 (by kernel_rfl) (by kernel_rfl) h
def zij:Ann:=(.q (.q (.q .nil)))
def zhW(p0:(Int×Int×Sl×Unit))(R:VWP)(w:World):Prop:=Nw (w.alloc (.cells #[zu p0.1,zu p0.2.1,p0.2.2.1.zw] 25)) λw1=>Nw (w1.alloc (.cells #[zi 0,zi 0] 29)) λw2=>da w2 (zB w) λx1 x2 x3=>dz 131 #[.agg #[zu x1,zu x2,x3.zw]] w2 λx5 x6 w3=>df w3 #[zi 0,zi 0] 29 (zi x6.1) (zi x6.2.1) λw6=>db w6 (zB w3) λx7 x8=>de w6 (zB w1) (zi x7) (zi x8) λw8=>db w8 (zB w1) λx9 x10=>R (.agg #[zi x9,zi x10]) w8
theorem zjg(p0)(R)(w)(h:zhW p0 R w):Calls Tryz.prog 100 #[.agg #[.int .u32 p0.1,.int .u32 p0.2.1,.slice p0.2.2.1.a p0.2.2.1.l p0.2.2.1.c]] w (Ret R):=lwC zij Tryz.func100 (by kernel_rfl) (by kernel_rfl) h
def zjF:Ann:=(.q (.seq (some ⟨[1,3],[]⟩) (.q (.cond (.q .nil) .nil)) (.q (.q (.q (.seq none (.q (.one (.loop ⟨[1,3,27,28],[(4,(.b (.int .i64))),(6,(.b .slice)),(29,(.b (.int .i64)))]⟩ (.q (.seq none .c (.seq none (.one (.q (.q (.q (.seq none (.one (.q (.cond (.q .nil) (.q (.cond (.q .nil) .nil))))) .nil))))) .nil)))))) (.q .nil)))))))
def zjA(p0:(Int×Int×Sl×Unit))(R:VWP)(w:World):Prop:=Nw (w.alloc (.cells #[zu p0.1,zu p0.2.1,p0.2.2.1.zw] 25)) λw1=>Nw (w1.alloc (.cells #[zi 0,zi 0] 29)) λw2=>zo (S:=Unit) (λm1=>ldI w2 ((zB w).add 1) .u32 λx3=>ifB (x3==0) (de w2 (zB w1) (zi 24) (zi 0) λw4=>db w4 (zB w1) λx4 x5=>R (.tuple #[.slice none 0 0,.agg #[zi x4,zi x5]]) w4) (ldI w2 ((zB w).add 1) .u32 λx6=>ifB (decide (x6>(65536:Int))) (de w2 (zB w1) (zi 24) (zi 0) λw6=>db w6 (zB w1) λx7 x8=>R (.tuple #[.slice none 0 0,.agg #[zi x7,zi x8]]) w6) (m1 () w2))) (λs2 w7=>dq 161 #[.slice none 0 0] w7 λx10 x11 w8=>ldS w8 ((zB w).add 2) λx12=>zl (S:=Int×Sl×Int×Unit) (λs13 w9 n14=>ifB (decide (s13.2.2.1<(x12.l:Int))) ((0<=s13.2.2.1/\s13.2.2.1<(x12.l:Int))/\zc x12.a λa15=>dc w9 (a15.add (s13.2.2.1.toNat *4)) λx16 x17 x18 x19=>dg w9 #[zh 0,zu 0,zu 0,.slice none 0 0] 44 (zh x16) (zu x17) (zu x18) (x19.zw) λw14=>dc w14 (zB w9) λx20 x21 x22 x23=>ldI w14 ((zB w).add 1) .u32 λx24=>dr 162 #[.agg #[zh x20,zu x21,zu x22,x23.zw],zu x24] w14 λx26 x27 w15=>df w15 #[zh 0,.slice none 0 0] 251 (zh x26.1) (x26.2.1.zw) λw18=>ldS w18 ((zB w15).add 1) λx28=>ifB (x27 !=0) (de w18 (zB w1) (zi x27) (zi s13.2.2.1) λw20=>db w20 (zB w1) λx29 x30=>R (.tuple #[.slice none 0 0,.agg #[zi x29,zi x30]]) w20) (ifB (decide ((IntKind.i64.wrap (s13.1-(IntKind.i64.wrap (1+(x28.l:Int)))))<0)) (de w18 (zB w1) (zi 4) (zi s13.2.2.1) λw22=>db w22 (zB w1) λx31 x32=>R (.tuple #[.slice none 0 0,.agg #[zi x31,zi x32]]) w22) (dp w18 (zB w15) λx33 x34=>Nw (w18.alloc (.cells #[zh x33,x34.zw] 251)) λw23=>zA Tryz.prog 211 (s13.2.1.zw) (.slice (some (zB w18)) 1 1) w23 λr35 w24=>n14 ((IntKind.i64.wrap (s13.1-(IntKind.i64.wrap (1+(x28.l:Int))))),r35,(IntKind.i64.wrap (s13.2.2.1+(1:Int))),()) w24))) (de w9 (zB w1) (zi 0) (zi 0) λw26=>db w26 (zB w1) λx36 x37=>R (.tuple #[s13.2.1.zw,.agg #[zi x36,zi x37]]) w26)) ((IntKind.i64.wrap (1048576-x10)),(Sl.mk none 0 0),0,()) w8)
theorem zkf(p0)(R)(w)(h:zjA p0 R w):Calls Tryz.prog 131 #[.agg #[.int .u32 p0.1,.int .u32 p0.2.1,.slice p0.2.2.1.a p0.2.2.1.l p0.2.2.1.c]] w (Ret R):=lwC zjF Tryz.func131 (by kernel_rfl) (by kernel_rfl) h
def ziq:Ann:=(.q (.q (.q .nil)))
def zic(p0:Sl)(R:VWP)(w:World):Prop:=ds 178 #[p0.zw] w λx2 x3 w1=>df w1 #[zi 0,zi 0] 29 (zi x3.1) (zi x3.2.1) λw4=>ldI w4.drew (zB w1) .i64 λx4=>R (.tuple #[zi x2,zi x4]) w4.drew
theorem zjt(p0)(R)(w)(h:zic p0 R w):Calls Tryz.prog 161 #[.slice p0.a p0.l p0.c] w (Ret R):=lwC ziq Tryz.func161 (by kernel_rfl) (by kernel_rfl) h
def zkC:Ann:=(.q (.q (.seq none (.q (.cond (.q .nil) .nil)) (.q (.q (.seq (some ⟨[2,4,6,8],[(9,(.b (.int .i64)))]⟩) (.q .c) (.q (.seq none (.q (.one (.loop ⟨[2,4,6,8,10,43,44],[(9,(.b (.int .i64))),(45,(.b (.int .i64)))]⟩ (.q (.seq none .c (.seq (some ⟨[2,4,6,8,10,43,44,45],[(9,(.b (.int .i64)))]⟩) (.one (.q (.q .c))) .nil)))))) (.seq (some ⟨[2,4,8],[(9,(.b (.int .i64)))]⟩) (.q .c) (.seq (some ⟨[2,4,8],[(9,(.b (.int .i64)))]⟩) (.q .c) (.seq none (.q (.cond (.q .nil) .nil)) (.q .nil))))))))))))
def zk8(p0:(Int×Int×Int×Sl×Unit))(p1:Int)(R:VWP)(w:World):Prop:=Nw (w.alloc (.cells #[zh p0.1,zu p0.2.1,zu p0.2.2.1,p0.2.2.2.1.zw] 44)) λw1=>Nw (w1.alloc (.cells #[zh 0,.slice none 0 0] 251)) λw2=>ldI w2 (zB w) .u16 λx1=>dv 179 #[zh x1] w2 λx3 x4 w3=>Nw (w3.alloc (.cells #[zh 0,.string (BM #[]),.bool false,.bool false,.string (BM #[]),.string (BM #[]),zi 0,zb 0] 274)) λw4=>du w4 (zB w3) (zh x3.1) (.string x3.2.1) (.bool x3.2.2.1) (.bool x3.2.2.2.1) (.string x3.2.2.2.2.1) (.string x3.2.2.2.2.2.1) (zi x3.2.2.2.2.2.2.1) (zb x3.2.2.2.2.2.2.2.1) λw12=>ifB (!x4) (de w12 (zB w1) (zh 0) (.slice none 0 0) λw14=>dp w14 (zB w1) λx5 x6=>R (.tuple #[.agg #[zh x5,x6.zw],zi 30]) w14) (dt w12 (zB w3) λx7 x8 x9 x10 x11 x12 x13 x14=>Nw (w12.alloc (.cells #[zh x7,.string x8,.bool x9,.bool x10,.string x11,.string x12,zi x13,zb x14,zu p1,.slice none 0 0,zi 0] 279)) λw15=>ldB w15 ((zB w3).add 2) λx15=>ldI w15 ((zB w).add 1) .u32 λx16=>dl 180 #[.pointer (some (zB w12)),.bool x15,zu x16,zi 40] w15 λx18 w16=>zo (S:=Int×Unit) (λm19=>ifB (x18==0) (ldB w16 ((zB w3).add 3) λx21=>ldI w16 ((zB w).add 2) .u32 λx22=>dl 180 #[.pointer (some (zB w12)),.bool x21,zu x22,zi 41] w16 λx24 w17=>m19 (x24,()) w17) (m19 (x18,()) w16)) (λs20 w18=>ldS w18 ((zB w).add 3) λx25=>zl (S:=Int×Int×Unit) (λs26 w19 n27=>ifB (decide (s26.2.1<(x25.l:Int))) (zo (S:=Int×Unit) (λm28=>(0<=s26.2.1/\s26.2.1<(x25.l:Int))/\zc x25.a λa30=>dm w19 (a30.add (s26.2.1.toNat *3)) λx31 x32 x33=>Nw (w19.alloc (.cells #[zb 0,zu 0,.string (BM #[])] 123)) λw20=>dn w20 (zB w19) (zb x31) (zu x32) (.string x33) λw23=>ifB (s26.1==0) (dm w23 (zB w19) λx34 x35 x36=>dl 181 #[.pointer (some (zB w12)),zi s26.2.1,.agg #[zb x34,zu x35,.string x36]] w23 λx38 w24=>m28 (x38,()) w24) (m28 (s26.1,()) w23)) (λs29 w25=>n27 (s29.1,(IntKind.i64.wrap (s26.2.1+(1:Int))),()) w25)) (zo (S:=Int×Unit) (λm39=>ifB (s26.1==0) (dt w19 (zB w3) λx41 x42 x43 x44 x45 x46 x47 x48=>ldS w19 ((zB w).add 3) λx49=>dl 182 #[.agg #[zh x41,.string x42,.bool x43,.bool x44,.string x45,.string x46,zi x47,zb x48],x49.zw] w19 λx51 w26=>m39 (x51,()) w26) (m39 (s26.1,()) w19)) (λs40 w27=>zo (S:=Int×Unit) (λm52=>ifB (s40.1==0) (ldI w27 ((zB w12).add 10) .i64 λx54=>ifB (decide (x54≥(65535:Int))) (m52 (25,()) w27) (m52 (s40.1,()) w27)) (m52 (s40.1,()) w27)) (λs53 w28=>ifB (s53.1 !=0) (de w28 (zB w1) (zh 0) (.slice none 0 0) λw30=>dp w30 (zB w1) λx55 x56=>R (.tuple #[.agg #[zh x55,x56.zw],zi s53.1]) w30) (ldI w28.drew (zB w) .u16 λx57=>ldS w28.drew ((zB w12).add 9) λx58=>de w28.drew (zB w1) (zh x57) (x58.zw) λw32=>dp w32 (zB w1) λx59 x60=>R (.tuple #[.agg #[zh x59,x60.zw],zi 0]) w32))))) (s20.1,0,()) w18))
theorem zkO(p0)(p1)(R)(w)(h:zk8 p0 p1 R w):Calls Tryz.prog 162 #[.agg #[.int .u16 p0.1,.int .u32 p0.2.1,.int .u32 p0.2.2.1,.slice p0.2.2.2.1.a p0.2.2.2.1.l p0.2.2.2.1.c],.int .u32 p1] w (Ret R):=lwC zkC Tryz.func162 (by kernel_rfl) (by kernel_rfl) h
def zft:Ann:=(.q (.q (.seq none (.q (.one (.loop ⟨[3,7,8],[(4,(.b (.int .i64))),(9,(.b (.int .i64)))]⟩ (.q (.seq none .c (.seq none (.one (.q (.q (.one (.q (.cond (.q .nil) (.q (.cond (.q .nil) .nil)))))))) .nil)))))) (.q .nil))))
def zfo(p0:Sl)(R:VWP)(w:World):Prop:=Nw (w.alloc (.cells #[zi 0,zi 0] 29)) λw1=>zl (S:=Int×Int×Unit) (λs1 w2 n2=>ifB (decide (s1.2.1<(p0.l:Int))) ((0<=s1.2.1/\s1.2.1<(p0.l:Int))/\zc p0.a λa3=>dp w2 (a3.add (s1.2.1.toNat *2)) λx4 x5=>df w2 #[zh 0,.slice none 0 0] 251 (zh x4) (x5.zw) λw5=>ldS w5 ((zB w2).add 1) λx6=>ldS w5 ((zB w2).add 1) λx7=>ifB (decide ((x7.l:Int)≥65535)) (de w5 (zB w) (zi 25) (zi s1.2.1) λw7=>db w7 (zB w) λx8 x9=>R (.tuple #[zi 0,.agg #[zi x8,zi x9]]) w7) (ifB (decide ((IntKind.i64.wrap (s1.1+(IntKind.i64.wrap (1+(x6.l:Int)))))>1048576)) (de w5 (zB w) (zi 4) (zi s1.2.1) λw9=>db w9 (zB w) λx10 x11=>R (.tuple #[zi 0,.agg #[zi x10,zi x11]]) w9) (n2 ((IntKind.i64.wrap (s1.1+(IntKind.i64.wrap (1+(x6.l:Int))))),(IntKind.i64.wrap (s1.2.1+(1:Int))),()) w5))) (de w2 (zB w) (zi 0) (zi 0) λw11=>db w11 (zB w) λx12 x13=>R (.tuple #[zi s1.1,.agg #[zi x12,zi x13]]) w11)) (5,0,()) w1
theorem zgT(p0)(R)(w)(h:zfo p0 R w):Calls Tryz.prog 178 #[.slice p0.a p0.l p0.c] w (Ret R):=lwC zft Tryz.func178 (by kernel_rfl) (by kernel_rfl) h
def zcD:Ann:=(.q (.seq none (.one (.q (.cond (.q .nil) (.q (.cond (.q .nil) .nil))))) (.q (.q .nil))))
def zc5(p0:Option Addr)(p1:Bool)(p2:Int)(p3:Int)(R:VWP)(w:World):Prop:=ifB (!(p1==(p2 !=0))) (R (zi p3) w) (ifB (!p1) (R (zi 0) w) (cR 192 #[.pointer p0,zu p2] w λv1 w1=>v1=(.tuple #[])/\zc p0 λa2=>ldI w1 (a2.add 8) .u32 λx3=>dl 193 #[zu p2,zu x3] w1 λx5 w2=>R (zi x5) w2))
theorem zeO(p0)(p1)(p2)(p3)(R)(w)(h:zc5 p0 p1 p2 p3 R w):Calls Tryz.prog 180 #[.pointer p0,.bool p1,.int .u32 p2,.int .i64 p3] w (Ret R):=lwC zcD Tryz.func180 (by kernel_rfl) (by kernel_rfl) h
def zdv:Ann:=(.q (.q (.q (.seq (some ⟨[0,5,7],[]⟩) (.one (.q (.cond (.q .nil) (.q (.cond (.q .nil) .nil))))) (.q (.seq none (.q (.one (.q (.cond (.q .nil) (.q (.cond (.q .nil) .nil)))))) (.q .nil)))))))
def zdn(p0:Option Addr)(p1:Int)(p2:(Int×Int×ByteArray×Unit))(R:VWP)(w:World):Prop:=Nw (w.alloc (.cells #[zb p2.1,zu p2.2.1,.string p2.2.2.1] 123)) λw1=>zc p0 λa1=>ldI w1 a1 .u16 λx2=>dw 194 #[zh x2,zi p1] w1 λx4 w2=>ldI w2 (zB w) .u8 λx5=>zo (S:=Unit) (λm6=>ifB (x4==0) (R (zi 42) w2.drew) (ldI w2.drew (zB w) .u8 λx8=>dw 195 #[zb x4] w2.drew λx10 w3=>w3.cell? (zB w)=some (zb x8)/\ifB (x8 !=x10) (R (zi 42) w3) (ifB (x5==3) (ldI w3 ((zB w).add 1) .u32 λx11=>ifB (x11 !=0) (R (zi 42) w3) (ifB (!(x5==3)) (zs w3 ((zB w).add 2) λx12=>ifB (!(x12.toList==(BM #[]).toList)) (R (zi 42) w3) (ifB (x5==3) (zs w3 ((zB w).add 2) λx13=>dl 196 #[.pointer p0,.string x13] w3 λx15 w4=>R (zi x15) w4) (m6 () w3))) (ifB (x5==3) (zs w3 ((zB w).add 2) λx16=>dl 196 #[.pointer p0,.string x16] w3 λx18 w5=>R (zi x18) w5) (m6 () w3)))) (ifB (!(x5==3)) (zs w3 ((zB w).add 2) λx19=>ifB (!(x19.toList==(BM #[]).toList)) (R (zi 42) w3) (ifB (x5==3) (zs w3 ((zB w).add 2) λx20=>dl 196 #[.pointer p0,.string x20] w3 λx22 w6=>R (zi x22) w6) (m6 () w3))) (ifB (x5==3) (zs w3 ((zB w).add 2) λx23=>dl 196 #[.pointer p0,.string x23] w3 λx25 w7=>R (zi x25) w7) (m6 () w3)))))) (λs7 w8=>ldI w8 ((zB w).add 1) .u32 λx26=>cR 192 #[.pointer p0,zu x26] w8 λv27 w9=>v27=(.tuple #[])/\ldI w9 (zB w) .u8 λx28=>ifB (x28==1) (ldI w9.drew ((zB w).add 1) .u32 λx29=>zc p0 λa30=>ldI w9.drew (a30.add 8) .u32 λx31=>dl 193 #[zu x29,zu x31] w9.drew λx33 w10=>R (zi x33) w10) (ifB (x28==4) (ldI w9 ((zB w).add 1) .u32 λx34=>dl 197 #[zb x4,zu x34] w9 λx36 w11=>R (zi x36) w11) (R (zi 0) w9)))
theorem zf3(p0)(p1)(p2)(R)(w)(h:zdn p0 p1 p2 R w):Calls Tryz.prog 181 #[.pointer p0,.int .i64 p1,.agg #[.int .u8 p2.1,.int .u32 p2.2.1,.string p2.2.2.1]] w (Ret R):=lwC zdv Tryz.func181 (by kernel_rfl) (by kernel_rfl) h
def zil:Ann:=(.q (.q (.seq none (.q (.one (.loop ⟨[2,10,11],[(5,(.b .slice)),(12,(.b (.int .i64)))]⟩ (.q (.seq none .c (.seq none (.one (.q .nil)) .nil)))))) (.seq none (.q (.q (.cond (.q .nil) .nil))) (.q .nil)))))
def zhY(p0:(Int×ByteArray×Bool×Bool×ByteArray×ByteArray×Int×Int×Unit))(p1:Sl)(R:VWP)(w:World):Prop:=Nw (w.alloc (.cells #[zh p0.1,.string p0.2.1,.bool p0.2.2.1,.bool p0.2.2.2.1,.string p0.2.2.2.2.1,.string p0.2.2.2.2.2.1,zi p0.2.2.2.2.2.2.1,zb p0.2.2.2.2.2.2.2.1] 274)) λw1=>zl (S:=Sl×Int×Unit) (λs1 w2 n2=>ifB (decide (s1.2.1<(p1.l:Int))) ((0<=s1.2.1/\s1.2.1<(p1.l:Int))/\zc p1.a λa3=>dm w2 (a3.add (s1.2.1.toNat *3)) λx4 x5 x6=>Nw (w2.alloc (.cells #[zb 0,zu 0,.string (BM #[])] 123)) λw3=>dn w3 (zB w2) (zb x4) (zu x5) (.string x6) λw6=>ldI w6 (zB w2) .u8 λx7=>Nw (w6.alloc (.cells #[zb x7] 5)) λw7=>zA Tryz.prog 217 (s1.1.zw) (.slice (some (zB w6)) 1 1) w7 λr8 w8=>n2 (r8,(IntKind.i64.wrap (s1.2.1+(1:Int))),()) w8) (ldI w2 (zB w) .u16 λx9=>dx 198 #[zh x9,s1.1.zw] w2 λx11 x12 w9=>ifB (!x12) (R (zi 42) w9) (R (zi 0) w9))) ((Sl.mk none 0 0),0,()) w1
theorem zji(p0)(p1)(R)(w)(h:zhY p0 p1 R w):Calls Tryz.prog 182 #[.agg #[.int .u16 p0.1,.string p0.2.1,.bool p0.2.2.1,.bool p0.2.2.2.1,.string p0.2.2.2.2.1,.string p0.2.2.2.2.2.1,.int .i64 p0.2.2.2.2.2.2.1,.int .u8 p0.2.2.2.2.2.2.2.1],.slice p1.a p1.l p1.c] w (Ret R):=lwC zil Tryz.func182 (by kernel_rfl) (by kernel_rfl) h
def zdw:Ann:=(.q .nil)
def zdo(p0:Option Addr)(p1:Int)(R:VWP)(w:World):Prop:=zc p0 λa1=>ldS w (a1.add 9) λx2=>Nw (w.alloc (.cells #[zu p1] 22)) λw1=>zA Tryz.prog 56 (x2.zw) (.slice (some (zB w)) 1 1) w1 λr3 w2=>zc p0 λa4=>Wr w2 (a4.add 9)/\Nw (w2.setCell (a4.add 9) (r3.zw)) λw3=>zc p0 λa5=>ldI w3 (a5.add 10) .i64 λx6=>zc p0 λa7=>Wr w3 (a7.add 10)/\Nw (w3.setCell (a7.add 10) (zi (IntKind.i64.wrap (x6+(1:Int))))) λw4=>R (.tuple #[]) w4
theorem zf4(p0)(p1)(R)(w)(h:zdo p0 p1 R w):Calls Tryz.prog 192 #[.pointer p0,.int .u32 p1] w (Ret R):=lwC zdw Tryz.func192 (by kernel_rfl) (by kernel_rfl) h
def zme:Ann:=(.q (.seq none (.q (.cond (.q .nil) .nil)) (.q .nil)))
def zmb(p0:Int)(p1:Int)(R:VWP)(w:World):Prop:=ifB (p0==0) (R (zi 43) w) (ifB (decide (p0≥p1)) (R (zi 43) w) (R (zi 0) w))
theorem zlK(p0)(p1)(R)(w)(h:zmb p0 p1 R w):Calls Tryz.prog 193 #[.int .u32 p0,.int .u32 p1] w (Ret R):=lwC zme Tryz.func193 (by kernel_rfl) (by kernel_rfl) h
def zcE:Ann:=(.q (.seq none (.q (.cond (.q .nil) .nil)) (.q (.seq none (.q (.cond (.q (.q .nil)) .nil)) (.q (.q (.q .nil)))))))
def zc6(p0:Option Addr)(p1:ByteArray)(R:VWP)(w:World):Prop:=dl 206 #[.string p1,zb 0] w λx2 w1=>ifB (decide (x2≥(0:Int))) (R (zi 13) w1) (dy 207 #[.string p1] w1 λx4 x5 w2=>ifB (x5 !=0) (zc p0 λa6=>ldI w2.drew (a6.add 10) .i64 λx7=>dl 208 #[.string p1] w2.drew λx9 w3=>w3.cell? (a6.add 10)=some (zi x7)/\zc p0 λa10=>Wr w3 (a10.add 10)/\Nw (w3.setCell (a10.add 10) (zi (IntKind.i64.wrap (x7+x9)))) λw4=>R (zi 0) w4) (zc p0 λa11=>ldS w2 (a11.add 9) λx12=>zA Tryz.prog 56 (x12.zw) (x4.zw) w2 λr13 w5=>zc p0 λa14=>Wr w5 (a14.add 9)/\Nw (w5.setCell (a14.add 9) (r13.zw)) λw6=>zc p0 λa15=>ldI w6 (a15.add 10) .i64 λx16=>zc p0 λa17=>Wr w6 (a17.add 10)/\Nw (w6.setCell (a17.add 10) (zi (IntKind.i64.wrap (x16+(x4.l:Int))))) λw7=>R (zi 0) w7))
theorem zeP(p0)(p1)(R)(w)(h:zc6 p0 p1 R w):Calls Tryz.prog 196 #[.pointer p0,.string p1] w (Ret R):=lwC zcE Tryz.func196 (by kernel_rfl) (by kernel_rfl) h
def zik:Ann:=(.q (.seq none (.q (.q (.cond (.q .nil) .nil))) (.q .nil)))
def zhX(p0:Int)(p1:Int)(R:VWP)(w:World):Prop:=dA 209 #[zb p0,zu p1] w λx2 x3 w1=>ifB (!x3) (R (zi 31) w1) (R (zi 0) w1)
theorem zjh(p0)(p1)(R)(w)(h:zhX p0 p1 R w):Calls Tryz.prog 197 #[.int .u8 p0,.int .u32 p1] w (Ret R):=lwC zik Tryz.func197 (by kernel_rfl) (by kernel_rfl) h
def zca:Ann:=(.q (.q .nil))
def zbD(p0:ByteArray)(p1:Int)(R:VWP)(w:World):Prop:=dl 212 #[.string p0,zb p1] w λx2 w1=>R (zi x2) w1
theorem zeB(p0)(p1)(R)(w)(h:zbD p0 p1 R w):Calls Tryz.prog 206 #[.string p0,.int .u8 p1] w (Ret R):=lwC zca Tryz.func206 (by kernel_rfl) (by kernel_rfl) h
def zfU:Ann:=(.q (.seq none (.q (.one (.loop ⟨[0,8],[(9,(.b (.int .i64)))]⟩ (.q (.seq none .c (.seq none (.one (.q (.q (.cond (.q .nil) .nil)))) .nil)))))) (.seq none (.q (.cond (.q .nil) .nil)) (.q (.seq none (.q (.one (.loop ⟨[0,5,24],[(25,(.b (.int .i64)))]⟩ (.q (.seq none .c (.seq none (.one (.q .nil)) .nil)))))) (.q .nil))))))
def zfK(p0:ByteArray)(R:VWP)(w:World):Prop:=zl (S:=Int×Unit) (λs1 w1 n2=>ifB (decide (s1.1<(p0.size:Int))) ((0<=s1.1/\s1.1<(p0.size:Int))/\ifB ((zd3 p0 s1.1)==0) (R (.tuple #[.slice none 0 0,zi 13]) w1) (n2 ((IntKind.i64.wrap (s1.1+(1:Int))),()) w1)) (dl 208 #[.string p0] w1 λx4 w2=>ifB (decide (x4>(65535:Int))) (R (.tuple #[.slice none 0 0,zi 4]) w2) (dl 208 #[.string p0] w2 λx6 w3=>(0<=x6/\x6<=x6/\4*x6<=281474976710656/\x6<=9223372036854775807)/\Nw (w3.alloc (.cells (madeCells #[zu 0] (x6.toNat *1)) 22)) λw4=>zl (S:=Int×Unit) (λs7 w5 n8=>ifB (decide (s7.1<(p0.size:Int))) ((0<=(IntKind.i64.wrap (Int.tdiv s7.1 4))/\(IntKind.i64.wrap (Int.tdiv s7.1 4))<(x6.toNat:Int))/\ldI w5.drew ((zB w3).add (Int.toNat (IntKind.i64.wrap (Int.tdiv s7.1 4)))) .u32 λx9=>(0<=s7.1/\s7.1<(p0.size:Int))/\ifB (decide ((IntKind.i64.wrap (8*(Int.tmod s7.1 4)))<0)) (False) ((0<=(IntKind.i64.wrap (Int.tdiv s7.1 4))/\(IntKind.i64.wrap (Int.tdiv s7.1 4))<(x6.toNat:Int))/\Wr w5.drew ((zB w3).add (Int.toNat (IntKind.i64.wrap (Int.tdiv s7.1 4))))/\Nw (w5.drew.setCell ((zB w3).add (Int.toNat (IntKind.i64.wrap (Int.tdiv s7.1 4)))) (zu (IntKind.u32.wrap (BitVec.toNat (BitVec.ofInt (IntKind.bits .u32) x9 ||| BitVec.ofInt (IntKind.bits .u32) (IntKind.u32.wrap ((IntKind.u32.wrap (zd3 p0 s7.1))*2 ^ (min (Int.toNat (IntKind.i64.wrap (8*(Int.tmod s7.1 4)))) (IntKind.bits .u32))))):Int)))) λw6=>n8 ((IntKind.i64.wrap (s7.1+(1:Int))),()) w6)) (R (.tuple #[.slice (some (zB w3)) x6.toNat x6.toNat,zi 0]) w5)) (0,()) w4))) (0,()) w
theorem zhT(p0)(R)(w)(h:zfK p0 R w):Calls Tryz.prog 207 #[.string p0] w (Ret R):=lwC zfU Tryz.func207 (by kernel_rfl) (by kernel_rfl) h
def ziv:Ann:=(.q (.q .nil))
def zih(p0:ByteArray)(R:VWP)(w:World):Prop:=R (zi (IntKind.i64.wrap ((IntKind.i64.wrap (Int.tdiv (p0.size:Int) 4))+1))) w
theorem zj8(p0)(R)(w)(h:zih p0 R w):Calls Tryz.prog 208 #[.string p0] w (Ret R):=lwC ziv Tryz.func208 (by kernel_rfl) (by kernel_rfl) h
def yS:Ann:=(.q (.q .nil))
def yQ(p0:ByteArray)(p1:Int)(R:VWP)(w:World):Prop:=extR Tryz.prog 214 #[.string p0,zb p1] w λv1 w1=>∃x2:Int,v1=(zi x2)/\R (zi x2) w1
theorem ZV(p0)(p1)(R)(w)(h:yQ p0 p1 R w):Calls Tryz.prog 212 #[.string p0,.int .u8 p1] w (Ret R):=lwC yS Tryz.func212 (by kernel_rfl) (by kernel_rfl) h
end Go.Proofs
namespace Go.Proofs
open Go.Gk
set_option linter.unusedVariables false
set_option maxRecDepth 100000
end Go.Proofs
namespace Go.Proofs
open Go.Gk
set_option linter.unusedVariables false
set_option maxRecDepth 100000
def zir:Ann:=(.q (.q (.seq none (.q (.cond (.q .nil) .nil)) (.q (.q (.seq none (.q (.one (.loop ⟨[2,5,6,30],[]⟩ (.q (.seq none .c (.one (.q (.seq (some ⟨[2,5,6,8,30],[]⟩) .nil .nil)))))))) (.seq (some ⟨[2,6],[]⟩) (.q .c) (.q .nil))))))))
def zid(p0:Int)(R:VWP)(w:World):Prop:=Nw (w.alloc (.cells #[zh 0,.string (BM #[]),.bool false,.bool false,.string (BM #[]),.string (BM #[]),zi 0,zb 0] 274)) λw1=>dC 190 #[zh p0] w1 λx2 w2=>ifB (x2.toList==(BM #[]).toList) (du w2 (zB w) (zh 0) (.string (BM #[])) (.bool false) (.bool false) (.string (BM #[])) (.string (BM #[])) (zi 0) (zb 0) λw10=>dt w10 (zB w) λx3 x4 x5 x6 x7 x8 x9 x10=>R (.tuple #[.agg #[zh x3,.string x4,.bool x5,.bool x6,.string x7,.string x8,zi x9,zb x10],.bool false]) w10) (dD 191 #[.string x2] w2 λx12 w11=>Nw (w11.alloc (.cells #[.string (BM #[]),.string (BM #[]),.string (BM #[]),.string (BM #[]),.string (BM #[]),.string (BM #[])] 291)) λw12=>dB w12 (zB w11) (.string x12.1) (.string x12.2.1) (.string x12.2.2.1) (.string x12.2.2.2.1) (.string x12.2.2.2.2.1) (.string x12.2.2.2.2.2.1) λw18=>(0<=(0:Int)/\(0:Int)<6)/\zs w18.drew ((zB w11).add 0) λx13=>(0<=(2:Int)/\(2:Int)<6)/\zs w18.drew ((zB w11).add 2) λx14=>(0<=(3:Int)/\(3:Int)<6)/\zs w18.drew ((zB w11).add 3) λx15=>(0<=(5:Int)/\(5:Int)<6)/\zs w18.drew ((zB w11).add 5) λx16=>(0<=(0:Int)/\0<(x16.size:Int))/\Nw (w18.drew.alloc (.cells #[zh 0,.string (BM #[]),.bool false,.bool false,.string (BM #[]),.string (BM #[]),zi 0,zb 0] 274)) λw19=>w19.cell? ((zB w11).add 5)=some (.string x16)/\w19.cell? ((zB w11).add 3)=some (.string x15)/\w19.cell? ((zB w11).add 2)=some (.string x14)/\w19.cell? ((zB w11).add 0)=some (.string x13)/\du w19 (blk w18.drew.heap.size) (zh p0) (.string x13) (.bool false) (.bool false) (.string x14) (.string x15) (zi 0) (zb (IntKind.u8.wrap ((zd3 x16 0)-48))) λw27=>(0<=(1:Int)/\(1:Int)<6)/\zs w27 ((zB w11).add 1) λx17=>Nw (w27.alloc (.stringIter x17 0)) λw28=>zl (S:=Unit) (λs18 w29 n19=>zpa w27.heap.size w29 (λi20 c21 w30=>zo (S:=Unit) (λm22=>ldB w30 ((blk w18.drew.heap.size).add 2) λx24=>ifB x24 (Wr w30 ((blk w18.drew.heap.size).add 2)/\Nw (w30.setCell ((blk w18.drew.heap.size).add 2) (.bool true)) λw31=>m22 () w31) (Wr w30 ((blk w18.drew.heap.size).add 2)/\Nw (w30.setCell ((blk w18.drew.heap.size).add 2) (.bool (c21==84))) λw32=>m22 () w32)) (λs23 w33=>ldB w33 ((blk w18.drew.heap.size).add 3) λx25=>ifB x25 (Wr w33 ((blk w18.drew.heap.size).add 3)/\Nw (w33.setCell ((blk w18.drew.heap.size).add 3) (.bool true)) λw34=>n19 () w34) (Wr w33 ((blk w18.drew.heap.size).add 3)/\Nw (w33.setCell ((blk w18.drew.heap.size).add 3) (.bool (c21==82))) λw35=>n19 () w35))) (zo (S:=Unit) (λm26=>(0<=(4:Int)/\(4:Int)<6)/\zs w29 ((zB w11).add 4) λx28=>ifB (!(x28.toList==(BM #[]).toList)) ((0<=(4:Int)/\(4:Int)<6)/\zs w29 ((zB w11).add 4) λx29=>(0<=(0:Int)/\0<(x29.size:Int))/\Wr w29 ((blk w18.drew.heap.size).add 6)/\Nw (w29.setCell ((blk w18.drew.heap.size).add 6) (zi (IntKind.i64.wrap (IntKind.u8.wrap ((zd3 x29 0)-48))))) λw36=>m26 () w36) (m26 () w29)) (λs27 w37=>dt w37 (blk w18.drew.heap.size) λx30 x31 x32 x33 x34 x35 x36 x37=>du w37 (zB w) (zh x30) (.string x31) (.bool x32) (.bool x33) (.string x34) (.string x35) (zi x36) (zb x37) λw45=>dt w45 (zB w) λx38 x39 x40 x41 x42 x43 x44 x45=>R (.tuple #[.agg #[zh x38,.string x39,.bool x40,.bool x41,.string x42,.string x43,zi x44,zb x45],.bool true]) w45))) () w28)
theorem zjv(p0)(R)(w)(h:zid p0 R w):Calls Tryz.prog 179 #[.int .u16 p0] w (Ret R):=lwC zir Tryz.func179 (by kernel_rfl) (by kernel_rfl) h
def zhj:Ann:=(.q (.seq none (.one (.q (.cond (.q .nil) (.q (.cond (.q .nil) .nil))))) (.q .nil)))
def zha(p0:Int)(R:VWP)(w:World):Prop:=ifB (decide (p0<=(71:Int))) (dC 201 #[zh p0] w λx2 w1=>R (.string x2) w1) (ifB (decide (p0<=(171:Int))) (dC 202 #[zh p0] w λx4 w2=>R (.string x4) w2) (dC 203 #[zh p0] w λx6 w3=>R (.string x6) w3))
theorem ziA(p0)(R)(w)(h:zha p0 R w):Calls Tryz.prog 190 #[.int .u16 p0] w (Ret R):=lwC zhj Tryz.func190 (by kernel_rfl) (by kernel_rfl) h
def zed:Ann:=(.q (.q (.q (.seq none (.q (.one (.loop ⟨[2,3,8],[(4,(.b (.int .i64)))]⟩ (.q (.seq none .c (.one (.q (.q .c)))))))) (.q .nil)))))
def zdV(p0:ByteArray)(R:VWP)(w:World):Prop:=Nw (w.alloc (.cells #[.string (BM #[]),.string (BM #[]),.string (BM #[]),.string (BM #[]),.string (BM #[]),.string (BM #[])] 291)) λw1=>Nw (w1.alloc (.cells #[.string (BM #[]),.string (BM #[]),.string (BM #[]),.string (BM #[]),.string (BM #[]),.string (BM #[])] 291)) λw2=>Nw (w2.alloc (.stringIter p0 0)) λw3=>zl (S:=Int×Unit) (λs1 w4 n2=>zpa w2.heap.size w4 (λi3 c4 w5=>ifB (c4==32) (n2 ((IntKind.i64.wrap (s1.1+(1:Int))),()) w5) ((0<=s1.1/\s1.1<(6:Int))/\zs w5 ((zB w1).add s1.1.toNat) λx5=>zcz x5 (Utf8.encode c4)/\(0<=s1.1/\s1.1<(6:Int))/\Wr w5 ((zB w1).add s1.1.toNat)/\Nw (w5.setCell ((zB w1).add s1.1.toNat) (.string (x5++(Utf8.encode c4)))) λw6=>n2 (s1.1,()) w6)) (dE w4 (zB w1) λx6 x7 x8 x9 x10 x11=>dB w4 (zB w) (.string x6) (.string x7) (.string x8) (.string x9) (.string x10) (.string x11) λw12=>dE w12 (zB w) λx12 x13 x14 x15 x16 x17=>R (.agg #[.string x12,.string x13,.string x14,.string x15,.string x16,.string x17]) w12)) (0,()) w3
theorem zgg(p0)(R)(w)(h:zdV p0 R w):Calls Tryz.prog 191 #[.string p0] w (Ret R):=lwC zed Tryz.func191 (by kernel_rfl) (by kernel_rfl) h
def zec:Ann:=(.q (.q (.q .nil)))
def zdU(p0:Int)(p1:Int)(R:VWP)(w:World):Prop:=dv 179 #[zh p0] w λx2 x3 w1=>Nw (w1.alloc (.cells #[zh 0,.string (BM #[]),.bool false,.bool false,.string (BM #[]),.string (BM #[]),zi 0,zb 0] 274)) λw2=>du w2 (zB w1) (zh x2.1) (.string x2.2.1) (.bool x2.2.2.1) (.bool x2.2.2.2.1) (.string x2.2.2.2.2.1) (.string x2.2.2.2.2.2.1) (zi x2.2.2.2.2.2.2.1) (zb x2.2.2.2.2.2.2.2.1) λw10=>dt w10 (zB w1) λx4 x5 x6 x7 x8 x9 x10 x11=>dw 204 #[.agg #[zh x4,.string x5,.bool x6,.bool x7,.string x8,.string x9,zi x10,zb x11],zi p1] w10 λx13 w11=>R (zb x13) w11
theorem zgf(p0)(p1)(R)(w)(h:zdU p0 p1 R w):Calls Tryz.prog 194 #[.int .u16 p0,.int .i64 p1] w (Ret R):=lwC zec Tryz.func194 (by kernel_rfl) (by kernel_rfl) h
def zfS:Ann:=(.q (.seq none (.q (.one (.q (.cond (.q .nil) (.q (.cond (.q .nil) (.q (.cond (.q .nil) .nil)))))))) (.seq none (.q (.cond (.q .nil) .nil)) (.q .nil))))
def zfI(p0:Int)(R:VWP)(w:World):Prop:=ifB (p0==105) (R (zb 1) w) (ifB (p0==110) (R (zb 2) w) (ifB (p0==115) (R (zb 3) w) (dC 205 #[zb p0] w λx2 w1=>ifB (!(x2.toList==(BM #[]).toList)) (R (zb 4) w1) (R (zb 0) w1))))
theorem zhD(p0)(R)(w)(h:zfI p0 R w):Calls Tryz.prog 195 #[.int .u8 p0] w (Ret R):=lwC zfS Tryz.func195 (by kernel_rfl) (by kernel_rfl) h
def zfR:Ann:=(.q (.q (.seq none (.q (.cond (.q .nil) .nil)) (.q (.seq none (.q (.one (.loop ⟨[1,8,21,22],[(23,(.b (.int .i64)))]⟩ (.q (.seq none .c (.seq (some ⟨[1,8,21,22,23],[]⟩) (.one (.q (.q (.cond (.q .nil) .nil)))) .nil)))))) (.q (.seq none (.q (.cond (.q .nil) .nil)) (.q .nil))))))))
def zfH(p0:Int)(p1:Sl)(R:VWP)(w:World):Prop:=dv 179 #[zh p0] w λx2 x3 w1=>Nw (w1.alloc (.cells #[zh 0,.string (BM #[]),.bool false,.bool false,.string (BM #[]),.string (BM #[]),zi 0,zb 0] 274)) λw2=>du w2 (zB w1) (zh x2.1) (.string x2.2.1) (.bool x2.2.2.1) (.bool x2.2.2.2.1) (.string x2.2.2.2.2.1) (.string x2.2.2.2.2.2.1) (zi x2.2.2.2.2.2.2.1) (zb x2.2.2.2.2.2.2.2.1) λw10=>ifB (!x3) (R (.tuple #[zi 0,.bool false]) w10) (dt w10 (zB w1) λx4 x5 x6 x7 x8 x9 x10 x11=>Nw (w10.alloc (.cells #[zh 0,.string (BM #[]),.bool false,.bool false,.string (BM #[]),.string (BM #[]),zi 0,zb 0] 301)) λw11=>du w11 (zB w10) (zh x4) (.string x5) (.bool x6) (.bool x7) (.string x8) (.string x9) (zi x10) (zb x11) λw19=>zl (S:=Int×Unit) (λs12 w20 n13=>ifB (decide (s12.1<(p1.l:Int))) (zo (S:=Unit) (λm14=>(0<=s12.1/\s12.1<(p1.l:Int))/\zc p1.a λa16=>ldI w20 (a16.add s12.1.toNat) .u8 λx17=>ifB (x17==0) (R (.tuple #[zi s12.1,.bool false]) w20) (dt w20 (zB w10) λx18 x19 x20 x21 x22 x23 x24 x25=>dw 204 #[.agg #[zh x18,.string x19,.bool x20,.bool x21,.string x22,.string x23,zi x24,zb x25],zi s12.1] w20 λx27 w21=>dw 195 #[zb x27] w21 λx29 w22=>ifB (x29 !=x17) (R (.tuple #[zi s12.1,.bool false]) w22) (m14 () w22))) (λs15 w23=>n13 ((IntKind.i64.wrap (s12.1+(1:Int))),()) w23)) (zs w20 ((zB w10).add 4) λx30=>ifB (decide ((IntKind.i64.wrap ((p1.l:Int)-(x30.size:Int)))<0)) (R (.tuple #[zi (p1.l:Int),.bool false]) w20) (zs w20 ((zB w10).add 5) λx31=>ifB (!(x31.toList==(BM #[]).toList)) (zs w20 ((zB w10).add 5) λx32=>ifB (decide ((x32.size:Int)=0)) (False) (ifB ((Int.tmod (IntKind.i64.wrap ((p1.l:Int)-(x30.size:Int))) (x32.size:Int)) !=0) (R (.tuple #[zi (p1.l:Int),.bool false]) w20) (R (.tuple #[zi 0,.bool true]) w20))) (R (.tuple #[zi 0,.bool true]) w20)))) (0,()) w19)
theorem zhC(p0)(p1)(R)(w)(h:zfH p0 p1 R w):Calls Tryz.prog 198 #[.int .u16 p0,.slice p1.a p1.l p1.c] w (Ret R):=lwC zfR Tryz.func198 (by kernel_rfl) (by kernel_rfl) h
def zfv:Ann:=(.q (.seq none (.q (.one (.q (.cond (.q .nil) (.q (.cond (.q .nil) (.q (.cond (.q .nil) (.q (.cond (.q .nil) (.q (.cond (.q .nil) (.q (.cond (.q .nil) (.q (.cond (.q .nil) (.q (.cond (.q .nil) (.q (.cond (.q .nil) (.q (.cond (.q .nil) (.q (.cond (.q .nil) (.q (.cond (.q .nil) (.q (.cond (.q .nil) (.q (.cond (.q .nil) (.q (.cond (.q .nil) (.q (.cond (.q .nil) (.q (.cond (.q .nil) (.q (.cond (.q .nil) (.q (.cond (.q .nil) (.q (.cond (.q .nil) (.q (.cond (.q .nil) (.q (.cond (.q .nil) (.q (.cond (.q .nil) (.q (.cond (.q .nil) (.q (.cond (.q .nil) (.q (.cond (.q .nil) (.q (.cond (.q .nil) (.q (.cond (.q .nil) (.q (.cond (.q .nil) (.q (.cond (.q .nil) (.q (.cond (.q .nil) .nil)))))))))))))))))))))))))))))))))))))))))))))))))))))))))))))))) (.q .nil)))
def zbr(p0:Int)(R:VWP)(w:World):Prop:=ifB (p0==1) (R (.string (BM #[79,112,85,110,100,101,102,32,84,82,32,32,32,32,55])) w) (ifB (p0==3) (R (.string (BM #[79,112,83,111,117,114,99,101,32,32,108,110,32,32,32,52])) w) (ifB (p0==5) (R (.string (BM #[79,112,78,97,109,101,32,32,105,115,32,32,32,53])) w) (ifB (p0==6) (R (.string (BM #[79,112,77,101,109,98,101,114,78,97,109,101,32,32,105,110,115,32,32,32,53])) w) (ifB (p0==7) (R (.string (BM #[79,112,83,116,114,105,110,103,32,82,32,115,32,32,32,52])) w) (ifB (p0==14) (R (.string (BM #[79,112,77,101,109,111,114,121,77,111,100,101,108,32,32,97,109,32,32,32,49])) w) (ifB (p0==15) (R (.string (BM #[79,112,69,110,116,114,121,80,111,105,110,116,32,32,101,105,115,32,105,32,32,50])) w) (ifB (p0==16) (R (.string (BM #[79,112,69,120,101,99,117,116,105,111,110,77,111,100,101,32,32,105,120,32,32,32,51])) w) (ifB (p0==17) (R (.string (BM #[79,112,67,97,112,97,98,105,108,105,116,121,32,32,107,32,32,32,48])) w) (ifB (p0==19) (R (.string (BM #[79,112,84,121,112,101,86,111,105,100,32,82,32,32,32,32,55])) w) (ifB (p0==20) (R (.string (BM #[79,112,84,121,112,101,66,111,111,108,32,82,32,32,32,32,55])) w) (ifB (p0==21) (R (.string (BM #[79,112,84,121,112,101,73,110,116,32,82,32,110,110,32,32,32,55])) w) (ifB (p0==23) (R (.string (BM #[79,112,84,121,112,101,86,101,99,116,111,114,32,82,32,105,110,32,32,32,55])) w) (ifB (p0==28) (R (.string (BM #[79,112,84,121,112,101,65,114,114,97,121,32,82,32,105,105,32,32,32,55])) w) (ifB (p0==30) (R (.string (BM #[79,112,84,121,112,101,83,116,114,117,99,116,32,82,32,32,105,32,32,55])) w) (ifB (p0==32) (R (.string (BM #[79,112,84,121,112,101,80,111,105,110,116,101,114,32,82,32,99,105,32,32,32,55])) w) (ifB (p0==33) (R (.string (BM #[79,112,84,121,112,101,70,117,110,99,116,105,111,110,32,82,32,105,32,105,32,32,55])) w) (ifB (p0==41) (R (.string (BM #[79,112,67,111,110,115,116,97,110,116,84,114,117,101,32,84,82,32,32,32,32,55])) w) (ifB (p0==42) (R (.string (BM #[79,112,67,111,110,115,116,97,110,116,70,97,108,115,101,32,84,82,32,32,32,32,55])) w) (ifB (p0==43) (R (.string (BM #[79,112,67,111,110,115,116,97,110,116,32,84,82,32,110,32,32,32,55])) w) (ifB (p0==44) (R (.string (BM #[79,112,67,111,110,115,116,97,110,116,67,111,109,112,111,115,105,116,101,32,84,82,32,32,105,32,32,55])) w) (ifB (p0==46) (R (.string (BM #[79,112,67,111,110,115,116,97,110,116,78,117,108,108,32,84,82,32,32,32,32,55])) w) (ifB (p0==54) (R (.string (BM #[79,112,70,117,110,99,116,105,111,110,32,84,82,32,102,105,32,32,32,56])) w) (ifB (p0==55) (R (.string (BM #[79,112,70,117,110,99,116,105,111,110,80,97,114,97,109,101,116,101,114,32,84,82,32,32,32,32,56])) w) (ifB (p0==56) (R (.string (BM #[79,112,70,117,110,99,116,105,111,110,69,110,100,32,32,32,32,32,56])) w) (ifB (p0==57) (R (.string (BM #[79,112,70,117,110,99,116,105,111,110,67,97,108,108,32,84,82,32,105,32,105,32,32,56])) w) (ifB (p0==59) (R (.string (BM #[79,112,86,97,114,105,97,98,108,101,32,84,82,32,99,32,105,32,49,32,55])) w) (ifB (p0==61) (R (.string (BM #[79,112,76,111,97,100,32,84,82,32,105,32,32,32,56])) w) (ifB (p0==62) (R (.string (BM #[79,112,83,116,111,114,101,32,32,105,105,32,32,32,56])) w) (ifB (p0==65) (R (.string (BM #[79,112,65,99,99,101,115,115,67,104,97,105,110,32,84,82,32,105,32,105,32,32,56])) w) (ifB (p0==71) (R (.string (BM #[79,112,68,101,99,111,114,97,116,101,32,32,105,100,32,110,32,32,54])) w) (R (.string (BM #[])) w)))))))))))))))))))))))))))))))
theorem zgV(p0)(R)(w)(h:zbr p0 R w):Calls Tryz.prog 201 #[.int .u16 p0] w (Ret R):=lwC zfv Tryz.func201 (by kernel_rfl) (by kernel_rfl) h
def zef:Ann:=(.q (.seq none (.q (.one (.q (.cond (.q .nil) (.q (.cond (.q .nil) (.q (.cond (.q .nil) (.q (.cond (.q .nil) (.q (.cond (.q .nil) (.q (.cond (.q .nil) (.q (.cond (.q .nil) (.q (.cond (.q .nil) (.q (.cond (.q .nil) (.q (.cond (.q .nil) (.q (.cond (.q .nil) (.q (.cond (.q .nil) (.q (.cond (.q .nil) (.q (.cond (.q .nil) (.q (.cond (.q .nil) (.q (.cond (.q .nil) (.q (.cond (.q .nil) (.q (.cond (.q .nil) (.q (.cond (.q .nil) (.q (.cond (.q .nil) (.q (.cond (.q .nil) (.q (.cond (.q .nil) (.q (.cond (.q .nil) (.q (.cond (.q .nil) (.q (.cond (.q .nil) (.q (.cond (.q .nil) (.q (.cond (.q .nil) (.q (.cond (.q .nil) (.q (.cond (.q .nil) (.q (.cond (.q .nil) (.q (.cond (.q .nil) .nil)))))))))))))))))))))))))))))))))))))))))))))))))))))))))))))))) (.q .nil)))
def zay(p0:Int)(R:VWP)(w:World):Prop:=ifB (p0==77) (R (.string (BM #[79,112,86,101,99,116,111,114,69,120,116,114,97,99,116,68,121,110,97,109,105,99,32,84,82,32,105,105,32,32,32,56])) w) (ifB (p0==78) (R (.string (BM #[79,112,86,101,99,116,111,114,73,110,115,101,114,116,68,121,110,97,109,105,99,32,84,82,32,105,105,105,32,32,32,56])) w) (ifB (p0==79) (R (.string (BM #[79,112,86,101,99,116,111,114,83,104,117,102,102,108,101,32,84,82,32,105,105,32,110,32,32,56])) w) (ifB (p0==80) (R (.string (BM #[79,112,67,111,109,112,111,115,105,116,101,67,111,110,115,116,114,117,99,116,32,84,82,32,32,105,32,32,56])) w) (ifB (p0==81) (R (.string (BM #[79,112,67,111,109,112,111,115,105,116,101,69,120,116,114,97,99,116,32,84,82,32,105,32,110,32,32,56])) w) (ifB (p0==82) (R (.string (BM #[79,112,67,111,109,112,111,115,105,116,101,73,110,115,101,114,116,32,84,82,32,105,105,32,110,32,32,56])) w) (ifB (p0==83) (R (.string (BM #[79,112,67,111,112,121,79,98,106,101,99,116,32,84,82,32,105,32,32,32,56])) w) (ifB (p0==124) (R (.string (BM #[79,112,66,105,116,99,97,115,116,32,84,82,32,105,32,32,32,56])) w) (ifB (p0==126) (R (.string (BM #[79,112,83,78,101,103,97,116,101,32,84,82,32,105,32,32,32,56])) w) (ifB (p0==128) (R (.string (BM #[79,112,73,65,100,100,32,84,82,32,105,105,32,32,32,56])) w) (ifB (p0==130) (R (.string (BM #[79,112,73,83,117,98,32,84,82,32,105,105,32,32,32,56])) w) (ifB (p0==132) (R (.string (BM #[79,112,73,77,117,108,32,84,82,32,105,105,32,32,32,56])) w) (ifB (p0==134) (R (.string (BM #[79,112,85,68,105,118,32,84,82,32,105,105,32,32,32,56])) w) (ifB (p0==135) (R (.string (BM #[79,112,83,68,105,118,32,84,82,32,105,105,32,32,32,56])) w) (ifB (p0==137) (R (.string (BM #[79,112,85,77,111,100,32,84,82,32,105,105,32,32,32,56])) w) (ifB (p0==138) (R (.string (BM #[79,112,83,82,101,109,32,84,82,32,105,105,32,32,32,56])) w) (ifB (p0==139) (R (.string (BM #[79,112,83,77,111,100,32,84,82,32,105,105,32,32,32,56])) w) (ifB (p0==149) (R (.string (BM #[79,112,73,65,100,100,67,97,114,114,121,32,84,82,32,105,105,32,32,32,56])) w) (ifB (p0==150) (R (.string (BM #[79,112,73,83,117,98,66,111,114,114,111,119,32,84,82,32,105,105,32,32,32,56])) w) (ifB (p0==151) (R (.string (BM #[79,112,85,77,117,108,69,120,116,101,110,100,101,100,32,84,82,32,105,105,32,32,32,56])) w) (ifB (p0==152) (R (.string (BM #[79,112,83,77,117,108,69,120,116,101,110,100,101,100,32,84,82,32,105,105,32,32,32,56])) w) (ifB (p0==154) (R (.string (BM #[79,112,65,110,121,32,84,82,32,105,32,32,32,56])) w) (ifB (p0==155) (R (.string (BM #[79,112,65,108,108,32,84,82,32,105,32,32,32,56])) w) (ifB (p0==164) (R (.string (BM #[79,112,76,111,103,105,99,97,108,69,113,117,97,108,32,84,82,32,105,105,32,32,32,56])) w) (ifB (p0==165) (R (.string (BM #[79,112,76,111,103,105,99,97,108,78,111,116,69,113,117,97,108,32,84,82,32,105,105,32,32,32,56])) w) (ifB (p0==166) (R (.string (BM #[79,112,76,111,103,105,99,97,108,79,114,32,84,82,32,105,105,32,32,32,56])) w) (ifB (p0==167) (R (.string (BM #[79,112,76,111,103,105,99,97,108,65,110,100,32,84,82,32,105,105,32,32,32,56])) w) (ifB (p0==168) (R (.string (BM #[79,112,76,111,103,105,99,97,108,78,111,116,32,84,82,32,105,32,32,32,56])) w) (ifB (p0==169) (R (.string (BM #[79,112,83,101,108,101,99,116,32,84,82,32,105,105,105,32,32,32,56])) w) (ifB (p0==170) (R (.string (BM #[79,112,73,69,113,117,97,108,32,84,82,32,105,105,32,32,32,56])) w) (ifB (p0==171) (R (.string (BM #[79,112,73,78,111,116,69,113,117,97,108,32,84,82,32,105,105,32,32,32,56])) w) (R (.string (BM #[])) w)))))))))))))))))))))))))))))))
theorem zgi(p0)(R)(w)(h:zay p0 R w):Calls Tryz.prog 202 #[.int .u16 p0] w (Ret R):=lwC zef Tryz.func202 (by kernel_rfl) (by kernel_rfl) h
def zfx:Ann:=(.q (.seq none (.q (.one (.q (.cond (.q .nil) (.q (.cond (.q .nil) (.q (.cond (.q .nil) (.q (.cond (.q .nil) (.q (.cond (.q .nil) (.q (.cond (.q .nil) (.q (.cond (.q .nil) (.q (.cond (.q .nil) (.q (.cond (.q .nil) (.q (.cond (.q .nil) (.q (.cond (.q .nil) (.q (.cond (.q .nil) (.q (.cond (.q .nil) (.q (.cond (.q .nil) (.q (.cond (.q .nil) (.q (.cond (.q .nil) (.q (.cond (.q .nil) (.q (.cond (.q .nil) (.q (.cond (.q .nil) (.q (.cond (.q .nil) (.q (.cond (.q .nil) (.q (.cond (.q .nil) (.q (.cond (.q .nil) (.q (.cond (.q .nil) (.q (.cond (.q .nil) (.q (.cond (.q .nil) (.q (.cond (.q .nil) (.q (.cond (.q .nil) (.q (.cond (.q .nil) (.q (.cond (.q .nil) (.q (.cond (.q .nil) .nil)))))))))))))))))))))))))))))))))))))))))))))))))))))))))))))))) (.q .nil)))
def zbt(p0:Int)(R:VWP)(w:World):Prop:=ifB (p0==172) (R (.string (BM #[79,112,85,71,114,101,97,116,101,114,84,104,97,110,32,84,82,32,105,105,32,32,32,56])) w) (ifB (p0==173) (R (.string (BM #[79,112,83,71,114,101,97,116,101,114,84,104,97,110,32,84,82,32,105,105,32,32,32,56])) w) (ifB (p0==174) (R (.string (BM #[79,112,85,71,114,101,97,116,101,114,84,104,97,110,69,113,117,97,108,32,84,82,32,105,105,32,32,32,56])) w) (ifB (p0==175) (R (.string (BM #[79,112,83,71,114,101,97,116,101,114,84,104,97,110,69,113,117,97,108,32,84,82,32,105,105,32,32,32,56])) w) (ifB (p0==176) (R (.string (BM #[79,112,85,76,101,115,115,84,104,97,110,32,84,82,32,105,105,32,32,32,56])) w) (ifB (p0==177) (R (.string (BM #[79,112,83,76,101,115,115,84,104,97,110,32,84,82,32,105,105,32,32,32,56])) w) (ifB (p0==178) (R (.string (BM #[79,112,85,76,101,115,115,84,104,97,110,69,113,117,97,108,32,84,82,32,105,105,32,32,32,56])) w) (ifB (p0==179) (R (.string (BM #[79,112,83,76,101,115,115,84,104,97,110,69,113,117,97,108,32,84,82,32,105,105,32,32,32,56])) w) (ifB (p0==194) (R (.string (BM #[79,112,83,104,105,102,116,82,105,103,104,116,76,111,103,105,99,97,108,32,84,82,32,105,105,32,32,32,56])) w) (ifB (p0==195) (R (.string (BM #[79,112,83,104,105,102,116,82,105,103,104,116,65,114,105,116,104,109,101,116,105,99,32,84,82,32,105,105,32,32,32,56])) w) (ifB (p0==196) (R (.string (BM #[79,112,83,104,105,102,116,76,101,102,116,76,111,103,105,99,97,108,32,84,82,32,105,105,32,32,32,56])) w) (ifB (p0==197) (R (.string (BM #[79,112,66,105,116,119,105,115,101,79,114,32,84,82,32,105,105,32,32,32,56])) w) (ifB (p0==198) (R (.string (BM #[79,112,66,105,116,119,105,115,101,88,111,114,32,84,82,32,105,105,32,32,32,56])) w) (ifB (p0==199) (R (.string (BM #[79,112,66,105,116,119,105,115,101,65,110,100,32,84,82,32,105,105,32,32,32,56])) w) (ifB (p0==200) (R (.string (BM #[79,112,78,111,116,32,84,82,32,105,32,32,32,56])) w) (ifB (p0==201) (R (.string (BM #[79,112,66,105,116,70,105,101,108,100,73,110,115,101,114,116,32,84,82,32,105,105,105,105,32,32,32,56])) w) (ifB (p0==202) (R (.string (BM #[79,112,66,105,116,70,105,101,108,100,83,69,120,116,114,97,99,116,32,84,82,32,105,105,105,32,32,32,56])) w) (ifB (p0==203) (R (.string (BM #[79,112,66,105,116,70,105,101,108,100,85,69,120,116,114,97,99,116,32,84,82,32,105,105,105,32,32,32,56])) w) (ifB (p0==204) (R (.string (BM #[79,112,66,105,116,82,101,118,101,114,115,101,32,84,82,32,105,32,32,32,56])) w) (ifB (p0==205) (R (.string (BM #[79,112,66,105,116,67,111,117,110,116,32,84,82,32,105,32,32,32,56])) w) (ifB (p0==245) (R (.string (BM #[79,112,80,104,105,32,84,82,32,32,105,105,32,32,56])) w) (ifB (p0==246) (R (.string (BM #[79,112,76,111,111,112,77,101,114,103,101,32,32,105,105,103,32,32,32,56])) w) (ifB (p0==247) (R (.string (BM #[79,112,83,101,108,101,99,116,105,111,110,77,101,114,103,101,32,32,105,104,32,32,32,56])) w) (ifB (p0==248) (R (.string (BM #[79,112,76,97,98,101,108,32,82,32,32,32,32,56])) w) (ifB (p0==249) (R (.string (BM #[79,112,66,114,97,110,99,104,32,32,105,32,32,32,56])) w) (ifB (p0==250) (R (.string (BM #[79,112,66,114,97,110,99,104,67,111,110,100,105,116,105,111,110,97,108,32,32,105,105,105,32,32,32,56])) w) (ifB (p0==251) (R (.string (BM #[79,112,83,119,105,116,99,104,32,32,105,105,32,110,105,32,32,56])) w) (ifB (p0==252) (R (.string (BM #[79,112,75,105,108,108,32,32,32,32,32,56])) w) (ifB (p0==253) (R (.string (BM #[79,112,82,101,116,117,114,110,32,32,32,32,32,56])) w) (ifB (p0==254) (R (.string (BM #[79,112,82,101,116,117,114,110,86,97,108,117,101,32,32,105,32,32,32,56])) w) (ifB (p0==255) (R (.string (BM #[79,112,85,110,114,101,97,99,104,97,98,108,101,32,32,32,32,32,56])) w) (R (.string (BM #[])) w)))))))))))))))))))))))))))))))
theorem zgW(p0)(R)(w)(h:zbt p0 R w):Calls Tryz.prog 203 #[.int .u16 p0] w (Ret R):=lwC zfx Tryz.func203 (by kernel_rfl) (by kernel_rfl) h
def zar:Ann:=(.q (.seq none (.q (.cond (.q .nil) .nil)) (.seq none (.q (.one (.loop ⟨[1,14,15],[(16,(.b (.int .i64)))]⟩ (.q (.seq none .c (.seq none (.one (.q (.q (.q (.cond (.q .nil) .nil))))) .nil)))))) (.q .nil))))
def zag(p0:(Int×ByteArray×Bool×Bool×ByteArray×ByteArray×Int×Int×Unit))(p1:Int)(R:VWP)(w:World):Prop:=Nw (w.alloc (.cells #[zh p0.1,.string p0.2.1,.bool p0.2.2.1,.bool p0.2.2.2.1,.string p0.2.2.2.2.1,.string p0.2.2.2.2.2.1,zi p0.2.2.2.2.2.2.1,zb p0.2.2.2.2.2.2.2.1] 301)) λw1=>ifB (decide (p1<(0:Int))) (R (zb 0) w1) (dt w1 (zB w) λx1 x2 x3 x4 x5 x6 x7 x8=>dt w1 (zB w) λx9 x10 x11 x12 x13 x14 x15 x16=>Nw (w1.alloc (.cells #[.func (.func 210) #[.agg #[zh x1,.string x2,.bool x3,.bool x4,.string x5,.string x6,zi x7,zb x8]] #[],.func (.func 211) #[.agg #[zh x9,.string x10,.bool x11,.bool x12,.string x13,.string x14,zi x15,zb x16]] #[]] 302)) λw2=>zl (S:=Int×Unit) (λs17 w3 n18=>ifB (decide (s17.1<(2:Int))) ((0<=s17.1/\s17.1<(2:Int))/\ldR w3 ((zB w1).add s17.1.toNat) λx19=>zL Tryz.prog Tryz.fs x19 [(zi p1)] w3 λv20 w4=>∃x21:Int,v20=(zb x21)/\ifB (x21 !=0) (R (zb x21) w4) (n18 ((IntKind.i64.wrap (s17.1+(1:Int))),()) w4)) (R (zb 0) w3)) (0,()) w2)
theorem zdf(p0)(p1)(R)(w)(h:zag p0 p1 R w):Calls Tryz.prog 204 #[.agg #[.int .u16 p0.1,.string p0.2.1,.bool p0.2.2.1,.bool p0.2.2.2.1,.string p0.2.2.2.2.1,.string p0.2.2.2.2.2.1,.int .i64 p0.2.2.2.2.2.2.1,.int .u8 p0.2.2.2.2.2.2.2.1],.int .i64 p1] w (Ret R):=lwC zar Tryz.func204 (by kernel_rfl) (by kernel_rfl) h
def zfw:Ann:=(.q (.seq none (.q (.one (.q (.cond (.q .nil) (.q (.cond (.q .nil) (.q (.cond (.q .nil) (.q (.cond (.q .nil) (.q (.cond (.q .nil) (.q (.cond (.q .nil) (.q (.cond (.q .nil) (.q (.cond (.q .nil) (.q (.cond (.q .nil) (.q (.cond (.q .nil) (.q (.cond (.q .nil) .nil)))))))))))))))))))))))) (.q .nil)))
def zbs(p0:Int)(R:VWP)(w:World):Prop:=ifB (p0==107) (R (.string (BM #[48,32,77,97,116,114,105,120,32,49,32,83,104,97,100,101,114,32])) w) (ifB (p0==97) (R (.string (BM #[48,32,76,111,103,105,99,97,108,32])) w) (ifB (p0==109) (R (.string (BM #[48,32,83,105,109,112,108,101,32,49,32,71,76,83,76,52,53,48,32])) w) (ifB (p0==101) (R (.string (BM #[48,32,86,101,114,116,101,120,32,52,32,70,114,97,103,109,101,110,116,32])) w) (ifB (p0==120) (R (.string (BM #[55,32,79,114,105,103,105,110,85,112,112,101,114,76,101,102,116,32])) w) (ifB (p0==108) (R (.string (BM #[48,32,85,110,107,110,111,119,110,32,49,32,69,83,83,76,32,50,32,71,76,83,76,32])) w) (ifB (p0==99) (R (.string (BM #[49,32,73,110,112,117,116,32,51,32,79,117,116,112,117,116,32,54,32,80,114,105,118,97,116,101,32,55,32,70,117,110,99,116,105,111,110,32])) w) (ifB (p0==100) (R (.string (BM #[48,32,82,101,108,97,120,101,100,80,114,101,99,105,115,105,111,110,32,49,49,32,66,117,105,108,116,73,110,32,49,52,32,70,108,97,116,32,51,48,32,76,111,99,97,116,105,111,110,32])) w) (ifB (p0==102) (R (.string (BM #[48,32,78,111,110,101,32,49,32,73,110,108,105,110,101,32,50,32,68,111,110,116,73,110,108,105,110,101,32,52,32,80,117,114,101,32,56,32,67,111,110,115,116,32])) w) (ifB (p0==104) (R (.string (BM #[48,32,78,111,110,101,32,49,32,70,108,97,116,116,101,110,32,50,32,68,111,110,116,70,108,97,116,116,101,110,32])) w) (ifB (p0==103) (R (.string (BM #[48,32,78,111,110,101,32,49,32,85,110,114,111,108,108,32,50,32,68,111,110,116,85,110,114,111,108,108,32])) w) (R (.string (BM #[])) w)))))))))))
theorem zch(p0)(R)(w)(h:zbs p0 R w):Calls Tryz.prog 205 #[.int .u8 p0] w (Ret R):=lwC zfw Tryz.func205 (by kernel_rfl) (by kernel_rfl) h
def zfQ:Ann:=(.q (.seq none (.q (.one (.loop ⟨[],[(10,(.b (.int .u32))),(11,(.b .str))]⟩ (.seq none (.q .nil) (.one (.q (.cond (.q .nil) .nil))))))) (.q .nil)))
def zfG(p0:Int)(p1:Int)(R:VWP)(w:World):Prop:=Nw (w.alloc (.cells #[zu p1] 22)) λw1=>Nw (w1.alloc (.cells #[.string (BM #[])] 9)) λw2=>Nw (w2.alloc (.cells #[.bool false] 4)) λw3=>dk 213 #[zb p0] w3 λx2 w4=>zmP Tryz.prog Tryz.fs x2 w4 (T:=Int×ByteArray×Unit) (λs3=>[(zu s3.1),(.string s3.2.1)]) (λmk4 l5 s3 w5 S6=>w5.heap[l5]? =some (mk4 .ready none)/\Nw (w5.putObj l5 (mk4 .busy none)) λw6=>ldI w6 (zB w) .u32 λx8=>ifB (s3.1==x8) (Wr w6 (zB w1)/\Nw (w6.setCell (zB w1) (.string s3.2.1)) λw7=>Wr w7 (zB w2)/\Nw (w7.setCell (zB w2) (.bool true)) λw8=>w8.heap[l5]? =some (mk4 .busy none)/\S6 (.bool false) (w8.putObj l5 (mk4 .done (some .ret)))) (w6.heap[l5]? =some (mk4 .busy none)/\S6 (.bool true) (w6.putObj l5 (mk4 .ready none)))) (λmk4 l5 d7 w9=>(Ye mk4 l5 .ready none w9 λw10=>Wr w10 (zB w1)/\Nw (w10.setCell (zB w1) (.string (BM #[]))) λw11=>Wr w11 (zB w2)/\Nw (w11.setCell (zB w2) (.bool false)) λw12=>zeN (d7::[]) w12 λw13=>zs w13 (zB w1) λx9=>ldB w13 (zB w2) λx10=>R (.tuple #[.string x9,.bool x10]) w13)\/(Ye mk4 l5 .done (some .ret) w9 λw14=>zeN (d7::[]) w14 λw15=>zs w15 (zB w1) λx11=>ldB w15 (zB w2) λx12=>R (.tuple #[.string x11,.bool x12]) w15))
theorem zhB(p0:Int)(p1:Int)(R:VWP)(w:World)(h:zfG p0 p1 R w):Calls Tryz.prog 209 #[.int .u8 p0,.int .u32 p1] w (Ret R):=zm4 (fs:=Tryz.fs) (an:=zfQ) (args:=[(.int .u8 p0),(.int .u32 p1)]) Tryz.fsOK Tryz.mixed Tryz.func209 (by kernel_rfl) (by kernel_rfl) (Eq.mpr (by kernel_rfl:zre Tryz.prog Tryz.fs Tryz.f209 zfQ [(.int .u8 p0),(.int .u32 p1)] w R=zfG p0 p1 R w) h)
def zaU:Ann:=(.q (.seq (some ⟨[1,2],[]⟩) (.q (.cond (.q .nil) .nil)) (.q .nil)))
def zaG(p0:(Int×ByteArray×Bool×Bool×ByteArray×ByteArray×Int×Int×Unit))(p1:Int)(R:VWP)(w:World):Prop:=Nw (w.alloc (.cells #[zh p0.1,.string p0.2.1,.bool p0.2.2.1,.bool p0.2.2.2.1,.string p0.2.2.2.2.1,.string p0.2.2.2.2.2.1,zi p0.2.2.2.2.2.2.1,zb p0.2.2.2.2.2.2.2.1] 301)) λw1=>zo (S:=Unit) (λm1=>ifB (decide (p1<(0:Int))) (R (zb 0) w1) (zs w1 ((zB w).add 4) λx3=>ifB (decide (p1≥(x3.size:Int))) (R (zb 0) w1) (m1 () w1))) (λs2 w2=>zs w2 ((zB w).add 4) λx4=>(0<=p1/\p1<(x4.size:Int))/\R (zb (zd3 x4 p1)) w2)
theorem zdK(p0)(p1)(R)(w)(h:zaG p0 p1 R w):Calls Tryz.prog 210 #[.agg #[.int .u16 p0.1,.string p0.2.1,.bool p0.2.2.1,.bool p0.2.2.2.1,.string p0.2.2.2.2.1,.string p0.2.2.2.2.2.1,.int .i64 p0.2.2.2.2.2.2.1,.int .u8 p0.2.2.2.2.2.2.2.1],.int .i64 p1] w (Ret R):=lwC zaU Tryz.func210 (by kernel_rfl) (by kernel_rfl) h
def zbS:Ann:=(.q (.q (.seq (some ⟨[1,2],[]⟩) (.q (.cond (.q .nil) .nil)) (.q .nil))))
def zb5(p0:(Int×ByteArray×Bool×Bool×ByteArray×ByteArray×Int×Int×Unit))(p1:Int)(R:VWP)(w:World):Prop:=Nw (w.alloc (.cells #[zh p0.1,.string p0.2.1,.bool p0.2.2.1,.bool p0.2.2.2.1,.string p0.2.2.2.2.1,.string p0.2.2.2.2.2.1,zi p0.2.2.2.2.2.2.1,zb p0.2.2.2.2.2.2.2.1] 301)) λw1=>zs w1 ((zB w).add 4) λx1=>zo (S:=Unit) (λm2=>ifB (decide ((IntKind.i64.wrap (p1-(x1.size:Int)))<0)) (R (zb 0) w1) (zs w1 ((zB w).add 5) λx4=>ifB (x4.toList==(BM #[]).toList) (R (zb 0) w1) (ldI w1 ((zB w).add 6) .i64 λx5=>ifB (decide (x5>(0:Int))) (ldI w1 ((zB w).add 6) .i64 λx6=>zs w1 ((zB w).add 5) λx7=>ifB (decide ((IntKind.i64.wrap (p1-(x1.size:Int)))≥(IntKind.i64.wrap (x6*(x7.size:Int))))) (R (zb 0) w1) (m2 () w1)) (m2 () w1)))) (λs3 w2=>zs w2.drew ((zB w).add 5) λx8=>zs w2.drew ((zB w).add 5) λx9=>ifB (decide ((x9.size:Int)=0)) (False) ((0<=(Int.tmod (IntKind.i64.wrap (p1-(x1.size:Int))) (x9.size:Int))/\(Int.tmod (IntKind.i64.wrap (p1-(x1.size:Int))) (x9.size:Int))<(x8.size:Int))/\R (zb (zd3 x8 (Int.tmod (IntKind.i64.wrap (p1-(x1.size:Int))) (x9.size:Int)))) w2.drew))
theorem zev(p0)(p1)(R)(w)(h:zb5 p0 p1 R w):Calls Tryz.prog 211 #[.agg #[.int .u16 p0.1,.string p0.2.1,.bool p0.2.2.1,.bool p0.2.2.2.1,.string p0.2.2.2.2.1,.string p0.2.2.2.2.2.1,.int .i64 p0.2.2.2.2.2.2.1,.int .u8 p0.2.2.2.2.2.2.2.1],.int .i64 p1] w (Ret R):=lwC zbS Tryz.func211 (by kernel_rfl) (by kernel_rfl) h
def zfu:Ann:=(.q (.q .nil))
def zfp(p0:Int)(R:VWP)(w:World):Prop:=Nw (w.alloc (.cells #[zb p0] 5)) λw1=>R (.func (.func 215) #[] #[.pointer (some (zB w))]) w1
theorem zgU(p0)(R)(w)(h:zfp p0 R w):Calls Tryz.prog 213 #[.int .u8 p0] w (Ret R):=lwC zfu Tryz.func213 (by kernel_rfl) (by kernel_rfl) h
def zdy:Ann:=(.q (.q (.q (.q (.one (.loop ⟨[0,11],[(3,(.b (.int .u32))),(5,(.b .str)),(6,(.b .bool))]⟩ (.q (.seq none .c (.one (.q (.seq (some ⟨[0,6,11],[(3,(.b (.int .u32)))]⟩) (.one (.q (.cond (.q .nil) (.q (.cond .nil (.q (.q .c))))))) (.q .nil))))))))))))
def zdq(p0:Value)(c0:Addr)(R:VWP)(w:World):Prop:=ldI w c0 .u8 λx1=>dC 205 #[zb x1] w λx3 w1=>Nw (w1.alloc (.stringIter x3 0)) λw2=>zl (S:=Int×ByteArray×Bool×Unit) (λs4 w3 n5=>zpa w1.heap.size w3 (λi6 c7 w4=>zo (S:=Int×Unit) (λm8=>ifB (c7 !=32) (zcz s4.2.1 (Utf8.encode c7)/\n5 (s4.1,(s4.2.1++(Utf8.encode c7)),s4.2.2.1,()) w4) (ifB (!s4.2.2.1) (dF 216 #[.string s4.2.1] w4 λx11 w5=>m8 (x11,()) w5) (zL Tryz.prog Tryz.fs p0 [(zu s4.1),(.string s4.2.1)] w4 λv12 w6=>∃x13:Bool,v12=(.bool x13)/\ifB (!x13) (R (.tuple #[]) w6) (m8 (s4.1,()) w6)))) (λs9 w7=>n5 (s9.1,(BM #[]),(!s4.2.2.1),()) w7)) (R (.tuple #[]) w3)) (0,(BM #[]),false,()) w2
theorem zf6(p0)(c0)(R)(w)(h:zdq p0 c0 R w):Calls Tryz.prog 215 #[p0,.pointer (some c0)] w (Ret R):=lwC zdy Tryz.func215 (by kernel_rfl) (by kernel_rfl) h
def zee:Ann:=(.q (.q (.seq none (.q (.one (.loop ⟨[7],[(3,(.b (.int .u32)))]⟩ (.q (.seq none .c (.one (.q .nil))))))) (.q .nil))))
def zdW(p0:ByteArray)(R:VWP)(w:World):Prop:=Nw (w.alloc (.stringIter p0 0)) λw1=>zl (S:=Int×Unit) (λs1 w2 n2=>zpa w.heap.size w2 (λi3 c4 w3=>n2 ((IntKind.u32.wrap ((IntKind.u32.wrap (10*s1.1))+(IntKind.u32.wrap (IntKind.i32.wrap (c4-(48:Int)))))),()) w3) (R (zu s1.1) w2)) (0,()) w1
theorem zgh(p0)(R)(w)(h:zdW p0 R w):Calls Tryz.prog 216 #[.string p0] w (Ret R):=lwC zee Tryz.func216 (by kernel_rfl) (by kernel_rfl) h
end Go.Proofs
namespace Go.Gm
open Go.Gk
abbrev Bs:=List UInt8
def bs(l:Bs):ByteArray:=⟨l.toArray⟩
theorem zmg(a b:Bs):bs a++bs b=bs (a++b):=by
 apply ByteArray.ext
 simp[bs,ByteArray.data_append]
theorem yq(a:Bs):(bs a).size=a.length:=by simp[bs,ByteArray.size]
theorem zmW(a:Bs)(k:Nat):zd3 (bs a) (k:Int)=((a.getD k 0).toNat:Int):=by
 unfold zd3 bs
 rw[Int.toNat_natCast]
 simp[Array.getD_eq_getD_getElem?]
theorem Yo{a:Bs}:((bs a).toList==(BM #[]).toList)=a.isEmpty:=by
 rw[ByteArray.toList_eq,ByteArray.toList_eq]
 cases a with
 |nil=>rfl
 |cons x r=>rfl
theorem zp{α:Type}{l:List α}{i:Nat}{d:α}(h:i<l.length):l.getD i d=l[i]:=by simp[List.getD,h]
def look{α:Type}:List (Int×α)->Int->Option α
 | [],_=>none
 |p::r,n=>if n=p.1 then some p.2 else look r n
def zmk{α:Type}:List (Int×α)->Int->(α->Prop)->Prop->Prop
 | [],_,_,d=>d
 |p::r,n,f,d=>ifB (n==p.1) (f p.2) (zmk r n f d)
theorem zei{α:Type}{n:Int}{f:α->Prop}{d:Prop}:∀{tab:List (Int×α)},(∀x,look tab n=some x->f x)->(look tab n=none->d)->zmk tab n f d
 | [],_,h2=>h2 rfl
 |p::r,h1,h2=>zk (λe=>h1 p.2 (by simp[look,e])) (λe=>zei (λx hx=>h1 x (by simp[look,e,hx])) (λhx=>h2 (by simp[look,e,hx])))
theorem ZB{α:Type}(n:Int):∀a b:List (Int×α),look (a++b) n=(look a n).or (look b n)
 | [],b=>by simp[look]
 |p::r,b=>by
  simp only[List.cons_append,look]
  split
  ·rfl
  ·exact ZB n r b
theorem ZC{α:Type}{n:Int}{x:α}:∀{a:List (Int×α)},look a n=some x->(n,x)∈a
 |p::r,h=>by
  simp only[look]at h
  split at h
  ·rename_i e
   cases h
   subst e
   exact List.mem_cons_self
  ·exact List.mem_cons_of_mem _ (ZC h)
theorem za2{α:Type}{n:Int}:∀{a:List (Int×α)},(∀p∈a,p.1≠n)->look a n=none
 | [],_=>rfl
 |p::r,h=>by
  rw[look,if_neg λe=>h p List.mem_cons_self e.symm]
  exact za2 λq hq=>h q (List.mem_cons_of_mem _ hq)
theorem zoP{α β:Type}(g:α->β)(n:Int):∀a:List (Int×α),look (a.map λp=>(p.1,g p.2)) n=(look a n).map g
 | []=>rfl
 |p::r=>by
  simp only[List.map_cons,look]
  split
  ·rfl
  ·exact zoP g n r
abbrev Fl:=Bs×Bool×Bool×Bs×Bs×Nat×Nat
def tabA:List (Int×Bs):=
 [(1,[79,112,85,110,100,101,102,32,84,82,32,32,32,32,55]),
  (3,[79,112,83,111,117,114,99,101,32,32,108,110,32,32,32,52]),
  (5,[79,112,78,97,109,101,32,32,105,115,32,32,32,53]),
  (6,[79,112,77,101,109,98,101,114,78,97,109,101,32,32,105,110,115,32,32,32,53]),
  (7,[79,112,83,116,114,105,110,103,32,82,32,115,32,32,32,52]),
  (14,[79,112,77,101,109,111,114,121,77,111,100,101,108,32,32,97,109,32,32,32,49]),
  (15,[79,112,69,110,116,114,121,80,111,105,110,116,32,32,101,105,115,32,105,32,32,50]),
  (16,[79,112,69,120,101,99,117,116,105,111,110,77,111,100,101,32,32,105,120,32,32,32,51]),
  (17,[79,112,67,97,112,97,98,105,108,105,116,121,32,32,107,32,32,32,48]),
  (19,[79,112,84,121,112,101,86,111,105,100,32,82,32,32,32,32,55]),
  (20,[79,112,84,121,112,101,66,111,111,108,32,82,32,32,32,32,55]),
  (21,[79,112,84,121,112,101,73,110,116,32,82,32,110,110,32,32,32,55]),
  (23,[79,112,84,121,112,101,86,101,99,116,111,114,32,82,32,105,110,32,32,32,55]),
  (28,[79,112,84,121,112,101,65,114,114,97,121,32,82,32,105,105,32,32,32,55]),
  (30,[79,112,84,121,112,101,83,116,114,117,99,116,32,82,32,32,105,32,32,55]),
  (32,[79,112,84,121,112,101,80,111,105,110,116,101,114,32,82,32,99,105,32,32,32,55]),
  (33,[79,112,84,121,112,101,70,117,110,99,116,105,111,110,32,82,32,105,32,105,32,32,55]),
  (41,[79,112,67,111,110,115,116,97,110,116,84,114,117,101,32,84,82,32,32,32,32,55]),
  (42,[79,112,67,111,110,115,116,97,110,116,70,97,108,115,101,32,84,82,32,32,32,32,55]),
  (43,[79,112,67,111,110,115,116,97,110,116,32,84,82,32,110,32,32,32,55]),
  (44,[79,112,67,111,110,115,116,97,110,116,67,111,109,112,111,115,105,116,101,32,84,82,32,32,105,32,32,55]),
  (46,[79,112,67,111,110,115,116,97,110,116,78,117,108,108,32,84,82,32,32,32,32,55]),
  (54,[79,112,70,117,110,99,116,105,111,110,32,84,82,32,102,105,32,32,32,56]),
  (55,[79,112,70,117,110,99,116,105,111,110,80,97,114,97,109,101,116,101,114,32,84,82,32,32,32,32,56]),
  (56,[79,112,70,117,110,99,116,105,111,110,69,110,100,32,32,32,32,32,56]),
  (57,[79,112,70,117,110,99,116,105,111,110,67,97,108,108,32,84,82,32,105,32,105,32,32,56]),
  (59,[79,112,86,97,114,105,97,98,108,101,32,84,82,32,99,32,105,32,49,32,55]),
  (61,[79,112,76,111,97,100,32,84,82,32,105,32,32,32,56]),
  (62,[79,112,83,116,111,114,101,32,32,105,105,32,32,32,56]),
  (65,[79,112,65,99,99,101,115,115,67,104,97,105,110,32,84,82,32,105,32,105,32,32,56]),
  (71,[79,112,68,101,99,111,114,97,116,101,32,32,105,100,32,110,32,32,54])]
def tabB:List (Int×Bs):=
 [(77,[79,112,86,101,99,116,111,114,69,120,116,114,97,99,116,68,121,110,97,109,105,99,32,84,82,32,105,105,32,32,32,56]),
  (78,[79,112,86,101,99,116,111,114,73,110,115,101,114,116,68,121,110,97,109,105,99,32,84,82,32,105,105,105,32,32,32,56]),
  (79,[79,112,86,101,99,116,111,114,83,104,117,102,102,108,101,32,84,82,32,105,105,32,110,32,32,56]),
  (80,[79,112,67,111,109,112,111,115,105,116,101,67,111,110,115,116,114,117,99,116,32,84,82,32,32,105,32,32,56]),
  (81,[79,112,67,111,109,112,111,115,105,116,101,69,120,116,114,97,99,116,32,84,82,32,105,32,110,32,32,56]),
  (82,[79,112,67,111,109,112,111,115,105,116,101,73,110,115,101,114,116,32,84,82,32,105,105,32,110,32,32,56]),
  (83,[79,112,67,111,112,121,79,98,106,101,99,116,32,84,82,32,105,32,32,32,56]),
  (124,[79,112,66,105,116,99,97,115,116,32,84,82,32,105,32,32,32,56]),
  (126,[79,112,83,78,101,103,97,116,101,32,84,82,32,105,32,32,32,56]),
  (128,[79,112,73,65,100,100,32,84,82,32,105,105,32,32,32,56]),
  (130,[79,112,73,83,117,98,32,84,82,32,105,105,32,32,32,56]),
  (132,[79,112,73,77,117,108,32,84,82,32,105,105,32,32,32,56]),
  (134,[79,112,85,68,105,118,32,84,82,32,105,105,32,32,32,56]),
  (135,[79,112,83,68,105,118,32,84,82,32,105,105,32,32,32,56]),
  (137,[79,112,85,77,111,100,32,84,82,32,105,105,32,32,32,56]),
  (138,[79,112,83,82,101,109,32,84,82,32,105,105,32,32,32,56]),
  (139,[79,112,83,77,111,100,32,84,82,32,105,105,32,32,32,56]),
  (149,[79,112,73,65,100,100,67,97,114,114,121,32,84,82,32,105,105,32,32,32,56]),
  (150,[79,112,73,83,117,98,66,111,114,114,111,119,32,84,82,32,105,105,32,32,32,56]),
  (151,[79,112,85,77,117,108,69,120,116,101,110,100,101,100,32,84,82,32,105,105,32,32,32,56]),
  (152,[79,112,83,77,117,108,69,120,116,101,110,100,101,100,32,84,82,32,105,105,32,32,32,56]),
  (154,[79,112,65,110,121,32,84,82,32,105,32,32,32,56]),
  (155,[79,112,65,108,108,32,84,82,32,105,32,32,32,56]),
  (164,[79,112,76,111,103,105,99,97,108,69,113,117,97,108,32,84,82,32,105,105,32,32,32,56]),
  (165,[79,112,76,111,103,105,99,97,108,78,111,116,69,113,117,97,108,32,84,82,32,105,105,32,32,32,56]),
  (166,[79,112,76,111,103,105,99,97,108,79,114,32,84,82,32,105,105,32,32,32,56]),
  (167,[79,112,76,111,103,105,99,97,108,65,110,100,32,84,82,32,105,105,32,32,32,56]),
  (168,[79,112,76,111,103,105,99,97,108,78,111,116,32,84,82,32,105,32,32,32,56]),
  (169,[79,112,83,101,108,101,99,116,32,84,82,32,105,105,105,32,32,32,56]),
  (170,[79,112,73,69,113,117,97,108,32,84,82,32,105,105,32,32,32,56]),
  (171,[79,112,73,78,111,116,69,113,117,97,108,32,84,82,32,105,105,32,32,32,56])]
def tabC:List (Int×Bs):=
 [(172,[79,112,85,71,114,101,97,116,101,114,84,104,97,110,32,84,82,32,105,105,32,32,32,56]),
  (173,[79,112,83,71,114,101,97,116,101,114,84,104,97,110,32,84,82,32,105,105,32,32,32,56]),
  (174,[79,112,85,71,114,101,97,116,101,114,84,104,97,110,69,113,117,97,108,32,84,82,32,105,105,32,32,32,56]),
  (175,[79,112,83,71,114,101,97,116,101,114,84,104,97,110,69,113,117,97,108,32,84,82,32,105,105,32,32,32,56]),
  (176,[79,112,85,76,101,115,115,84,104,97,110,32,84,82,32,105,105,32,32,32,56]),
  (177,[79,112,83,76,101,115,115,84,104,97,110,32,84,82,32,105,105,32,32,32,56]),
  (178,[79,112,85,76,101,115,115,84,104,97,110,69,113,117,97,108,32,84,82,32,105,105,32,32,32,56]),
  (179,[79,112,83,76,101,115,115,84,104,97,110,69,113,117,97,108,32,84,82,32,105,105,32,32,32,56]),
  (194,[79,112,83,104,105,102,116,82,105,103,104,116,76,111,103,105,99,97,108,32,84,82,32,105,105,32,32,32,56]),
  (195,[79,112,83,104,105,102,116,82,105,103,104,116,65,114,105,116,104,109,101,116,105,99,32,84,82,32,105,105,32,32,32,56]),
  (196,[79,112,83,104,105,102,116,76,101,102,116,76,111,103,105,99,97,108,32,84,82,32,105,105,32,32,32,56]),
  (197,[79,112,66,105,116,119,105,115,101,79,114,32,84,82,32,105,105,32,32,32,56]),
  (198,[79,112,66,105,116,119,105,115,101,88,111,114,32,84,82,32,105,105,32,32,32,56]),
  (199,[79,112,66,105,116,119,105,115,101,65,110,100,32,84,82,32,105,105,32,32,32,56]),
  (200,[79,112,78,111,116,32,84,82,32,105,32,32,32,56]),
  (201,[79,112,66,105,116,70,105,101,108,100,73,110,115,101,114,116,32,84,82,32,105,105,105,105,32,32,32,56]),
  (202,[79,112,66,105,116,70,105,101,108,100,83,69,120,116,114,97,99,116,32,84,82,32,105,105,105,32,32,32,56]),
  (203,[79,112,66,105,116,70,105,101,108,100,85,69,120,116,114,97,99,116,32,84,82,32,105,105,105,32,32,32,56]),
  (204,[79,112,66,105,116,82,101,118,101,114,115,101,32,84,82,32,105,32,32,32,56]),
  (205,[79,112,66,105,116,67,111,117,110,116,32,84,82,32,105,32,32,32,56]),
  (245,[79,112,80,104,105,32,84,82,32,32,105,105,32,32,56]),
  (246,[79,112,76,111,111,112,77,101,114,103,101,32,32,105,105,103,32,32,32,56]),
  (247,[79,112,83,101,108,101,99,116,105,111,110,77,101,114,103,101,32,32,105,104,32,32,32,56]),
  (248,[79,112,76,97,98,101,108,32,82,32,32,32,32,56]),
  (249,[79,112,66,114,97,110,99,104,32,32,105,32,32,32,56]),
  (250,[79,112,66,114,97,110,99,104,67,111,110,100,105,116,105,111,110,97,108,32,32,105,105,105,32,32,32,56]),
  (251,[79,112,83,119,105,116,99,104,32,32,105,105,32,110,105,32,32,56]),
  (252,[79,112,75,105,108,108,32,32,32,32,32,56]),
  (253,[79,112,82,101,116,117,114,110,32,32,32,32,32,56]),
  (254,[79,112,82,101,116,117,114,110,86,97,108,117,101,32,32,105,32,32,32,56]),
  (255,[79,112,85,110,114,101,97,99,104,97,98,108,101,32,32,32,32,32,56])]
def tabN:List (Int×Bs):=
 [(107,[48,32,77,97,116,114,105,120,32,49,32,83,104,97,100,101,114,32]),
  (97,[48,32,76,111,103,105,99,97,108,32]),
  (109,[48,32,83,105,109,112,108,101,32,49,32,71,76,83,76,52,53,48,32]),
  (101,[48,32,86,101,114,116,101,120,32,52,32,70,114,97,103,109,101,110,116,32]),
  (120,[55,32,79,114,105,103,105,110,85,112,112,101,114,76,101,102,116,32]),
  (108,[48,32,85,110,107,110,111,119,110,32,49,32,69,83,83,76,32,50,32,71,76,83,76,32]),
  (99,[49,32,73,110,112,117,116,32,51,32,79,117,116,112,117,116,32,54,32,80,114,105,118,97,116,101,32,55,32,70,117,110,99,116,105,111,110,32]),
  (100,[48,32,82,101,108,97,120,101,100,80,114,101,99,105,115,105,111,110,32,49,49,32,66,117,105,108,116,73,110,32,49,52,32,70,108,97,116,32,51,48,32,76,111,99,97,116,105,111,110,32]),
  (102,[48,32,78,111,110,101,32,49,32,73,110,108,105,110,101,32,50,32,68,111,110,116,73,110,108,105,110,101,32,52,32,80,117,114,101,32,56,32,67,111,110,115,116,32]),
  (104,[48,32,78,111,110,101,32,49,32,70,108,97,116,116,101,110,32,50,32,68,111,110,116,70,108,97,116,116,101,110,32]),
  (103,[48,32,78,111,110,101,32,49,32,85,110,114,111,108,108,32,50,32,68,111,110,116,85,110,114,111,108,108,32])]
def tabR:List (Int×Fl):=
 [(1,[79,112,85,110,100,101,102],true,true,[],[],0,7),
  (3,[79,112,83,111,117,114,99,101],false,false,[108,110],[],0,4),
  (5,[79,112,78,97,109,101],false,false,[105,115],[],0,5),
  (6,[79,112,77,101,109,98,101,114,78,97,109,101],false,false,[105,110,115],[],0,5),
  (7,[79,112,83,116,114,105,110,103],false,true,[115],[],0,4),
  (14,[79,112,77,101,109,111,114,121,77,111,100,101,108],false,false,[97,109],[],0,1),
  (15,[79,112,69,110,116,114,121,80,111,105,110,116],false,false,[101,105,115],[105],0,2),
  (16,[79,112,69,120,101,99,117,116,105,111,110,77,111,100,101],false,false,[105,120],[],0,3),
  (17,[79,112,67,97,112,97,98,105,108,105,116,121],false,false,[107],[],0,0),
  (19,[79,112,84,121,112,101,86,111,105,100],false,true,[],[],0,7),
  (20,[79,112,84,121,112,101,66,111,111,108],false,true,[],[],0,7),
  (21,[79,112,84,121,112,101,73,110,116],false,true,[110,110],[],0,7),
  (23,[79,112,84,121,112,101,86,101,99,116,111,114],false,true,[105,110],[],0,7),
  (28,[79,112,84,121,112,101,65,114,114,97,121],false,true,[105,105],[],0,7),
  (30,[79,112,84,121,112,101,83,116,114,117,99,116],false,true,[],[105],0,7),
  (32,[79,112,84,121,112,101,80,111,105,110,116,101,114],false,true,[99,105],[],0,7),
  (33,[79,112,84,121,112,101,70,117,110,99,116,105,111,110],false,true,[105],[105],0,7),
  (41,[79,112,67,111,110,115,116,97,110,116,84,114,117,101],true,true,[],[],0,7),
  (42,[79,112,67,111,110,115,116,97,110,116,70,97,108,115,101],true,true,[],[],0,7),
  (43,[79,112,67,111,110,115,116,97,110,116],true,true,[110],[],0,7),
  (44,[79,112,67,111,110,115,116,97,110,116,67,111,109,112,111,115,105,116,101],true,true,[],[105],0,7),
  (46,[79,112,67,111,110,115,116,97,110,116,78,117,108,108],true,true,[],[],0,7),
  (54,[79,112,70,117,110,99,116,105,111,110],true,true,[102,105],[],0,8),
  (55,[79,112,70,117,110,99,116,105,111,110,80,97,114,97,109,101,116,101,114],true,true,[],[],0,8),
  (56,[79,112,70,117,110,99,116,105,111,110,69,110,100],false,false,[],[],0,8),
  (57,[79,112,70,117,110,99,116,105,111,110,67,97,108,108],true,true,[105],[105],0,8),
  (59,[79,112,86,97,114,105,97,98,108,101],true,true,[99],[105],1,7),
  (61,[79,112,76,111,97,100],true,true,[105],[],0,8),
  (62,[79,112,83,116,111,114,101],false,false,[105,105],[],0,8),
  (65,[79,112,65,99,99,101,115,115,67,104,97,105,110],true,true,[105],[105],0,8),
  (71,[79,112,68,101,99,111,114,97,116,101],false,false,[105,100],[110],0,6),
  (77,[79,112,86,101,99,116,111,114,69,120,116,114,97,99,116,68,121,110,97,109,105,99],true,true,[105,105],[],0,8),
  (78,[79,112,86,101,99,116,111,114,73,110,115,101,114,116,68,121,110,97,109,105,99],true,true,[105,105,105],[],0,8),
  (79,[79,112,86,101,99,116,111,114,83,104,117,102,102,108,101],true,true,[105,105],[110],0,8),
  (80,[79,112,67,111,109,112,111,115,105,116,101,67,111,110,115,116,114,117,99,116],true,true,[],[105],0,8),
  (81,[79,112,67,111,109,112,111,115,105,116,101,69,120,116,114,97,99,116],true,true,[105],[110],0,8),
  (82,[79,112,67,111,109,112,111,115,105,116,101,73,110,115,101,114,116],true,true,[105,105],[110],0,8),
  (83,[79,112,67,111,112,121,79,98,106,101,99,116],true,true,[105],[],0,8),
  (124,[79,112,66,105,116,99,97,115,116],true,true,[105],[],0,8),
  (126,[79,112,83,78,101,103,97,116,101],true,true,[105],[],0,8),
  (128,[79,112,73,65,100,100],true,true,[105,105],[],0,8),
  (130,[79,112,73,83,117,98],true,true,[105,105],[],0,8),
  (132,[79,112,73,77,117,108],true,true,[105,105],[],0,8),
  (134,[79,112,85,68,105,118],true,true,[105,105],[],0,8),
  (135,[79,112,83,68,105,118],true,true,[105,105],[],0,8),
  (137,[79,112,85,77,111,100],true,true,[105,105],[],0,8),
  (138,[79,112,83,82,101,109],true,true,[105,105],[],0,8),
  (139,[79,112,83,77,111,100],true,true,[105,105],[],0,8),
  (149,[79,112,73,65,100,100,67,97,114,114,121],true,true,[105,105],[],0,8),
  (150,[79,112,73,83,117,98,66,111,114,114,111,119],true,true,[105,105],[],0,8),
  (151,[79,112,85,77,117,108,69,120,116,101,110,100,101,100],true,true,[105,105],[],0,8),
  (152,[79,112,83,77,117,108,69,120,116,101,110,100,101,100],true,true,[105,105],[],0,8),
  (154,[79,112,65,110,121],true,true,[105],[],0,8),
  (155,[79,112,65,108,108],true,true,[105],[],0,8),
  (164,[79,112,76,111,103,105,99,97,108,69,113,117,97,108],true,true,[105,105],[],0,8),
  (165,[79,112,76,111,103,105,99,97,108,78,111,116,69,113,117,97,108],true,true,[105,105],[],0,8),
  (166,[79,112,76,111,103,105,99,97,108,79,114],true,true,[105,105],[],0,8),
  (167,[79,112,76,111,103,105,99,97,108,65,110,100],true,true,[105,105],[],0,8),
  (168,[79,112,76,111,103,105,99,97,108,78,111,116],true,true,[105],[],0,8),
  (169,[79,112,83,101,108,101,99,116],true,true,[105,105,105],[],0,8),
  (170,[79,112,73,69,113,117,97,108],true,true,[105,105],[],0,8),
  (171,[79,112,73,78,111,116,69,113,117,97,108],true,true,[105,105],[],0,8),
  (172,[79,112,85,71,114,101,97,116,101,114,84,104,97,110],true,true,[105,105],[],0,8),
  (173,[79,112,83,71,114,101,97,116,101,114,84,104,97,110],true,true,[105,105],[],0,8),
  (174,[79,112,85,71,114,101,97,116,101,114,84,104,97,110,69,113,117,97,108],true,true,[105,105],[],0,8),
  (175,[79,112,83,71,114,101,97,116,101,114,84,104,97,110,69,113,117,97,108],true,true,[105,105],[],0,8),
  (176,[79,112,85,76,101,115,115,84,104,97,110],true,true,[105,105],[],0,8),
  (177,[79,112,83,76,101,115,115,84,104,97,110],true,true,[105,105],[],0,8),
  (178,[79,112,85,76,101,115,115,84,104,97,110,69,113,117,97,108],true,true,[105,105],[],0,8),
  (179,[79,112,83,76,101,115,115,84,104,97,110,69,113,117,97,108],true,true,[105,105],[],0,8),
  (194,[79,112,83,104,105,102,116,82,105,103,104,116,76,111,103,105,99,97,108],true,true,[105,105],[],0,8),
  (195,[79,112,83,104,105,102,116,82,105,103,104,116,65,114,105,116,104,109,101,116,105,99],true,true,[105,105],[],0,8),
  (196,[79,112,83,104,105,102,116,76,101,102,116,76,111,103,105,99,97,108],true,true,[105,105],[],0,8),
  (197,[79,112,66,105,116,119,105,115,101,79,114],true,true,[105,105],[],0,8),
  (198,[79,112,66,105,116,119,105,115,101,88,111,114],true,true,[105,105],[],0,8),
  (199,[79,112,66,105,116,119,105,115,101,65,110,100],true,true,[105,105],[],0,8),
  (200,[79,112,78,111,116],true,true,[105],[],0,8),
  (201,[79,112,66,105,116,70,105,101,108,100,73,110,115,101,114,116],true,true,[105,105,105,105],[],0,8),
  (202,[79,112,66,105,116,70,105,101,108,100,83,69,120,116,114,97,99,116],true,true,[105,105,105],[],0,8),
  (203,[79,112,66,105,116,70,105,101,108,100,85,69,120,116,114,97,99,116],true,true,[105,105,105],[],0,8),
  (204,[79,112,66,105,116,82,101,118,101,114,115,101],true,true,[105],[],0,8),
  (205,[79,112,66,105,116,67,111,117,110,116],true,true,[105],[],0,8),
  (245,[79,112,80,104,105],true,true,[],[105,105],0,8),
  (246,[79,112,76,111,111,112,77,101,114,103,101],false,false,[105,105,103],[],0,8),
  (247,[79,112,83,101,108,101,99,116,105,111,110,77,101,114,103,101],false,false,[105,104],[],0,8),
  (248,[79,112,76,97,98,101,108],false,true,[],[],0,8),
  (249,[79,112,66,114,97,110,99,104],false,false,[105],[],0,8),
  (250,[79,112,66,114,97,110,99,104,67,111,110,100,105,116,105,111,110,97,108],false,false,[105,105,105],[],0,8),
  (251,[79,112,83,119,105,116,99,104],false,false,[105,105],[110,105],0,8),
  (252,[79,112,75,105,108,108],false,false,[],[],0,8),
  (253,[79,112,82,101,116,117,114,110],false,false,[],[],0,8),
  (254,[79,112,82,101,116,117,114,110,86,97,108,117,101],false,false,[105],[],0,8),
  (255,[79,112,85,110,114,101,97,99,104,97,98,108,101],false,false,[],[],0,8)]
def tabM:List (Int×Int×Bs):=
 [(107,0,[77,97,116,114,105,120]),
  (107,1,[83,104,97,100,101,114]),
  (97,0,[76,111,103,105,99,97,108]),
  (109,0,[83,105,109,112,108,101]),
  (109,1,[71,76,83,76,52,53,48]),
  (101,0,[86,101,114,116,101,120]),
  (101,4,[70,114,97,103,109,101,110,116]),
  (120,7,[79,114,105,103,105,110,85,112,112,101,114,76,101,102,116]),
  (108,0,[85,110,107,110,111,119,110]),
  (108,1,[69,83,83,76]),
  (108,2,[71,76,83,76]),
  (99,1,[73,110,112,117,116]),
  (99,3,[79,117,116,112,117,116]),
  (99,6,[80,114,105,118,97,116,101]),
  (99,7,[70,117,110,99,116,105,111,110]),
  (100,0,[82,101,108,97,120,101,100,80,114,101,99,105,115,105,111,110]),
  (100,11,[66,117,105,108,116,73,110]),
  (100,14,[70,108,97,116]),
  (100,30,[76,111,99,97,116,105,111,110]),
  (102,0,[78,111,110,101]),
  (102,1,[73,110,108,105,110,101]),
  (102,2,[68,111,110,116,73,110,108,105,110,101]),
  (102,4,[80,117,114,101]),
  (102,8,[67,111,110,115,116]),
  (104,0,[78,111,110,101]),
  (104,1,[70,108,97,116,116,101,110]),
  (104,2,[68,111,110,116,70,108,97,116,116,101,110]),
  (103,0,[78,111,110,101]),
  (103,1,[85,110,114,111,108,108]),
  (103,2,[68,111,110,116,85,110,114,111,108,108])]
def fldS(st:Nat×List Bs)(c:UInt8):Nat×List Bs:=if c=32 then(st.1+1,st.2) else(st.1,st.2.modify st.1 (·++[c]))
def fldG(s:Bs):Nat×List Bs:=s.foldl fldS (0,[[],[],[],[],[],[]])
def fld(s:Bs)(k:Nat):Bs:=(fldG s).2.getD k []
def zjR(s:Bs):Fl:=
 (fld s 0,(fld s 1).contains 84,(fld s 1).contains 82,fld s 2,fld s 3,(match fld s 4 with | []=>0 |c::_=>c.toNat-48),(match fld s 5 with | []=>0 |c::_=>c.toNat-48))
def zpg(s:Bs):Bool:=
 s.all (·<128)&&(fld s 1).all (·<128)&&decide (s.count 32<=5)&&decide (s.length<=100)&&!s.isEmpty&&(match fld s 5 with | []=>false |c::_=>decide (48<=c.toNat)) &&
  (match fld s 4 with | []=>true |c::_=>decide (48<=c.toNat))
def zj6:List (Int×Bs):=tabA++(tabB++tabC)
theorem zuP:zj6.all (λp=>zpg p.2)=true:=by decide +kernel
theorem zsr:(zj6.map λp=>(p.1,zjR p.2))=tabR:=by kernel_rfl
theorem keyA:tabA.all (λp=>decide (p.1<=71))=true:=by decide +kernel
theorem keyB:tabB.all (λp=>decide (71<p.1)&&decide (p.1<=171))=true:=by decide +kernel
theorem keyC:tabC.all (λp=>decide (171<p.1))=true:=by decide +kernel
def rowP(op:Int):Option Bs:=look zj6 op
theorem zvO{op:Int}(h:op<=71):look tabA op=rowP op:=by
 unfold rowP zj6
 rw[ZB,ZB,za2 (a:=tabB),za2 (a:=tabC),Option.or_none,Option.or_none]
 ·intro p hp;have:=List.all_eq_true.1 keyC p hp;simp at this;omega
 ·intro p hp;have:=List.all_eq_true.1 keyB p hp;simp at this;omega
theorem zvP{op:Int}(h:¬op<=71)(h':op<=171):look tabB op=rowP op:=by
 unfold rowP zj6
 rw[ZB,ZB,za2 (a:=tabA),za2 (a:=tabC),Option.or_none,Option.none_or]
 ·intro p hp;have:=List.all_eq_true.1 keyC p hp;simp at this;omega
 ·intro p hp;have:=List.all_eq_true.1 keyA p hp;simp at this;omega
theorem zvQ{op:Int}(h:¬op<=71)(h':¬op<=171):look tabC op=rowP op:=by
 unfold rowP zj6
 rw[ZB,ZB,za2 (a:=tabA),za2 (a:=tabB),Option.none_or,Option.none_or]
 ·intro p hp;have:=List.all_eq_true.1 keyB p hp;simp at this;omega
 ·intro p hp;have:=List.all_eq_true.1 keyA p hp;simp at this;omega
theorem zuO{op:Int}{s:Bs}(h:rowP op=some s):zpg s=true:=List.all_eq_true.1 zuP _ (ZC h)
def frm(op:Int):Option Fl:=look tabR op
theorem zuC(op:Int):frm op=(rowP op).map zjR:=by
 unfold frm rowP
 rw[<-zoP,zsr]
theorem zoB(s:Bs):(fldG s).2.length=6:=by
 suffices h:∀(l:Bs) (st:Nat×List Bs),(l.foldl fldS st).2.length=st.2.length from h s _
 intro l
 induction l with
 |nil=>intro st;rfl
 |cons c l ih=>
  intro st
  rw[List.foldl_cons,ih]
  unfold fldS
  split<;>simp
theorem zu7(s:Bs):(fldG s).1=s.count 32:=by
 suffices h:∀(l:Bs) (st:Nat×List Bs),(l.foldl fldS st).1=st.1+l.count 32 from(h s _).trans (Nat.zero_add _)
 intro l
 induction l with
 |nil=>intro st;simp
 |cons c l ih=>
  intro st
  rw[List.foldl_cons,ih]
  unfold fldS
  split
  ·rename_i e;subst e;simp;omega
  ·rename_i e;rw[List.count_cons_of_ne e]
theorem zrK(s:Bs):∀x∈(fldG s).2,x.length<=s.length:=by
 suffices h:∀(l:Bs) (st:Nat×List Bs) (n:Nat),(∀x∈st.2,x.length<=n)->∀x∈(l.foldl fldS st).2,x.length<=n+l.length by
  intro x hx
  have:=h s (0,[[],[],[],[],[],[]]) 0 (by simp) x hx
  omega
 intro l
 induction l with
 |nil=>intro st n h x hx;exact h x hx
 |cons c l ih=>
  intro st n h x hx
  have:=ih (fldS st c) (n+1) (λy hy=>by
   unfold fldS at hy
   split at hy
   ·have:=h y hy;omega
   ·obtain⟨i,hi,e⟩:=List.mem_iff_getElem.1 hy
    rw[List.getElem_modify]at e
    rw[List.length_modify]at hi
    split at e
    ·rw[<-e]
     have:=h _ (List.getElem_mem hi)
     simp
     omega
    ·rw[<-e]
     have:=h _ (List.getElem_mem hi)
     omega) x hx
  simp only[List.length_cons]
  omega
theorem zgD(s:Bs)(c:UInt8):fldG (s++[c])=fldS (fldG s) c:=by simp[fldG,List.foldl_append]
abbrev Fl.fixed(f:Fl):Bs:=f.2.2.2.1
abbrev Fl.rest(f:Fl):Bs:=f.2.2.2.2.1
abbrev Fl.most(f:Fl):Nat:=f.2.2.2.2.2.1
def ze3(f:Fl):Bool:=f.fixed.all (λc=>c !=0)&&f.rest.all (λc=>c !=0)&&decide (f.fixed.length<=100)&&decide (f.rest.length<=100)&&decide (f.most<=100)
theorem zpZ:tabR.all (λp=>ze3 p.2)=true:=by decide +kernel
def letP(f:Fl)(k:Nat):Nat:=
 if k<f.fixed.length then(f.fixed.getD k 0).toNat
 else if f.rest.length=0 then 0
 else if 0<f.most/\f.most*f.rest.length<=k-f.fixed.length then 0
 else(f.rest.getD ((k-f.fixed.length) % f.rest.length) 0).toNat
def yJ(c:Int):Int:=
 if c=105 then 1 else if c=110 then 2 else if c=115 then 3 else if (look tabN c).isSome then 4 else 0
theorem ztB:tabN.all (λp=>!p.2.isEmpty)=true:=by decide +kernel
theorem zoZ:tabM.all (λp=>(look tabN p.1).isSome)=true:=by decide +kernel
theorem ztv:tabR.all (λp=>p.2.fixed.all (λc=>decide (yJ c.toNat≠0))&&p.2.rest.all (λc=>decide (yJ c.toNat≠0)))=true:=by decide +kernel
theorem zoC{op:Int}{f:Fl}(h:frm op=some f):ze3 f=true:=List.all_eq_true.1 zpZ _ (ZC h)
theorem zrW{op:Int}{f:Fl}(h:frm op=some f){k:Nat}(hk:letP f k≠0):yJ (letP f k)≠0:=by
 have h2:=List.all_eq_true.1 ztv _ (ZC h)
 rw[Bool.and_eq_true]at h2
 have h3:=List.all_eq_true.1 h2.1
 have h4:=List.all_eq_true.1 h2.2
 unfold letP at hk⊢
 split
 ·rename_i hlt
  rw[zp hlt]
  exact of_decide_eq_true (h3 _ (List.getElem_mem hlt))
 ·rename_i hlt
  rw[if_neg hlt]at hk
  split
  ·rename_i e;rw[if_pos e]at hk;exact absurd rfl hk
  ·rename_i e
   rw[if_neg e]at hk
   split
   ·rename_i e2;rw[if_pos e2]at hk;exact absurd rfl hk
   ·have:(k-f.fixed.length) % f.rest.length<f.rest.length:=Nat.mod_lt _ (by omega)
    rw[zp this]
    exact of_decide_eq_true (h4 _ (List.getElem_mem this))
def bad(f:Fl)(ks:List Int)(k:Nat):Bool:=ks.getD k 0==0||yJ (letP f k) !=ks.getD k 0
def zdb(f:Fl)(n:Nat):Bool:=decide (n<f.fixed.length)||(decide (f.rest.length≠0)&&decide ((n-f.fixed.length) % f.rest.length≠0))
def fitF(f:Fl)(ks:List Int):Nat×Bool:=match (List.range ks.length).find? (bad f ks) with
 |some k=>(k,false)
 |none=>if zdb f ks.length then(ks.length,false) else(0,true)
def fitP(op:Int)(ks:List Int):Nat×Bool:=match frm op with
 |none=>(0,false)
 |some f=>fitF f ks
theorem zrI{op:Int}{ks:List Int}(h:frm op=none):fitP op ks=(0,false):=by unfold fitP;rw[h]
theorem zmq{op:Int}{ks:List Int}{f:Fl}(h:frm op=some f):fitP op ks=fitF f ks:=by unfold fitP;rw[h]
theorem zcU{p:Nat->Bool}{n k:Nat}(hk:k<n)(hp:p k=true)(h:∀j,j<k->p j=false):(List.range n).find? p=some k:=by
 rw[List.find?_range_eq_some]
 exact⟨hp,by simpa using hk,λj hj=>by simp[h j hj]⟩
theorem zqU{f:Fl}{ks:List Int}{k:Nat}(hk:k<ks.length)(hp:bad f ks k=true)(h:∀j,j<k->bad f ks j=false):fitF f ks=(k,false):=by
 unfold fitF
 rw[zcU hk hp h]
theorem zo7{f:Fl}{ks:List Int}(h:∀j,j<ks.length->bad f ks j=false):fitF f ks=if zdb f ks.length then(ks.length,false) else(0,true):=by
 unfold fitF
 have:(List.range ks.length).find? (bad f ks)=none:=by
  rw[List.find?_eq_none]
  intro j hj
  rw[h j (List.mem_range.1 hj)]
  simp
 rw[this]
end Go.Gm
namespace Go.Proofs
open Go.Gk Go.RowKit Go.Gm
theorem zco{s:Bs}{k:Nat}(hk:k<s.length)(h:s[k]<128):Utf8.decode (bs s) k=(s[k].toNat,1):=by
 have e:((bs s).get! (k+0)).toNat=s[k].toNat:=by
  have:(bs s).get! (k+0)=s[k]:=by
   show(s.toArray)[k+0]! =s[k]
   simp[hk]
  rw[this]
 have h':s[k].toNat<128:=h
 unfold Utf8.decode
 simp only[e]
 rw[if_pos h']
theorem zeR{c:UInt8}(h:c<128):Utf8.encode (c.toNat:Int)=bs [c]:=by
 have h':c.toNat<128:=h
 have hv:Utf8.valid (c.toNat:Int)=true:=by
  unfold Utf8.valid
  have:(decide (0<=(c.toNat:Int))&&decide ((c.toNat:Int)<0xD800))=true:=by simp;omega
  rw[this];rfl
 unfold Utf8.encode
 simp only[hv,if_true,Int.toNat_natCast]
 rw[if_pos (by omega)]
 show _=bs [c]
 unfold bs
 simp
theorem zcv{w:World}{r:Nat}{s:ByteArray}{p:Nat}(h:r<w.heap.size):(YX w r s p).heap[r]? =some (.stringIter s p):=by
 simp[YX,h]
theorem zqe{α β:Type}(f:α->β)(g:α->α)(l:List α){i:Nat}(h:i<l.length):(l.map f).set i (f (g l[i]))=(l.modify i g).map f:=by
 apply List.ext_getElem
 ·simp
 ·intro j h1 h2
  simp only[List.getElem_set,List.getElem_map,List.getElem_modify]
  split
  ·rename_i e;subst e;rfl
  ·rfl
abbrev six(l:List Bs):List Value:=l.map λx=>.string (bs x)
theorem zph{s:Bs}(h:zpg s=true):(∀c∈s,c<128)/\(∀c∈fld s 1,c<128)/\s.count 32<=5/\s.length<=100/\s≠[]/\(∃c r,fld s 5=c::r/\48<=c.toNat)/\(∀c r,fld s 4=c::r->48<=c.toNat):=by
 unfold zpg at h
 simp only[Bool.and_eq_true,decide_eq_true_eq,List.all_eq_true,Bool.not_eq_true',List.isEmpty_eq_false_iff]at h
 obtain⟨⟨⟨⟨⟨⟨h1,h1'⟩,h2⟩,h3⟩,h4⟩,h5⟩,h6⟩:=h
 refine⟨h1,h1',h2,h3,h4,?_,?_⟩
 ·cases e:fld s 5 with
  |nil=>rw[e]at h5;cases h5
  |cons c r=>rw[e]at h5;exact⟨c,r,rfl,of_decide_eq_true h5⟩
 ·intro c r e
  rw[e]at h6
  exact of_decide_eq_true h6
theorem zo4{s:Bs}(hs:zpg s=true){w:World}{R:VWP}
  (hR:∀w',Below w.heap.size w w'->R (.agg #[.string (bs (fld s 0)),.string (bs (fld s 1)),.string (bs (fld s 2)),.string (bs (fld s 3)),.string (bs (fld s 4)),.string (bs (fld s 5))]) w') :
  cR 191 #[.string (bs s)] w R:=by
 obtain⟨h128,-,h5,hlen,-⟩:=zph hs
 refine za.of (zgg (bs s) R w ?_) λ_ _ h=>h
 refine Nw.gen λw1 e1=>Nw.gen λw2 e2=>Nw.gen λw3 e3=>?_
 have hA1:Blk w1 w.heap.size 291 (six [[],[],[],[],[],[]]):=by rw[e1];exact Blk.new w _ _
 have z1:w1.heap.size=w.heap.size+1:=by rw[e1];simp
 have b1:Below w.heap.size w w1:=by rw[e1];exact(Below.refl _ _).alloc (Nat.le_refl _) _
 have hA2:Blk w2 w.heap.size 291 (six [[],[],[],[],[],[]]):=by rw[e2];exact hA1.alloc _
 have hB2:Blk w2 w1.heap.size 291 (six [[],[],[],[],[],[]]):=by rw[e2];exact Blk.new w1 _ _
 have z2:w2.heap.size=w.heap.size+2:=by rw[e2];simp[z1]
 have b2:Below w.heap.size w w2:=by rw[e2];exact b1.alloc (by omega) _
 have hA3:Blk w3 w.heap.size 291 (six [[],[],[],[],[],[]]):=by rw[e3];exact hA2.alloc _
 have hB3:Blk w3 w1.heap.size 291 (six [[],[],[],[],[],[]]):=by rw[e3];exact hB2.alloc _
 have hI3:w3.heap[w2.heap.size]? =some (.stringIter (bs s) 0):=by
  rw[e3]
  show(w2.heap.push _)[w2.heap.size]? =_
  simp
 have z3:w3.heap.size=w.heap.size+3:=by rw[e3];simp[z2]
 have b3:Below w.heap.size w w3:=by rw[e3];exact b2.alloc (by omega) _
 clear e1 e2 e3 hA1 hA2 hB2
 refine zl.ghost (λj st w'=>∃k,k<=s.length/\j=s.length-k/\st=(((fldG (s.take k)).1:Int),())/\w'.heap.size=w.heap.size+3/\Below w.heap.size w w'/\w'.heap[w2.heap.size]? =some (.stringIter (bs s) k)/\
  Blk w' w.heap.size 291 (six [[],[],[],[],[],[]])/\Blk w' w1.heap.size 291 (six (fldG (s.take k)).2)) s.length ⟨0,Nat.zero_le _,rfl,rfl,z3,b3,hI3,hA3,hB3⟩ ?_
 rintro _ _ w4 ⟨k,hk,rfl,rfl,hz,hb,hI,hA,hB⟩ next hnext
 have hat:(fldG (s.take k)).1<=5:=by
  rw[zu7]
  exact Nat.le_trans ((List.take_sublist k s).count_le _) h5
 refine⟨bs s,k,hI,λhlt=>?_,λhge=>?_⟩
 ·rw[yq]at hlt
  have hc128:=h128 _ (List.getElem_mem hlt)
  rw[zco hlt hc128]
  dsimp only
  have hc:=Chg.iter w2.heap.size w4 (bs s) (k+1)
  have hI5:=zcv (w:=w4) (s:=bs s) (p:=k+1) (r:=w2.heap.size) (by omega)
  generalize YX w4 w2.heap.size (bs s) (k+1)=w5 at hc hI5
  have hA5:=hc.blk hA (by omega)
  have hB5:=hc.blk hB (by omega)
  have hb5:=hc.below hb (by omega)
  have hz5:=hc.size.trans hz
  have htk:s.take (k+1)=s.take k++[s[k]]:=List.take_succ_eq_append_getElem hlt
  refine zk (λe=>?_) (λe=>?_)
  ·have e:s[k]=32:=by
    apply UInt8.toNat.inj
    have:(s[k].toNat:Int)=32:=e
    show s[k].toNat=32
    omega
   rw[zE (by omega)]
   refine hnext (s.length-(k+1)) _ _ (by omega) ⟨k+1,hlt,rfl,?_,hz5,hb5,hI5,hA5,?_⟩
   ·rw[htk,zgD,fldS,if_pos e]
   ·rw[htk,zgD,fldS,if_pos e];exact hB5
  ·have e:s[k]≠32:=by
    intro h
    apply e
    rw[h]
    rfl
   have h6:=zoB (s.take k)
   have hlt6:(fldG (s.take k)).1<(fldG (s.take k)).2.length:=by omega
   refine⟨⟨by omega,by omega⟩,?_⟩
   rw[Int.toNat_natCast]
   refine hB5.rT (x:=bs (fldG (s.take k)).2[(fldG (s.take k)).1]) (by simp[six,hlt6]) ⟨?_,⟨by omega,by omega⟩,hB5.wr (by simpa[six] using hlt6),?_⟩
   ·rw[zeR hc128]
    unfold zcz
    rw[yq,yq]
    have:=zrK (s.take k) _ (List.getElem_mem hlt6)
    rw[List.length_take]at this
    simp only[List.length_singleton]
    omega
   ·rw[zeR hc128,zmg]
    refine hnext (s.length-(k+1)) _ _ (by omega) ⟨k+1,hlt,rfl,?_,?_,?_,?_,?_,?_⟩
    ·rw[htk,zgD,fldS,if_neg e]
    ·simpa[World.setCell] using hz5
    ·exact(Chg.set _ _ _ _).below hb5 (by omega)
    ·rw[(Chg.set _ _ _ _).block _ (by omega)];exact hI5
    ·exact(Chg.set _ _ _ _).blk hA5 (by omega)
    ·have:=hB5.set (fldG (s.take k)).1 (.string (bs ((fldG (s.take k)).2[(fldG (s.take k)).1]++[s[k]])))
     rw[htk,zgD,fldS,if_neg e]
     have e3:=zqe (λx=>Value.string (bs x)) (·++[s[k]]) (fldG (s.take k)).2 hlt6
     show Blk _ _ _ (((fldG (s.take k)).2.modify (fldG (s.take k)).1 (·++[s[k]])).map λx=>Value.string (bs x))
     rw[<-e3]
     exact this
 ·rw[yq]at hge
  have:k=s.length:=by omega
  subst this
  rw[List.take_length]at hB
  have hR':∀w',Below w.heap.size w w'->R (.agg #[.string (bs ((fldG s).2.getD 0 [])),.string (bs ((fldG s).2.getD 1 [])),.string (bs ((fldG s).2.getD 2 [])),.string (bs ((fldG s).2.getD 3 [])),.string (bs ((fldG s).2.getD 4 [])),.string (bs ((fldG s).2.getD 5 []))]) w':=hR
  have h6:=zoB s
  generalize (fldG s).2=l at hB h6 hR'
  match l,h6 with
  | [a0,a1,a2,a3,a4,a5],_=>
   refine hB.rT (n:=0) rfl (hB.rT (n:=1) rfl (hB.rT (n:=2) rfl (hB.rT (n:=3) rfl (hB.rT (n:=4) rfl (hB.rT (n:=5) rfl ?_)))))
   refine ZK (vs:=six [a0,a1,a2,a3,a4,a5]) hA rfl λw' h1 h2=>?_
   refine h1.rT (n:=0) rfl (h1.rT (n:=1) rfl (h1.rT (n:=2) rfl (h1.rT (n:=3) rfl (h1.rT (n:=4) rfl (h1.rT (n:=5) rfl ?_)))))
   exact hR' w' (h2.below hb (Nat.le_refl _))
abbrev rowT(op:Int):Bs:=(rowP op).getD []
theorem zu6(op:Int)(R:VWP)(w:World):zbr op R w=zmk tabA op (λs=>R (.string (bs s)) w) (R (.string (bs [])) w):=by kernel_rfl
theorem ztT(op:Int)(R:VWP)(w:World):zay op R w=zmk tabB op (λs=>R (.string (bs s)) w) (R (.string (bs [])) w):=by kernel_rfl
theorem zvh(op:Int)(R:VWP)(w:World):zbt op R w=zmk tabC op (λs=>R (.string (bs s)) w) (R (.string (bs [])) w):=by kernel_rfl
theorem ztR{op:Int}{w:World}{R:VWP}(hR:R (.string (bs (rowT op))) w):cR 190 #[.int .u16 op] w R:=by
 refine za.of (ziA op R w ?_) λ_ _ h=>h
 unfold rowT at hR
 refine zj (λh=>?_) (λh=>zj (λh'=>?_) (λh'=>?_))
 ·rw[<-zvO h]at hR
  refine za.of (zgV op _ w ?_) λ_ _ h=>h
  rw[zu6]
  exact zei (λx hx=>⟨_,rfl,by rw[hx]at hR;exact hR⟩) (λhx=>⟨_,rfl,by rw[hx]at hR;exact hR⟩)
 ·rw[<-zvP h h']at hR
  refine za.of (zgi op _ w ?_) λ_ _ h=>h
  rw[ztT]
  exact zei (λx hx=>⟨_,rfl,by rw[hx]at hR;exact hR⟩) (λhx=>⟨_,rfl,by rw[hx]at hR;exact hR⟩)
 ·rw[<-zvQ h h']at hR
  refine za.of (zgW op _ w ?_) λ_ _ h=>h
  rw[zvh]
  exact zei (λx hx=>⟨_,rfl,by rw[hx]at hR;exact hR⟩) (λhx=>⟨_,rfl,by rw[hx]at hR;exact hR⟩)
abbrev Fm:=Int×ByteArray×Bool×Bool×ByteArray×ByteArray×Int×Int×Unit
abbrev fmV(f:Fm):List Value:=[.int .u16 f.1,.string f.2.1,.bool f.2.2.1,.bool f.2.2.2.1,.string f.2.2.2.2.1,.string f.2.2.2.2.2.1,.int .i64 f.2.2.2.2.2.2.1,.int .u8 f.2.2.2.2.2.2.2.1]
abbrev fmA(f:Fm):Value:=.agg #[.int .u16 f.1,.string f.2.1,.bool f.2.2.1,.bool f.2.2.2.1,.string f.2.2.2.2.1,.string f.2.2.2.2.2.1,.int .i64 f.2.2.2.2.2.2.1,.int .u8 f.2.2.2.2.2.2.2.1]
def fmO(op:Int):Option Fl->Fm
 |none=>(0,bs [],false,false,bs [],bs [],0,0,())
 |some f=>(op,bs f.1,f.2.1,f.2.2.1,bs f.fixed,bs f.rest,(f.most:Int),(f.2.2.2.2.2.2:Int),())
theorem Fm.load{w:World}{b:Nat}{T:TypeId}{f:Fm}(h:Blk w b T (fmV f)){φ:Int->ByteArray->Bool->Bool->ByteArray->ByteArray->Int->Int->Prop}
  (hφ:φ f.1 f.2.1 f.2.2.1 f.2.2.2.1 f.2.2.2.2.1 f.2.2.2.2.2.1 f.2.2.2.2.2.2.1 f.2.2.2.2.2.2.2.1) :
  ldI w ((blk b).add 0) .u16 λx1=>zs w ((blk b).add 1) λx2=>ldB w ((blk b).add 2) λx3=>ldB w ((blk b).add 3) λx4=>zs w ((blk b).add 4) λx5=>zs w ((blk b).add 5) λx6=>
   ldI w ((blk b).add 6) .i64 λx7=>ldI w ((blk b).add 7) .u8 λx8=>φ x1 x2 x3 x4 x5 x6 x7 x8:=
 h.rI (n:=0) rfl (h.rT (n:=1) rfl (h.rB (n:=2) rfl (h.rB (n:=3) rfl (h.rT (n:=4) rfl (h.rT (n:=5) rfl (h.rI (n:=6) rfl (h.rI (n:=7) rfl hφ)))))))
theorem zob{c:UInt8}{r:Bs}(h:48<=c.toNat):IntKind.u8.wrap (zd3 (bs (c::r)) 0-48)=((c.toNat-48:Nat):Int):=by
 have e:zd3 (bs (c::r)) 0=(c.toNat:Int):=zmW (c::r) 0
 have:=c.toNat_lt
 rw[e,IntKind.wrap_u8]
 omega
theorem zi9{op:Int}{w:World}{R:VWP}(hR:∀w',Below w.heap.size w w'->R (.tuple #[fmA (fmO op (frm op)),.bool (frm op).isSome]) w') :
  cR 179 #[.int .u16 op] w R:=by
 refine za.of (zjv op R w ?_) λ_ _ h=>h
 refine Nw.gen λw1 e1=>?_
 have hA1:Blk w1 w.heap.size 274 (fmV (fmO op none)):=by rw[e1];exact Blk.new w _ _
 have z1:w1.heap.size=w.heap.size+1:=by rw[e1];simp
 have b1:Below w.heap.size w w1:=by rw[e1];exact(Below.refl _ _).alloc (Nat.le_refl _) _
 clear e1
 refine ztR ⟨_,rfl,?_⟩
 dsimp only[zB,Go.Gk.Sl.zw,zi,zu,zb,zh];rw[Yo]
 rw[zuC]at hR
 cases hrow:rowP op with
 |none=>
  rw[hrow]at hR
  refine zR (by unfold rowT;rw[hrow];rfl) ?_
  refine ZK (vs:=fmV (fmO op none)) hA1 rfl λw2 h1 h2=>?_
  exact Fm.load h1 (hR w2 (h2.below b1 (Nat.le_refl _)))
 |some s=>
  rw[hrow]at hR
  have hok:=zuO hrow
  obtain⟨h128,h128',h5,hlen,hne,⟨c5,r5,e5,g5⟩,g4⟩:=zph hok
  have ert:rowT op=s:=by unfold rowT;rw[hrow];rfl
  rw[ert]
  refine zJ (by simpa using hne) ?_
  refine zo4 hok λw2 b2=>?_
  have hA2:=hA1.below b2
  have b2':Below w.heap.size w w2:=b1.trans (b2.mono (by omega))
  have z2:w.heap.size<w2.heap.size:=by have:=b2.size;omega
  refine⟨(bs (fld s 0),bs (fld s 1),bs (fld s 2),bs (fld s 3),bs (fld s 4),bs (fld s 5),()),rfl,?_⟩
  refine zfV (T:=291) (vs:=six [fld s 0,fld s 1,fld s 2,fld s 3,fld s 4,fld s 5]) rfl λw3 hB b3 z3=>?_
  have hA3:=hA2.below b3
  have b3':Below w.heap.size w w3:=b2'.trans (b3.mono (by omega))
  refine⟨⟨by decide,by decide⟩,hB.drew.rT (n:=0) rfl ⟨⟨by decide,by decide⟩,hB.drew.rT (n:=2) rfl ⟨⟨by decide,by decide⟩,hB.drew.rT (n:=3) rfl ⟨⟨by decide,by decide⟩,hB.drew.rT (n:=5) rfl ⟨⟨by decide,?_⟩,?_⟩⟩⟩⟩⟩
  ·rw[yq,e5];simp
  refine Nw.gen λw4 e4=>?_
  have hC4:Blk w4 w3.drew.heap.size 274 (fmV (fmO op none)):=by rw[e4];exact Blk.new w3.drew _ _
  have hB4:Blk w4 w2.heap.size 291 (six [fld s 0,fld s 1,fld s 2,fld s 3,fld s 4,fld s 5]):=by rw[e4];exact hB.drew.alloc _
  have hA4:Blk w4 w.heap.size 274 (fmV (fmO op none)):=by rw[e4];exact hA3.drew.alloc _
  have b4:Below w.heap.size w w4:=by rw[e4];exact b3'.drew.alloc (by show w.heap.size<=w3.heap.size;omega) _
  have z4:w4.heap.size=w3.heap.size+1:=by rw[e4];simp
  clear e4
  refine⟨hB4.cell (n:=5) rfl,hB4.cell (n:=3) rfl,hB4.cell (n:=2) rfl,hB4.cell (n:=0) rfl,?_⟩
  have zd:w3.drew.heap.size=w3.heap.size:=rfl
  generalize w3.drew.heap.size=n4 at zd hC4
  rw[e5,zob g5]
  refine ZK (vs:=[.int .u16 op,.string (bs (fld s 0)),.bool false,.bool false,.string (bs (fld s 2)),.string (bs (fld s 3)),.int .i64 0,.int .u8 ((c5.toNat-48:Nat):Int)]) hC4 rfl λw5 hC5 c5'=>?_
  have hB5:=c5'.blk hB4 (by omega)
  have hA5:=c5'.blk hA4 (by omega)
  have b5:=c5'.below b4 (by omega)
  have z5:=c5'.size
  refine⟨⟨by decide,by decide⟩,hB5.rT (n:=1) rfl ?_⟩
  refine Nw.gen λw6 e6=>?_
  have hI6:w6.heap[w5.heap.size]? =some (.stringIter (bs (fld s 1)) 0):=by
   rw[e6]
   show(w5.heap.push _)[w5.heap.size]? =_
   simp
  have hC6:=hC5.alloc (.stringIter (bs (fld s 1)) 0)
  have hB6:=hB5.alloc (.stringIter (bs (fld s 1)) 0)
  have hA6:=hA5.alloc (.stringIter (bs (fld s 1)) 0)
  have z6:w6.heap.size=w5.heap.size+1:=by rw[e6];simp
  have b6:Below w.heap.size w w6:=by rw[e6];exact b5.alloc (by omega) _
  rw[<-e6]at hC6 hB6 hA6
  clear e6
  refine zl.ghost (λj (_:Unit) w'=>∃k,k<=(fld s 1).length/\j=(fld s 1).length-k/\w'.heap.size=w6.heap.size/\Below w.heap.size w w'/\w'.heap[w5.heap.size]? =some (.stringIter (bs (fld s 1)) k)/\
   Blk w' w.heap.size 274 (fmV (fmO op none))/\Blk w' w2.heap.size 291 (six [fld s 0,fld s 1,fld s 2,fld s 3,fld s 4,fld s 5])/\
   Blk w' n4 274 [.int .u16 op,.string (bs (fld s 0)),.bool (((fld s 1).take k).contains 84),.bool (((fld s 1).take k).contains 82),.string (bs (fld s 2)),.string (bs (fld s 3)),.int .i64 0,.int .u8 ((c5.toNat-48:Nat):Int)])
   (fld s 1).length ⟨0,Nat.zero_le _,rfl,rfl,b6,hI6,hA6,hB6,hC6⟩ ?_
  rintro _ _ w7 ⟨k,hk,rfl,hz,hb,hI,hA,hB',hC⟩ next hnext
  refine⟨bs (fld s 1),k,hI,λhlt=>?_,λhge=>?_⟩
  ·rw[yq]at hlt
   have hc128:=h128' _ (List.getElem_mem hlt)
   rw[zco hlt hc128]
   dsimp only
   have hc:=Chg.iter w5.heap.size w7 (bs (fld s 1)) (k+1)
   have hI8:=zcv (w:=w7) (s:=bs (fld s 1)) (p:=k+1) (r:=w5.heap.size) (by omega)
   generalize YX w7 w5.heap.size (bs (fld s 1)) (k+1)=w8 at hc hI8
   have hA8:=hc.blk hA (by omega)
   have hB8:=hc.blk hB' (by omega)
   have hC8:=hc.blk hC (by omega)
   have hb8:=hc.below hb (by omega)
   have hz8:=hc.size.trans hz
   have htk:(fld s 1).take (k+1)=(fld s 1).take k++[(fld s 1)[k]]:=List.take_succ_eq_append_getElem hlt
   have hcon:∀(d:UInt8),((fld s 1).take (k+1)).contains d=(((fld s 1).take k).contains d||(((fld s 1)[k].toNat:Int)==((d.toNat:Nat):Int))):=by
    intro d
    rw[htk,List.contains_append]
    congr 1
    simp only[List.contains_cons,List.contains_nil,Bool.or_false]
    by_cases e:(fld s 1)[k]=d
    ·rw[e];simp
    ·have e1:(d==(fld s 1)[k])=false:=beq_eq_false_iff_ne.2 λh=>e h.symm
     have e2:(((fld s 1)[k].toNat:Int)==((d.toNat:Nat):Int))=false:=beq_eq_false_iff_ne.2 λh=>e (UInt8.toNat.inj (by omega))
     rw[e1,e2]
   refine zo.cut (λ_ w9=>Chg n4 w8 w9/\Blk w9 n4 274 [.int .u16 op,.string (bs (fld s 0)),.bool (((fld s 1).take (k+1)).contains 84),.bool (((fld s 1).take k).contains 82),.string (bs (fld s 2)),.string (bs (fld s 3)),.int .i64 0,.int .u8 ((c5.toNat-48:Nat):Int)]) ?_ ?_
   ·refine hC8.rB (n:=2) rfl (zz (λht=>?_) (λht=>?_))
    ·refine⟨hC8.wr (n:=2) (by simp),Chg.set _ _ _ _,?_⟩
     have:=hC8.set 2 (.bool true)
     rw[hcon 84,ht]
     exact this
    ·refine⟨hC8.wr (n:=2) (by simp),Chg.set _ _ _ _,?_⟩
     have:=hC8.set 2 (.bool (((fld s 1)[k].toNat:Int)==84))
     rw[hcon 84,ht,Bool.false_or]
     exact this
   ·rintro _ w9 ⟨c9,hC9⟩
    have fin:∀w10,Chg n4 w9 w10->Blk w10 n4 274 [.int .u16 op,.string (bs (fld s 0)),.bool (((fld s 1).take (k+1)).contains 84),.bool (((fld s 1).take (k+1)).contains 82),.string (bs (fld s 2)),.string (bs (fld s 3)),.int .i64 0,.int .u8 ((c5.toNat-48:Nat):Int)]->next () w10:=by
     intro w10 c10 hC10
     have cc:=c9.trans c10
     refine hnext ((fld s 1).length-(k+1)) _ _ (by omega) ⟨k+1,hlt,rfl,cc.size.trans hz8,cc.below hb8 (by omega),?_,cc.blk hA8 (by omega),cc.blk hB8 (by omega),hC10⟩
     rw[cc.block _ (by omega)]
     exact hI8
    refine hC9.rB (n:=3) rfl (zz (λht=>?_) (λht=>?_))
    ·refine⟨hC9.wr (n:=3) (by simp),fin _ (Chg.set _ _ _ _) ?_⟩
     have:=hC9.set 3 (.bool true)
     rw[hcon 82,ht]
     exact this
    ·refine⟨hC9.wr (n:=3) (by simp),fin _ (Chg.set _ _ _ _) ?_⟩
     have:=hC9.set 3 (.bool (((fld s 1)[k].toNat:Int)==82))
     rw[hcon 82,ht,Bool.false_or]
     exact this
  ·rw[yq]at hge
   have hk:k=(fld s 1).length:=by omega
   subst hk
   rw[List.take_length]at hC
   refine zo.cut (λ_ w9=>Chg n4 w7 w9/\Blk w9 n4 274 (fmV (fmO op (some (zjR s))))) ?_ ?_
   ·refine⟨⟨by decide,by decide⟩,hB'.rT (n:=4) rfl ?_⟩
    rw[Yo]
    cases e4:fld s 4 with
    |nil=>
     refine zJ rfl ⟨Chg.refl _ _,?_⟩
     have ep:zjR s=(fld s 0,(fld s 1).contains 84,(fld s 1).contains 82,fld s 2,fld s 3,0,c5.toNat-48):=by
      unfold zjR
      rw[e4,e5]
     rw[ep]
     exact hC
    |cons c4 r4=>
     have g:=g4 _ _ e4
     refine zR rfl ⟨⟨by decide,by decide⟩,?_⟩
     rw[e4]at hB'
     refine hB'.rT (n:=4) rfl ⟨⟨by decide,by rw[yq];simp⟩,hC.wr (n:=6) (by simp),Chg.set _ _ _ _,?_⟩
     rw[zob g,zq (by omega) (by have:=c4.toNat_lt;omega)]
     have ep:zjR s=(fld s 0,(fld s 1).contains 84,(fld s 1).contains 82,fld s 2,fld s 3,c4.toNat-48,c5.toNat-48):=by
      unfold zjR
      rw[e4,e5]
     rw[ep]
     exact hC.set 6 (.int .i64 ((c4.toNat-48:Nat):Int))
   ·rintro _ w9 ⟨c9,hC9⟩
    refine Fm.load hC9 ?_
    refine ZK (vs:=fmV (fmO op (some (zjR s)))) (c9.blk hA (by omega)) rfl λw10 h1 h2=>?_
    exact Fm.load h1 (hR w10 (h2.below (c9.below hb (by omega)) (Nat.le_refl _)))
end Go.Proofs
namespace Go.Proofs
open Go.Gk Go.RowKit Go.Gm
def fl0:Fl:=([],false,false,[],[],0,0)
def flOf(op:Int):Fl:=(frm op).getD fl0
theorem zqW(op:Int):ze3 (flOf op)=true:=by
 unfold flOf
 cases h:frm op with
 |none=>decide +kernel
 |some f=>exact zoC h
structure FmIs (f:Fm) (g:Fl):Prop where
 fixed:f.2.2.2.2.1=bs g.fixed
 rest:f.2.2.2.2.2.1=bs g.rest
 most:f.2.2.2.2.2.2.1=(g.most:Int)
theorem fmIs(op:Int):FmIs (fmO op (frm op)) (flOf op):=by
 unfold flOf
 cases h:frm op with
 |none=>exact⟨rfl,rfl,rfl⟩
 |some f=>exact⟨rfl,rfl,rfl⟩
structure LOk (g:Fl):Prop where
 fixed:∀c∈g.fixed,c≠0
 rest:∀c∈g.rest,c≠0
 fl:g.fixed.length<=100
 rl:g.rest.length<=100
 ml:g.most<=100
theorem lOk{g:Fl}(h:ze3 g=true):LOk g:=by
 unfold ze3 at h
 simp only[Bool.and_eq_true,List.all_eq_true,bne_iff_ne,decide_eq_true_eq]at h
 obtain⟨⟨⟨⟨h1,h2⟩,h3⟩,h4⟩,h5⟩:=h
 exact⟨h1,h2,h3,h4,h5⟩
def fixP(g:Fl)(k:Nat):Nat:=if k<g.fixed.length then(g.fixed.getD k 0).toNat else 0
def zjT(g:Fl)(k:Nat):Nat:=
 if k<g.fixed.length then 0 else if g.rest.length=0 then 0 else if 0<g.most/\g.most*g.rest.length<=k-g.fixed.length then 0
 else(g.rest.getD ((k-g.fixed.length) % g.rest.length) 0).toNat
theorem zt1{g:Fl}{k:Nat}(h:fixP g k≠0):letP g k=fixP g k:=by
 unfold fixP at h⊢
 unfold letP
 split
 ·rfl
 ·rename_i h1;rw[if_neg h1]at h;exact absurd rfl h
theorem zm1{g:Fl}(hg:LOk g){k:Nat}(h:fixP g k=0):letP g k=zjT g k:=by
 unfold fixP at h
 unfold zjT letP
 split at h
 ·rename_i h1
  rw[zp h1]at h
  exact absurd (UInt8.toNat.inj (b:=0) h) (hg.fixed _ (List.getElem_mem h1))
 ·rename_i h1
  rw[if_neg h1,if_neg h1]
section
variable {f:Fm} {g:Fl} {w:World} {R:VWP}
theorem zpS(hf:FmIs f g){i:Nat}(hR:∀w',Below w.heap.size w w'->R (.int .u8 (fixP g i:Int)) w') :
  cR 210 #[fmA f,.int .i64 (i:Int)] w R:=by
 refine za.of (zdK f i R w ?_) λ_ _ h=>h
 refine zm λw1 hB b1 z1=>?_
 have hB:Blk w1 w.heap.size 301 (fmV f):=hB
 have hf4:=hf.fixed
 refine zo.cut (λ_ w'=>w'=w1/\i<g.fixed.length) ?_ ?_
 ·refine zj (λh=>absurd h (by omega)) (λ_=>?_)
  refine hB.rT (n:=4) rfl ?_
  rw[hf4,yq]
  refine zj (λh=>?_) (λh=>⟨rfl,by omega⟩)
  have:=hR w1 b1
  rwa[fixP,if_neg (by omega)]at this
 ·rintro _ w' ⟨rfl,hlt⟩
  refine hB.rT (n:=4) rfl ?_
  rw[hf4,yq,zmW]
  refine⟨⟨by omega,by omega⟩,?_⟩
  have:=hR w' b1
  rwa[fixP,if_pos hlt]at this
theorem zsj(hf:FmIs f g)(hg:LOk g){i:Nat}(hi:i<=9223372036854775807)(hR:∀w',Below w.heap.size w w'->R (.int .u8 (zjT g i:Int)) w') :
  cR 211 #[fmA f,.int .i64 (i:Int)] w R:=by
 refine za.of (zev f i R w ?_) λ_ _ h=>h
 refine zm λw1 hB b1 z1=>?_
 have hB:Blk w1 w.heap.size 301 (fmV f):=hB
 have h1:=hg.fl
 have h2:=hg.rl
 have h3:=hg.ml
 refine hB.rT (n:=4) rfl ?_
 have hf4:=hf.fixed
 have hf5:=hf.rest
 have hf6:=hf.most
 rw[hf4,yq,zq (by omega) (by omega)]
 have hmul:g.most*g.rest.length<=10000:=Nat.le_trans (Nat.mul_le_mul h3 h2) (by omega)
 refine zo.cut (λ_ w'=>w'=w1/\g.fixed.length<=i/\g.rest.length≠0/\¬(0<g.most/\g.most*g.rest.length<=i-g.fixed.length)) ?_ ?_
 ·refine zj (λh=>?_) (λh=>?_)
  ·have:=hR w1 b1
   rwa[zjT,if_pos (by omega)]at this
  ·have hge:¬i<g.fixed.length:=by omega
   refine hB.rT (n:=5) rfl ?_
   rw[hf5,Yo]
   refine zz (λe=>?_) (λe=>?_)
   ·have:=hR w1 b1
    rwa[zjT,if_neg hge,if_pos (by rw[List.isEmpty_iff]at e;rw[e];rfl)]at this
   ·have hne:g.rest.length≠0:=by
     intro h
     rw[List.eq_nil_of_length_eq_zero h]at e
     cases e
    refine hB.rI (n:=6) rfl ?_
    rw[hf6]
    refine zj (λhm=>?_) (λhm=>⟨rfl,by omega,hne,by omega⟩)
    refine hB.rI (n:=6) rfl (hB.rT (n:=5) rfl ?_)
    rw[hf6,hf5,yq,<-Int.natCast_mul,zq (by omega) (by omega)]
    refine zj (λhc=>?_) (λhc=>⟨rfl,by omega,hne,by omega⟩)
    have:=hR w1 b1
    rwa[zjT,if_neg hge,if_neg hne,if_pos ⟨by omega,by omega⟩]at this
 ·rintro _ w' ⟨rfl,hge,hne,hno⟩
  refine hB.drew.rT (n:=5) rfl (hB.drew.rT (n:=5) rfl ?_)
  rw[hf5,yq]
  refine zj (λh=>absurd h (by omega)) (λ_=>?_)
  have e:Int.tmod ((i:Int)-(g.fixed.length:Int)) (g.rest.length:Int)=(((i-g.fixed.length) % g.rest.length:Nat):Int):=by
   rw[show(i:Int)-(g.fixed.length:Int)=((i-g.fixed.length:Nat):Int) by omega]
   exact Int.ofNat_tmod _ _ |>.symm
  have hlt:(i-g.fixed.length) % g.rest.length<g.rest.length:=Nat.mod_lt _ (by omega)
  rw[e,zmW]
  refine⟨⟨by omega,by omega⟩,?_⟩
  have:=hR w'.drew b1.drew
  rwa[zjT,if_neg (by omega),if_neg hne,if_neg hno]at this
theorem zjO(hf:FmIs f g)(hg:LOk g){i:Nat}(hi:i<=9223372036854775807)(hR:∀w',Below w.heap.size w w'->R (.int .u8 (letP g i:Int)) w') :
  cR 204 #[fmA f,.int .i64 (i:Int)] w R:=by
 refine za.of (zdf f i R w ?_) λ_ _ h=>h
 refine zm λw1 hB b1 z1=>?_
 have hB:Blk w1 w.heap.size 301 (fmV f):=hB
 refine zj (λh=>absurd h (by omega)) (λ_=>?_)
 refine Fm.load hB (Fm.load hB ?_)
 refine zm λw2 hF b2 z2=>?_
 have b2':=b1.on b2
 refine zl.count 2 (by omega) (λk w'=>Below w.heap.size w w'/\Below w2.heap.size w2 w'/\(0<k->fixP g i=0)/\(1<k->zjT g i=0)) ⟨b2',Below.refl _ _,λh=>by omega,λh=>by omega⟩ ?_
 rintro k w3 hk ⟨hb,hb2,hk1,hk2⟩ next hnext
 have hF3:=hF.below hb2
 have z3:=hb.size
 refine zj (λh=>?_) (λh=>?_)
 ·refine⟨⟨by omega,by omega⟩,?_⟩
  match k,h,hk1,hk2,hnext with
  | 0,_,_,_,hnext=>
   refine⟨_,hF3.cell (n:=0) rfl,?_⟩
   show cR 210 #[fmA f,.int .i64 (i:Int)] w3 _
   refine zpS hf λw4 b4=>⟨_,rfl,?_⟩
   refine zy (λe=>?_) (λe=>?_)
   ·have:=hR w4 (hb.on b4)
    rwa[zt1 (by omega)]at this
   ·exact hnext w4 (by omega) ⟨hb.on b4,hb2.on b4,λ_=>by omega,λh=>by omega⟩
  | 1,_,hk1,_,hnext=>
   refine⟨_,hF3.cell (n:=1) rfl,?_⟩
   show cR 211 #[fmA f,.int .i64 (i:Int)] w3 _
   refine zsj hf hg hi λw4 b4=>⟨_,rfl,?_⟩
   have hf0:=hk1 (by omega)
   refine zy (λe=>?_) (λe=>?_)
   ·have:=hR w4 (hb.on b4)
    rwa[zm1 hg hf0]at this
   ·exact hnext w4 (by omega) ⟨hb.on b4,hb2.on b4,λ_=>hf0,λ_=>by omega⟩
  |k+2,h,_,_,_=>dsimp only at h;omega
 ·have hk:1<k:=by dsimp only at h;omega
  have:=hR w3 hb
  rwa[zm1 hg (hk1 (by omega)),hk2 hk]at this
end
theorem zri(c:Int)(R:VWP)(w:World):zbs c R w=zmk tabN c (λs=>R (.string (bs s)) w) (R (.string (bs [])) w):=by kernel_rfl
theorem zma{c:Int}{w:World}{R:VWP}(hR:R (.int .u8 (yJ c)) w):cR 195 #[.int .u8 c] w R:=by
 refine za.of (zhD c R w ?_) λ_ _ h=>h
 unfold yJ at hR
 refine zk (λe=>by rwa[if_pos e]at hR) (λe=>?_)
 rw[if_neg e]at hR
 refine zk (λe=>by rwa[if_pos e]at hR) (λe=>?_)
 rw[if_neg e]at hR
 refine zk (λe=>by rwa[if_pos e]at hR) (λe=>?_)
 rw[if_neg e]at hR
 refine za.of (zch c _ w ?_) λ_ _ h=>h
 rw[zri]
 refine zei (λs hs=>⟨_,rfl,?_⟩) (λhs=>⟨_,rfl,?_⟩)
 ·dsimp only[zB,Go.Gk.Sl.zw,zi,zu,zb,zh];rw[Yo]
  have:=List.all_eq_true.1 ztB _ (ZC hs)
  rw[hs]at hR
  exact zR this hR
 ·dsimp only[zB,Go.Gk.Sl.zw,zi,zu,zb,zh];rw[Yo]
  rw[hs]at hR
  exact zJ rfl hR
theorem zr1{op:Int}{s:Sl}{ks:List Int}{w:World}{R:VWP}(hs:IsS (Value.int .u8) w s ks)
  (hR:∀w',Below w.heap.size w w'->R (.tuple #[.int .i64 ((fitP op ks).1:Int),.bool (fitP op ks).2]) w') :
  cR 198 #[.int .u16 op,.slice s.a s.l s.c] w R:=by
 refine za.of (zhC op s R w ?_) λ_ _ h=>h
 have hg:=lOk (zqW op)
 have hlen:=hs.len
 have hmax:=hs.bound
 refine zi9 λw1 b1=>⟨fmO op (frm op),(frm op).isSome,rfl,?_⟩
 refine zfV (T:=274) (vs:=fmV (fmO op (frm op))) rfl λw2 hB b2 z2=>?_
 refine zz (λhn=>?_) (λhn=>?_)
 ·have hfr:frm op=none:=by
   cases h:frm op with
   |none=>rfl
   |some g=>rw[h]at hn;cases hn
  rw[zrI hfr]at hR
  exact hR w2 (b1.on b2)
 ·obtain⟨g,hfr⟩:∃g,frm op=some g:=by
   cases h:frm op with
   |none=>rw[h]at hn;cases hn
   |some g=>exact⟨g,rfl⟩
  rw[zmq hfr]at hR
  have efl:flOf op=g:=by unfold flOf;rw[hfr];rfl
  have hfm:=fmIs op
  rw[efl]at hfm hg
  generalize fmO op (frm op)=fm at hB hfm
  refine Fm.load hB ?_
  refine box8 rfl λw3 hC b3 z3=>?_
  have hC:Blk w3 w2.heap.size 301 (fmV fm):=hC
  have b3':=(b1.on b2).on b3
  refine zl.count s.l (by omega) (λk w'=>Below w.heap.size w w'/\Below w3.heap.size w3 w'/\∀j,j<k->bad g ks j=false) ⟨b3',Below.refl _ _,λj hj=>by omega⟩ ?_
  rintro k w4 hk ⟨hb,hb3,hj⟩ next hnext
  have hC4:=hC.below hb3
  have hs4:=hs.below hb
  refine zj (λh=>?_) (λh=>?_)
  ·have hlt:k<ks.length:=by dsimp only at h;omega
   have hbadE:bad g ks k=(ks[k]==0||yJ (letP g k) !=ks[k]):=by unfold bad;rw[zp hlt]
   refine zo.cut (λ_ w'=>Below w4.heap.size w4 w'/\bad g ks k=false) ?_ ?_
   ·refine hs4.addr hlt λa _ hc=>⟨_,hc,?_⟩
    refine zk (λe=>?_) (λe=>?_)
    ·have:=hR w4 hb
     rwa[zqU hlt (by rw[hbadE,e];rfl) hj]at this
    ·refine Fm.load hC4 ?_
     refine zjO hfm hg (by omega) λw5 b5=>⟨_,rfl,?_⟩
     refine zma ⟨_,rfl,?_⟩
     refine zy (λe2=>?_) (λe2=>?_)
     ·have:=hR w5 (hb.on b5)
      rwa[zqU hlt (by rw[hbadE,bne_iff_ne.2 e2,Bool.or_true]) hj]at this
     ·refine⟨b5,?_⟩
      rw[hbadE,e2]
      simpa using e
   ·rintro _ w5 ⟨b5,hbk⟩
    refine hnext w5 (by omega) ⟨hb.on b5,hb3.on b5,λj hj'=>?_⟩
    by_cases e:j=k
    ·subst e;exact hbk
    ·exact hj j (by omega)
  ·have hk:k=ks.length:=by dsimp only at h;omega
   subst hk
   have hfit:=zo7 hj
   have hR':=hR w4 hb
   rw[show fitF g ks=_ from hfit]at hR'
   have h1:=hg.fl
   refine hC4.rT (n:=4) rfl ?_
   rw[hfm.fixed,yq,zq (by omega) (by omega),hlen]
   refine zj (λhn=>?_) (λhn=>?_)
   ·rwa[if_pos (by unfold zdb;rw[decide_eq_true (by omega),Bool.true_or])]at hR'
   ·have hge:¬ks.length<g.fixed.length:=by omega
    refine hC4.rT (n:=5) rfl ?_
    rw[hfm.rest,Yo]
    refine zz (λe=>?_) (λe=>?_)
    ·have hne:g.rest.length≠0:=by
      intro h
      rw[List.eq_nil_of_length_eq_zero h]at e
      cases e
     refine hC4.rT (n:=5) rfl ?_
     rw[hfm.rest,yq]
     refine zj (λh=>absurd h (by omega)) (λ_=>?_)
     have e3:Int.tmod ((ks.length:Int)-(g.fixed.length:Int)) (g.rest.length:Int)=(((ks.length-g.fixed.length) % g.rest.length:Nat):Int):=by
      rw[show(ks.length:Int)-(g.fixed.length:Int)=((ks.length-g.fixed.length:Nat):Int) by omega]
      exact Int.ofNat_tmod _ _ |>.symm
     rw[e3]
     refine zy (λe4=>?_) (λe4=>?_)
     ·rwa[if_pos (by unfold zdb;rw[decide_eq_false hge,decide_eq_true hne,decide_eq_true (by omega)];rfl)]at hR'
     ·rwa[if_neg (by unfold zdb;rw[decide_eq_false hge,decide_eq_true hne,decide_eq_false (by omega)];decide)]at hR'
    ·have hz:g.rest.length=0:=by
      have:g.rest.isEmpty=true:=by simpa using e
      rw[List.isEmpty_iff]at this
      rw[this]
      rfl
     rwa[if_neg (by unfold zdb;rw[decide_eq_false hge,decide_eq_false (show ¬g.rest.length≠0 by omega),Bool.false_and];decide)]at hR'
end Go.Proofs
namespace Go.Proofs
open Go.Gk Go.RowKit Go.Gm
end Go.Proofs
namespace Go.Gk
open Go.RowKit
theorem Blk.put{w:World}{b:Nat}{T:TypeId}{cs:List Value}(h:Blk w b T cs){l:Nat}(hl:b≠l)(o:Obj):Blk (w.putObj l o) b T cs:=h.of_block (World.putObj_heap_other hl)
theorem _root_.Go.RowKit.Below.putObj{B:Nat}{w w':World}(h:Below B w w'){b:Nat}(hb:B<=b)(o:Obj):Below B w (w'.putObj b o):=
 ⟨h.os,h.tape,h.output,by simpa using h.size,λk hk=>(World.putObj_heap_other (by omega)).trans (h.block k hk)⟩
theorem zlr(w:World)(o o':Obj):Below w.heap.size w ((w.alloc o).alloc o'):=(((Below.refl _ _).alloc (Nat.le_refl _) o).alloc (by simp) o')
theorem zrV(w:World)(o o':Obj):((w.alloc o).alloc o').heap.size=w.heap.size+2:=by simp
theorem ztw(w:World)(o o':Obj):((w.alloc o).alloc o').heap[w.heap.size]? =some o:=(zgB (w.alloc o) o' (by simp)).trans (World.alloc_heap_new w o)
theorem ztx(w:World)(o o':Obj):((w.alloc o).alloc o').heap[w.heap.size+1]? =some o':=by
 have:=World.alloc_heap_new (w.alloc o) o'
 simpa using this
theorem zkL{d:Nat}{w:World}{k:World->Prop}(h:w.heap[d]? =some (.deferred (some [])))(hk:k (w.putObj d (.deferred none))):zeN [d] w k:=⟨h,hk⟩
theorem zL.mono{P:Program}{fs:List Nat}{f:Value}{args:List Value}{w:World}{S T:VWP}(h:zL P fs f args w S)(hk:∀v w',S v w'->T v w'):zL P fs f args w T:=by
 revert h
 unfold zL
 split
 ·split
  ·exact λh=>za.mono h hk
  ·rintro⟨v,w',h1,h2⟩
   exact⟨v,w',h1,hk _ _ h2⟩
 ·rintro⟨r,h1,h2,h3⟩
  exact⟨r,h1,h2,RoundIn.mono h3 λe w' he=>by cases e<;>first |exact hk _ _ he |exact he.elim⟩
 ·exact id
end Go.Gk
namespace Go.Gk
open Go.RowKit Go.MapKept
variable {P:Program}
def yp:List (Int×Int)->Int->Option Int
 | [],_=>none
 |p::r,k=>if k=p.1 then some p.2 else yp r k
def setL:List (Int×Int)->Int->Int->List (Int×Int)
 | [],k,v=>[(k,v)]
 |p::r,k,v=>if k=p.1 then(k,v)::r else p::setL r k v
theorem ze4(k v k':Int):∀L,yp (setL L k v) k'=if k'=k then some v else yp L k'
 | []=>by simp only[setL,yp]
 |p::r=>by
  have ih:=ze4 k v k' r
  simp only[setL]
  split
  ·rename_i e
   simp only[yp]
   split
   ·rfl
   ·rename_i e'
    rw[if_neg (by rw[<-e];exact e')]
  ·rename_i e
   simp only[yp]
   split
   ·rename_i e'
    rw[if_neg (by rw[e'];exact λh=>e h.symm)]
   ·exact ih
def IsMp(w:World)(r:Nat)(κ:IntKind)(L:List (Int×Int)):Prop:=
 ∃es clock,w.heap[r]? =some (.map es clock)/\es.toList.map (λe=>(e.key,e.val))=(L.map λp=>(Value.int .u32 p.1,Value.int κ p.2))/\(∀x∈es.toList,x.born<clock)/\(es.toList.map (·.born)).Nodup
theorem IsMp.lt{w:World}{r:Nat}{κ:IntKind}{L:List (Int×Int)}(h:IsMp w r κ L):r<w.heap.size:=by
 obtain⟨es,c,h,_⟩:=h
 exact(Array.getElem?_eq_some_iff.1 h).1
theorem IsMp.of_block{w w':World}{r:Nat}{κ:IntKind}{L:List (Int×Int)}(h:IsMp w r κ L)(hb:w'.heap[r]? =w.heap[r]?):IsMp w' r κ L:=by
 obtain⟨es,c,h,h2⟩:=h
 exact⟨es,c,hb.trans h,h2⟩
theorem IsMp.below{w w':World}{r:Nat}{κ:IntKind}{L:List (Int×Int)}(h:IsMp w r κ L)(hb:Below w.heap.size w w'):IsMp w' r κ L:=h.of_block (hb.block r h.lt)
theorem IsMp.new(w:World)(κ:IntKind):IsMp (w.alloc (.map #[] 0)) w.heap.size κ []:=⟨#[],0,by show(w.heap.push _)[w.heap.size]? =_;simp,rfl,(by simp),by simp⟩
theorem zhA(κ:IntKind)(k:Int):∀(es:List MapEntry) (L:List (Int×Int)) (i:Nat),es.map (λe=>(e.key,e.val))=(L.map λp=>(Value.int .u32 p.1,Value.int κ p.2))->
  ∃o,Instr.findNow (.int .u32) (.int .u32 k) es i=some o/\(match o with
   |none=>yp L k=none
   |some (j,v)=>∃m x,j=i+m/\m<es.length/\v =.int κ x/\yp L k=some x/\∃e,es[m]? =some e/\e.key =.int .u32 k/\∀v',(es.modify m λe=>{e with key:=.int .u32 k,val:=.int κ v'}).map (λe=>(e.key,e.val))=(setL L k v').map λp=>(Value.int .u32 p.1,Value.int κ p.2))
 | [],[],i,_=>⟨none,rfl,rfl⟩
 | [],_::_,_,h=>by simp at h
 |_::_,[],_,h=>by simp at h
 |e::es,p::L,i,h=>by
  simp only[List.map_cons,List.cons.injEq,Prod.mk.injEq]at h
  obtain⟨⟨h1,h2⟩,h3⟩:=h
  unfold Instr.findNow
  rw[h1]
  simp only[Instr.sameNow,if_true]
  by_cases hk:k=p.1
  ·rw[show(k==p.1)=true from beq_iff_eq.2 hk]
   refine⟨some (i,e.val),rfl,0,p.2,rfl,by simp,h2,by simp[yp,hk],e,rfl,by rw[h1,hk],λv'=>?_⟩
   simp[setL,hk,h3]
  ·rw[show(k==p.1)=false from beq_eq_false_iff_ne.2 hk]
   obtain⟨o,ho,hm⟩:=zhA κ k es L (i+1) h3
   refine⟨o,ho,?_⟩
   cases o with
   |none=>simpa[yp,hk] using hm
   |some q=>
    obtain⟨j,v⟩:=q
    obtain⟨m,x,g1,g2,g3,g4,e',g5,g6,g7⟩:=hm
    refine⟨m+1,x,by omega,by simp;omega,g3,by simpa[yp,hk] using g4,e',by simpa using g5,g6,λv'=>?_⟩
    have:=g7 v'
    simp[setL,hk,h1,h2,this]
theorem zjV{t kt et:TypeId}(ht:P.underlying t=some (.map kt et))(hk:P.underlying kt=some (.int .u32)){κ:IntKind}(hz:∃i,P.info? et=some i/\i.zero=some (.int κ 0)){w:World}{r:Nat}{L:List (Int×Int)}(h:IsMp w r κ L)(k:Int)(ok:Bool) :
  (Instr.lookup t (.map (some r)) (.int .u32 k) ok).run P w =.ok (if ok then .tuple #[.int κ ((yp L k).getD 0),.bool (yp L k).isSome] else .int κ ((yp L k).getD 0)) w:=by
 obtain⟨es,c,hb,hes,_⟩:=h
 obtain⟨i,hi,hzi⟩:=hz
 obtain⟨o,ho,hm⟩:=zhA κ k es.toList L 0 hes
 unfold Instr.lookup
 have hck:∀e,(Instr.checkKey e 10000 kt (.int .u32 k)).run P w =.ok () w:=λe=>run_checkKey (d:=.int .u32) hk (by simp[IsKey]) e 9999
 have hg:(getObj r).run P w =.ok (.map es c) w:=Go.MapKept.run_getObj_map hb
 simp only[Sem.run_bind,run_underlying ht,Result.andThen_ok,hg,Sem.run_pure,hck,run_findKey hk ho]
 cases o with
 |none=>
  have hzr:(zeroValue et).run P w =.ok (.int κ 0) w:=by simp[zeroValue,typeInfo,hi,hzi,Result.andThen]
  have hm:yp L k=none:=hm
  simp only[Sem.run_bind,hzr,Result.andThen_ok,Sem.run_pure,hm,Option.getD_none,Option.isSome_none]
 |some q=>
  obtain⟨j,v⟩:=q
  obtain⟨m,x,g1,g2,g3,g4,_⟩:=hm
  simp only[Sem.run_bind,Sem.run_pure,Result.andThen_ok,g3,g4,Option.getD_some,Option.isSome_some]
theorem zjz{t kt et:TypeId}(ht:P.underlying t=some (.map kt et))(hk:P.underlying kt=some (.int .u32)){κ:IntKind}(hz:∃i,P.info? et=some i/\i.zero=some (.int κ 0)){w:World}{r:Nat}{L:List (Int×Int)}(h:IsMp w r κ L){k:Int}{φ:Int->Bool->Prop}
  (hφ:φ ((yp L k).getD 0) (yp L k).isSome):lookOk P t (.map (some r)) (.int .u32 k) (BK.int κ) w φ:=⟨(yp L k).getD 0,(yp L k).isSome,zjV ht hk hz h k true,hφ⟩
theorem zt4{t kt et:TypeId}(ht:P.underlying t=some (.map kt et))(hk:P.underlying kt=some (.int .u32)){κ:IntKind}(hz:∃i,P.info? et=some i/\i.zero=some (.int κ 0)){w:World}{r:Nat}{L:List (Int×Int)}(h:IsMp w r κ L){k:Int}{φ:Int->Prop}
  (hφ:φ ((yp L k).getD 0)):zax P t (.map (some r)) (.int .u32 k) (BK.int κ) w φ:=⟨(yp L k).getD 0,zjV ht hk hz h k false,hφ⟩
theorem zrv{t kt et:TypeId}(ht:P.underlying t=some (.map kt et))(hk:P.underlying kt=some (.int .u32)){κ:IntKind}{w:World}{r:Nat}{L:List (Int×Int)}(h:IsMp w r κ L){k v:Int}{K:World->Prop}
  (hK:∀w',IsMp w' r κ (setL L k v)->Go.Proofs.Chg r w w'->K w'):updW P t (.map (some r)) (.int .u32 k) (.int κ v) w K:=by
 have hlt:=h.lt
 obtain⟨es,c,hb,hes,hstamp,hnd⟩:=h
 obtain⟨o,ho,hm⟩:=zhA κ k es.toList L 0 hes
 have hck:∀e,(Instr.checkKey e 10000 kt (.int .u32 k)).run P w =.ok () w:=λe=>run_checkKey (d:=.int .u32) hk (by simp[IsKey]) e 9999
 have hg:(getObj r).run P w =.ok (.map es c) w:=Go.MapKept.run_getObj_map hb
 have chg:∀ob:Obj,Go.Proofs.Chg r w {w with heap:=w.heap.setIfInBounds r ob}:=λob=>⟨rfl,rfl,rfl,by simp,λi hi=>by simp[Array.getElem?_setIfInBounds_ne (Ne.symm hi)]⟩
 unfold updW Instr.mapUpdate
 simp only[Sem.run_bind,run_underlying ht,Result.andThen_ok,hg,hck,run_findKey hk ho]
 cases o with
 |none=>
  simp only[run_setObj_map _ hb]
  refine⟨_,rfl,hK _ ⟨_,_,(heap_set hb).1,?_,λx hx=>?_,?_⟩ (chg _)⟩
  rotate_left
  ·rw[Array.toList_push]at hx
   rcases List.mem_append.1 hx with hx |hx
   ·exact Nat.lt_succ_of_lt (hstamp x hx)
   ·rw[List.mem_singleton.1 hx]
    exact Nat.lt_succ_self c
  ·rw[Array.toList_push,List.map_append]
   refine List.nodup_append.2 ⟨hnd,by simp,?_⟩
   intro a ha b hb e
   obtain⟨x,hx,rfl⟩:=List.mem_map.1 ha
   simp only[List.map_cons,List.map_nil,List.mem_singleton]at hb
   have:=hstamp x hx
   omega
  simp only[Array.toList_push,List.map_append,hes,List.map_cons,List.map_nil]
  have:∀L:List (Int×Int),yp L k=none->setL L k v=L++[(k,v)]:=by
   intro L
   induction L with
   |nil=>intro _;rfl
   |cons p r ih=>
    intro hn
    simp only[yp]at hn
    split at hn
    ·cases hn
    ·rename_i e
     simp only[setL]
     rw[if_neg e,ih hn]
     rfl
  rw[this L hm]
  simp
 |some q=>
  obtain⟨j,v0⟩:=q
  obtain⟨m,x,g1,g2,g3,g4,e,g5,g6,g7⟩:=hm
  have hj:j=m:=by omega
  subst hj
  have hst:(Instr.keyThatStays (((es[j]?).map (·.key)).getD (.int .u32 k)) (.int .u32 k)).run P w =.ok (.int .u32 k) w:=by
   have:((es[j]?).map (·.key)).getD (.int .u32 k) =.int .u32 k:=by
    rw[<-Array.getElem?_toList,g5]
    exact g6
   rw[this]
   unfold Instr.keyThatStays
   rw[if_pos (by simp[Instr.sameBits])]
   rfl
  simp only[Sem.run_bind,hst,Result.andThen_ok,run_setObj_map _ hb]
  have hbn:(es.modify j λe=>{e with key:=.int .u32 k,val:=.int κ v}).toList.map (·.born)=es.toList.map (·.born):=by
   rw[Array.toList_modify]
   apply List.ext_getElem
   ·simp
   ·intro n q1 q2
    simp only[List.getElem_map,List.getElem_modify]
    split<;>rfl
  refine⟨_,rfl,hK _ ⟨_,_,(heap_set hb).1,?_,λx hx=>?_,by rw[hbn];exact hnd⟩ (chg _)⟩
  rotate_left
  ·have:x.born∈es.toList.map (·.born):=by rw[<-hbn];exact List.mem_map.2 ⟨x,hx,rfl⟩
   obtain⟨y,hy,e⟩:=List.mem_map.1 this
   rw[<-e]
   exact hstamp y hy
  have:=g7 v
  rw[<-this]
  congr 1
  rw[Array.toList_modify]
end Go.Gk
namespace Go.Gm
open Go.Gk
def numS(n:Int)(c:UInt8):Int:=IntKind.u32.wrap (IntKind.u32.wrap (10*n)+IntKind.u32.wrap (IntKind.i32.wrap ((c.toNat:Int)-48)))
def numP(s:Bs):Int:=s.foldl numS 0
abbrev EnS:=Int×Bs×Bool×List (Int×Bs)
def enS(st:EnS)(c:UInt8):EnS:=
 if c=32 then(if st.2.2.1=true then(st.1,[],false,st.2.2.2++[(st.1,st.2.1)]) else(numP st.2.1,[],true,st.2.2.2)) else(st.1,st.2.1++[c],st.2.2.1,st.2.2.2)
def enG(s:Bs):EnS:=s.foldl enS (0,[],false,[])
def enL(c:Int):List (Int×Bs):=(enG ((Gm.look tabN c).getD [])).2.2.2
theorem zsY(s:Bs)(c:UInt8):enG (s++[c])=enS (enG s) c:=by simp[enG,List.foldl_append]
theorem zu3(st:EnS)(c:UInt8):st.2.2.2 <+:(enS st c).2.2.2:=by
 unfold enS
 split
 ·split
  ·exact List.prefix_append _ _
  ·exact List.prefix_refl _
 ·exact List.prefix_refl _
theorem zrL(l:Bs):∀st:EnS,st.2.2.2 <+:(l.foldl enS st).2.2.2:=by
 induction l with
 |nil=>intro st;exact List.prefix_refl _
 |cons c l ih=>intro st;exact(zu3 st c).trans (ih _)
theorem zu2(s:Bs)(k:Nat):(enG (s.take k)).2.2.2 <+:(enG s).2.2.2:=by
 have:enG s=(s.drop k).foldl enS (enG (s.take k)):=by
  unfold enG
  rw[<-List.foldl_append,List.take_append_drop]
 rw[this]
 exact zrL _ _
theorem zsZ(s:Bs):(enG s).2.1.length<=s.length:=by
 suffices h:∀(l:Bs) (st:EnS),(l.foldl enS st).2.1.length<=st.2.1.length+l.length by
  have:=h s (0,[],false,[])
  unfold enG
  simpa using this
 intro l
 induction l with
 |nil=>intro st;simp
 |cons c l ih=>
  intro st
  have h1:=ih (enS st c)
  have h2:(enS st c).2.1.length<=st.2.1.length+1:=by
   unfold enS
   split
   ·split<;>simp
   ·simp
  simp only[List.foldl_cons,List.length_cons]
  omega
theorem zrF{s:Bs}(h:∀c∈s,c<128):∀c∈(enG s).2.1,c<128:=by
 suffices g:∀(l:Bs) (st:EnS),(∀c∈l,c<128)->(∀c∈st.2.1,c<128)->∀c∈(l.foldl enS st).2.1,c<128 from g s (0,[],false,[]) h (by simp)
 intro l
 induction l with
 |nil=>intro st _ h;exact h
 |cons c l ih=>
  intro st hl hs
  refine ih (enS st c) (λd hd=>hl d (List.mem_cons_of_mem _ hd)) ?_
  unfold enS
  split
  ·split<;>simp
  ·intro d hd
   rcases List.mem_append.1 hd with h |h
   ·exact hs d h
   ·rw[List.mem_singleton.1 h];exact hl c List.mem_cons_self
theorem zoY:tabN.all (λp=>p.2.all (·<128)&&decide (p.2.length<=200))=true:=by decide +kernel
theorem zqi:tabN.all (λp=>decide ((enG p.2).2.2.2=(tabM.filter λq=>decide (q.1=p.1)).map (·.2)))=true:=by decide +kernel
def zhr(c n:Int):Bool:=tabM.any λq=>decide (q.1=c)&&decide (q.2.1=n)
theorem zsk(c:Int):(∀b∈(Gm.look tabN c).getD [],b<128)/\((Gm.look tabN c).getD []).length<=200:=by
 cases h:Gm.look tabN c with
 |none=>simp
 |some s=>
  have:=List.all_eq_true.1 zoY _ (ZC h)
  simp only[Bool.and_eq_true,List.all_eq_true,decide_eq_true_eq]at this
  exact this
theorem zoz(c n:Int):zhr c n=true↔∃x∈enL c,x.1=n:=by
 unfold zhr enL
 rw[List.any_eq_true]
 cases h:Gm.look tabN c with
 |none=>
  constructor
  ·rintro⟨q,hq,e⟩
   rw[Bool.and_eq_true,decide_eq_true_eq]at e
   have:=List.all_eq_true.1 zoZ _ hq
   rw[e.1,h]at this
   cases this
  ·rintro⟨x,hx,_⟩
   cases hx
 |some s=>
  have:=of_decide_eq_true (List.all_eq_true.1 zqi _ (ZC h))
  simp only[Option.getD_some]at this⊢
  rw[this]
  constructor
  ·rintro⟨q,hq,e⟩
   rw[Bool.and_eq_true,decide_eq_true_eq,decide_eq_true_eq]at e
   exact⟨q.2,List.mem_map.2 ⟨q,List.mem_filter.2 ⟨hq,decide_eq_true e.1⟩,rfl⟩,e.2⟩
  ·rintro⟨x,hx,e⟩
   obtain⟨q,hq,rfl⟩:=List.mem_map.1 hx
   obtain⟨h1,h2⟩:=List.mem_filter.1 hq
   refine⟨q,h1,?_⟩
   rw[Bool.and_eq_true,decide_eq_true_eq]
   exact⟨of_decide_eq_true h2,decide_eq_true e⟩
end Go.Gm
namespace Go.Proofs
open Go.Gk Go.RowKit Go.Gm
theorem zgw{w:World}{l:Nat}(h:l<w.heap.size)(o:Obj):(w.putObj l o).heap[l]? =some o:=by simp[World.putObj,h]
theorem zpd{s:Bs}(h128:∀c∈s,c<128){w:World}{R:VWP}(hR:∀w',Below w.heap.size w w'->R (.int .u32 (numP s)) w'):cR 216 #[.string (bs s)] w R:=by
 refine za.of (zgh (bs s) R w ?_) λ_ _ h=>h
 refine Nw.gen λw1 e1=>?_
 have hI1:w1.heap[w.heap.size]? =some (.stringIter (bs s) 0):=by
  rw[e1]
  show(w.heap.push _)[w.heap.size]? =_
  simp
 have z1:w1.heap.size=w.heap.size+1:=by rw[e1];simp
 have b1:Below w.heap.size w w1:=by rw[e1];exact(Below.refl _ _).alloc (Nat.le_refl _) _
 clear e1
 refine zl.ghost (λj st w'=>∃k,k<=s.length/\j=s.length-k/\st=(numP (s.take k),())/\w'.heap.size=w.heap.size+1/\Below w.heap.size w w'/\w'.heap[w.heap.size]? =some (.stringIter (bs s) k)) s.length ⟨0,Nat.zero_le _,rfl,rfl,z1,b1,hI1⟩ ?_
 rintro _ _ w2 ⟨k,hk,rfl,rfl,hz,hb,hI⟩ next hnext
 refine⟨bs s,k,hI,λhlt=>?_,λhge=>?_⟩
 ·rw[yq]at hlt
  rw[zco hlt (h128 _ (List.getElem_mem hlt))]
  dsimp only
  have hc:=Chg.iter w.heap.size w2 (bs s) (k+1)
  refine hnext (s.length-(k+1)) _ _ (by omega) ⟨k+1,hlt,rfl,?_,hc.size.trans hz,hc.below hb (Nat.le_refl _),zcv (by omega)⟩
  rw[List.take_succ_eq_append_getElem hlt]
  unfold numP
  rw[List.foldl_append]
  rfl
 ·rw[yq]at hge
  have hk:k=s.length:=by omega
  subst hk
  rw[List.take_length]
  exact hR w2 hb
theorem znP{y:Value}{c:Int}{pb:Nat}{w:World}(hp:w.cell? (blk pb)=some (.int .u8 c))(Inv:Nat->World->Prop)(S:World->Prop)(h0:Inv 0 w)(hkeep:∀j w' w'',Inv j w'->w.heap.size<=w'.heap.size->Below w.heap.size w' w''->Inv j w'')
  (hround:∀j (hj:j<(enL c).length) w',Inv j w'->zL Tryz.prog Tryz.fs y [.int .u32 (enL c)[j].1,.string (bs (enL c)[j].2)] w' λv w''=>((v =.bool true/\Inv (j+1) w'')\/(v =.bool false/\S w''))/\w''.heap.size=w'.heap.size/\∀b,w.heap.size<=b->w''.heap[b]? =w'.heap[b]?)
  (hend:∀w',Inv (enL c).length w'->S w'):Calls Tryz.prog 215 #[y,.pointer (some (blk pb))] w (Ret λ_ w'=>S w'):=by
 refine zf6 y (blk pb) _ w ⟨c,hp,?_⟩
 refine za.of (zch c _ w ?_) λ_ _ h=>h
 rw[zri]
 have hrow:=zsk c
 have hL:enL c=(enG ((Gm.look tabN c).getD [])).2.2.2:=rfl
 suffices go:∀s:Bs,s=(Gm.look tabN c).getD []->(∃x:ByteArray,Value.string (bs s) =.string x/\_) from zei (λx hx=>go x (by rw[hx];rfl)) (λhx=>go [] (by rw[hx];rfl))
 intro s hs
 rw[<-hs]at hrow hL
 obtain⟨h128,hlen⟩:=hrow
 refine⟨bs s,rfl,?_⟩
 refine Nw.gen λw1 e1=>?_
 have hI1:w1.heap[w.heap.size]? =some (.stringIter (bs s) 0):=by
  rw[e1]
  show(w.heap.push _)[w.heap.size]? =_
  simp
 have z1:w1.heap.size=w.heap.size+1:=by rw[e1];simp
 have b1:Below w.heap.size w w1:=by rw[e1];exact(Below.refl _ _).alloc (Nat.le_refl _) _
 clear e1
 refine zl.ghost (λj st w'=>∃k,k<=s.length/\j=s.length-k/\st=((enG (s.take k)).1,bs (enG (s.take k)).2.1,(enG (s.take k)).2.2.1,())/\w.heap.size<w'.heap.size/\Inv (enG (s.take k)).2.2.2.length w'/\w'.heap[w.heap.size]? =some (.stringIter (bs s) k))
  s.length ⟨0,Nat.zero_le _,rfl,rfl,by omega,hkeep 0 w w1 h0 (Nat.le_refl _) b1,hI1⟩ ?_
 rintro _ _ w2 ⟨k,hk,rfl,rfl,hz,hIn,hI⟩ next hnext
 refine⟨bs s,k,hI,λhlt=>?_,λhge=>?_⟩
 ·rw[yq]at hlt
  have hc128:=h128 _ (List.getElem_mem hlt)
  rw[zco hlt hc128]
  dsimp only
  have hc:=Chg.iter w.heap.size w2 (bs s) (k+1)
  have hI3:=zcv (w:=w2) (s:=bs s) (p:=k+1) (r:=w.heap.size) (by omega)
  generalize YX w2 w.heap.size (bs s) (k+1)=w3 at hc hI3
  have hIn3:=hkeep _ w2 w3 hIn (by omega) (hc.below (Below.refl _ _) (Nat.le_refl _))
  have hz3:=hc.size
  have htk:s.take (k+1)=s.take k++[s[k]]:=List.take_succ_eq_append_getElem hlt
  have hst:enG (s.take (k+1))=enS (enG (s.take k)) s[k]:=by rw[htk,zsY]
  have hpre:=zu2 s (k+1)
  have hwl:=zsZ (s.take k)
  rw[List.length_take]at hwl
  have hwa:=zrF (s:=s.take k) (λc hc=>h128 c (List.mem_of_mem_take hc))
  rw[hst]at hpre
  have hnx:∀w',w.heap.size<w'.heap.size->Inv (enG (s.take (k+1))).2.2.2.length w'->w'.heap[w.heap.size]? =some (.stringIter (bs s) (k+1))->next ((enG (s.take (k+1))).1,bs (enG (s.take (k+1))).2.1,(enG (s.take (k+1))).2.2.1,()) w':=
   λw' h1 h2 h3=>hnext (s.length-(k+1)) _ _ (by omega) ⟨k+1,hlt,rfl,rfl,h1,h2,h3⟩
  rw[hst]at hnx
  clear hnext
  generalize enG (s.take k)=st at hnx hpre hwl hwa hIn3⊢
  obtain⟨n,word,nb,out⟩:=st
  dsimp only at hwl hwa hIn3⊢
  by_cases e:s[k]=32
  ·have e32:((s[k].toNat:Nat):Int)=32:=by rw[e];rfl
   cases nb with
   |false=>
    have hS:enS (n,word,false,out) s[k]=(numP word,[],true,out):=by unfold enS;rw[if_pos e,if_neg (by simp)]
    rw[hS]at hnx
    refine zo.cut (λst w'=>st=(numP word,())/\w.heap.size<w'.heap.size/\Inv out.length w'/\w'.heap[w.heap.size]? =some (.stringIter (bs s) (k+1))) ?_ ?_
    ·refine zy (λh=>absurd e32 h) (λ_=>zz (λ_=>?_) (λh=>by cases h))
     refine zpd hwa λw4 b4=>⟨_,rfl,rfl,?_,?_,?_⟩
     ·have:=b4.size
      omega
     ·exact hkeep _ w3 w4 hIn3 (by omega) (b4.mono (by omega))
     ·rw[b4.block _ (by omega)];exact hI3
    ·rintro⟨m,_⟩ w' ⟨h1,h2,h3,h4⟩
     cases h1
     exact hnx w' h2 h3 h4
   |true=>
    have hS:enS (n,word,true,out) s[k]=(n,[],false,out++[(n,word)]):=by unfold enS;rw[if_pos e,if_pos rfl]
    rw[hS]at hnx hpre
    dsimp only at hpre hnx
    rw[<-hL]at hpre
    have hj:out.length<(enL c).length:=by
     have:=hpre.length_le
     rw[List.length_append,List.length_singleton]at this
     omega
    have hjv:(enL c)[out.length]=(n,word):=by
     obtain⟨t,ht⟩:=hpre
     have:(enL c)[out.length]? =some (n,word):=by
      rw[<-ht]
      simp
     rw[List.getElem?_eq_getElem hj]at this
     exact Option.some.inj this
    refine zo.cut (λst w'=>st=(n,())/\w.heap.size<w'.heap.size/\Inv (out++[(n,word)]).length w'/\w'.heap[w.heap.size]? =some (.stringIter (bs s) (k+1))) ?_ ?_
    ·refine zy (λh=>absurd e32 h) (λ_=>zz (λh=>by cases h) (λ_=>?_))
     have hr:=hround out.length hj w3 hIn3
     rw[hjv]at hr
     refine zL.mono hr λv w4 hv=>?_
     obtain⟨hv,hsz,hold⟩:=hv
     rcases hv with⟨rfl,hv⟩ | ⟨rfl,hv⟩
     ·refine⟨true,rfl,zJ rfl ⟨rfl,by omega,?_,?_⟩⟩
      ·rw[List.length_append];exact hv
      ·rw[hold _ (Nat.le_refl _)];exact hI3
     ·exact⟨false,rfl,zR rfl hv⟩
    ·rintro⟨m,_⟩ w' ⟨h1,h2,h3,h4⟩
     cases h1
     exact hnx w' h2 h3 h4
  ·have hS:enS (n,word,nb,out) s[k]=(n,word++[s[k]],nb,out):=by unfold enS;rw[if_neg e]
   rw[hS]at hnx
   refine zo.cut (λ_ _=>False) ?_ (λ_ _ h=>h.elim)
   refine zy (λ_=>?_) (λh=>absurd (UInt8.toNat.inj (b:=32) (by have:((s[k].toNat:Nat):Int)=32:=h;show s[k].toNat=32;omega)) e)
   rw[zeR hc128,zmg]
   refine⟨?_,hnx w3 (by omega) hIn3 hI3⟩
   unfold zcz
   rw[yq,yq,List.length_singleton]
   omega
 ·rw[yq]at hge
  have hk:k=s.length:=by omega
  subst hk
  rw[List.take_length,<-hL]at hIn
  exact hend w2 hIn
theorem zr0{c n:Int}{w:World}{R:VWP}(hR:∀s w',Below w.heap.size w w'->R (.tuple #[.string s,.bool (zhr c n)]) w'):cR 209 #[.int .u8 c,.int .u32 n] w R:=by
 refine za.of (zhB c n R w ?_) λ_ _ h=>h
 refine zm λw1 hN1 b1 z1=>?_
 refine zm λw2 hS2 b2 z2=>?_
 refine zm λw3 hO3 b3 z3=>?_
 have hN3:=(hN1.below b2).below b3
 have hS3:=hS2.below b3
 have hb3:=(b1.on b2).on b3
 refine za.of (zgU c _ w3 ?_) λ_ _ h=>h
 refine zm λw4 hC4 b4 z4=>⟨_,rfl,?_⟩
 have hN4:Blk w4 w.heap.size 22 [.int .u32 n]:=hN3.below b4
 have hS4:Blk w4 w1.heap.size 9 [.string (bs [])]:=hS3.below b4
 have hO4:Blk w4 w2.heap.size 4 [.bool false]:=hO3.below b4
 have hb4:=hb3.on b4
 intro mk hy
 have hcf:Tryz.fs.contains 215=true:=by kernel_rfl
 unfold zqC
 simp only[hcf]
 generalize hw5:((w4.alloc (.deferred (some []))).alloc (mk .ready none))=w5
 have b5:Below w4.heap.size w4 w5:=by rw[<-hw5];exact zlr w4 _ _
 have z5:w5.heap.size=w4.heap.size+2:=by rw[<-hw5];exact zrV w4 _ _
 have hd5:w5.heap[w4.heap.size]? =some (.deferred (some [])):=by rw[<-hw5];exact ztw w4 _ _
 have hl5:w5.heap[w4.heap.size+1]? =some (mk .ready none):=by rw[<-hw5];exact ztx w4 _ _
 clear hw5
 have fin0:∀(b:Bool) (s:ByteArray) w',Below w.heap.size w w'->Blk w' w1.heap.size 9 [.string s]->Blk w' w2.heap.size 4 [.bool b]->b=zhr c n->w'.heap[w4.heap.size]? =some (.deferred (some []))->
   zeN [w4.heap.size] w' λw13=>zs w13 (blk w1.heap.size) λx9=>ldB w13 (blk w2.heap.size) λx10=>R (.tuple #[(.string x9),(.bool x10)]) w13:=by
  intro b s w' h1 h2 h3 h4 h5
  refine zkL h5 ?_
  refine⟨s,(h2.put (by omega) _).cell0 rfl,b,(h3.put (by omega) _).cell0 rfl,?_⟩
  rw[h4]
  exact hR s _ (h1.putObj (by have:=hb4.size;omega) _)
 refine znP (y:=.func (.yield (w4.heap.size+1)) #[] #[]) ((hC4.below b5).cell0 rfl)
  (λj w'=>w'.heap[w4.heap.size+1]? =some (mk .ready none)/\w'.heap[w4.heap.size]? =some (.deferred (some []))/\Blk w' w.heap.size 22 [.int .u32 n]/\Blk w' w1.heap.size 9 [.string (bs [])]/\Blk w' w2.heap.size 4 [.bool false]/\
   Below w.heap.size w w'/\∀i (hi:i<(enL c).length),i<j->(enL c)[i].1≠n) _
  ⟨hl5,hd5,hN4.below b5,hS4.below b5,hO4.below b5,hb4.on b5,λi hi h=>by omega⟩ ?_ ?_ ?_
 ·rintro j w' w'' ⟨h1,h2,h3,h4,h5,h6,h7⟩ hsz hbb
  refine⟨(hbb.block _ (by omega)).trans h1,(hbb.block _ (by omega)).trans h2,h3.of_block (hbb.block _ (by omega)),h4.of_block (hbb.block _ (by omega)),h5.of_block (hbb.block _ (by omega)),h6.trans (hbb.mono (by omega)),h7⟩
 ·rintro j hj w' ⟨h1,h2,h3,h4,h5,h6,h7⟩
  refine hy ((enL c)[j].1,bs (enL c)[j].2,()) w' _ h1 ⟨h1,Nw.gen λw6 e6=>?_⟩
  have ho6:∀b,b≠w4.heap.size+1->w6.heap[b]? =w'.heap[b]?:=λb hb=>by rw[e6];exact World.putObj_heap_other hb
  have z6:w6.heap.size=w'.heap.size:=by rw[e6];simp
  have hlt':w4.heap.size+1<w'.heap.size:=(Array.getElem?_eq_some_iff.1 h1).1
  have hl6:w6.heap[w4.heap.size+1]? =some (mk .busy none):=by rw[e6];simp[World.putObj,hlt']
  have h66:Below w.heap.size w w6:=by rw[e6];exact h6.putObj (by have:=hb4.size;omega) _
  clear e6
  refine⟨n,(h3.of_block (ho6 _ (by omega))).cell0 rfl,?_⟩
  refine zk (λe=>?_) (λe=>?_)
  ·have k4:=h4.of_block (ho6 _ (by omega))
   have k5:=h5.of_block (ho6 _ (by omega))
   refine⟨k4.wr0 (by simp),Nw.gen λw7 e7=>?_⟩
   have c7:Chg w1.heap.size w6 w7:=by rw[e7];exact Chg.set w1.heap.size 0 w6 _
   have k4':Blk w7 w1.heap.size 9 [.string (bs (enL c)[j].2)]:=by rw[e7];exact k4.set0 _
   clear e7
   have k5':=c7.blk k5 (by omega)
   refine⟨k5'.wr0 (by simp),Nw.gen λw8 e8=>?_⟩
   have c8:Chg w2.heap.size w7 w8:=by rw[e8];exact Chg.set w2.heap.size 0 w7 _
   have k5'':Blk w8 w2.heap.size 4 [.bool true]:=by rw[e8];exact k5'.set0 _
   clear e8
   have k4'':=c8.blk k4' (by omega)
   have hl8:w8.heap[w4.heap.size+1]? =some (mk .busy none):=by rw[c8.block _ (by omega),c7.block _ (by omega)];exact hl6
   have b8:=c8.below (c7.below h66 (by have:=b1.size;omega)) (by have:=b1.size;have:=b2.size;omega)
   refine⟨hl8,.inr ⟨rfl,?_⟩,?_,?_⟩
   ·refine .inr ⟨?_,?_⟩
    ·exact zgw (by have:=c8.size;have:=c7.size;omega) _
    ·refine fin0 true (bs (enL c)[j].2) _ ?_ ?_ ?_ ?_ ?_
     ·exact(b8.putObj (by have:=hb4.size;omega) _).putObj (by have:=hb4.size;omega) _
     ·exact(k4''.put (by omega) _).put (by omega) _
     ·exact(k5''.put (by omega) _).put (by omega) _
     ·exact((zoz c n).2 ⟨_,List.getElem_mem hj,e⟩).symm
     ·rw[World.putObj_heap_other (by omega),World.putObj_heap_other (by omega),c8.block _ (by omega),c7.block _ (by omega),ho6 _ (by omega)]
      exact h2
   ·have:=c8.size;have:=c7.size
    simp[World.putObj]
    omega
   ·intro b hb
    rw[World.putObj_heap_other (by omega),c8.block _ (by omega),c7.block _ (by omega),ho6 _ (by omega)]
  ·refine⟨hl6,.inl ⟨rfl,?_,?_,?_,?_,?_,?_,?_⟩,?_,?_⟩
   ·exact zgw (by omega) _
   ·rw[World.putObj_heap_other (by omega),ho6 _ (by omega)];exact h2
   ·exact(h3.of_block (ho6 _ (by omega))).put (by omega) _
   ·exact(h4.of_block (ho6 _ (by omega))).put (by omega) _
   ·exact(h5.of_block (ho6 _ (by omega))).put (by omega) _
   ·exact h66.putObj (by have:=hb4.size;omega) _
   ·intro i hi hij
    by_cases e':i=j
    ·subst e';exact e
    ·exact h7 i hi (by omega)
   ·simp[World.putObj];omega
   ·intro b hb
    rw[World.putObj_heap_other (by omega),ho6 _ (by omega)]
 ·rintro w' ⟨h1,h2,h3,h4,h5,h6,h7⟩
  have hlt':w4.heap.size+1<w'.heap.size:=(Array.getElem?_eq_some_iff.1 h1).1
  refine .inl ⟨h1,?_⟩
  have k4:=h4.put (l:=w4.heap.size+1) (by omega) (mk .exhausted none)
  have k5:=h5.put (l:=w4.heap.size+1) (by omega) (mk .exhausted none)
  refine⟨k4.wr0 (by simp),Nw.gen λw7 e7=>?_⟩
  have c7:Chg w1.heap.size (w'.putObj (w4.heap.size+1) (mk .exhausted none)) w7:=by rw[e7];exact Chg.set w1.heap.size 0 _ _
  have k4':Blk w7 w1.heap.size 9 [.string (bs [])]:=by rw[e7];exact k4.set0 _
  clear e7
  have k5':=c7.blk k5 (by omega)
  refine⟨k5'.wr0 (by simp),Nw.gen λw8 e8=>?_⟩
  have c8:Chg w2.heap.size w7 w8:=by rw[e8];exact Chg.set w2.heap.size 0 w7 _
  have k5'':Blk w8 w2.heap.size 4 [.bool false]:=by rw[e8];exact k5'.set0 _
  clear e8
  refine fin0 false (bs []) w8 ?_ (c8.blk k4' (by omega)) k5'' ?_ ?_
  ·exact c8.below (c7.below (h6.putObj (by have:=hb4.size;omega) _) (by have:=b1.size;omega)) (by have:=b1.size;have:=b2.size;omega)
  ·symm
   rw[Bool.eq_false_iff]
   intro h
   obtain⟨x,hx,e⟩:=(zoz c n).1 h
   obtain⟨i,hi,rfl⟩:=List.mem_iff_getElem.1 hx
   exact h7 i hi hi e
  ·rw[c8.block _ (by omega),c7.block _ (by omega),World.putObj_heap_other (by omega)]
   exact h2
end Go.Proofs
namespace Go.Gm
open Go.Gk Go.Proofs
abbrev Fl.ty(f:Fl):Bool:=f.2.1
abbrev Fl.re(f:Fl):Bool:=f.2.2.1
def idP(must:Bool)(n bound e:Int):Int:=if must=(n !=0) then(if must=true/\bound<=n then 43 else 0) else e
def nul(s:ByteArray):Bool:=s.data.toList.contains 0
def ZG(c:Int)(a:Ag)(bound:Int):Int:=
 if c=0\/a.1≠yJ c then 42
 else if (a.1=3/\a.2.1≠0)\/(a.1≠3/\a.2.2.size≠0) then 42
 else if a.1=1/\(a.2.1=0\/bound<=a.2.1) then 43
 else if a.1=4/\zhr c a.2.1=false then 31
 else if nul a.2.2=true then 13 else 0
abbrev ag0:Ag:=(0,0,bs [])
def werr(g:Fl)(al:List Ag)(bound:Int)(j:Nat):Int:=ZG (letP g j:Int) (al.getD j ag0) bound
def argK(g:Fl)(al:List Ag)(bound:Int)(k:Nat):Int:=match (List.range k).find? λj=>werr g al bound j !=0 with
 |some j=>werr g al bound j
 |none=>0
def errK(g:Fl)(ty re:Int)(al:List Ag)(bound:Int)(k:Nat):Int:=
 if idP g.ty ty bound 40≠0 then idP g.ty ty bound 40 else if idP g.re re bound 41≠0 then idP g.re re bound 41 else argK g al bound k
theorem zr4(g:Fl)(al:List Ag)(bound:Int):argK g al bound 0=0:=rfl
theorem zr3(g:Fl)(al:List Ag)(bound:Int)(k:Nat):argK g al bound (k+1)=if argK g al bound k=0 then werr g al bound k else argK g al bound k:=by
 unfold argK
 rw[List.range_succ,List.find?_append]
 cases h:(List.range k).find? λj=>werr g al bound j !=0 with
 |some j=>
  have:=List.find?_some h
  simp only[Option.some_or]
  rw[if_neg (by simpa using this)]
 |none=>
  simp only[Option.none_or,if_true]
  by_cases e:werr g al bound k=0
  ·simp[e]
  ·simp[e]
theorem zgC(g:Fl)(ty re:Int)(al:List Ag)(bound:Int)(k:Nat):errK g ty re al bound (k+1)=if errK g ty re al bound k=0 then werr g al bound k else errK g ty re al bound k:=by
 unfold errK
 by_cases h1:idP g.ty ty bound 40=0
 ·by_cases h2:idP g.re re bound 41=0
  ·simp only[h1,h2,ne_eq,not_true_eq_false,if_false]
   exact zr3 g al bound k
  ·simp[h1,h2]
 ·simp[h1]
theorem ziy{g:Fl}{al:List Ag}{bound:Int}{k:Nat}(h:argK g al bound k=0):∀j,j<k->werr g al bound j=0:=by
 intro j hj
 unfold argK at h
 split at h
 ·rename_i i hi
  have:=List.find?_some hi
  rw[h]at this
  simp at this
 ·rename_i hn
  have:=List.find?_eq_none.1 hn j (List.mem_range.2 hj)
  simpa using this
theorem zi2{g:Fl}{ty re:Int}{al:List Ag}{bound:Int}{k:Nat}(h:errK g ty re al bound k=0):idP g.ty ty bound 40=0/\idP g.re re bound 41=0/\argK g al bound k=0:=by
 unfold errK at h
 split at h
 ·rename_i h1;exact absurd h h1
 ·rename_i h1
  split at h
  ·rename_i h2;exact absurd h h2
  ·rename_i h2
   exact⟨Decidable.not_not.1 h1,Decidable.not_not.1 h2,h⟩
def Yp(g:Fl)(n:Nat):Bool:=if n<g.fixed.length then false else if g.rest.length=0 then n==g.fixed.length else(n-g.fixed.length) % g.rest.length==0
def cost(a:Ag):Nat:=if a.1=3 then a.2.2.size / 4+1 else 1
def zen(al:List Ag)(k:Nat):Nat:=((al.take k).map cost).sum
def zbn(g:Fl)(al:List Ag):Nat:=1+(g.ty.toNat +g.re.toNat +zen al al.length)
def zeS(g:Fl)(ty re:Int)(al:List Ag)(bound:Int):Int:=
 if errK g ty re al bound al.length≠0 then errK g ty re al bound al.length else if Yp g al.length=false then 42 else if 65535<zbn g al then 25 else 0
def zga(op ty re:Int)(al:List Ag)(bound:Int):Int:=match frm op with
 |none=>30
 |some g=>zeS g ty re al bound
theorem zgb{op ty re:Int}{al:List Ag}{bound:Int}(h:frm op=none):zga op ty re al bound=30:=by unfold zga;rw[h]
theorem zd6{op ty re:Int}{al:List Ag}{bound:Int}{g:Fl}(h:frm op=some g):zga op ty re al bound=zeS g ty re al bound:=by unfold zga;rw[h]
theorem zh5{al:List Ag}{k:Nat}(hk:k<al.length):zen al (k+1)=zen al k+cost al[k]:=by
 unfold zen
 rw[List.take_succ_eq_append_getElem hk,List.map_append,List.sum_append]
 simp
def zqw(g:Fl):Bool:=!(g.rest.contains 115)&&(List.range g.fixed.length).all λi=>(List.range g.fixed.length).all λj=>!(g.fixed.getD i 0==115&&g.fixed.getD j 0==115)||i==j
theorem zpy:tabR.all (λp=>zqw p.2)=true:=by decide +kernel
theorem zoN{c:Int}(h:yJ c=3):c=115:=by
 unfold yJ at h
 split at h
 ·cases h
 ·split at h
  ·cases h
  ·split at h
   ·assumption
   ·split at h<;>cases h
theorem zm2{op:Int}{g:Fl}(hg:frm op=some g){k:Nat}(h:yJ (letP g k:Int)=3):k<g.fixed.length/\g.fixed.getD k 0=115:=by
 have hc:=zoN h
 have ht:=List.all_eq_true.1 zpy _ (ZC (show Gm.look tabR op=some g from hg))
 simp only[zqw,Bool.and_eq_true,Bool.not_eq_true']at ht
 unfold letP at hc
 split at hc
 ·rename_i hlt
  exact⟨hlt,UInt8.toNat.inj (show(g.fixed.getD k 0).toNat=115 by omega)⟩
 ·split at hc
  ·cases hc
  ·split at hc
   ·cases hc
   ·rename_i h1 h2 h3
    have hlt:(k-g.fixed.length) % g.rest.length<g.rest.length:=Nat.mod_lt _ (by omega)
    rw[zp hlt]at hc
    have:g.rest[(k-g.fixed.length) % g.rest.length]=115:=UInt8.toNat.inj (show _=115 by omega)
    have hm:=List.getElem_mem hlt
    rw[this]at hm
    have:=List.contains_iff_mem.2 hm
    rw[ht.1]at this
    cases this
theorem zss{op:Int}{g:Fl}(hg:frm op=some g){i j:Nat}(hi:yJ (letP g i:Int)=3)(hj:yJ (letP g j:Int)=3):i=j:=by
 obtain⟨h1,h2⟩:=zm2 hg hi
 obtain⟨h3,h4⟩:=zm2 hg hj
 have ht:=List.all_eq_true.1 zpy _ (ZC (show Gm.look tabR op=some g from hg))
 simp only[zqw,Bool.and_eq_true]at ht
 have:=List.all_eq_true.1 (List.all_eq_true.1 ht.2 i (List.mem_range.2 h1)) j (List.mem_range.2 h3)
 rw[h2,h4]at this
 simpa using this
def tx(al:List Ag)(k:Nat):Nat:=((al.take k).map λa=>if a.1=3 then 1 else 0).sum
theorem zk0{al:List Ag}{k:Nat}(hk:k<al.length):tx al (k+1)=tx al k+(if al[k].1=3 then 1 else 0):=by
 unfold tx
 rw[List.take_succ_eq_append_getElem hk,List.map_append,List.sum_append]
 simp
theorem zrt{al:List Ag}:∀{k:Nat},k<=al.length->(∀j (hj:j<al.length),j<k->al[j].1≠3)->tx al k=0
 | 0,_,_=>by simp[tx]
 |k+1,hk,h=>by
  rw[zk0 (by omega),zrt (k:=k) (by omega) (λj hj hjk=>h j hj (by omega)),if_neg (h k (by omega) (by omega))]
theorem yK{c:Int}{a:Ag}{bound:Int}(h:ZG c a bound=0):c≠0/\a.1=yJ c:=by
 unfold ZG at h
 split at h
 ·cases h
 ·rename_i h1
  constructor
  ·intro e;exact h1 (.inl e)
  ·exact Classical.byContradiction λe=>h1 (.inr e)
theorem zua{op:Int}{g:Fl}(hg:frm op=some g){al:List Ag}{bound:Int}:∀{k:Nat},k<=al.length->(∀j,j<k->werr g al bound j=0)->tx al k<=1
 | 0,_,_=>by simp[tx]
 |k+1,hk,h=>by
  rw[zk0 (by omega)]
  split
  ·rename_i h3
   have hz:tx al k=0:=by
    refine zrt (by omega) λj hj hjk e=>?_
    have a1:=(yK (h j (by omega))).2
    have a2:=(yK (h k (by omega))).2
    rw[zp hj]at a1
    rw[zp (by omega)]at a2
    have:=zss hg (a1.symm.trans e) (a2.symm.trans h3)
    omega
   omega
  ·have:=zua hg (k:=k) (by omega) λj hj=>h j (by omega)
   omega
theorem zoo{al:List Ag}(hs:∀x∈al,x.2.2.size<=9223372036854775807):∀{k:Nat},k<=al.length->zen al k<=k+2305843009213693952*tx al k
 | 0,_=>by simp[zen]
 |k+1,hk=>by
  have:=zoo hs (k:=k) (by omega)
  rw[zh5 (by omega),zk0 (by omega)]
  have h1:=hs _ (List.getElem_mem (show k<al.length by omega))
  unfold cost
  split<;>omega
theorem zon{al:List Ag}:∀{k:Nat},k<=al.length->k<=zen al k
 | 0,_=>Nat.zero_le _
 |k+1,hk=>by
  have:=zon (al:=al) (k:=k) (by omega)
  rw[zh5 (by omega)]
  unfold cost
  split<;>omega
theorem zrJ{op:Int}{g:Fl}(hg:frm op=some g){al:List Ag}{bound:Int}(h:∀j,j<al.length->werr g al bound j=0):(fitP op (al.map (·.1))).2=Yp g al.length:=by
 have hb:∀j,j<(al.map (·.1)).length->bad g (al.map (·.1)) j=false:=by
  intro j hj
  have hj':j<al.length:=by simpa using hj
  obtain⟨h1,h2⟩:=yK (h j hj')
  rw[zp hj']at h2
  unfold bad
  rw[zp hj,List.getElem_map,h2]
  have:=zrW hg (k:=j) (by omega)
  simp[this]
 rw[zmq hg,zo7 hb,List.length_map]
 have hz:g.rest.length=0->al.length<=g.fixed.length:=by
  intro h0
  refine Classical.byContradiction λhgt=>?_
  have:=(yK (h g.fixed.length (by omega))).1
  apply this
  unfold letP
  rw[if_neg (by omega),if_pos h0]
  rfl
 unfold Yp zdb
 by_cases h1:al.length<g.fixed.length
 ·rw[if_pos h1,decide_eq_true h1,Bool.true_or,if_pos rfl]
 ·rw[if_neg h1,decide_eq_false h1,Bool.false_or]
  by_cases h2:g.rest.length=0
  ·have h3:al.length=g.fixed.length:=by have:=hz h2;omega
   rw[if_pos h2,decide_eq_false (by omega),Bool.false_and,h3]
   simp
  ·rw[if_neg h2,decide_eq_true h2,Bool.true_and]
   by_cases h3:(al.length-g.fixed.length) % g.rest.length=0
   ·rw[h3];rfl
   ·rw[decide_eq_true h3,if_pos rfl]
    exact(beq_eq_false_iff_ne.2 h3).symm
def yH(p:PI)(bound:Int):Int:=zga p.1 p.2.1 p.2.2.1 p.2.2.2 bound
def ze9(p:PI):Nat:=match frm p.1 with
 |none=>0
 |some g=>zbn g p.2.2.2
def totP(pl:List PI)(k:Nat):Nat:=5+((pl.take k).map ze9).sum
theorem zj7{pl:List PI}{k:Nat}(hk:k<pl.length):totP pl (k+1)=totP pl k+ze9 pl[k]:=by
 unfold totP
 rw[List.take_succ_eq_append_getElem hk,List.map_append,List.sum_append]
 simp
 omega
abbrev pi0:PI:=(0,0,0,[])
def badI(pl:List PI)(bound:Int)(k:Nat):Bool:=yH (pl.getD k pi0) bound !=0||decide (1048576<totP pl (k+1))
def zx(bound:Int)(pl:List PI):Int×Nat:=
 if bound=0\/65536<bound then(24,0) else match (List.range pl.length).find? (badI pl bound) with
  |some k=>(if yH (pl.getD k pi0) bound≠0 then yH (pl.getD k pi0) bound else 4,k)
  |none=>(0,0)
theorem zjX{bound:Int}{pl:List PI}(h:bound=0\/65536<bound):zx bound pl=(24,0):=by unfold zx;rw[if_pos h]
theorem zps{bound:Int}{pl:List PI}(h:¬(bound=0\/65536<bound)){k:Nat}(hk:k<pl.length)(hj:∀j,j<k->badI pl bound j=false)(hf:yH pl[k] bound≠0):zx bound pl=(yH pl[k] bound,k):=by
 unfold zx
 rw[if_neg h,zcU hk (by unfold badI;rw[zp hk,bne_iff_ne.2 hf];rfl) hj]
 simp only[zp hk]
 rw[if_pos hf]
theorem zpt{bound:Int}{pl:List PI}(h:¬(bound=0\/65536<bound)){k:Nat}(hk:k<pl.length)(hj:∀j,j<k->badI pl bound j=false)(hf:yH pl[k] bound=0)(ht:1048576<totP pl (k+1)):zx bound pl=(4,k):=by
 unfold zx
 rw[if_neg h,zcU hk (by unfold badI;rw[decide_eq_true ht,Bool.or_true]) hj]
 simp only[zp hk]
 rw[if_neg (by rw[hf];simp)]
theorem zl6{bound:Int}{pl:List PI}(h:¬(bound=0\/65536<bound))(hj:∀j,j<pl.length->badI pl bound j=false):zx bound pl=(0,0):=by
 unfold zx
 rw[if_neg h]
 have:(List.range pl.length).find? (badI pl bound)=none:=by
  rw[List.find?_eq_none]
  intro j hj'
  rw[hj j (List.mem_range.1 hj')]
  simp
 rw[this]
theorem zkH{pl:List PI}{bound:Int}{k:Nat}(hk:k<pl.length)(hf:yH pl[k] bound=0)(ht:¬1048576<totP pl (k+1)):badI pl bound k=false:=by
 unfold badI
 rw[zp hk,hf,decide_eq_false ht]
 rfl
theorem Yf{bound:Int}{pl:List PI}(h:(zx bound pl).1=0):¬(bound=0\/65536<bound)/\∀k (hk:k<pl.length),yH pl[k] bound=0:=by
 unfold zx at h
 split at h
 ·cases h
 ·rename_i hb
  refine⟨hb,λk hk=>?_⟩
  split at h
  ·rename_i j hj
   dsimp only at h
   split at h
   ·rename_i hf;exact absurd h hf
   ·cases h
  ·rename_i hn
   have:=List.find?_eq_none.1 hn k (List.mem_range.2 hk)
   unfold badI at this
   rw[zp hk]at this
   simp only[Bool.or_eq_true,not_or,bne_iff_ne,ne_eq,Decidable.not_not]at this
   exact this.1
theorem zoc(x:ByteArray):(x.toList==(BM #[]).toList)=decide (x.size=0):=by
 obtain⟨a⟩:=x
 have:=Yo (a:=a.toList)
 unfold bs at this
 rw[Array.toArray_toList]at this
 rw[this]
 simp only[ByteArray.size]
 rw[Bool.eq_iff_iff,List.isEmpty_iff,decide_eq_true_iff]
 constructor
 ·intro h;rw[<-Array.length_toList,h];rfl
 ·intro h;exact List.eq_nil_of_length_eq_zero (by rw[Array.length_toList];exact h)
end Go.Gm
