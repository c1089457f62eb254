/- FaceB, part 5; made small by a program. -/
import Derived.Test.YtnpdnjmpmeikiaaGreatDoorProg
import Derived.Test.YtnpdnjmpmeikiaaGreatDoorPFaceB4
set_option linter.unusedVariables false
namespace Go.Proofs
open Go.Gk
set_option linter.unusedVariables false
set_option maxRecDepth 100000
def zjI:Ann:=(.q (.seq none (.q (.q (.cond (.q .nil) .nil))) (.q (.seq none (.q (.one (.loop ⟨[3,5,25,26],[(27,(.b (.int .i64)))]⟩ (.q (.seq none .c (.seq none (.one (.q (.q (.seq (some ⟨[3,5,6,7,8,9,25,26,27],[(10,(.b (.int .i64)))]⟩) (.q .c) (.seq none (.q (.cond (.q .nil) .nil)) (.seq (some ⟨[3,5,7,25,26,27],[]⟩) (.q (.cond (.q .nil) .nil)) .nil)))))) .nil)))))) (.q .nil)))))
def zjD(p0:(Int×Int×Sl×Unit))(R:VWP)(w:World):Prop:=Nw (w.alloc (.cells #[zu p0.1,zu p0.2.1,p0.2.2.1.zw] 25)) λw1=>Nw (w1.alloc (.cells #[zi 0,zi 0] 29)) λw2=>da w2 (zB w) λx1 x2 x3=>dJ 40 #[.agg #[zu x1,zu x2,x3.zw]] w2 λx5 w3=>df w3 #[zi 0,zi 0] 29 (zi x5.1) (zi x5.2.1) λw6=>ldI w6 (zB w3) .i64 λx6=>ifB (x6 !=0) (db w6.drew (zB w3) λx7 x8=>de w6.drew (zB w1) (zi x7) (zi x8) λw8=>db w8 (zB w1) λx9 x10=>R (.tuple #[.pointer none,.agg #[zi x9,zi x10]]) w8) (Nw (w6.alloc (.map #[] 0)) λw9=>Nw (w9.alloc (.cells #[.map (some w6.heap.size),.slice none 0 0] 136)) λw10=>Nw (w10.alloc (.map #[] 0)) λw11=>Nw (w11.alloc (.map #[] 0)) λw12=>Nw (w12.alloc (.cells #[.pointer (some (zB w9)),.map (some w10.heap.size),.map (some w11.heap.size)] 140)) λw13=>ldS w13 ((zB w).add 2) λx11=>zl (S:=Int×Unit) (λs12 w14 n13=>ifB (decide (s12.1<(x11.l:Int))) ((0<=s12.1/\s12.1<(x11.l:Int))/\zc x11.a λa14=>dc w14 (a14.add (s12.1.toNat *4)) λx15 x16 x17 x18=>dg w14 #[zh 0,zu 0,zu 0,.slice none 0 0] 44 (zh x15) (zu x16) (zu x17) (x18.zw) λw19=>dc w19 (zB w14) λx19 x20 x21 x22=>dQ 59 #[.pointer (some (zB w12)),.agg #[zh x19,zu x20,zu x21,x22.zw]] w19 λx24 x25 x26 w20=>dP w20 #[zb 0,zi 0,zi 0,.bool false,zu 0,zu 0,zi 0,.slice none 0 0] 144 (zb x24.1) (zi x24.2.1) (zi x24.2.2.1) (.bool x24.2.2.2.1) (zu x24.2.2.2.2.1) (zu x24.2.2.2.2.2.1) (zi x24.2.2.2.2.2.2.1) (x24.2.2.2.2.2.2.2.1.zw) λw29=>zo (S:=Int×Unit) (λm27=>ifB x25 (ifB (x26==0) (dc w29 (zB w14) λx29 x30 x31 x32=>dK 60 #[.pointer (some (zB w12)),.agg #[zh x29,zu x30,zu x31,x32.zw]] w29 λx34 w30=>ifB x34 (m27 (101,()) w30) (m27 (x26,()) w30)) (m27 (x26,()) w29)) (m27 (x26,()) w29)) (λs28 w31=>ifB (s28.1 !=0) (de w31 (zB w1) (zi s28.1) (zi s12.1) λw33=>db w33 (zB w1) λx35 x36=>R (.tuple #[.pointer none,.agg #[zi x35,zi x36]]) w33) (zo (S:=Unit) (λm37=>ifB x25 (ldP w31.drew (zB w12) λx39=>zc x39 λa40=>ldM w31.drew a40 λx41=>ldI w31.drew ((zB w14).add 2) .u32 λx42=>dO w31.drew (zB w20) λx43 x44 x45 x46 x47 x48 x49 x50=>updW Tryz.prog 134 (.map x41) (zu x42) (.agg #[zb x43,zi x44,zi x45,.bool x46,zu x47,zu x48,zi x49,x50.zw]) w31.drew λw34=>ldP w34.drew (zB w12) λx51=>ldP w34.drew (zB w12) λx52=>zc x52 λa53=>ldS w34.drew (a53.add 1) λx54=>ldI w34.drew ((zB w14).add 2) .u32 λx55=>Nw (w34.drew.alloc (.cells #[zu x55] 22)) λw35=>w35.cell? (a53.add 1)=some (x54.zw)/\w35.cell? (zB w12)=some (.pointer x52)/\w35.cell? (zB w12)=some (.pointer x51)/\zA Tryz.prog 56 (x54.zw) (.slice (some (blk w34.drew.heap.size)) 1 1) w35 λr56 w36=>w36.cell? (zB w12)=some (.pointer x51)/\zc x51 λa57=>Wr w36 (a57.add 1)/\Nw (w36.setCell (a57.add 1) (r56.zw)) λw37=>m37 () w37) (m37 () w31)) (λs38 w38=>ldM w38.drew ((zB w12).add 1) λx58=>ldI w38.drew ((zB w14).add 2) .u32 λx59=>dc w38.drew (zB w14) λx60 x61 x62 x63=>updW Tryz.prog 137 (.map x58) (zu x59) (.agg #[zh x60,zu x61,zu x62,x63.zw]) w38.drew λw39=>n13 ((IntKind.i64.wrap (s12.1+(1:Int))),()) w39)))) (ldP w14 (zB w12) λx64=>de w14 (zB w1) (zi 0) (zi 0) λw41=>db w41 (zB w1) λx65 x66=>R (.tuple #[.pointer x64,.agg #[zi x65,zi x66]]) w41)) (0,()) w13)
theorem zko(p0)(R)(w)(h:zjD p0 R w):Calls Tryz.prog 34 #[.agg #[.int .u32 p0.1,.int .u32 p0.2.1,.slice p0.2.2.1.a p0.2.2.1.l p0.2.2.1.c]] w (Ret R):=lwC zjI Tryz.func34 (by kernel_rfl) (by kernel_rfl) h
def zcK:Ann:=(.q (.q .nil))
def zcC(p0:Option Addr)(p1:Int)(R:VWP)(w:World):Prop:=dR 80 #[.pointer p0,zu p1] w λx2 w1=>R (zi x2.2.1) w1
theorem zfk(p0)(p1)(R)(w)(h:zcC p0 p1 R w):Calls Tryz.prog 46 #[.pointer p0,.int .u32 p1] w (Ret R):=lwC zcK Tryz.func46 (by kernel_rfl) (by kernel_rfl) h
def zd2:Ann:=(.q (.q (.seq none (.q (.one (.loop ⟨[0,3,4,13,14],[(7,(.b .slice)),(15,(.b (.int .i64)))]⟩ (.q (.seq none .c (.seq none (.one (.q .nil)) .nil)))))) (.q (.q (.seq (some ⟨[4,10],[(11,(.b (.int .i64)))]⟩) (.q (.one (.q (.cond .nil (.q (.cond .nil (.q (.cond (.seq (some ⟨[4,7,10],[(11,(.b (.int .i64)))]⟩) (.q .c) .nil) (.q (.cond .nil (.q (.cond .nil (.q (.cond .nil (.q (.cond (.seq (some ⟨[4,7,10],[(11,(.b (.int .i64)))]⟩) (.q .c) .nil) (.q (.cond .nil (.q .nil))))))))))))))))))) (.q .nil)))))))
def zds(p0:Option Addr)(p1:(Int×Int×Int×Sl×Unit))(R:VWP)(w:World):Prop:=Nw (w.alloc (.cells #[zh p1.1,zu p1.2.1,zu p1.2.2.1,p1.2.2.2.1.zw] 44)) λw1=>Nw (w1.alloc (.cells #[zb 0,zi 0,zi 0,.bool false,zu 0,zu 0,zi 0,.slice none 0 0] 144)) λw2=>ldS w2 ((zB w).add 3) λx1=>zl (S:=Sl×Int×Unit) (λs2 w3 n3=>ifB (decide (s2.2.1<(x1.l:Int))) ((0<=s2.2.1/\s2.2.1<(x1.l:Int))/\zc x1.a λa4=>dm w3 (a4.add (s2.2.1.toNat *3)) λx5 x6 x7=>Nw (w3.alloc (.cells #[zb 0,zu 0,.string (BM #[])] 123)) λw4=>dn w4 (zB w3) (zb x5) (zu x6) (.string x7) λw7=>ldI w7 ((zB w3).add 1) .u32 λx8=>Nw (w7.alloc (.cells #[zu x8] 22)) λw8=>zA Tryz.prog 56 (s2.1.zw) (.slice (some (zB w7)) 1 1) w8 λr9 w9=>n3 (r9,(IntKind.i64.wrap (s2.2.1+(1:Int))),()) w9) (Nw (w3.alloc (.cells #[zb 0,zi 0,zi 0,.bool false,zu 0,zu 0,zi 0,.slice none 0 0] 144)) λw10=>zo (S:=Int×Unit) (λm10=>ldI w10 (zB w) .u16 λx12=>ifB (x12==19) (Wr w10 (zB w3)/\Nw (w10.setCell (zB w3) (zb 1)) λw11=>m10 (0,()) w11) (ifB (x12==20) (dn w10 (zB w3) (zb 2) (zi 1) (zi 1) λw14=>m10 (0,()) w14) (ifB (x12==21) (zo (S:=Int×Unit) (λm13=>(0<=(0:Int)/\0<(s2.1.l:Int))/\zc s2.1.a λa15=>ldI w10 (a15.add 0) .u32 λx16=>ifB (x16 !=32) (m13 (102,()) w10) ((0<=(1:Int)/\1<(s2.1.l:Int))/\zc s2.1.a λa17=>ldI w10 (a17.add 1) .u32 λx18=>ifB (decide (x18>(1:Int))) (m13 (102,()) w10) (m13 (0,()) w10))) (λs14 w15=>(0<=(1:Int)/\1<(s2.1.l:Int))/\zc s2.1.a λa19=>ldI w15 (a19.add 1) .u32 λx20=>du w15 (zB w3) (zb 3) (zi 1) (zi 1) (.bool (x20==1)) (zu 0) (zu 0) (zi 0) (.slice none 0 0) λw23=>m10 (s14.1,()) w23)) (ifB (x12==23) (zc p0 λa21=>ldP w10.drew a21 λx22=>(0<=(0:Int)/\0<(s2.1.l:Int))/\zc s2.1.a λa23=>ldI w10.drew (a23.add 0) .u32 λx24=>(0<=(1:Int)/\1<(s2.1.l:Int))/\zc s2.1.a λa25=>ldI w10.drew (a25.add 1) .u32 λx26=>dS 94 #[.pointer x22,zu x24,zu x26] w10.drew λx28 x29 w24=>du w24 (zB w3) (zb x28.1) (zi x28.2.1) (zi x28.2.2.1) (.bool x28.2.2.2.1) (zu x28.2.2.2.2.1) (zu x28.2.2.2.2.2.1) (zi x28.2.2.2.2.2.2.1) (x28.2.2.2.2.2.2.2.1.zw) λw32=>m10 (x29,()) w32) (ifB (x12==28) ((0<=(0:Int)/\0<(s2.1.l:Int))/\zc s2.1.a λa30=>ldI w10.drew (a30.add 0) .u32 λx31=>(0<=(1:Int)/\1<(s2.1.l:Int))/\zc s2.1.a λa32=>ldI w10.drew (a32.add 1) .u32 λx33=>dS 95 #[.pointer p0,zu x31,zu x33] w10.drew λx35 x36 w33=>du w33 (zB w3) (zb x35.1) (zi x35.2.1) (zi x35.2.2.1) (.bool x35.2.2.2.1) (zu x35.2.2.2.2.1) (zu x35.2.2.2.2.2.1) (zi x35.2.2.2.2.2.2.1) (x35.2.2.2.2.2.2.2.1.zw) λw41=>m10 (x36,()) w41) (ifB (x12==30) (zc p0 λa37=>ldP w10 a37 λx38=>dS 96 #[.pointer x38,s2.1.zw] w10 λx40 x41 w42=>du w42 (zB w3) (zb x40.1) (zi x40.2.1) (zi x40.2.2.1) (.bool x40.2.2.2.1) (zu x40.2.2.2.2.1) (zu x40.2.2.2.2.2.1) (zi x40.2.2.2.2.2.2.1) (x40.2.2.2.2.2.2.2.1.zw) λw50=>m10 (x41,()) w50) (ifB (x12==32) (zo (S:=Int×Unit) (λm42=>zc p0 λa44=>ldP w10.drew a44 λx45=>(0<=(1:Int)/\1<(s2.1.l:Int))/\zc s2.1.a λa46=>ldI w10.drew (a46.add 1) .u32 λx47=>dK 97 #[.pointer x45,zu x47] w10.drew λx49 w51=>ifB (!x49) (m42 (100,()) w51) (m42 (0,()) w51)) (λs43 w52=>(0<=(0:Int)/\0<(s2.1.l:Int))/\zc s2.1.a λa50=>ldI w52.drew (a50.add 0) .u32 λx51=>(0<=(1:Int)/\1<=(s2.1.l:Int)/\(s2.1.l:Int)<=(s2.1.c:Int))/\du w52.drew (zB w3) (zb 7) (zi 0) (zi 0) (.bool false) (zu x51) (zu 0) (zi 0) (.slice (if s2.1.c=1 then s2.1.a else Option.map (λa=>a.add 1) s2.1.a) (s2.1.l-1) (s2.1.c-1)) λw60=>m10 (s43.1,()) w60)) (ifB (x12==33) (zc p0 λa52=>ldP w10 a52 λx53=>dS 98 #[.pointer x53,s2.1.zw] w10 λx55 x56 w61=>du w61 (zB w3) (zb x55.1) (zi x55.2.1) (zi x55.2.2.1) (.bool x55.2.2.2.1) (zu x55.2.2.2.2.1) (zu x55.2.2.2.2.2.1) (zi x55.2.2.2.2.2.2.1) (x55.2.2.2.2.2.2.2.1.zw) λw69=>m10 (x56,()) w69) (du w10 (zB w1) (zb 0) (zi 0) (zi 0) (.bool false) (zu 0) (zu 0) (zi 0) (.slice none 0 0) λw77=>dO w77 (zB w1) λx57 x58 x59 x60 x61 x62 x63 x64=>R (.tuple #[.agg #[zb x57,zi x58,zi x59,.bool x60,zu x61,zu x62,zi x63,x64.zw],.bool false,zi 0]) w77))))))))) (λs11 w78=>dO w78 (zB w3) λx65 x66 x67 x68 x69 x70 x71 x72=>du w78 (zB w1) (zb x65) (zi x66) (zi x67) (.bool x68) (zu x69) (zu x70) (zi x71) (x72.zw) λw86=>dO w86 (zB w1) λx73 x74 x75 x76 x77 x78 x79 x80=>R (.tuple #[.agg #[zb x73,zi x74,zi x75,.bool x76,zu x77,zu x78,zi x79,x80.zw],.bool true,zi s11.1]) w86))) ((Sl.mk none 0 0),0,()) w2
theorem zf9(p0)(p1)(R)(w)(h:zds p0 p1 R w):Calls Tryz.prog 59 #[.pointer p0,.agg #[.int .u16 p1.1,.int .u32 p1.2.1,.int .u32 p1.2.2.1,.slice p1.2.2.2.1.a p1.2.2.2.1.l p1.2.2.2.1.c]] w (Ret R):=lwC zd2 Tryz.func59 (by kernel_rfl) (by kernel_rfl) h
def zcf:Ann:=(.q (.seq (some ⟨[0,3],[]⟩) (.q (.cond (.q .nil) .nil)) (.q (.seq none (.q (.one (.loop ⟨[0,21,22],[(5,(.b .str)),(23,(.b (.int .i64)))]⟩ (.q (.seq none .c (.seq none (.one (.q .nil)) .nil)))))) (.q (.q .nil))))))
def zbI(p0:Option Addr)(p1:(Int×Int×Int×Sl×Unit))(R:VWP)(w:World):Prop:=Nw (w.alloc (.cells #[zh p1.1,zu p1.2.1,zu p1.2.2.1,p1.2.2.2.1.zw] 44)) λw1=>zo (S:=Unit) (λm1=>ldI w1 (zB w) .u16 λx3=>ifB (x3==28) (R (.bool false) w1) (ldI w1 (zB w) .u16 λx4=>ifB (x4==30) (R (.bool false) w1) (m1 () w1))) (λs2 w2=>ldI w2 (zB w) .u16 λx5=>dC 99 #[zi (IntKind.i64.wrap x5)] w2 λx7 w3=>ldS w3 ((zB w).add 3) λx8=>zl (S:=ByteArray×Int×Unit) (λs9 w4 n10=>ifB (decide (s9.2.1<(x8.l:Int))) ((0<=s9.2.1/\s9.2.1<(x8.l:Int))/\zc x8.a λa11=>dm w4 (a11.add (s9.2.1.toNat *3)) λx12 x13 x14=>Nw (w4.alloc (.cells #[zb 0,zu 0,.string (BM #[])] 123)) λw5=>dn w5 (zB w4) (zb x12) (zu x13) (.string x14) λw8=>ldI w8 ((zB w4).add 1) .u32 λx15=>dC 99 #[zi (IntKind.i64.wrap x15)] w8 λx17 w9=>zcz (BM #[32]) x17/\zcz s9.1 ((BM #[32])++x17)/\n10 ((s9.1++((BM #[32])++x17)),(IntKind.i64.wrap (s9.2.1+(1:Int))),()) w9) (zc p0 λa18=>ldM w4 (a18.add 2) λx19=>zax Tryz.prog 138 (.map x19) (.string s9.1) (BK.int .i64) w4 λ(x20:Int)=>updW Tryz.prog 138 (.map x19) (.string s9.1) (zi (IntKind.i64.wrap (x20+(1:Int)))) w4 λw10=>zc p0 λa21=>ldM w10 (a21.add 2) λx22=>zax Tryz.prog 138 (.map x22) (.string s9.1) (BK.int .i64) w10 λ(x23:Int)=>R (.bool (decide (x23>(1:Int)))) w10)) (x7,0,()) w3)
theorem zeH(p0)(p1)(R)(w)(h:zbI p0 p1 R w):Calls Tryz.prog 60 #[.pointer p0,.agg #[.int .u16 p1.1,.int .u32 p1.2.1,.int .u32 p1.2.2.1,.slice p1.2.2.2.1.a p1.2.2.2.1.l p1.2.2.2.1.c]] w (Ret R):=lwC zcf Tryz.func60 (by kernel_rfl) (by kernel_rfl) h
def zeh:Ann:=(.q (.seq none (.q (.cond (.q .nil) .nil)) (.q .nil)))
def zdY(p0:Option Addr)(p1:Int)(R:VWP)(w:World):Prop:=Nw (w.alloc (.cells #[zb 0,zi 0,zi 0,.bool false,zu 0,zu 0,zi 0,.slice none 0 0] 144)) λw1=>ifB (Option.isNone p0) (du w1 (zB w) (zb 0) (zi 0) (zi 0) (.bool false) (zu 0) (zu 0) (zi 0) (.slice none 0 0) λw9=>dO w9 (zB w) λx1 x2 x3 x4 x5 x6 x7 x8=>R (.agg #[zb x1,zi x2,zi x3,.bool x4,zu x5,zu x6,zi x7,x8.zw]) w9) (zc p0 λa9=>ldM w1 a9 λx10=>za1 Tryz.prog 134 (.map x10) (zu p1) [(.int .u8),(.int .i64),(.int .i64),.bool,(.int .u32),(.int .u32),(.int .i64),.slice] w1 λ(x11:(Int×Int×Int×Bool×Int×Int×Int×Sl×Unit))=>du w1 (zB w) (zb x11.1) (zi x11.2.1) (zi x11.2.2.1) (.bool x11.2.2.2.1) (zu x11.2.2.2.2.1) (zu x11.2.2.2.2.2.1) (zi x11.2.2.2.2.2.2.1) (x11.2.2.2.2.2.2.2.1.zw) λw17=>dO w17 (zB w) λx12 x13 x14 x15 x16 x17 x18 x19=>R (.agg #[zb x12,zi x13,zi x14,.bool x15,zu x16,zu x17,zi x18,x19.zw]) w17)
theorem zg7(p0)(p1)(R)(w)(h:zdY p0 p1 R w):Calls Tryz.prog 80 #[.pointer p0,.int .u32 p1] w (Ret R):=lwC zeh Tryz.func80 (by kernel_rfl) (by kernel_rfl) h
def zaZ:Ann:=(.q (.q .nil))
def zaL(p0:Option Addr)(p1:Int)(R:VWP)(w:World):Prop:=dR 80 #[.pointer p0,zu p1] w λx2 w1=>R (.bool x2.2.2.2.1) w1
theorem zdQ(p0)(p1)(R)(w)(h:zaL p0 p1 R w):Calls Tryz.prog 91 #[.pointer p0,.int .u32 p1] w (Ret R):=lwC zaZ Tryz.func91 (by kernel_rfl) (by kernel_rfl) h
def zba:Ann:=(.q (.q (.seq (some ⟨[1,2,6,8],[]⟩) (.one (.q (.cond (.q .nil) (.q (.cond (.q .nil) .nil))))) (.q .nil))))
def zaM(p0:Option Addr)(p1:Int)(p2:Int)(R:VWP)(w:World):Prop:=Nw (w.alloc (.cells #[zb 0,zi 0,zi 0,.bool false,zu 0,zu 0,zi 0,.slice none 0 0] 144)) λw1=>zc p0 λa1=>ldM w1 a1 λx2=>za1 Tryz.prog 134 (.map x2) (zu p1) [(.int .u8),(.int .i64),(.int .i64),.bool,(.int .u32),(.int .u32),(.int .i64),.slice] w1 λ(x3:(Int×Int×Int×Bool×Int×Int×Int×Sl×Unit))=>dP w1 #[zb 0,zi 0,zi 0,.bool false,zu 0,zu 0,zi 0,.slice none 0 0] 144 (zb x3.1) (zi x3.2.1) (zi x3.2.2.1) (.bool x3.2.2.2.1) (zu x3.2.2.2.2.1) (zu x3.2.2.2.2.2.1) (zi x3.2.2.2.2.2.2.1) (x3.2.2.2.2.2.2.2.1.zw) λw10=>zo (S:=Unit) (λm4=>ldI w10 (zB w1) .u8 λx6=>ifB (x6 !=2) (ldI w10 (zB w1) .u8 λx7=>ifB (x7 !=3) (du w10 (zB w) (zb 0) (zi 0) (zi 0) (.bool false) (zu 0) (zu 0) (zi 0) (.slice none 0 0) λw18=>dO w18 (zB w) λx8 x9 x10 x11 x12 x13 x14 x15=>R (.tuple #[.agg #[zb x8,zi x9,zi x10,.bool x11,zu x12,zu x13,zi x14,x15.zw],zi 100]) w18) (ifB (decide (p2<(2:Int))) (du w10 (zB w) (zb 0) (zi 0) (zi 0) (.bool false) (zu 0) (zu 0) (zi 0) (.slice none 0 0) λw26=>dO w26 (zB w) λx16 x17 x18 x19 x20 x21 x22 x23=>R (.tuple #[.agg #[zb x16,zi x17,zi x18,.bool x19,zu x20,zu x21,zi x22,x23.zw],zi 102]) w26) (ifB (decide (p2>(4:Int))) (du w10 (zB w) (zb 0) (zi 0) (zi 0) (.bool false) (zu 0) (zu 0) (zi 0) (.slice none 0 0) λw34=>dO w34 (zB w) λx24 x25 x26 x27 x28 x29 x30 x31=>R (.tuple #[.agg #[zb x24,zi x25,zi x26,.bool x27,zu x28,zu x29,zi x30,x31.zw],zi 102]) w34) (m4 () w10)))) (ifB (decide (p2<(2:Int))) (du w10 (zB w) (zb 0) (zi 0) (zi 0) (.bool false) (zu 0) (zu 0) (zi 0) (.slice none 0 0) λw42=>dO w42 (zB w) λx32 x33 x34 x35 x36 x37 x38 x39=>R (.tuple #[.agg #[zb x32,zi x33,zi x34,.bool x35,zu x36,zu x37,zi x38,x39.zw],zi 102]) w42) (ifB (decide (p2>(4:Int))) (du w10 (zB w) (zb 0) (zi 0) (zi 0) (.bool false) (zu 0) (zu 0) (zi 0) (.slice none 0 0) λw50=>dO w50 (zB w) λx40 x41 x42 x43 x44 x45 x46 x47=>R (.tuple #[.agg #[zb x40,zi x41,zi x42,.bool x43,zu x44,zu x45,zi x46,x47.zw],zi 102]) w50) (m4 () w10)))) (λs5 w51=>ldI w51 ((zB w1).add 2) .i64 λx48=>dS 129 #[.agg #[zb 4,zi 0,zi 0,.bool false,zu 0,zu p1,zi (IntKind.i64.wrap p2),.slice none 0 0],zi (IntKind.i64.wrap p2),zi x48] w51 λx50 x51 w52=>du w52 (zB w) (zb x50.1) (zi x50.2.1) (zi x50.2.2.1) (.bool x50.2.2.2.1) (zu x50.2.2.2.2.1) (zu x50.2.2.2.2.2.1) (zi x50.2.2.2.2.2.2.1) (x50.2.2.2.2.2.2.2.1.zw) λw60=>dO w60 (zB w) λx52 x53 x54 x55 x56 x57 x58 x59=>R (.tuple #[.agg #[zb x52,zi x53,zi x54,.bool x55,zu x56,zu x57,zi x58,x59.zw],zi x51]) w60)
theorem zdR(p0)(p1)(p2)(R)(w)(h:zaM p0 p1 p2 R w):Calls Tryz.prog 94 #[.pointer p0,.int .u32 p1,.int .u32 p2] w (Ret R):=lwC zba Tryz.func94 (by kernel_rfl) (by kernel_rfl) h
def zcg:Ann:=(.q (.q (.seq none (.q (.cond (.q .nil) .nil)) (.q (.seq (some ⟨[1,6,8,9],[]⟩) (.q (.cond (.q .nil) .nil)) (.q (.q .nil)))))))
def zbJ(p0:Option Addr)(p1:Int)(p2:Int)(R:VWP)(w:World):Prop:=Nw (w.alloc (.cells #[zb 0,zi 0,zi 0,.bool false,zu 0,zu 0,zi 0,.slice none 0 0] 144)) λw1=>zc p0 λa1=>ldP w1 a1 λx2=>zc x2 λa3=>ldM w1 a3 λx4=>za1 Tryz.prog 134 (.map x4) (zu p1) [(.int .u8),(.int .i64),(.int .i64),.bool,(.int .u32),(.int .u32),(.int .i64),.slice] w1 λ(x5:(Int×Int×Int×Bool×Int×Int×Int×Sl×Unit))=>dP w1 #[zb 0,zi 0,zi 0,.bool false,zu 0,zu 0,zi 0,.slice none 0 0] 144 (zb x5.1) (zi x5.2.1) (zi x5.2.2.1) (.bool x5.2.2.2.1) (zu x5.2.2.2.2.1) (zu x5.2.2.2.2.2.1) (zi x5.2.2.2.2.2.2.1) (x5.2.2.2.2.2.2.2.1.zw) λw10=>ldI w10 ((zB w1).add 1) .i64 λx6=>ifB (x6==0) (du w10 (zB w) (zb 0) (zi 0) (zi 0) (.bool false) (zu 0) (zu 0) (zi 0) (.slice none 0 0) λw18=>dO w18 (zB w) λx7 x8 x9 x10 x11 x12 x13 x14=>R (.tuple #[.agg #[zb x7,zi x8,zi x9,.bool x10,zu x11,zu x12,zi x13,x14.zw],zi 100]) w18) (zc p0 λa15=>ldM w10 (a15.add 1) λx16=>za1 Tryz.prog 137 (.map x16) (zu p2) [(.int .u16),(.int .u32),(.int .u32),.slice] w10 λ(x17:(Int×Int×Int×Sl×Unit))=>dg w10 #[zh 0,zu 0,zu 0,.slice none 0 0] 44 (zh x17.1) (zu x17.2.1) (zu x17.2.2.1) (x17.2.2.2.1.zw) λw23=>zo (S:=Unit) (λm18=>ldI w23.drew (zB w10) .u16 λx20=>ifB (x20 !=43) (du w23.drew (zB w) (zb 0) (zi 0) (zi 0) (.bool false) (zu 0) (zu 0) (zi 0) (.slice none 0 0) λw31=>dO w31 (zB w) λx21 x22 x23 x24 x25 x26 x27 x28=>R (.tuple #[.agg #[zb x21,zi x22,zi x23,.bool x24,zu x25,zu x26,zi x27,x28.zw],zi 102]) w31) (zc p0 λa29=>ldP w23.drew a29 λx30=>zc x30 λa31=>ldM w23.drew a31 λx32=>ldI w23.drew ((zB w10).add 1) .u32 λx33=>za1 Tryz.prog 134 (.map x32) (zu x33) [(.int .u8),(.int .i64),(.int .i64),.bool,(.int .u32),(.int .u32),(.int .i64),.slice] w23.drew λ(x34:(Int×Int×Int×Bool×Int×Int×Int×Sl×Unit))=>ifB (x34.1 !=3) (du w23.drew (zB w) (zb 0) (zi 0) (zi 0) (.bool false) (zu 0) (zu 0) (zi 0) (.slice none 0 0) λw39=>dO w39 (zB w) λx35 x36 x37 x38 x39 x40 x41 x42=>R (.tuple #[.agg #[zb x35,zi x36,zi x37,.bool x38,zu x39,zu x40,zi x41,x42.zw],zi 102]) w39) (ldS w23.drew ((zB w10).add 3) λx43=>(0<=(0:Int)/\0<(x43.l:Int))/\zc x43.a λa44=>ldI w23.drew ((a44.add (0*3)).add 1) .u32 λx45=>ifB (decide (x45<(1:Int))) (du w23.drew (zB w) (zb 0) (zi 0) (zi 0) (.bool false) (zu 0) (zu 0) (zi 0) (.slice none 0 0) λw47=>dO w47 (zB w) λx46 x47 x48 x49 x50 x51 x52 x53=>R (.tuple #[.agg #[zb x46,zi x47,zi x48,.bool x49,zu x50,zu x51,zi x52,x53.zw],zi 102]) w47) (ldS w23.drew ((zB w10).add 3) λx54=>(0<=(0:Int)/\0<(x54.l:Int))/\zc x54.a λa55=>ldI w23.drew ((a55.add (0*3)).add 1) .u32 λx56=>ifB (decide (x56>(4096:Int))) (du w23.drew (zB w) (zb 0) (zi 0) (zi 0) (.bool false) (zu 0) (zu 0) (zi 0) (.slice none 0 0) λw55=>dO w55 (zB w) λx57 x58 x59 x60 x61 x62 x63 x64=>R (.tuple #[.agg #[zb x57,zi x58,zi x59,.bool x60,zu x61,zu x62,zi x63,x64.zw],zi 102]) w55) (m18 () w23.drew))))) (λs19 w56=>ldS w56 ((zB w10).add 3) λx65=>(0<=(0:Int)/\0<(x65.l:Int))/\zc x65.a λa66=>ldI w56 ((a66.add (0*3)).add 1) .u32 λx67=>ldI w56 ((zB w1).add 1) .i64 λx68=>ldI w56 ((zB w1).add 2) .i64 λx69=>dS 129 #[.agg #[zb 5,zi 0,zi 0,.bool false,zu 0,zu p1,zi (IntKind.i64.wrap x67),.slice none 0 0],zi (IntKind.i64.wrap ((IntKind.i64.wrap x67)*x68)),zi x69] w56 λx71 x72 w57=>du w57 (zB w) (zb x71.1) (zi x71.2.1) (zi x71.2.2.1) (.bool x71.2.2.2.1) (zu x71.2.2.2.2.1) (zu x71.2.2.2.2.2.1) (zi x71.2.2.2.2.2.2.1) (x71.2.2.2.2.2.2.2.1.zw) λw65=>dO w65 (zB w) λx73 x74 x75 x76 x77 x78 x79 x80=>R (.tuple #[.agg #[zb x73,zi x74,zi x75,.bool x76,zu x77,zu x78,zi x79,x80.zw],zi x72]) w65))
theorem zeI(p0)(p1)(p2)(R)(w)(h:zbJ p0 p1 p2 R w):Calls Tryz.prog 95 #[.pointer p0,.int .u32 p1,.int .u32 p2] w (Ret R):=lwC zcg Tryz.func95 (by kernel_rfl) (by kernel_rfl) h
def zaw:Ann:=(.q (.seq (some ⟨[0,1,4],[]⟩) (.q (.cond (.q .nil) .nil)) (.q (.seq none (.q (.one (.loop ⟨[0,1,4,19,20],[(6,(.b (.int .i64))),(7,(.b (.int .i64))),(21,(.b (.int .i64)))]⟩ (.q (.seq none .c (.seq none (.one (.q (.seq none (.q (.cond (.q .nil) .nil)) (.q .nil)))) .nil)))))) (.q .nil)))))
def zal(p0:Option Addr)(p1:Sl)(R:VWP)(w:World):Prop:=Nw (w.alloc (.cells #[zb 0,zi 0,zi 0,.bool false,zu 0,zu 0,zi 0,.slice none 0 0] 144)) λw1=>zo (S:=Unit) (λm1=>ifB (decide ((p1.l:Int)<1)) (du w1 (zB w) (zb 0) (zi 0) (zi 0) (.bool false) (zu 0) (zu 0) (zi 0) (.slice none 0 0) λw9=>dO w9 (zB w) λx3 x4 x5 x6 x7 x8 x9 x10=>R (.tuple #[.agg #[zb x3,zi x4,zi x5,.bool x6,zu x7,zu x8,zi x9,x10.zw],zi 102]) w9) (ifB (decide ((p1.l:Int)>256)) (du w1 (zB w) (zb 0) (zi 0) (zi 0) (.bool false) (zu 0) (zu 0) (zi 0) (.slice none 0 0) λw17=>dO w17 (zB w) λx11 x12 x13 x14 x15 x16 x17 x18=>R (.tuple #[.agg #[zb x11,zi x12,zi x13,.bool x14,zu x15,zu x16,zi x17,x18.zw],zi 102]) w17) (m1 () w1))) (λs2 w18=>zl (S:=Int×Int×Int×Unit) (λs19 w19 n20=>ifB (decide (s19.2.2.1<(p1.l:Int))) ((0<=s19.2.2.1/\s19.2.2.1<(p1.l:Int))/\zc p1.a λa21=>ldI w19 (a21.add s19.2.2.1.toNat) .u32 λx22=>dK 97 #[.pointer p0,zu x22] w19 λx24 w20=>ifB (!x24) (du w20 (zB w) (zb 0) (zi 0) (zi 0) (.bool false) (zu 0) (zu 0) (zi 0) (.slice none 0 0) λw28=>dO w28 (zB w) λx25 x26 x27 x28 x29 x30 x31 x32=>R (.tuple #[.agg #[zb x25,zi x26,zi x27,.bool x28,zu x29,zu x30,zi x31,x32.zw],zi 100]) w28) (zc p0 λa33=>ldM w20 a33 λx34=>za1 Tryz.prog 134 (.map x34) (zu x22) [(.int .u8),(.int .i64),(.int .i64),.bool,(.int .u32),(.int .u32),(.int .i64),.slice] w20 λ(x35:(Int×Int×Int×Bool×Int×Int×Int×Sl×Unit))=>zc p0 λa36=>ldM w20 a36 λx37=>za1 Tryz.prog 134 (.map x37) (zu x22) [(.int .u8),(.int .i64),(.int .i64),.bool,(.int .u32),(.int .u32),(.int .i64),.slice] w20 λ(x38:(Int×Int×Int×Bool×Int×Int×Int×Sl×Unit))=>n20 ((IntKind.i64.wrap (s19.1+x35.2.1)),(if x38.2.2.1>s19.2.1 then x38.2.2.1 else s19.2.1),(IntKind.i64.wrap (s19.2.2.1+(1:Int))),()) w20)) (dS 129 #[.agg #[zb 6,zi 0,zi 0,.bool false,zu 0,zu 0,zi 0,p1.zw],zi s19.1,zi s19.2.1] w19 λx40 x41 w29=>du w29 (zB w) (zb x40.1) (zi x40.2.1) (zi x40.2.2.1) (.bool x40.2.2.2.1) (zu x40.2.2.2.2.1) (zu x40.2.2.2.2.2.1) (zi x40.2.2.2.2.2.2.1) (x40.2.2.2.2.2.2.2.1.zw) λw37=>dO w37 (zB w) λx42 x43 x44 x45 x46 x47 x48 x49=>R (.tuple #[.agg #[zb x42,zi x43,zi x44,.bool x45,zu x46,zu x47,zi x48,x49.zw],zi x41]) w37)) (0,0,0,()) w18)
theorem zdk(p0)(p1)(R)(w)(h:zal p0 p1 R w):Calls Tryz.prog 96 #[.pointer p0,.slice p1.a p1.l p1.c] w (Ret R):=lwC zaw Tryz.func96 (by kernel_rfl) (by kernel_rfl) h
def zce:Ann:=(.q (.q .nil))
def zbH(p0:Option Addr)(p1:Int)(R:VWP)(w:World):Prop:=zc p0 λa1=>ldM w a1 λx2=>za1 Tryz.prog 134 (.map x2) (zu p1) [(.int .u8),(.int .i64),(.int .i64),.bool,(.int .u32),(.int .u32),(.int .i64),.slice] w λ(x3:(Int×Int×Int×Bool×Int×Int×Int×Sl×Unit))=>R (.bool (decide (x3.2.1>(0:Int)))) w
theorem zeG(p0)(p1)(R)(w)(h:zbH p0 p1 R w):Calls Tryz.prog 97 #[.pointer p0,.int .u32 p1] w (Ret R):=lwC zce Tryz.func97 (by kernel_rfl) (by kernel_rfl) h
def YP:Ann:=(.q (.seq none (.q (.one (.loop ⟨[0,1,4,9,10],[(11,(.b (.int .i64)))]⟩ (.q (.seq none .c (.seq (some ⟨[0,1,4,9,10,11],[]⟩) (.one (.q (.q (.seq (some ⟨[0,1,4,7,9,10,11],[(8,(.b (.int .u8)))]⟩) (.q .c) (.q (.cond (.q .nil) .nil)))))) .nil)))))) (.q .nil)))
def YJ(p0:Option Addr)(p1:Sl)(R:VWP)(w:World):Prop:=Nw (w.alloc (.cells #[zb 0,zi 0,zi 0,.bool false,zu 0,zu 0,zi 0,.slice none 0 0] 144)) λw1=>zl (S:=Int×Unit) (λs1 w2 n2=>ifB (decide (s1.1<(p1.l:Int))) (zo (S:=Unit) (λm3=>(0<=s1.1/\s1.1<(p1.l:Int))/\zc p1.a λa5=>ldI w2 (a5.add s1.1.toNat) .u32 λx6=>zo (S:=Int×Unit) (λm7=>ifB (s1.1==0) (m7 (1,()) w2) (m7 (7,()) w2)) (λs8 w3=>dK 97 #[.pointer p0,zu x6] w3 λx10 w4=>ifB (!x10) (zc p0 λa11=>ldM w4 a11 λx12=>za1 Tryz.prog 134 (.map x12) (zu x6) [(.int .u8),(.int .i64),(.int .i64),.bool,(.int .u32),(.int .u32),(.int .i64),.slice] w4 λ(x13:(Int×Int×Int×Bool×Int×Int×Int×Sl×Unit))=>ifB (x13.1 !=s8.1) (du w4 (zB w) (zb 0) (zi 0) (zi 0) (.bool false) (zu 0) (zu 0) (zi 0) (.slice none 0 0) λw12=>dO w12 (zB w) λx14 x15 x16 x17 x18 x19 x20 x21=>R (.tuple #[.agg #[zb x14,zi x15,zi x16,.bool x17,zu x18,zu x19,zi x20,x21.zw],zi 100]) w12) (m3 () w4)) (m3 () w4))) (λs4 w13=>n2 ((IntKind.i64.wrap (s1.1+(1:Int))),()) w13)) (du w2 (zB w) (zb 8) (zi 0) (zi 0) (.bool false) (zu 0) (zu 0) (zi 0) (p1.zw) λw21=>dO w21 (zB w) λx22 x23 x24 x25 x26 x27 x28 x29=>R (.tuple #[.agg #[zb x22,zi x23,zi x24,.bool x25,zu x26,zu x27,zi x28,x29.zw],zi 0]) w21)) (0,()) w1
theorem zcZ(p0)(p1)(R)(w)(h:YJ p0 p1 R w):Calls Tryz.prog 98 #[.pointer p0,.slice p1.a p1.l p1.c] w (Ret R):=lwC YP Tryz.func98 (by kernel_rfl) (by kernel_rfl) h
def zcd:Ann:=(.q (.q .nil))
def zbG(p0:Option Addr)(p1:Int)(R:VWP)(w:World):Prop:=dR 80 #[.pointer p0,zu p1] w λx2 w1=>R (.bool (decide (x2.2.1>(0:Int)))) w1
theorem zeF(p0)(p1)(R)(w)(h:zbG p0 p1 R w):Calls Tryz.prog 102 #[.pointer p0,.int .u32 p1] w (Ret R):=lwC zcd Tryz.func102 (by kernel_rfl) (by kernel_rfl) h
def zcc:Ann:=(.q (.q (.q .nil)))
def zbF(p0:Option Addr)(p1:Int)(R:VWP)(w:World):Prop:=dR 80 #[.pointer p0,zu p1] w λx2 w1=>dP w1 #[zb 0,zi 0,zi 0,.bool false,zu 0,zu 0,zi 0,.slice none 0 0] 144 (zb x2.1) (zi x2.2.1) (zi x2.2.2.1) (.bool x2.2.2.2.1) (zu x2.2.2.2.2.1) (zu x2.2.2.2.2.2.1) (zi x2.2.2.2.2.2.2.1) (x2.2.2.2.2.2.2.2.1.zw) λw10=>ldI w10 ((zB w1).add 6) .i64 λx3=>ldS w10 ((zB w1).add 7) λx4=>R (zi (IntKind.i64.wrap (x3+(x4.l:Int)))) w10
theorem zeE(p0)(p1)(R)(w)(h:zbF p0 p1 R w):Calls Tryz.prog 104 #[.pointer p0,.int .u32 p1] w (Ret R):=lwC zcc Tryz.func104 (by kernel_rfl) (by kernel_rfl) h
def zcJ:Ann:=(.q (.q (.seq (some ⟨[2,8],[]⟩) (.one (.q (.cond (.q .nil) (.q (.cond (.q .nil) .nil))))) (.q .nil))))
def zcB(p0:Option Addr)(p1:Int)(p2:Int)(R:VWP)(w:World):Prop:=dR 80 #[.pointer p0,zu p1] w λx2 w1=>dP w1 #[zb 0,zi 0,zi 0,.bool false,zu 0,zu 0,zi 0,.slice none 0 0] 144 (zb x2.1) (zi x2.2.1) (zi x2.2.2.1) (.bool x2.2.2.2.1) (zu x2.2.2.2.2.1) (zu x2.2.2.2.2.2.1) (zi x2.2.2.2.2.2.2.1) (x2.2.2.2.2.2.2.2.1.zw) λw10=>zo (S:=Unit) (λm3=>ifB (decide (p2<(0:Int))) (R (.tuple #[zu 0,.bool false]) w10) (ldI w10 ((zB w1).add 6) .i64 λx5=>ldS w10 ((zB w1).add 7) λx6=>ifB (decide (p2≥(IntKind.i64.wrap (x5+(x6.l:Int))))) (R (.tuple #[zu 0,.bool false]) w10) (ldI w10 ((zB w1).add 6) .i64 λx7=>ifB (decide (x7>(0:Int))) (ldI w10 ((zB w1).add 5) .u32 λx8=>R (.tuple #[zu x8,.bool true]) w10) (m3 () w10)))) (λs4 w11=>ldS w11 ((zB w1).add 7) λx9=>(0<=p2/\p2<(x9.l:Int))/\zc x9.a λa10=>ldI w11 (a10.add p2.toNat) .u32 λx11=>R (.tuple #[zu x11,.bool true]) w11)
theorem zfj(p0)(p1)(p2)(R)(w)(h:zcB p0 p1 p2 R w):Calls Tryz.prog 105 #[.pointer p0,.int .u32 p1,.int .i64 p2] w (Ret R):=lwC zcJ Tryz.func105 (by kernel_rfl) (by kernel_rfl) h
def zcb:Ann:=(.q (.q (.q .nil)))
def zbE(p0:Option Addr)(p1:Int)(R:VWP)(w:World):Prop:=dR 80 #[.pointer p0,zu p1] w λx2 w1=>dP w1 #[zb 0,zi 0,zi 0,.bool false,zu 0,zu 0,zi 0,.slice none 0 0] 144 (zb x2.1) (zi x2.2.1) (zi x2.2.2.1) (.bool x2.2.2.2.1) (zu x2.2.2.2.2.1) (zu x2.2.2.2.2.2.1) (zi x2.2.2.2.2.2.2.1) (x2.2.2.2.2.2.2.2.1.zw) λw10=>ldI w10.drew ((zB w1).add 4) .u32 λx3=>ldI w10.drew (zB w1) .u8 λx4=>R (.tuple #[zu x3,.bool (x4==7)]) w10.drew
theorem zeD(p0)(p1)(R)(w)(h:zbE p0 p1 R w):Calls Tryz.prog 107 #[.pointer p0,.int .u32 p1] w (Ret R):=lwC zcb Tryz.func107 (by kernel_rfl) (by kernel_rfl) h
def zcI:Ann:=(.q (.q .nil))
def zcA(p0:Option Addr)(p1:Int)(R:VWP)(w:World):Prop:=dR 80 #[.pointer p0,zu p1] w λx2 w1=>R (zb x2.1) w1
theorem zfi(p0)(p1)(R)(w)(h:zcA p0 p1 R w):Calls Tryz.prog 113 #[.pointer p0,.int .u32 p1] w (Ret R):=lwC zcI Tryz.func113 (by kernel_rfl) (by kernel_rfl) h
def zho:Ann:=(.q (.q (.q (.seq none (.one (.q (.cond (.q .nil) (.q (.cond (.q .nil) .nil))))) (.q .nil)))))
def zhf(p0:(Int×Int×Int×Bool×Int×Int×Int×Sl×Unit))(p1:Int)(p2:Int)(R:VWP)(w:World):Prop:=Nw (w.alloc (.cells #[zb p0.1,zi p0.2.1,zi p0.2.2.1,.bool p0.2.2.2.1,zu p0.2.2.2.2.1,zu p0.2.2.2.2.2.1,zi p0.2.2.2.2.2.2.1,p0.2.2.2.2.2.2.2.1.zw] 144)) λw1=>Nw (w1.alloc (.cells #[zb 0,zi 0,zi 0,.bool false,zu 0,zu 0,zi 0,.slice none 0 0] 144)) λw2=>Wr w2 ((zB w).add 1)/\Nw (w2.setCell ((zB w).add 1) (zi p1)) λw3=>Wr w3 ((zB w).add 2)/\Nw (w3.setCell ((zB w).add 2) (zi (IntKind.i64.wrap (p2+(1:Int))))) λw4=>ifB (decide (p1>(4096:Int))) (du w4 (zB w1) (zb 0) (zi 0) (zi 0) (.bool false) (zu 0) (zu 0) (zi 0) (.slice none 0 0) λw12=>dO w12 (zB w1) λx1 x2 x3 x4 x5 x6 x7 x8=>R (.tuple #[.agg #[zb x1,zi x2,zi x3,.bool x4,zu x5,zu x6,zi x7,x8.zw],zi 102]) w12) (ldI w4 ((zB w).add 2) .i64 λx9=>ifB (decide (x9>(16:Int))) (du w4 (zB w1) (zb 0) (zi 0) (zi 0) (.bool false) (zu 0) (zu 0) (zi 0) (.slice none 0 0) λw20=>dO w20 (zB w1) λx10 x11 x12 x13 x14 x15 x16 x17=>R (.tuple #[.agg #[zb x10,zi x11,zi x12,.bool x13,zu x14,zu x15,zi x16,x17.zw],zi 4]) w20) (dO w4 (zB w) λx18 x19 x20 x21 x22 x23 x24 x25=>du w4 (zB w1) (zb x18) (zi x19) (zi x20) (.bool x21) (zu x22) (zu x23) (zi x24) (x25.zw) λw28=>dO w28 (zB w1) λx26 x27 x28 x29 x30 x31 x32 x33=>R (.tuple #[.agg #[zb x26,zi x27,zi x28,.bool x29,zu x30,zu x31,zi x32,x33.zw],zi 0]) w28))
theorem ziX(p0)(p1)(p2)(R)(w)(h:zhf p0 p1 p2 R w):Calls Tryz.prog 129 #[.agg #[.int .u8 p0.1,.int .i64 p0.2.1,.int .i64 p0.2.2.1,.bool p0.2.2.2.1,.int .u32 p0.2.2.2.2.1,.int .u32 p0.2.2.2.2.2.1,.int .i64 p0.2.2.2.2.2.2.1,.slice p0.2.2.2.2.2.2.2.1.a p0.2.2.2.2.2.2.2.1.l p0.2.2.2.2.2.2.2.1.c],.int .i64 p1,.int .i64 p2] w (Ret R):=lwC zho Tryz.func129 (by kernel_rfl) (by kernel_rfl) h
end Go.Proofs
namespace Go.Proofs
open Go.Gk Go.RowKit Go.Gm
abbrev Tv:=Int×Int×Int×Bool×Int×Int×Int×Sl×Unit
abbrev tyV(v:Tv):List Value:=[.int .u8 v.1,.int .i64 v.2.1,.int .i64 v.2.2.1,.bool v.2.2.2.1,.int .u32 v.2.2.2.2.1,.int .u32 v.2.2.2.2.2.1,.int .i64 v.2.2.2.2.2.2.1,.slice v.2.2.2.2.2.2.2.1.a v.2.2.2.2.2.2.2.1.l v.2.2.2.2.2.2.2.1.c]
abbrev tyA(v:Tv):Value:=.agg #[.int .u8 v.1,.int .i64 v.2.1,.int .i64 v.2.2.1,.bool v.2.2.2.1,.int .u32 v.2.2.2.2.1,.int .u32 v.2.2.2.2.2.1,.int .i64 v.2.2.2.2.2.2.1,.slice v.2.2.2.2.2.2.2.1.a v.2.2.2.2.2.2.2.1.l v.2.2.2.2.2.2.2.1.c]
abbrev tyK:List BK:=[(.int .u8),(.int .i64),(.int .i64),.bool,(.int .u32),(.int .u32),(.int .i64),.slice]
def tv0:Tv:=(0,0,0,false,0,0,0,⟨none,0,0⟩,())
abbrev ty0:Array Value:=#[(.int .u8 (0:Int)),(.int .i64 (0:Int)),(.int .i64 (0:Int)),(.bool false),(.int .u32 (0:Int)),(.int .u32 (0:Int)),(.int .i64 (0:Int)),(.slice none 0 0)]
inductive Al2 {α β:Type} (R:α->β->Prop):List α->List β->Prop
 |nil:Al2 R [] []
 |cons {a:α} {c:β} {l:List α} {m:List β} (h:R a c) (t:Al2 R l m):Al2 R (a::l) (c::m)
theorem boxT{T:TypeId}{cs:Array Value}{v0 v1 v2 v3 v4 v5 v6 v7:Value}{K:World->Prop}{w:World}(hl:cs.size=8)(hK:∀w',Blk w' w.heap.size T [v0,v1,v2,v3,v4,v5,v6,v7]->Below w.heap.size w w'->w'.heap.size=w.heap.size+1->K w') :
  Nw (w.alloc (.cells cs T)) λw0=>Wr w0 (blk w.heap.size)/\Nw (w0.setCell (blk w.heap.size) v0) λw1=>Wr w1 ((blk w.heap.size).add 1)/\Nw (w1.setCell ((blk w.heap.size).add 1) v1) λw2=>Wr w2 ((blk w.heap.size).add 2)/\Nw (w2.setCell ((blk w.heap.size).add 2) v2) λw3=>Wr w3 ((blk w.heap.size).add 3)/\Nw (w3.setCell ((blk w.heap.size).add 3) v3) λw4=>
   Wr w4 ((blk w.heap.size).add 4)/\Nw (w4.setCell ((blk w.heap.size).add 4) v4) λw5=>Wr w5 ((blk w.heap.size).add 5)/\Nw (w5.setCell ((blk w.heap.size).add 5) v5) λw6=>Wr w6 ((blk w.heap.size).add 6)/\Nw (w6.setCell ((blk w.heap.size).add 6) v6) λw7=>Wr w7 ((blk w.heap.size).add 7)/\Nw (w7.setCell ((blk w.heap.size).add 7) v7) λw8=>K w8:=
 zfV (vs:=[v0,v1,v2,v3,v4,v5,v6,v7]) hl hK
section
variable {w w':World} {R:VWP} {B tb r b:Nat} {v:Tv} {t:Tp} {T:TyL} {id:Int}
theorem Tv.load{Ty:TypeId}(h:Blk w b Ty (tyV v)){φ:Int->Int->Int->Bool->Int->Int->Int->Sl->Prop}(hφ:φ v.1 v.2.1 v.2.2.1 v.2.2.2.1 v.2.2.2.2.1 v.2.2.2.2.2.1 v.2.2.2.2.2.2.1 v.2.2.2.2.2.2.2.1) :
  ldI w ((blk b).add 0) .u8 λx1=>ldI w ((blk b).add 1) .i64 λx2=>ldI w ((blk b).add 2) .i64 λx3=>ldB w ((blk b).add 3) λx4=>ldI w ((blk b).add 4) .u32 λx5=>ldI w ((blk b).add 5) .u32 λx6=>ldI w ((blk b).add 6) .i64 λx7=>ldS w ((blk b).add 7) λx8=>φ x1 x2 x3 x4 x5 x6 x7 x8:=
 ⟨_,h.cell (n:=0) rfl,_,h.cell (n:=1) rfl,_,h.cell (n:=2) rfl,_,h.cell (n:=3) rfl,_,h.cell (n:=4) rfl,_,h.cell (n:=5) rfl,_,h.cell (n:=6) rfl,_,h.cell (n:=7) rfl,hφ⟩
structure TvOk (B:Nat) (w:World) (v:Tv) (t:Tp):Prop where
 kind:v.1=t.kind
 size:v.2.1=(t.size:Int)
 depth:v.2.2.1=(t.depth:Int)
 sg:v.2.2.2.1=t.sg
 cls:v.2.2.2.2.1=t.cls
 part:v.2.2.2.2.2.1=t.part
 times:v.2.2.2.2.2.2.1=(t.times:Int)
 ps:IsS (Value.int .u32) w v.2.2.2.2.2.2.2.1 t.ps
 fr:zK B v.2.2.2.2.2.2.2.1
theorem nilS{α:Type}(f:α->Value)(w:World):IsS f w ⟨none,0,0⟩ []:=(Own.nil w 22 1:Own w 22 1 ⟨none,0,0⟩ (([]:List α).map f)).isS
theorem zlv(B:Nat):zK B ⟨none,0,0⟩:=λa ha=>by cases ha
theorem TvOk.zero(B:Nat)(w:World):TvOk B w tv0 tp0:=⟨rfl,rfl,rfl,rfl,rfl,rfl,rfl,nilS _ w,zlv B⟩
theorem TvOk.keep(h:TvOk B w v t)(hb:∀k,B<=k->k<w.heap.size->w'.heap[k]? =w.heap[k]?):TvOk B w' v t:=
 ⟨h.kind,h.size,h.depth,h.sg,h.cls,h.part,h.times,h.ps.of_block λa ha hlt=>hb _ (h.fr a ha) hlt,h.fr⟩
theorem TvOk.below(h:TvOk B w v t)(hb:Below w.heap.size w w'):TvOk B w' v t:=h.keep λk _ h2=>hb.block k h2
theorem TvOk.mono{B':Nat}(h:TvOk B w v t)(hB:B'<=B):TvOk B' w v t:=⟨h.kind,h.size,h.depth,h.sg,h.cls,h.part,h.times,h.ps,λa ha=>Nat.le_trans hB (h.fr a ha)⟩
abbrev TyR(B:Nat)(w:World)(a:Int×Tv)(c:Int×Tp):Prop:=a.1=c.1/\TvOk B w a.2 c.2
structure IsTy (w:World) (B r:Nat) (T:TyL):Prop where
 ex:∃V:List (Int×Tv),IsMq w r (aggQ tyK) V/\Al2 (TyR B w) V T
 lo:B<=r
theorem zrd{α β:Type}{R:α->β->Prop}{id:Int}:∀{V:List (Int×α)} {T:List (Int×β)},Al2 (λa c=>a.1=c.1/\R a.2 c.2) V T->(zC V id=none/\zC T id=none)\/∃v t,zC V id=some v/\zC T id=some t/\R v t
 | [],[],_=>.inl ⟨rfl,rfl⟩
 |a::V,c::T,.cons h1 h2=>by
  simp only[zC]
  by_cases e:id=a.1
  ·rw[if_pos e,if_pos (e.trans h1.1)]
   exact .inr ⟨_,_,rfl,rfl,h1.2⟩
  ·rw[if_neg e,if_neg (λq=>e (q.trans h1.1.symm))]
   exact zrd h2
theorem setR{α β:Type}{R:α->β->Prop}{id:Int}{v:α}{t:β}(hv:R v t):∀{V:List (Int×α)} {T:List (Int×β)},Al2 (λa c=>a.1=c.1/\R a.2 c.2) V T->Al2 (λa c=>a.1=c.1/\R a.2 c.2) (setQ V id v) (setQ T id t)
 | [],[],_=>.cons ⟨rfl,hv⟩ .nil
 |a::V,c::T,.cons h1 h2=>by
  simp only[setQ]
  by_cases e:id=a.1
  ·rw[if_pos e,if_pos (e.trans h1.1)]
   exact .cons ⟨rfl,hv⟩ h2
  ·rw[if_neg e,if_neg (λq=>e (q.trans h1.1.symm))]
   exact .cons h1 (setR hv h2)
theorem allR{α β:Type}{R S:α->β->Prop}(h:∀a c,R a c->S a c):∀{V:List α} {T:List β},Al2 R V T->Al2 S V T
 | [],[],_=>.nil
 |_::_,_::_,.cons h1 h2=>.cons (h _ _ h1) (allR h h2)
theorem IsTy.keep(h:IsTy w B r T)(hb:∀k,B<=k->k<w.heap.size->w'.heap[k]? =w.heap[k]?):IsTy w' B r T:=by
 obtain⟨⟨V,h1,h2⟩,h3⟩:=h
 exact⟨⟨V,h1.of_block (hb r h3 h1.lt),allR (λa c q=>⟨q.1,q.2.keep hb⟩) h2⟩,h3⟩
theorem uTy:Tryz.prog.underlying 134=some (.map 22 144):=by kernel_rfl
theorem zTy:∃i,Tryz.prog.info? 144=some i/\i.zero=some (aggQ tyK tv0):=by
 have h:(Tryz.prog.info? 144).map (·.zero)=some (some (aggQ tyK tv0)):=by kernel_rfl
 cases hi:Tryz.prog.info? 144 with
 |none=>rw[hi]at h;cases h
 |some i=>rw[hi]at h;exact⟨i,rfl,by injection h⟩
theorem IsTy.look(h:IsTy w B r T)(hb:Below w.heap.size w w'){φ:HL tyK->Prop}(hφ:∀v,TvOk B w v (tA T id)->φ v):za1 Tryz.prog 134 (.map (some r)) (.int .u32 id) tyK w' φ:=by
 obtain⟨⟨V,h1,h2⟩,h3⟩:=h
 have key:TvOk B w ((zC (α:=Tv) V id).getD tv0) (tA T id):=by
  unfold tA
  rcases zrd h2 (id:=id) with⟨e1,e2⟩ | ⟨v,t,e1,e2,e3⟩
  ·rw[e1,e2]
   exact TvOk.zero B w
  ·rw[e1,e2]
   exact e3
 exact zm3 (ks:=tyK) (d:=tv0) uTy Tryz.underlying22 zTy (h1.below hb) (hφ _ key)
structure IsTb (w:World) (B tb:Nat) (T:TyL):Prop where
 ex:∃(r:Nat) (o:Sl),Blk w tb 136 [.map (some r),.slice o.a o.l o.c]/\IsTy w B r T
 lo:B<=tb
theorem IsTb.keep(h:IsTb w B tb T)(hb:∀k,B<=k->k<w.heap.size->w'.heap[k]? =w.heap[k]?):IsTb w' B tb T:=by
 obtain⟨⟨r,o,h1,h2⟩,h3⟩:=h
 exact⟨⟨r,o,h1.of_block (hb tb h3 h1.lt),h2.keep hb⟩,h3⟩
theorem IsTb.below(h:IsTb w B tb T)(hb:Below w.heap.size w w'):IsTb w' B tb T:=h.keep λk _ h2=>hb.block k h2
theorem zhJ(h:IsTb w B tb T)(hR:R (.bool (decide (0<(tA T id).size))) w):cR 97 #[.pointer (some (blk tb)),.int .u32 id] w R:=by
 refine za.of (zeG _ id R w ?_) λ_ _ h=>h
 obtain⟨⟨r,o,h1,h2⟩,h3⟩:=h
 refine ze rfl ⟨some r,h1.cell0 rfl,h2.look (Below.refl _ _) λv hv=>?_⟩
 have:decide (v.2.1>(0:Int))=decide (0<(tA T id).size):=by
  rw[hv.size]
  exact decide_eq_decide.2 (by omega)
 rw[this]
 exact hR
theorem zeM(h:IsTb w B tb T)(hR:∀w' v,TvOk B w' v (tA T id)->Below w.heap.size w w'->R (tyA v) w'):cR 80 #[.pointer (some (blk tb)),.int .u32 id] w R:=by
 refine za.of (zg7 _ id R w ?_) λ_ _ h=>h
 refine zm λw1 hD1 b1 z1=>zJ rfl ?_
 have hD1:Blk w1 w.heap.size 144 ty0.toList:=hD1
 obtain⟨⟨r,o,h1,hT⟩,h3⟩:=h
 refine ze rfl ⟨some r,(h1.below b1).cell0 rfl,hT.look b1 λv hv=>?_⟩
 refine st8 hD1 rfl λw2 h2 c2=>?_
 have b2:=c2.below b1 (Nat.le_refl _)
 exact Tv.load h2 (hR w2 v (hv.below b2) b2)
theorem zkI{K:World->Prop}(hK:∀w',Blk w' w.heap.size 144 (tyV v)->Below w.heap.size w w'->w'.heap.size=w.heap.size+1->K w') :
  Nw (w.alloc (.cells ty0 144)) λw0=>Wr w0 (blk w.heap.size)/\Nw (w0.setCell (blk w.heap.size) (.int .u8 v.1)) λw1=>Wr w1 ((blk w.heap.size).add 1)/\Nw (w1.setCell ((blk w.heap.size).add 1) (.int .i64 v.2.1)) λw2=>Wr w2 ((blk w.heap.size).add 2)/\Nw (w2.setCell ((blk w.heap.size).add 2) (.int .i64 v.2.2.1)) λw3=>
   Wr w3 ((blk w.heap.size).add 3)/\Nw (w3.setCell ((blk w.heap.size).add 3) (.bool v.2.2.2.1)) λw4=>Wr w4 ((blk w.heap.size).add 4)/\Nw (w4.setCell ((blk w.heap.size).add 4) (.int .u32 v.2.2.2.2.1)) λw5=>Wr w5 ((blk w.heap.size).add 5)/\Nw (w5.setCell ((blk w.heap.size).add 5) (.int .u32 v.2.2.2.2.2.1)) λw6=>
   Wr w6 ((blk w.heap.size).add 6)/\Nw (w6.setCell ((blk w.heap.size).add 6) (.int .i64 v.2.2.2.2.2.2.1)) λw7=>Wr w7 ((blk w.heap.size).add 7)/\Nw (w7.setCell ((blk w.heap.size).add 7) (.slice v.2.2.2.2.2.2.2.1.a v.2.2.2.2.2.2.2.1.l v.2.2.2.2.2.2.2.1.c)) λw8=>K w8:=
 boxT rfl hK
theorem zd9(h:IsTb w B tb T)(hR:∀w',Below w.heap.size w w'->R (.int .u8 (tA T id).kind) w'):cR 113 #[.pointer (some (blk tb)),.int .u32 id] w R:=by
 refine za.of (zfi _ id R w ?_) λ_ _ h=>h
 refine zeM h λw1 v hv b1=>⟨v,rfl,?_⟩
 have:=hR w1 b1
 rwa[<-hv.kind]at this
theorem zg5(h:IsTb w B tb T)(hR:∀w',Below w.heap.size w w'->R (.int .i64 ((tA T id).size:Int)) w'):cR 46 #[.pointer (some (blk tb)),.int .u32 id] w R:=by
 refine za.of (zfk _ id R w ?_) λ_ _ h=>h
 refine zeM h λw1 v hv b1=>⟨v,rfl,?_⟩
 have:=hR w1 b1
 rwa[<-hv.size]at this
theorem zlU(h:IsTb w B tb T)(hR:∀w',Below w.heap.size w w'->R (.bool (tA T id).sg) w'):cR 91 #[.pointer (some (blk tb)),.int .u32 id] w R:=by
 refine za.of (zdQ _ id R w ?_) λ_ _ h=>h
 refine zeM h λw1 v hv b1=>⟨v,rfl,?_⟩
 have:=hR w1 b1
 rwa[<-hv.sg]at this
theorem znL(h:IsTb w B tb T)(hR:∀w',Below w.heap.size w w'->R (.bool (decide (0<(tA T id).size))) w'):cR 102 #[.pointer (some (blk tb)),.int .u32 id] w R:=by
 refine za.of (zeF _ id R w ?_) λ_ _ h=>h
 refine zeM h λw1 v hv b1=>⟨v,rfl,?_⟩
 have:=hR w1 b1
 have e:decide (v.2.1>(0:Int))=decide (0<(tA T id).size):=by
  rw[hv.size]
  exact decide_eq_decide.2 (by omega)
 rwa[<-e]at this
theorem znJ(h:IsTb w B tb T)(hR:∀w',Below w.heap.size w w'->R (.tuple #[.int .u32 (tA T id).cls,.bool ((tA T id).kind==7)]) w'):cR 107 #[.pointer (some (blk tb)),.int .u32 id] w R:=by
 refine za.of (zeD _ id R w ?_) λ_ _ h=>h
 refine zeM h λw1 v hv b1=>⟨v,rfl,?_⟩
 refine zkI λw2 h2 b2 z2=>h2.drew.rI (n:=4) rfl (h2.drew.rI0 rfl ?_)
 have:=hR w2.drew (b1.on b2).drew
 rwa[<-hv.cls,<-hv.kind]at this
theorem ztW{T:TyL}(hT:TbOk T)(id:Int):(tA T id).times<=4096/\(0<(tA T id).times->(tA T id).ps=[]):=by
 by_cases hs:(tA T id).kind=0
 ·unfold tA at hs⊢
  cases hl:zC T id with
  |none=>exact⟨Nat.zero_le _,λq=>absurd q (by decide)⟩
  |some t=>
   rw[hl]at hs
   have:=(hT id t hl).kd
   have hs:t.kind=0:=hs
   omega
 ·have h:=zpx hT hs
  by_cases e:(tA T id).kind=4\/(tA T id).kind=5
  ·exact⟨(h.many e).2.1,λ_=>(h.many e).2.2⟩
  ·have:=(h.few e).1
   exact⟨by omega,λq=>by omega⟩
theorem znK(h:IsTb w B tb T)(hT:TbOk T)(hR:∀w',Below w.heap.size w w'->R (.int .i64 ((tA T id).cnt:Int)) w'):cR 104 #[.pointer (some (blk tb)),.int .u32 id] w R:=by
 refine za.of (zeE _ id R w ?_) λ_ _ h=>h
 refine zeM h λw1 v hv b1=>⟨v,rfl,?_⟩
 refine zkI λw2 h2 b2 z2=>h2.rI (n:=6) rfl (h2.rS (n:=7) rfl ?_)
 obtain⟨t1,t2⟩:=ztW hT id
 have hl:=hv.ps.len
 have hb:=hv.ps.bound
 have e:IntKind.i64.wrap (v.2.2.2.2.2.2.1+(v.2.2.2.2.2.2.2.1.l:Int))=((tA T id).cnt:Int):=by
  rw[hv.times,hl]
  unfold Tp.cnt
  by_cases q:0<(tA T id).times
  ·rw[t2 q]
   show IntKind.i64.wrap (((tA T id).times:Int)+((0:Nat):Int))=_
   rw[zq (by omega) (by omega)]
   rfl
  ·have:(tA T id).times=0:=by omega
   rw[this,zq (by omega) (by omega)]
   omega
 rw[e]
 exact hR w2 (b1.on b2)
theorem zg4{k:Int}(h:IsTb w B tb T)(hT:TbOk T)(hR:∀w',Below w.heap.size w w'->R (.tuple #[.int .u32 ((tA T id).prt k).1,.bool ((tA T id).prt k).2]) w'):cR 105 #[.pointer (some (blk tb)),.int .u32 id,.int .i64 k] w R:=by
 refine za.of (zfj _ id k R w ?_) λ_ _ h=>h
 refine zeM h λw1 v hv b1=>⟨v,rfl,?_⟩
 refine zkI λw2 h2 b2 z2=>?_
 have hR:=hR w2 (b1.on b2)
 obtain⟨t1,t2⟩:=ztW hT id
 have hl:=hv.ps.len
 have hb:=hv.ps.bound
 have e:IntKind.i64.wrap (v.2.2.2.2.2.2.1+(v.2.2.2.2.2.2.2.1.l:Int))=((tA T id).cnt:Int):=by
  rw[hv.times,hl]
  unfold Tp.cnt
  by_cases q:0<(tA T id).times
  ·rw[t2 q]
   show IntKind.i64.wrap (((tA T id).times:Int)+((0:Nat):Int))=_
   rw[zq (by omega) (by omega)]
   rfl
  ·have:(tA T id).times=0:=by omega
   rw[this,zq (by omega) (by omega)]
   omega
 unfold Tp.prt at hR
 refine zo.cut (λ(_:Unit) w'=>w'=w2/\0<=k/\k<((tA T id).cnt:Int)/\¬0<(tA T id).times) ?_ ?_
 ·refine zj (λg=>?_) (λg=>?_)
  ·rw[if_pos (.inl g)]at hR
   exact hR
  refine h2.rI (n:=6) rfl (h2.rS (n:=7) rfl ?_)
  rw[e]
  refine zj (λg2=>?_) (λg2=>?_)
  ·rw[if_pos (.inr g2)]at hR
   exact hR
  rw[if_neg (by omega)]at hR
  refine h2.rI (n:=6) rfl (zj (λg3=>?_) (λg3=>⟨rfl,by omega,by omega,λq=>g3 (by rw[hv.times];omega)⟩))
  rw[hv.times]at g3
  rw[if_pos (by omega)]at hR
  refine h2.rI (n:=5) rfl ?_
  rw[hv.part]
  exact hR
 ·rintro _ w3 ⟨rfl,g1,g2,g3⟩
  rw[if_neg (by omega),if_neg g3]at hR
  have hcl:(tA T id).cnt=(tA T id).ps.length:=by unfold Tp.cnt;omega
  obtain⟨j,rfl⟩:=Int.eq_ofNat_of_zero_le g1
  have hj:j<(tA T id).ps.length:=by omega
  refine h2.rS (n:=7) rfl (YR (hv.ps.below b2) hj ?_)
  rw[Int.toNat_natCast,zp hj]at hR
  exact hR
end
end Go.Proofs
namespace Go.Proofs
open Go.Gk Go.RowKit Go.Gm
section
variable {w w':World} {R:VWP} {B B' tb r b:Nat} {v:Tv} {t:Tp} {T:TyL} {id:Int} {pl:List PI} {k:Nat}
theorem outT{w1:World}{cs:List Value}{e:Int}(hD:Blk w1 b 144 cs)(hl:cs.length=8)(hb:w.heap.size<=b)(h01:Below w.heap.size w w1)(hR:∀w',Below w.heap.size w w'->R (.tuple #[tyA v,.int .i64 e]) w') :
  Wr w1 (blk b)/\Nw (w1.setCell (blk b) (.int .u8 v.1)) λw2=>Wr w2 ((blk b).add 1)/\Nw (w2.setCell ((blk b).add 1) (.int .i64 v.2.1)) λw3=>Wr w3 ((blk b).add 2)/\Nw (w3.setCell ((blk b).add 2) (.int .i64 v.2.2.1)) λw4=>Wr w4 ((blk b).add 3)/\Nw (w4.setCell ((blk b).add 3) (.bool v.2.2.2.1)) λw5=>
   Wr w5 ((blk b).add 4)/\Nw (w5.setCell ((blk b).add 4) (.int .u32 v.2.2.2.2.1)) λw6=>Wr w6 ((blk b).add 5)/\Nw (w6.setCell ((blk b).add 5) (.int .u32 v.2.2.2.2.2.1)) λw7=>Wr w7 ((blk b).add 6)/\Nw (w7.setCell ((blk b).add 6) (.int .i64 v.2.2.2.2.2.2.1)) λw8=>Wr w8 ((blk b).add 7)/\Nw (w8.setCell ((blk b).add 7) (.slice v.2.2.2.2.2.2.2.1.a v.2.2.2.2.2.2.2.1.l v.2.2.2.2.2.2.2.1.c)) λw9=>
   ldI w9 ((blk b).add 0) .u8 λx1=>ldI w9 ((blk b).add 1) .i64 λx2=>ldI w9 ((blk b).add 2) .i64 λx3=>ldB w9 ((blk b).add 3) λx4=>ldI w9 ((blk b).add 4) .u32 λx5=>ldI w9 ((blk b).add 5) .u32 λx6=>ldI w9 ((blk b).add 6) .i64 λx7=>ldS w9 ((blk b).add 7) λx8=>
   R (.tuple #[.agg #[.int .u8 x1,.int .i64 x2,.int .i64 x3,.bool x4,.int .u32 x5,.int .u32 x6,.int .i64 x7,.slice x8.a x8.l x8.c],.int .i64 e]) w9:=
 st8 hD hl λw2 h2 c2=>Tv.load (v:=v) h2 (hR w2 (c2.below h01 hb))
def whV(v:Tv)(s d:Nat):Tv:=if 4096<s then tv0 else if 16<d+1 then tv0 else(v.1,(s:Int),((d+1:Nat):Int),v.2.2.2)
theorem zvX{s d:Nat}(h:4096<s):whV v s d=tv0/\whT t s d=(tp0,102):=⟨if_pos h,if_pos h⟩
theorem zvl{s d:Nat}(h:¬4096<s)(h2:16<d+1):whV v s d=tv0/\whT t s d=(tp0,4):=⟨(if_neg h).trans (if_pos h2),(if_neg h).trans (if_pos h2)⟩
theorem zvm{s d:Nat}(h:¬4096<s)(h2:¬16<d+1):whV v s d=(v.1,(s:Int),((d+1:Nat):Int),v.2.2.2)/\whT t s d=({t with size:=s,depth:=d+1},0):=⟨(if_neg h).trans (if_neg h2),(if_neg h).trans (if_neg h2)⟩
theorem zq1{s d:Nat}(h:TvOk B w v t):TvOk B w (whV v s d) (whT t s d).1:=by
 unfold whV whT
 by_cases h1:4096<s
 ·rw[if_pos h1,if_pos h1]
  exact TvOk.zero B w
 rw[if_neg h1,if_neg h1]
 by_cases h2:16<d+1
 ·rw[if_pos h2,if_pos h2]
  exact TvOk.zero B w
 rw[if_neg h2,if_neg h2]
 exact⟨h.kind,rfl,rfl,h.sg,h.cls,h.part,h.times,h.ps,h.fr⟩
def SlOf(v:Tv)(s:Sl):Prop:=v.2.2.2.2.2.2.2.1=s\/v.2.2.2.2.2.2.2.1=⟨none,0,0⟩
theorem zq2(v:Tv)(s d:Nat):SlOf (whV v s d) v.2.2.2.2.2.2.2.1:=by
 unfold whV
 split
 ·exact .inr rfl
 split
 ·exact .inr rfl
 exact .inl rfl
theorem TvOk.moved(h:TvOk B w v t)(hb:∀a,v.2.2.2.2.2.2.2.1.a=some a->w'.heap[a.block]? =w.heap[a.block]?):TvOk B w' v t:=
 ⟨h.kind,h.size,h.depth,h.sg,h.cls,h.part,h.times,h.ps.of_block λa ha _=>hb a ha,h.fr⟩
theorem zfh{s d:Nat}(hd:d<=4294967295)(hR:∀w',Below w.heap.size w w'->R (.tuple #[tyA (whV v s d),.int .i64 (whT t s d).2]) w'):cR 129 #[tyA v,.int .i64 (s:Int),.int .i64 (d:Int)] w R:=by
 refine za.of (ziX v (s:Int) (d:Int) R w ?_) λ_ _ h=>h
 refine zm λw1 hX1 b1 z1=>?_
 have hX1:Blk w1 w.heap.size 144 (tyV v):=hX1
 refine zm λw2 hD2 b2 z2=>?_
 have hD2:Blk w2 w1.heap.size 144 ty0.toList:=hD2
 have hX2:=hX1.below b2
 have e1:IntKind.i64.wrap ((d:Int)+1)=((d+1:Nat):Int):=zE (by omega)
 rw[e1]
 refine⟨hX2.wr (n:=1) (by show 1<8;decide),Nw.gen λw3 e3=>?_⟩
 have c3:Chg w.heap.size w2 w3:=by rw[e3];exact Chg.set _ _ _ _
 have hX3:Blk w3 w.heap.size 144 (tyV (v.1,(s:Int),v.2.2)):=by rw[e3];exact hX2.set 1 _
 refine⟨hX3.wr (n:=2) (by show 2<8;decide),Nw.gen λw4 e4=>?_⟩
 have c4:Chg w.heap.size w3 w4:=by rw[e4];exact Chg.set _ _ _ _
 have hX4:Blk w4 w.heap.size 144 (tyV (v.1,(s:Int),((d+1:Nat):Int),v.2.2.2)):=by rw[e4];exact hX3.set 2 _
 have hD4:=c4.blk (c3.blk hD2 (by omega)) (by omega)
 have b4:Below w.heap.size w w4:=c4.below (c3.below (b1.on b2) (Nat.le_refl _)) (Nat.le_refl _)
 refine zj (λg=>?_) (λg=>hX4.rI (n:=2) (x:=((d+1:Nat):Int)) rfl (zj (λg2=>?_) (λg2=>Tv.load hX4 ?_)))
 ·obtain⟨q1,q2⟩:=zvX (v:=v) (t:=t) (s:=s) (d:=d) (by omega)
  rw[q1,q2]at hR
  exact outT (v:=tv0) hD4 rfl (by omega) b4 hR
 ·obtain⟨q1,q2⟩:=zvl (v:=v) (t:=t) (s:=s) (d:=d) (by omega) (by omega)
  rw[q1,q2]at hR
  exact outT (v:=tv0) hD4 rfl (by omega) b4 hR
 ·obtain⟨q1,q2⟩:=zvm (v:=v) (t:=t) (s:=s) (d:=d) (by omega) (by omega)
  rw[q1,q2]at hR
  exact outT (v:=(v.1,(s:Int),((d+1:Nat):Int),v.2.2.2)) hD4 rfl (by omega) b4 hR
theorem ziV(hT:TbOk T)(id:Int):(tA T id).depth<=16/\(tA T id).size<=4096:=by
 by_cases hs:(tA T id).kind=0
 ·unfold tA at hs⊢
  cases hl:zC T id with
  |none=>exact⟨Nat.zero_le _,Nat.zero_le _⟩
  |some t=>
   rw[hl]at hs
   have:=(hT id t hl).kd
   have hs:t.kind=0:=hs
   omega
 ·have h:=(zpx hT hs).max
  exact⟨h.2,h.1⟩
theorem zlV{part n:Int}(h:IsTb w B tb T)(hT:TbOk T)(hn:0<=n/\n<=4294967295)(hR:∀w' v,TvOk B' w v (vecT T part n).1->SlOf v ⟨none,0,0⟩->Below w.heap.size w w'->R (.tuple #[tyA v,.int .i64 (vecT T part n).2]) w') :
  cR 94 #[.pointer (some (blk tb)),.int .u32 part,.int .u32 n] w R:=by
 refine za.of (zdR _ part n R w ?_) λ_ _ h=>h
 refine zm λw1 hD1 b1 z1=>?_
 have hD1:Blk w1 w.heap.size 144 ty0.toList:=hD1
 obtain⟨⟨r,o,h1,hTy⟩,h3⟩:=h
 refine ze rfl ⟨some r,(h1.below b1).cell0 rfl,hTy.look b1 λv hv=>?_⟩
 refine zkI λw2 h2 b2 z2=>?_
 have hD2:=hD1.below b2
 have b02:=b1.on b2
 have hd:=(ziV hT part).1
 unfold vecT at hR
 have out100:((tA T part).kind≠2/\(tA T part).kind≠3)->∀w',Below w.heap.size w w'->R (.tuple #[tyA tv0,.int .i64 100]) w':=λg w' hb=>by
  have:=hR w' tv0 (by rw[if_pos g];exact TvOk.zero B' w) (.inr rfl) hb
  rwa[if_pos g]at this
 have out102:¬((tA T part).kind≠2/\(tA T part).kind≠3)->(n<2\/4<n)->∀w',Below w.heap.size w w'->R (.tuple #[tyA tv0,.int .i64 102]) w':=λg g2 w' hb=>by
  have:=hR w' tv0 (by rw[if_neg g,if_pos g2];exact TvOk.zero B' w) (.inr rfl) hb
  rwa[if_neg g,if_pos g2]at this
 refine zo.cut (λ(_:Unit) w'=>w'=w2/\¬((tA T part).kind≠2/\(tA T part).kind≠3)/\2<=n/\n<=4) ?_ ?_
 ·have two:¬((tA T part).kind≠2/\(tA T part).kind≠3)->ifB (decide (n<2)) (Wr w2 (blk w.heap.size)/\_) (ifB (decide (n>4)) _ (w2=w2/\¬((tA T part).kind≠2/\(tA T part).kind≠3)/\2<=n/\n<=4)):=λg=>
   zj (λg2=>outT (v:=tv0) hD2 rfl (Nat.le_refl _) b02 (out102 g (.inl g2))) (λg2=>zj (λg3=>outT (v:=tv0) hD2 rfl (Nat.le_refl _) b02 (out102 g (.inr g3))) (λg3=>⟨rfl,g,by omega,by omega⟩))
  refine h2.rI0 (x:=v.1) rfl (zy (λe1=>h2.rI0 (x:=v.1) rfl (zy (λe2=>?_) (λe2=>?_))) (λe1=>?_))
  ·rw[hv.kind]at e1 e2
   exact outT (v:=tv0) hD2 rfl (Nat.le_refl _) b02 (out100 ⟨e1,e2⟩)
  ·rw[hv.kind]at e2
   exact two λq=>q.2 e2
  ·rw[hv.kind]at e1
   exact two λq=>q.1 e1
 ·rintro _ w3 ⟨rfl,g,g2,g3⟩
  refine h2.rI (n:=2) (x:=v.2.2.1) rfl ?_
  obtain⟨m,rfl⟩:=Int.eq_ofNat_of_zero_le hn.1
  have ew:IntKind.i64.wrap (m:Int)=(m:Int):=zq (by omega) (by omega)
  rw[ew,hv.depth]
  have hv4:TvOk B' w (4,0,0,false,0,part,(m:Int),⟨none,0,0⟩,()) {tp0 with kind:=4,part:=part,times:=m}:=⟨rfl,rfl,rfl,rfl,rfl,rfl,rfl,nilS _ w,zlv B'⟩
  refine zfh (t:={tp0 with kind:=4,part:=part,times:=m}) (v:=(4,0,0,false,0,part,(m:Int),⟨none,0,0⟩,())) (s:=m) (d:=(tA T part).depth) (by omega) λw4 b4=>⟨_,_,rfl,?_⟩
  refine outT (hD2.below b4) rfl (Nat.le_refl _) (b02.on b4) λw5 b5=>?_
  have:=hR w5 _ (by rw[if_neg g,if_neg (by omega)];exact zq1 (s:=m) (d:=(tA T part).depth) hv4) (zq2 _ _ _) b5
  rwa[if_neg g,if_neg (by omega)]at this
abbrev insK:List BK:=[(.int .u16),(.int .u32),(.int .u32),.slice]
def ins0:Ins:=(0,0,0,⟨none,0,0⟩,())
structure IsMd (w0 w:World) (r:Nat) (pl:List PI) (k:Nat):Prop where
 ex:∃M:List (Int×Ins),IsMq w r (aggQ insK) M/\∀id:Int,id≠0->∃t,(zC M id).getD ins0=mkIn (mdP pl id k) t/\IsAg w0 t (mdP pl id k).2.2.2
 b0:Below w0.heap.size w0 w
theorem IsMd.below{w0:World}(h:IsMd w0 w r pl k)(hb:Below w.heap.size w w'):IsMd w0 w' r pl k:=by
 obtain⟨⟨M,h1,h2⟩,h3⟩:=h
 exact⟨⟨M,h1.below hb,h2⟩,h3.on hb⟩
theorem uMd:Tryz.prog.underlying 137=some (.map 22 44):=by kernel_rfl
theorem zMd:∃i,Tryz.prog.info? 44=some i/\i.zero=some (aggQ insK ins0):=by
 have h:(Tryz.prog.info? 44).map (·.zero)=some (some (aggQ insK ins0)):=by kernel_rfl
 cases hi:Tryz.prog.info? 44 with
 |none=>rw[hi]at h;cases h
 |some i=>rw[hi]at h;exact⟨i,rfl,by injection h⟩
theorem IsMd.look{w0:World}(h:IsMd w0 w r pl k)(hb:Below w.heap.size w w')(h0:id≠0){φ:HL insK->Prop}(hφ:∀t,IsAg w t (mdP pl id k).2.2.2->φ (mkIn (mdP pl id k) t)):za1 Tryz.prog 137 (.map (some r)) (.int .u32 id) insK w' φ:=by
 obtain⟨⟨M,h1,h2⟩,h3⟩:=h
 obtain⟨t,e1,e2⟩:=h2 id h0
 have key:φ ((zC (α:=Ins) M id).getD ins0):=by rw[e1];exact hφ t (IsC.below zG e2 h3)
 exact zm3 (ks:=insK) (d:=ins0) uMd Tryz.underlying22 zMd (h1.below hb) key
structure IsMk (w0 w:World) (B kb tb rm rs:Nat) (T:TyL) (pl:List PI) (k:Nat):Prop where
 blk:Blk w kb 140 [.pointer (some (Gk.blk tb)),.map (some rm),.map (some rs)]
 tb:IsTb w B tb T
 md:IsMd w0 w rm pl k
theorem IsMk.below{w0:World}{kb rm rs:Nat}(h:IsMk w0 w B kb tb rm rs T pl k)(hb:Below w.heap.size w w'):IsMk w0 w' B kb tb rm rs T pl k:=⟨h.blk.below hb,h.tb.below hb,h.md.below hb⟩
theorem znI{w0:World}{kb rm rs:Nat}{part len:Int}(h:IsMk w0 w B kb tb rm rs T pl k)(hT:TbOk T)(h0:len≠0)(hc:(mdP pl len k).1=43->0<(mdP pl len k).2.2.2.length/\cN (mdP pl len k)<=4294967295)
  (hR:∀w' v,TvOk B' w v (arrT T (mdP pl len k) part).1->SlOf v ⟨none,0,0⟩->Below w.heap.size w w'->R (.tuple #[tyA v,.int .i64 (arrT T (mdP pl len k) part).2]) w') :
  cR 95 #[.pointer (some (blk kb)),.int .u32 part,.int .u32 len] w R:=by
 refine za.of (zeI _ part len R w ?_) λ_ _ h=>h
 refine zm λw1 hD1 b1 z1=>?_
 have hD1:Blk w1 w.heap.size 144 ty0.toList:=hD1
 obtain⟨⟨r,o,h1,hTy⟩,h3⟩:=h.tb
 have hk1:=h.blk.below b1
 refine ze rfl ⟨_,hk1.cell0 rfl,ze rfl ⟨some r,(h1.below b1).cell0 rfl,hTy.look b1 λv hv=>?_⟩⟩
 refine zkI λw2 h2 b2 z2=>?_
 have hD2:=hD1.below b2
 have b02:=b1.on b2
 have hd:=ziV hT part
 unfold arrT at hR
 generalize hcc:mdP pl len k=c at hc hR
 have out:∀e,(arrT T c part=(tp0,e))->∀w',Below w.heap.size w w'->R (.tuple #[tyA tv0,.int .i64 e]) w':=λe he w' hb=>by
  unfold arrT at he
  have:=hR w' tv0 (by rw[he];exact TvOk.zero B' w) (.inr rfl) hb
  rwa[he]at this
 refine h2.rI (n:=1) (x:=v.2.1) rfl (zk (λe=>?_) (λe=>?_))
 ·rw[hv.size]at e
  exact outT (v:=tv0) hD2 rfl (Nat.le_refl _) b02 (out 100 (if_pos (by omega)))
 rw[hv.size]at e
 have e0:¬(tA T part).size=0:=by omega
 have hk2:=hk1.below b2
 refine ze rfl ⟨some rm,hk2.cell (n:=1) rfl,h.md.look b02 h0 λt ht=>?_⟩
 rw[hcc]at ht⊢
 refine box4 rfl λw3 hI3 b3 z3=>?_
 have hI3:Blk w3 w2.heap.size 44 (inV (mkIn c t)):=hI3
 have b03:=(b02.on b3).drew
 have hI3d:=hI3.drew
 have hD3:=(hD2.below b3).drew
 have hA3:IsAg w3.drew t c.2.2.2:=IsC.below zG ht b03
 refine zo.cut (λ(_:Unit) w'=>w'=w3.drew/\¬(c.1≠43\/(tA T c.2.1).kind≠3\/cN c<1\/4096<cN c)) ?_ ?_
 ·refine hI3d.rI0 (x:=c.1) rfl (zy (λe1=>?_) (λe1=>?_))
  ·exact outT (v:=tv0) hD3 rfl (Nat.le_refl _) b03 (out 102 (by unfold arrT;rw[if_neg e0,if_pos (.inl e1)]))
  obtain⟨g1,g2⟩:=hc e1
  have hk3:=(hk2.below b3).drew
  refine ze rfl ⟨_,hk3.cell0 rfl,ze rfl ⟨some r,(h1.below b03).cell0 rfl,hI3d.rI (n:=1) (x:=c.2.1) rfl (hTy.look b03 λv2 hv2=>?_)⟩⟩
  refine zy (λe2=>?_) (λe2=>?_)
  ·rw[hv2.kind]at e2
   exact outT (v:=tv0) hD3 rfl (Nat.le_refl _) b03 (out 102 (by unfold arrT;rw[if_neg e0,if_pos (.inr (.inl e2))]))
  rw[hv2.kind]at e2
  have hcn:c.2.2.2[0].2.1=cN c:=by unfold cN;rw[zp g1]
  refine hI3d.rS (n:=3) (x:=t) rfl (zkV hA3 (k:=0) g1 ?_)
  rw[hcn]
  refine zj (λe3=>?_) (λe3=>hI3d.rS (n:=3) (x:=t) rfl (zkV hA3 (k:=0) g1 ?_))
  ·exact outT (v:=tv0) hD3 rfl (Nat.le_refl _) b03 (out 102 (by unfold arrT;rw[if_neg e0,if_pos (.inr (.inr (.inl e3)))]))
  rw[hcn]
  refine zj (λe4=>?_) (λe4=>⟨rfl,by omega⟩)
  exact outT (v:=tv0) hD3 rfl (Nat.le_refl _) b03 (out 102 (by unfold arrT;rw[if_neg e0,if_pos (.inr (.inr (.inr e4)))]))
 ·rintro _ w4 ⟨rfl,g⟩
  obtain⟨g1,g2⟩:=hc (by omega)
  have hcn:c.2.2.2[0].2.1=cN c:=by unfold cN;rw[zp g1]
  refine hI3d.rS (n:=3) (x:=t) rfl (zkV hA3 (k:=0) g1 ?_)
  rw[hcn]
  obtain⟨m,hm⟩:=Int.eq_ofNat_of_zero_le (show 0<=cN c by omega)
  have ew:IntKind.i64.wrap (cN c)=(m:Int):=by rw[hm];exact zq (by omega) (by omega)
  rw[ew]
  have h2d:=(h2.below b3).drew
  refine h2d.rI (n:=1) (x:=v.2.1) rfl (h2d.rI (n:=2) (x:=v.2.2.1) rfl ?_)
  rw[hv.size,hv.depth]
  have hmul:m*(tA T part).size<=4096*4096:=Nat.mul_le_mul (by omega) hd.2
  have ew2:IntKind.i64.wrap ((m:Int)*((tA T part).size:Int))=((m*(tA T part).size:Nat):Int):=by
   rw[<-Int.natCast_mul]
   exact zq (by omega) (by omega)
  rw[ew2]
  have hv4:TvOk B' w (5,0,0,false,0,part,(m:Int),⟨none,0,0⟩,()) {tp0 with kind:=5,part:=part,times:=m}:=⟨rfl,rfl,rfl,rfl,rfl,rfl,rfl,nilS _ w,zlv B'⟩
  refine zfh (t:={tp0 with kind:=5,part:=part,times:=m}) (v:=(5,0,0,false,0,part,(m:Int),⟨none,0,0⟩,())) (s:=m*(tA T part).size) (d:=(tA T part).depth) (by omega) λw5 b5=>⟨_,_,rfl,?_⟩
  refine outT (hD3.below b5) rfl (Nat.le_refl _) (b03.on b5) λw6 b6=>?_
  have em:(cN c).toNat=m:=by omega
  have:=hR w6 _ (by rw[if_neg e0,if_neg g,em];exact zq1 (s:=m*(tA T part).size) (d:=(tA T part).depth) hv4) (zq2 _ _ _) b6
  rwa[if_neg e0,if_neg g,em]at this
theorem zsp{l:List Int}{j:Nat}(hj:j<l.length):sumT T (l.take (j+1))=sumT T (l.take j)+(tA T l[j]).size:=by
 unfold sumT
 rw[List.take_succ_eq_append_getElem hj,List.map_append,List.sum_append]
 simp
theorem zpJ{l:List Int}{j:Nat}(hj:j<l.length):Zi T (l.take (j+1))=Nat.max (Zi T (l.take j)) (tA T l[j]).depth:=by
 unfold Zi
 rw[List.take_succ_eq_append_getElem hj,List.foldl_append]
 rfl
theorem zvf{l:List Int}(hT:TbOk T):sumT T l<=4096*l.length:=by
 unfold sumT
 induction l with
 |nil=>exact Nat.le_refl _
 |cons a r ih=>
  have:=(ziV hT a).2
  rw[List.map_cons,List.sum_cons,List.length_cons]
  omega
theorem zpI{l:List Int}(hT:TbOk T):Zi T l<=16:=by
 have:∀(l:List Int) (d:Nat),d<=16->l.foldl (λd p=>Nat.max d (tA T p).depth) d<=16:=by
  intro l
  induction l with
  |nil=>intro d h;exact h
  |cons a r ih=>
   intro d h
   exact ih _ (Nat.max_le.2 ⟨h,(ziV hT a).1⟩)
 exact this l 0 (Nat.zero_le _)
theorem zl9{s:Sl}{l:List Int}(h:IsTb w B tb T)(hT:TbOk T)(hs:IsS (Value.int .u32) w s l)(hf:zK B' s)(hR:∀w' v,TvOk B' w v (memT T l).1->SlOf v s->Below w.heap.size w w'->R (.tuple #[tyA v,.int .i64 (memT T l).2]) w') :
  cR 96 #[.pointer (some (blk tb)),.slice s.a s.l s.c] w R:=by
 refine za.of (zdk _ s R w ?_) λ_ _ h=>h
 refine zm λw1 hD1 b1 z1=>?_
 have hD1:Blk w1 w.heap.size 144 ty0.toList:=hD1
 obtain⟨⟨r,o,h1,hTy⟩,h3⟩:=id h
 have hl:=hs.len
 have out:∀e,(memT T l=(tp0,e))->∀w',Below w.heap.size w w'->R (.tuple #[tyA tv0,.int .i64 e]) w':=λe he w' hb=>by
  have:=hR w' tv0 (by rw[he];exact TvOk.zero B' w) (.inr rfl) hb
  rwa[he]at this
 refine zo.cut (λ(_:Unit) w'=>w'=w1/\¬(l.length<1\/256<l.length)) ?_ ?_
 ·refine zj (λg=>?_) (λg=>zj (λg2=>?_) (λg2=>⟨rfl,by omega⟩))
  ·exact outT (v:=tv0) hD1 rfl (Nat.le_refl _) b1 (out 102 (if_pos (by omega)))
  ·exact outT (v:=tv0) hD1 rfl (Nat.le_refl _) b1 (out 102 (if_pos (by omega)))
 rintro _ w2 ⟨rfl,g⟩
 refine zl.ghost (λm (st:Int×Int×Int×Unit) w'=>∃j:Nat,st=((sumT T (l.take j):Int),(Zi T (l.take j):Int),(j:Int),())/\j<=l.length/\m=l.length-j/\w'=w2/\∀i (hi:i<l.length),i<j->(tA T l[i]).size≠0) l.length ⟨0,rfl,Nat.zero_le _,rfl,rfl,λi _ h=>by omega⟩ ?_
 rintro _ _ _ ⟨j,rfl,hj,rfl,rfl,hall⟩ next hnext
 have hs1:=hs.below b1
 refine zj (λg2=>?_) (λg2=>?_)
 ·have hjl:j<l.length:=by dsimp only at g2;omega
  refine YR hs1 hjl (zhJ (h.below b1) ⟨_,rfl,zI (zj (λg3=>?_) (λg3=>?_))⟩)
  ·refine ze rfl ⟨some r,(h1.below b1).cell0 rfl,hTy.look b1 λv hv=>ze rfl ⟨some r,(h1.below b1).cell0 rfl,hTy.look b1 λv2 hv2=>?_⟩⟩
   have e1:=zsp (T:=T) hjl
   have e2:=zpJ (T:=T) hjl
   have b1':=zvf hT (l:=l.take j)
   have b2':=(ziV hT l[j]).2
   rw[List.length_take]at b1'
   have ew:IntKind.i64.wrap ((sumT T (l.take j):Int)+v.2.1)=(sumT T (l.take (j+1)):Int):=by
    rw[hv.size,e1,zq (by omega) (by omega)]
    omega
   have ed:(if v2.2.2.1>(Zi T (l.take j):Int) then v2.2.2.1 else(Zi T (l.take j):Int))=(Zi T (l.take (j+1)):Int):=by
    rw[hv2.depth,e2]
    split
    ·rename_i q
     rw[show Nat.max (Zi T (l.take j)) (tA T l[j]).depth=(tA T l[j]).depth from Nat.max_eq_right (by omega)]
    ·rename_i q
     rw[show Nat.max (Zi T (l.take j)) (tA T l[j]).depth=Zi T (l.take j) from Nat.max_eq_left (by omega)]
   dsimp only
   rw[ew,ed,zE (by omega)]
   refine hnext (l.length-(j+1)) _ _ (by omega) ⟨j+1,rfl,by omega,rfl,rfl,λi hi h=>?_⟩
   by_cases e:i=j
   ·subst e;omega
   ·exact hall i hi (by omega)
  ·exact outT (v:=tv0) hD1 rfl (Nat.le_refl _) b1 (out 100 (by unfold memT;rw[if_neg g,if_pos (List.any_eq_true.2 ⟨l[j],List.getElem_mem hjl,by rw[beq_iff_eq];omega⟩)]))
 ·have hje:j=l.length:=by dsimp only at g2;omega
  subst hje
  have hno:¬(l.any (λp=>(tA T p).size==0)=true):=λq=>by
   obtain⟨p,hp,e⟩:=List.any_eq_true.1 q
   obtain⟨i,hi,rfl⟩:=List.getElem_of_mem hp
   exact hall i hi hi (by simpa using e)
  dsimp only
  rw[List.take_length]
  have hv4:TvOk B' w (6,0,0,false,0,0,0,s,()) {tp0 with kind:=6,ps:=l}:=⟨rfl,rfl,rfl,rfl,rfl,rfl,rfl,hs,hf⟩
  have:=zpI hT (l:=l)
  refine zfh (t:={tp0 with kind:=6,ps:=l}) (v:=(6,0,0,false,0,0,0,s,())) (s:=sumT T l) (d:=Zi T l) (by omega) λw5 b5=>⟨_,_,rfl,?_⟩
  refine outT (hD1.below b5) rfl (Nat.le_refl _) (b1.on b5) λw6 b6=>?_
  have:=hR w6 _ (by unfold memT;rw[if_neg g,if_neg hno];exact zq1 (s:=sumT T l) (d:=Zi T l) hv4) (zq2 _ _ _) b6
  unfold memT at this
  rwa[if_neg g,if_neg hno]at this
theorem zkn{s:Sl}{l:List Int}(h:IsTb w B tb T)(hs:IsS (Value.int .u32) w s l)(hf:zK B' s)(hlm:l.length<=4294967295)(hR:∀w' v,TvOk B' w v (fnT T l).1->SlOf v s->Below w.heap.size w w'->R (.tuple #[tyA v,.int .i64 (fnT T l).2]) w') :
  cR 98 #[.pointer (some (blk tb)),.slice s.a s.l s.c] w R:=by
 refine za.of (zcZ _ s R w ?_) λ_ _ h=>h
 refine zm λw1 hD1 b1 z1=>?_
 have hD1:Blk w1 w.heap.size 144 ty0.toList:=hD1
 obtain⟨⟨r,o,h1,hTy⟩,h3⟩:=id h
 have hl:=hs.len
 have hs1:=hs.below b1
 have bad:∀j,j<l.length->(tA T (l.getD j 0)).size=0->(tA T (l.getD j 0)).kind≠othK j->fnT T l=(tp0,100):=λj hj e1 e2=>by
  unfold fnT
  rw[if_pos (List.any_eq_true.2 ⟨j,List.mem_range.2 hj,by rw[Bool.and_eq_true,beq_iff_eq,bne_iff_ne];exact⟨e1,e2⟩⟩)]
 refine zl.ghost (λm (st:Int×Unit) w'=>∃j:Nat,st=((j:Int),())/\j<=l.length/\m=l.length-j/\w1=w'/\∀i,i<j->¬((tA T (l.getD i 0)).size=0/\(tA T (l.getD i 0)).kind≠othK i)) l.length ⟨0,rfl,Nat.zero_le _,rfl,rfl,λi h=>by omega⟩ ?_
 rintro _ _ _ ⟨j,rfl,hj,rfl,rfl,hall⟩ next hnext
 refine zj (λg2=>?_) (λg2=>?_)
 ·have hjl:j<l.length:=by dsimp only at g2;omega
  have hgd:l.getD j 0=l[j]:=zp hjl
  have go:¬((tA T (l.getD j 0)).size=0/\(tA T (l.getD j 0)).kind≠othK j)->next (IntKind.i64.wrap ((j:Int)+1),()) w1:=λq=>by
   rw[zE (by omega)]
   refine hnext (l.length-(j+1)) _ _ (by omega) ⟨j+1,rfl,by omega,rfl,rfl,λi h=>?_⟩
   by_cases e:i=j
   ·subst e;exact q
   ·exact hall i (by omega)
  refine zo.cut (λ(_:Unit) w'=>w'=w1/\¬((tA T (l.getD j 0)).size=0/\(tA T (l.getD j 0)).kind≠othK j)) (YR hs1 hjl ?_) λ_ w2 q=>by obtain⟨rfl,q⟩:=q;exact go q
  refine zo.cut (λ(st:Int×Unit) w'=>st=(othK j,())/\w'=w1) ?_ ?_
  ·refine zk (λe=>⟨?_,rfl⟩) (λe=>⟨?_,rfl⟩)
   ·unfold othK
    rw[if_pos (by omega)]
   ·unfold othK
    rw[if_neg (by omega)]
  ·rintro _ _ ⟨rfl,rfl⟩
   refine zhJ (h.below b1) ⟨_,rfl,zI (zj (λg3=>⟨rfl,λq=>by rw[hgd]at q;omega⟩) (λg3=>?_))⟩
   refine ze rfl ⟨some r,(h1.below b1).cell0 rfl,hTy.look b1 λv hv=>zy (λe=>?_) (λe=>⟨rfl,λq=>?_⟩)⟩
   ·rw[hv.kind]at e
    have he:=bad j hjl (by rw[hgd];omega) (by rw[hgd];exact e)
    refine outT (v:=tv0) hD1 rfl (Nat.le_refl _) b1 λw' hb=>?_
    have:=hR w' tv0 (by rw[he];exact TvOk.zero B' w) (.inr rfl) hb
    rwa[he]at this
   ·rw[hv.kind]at e
    rw[hgd]at q
    exact q.2 e
 ·have hje:j=l.length:=by dsimp only at g2;omega
  subst hje
  have hfn:fnT T l=({tp0 with kind:=8,ps:=l},0):=by
   unfold fnT
   rw[if_neg]
   intro q
   obtain⟨i,hi,e⟩:=List.any_eq_true.1 q
   rw[Bool.and_eq_true,beq_iff_eq,bne_iff_ne]at e
   exact hall i (List.mem_range.1 hi) e
  refine outT (v:=(8,0,0,false,0,0,0,s,())) hD1 rfl (Nat.le_refl _) b1 λw' hb=>?_
  have:=hR w' (8,0,0,false,0,0,0,s,()) (by rw[hfn];exact⟨rfl,rfl,rfl,rfl,rfl,rfl,rfl,hs,hf⟩) (.inl rfl) hb
  rwa[hfn]at this
end
end Go.Proofs
namespace Go.Proofs
open Go.Gk Go.RowKit Go.Gm
theorem zvo:Yq Tryz.prog 23 44 4 40:=⟨by kernel_rfl,Tryz.t44,.agg #[.int .u16 0,.int .u32 0,.int .u32 0,.slice none 0 0],by kernel_rfl,rfl,rfl,rfl,rfl⟩
theorem eArg:Yq Tryz.prog 42 123 3 24:=⟨by kernel_rfl,Tryz.t123,.agg #[.int .u8 0,.int .u32 0,.string (BM #[])],by kernel_rfl,rfl,rfl,rfl,rfl⟩
theorem zj2{P:Program}{t e:TypeId}{sz bytes:Nat}(he:Yq P t e sz bytes){w0 w:World}{s:Sl}{xs:List Value}(h:Own w e sz s xs)(hb:Below w0.heap.size w0 w)(hF:zK w0.heap.size s){vs:List Value}(hvs:vs.length=sz)(hv:∀u∈vs,u.oneCell'=true){b c:Nat}{T:TypeId}
  (hB:Blk w b T vs) (h63:s.l+1<=9223372036854775807) (hbytes:(s.l+1)*bytes<=140737488355328) {k:Sl->World->Prop}
  (hk:∀r w',Own w' e sz r (xs++vs)->Below w0.heap.size w0 w'->zK w0.heap.size r->w.heap.size<=w'.heap.size->(∀i,i<w.heap.size->s.a≠some (blk i)->w'.heap[i]? =w.heap[i]?)->k r w'):zA P t (.slice s.a s.l s.c) (.slice (some (blk b)) 1 c) w k:=by
 refine yV he h (news:=vs) (by omega) (λj u hj=>hB.cell hj) hv h63 hbytes λr w' h1 hl' hg=>?_
 rcases hg with⟨_,_,h3⟩ | ⟨b',h3,h4,h5⟩
 ·rw[h3]at hl';omega
 ·have hbb:w0.heap.size<=b':=by
   rcases h4 with h4 |h4
   ·exact hF _ h4
   ·have:=hb.size
    omega
  refine hk r w' h1 (hb.trans (zW h5 hbb hb.size)) (λa ha=>by rw[h3]at ha;cases ha;exact hbb) (zW h5 (Nat.zero_le _) (Nat.zero_le _)).size λi hi hne=>h5.block _ hi λe=>?_
  have e:=Option.some.inj e
  subst e
  rcases h4 with h4 |h4
  ·exact hne h4
  ·omega
def zam(w:World)(B:Nat)(s:Sl)(pl:List PI):Prop:=
 ∃hs:List Ins,hs.length=pl.length/\Own w 44 4 s (flat inV hs)/\zK B s/\∀(j:Nat) (h:j<hs.length) (h':j<pl.length),∃t,hs[j]=mkIn pl[j] t/\Own w 123 3 t (flat agV pl[j].2.2.2)/\zK B t
section
variable {w w' w0:World} {B:Nat} {s t:Sl} {pl:List PI} {p:PI}
theorem zam.keep(h:zam w B s pl)(hk:∀i,B<=i->i<w.heap.size->w'.heap[i]? =w.heap[i]?):zam w' B s pl:=by
 obtain⟨hs,h1,h2,h3,h4⟩:=h
 refine⟨hs,h1,h2.of_block λa ha=>hk _ (h3 a ha) (h2.lt ha).2,h3,λj hj hj'=>?_⟩
 obtain⟨t,e,h5,h6⟩:=h4 j hj hj'
 exact⟨t,e,h5.of_block λa ha=>hk _ (h6 a ha) (h5.lt ha).2,h6⟩
theorem zam.below(h:zam w B s pl)(hb:Below w.heap.size w w'):zam w' B s pl:=h.keep λi _ hi=>hb.block i hi
theorem zam.nil(w:World)(B:Nat):zam w B ⟨none,0,0⟩ []:=⟨[],rfl,Own.nil _ _ _,λa ha=>by(cases ha),λj h=>by(cases h)⟩
theorem zam.isPl(h:zam w B s pl):IsPl w s pl:=by
 obtain⟨hs,h1,h2,h3,h4⟩:=h
 have hc:IsC 4 inV w s hs:=Own.isC znt (by omega) h2
 refine⟨by rw[hc.len,h1],hc.cap,hc.max,hc.nil,λa ha k hk=>?_⟩
 obtain⟨t,e,h5,h6⟩:=h4 k (by omega) hk
 refine⟨t,λj hj=>?_,Own.isC zG (by omega) h5⟩
 rw[<-e]
 exact hc.cell a ha k (by omega) j hj
theorem ym{T T':TypeId}{sz b:Nat}{xs cs:List Value}(h:Own w T sz s xs)(hB:Blk w b T' cs)(hT:T≠T'):s.a≠some (Gk.blk b):=λe=>by
 obtain⟨cs',h'⟩:=h.type e
 exact Blk.apart h' hB hT rfl
theorem zfd{T T':TypeId}{sz sz':Nat}{xs ys:List Value}(h:Own w T sz s xs)(k:Own w T' sz' t ys)(hT:T≠T'){a:Addr}(ha:t.a=some a):s.a≠some (Gk.blk a.block):=λe=>by
 obtain⟨cs',h'⟩:=k.type ha
 exact ym h h' hT e
theorem zam.push{b c:Nat}(h:zam w w0.heap.size s pl)(hb:Below w0.heap.size w0 w)(ht:Own w 123 3 t (flat agV p.2.2.2))(hF:zK w0.heap.size t)(hB:Blk w b 44 (inV (mkIn p t)))(hl:40*(pl.length+1)<=140737488355328){K:Sl->World->Prop}
  (hK:∀r w',zam w' w0.heap.size r (pl++[p])->Below w0.heap.size w0 w'->w.heap.size<=w'.heap.size->(∀i T cs,Blk w i T cs->T≠44->w'.heap[i]? =w.heap[i]?)->K r w'):zA Tryz.prog 23 (.slice s.a s.l s.c) (.slice (some (blk b)) 1 c) w K:=by
 have hsl:=h.isPl.len
 obtain⟨hs,h1,h2,h3,h4⟩:=h
 refine zj2 zvo h2 hb h3 rfl (by simp[Value.oneCell']) hB (by omega) (by omega) λr w' k1 k2 k3 k4 k5=>hK r w' ⟨hs++[mkIn p t],by simp[h1],?_,k3,?_⟩ k2 k4 λi T cs hi hT=>k5 i hi.lt (ym h2 hi hT.symm)
 ·simpa[flat] using k1
 ·intro j hj hj'
  by_cases hlt:j<hs.length
  ·obtain⟨t',e,h5,h6⟩:=h4 j hlt (by omega)
   rw[List.getElem_append_left hlt]
   have e2:(pl++[p])[j]=pl[j]'(by omega):=List.getElem_append_left (by omega)
   rw[e2]
   exact⟨t',e,h5.of_block λa ha=>k5 _ (h5.lt ha).2 (zfd h2 h5 (by decide) ha),h6⟩
  ·have ej:j=hs.length:=by simp at hj;omega
   subst ej
   have e2:(pl++[p])[hs.length]=p:=by simp[h1]
   rw[e2]
   exact⟨t,by simp,ht.of_block λa ha=>k5 _ (ht.lt ha).2 (zfd h2 ht (by decide) ha),hF⟩
end
end Go.Proofs
namespace Go.Proofs
open Go.Gk Go.RowKit Go.Gm
end Go.Proofs
namespace Go.Proofs
open Go.Gk Go.RowKit Go.Gm
structure Wl (w0 w:World) (r:Sl) (D:List Int):Prop where
 own:Own w 22 1 r (D.map (Value.int .u32))
 fr:zK w0.heap.size r
 below:Below w0.heap.size w0 w
theorem Wl.on{w0 w w':World}{r:Sl}{D:List Int}(h:Wl w0 w r D)(hb:Below w.heap.size w w'):Wl w0 w' r D:=⟨h.own.below hb,h.fr,h.below.on hb⟩
theorem Wl.len{w0 w:World}{r:Sl}{D:List Int}(h:Wl w0 w r D):r.l=D.length:=by have:=h.own.1;rw[List.length_map]at this;omega
theorem Wl.nil(w:World):Wl w w ⟨none,0,0⟩ []:=⟨Own.nil _ _ _,λa ha=>(by cases ha),Below.refl _ _⟩
theorem Wl.push{w0 w:World}{r:Sl}{D:List Int}{v:Int}(h:Wl w0 w r D)(hl:D.length<=4398046511104){k:Sl->World->Prop}(hk:∀r' w',Wl w0 w' r' (D++[v])->(∀b T cs,22≠T->Blk w b T cs->Blk w' b T cs)->k r' w') :
  Nw (w.alloc (.cells #[.int .u32 v] 22)) λw1=>zA Tryz.prog 56 (.slice r.a r.l r.c) (.slice (some (blk w.heap.size)) 1 1) w1 k:=by
 refine zm λw1 h1 b1 z1=>?_
 have h1:Blk w1 w.heap.size 22 [.int .u32 v]:=h1
 have hl2:=h.len
 have h2:=h.on b1
 refine zj2 eU32 h2.own h2.below h.fr (vs:=[.int .u32 v]) rfl (λu hu=>by rw[List.mem_singleton.1 hu];rfl) h1 (by omega) (by omega) λr' w' g1 g2 g3 _ g5=>hk r' w' ⟨?_,g3,g2⟩ λb T cs hne hB=>?_
 ·rw[List.map_append]
  exact g1
 ·have hB1:=hB.below b1
  exact hB1.of_block (g5 b hB1.lt (ym h2.own hB1 hne))
theorem zwl{w:World}{s:Sl}{l:List Int}(h:IsS (Value.int .u32) w s l)(h1:2<=l.length):IsS (Value.int .u32) w ⟨if s.c=1 then s.a else Option.map (λa=>a.add 1) s.a,s.l-1,s.c-1⟩ (l.drop 1):=by
 have hl:=h.len
 have hc:=h.cap
 have hm:=h.max
 have hn:¬s.c=1:=by omega
 rw[if_neg hn]
 refine⟨by rw[List.length_drop];show s.l-1=_;omega,by show s.l-1<=s.c-1;omega,by show s.c-1<=_;omega,λe=>?_,λa ha i hi=>?_⟩
 ·show s.c-1=0
  cases hs:s.a with
  |none=>have:=h.nil hs;omega
  |some a=>rw[hs]at e;cases e
 ·have ha:Option.map (λa:Addr=>a.add 1) s.a=some a:=ha
  cases hs:s.a with
  |none=>rw[hs]at ha;cases ha
  |some a0=>
   rw[hs]at ha
   have ha:a0.add 1=a:=by injection ha
   rw[<-ha,zn]
   rw[List.length_drop]at hi
   rw[List.getElem_drop]
   exact h.cell a0 hs (1+i) (by omega)
theorem zpT{B:Nat}{s:Sl}(h:zK B s):zK B ⟨if s.c=1 then s.a else Option.map (λa=>a.add 1) s.a,s.l-1,s.c-1⟩:=λa ha=>by
 have ha:(if s.c=1 then s.a else Option.map (λa:Addr=>a.add 1) s.a)=some a:=ha
 split at ha
 ·exact h a ha
 ·cases hs:s.a with
  |none=>rw[hs]at ha;cases ha
  |some a0=>
   rw[hs]at ha
   have ha:a0.add 1=a:=by injection ha
   rw[<-ha,Zg]
   exact h a0 hs
section
variable {w w':World} {R:VWP} {B kb tb rm rs b k:Nat} {v:Tv} {T:TyL} {pl:List PI} {t:Sl} {bd:Int}
theorem Yj{j:Nat}(hj:j<(ix pl k).2.2.2.length):(agN pl k)[j]'(by unfold agN;rw[List.length_map];exact hj)=agI pl k j:=by
 unfold agN agI
 rw[List.getElem_map,zp hj]
theorem ziw:(agN pl k).length=(ix pl k).2.2.2.length:=List.length_map _
theorem zp7(hp:PlOk pl)(hk:k<pl.length){j:Nat}(hj:j<(ix pl k).2.2.2.length):0<=agI pl k j/\agI pl k j<=4294967295:=by
 unfold agI
 rw[zH hk]at hj
 rw[zH hk,zp hj]
 exact(hp.nums _ (List.getElem_mem hk)).2.2 _ (List.getElem_mem hj)
theorem YQ(hs:(zx bd pl).1=0)(hk:k<pl.length):pl[k].2.2.2.length<=65535:=by
 obtain⟨f,_,_,_,_,_,h⟩:=Zz ((Yf hs).2 k hk)
 unfold zbn at h
 have:=zon (al:=pl[k].2.2.2) (Nat.le_refl _)
 omega
theorem zs8{op:Int}{ty re:Bool}{fixed rest:Bs}{most:Nat}(hs:(zx bd pl).1=0)(hk:k<pl.length)(h:(ix pl k).1=op)(hf:yb op ty re fixed rest most=true){j:Nat}(hj:j<(ix pl k).2.2.2.length)(hjf:j<fixed.length) :
  ((ix pl k).2.2.2.getD j ag0).1=yJ ((fixed.getD j 0).toNat:Int):=by
 obtain⟨f,_,f3,_,_,_,_,_,hw⟩:=zcu hs hk h hf
 have:=hw j hj
 unfold werr at this
 rw[(yK this).2]
 unfold letP
 rw[f3,if_pos hjf]
def OneR(R:VWP)(w:World)(o:Option (Tp×Int)):Prop:=match o with
 |none=>∀w',Below w.heap.size w w'->R (.tuple #[tyA tv0,.bool false,.int .i64 0]) w'
 |some p=>∀w' v,(p.2=0->TvOk w.heap.size w' v p.1)->Below w.heap.size w w'->R (.tuple #[tyA v,.bool true,.int .i64 p.2]) w'
set_option maxHeartbeats 4000000 in
theorem ztH{w0:World}(h:IsMk w0 w B kb tb rm rs T pl k)(hT:TbOk T)(hp:PlOk pl)(hs:(zx bd pl).1=0)(hk:k<pl.length)(hI:IsAg w t pl[k].2.2.2)(hm:∀id,(mdP pl id k).1=43->0<(mdP pl id k).2.2.2.length/\cN (mdP pl id k)<=4294967295)(hR:OneR R w (oneT T pl k)) :
  cR 59 #[.pointer (some (blk kb)),inA (mkIn pl[k] t)] w R:=by
 refine za.of (zf9 _ (mkIn pl[k] t) R w ?_) λ_ _ h=>h
 have hix:=zH hk
 have hal:pl[k].2.2.2=(ix pl k).2.2.2:=by rw[hix]
 have hop:pl[k].1=(ix pl k).1:=by rw[hix]
 refine zm λw1 hI1 b1 z1=>?_
 have hI1:Blk w1 w.heap.size 44 (inV (mkIn pl[k] t)):=hI1
 refine zm λw2 hD2 b2 z2=>?_
 have hD2:Blk w2 w1.heap.size 144 ty0.toList:=hD2
 have b02:=b1.on b2
 have hA2:IsAg w2 t pl[k].2.2.2:=IsC.below zG hI b02
 have htl:=hA2.len
 have hlen:=YQ hs hk
 refine(hI1.below b2).rS (n:=3) (x:=t) rfl ?_
 refine zl.ghost (λm (st:Sl×Int×Unit) w'=>∃(r:Sl) (j:Nat),st=(r,(j:Int),())/\j<=pl[k].2.2.2.length/\m=pl[k].2.2.2.length-j/\Wl w2 w' r ((agN pl k).take j)) pl[k].2.2.2.length ⟨⟨none,0,0⟩,0,rfl,Nat.zero_le _,rfl,by rw[List.take_zero];exact Wl.nil w2⟩ ?_
 rintro _ _ w3 ⟨r,j,rfl,hj,rfl,hW⟩ next hnext
 have b3:=hW.below
 refine zj (λg=>?_) (λg=>?_)
 ·have hjl:j<pl[k].2.2.2.length:=by dsimp only at g;omega
  refine zjm (IsC.below zG hA2 b3) hjl (box3 rfl λw7 h7 b7 z7=>h7.rI (n:=1) (x:=pl[k].2.2.2[j].2.1) rfl ?_)
  refine(hW.on b7).push (by rw[List.length_take];omega) λr' w' h' _=>?_
  dsimp only
  rw[zE (by omega)]
  refine hnext (pl[k].2.2.2.length-(j+1)) _ w' (by omega) ⟨r',j+1,rfl,by omega,rfl,?_⟩
  have hj':j<(ix pl k).2.2.2.length:=by rw[<-hal];exact hjl
  rw[List.take_succ_eq_append_getElem (by rw[ziw];exact hj'),Yj hj']
  have:agI pl k j=pl[k].2.2.2[j].2.1:=by
   unfold agI
   rw[<-hal,zp hjl]
  rw[this]
  exact h'
 have hje:j=pl[k].2.2.2.length:=by dsimp only at g;omega
 subst hje
 rw[hal,<-ziw (pl:=pl) (k:=k),List.take_length]at hW
 have hS3:=hW.own.isS
 have hSl:=hS3.len
 refine zm λw10 hX10 b10 z10=>?_
 have hX10:Blk w10 w3.heap.size 144 (tyV tv0):=hX10
 have b210:=b3.on b10
 have b010:=b02.on b210
 have hI10:=(hI1.below b2).below b210
 have hD10:=hD2.below b210
 have hS10:=hS3.below b10
 have hM10:=h.below b010
 have lt1:=b1.size
 have lt2:=b2.size
 have lt3:=b3.size
 have eqk:∀{j:Nat},j<(ix pl k).2.2.2.length->(agN pl k).getD j 0=agI pl k j:=λ{j} hj=>by rw[zp (by rw[ziw];exact hj),Yj hj]
 have hnl:(agN pl k).length=(ix pl k).2.2.2.length:=ziw
 refine zo.cut (λ(st:Int×Unit) w'=>∃(p:Tp×Int) (v:Tv),oneT T pl k=some p/\st=(p.2,())/\Blk w' w3.heap.size 144 (tyV v)/\(p.2=0->TvOk w2.heap.size w' v p.1)/\Below w3.heap.size w3 w') ?_ ?_
 rotate_left
 ·rintro _ w' ⟨p,v,ho,rfl,hX,hv,hb⟩
  rw[ho]at hR
  have hD':=(hD2.below b3).below hb
  refine Tv.load hX (st8 hD' rfl λw4 h4 c4=>Tv.load (v:=v) h4 (hR w4 v (λe=>?_) (c4.below ((b02.on b3).on hb) (by omega))))
  have q:=hv e
  exact⟨q.kind,q.size,q.depth,q.sg,q.cls,q.part,q.times,q.ps.of_block λa ha _=>c4.block _ λe2=>by have:=q.fr a ha;omega,λa ha=>by have:=q.fr a ha;omega⟩
 have out:∀{w':World} {p:Tp×Int} (v:Tv) {cs:List Value},oneT T pl k=some p->Blk w' w3.heap.size 144 cs->cs.length=8->Below w3.heap.size w3 w'->(p.2=0->∀w2',Below w3.heap.size w3 w2'->TvOk w2.heap.size w2' v p.1)->
   stC (Gk.blk w3.heap.size) 0 (tyV v) w' λw2'=>∃(p':Tp×Int) (v:Tv),oneT T pl k=some p'/\((p.2,()):Int×Unit)=(p'.2,())/\Blk w2' w3.heap.size 144 (tyV v)/\(p'.2=0->TvOk w2.heap.size w2' v p'.1)/\Below w3.heap.size w3 w2':=λ{w' p} v {cs} ho hB hl hb hv=>
  ZK hB hl λw4 h4 c4=>⟨p,v,ho,rfl,h4,λe=>hv e w4 (c4.below hb (Nat.le_refl _)),c4.below hb (Nat.le_refl _)⟩
 have b310:Below w3.heap.size w3 w10:=b10
 have nilA:∀a,(⟨none,0,0⟩:Sl).a=some a->a.block<w3.heap.size:=λa ha=>(by cases ha)
 have rA:∀a,r.a=some a->a.block<w3.heap.size:=λa ha=>(hW.own.lt ha).2
 have kept:∀{v:Tv} {s:Sl} {w4:World} {a:Addr},SlOf v s->(∀a,s.a=some a->a.block<w3.heap.size)->Below w3.heap.size w3 w4->v.2.2.2.2.2.2.2.1.a=some a->w4.heap[a.block]? =w10.heap[a.block]?:=λ{v s w4 a} hsl hs hb ha=>by
  have hlt:a.block<w3.heap.size:=by
   rcases hsl with e |e
   ·rw[e]at ha;exact hs a ha
   ·rw[e]at ha;cases ha
  rw[hb.block _ hlt,b310.block _ hlt]
 have lit:∀(v:Tv) (t:Tp) (w':World),v.2.2.2.2.2.2.2.1=⟨none,0,0⟩->t.ps=[]->v.1=t.kind->v.2.1=(t.size:Int)->v.2.2.1=(t.depth:Int)->v.2.2.2.1=t.sg->v.2.2.2.2.1=t.cls->v.2.2.2.2.2.1=t.part->v.2.2.2.2.2.2.1=(t.times:Int)->TvOk w2.heap.size w' v t:=λv t w' e1 e2 q1 q2 q3 q4 q5 q6 q7=>
  ⟨q1,q2,q3,q4,q5,q6,q7,by rw[e1,e2];exact nilS _ w',by rw[e1];exact zlv _⟩
 refine hI10.rI0 (x:=pl[k].1) rfl ?_
 rw[hop]
 refine zk (λe19=>?_) (λn19=>?_)
 ·refine⟨hX10.wr (n:=0) (by show 0<8;decide),Nw.gen λw11 e11=>?_⟩
  have c11:Chg w3.heap.size w10 w11:=by rw[e11];exact Chg.set _ 0 _ _
  have h11:Blk w11 w3.heap.size 144 (tyV (1,0,0,false,0,0,0,⟨none,0,0⟩,())):=by rw[e11];exact hX10.set 0 _
  exact⟨({tp0 with kind:=1},0),(1,0,0,false,0,0,0,⟨none,0,0⟩,()),by unfold oneT;rw[if_pos e19],rfl,h11,λ_=>lit _ _ _ rfl rfl rfl rfl rfl rfl rfl rfl rfl,c11.below b310 (Nat.le_refl _)⟩
 refine zk (λe20=>?_) (λn20=>?_)
 ·refine⟨hX10.wr (n:=0) (by show 0<8;decide),Nw.gen λw11 e11=>?_⟩
  have c11:Chg w3.heap.size w10 w11:=by rw[e11];exact Chg.set _ 0 _ _
  have h11:Blk w11 w3.heap.size 144 (tyV (2,0,0,false,0,0,0,⟨none,0,0⟩,())):=by rw[e11];exact hX10.set 0 _
  refine⟨h11.wr (n:=1) (by show 1<8;decide),Nw.gen λw12 e12=>?_⟩
  have c12:Chg w3.heap.size w11 w12:=by rw[e12];exact Chg.set _ _ _ _
  have h12:Blk w12 w3.heap.size 144 (tyV (2,1,0,false,0,0,0,⟨none,0,0⟩,())):=by rw[e12];exact h11.set 1 _
  refine⟨h12.wr (n:=2) (by show 2<8;decide),Nw.gen λw13 e13=>?_⟩
  have c13:Chg w3.heap.size w12 w13:=by rw[e13];exact Chg.set _ _ _ _
  have h13:Blk w13 w3.heap.size 144 (tyV (2,1,1,false,0,0,0,⟨none,0,0⟩,())):=by rw[e13];exact h12.set 2 _
  exact⟨({tp0 with kind:=2,size:=1,depth:=1},0),(2,1,1,false,0,0,0,⟨none,0,0⟩,()),by unfold oneT;rw[if_neg n19,if_pos e20],rfl,h13,λ_=>lit _ _ _ rfl rfl rfl rfl rfl rfl rfl rfl rfl,c13.below (c12.below (c11.below b310 (Nat.le_refl _)) (Nat.le_refl _)) (Nat.le_refl _)⟩
 refine zk (λe21=>?_) (λn21=>?_)
 ·have hl2:(ix pl k).2.2.2.length=2:=yc hs hk e21 zgE
  have ho:oneT T pl k=some ({tp0 with kind:=3,size:=1,depth:=1,sg:=agI pl k 1==1},if agI pl k 0≠32\/1<agI pl k 1 then 102 else 0):=by unfold oneT;rw[if_neg n19,if_neg n20,if_pos e21]
  refine zo.cut (λ(st:Int×Unit) w'=>st=((if agI pl k 0≠32\/1<agI pl k 1 then(102:Int) else 0),())/\w'=w10) ?_ ?_
  ·refine YR (k:=0) hS10 (by omega) ?_
   rw[Yj (by omega)]
   refine zy (λq=>⟨by rw[if_pos (.inl q)],rfl⟩) (λq=>YR (k:=1) hS10 (by omega) ?_)
   rw[Yj (by omega)]
   exact zj (λq2=>⟨by rw[if_pos (.inr q2)],rfl⟩) (λq2=>⟨by rw[if_neg (by omega)],rfl⟩)
  ·rintro _ _ ⟨rfl,rfl⟩
   refine YR (k:=1) hS10 (by omega) ?_
   rw[Yj (by omega)]
   exact out (3,1,1,agI pl k 1==1,0,0,0,⟨none,0,0⟩,()) ho hX10 rfl b310 λ_ w' _=>lit _ _ _ rfl rfl rfl rfl rfl rfl rfl rfl rfl
 refine zk (λe23=>?_) (λn23=>?_)
 ·have hl2:(ix pl k).2.2.2.length=2:=yc hs hk e23 zd7
  have ho:oneT T pl k=some (vecT T (agI pl k 0) (agI pl k 1)):=by unfold oneT;rw[if_neg n19,if_neg n20,if_neg n21,if_pos e23]
  have hMd:=hM10.below ((Below.refl _ _).drew:Below w10.heap.size w10 w10.drew)
  refine ze rfl ⟨_,hMd.blk.cell0 rfl,YR (k:=0) hS10.drew (by omega) ?_⟩
  rw[Yj (by omega)]
  refine YR (k:=1) hS10.drew (by omega) ?_
  rw[Yj (by omega)]
  refine zlV (B':=w2.heap.size) hMd.tb hT (zp7 hp hk (by omega)) λw' v hv hsl hb=>⟨v,_,rfl,?_⟩
  exact out v ho ((hX10.drew).below hb) rfl (b310.drew.on hb) λ_ w4 hb4=>hv.moved λa ha=>kept hsl nilA hb4 ha
 refine zk (λe28=>?_) (λn28=>?_)
 ·have hl2:(ix pl k).2.2.2.length=2:=yc hs hk e28 za7
  have ho:oneT T pl k=some (arrT T (mdP pl (agI pl k 1) k) (agI pl k 0)):=by unfold oneT;rw[if_neg n19,if_neg n20,if_neg n21,if_neg n23,if_pos e28]
  have hMd:=hM10.below ((Below.refl _ _).drew:Below w10.heap.size w10 w10.drew)
  refine YR (k:=0) hS10.drew (by omega) ?_
  rw[Yj (by omega)]
  refine YR (k:=1) hS10.drew (by omega) ?_
  rw[Yj (by omega)]
  have h1:agI pl k 1≠0:=by
   obtain⟨f,_,f3,_,_,_,_,_,hw⟩:=zcu hs hk e28 za7
   have hk1:=zs8 hs hk e28 za7 (j:=1) (by omega) (by decide)
   have:=hw 1 (by omega)
   unfold werr at this
   exact zum this (by rw[hk1];decide +kernel)
  refine znI (B':=w2.heap.size) hMd hT h1 (hm _) λw' v hv hsl hb=>⟨v,_,rfl,?_⟩
  exact out v ho ((hX10.drew).below hb) rfl (b310.drew.on hb) λ_ w4 hb4=>hv.moved λa ha=>kept hsl nilA hb4 ha
 refine zk (λe30=>?_) (λn30=>?_)
 ·have ho:oneT T pl k=some (memT T (agN pl k)):=by unfold oneT;rw[if_neg n19,if_neg n20,if_neg n21,if_neg n23,if_neg n28,if_pos e30]
  refine ze rfl ⟨_,hM10.blk.cell0 rfl,?_⟩
  refine zl9 (B':=w2.heap.size) hM10.tb hT hS10 hW.fr λw' v hv hsl hb=>⟨v,_,rfl,?_⟩
  exact out v ho (hX10.below hb) rfl (b310.on hb) λ_ w4 hb4=>hv.moved λa ha=>kept hsl rA hb4 ha
 refine zk (λe32=>?_) (λn32=>?_)
 ·have hl2:(ix pl k).2.2.2.length=2:=yc hs hk e32 zct
  have ho:oneT T pl k=some ({tp0 with kind:=7,cls:=agI pl k 0,ps:=(agN pl k).drop 1},if (tA T (agI pl k 1)).size=0 then 100 else 0):=by unfold oneT;rw[if_neg n19,if_neg n20,if_neg n21,if_neg n23,if_neg n28,if_neg n30,if_pos e32]
  have hMd:=hM10.below ((Below.refl _ _).drew:Below w10.heap.size w10 w10.drew)
  refine zo.cut (λ(st:Int×Unit) w'=>st=((if (tA T (agI pl k 1)).size=0 then(100:Int) else 0),())/\w'=w10.drew) ?_ ?_
  ·refine ze rfl ⟨_,hMd.blk.cell0 rfl,YR (k:=1) hS10.drew (by omega) ?_⟩
   rw[Yj (by omega)]
   refine zhJ hMd.tb ⟨_,rfl,zI (zj (λg=>⟨by rw[if_neg (by omega)],rfl⟩) (λg=>⟨by rw[if_pos (by omega)],rfl⟩))⟩
  ·rintro _ _ ⟨rfl,rfl⟩
   refine YR (k:=0) hS10.drew.drew (by omega) ?_
   rw[Yj (by omega)]
   refine⟨⟨by omega,by show(1:Int)<=(r.l:Int);omega,by show(r.l:Int)<=(r.c:Int);have:=hS10.cap;omega⟩,?_⟩
   refine out (7,0,0,false,agI pl k 0,0,0,⟨if r.c=1 then r.a else Option.map (λa=>a.add 1) r.a,r.l-1,r.c-1⟩,()) ho hX10.drew.drew rfl b310.drew.drew λ_ w4 hb4=>?_
   have hS4:=hS3.below hb4
   exact⟨rfl,rfl,rfl,rfl,rfl,rfl,rfl,zwl hS4 (by omega),zpT hW.fr⟩
 refine zk (λe33=>?_) (λn33=>?_)
 ·have ho:oneT T pl k=some (fnT T (agN pl k)):=by unfold oneT;rw[if_neg n19,if_neg n20,if_neg n21,if_neg n23,if_neg n28,if_neg n30,if_neg n32,if_pos e33]
  refine ze rfl ⟨_,hM10.blk.cell0 rfl,?_⟩
  refine zkn (B':=w2.heap.size) hM10.tb hS10 hW.fr (by rw[hnl,<-hal];omega) λw' v hv hsl hb=>⟨v,_,rfl,?_⟩
  exact out v ho (hX10.below hb) rfl (b310.on hb) λ_ w4 hb4=>hv.moved λa ha=>kept hsl rA hb4 ha
 ·have ho:oneT T pl k=none:=by unfold oneT;rw[if_neg n19,if_neg n20,if_neg n21,if_neg n23,if_neg n28,if_neg n30,if_neg n32,if_neg n33]
  rw[ho]at hR
  refine st8 hD10 rfl λw4 h4 c4=>Tv.load (v:=tv0) h4 (hR w4 (c4.below b010 (by omega)))
end
end Go.Proofs
namespace Go.Gk
open Go.RowKit Go.MapKept
variable {P:Program} {α κ:Type}
section
variable [DecidableEq κ]
def zF:List (κ×α)->κ->Option α
 | [],_=>none
 |p::r,k=>if k=p.1 then some p.2 else zF r k
def setG:List (κ×α)->κ->α->List (κ×α)
 | [],k,v=>[(k,v)]
 |p::r,k,v=>if k=p.1 then(k,v)::r else p::setG r k v
theorem Y5(k:κ)(v:α)(k':κ):∀L,zF (setG L k v) k'=if k'=k then some v else zF L k'
 | []=>by simp only[setG,zF]
 |p::r=>by
  have ih:=Y5 k v k' r
  simp only[setG]
  split
  ·rename_i e
   simp only[zF]
   split
   ·rfl
   ·rename_i e'
    rw[if_neg (by rw[<-e];exact e')]
  ·rename_i e
   simp only[zF]
   split
   ·rename_i e'
    rw[if_neg (by rw[e'];exact λh=>e h.symm)]
   ·exact ih
theorem zgO{k:κ}{v:α}:∀{L:List (κ×α)},zF L k=none->setG L k v=L++[(k,v)]
 | [],_=>rfl
 |p::r,hn=>by
  simp only[zF]at hn
  split at hn
  ·cases hn
  ·rename_i e
   simp only[setG]
   rw[if_neg e,zgO hn]
   rfl
end
structure zlZ (d:TypeDesc) (kv:κ->Value):Prop where
 is:∀k,IsKey d (kv k)
 inj:∀a b,kv a=kv b->a=b
def IsMg(w:World)(r:Nat)(kv:κ->Value)(f:α->Value)(L:List (κ×α)):Prop:=
 ∃es clock,w.heap[r]? =some (.map es clock)/\es.toList.map (λe=>(e.key,e.val))=(L.map λp=>(kv p.1,f p.2))/\(∀x∈es.toList,x.born<clock)/\(es.toList.map (·.born)).Nodup
variable {d:TypeDesc} {kv:κ->Value} {f:α->Value} {w w':World} {r:Nat} {L:List (κ×α)}
theorem IsMg.lt(h:IsMg w r kv f L):r<w.heap.size:=by
 obtain⟨es,c,h,_⟩:=h
 exact(Array.getElem?_eq_some_iff.1 h).1
theorem IsMg.of_block(h:IsMg w r kv f L)(hb:w'.heap[r]? =w.heap[r]?):IsMg w' r kv f L:=by
 obtain⟨es,c,h1,h2⟩:=h
 exact⟨es,c,hb.trans h1,h2⟩
theorem IsMg.below(h:IsMg w r kv f L)(hb:Below w.heap.size w w'):IsMg w' r kv f L:=h.of_block (hb.block r h.lt)
theorem IsMg.drew(h:IsMg w r kv f L):IsMg w.drew r kv f L:=h
theorem IsMg.new(w:World)(kv:κ->Value)(f:α->Value):IsMg (w.alloc (.map #[] 0)) w.heap.size kv f []:=⟨#[],0,by show(w.heap.push _)[w.heap.size]? =_;simp,rfl,(by simp),by simp⟩
theorem IsMg.notBlk(h:IsMg w r kv f L){b:Nat}{T:TypeId}{cs:List Value}(hB:Blk w b T cs):r≠b:=by
 rintro rfl
 obtain⟨es,c,h,_⟩:=h
 have:=(show w.heap[r]? =_ from hB).symm.trans h
 simp at this
variable [DecidableEq κ]
theorem zle(hk:zlZ d kv)(f:α->Value)(k:κ):∀(es:List MapEntry) (L:List (κ×α)) (i:Nat),es.map (λe=>(e.key,e.val))=(L.map λp=>(kv p.1,f p.2))->
  ∃o,Instr.findNow d (kv k) es i=some o/\(match o with
   |none=>zF L k=none
   |some (j,v)=>∃m x,j=i+m/\m<es.length/\v=f x/\zF L k=some x/\∃e,es[m]? =some e/\e.key=kv k/\
     ∀v',(es.modify m λe=>{e with key:=kv k,val:=f v'}).map (λe=>(e.key,e.val))=(setG L k v').map λp=>(kv p.1,f p.2))
 | [],[],i,_=>⟨none,rfl,rfl⟩
 | [],_::_,_,h=>by simp at h
 |_::_,[],_,h=>by simp at h
 |e::es,p::L,i,h=>by
  simp only[List.map_cons,List.cons.injEq,Prod.mk.injEq]at h
  obtain⟨⟨h1,h2⟩,h3⟩:=h
  unfold Instr.findNow
  obtain⟨b,hb,hiff⟩:=sameNow_of_keys (hk.is k) (hk.is p.1)
  rw[h1,hb]
  cases b with
  |true=>
   have hkp:k=p.1:=hk.inj _ _ (hiff.1 rfl)
   refine⟨some (i,e.val),rfl,0,p.2,rfl,by simp,h2,by simp[zF,hkp],e,rfl,by rw[h1,hkp],λv'=>?_⟩
   simp[setG,hkp,h3]
  |false=>
   have hkp:¬k=p.1:=λe=>by
    have:=hiff.2 (by rw[e])
    cases this
   obtain⟨o,ho,hm⟩:=zle hk f k es L (i+1) h3
   refine⟨o,ho,?_⟩
   cases o with
   |none=>simpa[zF,hkp] using hm
   |some q=>
    obtain⟨j,v⟩:=q
    obtain⟨m,x,g1,g2,g3,g4,e',g5,g6,g7⟩:=hm
    refine⟨m+1,x,by omega,by simp;omega,g3,by simpa[zF,hkp] using g4,e',by simpa using g5,g6,λv'=>?_⟩
    have:=g7 v'
    simp[setG,hkp,h1,h2,this]
theorem zsl(hk:zlZ d kv){t kt et:TypeId}(ht:P.underlying t=some (.map kt et))(hkt:P.underlying kt=some d){z:Value}(hz:∃i,P.info? et=some i/\i.zero=some z)(h:IsMg w r kv f L)(k:κ)(ok:Bool) :
  (Instr.lookup t (.map (some r)) (kv k) ok).run P w =.ok (if ok then .tuple #[((zF L k).map f).getD z,.bool (zF L k).isSome] else((zF L k).map f).getD z) w:=by
 obtain⟨es,c,hb,hes,_⟩:=h
 obtain⟨i,hi,hzi⟩:=hz
 obtain⟨o,ho,hm⟩:=zle hk f k es.toList L 0 hes
 unfold Instr.lookup
 have hck:∀e,(Instr.checkKey e 10000 kt (kv k)).run P w =.ok () w:=λe=>run_checkKey hkt (hk.is k) e 9999
 have hg:(getObj r).run P w =.ok (.map es c) w:=Go.MapKept.run_getObj_map hb
 simp only[Sem.run_bind,run_underlying ht,Result.andThen_ok,hg,Sem.run_pure,hck,run_findKey hkt ho]
 cases o with
 |none=>
  have hzr:(zeroValue et).run P w =.ok z w:=by simp[zeroValue,typeInfo,hi,hzi,Result.andThen]
  have hm:zF L k=none:=hm
  simp only[Sem.run_bind,hzr,Result.andThen_ok,Sem.run_pure,hm,Option.map_none,Option.getD_none,Option.isSome_none]
 |some q=>
  obtain⟨j,v⟩:=q
  obtain⟨m,x,g1,g2,g3,g4,_⟩:=hm
  simp only[Sem.run_bind,Sem.run_pure,Result.andThen_ok,g3,g4,Option.map_some,Option.getD_some,Option.isSome_some]
theorem zdA(hk:zlZ d kv){t kt et:TypeId}(ht:P.underlying t=some (.map kt et))(hkt:P.underlying kt=some d)(h:IsMg w r kv f L){k:κ}{v:α}{x y:Value}(hx:x=kv k)(hy:y=f v){K:World->Prop}
  (hK:∀w',IsMg w' r kv f (setG L k v)->Go.Proofs.Chg r w w'->K w'):updW P t (.map (some r)) x y w K:=by
 subst hx
 subst hy
 have hlt:=h.lt
 obtain⟨es,c,hb,hes,hstamp,hnd⟩:=h
 obtain⟨o,ho,hm⟩:=zle hk f k es.toList L 0 hes
 have hck:∀e,(Instr.checkKey e 10000 kt (kv k)).run P w =.ok () w:=λe=>run_checkKey hkt (hk.is k) e 9999
 have hg:(getObj r).run P w =.ok (.map es c) w:=Go.MapKept.run_getObj_map hb
 unfold updW Instr.mapUpdate
 simp only[Sem.run_bind,run_underlying ht,Result.andThen_ok,hg,hck,run_findKey hkt ho]
 cases o with
 |none=>
  simp only[run_setObj_map _ hb]
  refine⟨_,rfl,hK _ ⟨_,_,(heap_set hb).1,?_,λx hx=>?_,?_⟩ (zaz _ _ _)⟩
  rotate_left
  ·rw[Array.toList_push]at hx
   rcases List.mem_append.1 hx with hx |hx
   ·exact Nat.lt_succ_of_lt (hstamp x hx)
   ·rw[List.mem_singleton.1 hx]
    exact Nat.lt_succ_self c
  ·rw[Array.toList_push,List.map_append]
   refine List.nodup_append.2 ⟨hnd,by simp,?_⟩
   intro a ha b hb e
   obtain⟨x,hx,rfl⟩:=List.mem_map.1 ha
   simp only[List.map_cons,List.map_nil,List.mem_singleton]at hb
   have:=hstamp x hx
   omega
  simp only[Array.toList_push,List.map_append,hes,List.map_cons,List.map_nil]
  rw[zgO hm]
  simp
 |some q=>
  obtain⟨j,v0⟩:=q
  obtain⟨m,x,g1,g2,g3,g4,e,g5,g6,g7⟩:=hm
  have hj:j=m:=by omega
  subst hj
  have hst:(Instr.keyThatStays (((es[j]?).map (·.key)).getD (kv k)) (kv k)).run P w =.ok (kv k) w:=by
   have:((es[j]?).map (·.key)).getD (kv k)=kv k:=by
    rw[<-Array.getElem?_toList,g5]
    exact g6
   rw[this]
   exact run_keyThatStays (hk.is k)
  simp only[Sem.run_bind,hst,Result.andThen_ok,run_setObj_map _ hb]
  have hbn:(es.modify j λe=>{e with key:=kv k,val:=f v}).toList.map (·.born)=es.toList.map (·.born):=by
   rw[Array.toList_modify]
   apply List.ext_getElem
   ·simp
   ·intro n q1 q2
    simp only[List.getElem_map,List.getElem_modify]
    split<;>rfl
  refine⟨_,rfl,hK _ ⟨_,_,(heap_set hb).1,?_,λx hx=>?_,by rw[hbn];exact hnd⟩ (zaz _ _ _)⟩
  rotate_left
  ·have:x.born∈es.toList.map (·.born):=by rw[<-hbn];exact List.mem_map.2 ⟨x,hx,rfl⟩
   obtain⟨y,hy,e⟩:=List.mem_map.1 this
   rw[<-e]
   exact hstamp y hy
  have:=g7 v
  rw[<-this]
  congr 1
  rw[Array.toList_modify]
theorem ze6{β:BK}(hk:zlZ d kv){t kt et:TypeId}(ht:P.underlying t=some (.map kt et))(hkt:P.underlying kt=some d){z:β.T}(hz:∃i,P.info? et=some i/\i.zero=some (β.v z)){L:List (κ×β.T)}(h:IsMg w r kv β.v L){k:κ}{x:Value}(hx:x=kv k)
  {φ:β.T->Prop} (hφ:φ ((zF L k).getD z)):zax P t (.map (some r)) x β w φ:=by
 subst hx
 refine⟨(zF L k).getD z,?_,hφ⟩
 have:=zsl hk ht hkt hz h k false
 rw[this]
 cases zF L k<;>rfl
abbrev strV(l:List UInt8):Value:=.string ⟨l.toArray⟩
theorem zqv:zlZ .string strV:=⟨λ_=>trivial,λa b h=>by
 unfold strV at h
 injection h with h
 have h:=congrArg (λx:ByteArray=>x.data.toList) h
 simpa using h⟩
theorem zdL(k:IntKind):zlZ (.int k) (Value.int k):=⟨λ_=>rfl,λa b h=>by injection h⟩
end Go.Gk
namespace Go.Proofs
open Go.Gk Go.RowKit Go.Gm
structure Z0 (w:World) (r:Nat) (pl:List PI) (n:Nat):Prop where
 ex:∃S:List (List UInt8×Int),IsMg w r strV (Value.int .i64) S/\∀key,0<=(zF S key).getD 0/\(zF S key).getD 0<=(n:Int)/\(0<(zF S key).getD 0↔∃j,j<n/\agOp (ix pl j).1=true/\keyT pl j=key)
section
variable {w w':World} {R:VWP} {kb rs k:Nat} {pl:List PI} {t:Sl} {bd:Int}
theorem Z0.of_block(h:Z0 w rs pl k)(hb:w'.heap[rs]? =w.heap[rs]?):Z0 w' rs pl k:=by
 obtain⟨S,h1,h2⟩:=h
 exact⟨S,h1.of_block hb,h2⟩
theorem Z0.lt(h:Z0 w rs pl k):rs<w.heap.size:=by
 obtain⟨S,h1,h2⟩:=h
 exact h1.lt
theorem Z0.below(h:Z0 w rs pl k)(hb:Below w.heap.size w w'):Z0 w' rs pl k:=h.of_block (hb.block _ h.lt)
theorem Z0.skip(h:Z0 w rs pl k)(hn:agOp (ix pl k).1=false):Z0 w rs pl (k+1):=by
 obtain⟨S,h1,h2⟩:=h
 refine⟨S,h1,λkey=>?_⟩
 obtain⟨g1,g2,g3⟩:=h2 key
 refine⟨g1,by omega,g3.trans ⟨λ⟨j,q1,q2⟩=>⟨j,by omega,q2⟩,λ⟨j,q1,q2,q3⟩=>⟨j,?_,q2,q3⟩⟩⟩
 have:j≠k:=by rintro rfl;rw[hn]at q2;cases q2
 omega
theorem zud:Tryz.prog.underlying 138=some (.map 9 3):=by kernel_rfl
theorem zvx:∃i,Tryz.prog.info? 3=some i/\i.zero=some ((BK.int .i64).v (0:Int)):=by
 have h:(Tryz.prog.info? 3).map (·.zero)=some (some (.int .i64 0)):=by kernel_rfl
 cases hi:Tryz.prog.info? 3 with
 |none=>rw[hi]at h;cases h
 |some i=>rw[hi]at h;exact⟨i,rfl,by injection h⟩
theorem zsB(a b:List UInt8):(⟨a.toArray⟩:ByteArray)++(⟨b.toArray⟩:ByteArray)=⟨(a++b).toArray⟩:=by
 refine ByteArray.ext ?_
 rw[ByteArray.data_append,List.append_toArray]
theorem zmU(a:List UInt8):(⟨a.toArray⟩:ByteArray).size=a.length:=List.size_toArray
set_option maxHeartbeats 1000000 in
theorem zp8{kb:Nat}{cs:List Value}(hK:Blk w kb 140 cs)(hc:cs[2]? =some (.map (some rs)))(hS:Z0 w rs pl k)(ht:Tab w)(hp:PlOk pl)(hs:(zx bd pl).1=0)(hk:k<pl.length)(hop:0<=(ix pl k).1/\(ix pl k).1<=65535)(hI:IsAg w t pl[k].2.2.2)
  (hty:agOp (ix pl k).1=true\/(ix pl k).1=28\/(ix pl k).1=30)
  (hR:∀w',Fr w.heap.size (λi=>i=rs) w w'->Z0 w' rs pl (k+1)->R (.bool (agnT pl k)) w'):cR 60 #[.pointer (some (blk kb)),inA (mkIn pl[k] t)] w R:=by
 refine za.of (zeH _ (mkIn pl[k] t) R w ?_) λ_ _ h=>h
 have hix:=zH hk
 have hal:pl[k].2.2.2=(ix pl k).2.2.2:=by rw[hix]
 have hop1:pl[k].1=(ix pl k).1:=by rw[hix]
 refine zm λw1 hI1 b1 z1=>?_
 have hI1:Blk w1 w.heap.size 44 (inV (mkIn pl[k] t)):=hI1
 have fr:∀{w'},Below w.heap.size w w'->Fr w.heap.size (λi=>i=rs) w w':=λhb=>⟨hb.os,hb.tape,hb.output,hb.size,λi hi _=>hb.block i hi⟩
 have idle:((ix pl k).1=28\/(ix pl k).1=30)->R (.bool false) w1:=λq=>by
  have hn:agOp (ix pl k).1=false:=by
   rcases q with q |q<;>rw[q]<;>rfl
  have:=hR w1 (fr b1) ((hS.skip hn).below b1)
  have e:agnT pl k=false:=by
   unfold agnT
   rcases q with q |q<;>rw[q]<;>simp
  rwa[e]at this
 refine zo.cut (λ(_:Unit) w'=>w'=w1/\agOp (ix pl k).1=true) ?_ ?_
 ·refine hI1.rI0 (x:=pl[k].1) rfl ?_
  rw[hop1]
  refine zk (λq=>idle (.inl q)) (λq=>hI1.rI0 (x:=pl[k].1) rfl ?_)
  rw[hop1]
  refine zk (λq2=>idle (.inr q2)) (λq2=>⟨rfl,?_⟩)
  rcases hty with h |h |h
  ·exact h
  ·exact absurd h q
  ·exact absurd h q2
 rintro _ w2 ⟨rfl,hag⟩
 have ht2:=ht.below b1
 refine hI1.rI0 (x:=pl[k].1) rfl ?_
 rw[hop1,zq (by omega) (by omega)]
 refine zlY (by omega) (by omega) ht2 λw3 b3=>⟨_,rfl,?_⟩
 have b03:=b1.on b3
 have hlen:=YQ hs hk
 have hA3:IsAg w3 t pl[k].2.2.2:=IsC.below zG hI b03
 have htl:=hA3.len
 have hpos:=zmR hp hk
 have hnl:(agN pl k).length=(ix pl k).2.2.2.length:=ziw
 obtain⟨on,hon⟩:=Int.eq_ofNat_of_zero_le hop.1
 refine(hI1.below b3).rS (n:=3) (x:=t) rfl ?_
 refine zl.ghost (λm (st:ByteArray×Int×Unit) w'=>∃j:Nat,st=((⟨(Lib.itoa (ix pl k).1++spc ((agN pl k).take j)).toArray⟩:ByteArray),(j:Int),())/\j<=pl[k].2.2.2.length/\m=pl[k].2.2.2.length-j/\Below w3.heap.size w3 w') pl[k].2.2.2.length ⟨0,by rw[List.take_zero];unfold spc;rw[List.flatMap_nil,List.append_nil];rfl,Nat.zero_le _,rfl,Below.refl _ _⟩ ?_
 rintro _ _ w4 ⟨j,rfl,hj,rfl,b4⟩ next hnext
 have b04:=b03.on b4
 refine zj (λg=>?_) (λg=>?_)
 ·have hjl:j<pl[k].2.2.2.length:=by dsimp only at g;omega
  have hj':j<(ix pl k).2.2.2.length:=by rw[<-hal];exact hjl
  have hval:pl[k].2.2.2[j].2.1=agI pl k j:=by
   unfold agI
   rw[<-hal,zp hjl]
  obtain⟨p1,p2⟩:=zp7 hp hk hj'
  obtain⟨an,han⟩:=Int.eq_ofNat_of_zero_le p1
  refine zjm (IsC.below zG hA3 b4) hjl (box3 rfl λw7 h7 b7 z7=>h7.rI (n:=1) (x:=pl[k].2.2.2[j].2.1) rfl ?_)
  rw[hval,zq (by omega) (by omega)]
  refine zlY (by omega) (by omega) (ht.below (b04.on b7)) λw8 b8=>⟨_,rfl,?_⟩
  have l1:=zlo (n:=an) (by omega)
  have l2:=zlo (n:=on) (by omega)
  have l3:=zvc (l:=(agN pl k).take j) λa ha=>hpos a (List.mem_of_mem_take ha)
  rw[List.length_take]at l3
  have e32:(BM #[32])++(⟨(Lib.itoa (agI pl k j)).toArray⟩:ByteArray)=⟨(32::Lib.itoa (agI pl k j)).toArray⟩:=zsB [32] _
  have es:(⟨(Lib.itoa (ix pl k).1++spc ((agN pl k).take j)).toArray⟩:ByteArray)++(⟨(32::Lib.itoa (agI pl k j)).toArray⟩:ByteArray)=⟨(Lib.itoa (ix pl k).1++spc ((agN pl k).take (j+1))).toArray⟩:=by
   rw[zsB,List.take_succ_eq_append_getElem (by rw[hnl];exact hj'),Yj hj',ztU,List.append_assoc]
  rw[<-han]at l1
  rw[<-hon]at l2
  refine⟨?_,?_,?_⟩
  ·show(((BM #[32]).size+(⟨(Lib.itoa (agI pl k j)).toArray⟩:ByteArray).size:Nat):Int)<=9223372036854775807
   rw[zmU (Lib.itoa (agI pl k j)),show(BM #[32]).size=1 from rfl]
   omega
  ·unfold zcz
   rw[e32,zmU,zmU,List.length_append,List.length_cons]
   omega
  ·dsimp only
   rw[e32,es,zE (by omega)]
   exact hnext (pl[k].2.2.2.length-(j+1)) _ w8 (by omega) ⟨j+1,rfl,by omega,rfl,(b4.on b7).on b8⟩
 have hje:j=pl[k].2.2.2.length:=by dsimp only at g;omega
 subst hje
 dsimp only
 rw[hal,<-hnl,List.take_length]
 show zc (some (Gk.blk kb)) _
 have hkey:Lib.itoa (ix pl k).1++spc (agN pl k)=keyT pl k:=rfl
 rw[hkey]
 obtain⟨S,hS1,hS2⟩:=hS.below b04
 have hK4:=hK.below b04
 refine ze rfl ⟨some rs,hK4.cell hc,?_⟩
 obtain⟨g1,g2,g3⟩:=hS2 (keyT pl k)
 have hlenp:=hp.len
 refine ze6 (β:=.int .i64) (κ:=List UInt8) zqv zud Tryz.underlying9 zvx hS1 (k:=keyT pl k) rfl ?_
 have ew:IntKind.i64.wrap ((zF S (keyT pl k)).getD 0+1)=(zF S (keyT pl k)).getD 0+1:=zq (by omega) (by omega)
 show updW _ _ _ _ (.int .i64 (IntKind.i64.wrap ((zF S (keyT pl k)).getD 0+1))) _ _
 rw[ew]
 refine zdA zqv zud Tryz.underlying9 hS1 (k:=keyT pl k) (v:=(zF S (keyT pl k)).getD 0+1) rfl rfl λw5 hS5 c5=>?_
 have hne:rs≠kb:=hS1.notBlk hK4
 have hK5:=c5.blk hK4 (Ne.symm hne)
 refine ze rfl ⟨some rs,hK5.cell hc,?_⟩
 refine ze6 (β:=.int .i64) (κ:=List UInt8) zqv zud Tryz.underlying9 zvx hS5 (k:=keyT pl k) rfl ?_
 have e5:(zF (setG S (keyT pl k) ((zF S (keyT pl k)).getD 0+1)) (keyT pl k)).getD 0=(zF S (keyT pl k)).getD 0+1:=by rw[Y5,if_pos rfl];rfl
 show R (.bool (decide ((zF (setG S (keyT pl k) ((zF S (keyT pl k)).getD 0+1)) (keyT pl k)).getD 0>1))) w5
 rw[e5]
 have hbool:decide ((zF S (keyT pl k)).getD 0+1>1)=agnT pl k:=by
  have h1:=zs4 hp hk hag
  rw[<-g3]at h1
  by_cases q:0<(zF S (keyT pl k)).getD 0
  ·rw[h1.2 q]
   exact decide_eq_true (by omega)
  ·cases hb:agnT pl k with
   |true=>exact absurd (h1.1 hb) q
   |false=>exact decide_eq_false (by omega)
 rw[hbool]
 refine hR w5 ⟨c5.os.trans b04.os,c5.tape.trans b04.tape,c5.output.trans b04.output,by rw[c5.size];exact b04.size,λi hi hx=>(c5.block i hx).trans (b04.block i hi)⟩ ⟨_,hS5,λkey=>?_⟩
 rw[Y5]
 by_cases e:key=keyT pl k
 ·rw[if_pos e]
  refine⟨by show(0:Int)<=_+1;omega,by show _+1<=_;omega,⟨λ_=>⟨k,by omega,hag,e.symm⟩,λ_=>by show(0:Int)<_+1;omega⟩⟩
 ·rw[if_neg e]
  obtain⟨f1,f2,f3⟩:=hS2 key
  refine⟨f1,by omega,f3.trans ⟨λ⟨j,q1,q2⟩=>⟨j,by omega,q2⟩,λ⟨j,q1,q2,q3⟩=>⟨j,?_,q2,q3⟩⟩⟩
  have:j≠k:=by rintro rfl;exact e q3.symm
  omega
end
end Go.Proofs
namespace Go.Proofs
open Go.Gk Go.RowKit Go.Gm
theorem znh:Tryz.prog.underlying 22=some (.int .u32):=Tryz.underlying22
theorem zgM{P:Program}{t e:TypeId}{sz bytes:Nat}(he:Yq P t e sz bytes){w:World}{s:Sl}{xs:List Value}(h:Own w e sz s xs){vs:List Value}(hvs:vs.length=sz)(hv:∀u∈vs,u.oneCell'=true){b c:Nat}{T:TypeId}
  (hB:Blk w b T vs) (h63:s.l+1<=9223372036854775807) (hbytes:(s.l+1)*bytes<=140737488355328) {k:Sl->World->Prop}
  (hk:∀r w' b',Own w' e sz r (xs++vs)->r.a=some (blk b')->(s.a=some (blk b')\/b'=w.heap.size)->(∀B,B<=b'->B<=w.heap.size->Below B w w')->(∀i,i<w.heap.size->i≠b'->w'.heap[i]? =w.heap[i]?)->k r w'):zA P t (.slice s.a s.l s.c) (.slice (some (blk b)) 1 c) w k:=by
 refine yV he h (news:=vs) (by omega) (λj u hj=>hB.cell hj) hv h63 hbytes λr w' h1 hl' hg=>?_
 rcases hg with⟨_,_,h3⟩ | ⟨b',h3,h4,h5⟩
 ·rw[h3]at hl';omega
 ·exact hk r w' b' h1 h3 h4 (λB h6 h7=>zW h5 h6 h7) λi hi hne=>h5.block _ hi λe=>hne (Option.some.inj e)
section
variable {x:Mo} {pl:List PI} {w:World} {R:VWP}
theorem IsS.of_full{α:Type}{f:α->Value}{w w':World}{s:Sl}{l:List α}(h:IsS f w s l)(hb:l≠[]->∀a,s.a=some a->a.block<w.heap.size->w'.heap[a.block]? =w.heap[a.block]?):IsS f w' s l:=by
 by_cases e:l=[]
 ·exact⟨h.len,h.cap,h.max,h.nil,λa _ i hi=>by rw[e]at hi;cases hi⟩
 ·exact h.of_block (hb e)
abbrev TyO(B:Nat)(w:World)(o:Sl)(a:Int×Tv)(c:Int×Tp):Prop:=a.1=c.1/\(TvOk B w a.2 c.2/\(c.2.ps≠[]->∀y,a.2.2.2.2.2.2.2.2.1.a=some y->o.a≠some (Gk.blk y.block)))
structure Grow (w:World) (B tb r:Nat) (o:Sl) (T:TyL):Prop where
 blk:Blk w tb 136 [.map (some r),.slice o.a o.l o.c]
 own:Own w 22 1 o (T.map λp=>.int .u32 p.1)
 fr:zK B o
 ex:∃V:List (Int×Tv),IsMq w r (aggQ tyK) V/\Al2 (TyO B w o) V T
theorem Grow.below{w':World}{B tb r:Nat}{o:Sl}{T:TyL}(h:Grow w B tb r o T)(hb:Below w.heap.size w w'):Grow w' B tb r o T:=by
 obtain⟨V,h1,h2⟩:=h.ex
 exact⟨h.blk.below hb,h.own.below hb,h.fr,V,h1.below hb,allR (λa c q=>⟨q.1,q.2.1.below hb,q.2.2⟩) h2⟩
theorem Grow.isTb{B B' tb r:Nat}{o:Sl}{T:TyL}(h:Grow w B tb r o T)(hB:B'<=B)(ht:B'<=tb)(hr:B'<=r):IsTb w B' tb T:=by
 obtain⟨V,h1,h2⟩:=h.ex
 exact⟨⟨r,o,h.blk,⟨⟨V,h1,allR (λa c q=>⟨q.1,q.2.1.mono hB⟩) h2⟩,hr⟩⟩,ht⟩
theorem Grow.fr_{w':World}{B tb r b:Nat}{o:Sl}{T:TyL}(h:Grow w B tb r o T)(hF:Fr w.heap.size (λi=>i=b) w w')(hb:b<B)(h1:tb≠b)(h2:r≠b):Grow w' B tb r o T:=by
 obtain⟨V,g1,g2⟩:=h.ex
 refine⟨h.blk.of_block (hF.block _ h.blk.lt h1),h.own.of_block λa ha=>hF.block _ (h.own.lt ha).2 λe=>?_,h.fr,V,g1.of_block (hF.block _ g1.lt h2),allR (λa c q=>⟨q.1,?_,q.2.2⟩) g2⟩
 ·have:=h.fr a ha
  omega
 ·have q1:=q.2.1
  exact⟨q1.kind,q1.size,q1.depth,q1.sg,q1.cls,q1.part,q1.times,q1.ps.of_block λy hy hlt=>hF.block _ hlt λe=>by have:=q1.fr y hy;omega,q1.fr⟩
theorem znq{b:Nat}{w':World}(c:Chg b w w'):Fr w.heap.size (λi=>i=b) w w':=⟨c.os,c.tape,c.output,by rw[c.size];exact Nat.le_refl _,λi _ hi=>c.block i hi⟩
theorem ztk{X:Nat->Prop}{w':World}(h:Below w.heap.size w w'):Fr w.heap.size X w w':=⟨h.os,h.tape,h.output,h.size,λi hi _=>h.block i hi⟩
theorem Fr.below_{b B:Nat}{w0 w1:World}(h:Fr w.heap.size (λi=>i=b) w w1)(h0:Below B w0 w)(hb:B<=b)(hB:B<=w.heap.size):Below B w0 w1:=
 ⟨h.os.trans h0.os,h.tape.trans h0.tape,h.output.trans h0.output,Nat.le_trans h0.size h.size,λi hi=>(h.block i (by omega) (by omega)).trans (h0.block i hi)⟩
theorem zt8{k:Nat}{id:Int}(W:yP x.2.1 pl)(hk:k<pl.length)(h0:id≠0):mdP pl id (k+1)=if id=(ix pl k).2.2.1 then ix pl k else mdP pl id k:=by
 have hm:∀n,n<=pl.length->∀j,j<n->(ix pl j).2.2.1=id->zQ pl id n=(j:Int):=λn hn j hj e=>by
  unfold zQ
  rw[List.find?_range_eq_some.2 ⟨show mk1 pl id j=true by unfold mk1;rw[Bool.and_eq_true,beq_iff_eq,bne_iff_ne];exact⟨e,h0⟩,List.mem_range.2 hj,λi hi=>?_⟩]
  have:mk1 pl id i=false:=by
   unfold mk1
   rw[Bool.and_eq_false_iff]
   left
   rw[beq_eq_false_iff_ne]
   intro q
   exact W.new j (by omega) (by rw[e];exact h0) i hi (by omega) (by rw[e];exact q)
  simp[this]
 have hno:∀n,(∀j,j<n->(ix pl j).2.2.1≠id)->zQ pl id n<0:=λn hj=>by
  unfold zQ
  rw[List.find?_eq_none.2 λj hj'=>?_]
  ·decide
  ·have:=hj j (List.mem_range.1 hj')
   unfold mk1
   rw[Bool.and_eq_true,beq_iff_eq]
   exact λq=>this q.1
 unfold mdP
 by_cases e:id=(ix pl k).2.2.1
 ·rw[if_pos e,hm (k+1) (by omega) k (by omega) e.symm,if_pos (by omega),Int.toNat_natCast]
 ·rw[if_neg e]
  by_cases h:∃j,j<k/\(ix pl j).2.2.1=id
  ·obtain⟨j,hj,he⟩:=h
   rw[hm (k+1) (by omega) j (by omega) he,hm k (by omega) j hj he]
  ·have h1:=hno k λj hj he=>h ⟨j,hj,he⟩
   have h2:=hno (k+1) λj hj he=>by
    by_cases q:j=k
    ·subst q;exact e he.symm
    ·exact h ⟨j,by omega,he⟩
   rw[if_neg (by omega),if_neg (by omega)]
theorem zvE(pl:List PI)(id:Int)(k:Nat):mdP pl id k=pi0\/∃j,mdP pl id k=ix pl j:=by
 unfold mdP
 split
 ·exact .inr ⟨_,rfl⟩
 ·exact .inl rfl
theorem zt9(hs:(zx x.2.1 pl).1=0)(hp:PlOk pl)(id:Int)(k:Nat)(h:(mdP pl id k).1=43):0<(mdP pl id k).2.2.2.length/\cN (mdP pl id k)<=4294967295:=by
 rcases zvE pl id k with e | ⟨j,e⟩
 ·rw[e]at h;cases h
 ·rw[e]at h⊢
  have hj:j<pl.length:=Classical.byContradiction λhn=>by
   rw[show ix pl j=pi0 from yd (by omega)]at h
   cases h
  have hl:(ix pl j).2.2.2.length=1:=yc hs hj h zeU
  exact⟨by omega,(zp7 hp hj (j:=0) (by omega)).2⟩
theorem Z8{w':World}{s:Sl}(h:IsPl w s pl)(hb:Below w.heap.size w w'){k:Nat}(hk:k<pl.length){φ:Int->Int->Int->Sl->Prop}(hφ:∀t,IsAg w t pl[k].2.2.2->φ pl[k].1 pl[k].2.1 pl[k].2.2.1 t) :
  (0<=(k:Int)/\(k:Int)<(s.l:Int))/\zc s.a λa=>ldI w' ((a.add (Int.toNat (k:Int)*4)).add 0) .u16 λx=>ldI w' ((a.add (Int.toNat (k:Int)*4)).add 1) .u32 λy=>ldI w' ((a.add (Int.toNat (k:Int)*4)).add 2) .u32 λz=>ldS w' ((a.add (Int.toNat (k:Int)*4)).add 3) λt=>φ x y z t:=by
 obtain⟨a,ha⟩:=h.base hk
 obtain⟨t,h1,h2⟩:=h.elem a ha k hk
 have hc:∀j (hj:j<4),w'.cell? (a.add (k*4+j))=some ((inV (mkIn pl[k] t))[j]'hj):=λj hj=>by
  have h3:=h1 j hj
  have hlt:j<(inV (mkIn pl[k] t)).length:=hj
  rw[List.getElem?_eq_getElem hlt]at h3
  exact Zh hb h3
 refine⟨⟨by omega,by have:=h.len;omega⟩,ze ha ⟨_,?_,_,?_,_,?_,t,?_,hφ t h2⟩⟩
 ·rw[zn];exact hc 0 (by omega)
 ·rw[zn];exact hc 1 (by omega)
 ·rw[zn];exact hc 2 (by omega)
 ·rw[zn];exact hc 3 (by omega)
theorem IsMd.chg{b:Nat}{w1 w2:World}{r k:Nat}(h:IsMd w w1 r pl k)(hF:Fr w1.heap.size (λi=>i=b) w1 w2)(hr:r≠b)(hb:w.heap.size<=b):IsMd w w2 r pl k:=by
 obtain⟨⟨M,h1,h2⟩,h3⟩:=h
 exact⟨⟨M,h1.of_block (hF.block _ h1.lt hr),h2⟩,hF.below_ h3 hb h3.size⟩
theorem zuK:tabR.all (λp=>decide (0<=p.1/\p.1<=65535))=true:=by decide +kernel
theorem zvH{bd:Int}(hs:(zx bd pl).1=0){k:Nat}(hk:k<pl.length):0<=(ix pl k).1/\(ix pl k).1<=65535:=by
 obtain⟨f,hf,_⟩:=Zz ((Yf hs).2 k hk)
 rw[zH hk]
 exact of_decide_eq_true (List.all_eq_true.1 zuK _ (ZC hf))
structure NwI (x:Mo) (pl:List PI) (w w':World) (bS b0:Nat) (n:Nat):Prop where
 below:Below w.heap.size w w'
 spot:Blk w' bS 29 [.int .i64 0,.int .i64 0]
 sz:b0+5<=w'.heap.size
 mker:Blk w' (b0+4) 140 [.pointer (some (Gk.blk (b0+1))),.map (some (b0+2)),.map (some (b0+3))]
 tb:∃o,Grow w' (b0+5) (b0+1) b0 o (tysT pl n)
 md:IsMd w w' (b0+2) pl n
 seen:Z0 w' (b0+3) pl n
set_option maxHeartbeats 4000000 in
theorem zqx(hN:IsPl w x.2.2.1 pl)(hp:PlOk pl)(h0:0<=x.2.1)(ht:Tab w)
  (hBad:(typE x.2.1 pl).1≠0->∀w',Below w.heap.size w w'->R (.tuple #[.pointer none,.agg #[.int .i64 (typE x.2.1 pl).1,.int .i64 (typE x.2.1 pl).2]]) w')
  (hOk:TyOk x.2.1 pl->∀w' tb,Below w.heap.size w w'->IsTb w' w.heap.size tb (tyL pl)->R (.tuple #[.pointer (some (blk tb)),.agg #[.int .i64 0,.int .i64 0]]) w') :
  cR 34 #[moA x] w R:=by
 refine za.of (zko x R w ?_) λ_ _ h=>h
 refine zm λw1 hB1 b1 z1=>?_
 have hB1:Blk w1 w.heap.size 25 (moV x):=hB1
 refine zm λw2 hS2 b2 z2=>?_
 have hS2:Blk w2 w1.heap.size 29 [.int .i64 0,.int .i64 0]:=hS2
 have b02:=b1.on b2
 refine Mo.load (hB1.below b2) (zk3 (x:=x) (hN.below b02) hp λw3 b3=>⟨((zU x.2.1 pl).1,((zU x.2.1 pl).2:Int),()),rfl,?_⟩)
 refine box2 rfl λw6 h6 b6 z6=>h6.rI0 rfl ?_
 have b26:=b3.on b6
 have b06:=b02.on b26
 have hS6:=hS2.below b26
 have sz:=b06.size
 have sz1:=b1.size
 have out:∀{w':World} {p:Option Addr} {e a:Int},Blk w' w1.heap.size 29 [.int .i64 0,.int .i64 0]->Below w.heap.size w w'->(∀w'',Chg w1.heap.size w' w''->Below w.heap.size w w''->R (.tuple #[.pointer p,.agg #[.int .i64 e,.int .i64 a]]) w'')->
   Wr w' (blk w1.heap.size)/\Nw (w'.setCell (blk w1.heap.size) (.int .i64 e)) λw8=>Wr w8 ((blk w1.heap.size).add 1)/\Nw (w8.setCell ((blk w1.heap.size).add 1) (.int .i64 a)) λw9=>ldI w9 ((blk w1.heap.size).add 0) .i64 λx9=>ldI w9 ((blk w1.heap.size).add 1) .i64 λx10=>
    R (.tuple #[.pointer p,.agg #[.int .i64 x9,.int .i64 x10]]) w9:=λ{w' p e a} hS hb hR=>
  st2 hS rfl λw9 hS9 c9=>Sp.load hS9 (hR w9 c9 (c9.below hb (by omega)))
 refine zy (λhc=>?_) (λhc=>?_)
 ·have hc:(zU x.2.1 pl).1≠0:=hc
  have he:=zpz hc
  refine Sp.load h6.drew (out hS6.drew b06.drew λw' _ hb=>?_)
  have:=hBad (by rw[he];exact hc) w' hb
  rwa[he]at this
 have hc:(zU x.2.1 pl).1=0:=hc
 have W:=yP.of hp h0 hc
 have hs:=W.shape
 refine Nw.gen λw9 e9=>?_
 have z9:w9.heap.size=w6.heap.size+1:=by rw[e9];simp
 have b9:Below w6.heap.size w6 w9:=by rw[e9];exact(Below.refl _ _).alloc (Nat.le_refl _) _
 have hr9:IsMq w9 w6.heap.size (aggQ tyK) ([]:List (Int×Tv)):=by rw[e9];exact IsMq.new w6 _
 refine zm λw10 hT10 b10 z10=>?_
 have hT10:Blk w10 w9.heap.size 136 [.map (some w6.heap.size),.slice none 0 0]:=hT10
 refine Nw.gen λw11 e11=>?_
 have z11:w11.heap.size=w10.heap.size+1:=by rw[e11];simp
 have b11:Below w10.heap.size w10 w11:=by rw[e11];exact(Below.refl _ _).alloc (Nat.le_refl _) _
 have hm11:IsMq w11 w10.heap.size (aggQ insK) ([]:List (Int×Ins)):=by rw[e11];exact IsMq.new w10 _
 refine Nw.gen λw12 e12=>?_
 have z12:w12.heap.size=w11.heap.size+1:=by rw[e12];simp
 have b12:Below w11.heap.size w11 w12:=by rw[e12];exact(Below.refl _ _).alloc (Nat.le_refl _) _
 have hs12:IsMg w12 w11.heap.size strV (Value.int .i64) ([]:List (List UInt8×Int)):=by rw[e12];exact IsMg.new w11 _ _
 refine zm λw13 hK13 b13 z13=>?_
 have hK13:Blk w13 w12.heap.size 140 [.pointer (some (blk w9.heap.size)),.map (some w10.heap.size),.map (some w11.heap.size)]:=hK13
 obtain⟨b0,hb0⟩:∃b0,w6.heap.size=b0:=⟨_,rfl⟩
 have q9:w9.heap.size=b0+1:=by omega
 have q10:w10.heap.size=b0+2:=by omega
 have q11:w11.heap.size=b0+3:=by omega
 have q12:w12.heap.size=b0+4:=by omega
 have q13:w13.heap.size=b0+5:=by omega
 have b613:Below w6.heap.size w6 w13:=(((b9.on b10).on b11).on b12).on b13
 have b013:=b06.on b613
 have hB13:=(hB1.below b2).below (b26.on b613)
 rw[q9,hb0]at hT10
 rw[q12,q9,q10,q11]at hK13
 rw[hb0]at hr9
 rw[q10]at hm11
 rw[q11]at hs12
 dsimp only[zB,Go.Gk.Sl.zw,zi,zu,zb,zh];rw[q12]
 have hpls:=hN.len
 have hplen:=hp.len
 have start:NwI x pl w w13 w1.heap.size b0 0:=by
  refine⟨b013,hS6.below b613,by omega,hK13,⟨⟨none,0,0⟩,hT10.below ((b11.on b12).on b13),Own.nil _ _ _,zlv _,[],hr9.below (((b10.on b11).on b12).on b13),.nil⟩,⟨⟨[],hm11.below (b12.on b13),λid _=>⟨⟨none,0,0⟩,?_,?_⟩⟩,b013⟩,⟨[],hs12.below b13,λkey=>⟨Int.le_refl _,Int.le_refl _,?_⟩⟩⟩
  ·have:mdP pl id 0=pi0:=by
    unfold mdP zQ
    rfl
   rw[this]
   rfl
  ·have:mdP pl id 0=pi0:=by
    unfold mdP zQ
    rfl
   rw[this]
   exact⟨rfl,Nat.le_refl _,by decide,λ_=>rfl,λa ha=>(by cases ha)⟩
  ·exact⟨λh=>absurd h (by show ¬(0:Int)<0;decide),λ⟨j,h,_⟩=>(by omega)⟩
 refine hB13.rS (n:=2) (x:=x.2.2.1) rfl ?_
 refine zl.ghost (λm (st:Int×Unit) w'=>∃n:Nat,st=((n:Int),())/\n<=pl.length/\m=pl.length-n/\NwI x pl w w' w1.heap.size b0 n/\∀k,k<n->errT (tysT pl k) pl k=0) pl.length ⟨0,rfl,Nat.zero_le _,rfl,start,λk h=>by omega⟩ ?_
 rintro _ _ w14 ⟨n,rfl,hn,rfl,I,hno⟩ next hnext
 obtain⟨o,G⟩:=I.tb
 have sz14:=I.sz
 have q1:w1.heap.size<b0:=by have:=b26.size;omega
 refine zj (λg=>?_) (λg=>?_)
 rotate_left
 ·
  have hne:n=pl.length:=by dsimp only at g;omega
  subst hne
  refine⟨_,I.mker.cell0 rfl,out I.spot I.below λw' c hb=>?_⟩
  exact hOk ⟨hc,hno⟩ w' (b0+1) hb ((G.fr_ (znq c) (by omega) (by omega) (by omega)).isTb (by omega) (by omega) (by omega))
 have hnl:n<pl.length:=by dsimp only at g;omega
 have hT:TbOk (tysT pl n):=zqy W n (by omega) hno
 have hix:=zH hnl
 have hop1:=zvH hs hnl
 refine Z8 hN I.below hnl λt hI0=>box4 rfl λw19 hI19 b19 z19=>?_
 have hI19:Blk w19 w14.heap.size 44 (inV (mkIn pl[n] t)):=hI19
 have b019:=I.below.on b19
 have G19:=G.below b19
 have K19:IsMk w w19 w.heap.size (b0+4) (b0+1) (b0+2) (b0+3) (tysT pl n) pl n:=⟨I.mker.below b19,G19.isTb (by omega) (by omega) (by omega),I.md.below b19⟩
 have hA19:IsAg w19 t pl[n].2.2.2:=IsC.below zG hI0 b019
 have hS19:=I.seen.below b19
 refine Ins.load (x:=mkIn pl[n] t) hI19 ?_
 have S19:=I.spot.below b19
 have M19:=I.md.below b19
 have fin:∀(w38:World) (o':Sl),Below w.heap.size w w38->b0+5<=w38.heap.size->Blk w38 w1.heap.size 29 [.int .i64 0,.int .i64 0]->Blk w38 (b0+4) 140 [.pointer (some (Gk.blk (b0+1))),.map (some (b0+2)),.map (some (b0+3))]->
   Grow w38 (b0+5) (b0+1) b0 o' (tysT pl (n+1))->IsMd w w38 (b0+2) pl n->Z0 w38 (b0+3) pl (n+1)->Blk w38 w14.heap.size 44 (inV (mkIn pl[n] t))->errT (tysT pl n) pl n=0->
   ldM w38.drew ((blk (b0+4)).add 1) λx58=>ldI w38.drew ((blk w14.heap.size).add 2) .u32 λx59=>ldI w38.drew ((blk w14.heap.size).add 0) .u16 λx60=>ldI w38.drew ((blk w14.heap.size).add 1) .u32 λx61=>ldI w38.drew ((blk w14.heap.size).add 2) .u32 λx62=>ldS w38.drew ((blk w14.heap.size).add 3) λx63=>
    updW Tryz.prog 137 (.map x58) (.int .u32 x59) (.agg #[.int .u16 x60,.int .u32 x61,.int .u32 x62,.slice x63.a x63.l x63.c]) w38.drew λw39=>next (IntKind.i64.wrap ((n:Int)+1),()) w39:=λw38 o' hb hsz hS hK hG hM hs hI he=>by
  refine⟨some (b0+2),hK.drew.cell (n:=1) rfl,hI.drew.rI (n:=2) rfl (Ins.load (x:=mkIn pl[n] t) hI.drew ?_)⟩
  obtain⟨⟨M,hM1,hM2⟩,hM3⟩:=hM
  refine zk1 (f:=aggQ insK) (v:=(mkIn pl[n] t:Ins)) uMd znh hM1.drew rfl λw39 hM39 c39=>?_
  have c39:Chg (b0+2) w38.drew w39:=c39
  have F39:Fr w38.drew.heap.size (λi=>i=b0+2) w38.drew w39:=znq c39
  rw[zE (by omega)]
  have sd:(w38.drew).heap.size=w38.heap.size:=rfl
  refine hnext (pl.length-(n+1)) _ w39 (by omega) ⟨n+1,rfl,by omega,rfl,⟨c39.below hb.drew (by omega),c39.blk hS.drew (by omega),by rw[c39.size];exact hsz,c39.blk hK.drew (by omega),⟨o',(hG.below ((Below.refl _ _).drew)).fr_ F39 (by omega) (by omega) (by omega)⟩,⟨⟨_,hM39,λid h0=>?_⟩,c39.below hM3.drew (by omega)⟩,hs.of_block (c39.block _ (by omega))⟩,λk hk=>?_⟩
  ·show ∃t1,(zC (α:=Ins) (setQ (α:=Ins) M pl[n].2.2.1 (mkIn pl[n] t)) id).getD ins0=mkIn (mdP pl id (n+1)) t1/\IsAg w t1 (mdP pl id (n+1)).2.2.2
   rw[zc2,zt8 W hnl h0]
   by_cases e:id=(ix pl n).2.2.1
   ·rw[if_pos (by rw[e,hix]),if_pos e,hix]
    exact⟨t,rfl,hI0⟩
   ·rw[if_neg (by rw[hix]at e;exact e),if_neg e]
    exact hM2 id h0
  ·by_cases e:k=n
   ·subst e;exact he
   ·exact hno k (by omega)
 refine ztH K19 hT hp hs hnl hA19 (λid h=>zt9 hs hp id n h) ?_
 cases ho:oneT (tysT pl n) pl n with
 |none=>
  refine λw20 b20=>⟨tv0,false,0,rfl,?_⟩
  refine zkI λw29 hX29 b29 z29=>?_
  have he:errT (tysT pl n) pl n=0:=by unfold errT;rw[ho]
  have hag:agOp (ix pl n).1=false:=by
   cases hq:agOp (ix pl n).1 with
   |false=>rfl
   |true=>
    have hop:(ix pl n).1=19\/(ix pl n).1=20\/(ix pl n).1=21\/(ix pl n).1=23\/(ix pl n).1=32\/(ix pl n).1=33:=by
     unfold agOp at hq
     simpa only[Bool.or_eq_true,beq_iff_eq,or_assoc] using hq
    obtain⟨p,hp'⟩:=zsg (pl:=pl) (k:=n) (tysT pl n) (by omega)
    rw[ho]at hp'
    cases hp'
  have b1929:=b20.on b29
  refine zo.cut (λ(st:Int×Unit) w'=>st=(0,())/\w29=w') (zJ rfl ⟨rfl,rfl⟩) ?_
  rintro _ _ ⟨rfl,rfl⟩
  refine zJ rfl (zo.cut (λ(_:Unit) w'=>w29=w') (zJ rfl rfl) ?_)
  rintro _ _ rfl
  exact fin w29 o (b019.on b1929) (by have:=b19.size;have:=b1929.size;omega) (S19.below b1929) (K19.blk.below b1929) (by rw[zlB ho];exact G19.below b1929) (M19.below b1929) ((hS19.skip hag).below b1929) (hI19.below b1929) he
 |some p=>
  refine λw20 v hv b20=>⟨v,true,p.2,rfl,?_⟩
  refine zkI λw29 hX29 b29 z29=>?_
  have b1929:=b20.on b29
  have b1429:=b19.on b1929
  have b029:=b019.on b1929
  have hty:agOp (ix pl n).1=true\/(ix pl n).1=28\/(ix pl n).1=30:=by
   rcases zn3 ho with q |q |q |q |q |q |q |q
   ·exact .inl (by rw[q];rfl)
   ·exact .inl (by rw[q];rfl)
   ·exact .inl (by rw[q];rfl)
   ·exact .inl (by rw[q];rfl)
   ·exact .inr (.inl q)
   ·exact .inr (.inr q)
   ·exact .inl (by rw[q];rfl)
   ·exact .inl (by rw[q];rfl)
  have hI29:=hI19.below b1929
  have hK29:=K19.blk.below b1929
  refine zo.cut (λ(st:Int×Unit) w'=>st=(errT (tysT pl n) pl n,())/\Fr w29.heap.size (λi=>i=b0+3) w29 w'/\(errT (tysT pl n) pl n=0->Z0 w' (b0+3) pl (n+1))) ?_ ?_
  ·refine zR rfl (zk (λe=>?_) (λe=>⟨?_,ztk (Below.refl _ _),λq=>?_⟩))
   ·refine Ins.load (x:=mkIn pl[n] t) hI29 (zp8 hK29 rfl (hS19.below b1929) (ht.below b029) hp hs hnl hop1 (IsC.below zG hA19 b1929) hty λw30 F30 hs30=>⟨_,rfl,?_⟩)
    have he:errT (tysT pl n) pl n=if agnT pl n=true then 101 else 0:=by
     unfold errT
     rw[ho]
     exact if_neg (λq=>q e)
    rw[he]
    exact zz (λq=>⟨by rw[q];rfl,F30,λ_=>hs30⟩) (λq=>⟨by rw[q,e];rfl,F30,λ_=>hs30⟩)
   ·unfold errT
    rw[ho]
    show(p.2,())=(if p.2≠0 then p.2 else _,())
    rw[if_pos e]
   ·unfold errT at q
    rw[ho]at q
    have q:(if p.2≠0 then p.2 else if agnT pl n=true then 101 else 0)=0:=q
    rw[if_pos e]at q
    exact absurd q e
  rintro _ w31 ⟨rfl,F31,hs31⟩
  have sz29:w19.heap.size<=w29.heap.size:=b1929.size
  have sz1419:=b19.size
  have b031:Below w.heap.size w w31:=F31.below_ b029 (by omega) b029.size
  have S31:=(S19.below b1929).of_block (F31.block _ (S19.below b1929).lt (by omega))
  refine zy (λhe=>?_) (λhe=>?_)
  ·have hE:=zvj hc hnl he hno
   refine out S31 b031 λw' _ hb=>?_
   have:=hBad (by rw[hE];exact he) w' hb
   rwa[hE]at this
  have he:errT (tysT pl n) pl n=0:=he
  have hs31:=hs31 he
  have hp2:=zqP ho he
  have hv:=hv hp2
  have hK31:=hK29.of_block (F31.block _ hK29.lt (by omega))
  have hI31:=hI29.of_block (F31.block _ hI29.lt (by omega))
  have hX31:=hX29.of_block (F31.block _ hX29.lt (by omega))
  have M31:=(M19.below b1929).chg F31 (by omega) (by omega)
  have G31:=(G19.below b1929).fr_ F31 (by omega) (by omega) (by omega)
  have v31:TvOk w19.heap.size w31 v p.1:=by
   have v29:=hv.below b29
   exact⟨v29.kind,v29.size,v29.depth,v29.sg,v29.cls,v29.part,v29.times,v29.ps.of_block λy hy hlt=>F31.block _ hlt (by have:=v29.fr y hy;omega),v29.fr⟩
  refine zo.cut (λ(_:Unit) w'=>∃o',Below w.heap.size w w'/\b0+5<=w'.heap.size/\Blk w' w1.heap.size 29 [.int .i64 0,.int .i64 0]/\Blk w' (b0+4) 140 [.pointer (some (Gk.blk (b0+1))),.map (some (b0+2)),.map (some (b0+3))]/\Grow w' (b0+5) (b0+1) b0 o' (tysT pl (n+1))/\IsMd w w' (b0+2) pl n/\Z0 w' (b0+3) pl (n+1)/\Blk w' w14.heap.size 44 (inV (mkIn pl[n] t))) ?_ ?_
  rotate_left
  ·rintro _ w38 ⟨o',r1,r2,r3,r4,r5,r6,r7,r8⟩
   exact fin w38 o' r1 r2 r3 r4 r5 r6 r7 r8 he
  refine zR rfl ⟨_,hK31.drew.cell0 rfl,ze rfl ⟨some b0,G31.blk.drew.cell0 rfl,hI31.drew.rI (n:=2) rfl (Tv.load hX31.drew ?_)⟩⟩
  obtain⟨V,V1,V2⟩:=G31.ex
  have hfrs:=TyOk.fresh W hnl ho
  refine zk1 (f:=aggQ tyK) (v:=(v:Tv)) uTy znh V1.drew rfl λw34 V34 c34=>?_
  have c34:Chg b0 w31.drew w34:=c34
  have F34:Fr w31.drew.heap.size (λi=>i=b0) w31.drew w34:=znq c34
  have sd31:(w31.drew).heap.size=w31.heap.size:=rfl
  have sd34:(w34.drew).heap.size=w34.heap.size:=rfl
  have s34:=c34.size
  have big:b0+5<=w34.heap.size:=by have:=F31.size;omega
  have b034:Below w.heap.size w w34:=c34.below b031.drew (by omega)
  have S34:=c34.blk S31.drew (by omega)
  have K34:=c34.blk hK31.drew (by omega)
  have I34:=c34.blk hI31.drew (by omega)
  have M34:=(M31.below ((Below.refl _ _).drew)).chg F34 (by omega) (by omega)
  have T34:=c34.blk G31.blk.drew (by omega)
  have O34:Own w34 22 1 o ((tysT pl n).map λq=>.int .u32 q.1):=G31.own.drew.of_block λa ha=>c34.block _ (by have:=G31.fr a ha;omega)
  have hs34:Z0 w34 (b0+3) pl (n+1):=hs31.of_block (c34.block _ (by omega))
  have V34':Al2 (TyO (b0+5) w34 o) (setQ V pl[n].2.2.1 v) (tysT pl (n+1)):=by
   have hS:tysT pl (n+1)=setQ (tysT pl n) pl[n].2.2.1 p.1:=by
    show(match oneT (tysT pl n) pl n with |none=>tysT pl n |some p=>setQ (tysT pl n) (ix pl n).2.2.1 p.1)=_
    rw[ho,hix]
   rw[hS]
   have new:TvOk (b0+5) w34 v p.1/\(p.1.ps≠[]->∀y,v.2.2.2.2.2.2.2.1.a=some y->o.a≠some (Gk.blk y.block)):=by
    refine⟨⟨v31.kind,v31.size,v31.depth,v31.sg,v31.cls,v31.part,v31.times,v31.ps.of_block λy hy hlt=>c34.block _ (by have:=v31.fr y hy;omega),λy hy=>by have:=v31.fr y hy;omega⟩,λ_ y hy e=>?_⟩
    have h1:=v31.fr y hy
    have h2:=(G19.own.lt e).2
    have h2:y.block<w19.heap.size:=h2
    omega
   refine setR (R:=λa c=>TvOk (b0+5) w34 a c/\(c.ps≠[]->∀y,a.2.2.2.2.2.2.2.1.a=some y->o.a≠some (Gk.blk y.block))) new (allR (λa c q=>⟨q.1,?_,q.2.2⟩) V2)
   ·have q1:=q.2.1
    exact⟨q1.kind,q1.size,q1.depth,q1.sg,q1.cls,q1.part,q1.times,q1.ps.of_block λy hy hlt=>c34.block _ (by have:=q1.fr y hy;omega),q1.fr⟩
  refine⟨_,K34.drew.cell0 rfl,_,K34.drew.cell0 rfl,ze rfl (T34.drew.rS (n:=1) (x:=o) rfl (I34.drew.rI (n:=2) rfl ?_))⟩
  refine zm λw35 hE35 b35 z35=>?_
  have hE35:Blk w35 w34.drew.heap.size 22 [.int .u32 pl[n].2.2.1]:=hE35
  have b3435:Below w34.heap.size w34 w35:=(Below.refl w34.heap.size w34).drew.on b35
  have s35:=b3435.size
  refine⟨(T34.below b3435).cell (n:=1) rfl,(K34.below b3435).cell0 rfl,(K34.below b3435).cell0 rfl,?_⟩
  have O35:=O34.below b3435
  have hol:o.l=(tysT pl n).length:=by have:=O35.1;rw[List.length_map]at this;omega
  have htl:=zru pl n
  have hord:(tysT pl (n+1)).map (λq=>(Value.int .u32 q.1))=(tysT pl n).map (λq=>(Value.int .u32 q.1))++[.int .u32 pl[n].2.2.1]:=by
   rw[zuc W hnl ho,List.map_append,hix]
   rfl
  refine zgM eU32 O35 (vs:=[.int .u32 pl[n].2.2.1]) rfl (λu hu=>by rw[List.mem_singleton.1 hu];rfl) hE35 (by omega) (by omega) λo' w36 b' O36 ha' hb' hbel hkeep=>?_
  have hb'5:b0+5<=b':=by
   rcases hb' with e |e
   ·exact G31.fr _ e
   ·omega
  have sw34:=b034.size
  have bb36:=hbel w.heap.size (by omega) (by omega)
  have sz36:=(hbel 0 (Nat.zero_le _) (Nat.zero_le _)).size
  have nb:∀{c:Nat},c<w35.heap.size->c≠b'->w36.heap[c]? =w35.heap[c]?:=λh1 h2=>hkeep _ h1 h2
  have notO:∀{c:Nat} {Ty:TypeId} {cs:List Value},Blk w35 c Ty cs->22≠Ty->c≠b':=λ{c Ty cs} hB hne e=>by
   subst e
   rcases hb' with e |e
   ·obtain⟨cs',hc'⟩:=O35.type e
    exact Blk.apart hc' hB hne rfl
   ·have:=hB.lt
    omega
  have K36:=(K34.below b3435).of_block (nb (K34.below b3435).lt (by omega))
  refine⟨K36.cell0 rfl,ze rfl ?_⟩
  have T36:=(T34.below b3435).of_block (nb (T34.below b3435).lt (by omega))
  refine⟨T36.wr (n:=1) (by show 1<2;decide),Nw.gen λw37 e37=>?_⟩
  have c37:Chg (b0+1) w36 w37:=by rw[e37];exact Chg.set _ _ _ _
  have T37:Blk w37 (b0+1) 136 [.map (some b0),.slice o'.a o'.l o'.c]:=by rw[e37];exact T36.set 1 _
  have s37:=c37.size
  have S36:=(S34.below b3435).of_block (nb (S34.below b3435).lt (notO (S34.below b3435) (by decide)))
  have I36:=(I34.below b3435).of_block (nb (I34.below b3435).lt (notO (I34.below b3435) (by decide)))
  have V35:=V34.below b3435
  have V36:=V35.of_block (nb V35.lt (by omega))
  have F36:Fr w35.heap.size (λi=>i=b') w35 w36:=⟨(hbel 0 (Nat.zero_le _) (Nat.zero_le _)).os,(hbel 0 (Nat.zero_le _) (Nat.zero_le _)).tape,(hbel 0 (Nat.zero_le _) (Nat.zero_le _)).output,sz36,λi h1 h2=>hkeep i h1 h2⟩
  have M36:=(M34.below b3435).chg F36 (by omega) (by omega)
  have hs35:=hs34.below b3435
  have hs36:=hs35.of_block (nb hs35.lt (by omega))
  refine⟨o',c37.below ((b034.on b3435).trans bb36) (by omega),by omega,c37.blk S36 (by omega),c37.blk K36 (by omega),⟨T37,?_,?_,_,V36.of_block (c37.block _ (by omega)),?_⟩,M36.chg (znq c37) (by omega) (by omega),hs36.of_block (c37.block _ (by omega)),c37.blk I36 (by omega)⟩
  ·rw[hord]
   exact O36.of_block λa ha=>c37.block _ (by rw[ha']at ha;cases ha;show b'≠_;omega)
  ·intro a ha
   rw[ha']at ha
   cases ha
   exact hb'5
  ·refine allR (λa c q=>⟨q.1,?_,λhne y hy e=>?_⟩) V34'
   ·have q1:=q.2.1.below b3435
    refine⟨q1.kind,q1.size,q1.depth,q1.sg,q1.cls,q1.part,q1.times,(IsS.of_full q1.ps λhne y hy hlt=>nb hlt λe=>?_).of_block λy hy hlt=>c37.block _ (by have:=q1.fr y hy;omega),q1.fr⟩
    rcases hb' with e2 |e2
    ·exact q.2.2 hne y hy (by rw[e2,e])
    ·omega
   ·rw[ha']at e
    have e:b'=y.block:=by injection e with e;injection e
    rcases hb' with e2 |e2
    ·exact q.2.2 hne y hy (by rw[e2,e])
    ·have hpos:=List.length_pos_iff.2 hne
     have:=q.2.1.ps.lt (i:=0) hpos hy
     omega
end
end Go.Proofs
namespace Go.Proofs
open Go.Gk Go.RowKit Go.Gm
abbrev Cn:=Int×List Int
abbrev Vn:=Int×Int×List Int
abbrev CnL:=List (Int×Cn)
abbrev VnL:=List (Int×Vn)
def ofC(C:CnL)(id ty:Int):List Int×Int:=match zC C id with
 |none=>([],110)
 |some c=>if c.1≠ty then([],111) else(c.2,0)
def catC(T:TyL)(C:CnL)(pl:List PI)(k:Nat):Nat->List Int×Int
 | 0=>([],0)
 |n+1=>if (catC T C pl k n).2≠0 then catC T C pl k n else
  if (ofC C (agI pl k n) ((tA T (ix pl k).2.1).prt (n:Int)).1).2≠0 then([],(ofC C (agI pl k n) ((tA T (ix pl k).2.1).prt (n:Int)).1).2)
  else((catC T C pl k n).1++(ofC C (agI pl k n) ((tA T (ix pl k).2.1).prt (n:Int)).1).1,0)
def wdsC(T:TyL)(C:CnL)(pl:List PI)(k:Nat):Option (List Int×Int):=
 if (ix pl k).1=1\/(ix pl k).1=46 then some (if (tA T (ix pl k).2.1).size=0 then([],100) else(List.replicate (tA T (ix pl k).2.1).size 0,0))
 else if (ix pl k).1=41\/(ix pl k).1=42 then some (if (tA T (ix pl k).2.1).kind≠2 then([],100) else(if (ix pl k).1=41 then [1] else [0],0))
 else if (ix pl k).1=43 then some (if (tA T (ix pl k).2.1).kind≠3 then([],100) else([agI pl k 0],0))
 else if (ix pl k).1=44 then some (if ¬(4<=(tA T (ix pl k).2.1).kind/\(tA T (ix pl k).2.1).kind<=6) then([],100) else if (ix pl k).2.2.2.length≠(tA T (ix pl k).2.1).cnt then([],111) else catC T C pl k (ix pl k).2.2.2.length)
 else none
def varC(T:TyL)(C:CnL)(pl:List PI)(k:Nat):Vn×Int:=
 if (tA T (ix pl k).2.1).kind≠7 then((0,0,[]),100)
 else if (tA T (ix pl k).2.1).cls≠agI pl k 0\/(1<(ix pl k).2.2.2.length/\(tA T (ix pl k).2.1).cls=1) then((0,0,[]),112)
 else if (ix pl k).2.2.2.length=1 then((agI pl k 0,((tA T (ix pl k).2.1).prt 0).1,List.replicate (tA T ((tA T (ix pl k).2.1).prt 0).1).size 0),0)
 else((agI pl k 0,((tA T (ix pl k).2.1).prt 0).1,(ofC C (agI pl k 1) ((tA T (ix pl k).2.1).prt 0).1).1),(ofC C (agI pl k 1) ((tA T (ix pl k).2.1).prt 0).1).2)
def errC(T:TyL)(C:CnL)(pl:List PI)(k:Nat):Int:=if (ix pl k).1=59 then(varC T C pl k).2 else match wdsC T C pl k with
 |none=>0
 |some p=>p.2
def addC(T:TyL)(s:CnL×VnL)(pl:List PI)(k:Nat):CnL×VnL:=if (ix pl k).1=59 then(s.1,setQ s.2 (ix pl k).2.2.1 (varC T s.1 pl k).1) else match wdsC T s.1 pl k with
 |none=>s
 |some p=>(setQ s.1 (ix pl k).2.2.1 ((ix pl k).2.1,p.1),s.2)
def cnsC(T:TyL)(pl:List PI):Nat->CnL×VnL
 | 0=>([],[])
 |k+1=>if zt (ix pl k)=7 then addC T (cnsC T pl k) pl k else cnsC T pl k
def badC(T:TyL)(pl:List PI)(k:Nat):Int:=if zt (ix pl k)=7 then errC T (cnsC T pl k).1 pl k else 0
abbrev cnL(pl:List PI):CnL:=(cnsC (tyL pl) pl pl.length).1
abbrev vnL(pl:List PI):VnL:=(cnsC (tyL pl) pl pl.length).2
def conE(bd:Int)(pl:List PI):Int×Int:=if (typE bd pl).1≠0 then typE bd pl else
 match (List.range pl.length).find? λk=>badC (tyL pl) pl k !=0 with
 |some k=>(badC (tyL pl) pl k,(k:Int))
 |none=>(0,0)
theorem zoj{bd:Int}{pl:List PI}(h:(typE bd pl).1≠0):conE bd pl=typE bd pl:=if_pos h
theorem zuw{bd:Int}{pl:List PI}(h:(typE bd pl).1=0){k:Nat}(hk:k<pl.length)(he:badC (tyL pl) pl k≠0)(hj:∀j,j<k->badC (tyL pl) pl j=0):conE bd pl=(badC (tyL pl) pl k,(k:Int)):=by
 unfold conE
 rw[if_neg (λq=>q h),List.find?_range_eq_some.2 ⟨by simpa using he,List.mem_range.2 hk,λj hj'=>by simp[hj j hj']⟩]
theorem zi1{bd:Int}{pl:List PI}(h:(typE bd pl).1=0)(hj:∀j,j<pl.length->badC (tyL pl) pl j=0):conE bd pl=(0,0):=by
 unfold conE
 rw[if_neg (λq=>q h),List.find?_eq_none.2 λk hk=>by simp[hj k (List.mem_range.1 hk)]]
structure CnOk (bd:Int) (pl:List PI):Prop where
 ty:TyOk bd pl
 no:∀k,k<pl.length->badC (tyL pl) pl k=0
theorem zv1{bd:Int}{pl:List PI}(h:(conE bd pl).1=0):CnOk bd pl/\conE bd pl=(0,0):=by
 by_cases hc:(typE bd pl).1≠0
 ·rw[zoj hc]at h
  exact absurd h hc
 have hc:=Classical.not_not.1 hc
 have hno:∀k,k<pl.length->badC (tyL pl) pl k=0:=by
  unfold conE at h
  rw[if_neg (λq=>q hc)]at h
  intro k hk
  cases hf:(List.range pl.length).find? λk=>badC (tyL pl) pl k !=0 with
  |none=>
   have:=List.find?_eq_none.1 hf k (List.mem_range.2 hk)
   simpa using this
  |some j=>
   rw[hf]at h
   have:=List.find?_some hf
   have h:badC (tyL pl) pl j=0:=h
   rw[h]at this
   cases this
 exact⟨⟨(zub hc).1,hno⟩,zi1 hc hno⟩
theorem zqk:(match frm 1,frm 41,frm 42,frm 43,frm 44,frm 46 with |some a,some b,some c,some d,some e,some f=>a.2.2.2.2.2.2==7&&b.2.2.2.2.2.2==7&&c.2.2.2.2.2.2==7&&d.2.2.2.2.2.2==7&&e.2.2.2.2.2.2==7&&f.2.2.2.2.2.2==7 |_,_,_,_,_,_=>false)=true:=by decide +kernel
def isC(op:Int):Bool:=op==1||op==41||op==42||op==43||op==44||op==46
theorem Zk{op:Int}:isC op=true↔op=1\/op=41\/op=42\/op=43\/op=44\/op=46:=by
 unfold isC
 simp only[Bool.or_eq_true,beq_iff_eq,or_assoc]
section
variable {bd:Int} {pl:List PI} {k:Nat} {T:TyL} {C:CnL}
theorem zoH(h:isC (ix pl k).1=true):zt (ix pl k)=7:=by
 have h1:=zqk
 have hv:zf0 (ix pl k)=false:=by
  unfold zf0
  rw[Zk]at h
  rw[Bool.and_eq_false_iff]
  left
  rw[beq_eq_false_iff_ne]
  omega
 unfold zt
 rw[hv,if_neg (by simp)]
 generalize (ix pl k).1=op at h⊢
 unfold zbm
 rw[Zk]at h
 rcases h with rfl |rfl |rfl |rfl |rfl |rfl<;>decide +kernel
theorem zvk{p:List Int×Int}(h:wdsC T C pl k=some p):isC (ix pl k).1=true:=by
 rw[Zk]
 unfold wdsC at h
 refine Classical.byContradiction λhn=>?_
 rw[if_neg (by omega),if_neg (by omega),if_neg (by omega),if_neg (by omega)]at h
 cases h
theorem YB(T:TyL)(C:CnL)(h:isC (ix pl k).1=true):∃p,wdsC T C pl k=some p:=by
 cases ho:wdsC T C pl k with
 |some p=>exact⟨p,rfl⟩
 |none=>
  exfalso
  unfold wdsC at ho
  rw[Zk]at h
  generalize (ix pl k).1=op at h ho
  rcases h with rfl |rfl |rfl |rfl |rfl |rfl<;>simp at ho
theorem zmO{T:TyL}{C:CnL}(h:isC (ix pl k).1=false):wdsC T C pl k=none:=by
 cases ho:wdsC T C pl k with
 |none=>rfl
 |some p=>rw[zvk ho]at h;cases h
theorem zrb(hs:(zx bd pl).1=0)(hk:k<pl.length)(h:isC (ix pl k).1=true):(ix pl k).2.2.1≠0:=by
 rw[Zk]at h
 rcases h with e |e |e |e |e |e
 ·exact yI hs hk e zv6
 ·exact yI hs hk e zu9
 ·exact yI hs hk e zuA
 ·exact yI hs hk e zeU
 ·exact yI hs hk e zqZ
 ·exact yI hs hk e zuB
theorem Y2(h:isC (ix pl k).1=true){p:List Int×Int}(hp:wdsC T (cnsC T pl k).1 pl k=some p):cnsC T pl (k+1)=(setQ (cnsC T pl k).1 (ix pl k).2.2.1 ((ix pl k).2.1,p.1),(cnsC T pl k).2):=by
 show(if zt (ix pl k)=7 then addC T (cnsC T pl k) pl k else cnsC T pl k)=_
 rw[if_pos (zoH h)]
 unfold addC
 rw[if_neg (λe=>by rw[Zk]at h;omega),hp]
theorem zd4(h7:zt (ix pl k)=7)(h:(ix pl k).1=59):cnsC T pl (k+1)=((cnsC T pl k).1,setQ (cnsC T pl k).2 (ix pl k).2.2.1 (varC T (cnsC T pl k).1 pl k).1):=by
 show(if zt (ix pl k)=7 then addC T (cnsC T pl k) pl k else cnsC T pl k)=_
 rw[if_pos h7]
 unfold addC
 rw[if_pos h]
theorem zbf(h:isC (ix pl k).1=false)(h2:¬(zt (ix pl k)=7/\(ix pl k).1=59)):cnsC T pl (k+1)=cnsC T pl k:=by
 show(if zt (ix pl k)=7 then addC T (cnsC T pl k) pl k else cnsC T pl k)=_
 by_cases h7:zt (ix pl k)=7
 ·rw[if_pos h7]
  unfold addC
  rw[if_neg (λe=>h2 ⟨h7,e⟩),zmO h]
 ·rw[if_neg h7]
theorem zc1(T:TyL)(pl:List PI)(k:Nat):(isC (ix pl k).1=true)\/(isC (ix pl k).1=false/\zt (ix pl k)=7/\(ix pl k).1=59)\/(isC (ix pl k).1=false/\¬(zt (ix pl k)=7/\(ix pl k).1=59)):=by
 cases h:isC (ix pl k).1 with
 |true=>exact .inl rfl
 |false=>
  by_cases h2:zt (ix pl k)=7/\(ix pl k).1=59
  ·exact .inr (.inl ⟨rfl,h2⟩)
  ·exact .inr (.inr ⟨rfl,h2⟩)
theorem zi0:∀n,(∀id,id∈(cnsC T pl n).1.map (·.1)->∃j,j<n/\(ix pl j).2.2.1=id/\isC (ix pl j).1=true)/\(∀id,id∈(cnsC T pl n).2.map (·.1)->∃j,j<n/\(ix pl j).2.2.1=id/\zt (ix pl j)=7/\(ix pl j).1=59)
 | 0=>⟨λ_ h=>(by cases h),λ_ h=>(by cases h)⟩
 |n+1=>by
  obtain⟨h1,h2⟩:=zi0 n
  have o1:∀id,id∈(cnsC T pl n).1.map (·.1)->∃j,j<n+1/\(ix pl j).2.2.1=id/\isC (ix pl j).1=true:=λid h=>by obtain⟨j,q,r⟩:=h1 id h;exact⟨j,by omega,r⟩
  have o2:∀id,id∈(cnsC T pl n).2.map (·.1)->∃j,j<n+1/\(ix pl j).2.2.1=id/\zt (ix pl j)=7/\(ix pl j).1=59:=λid h=>by obtain⟨j,q,r⟩:=h2 id h;exact⟨j,by omega,r⟩
  rcases zc1 T pl n with h | ⟨h,h7,h59⟩ | ⟨h,hn⟩
  ·obtain⟨p,hp⟩:=YB T (cnsC T pl n).1 h
   rw[Y2 h hp]
   refine⟨λid hid=>?_,o2⟩
   dsimp only at hid
   rw[Y9]at hid
   split at hid
   ·exact o1 id hid
   ·rcases List.mem_append.1 hid with hid |hid
    ·exact o1 id hid
    ·exact⟨n,by omega,(List.mem_singleton.1 hid).symm,h⟩
  ·rw[zd4 h7 h59]
   refine⟨o1,λid hid=>?_⟩
   dsimp only at hid
   rw[Y9]at hid
   split at hid
   ·exact o2 id hid
   ·rcases List.mem_append.1 hid with hid |hid
    ·exact o2 id hid
    ·exact⟨n,by omega,(List.mem_singleton.1 hid).symm,h7,h59⟩
  ·rw[zbf h hn]
   exact⟨o1,o2⟩
theorem zl5{α:Type}:∀(L:List (Int×α)) (k:Int) (v:α),k ∉ L.map (·.1)->setQ L k v=L++[(k,v)]
 | [],_,_,_=>rfl
 |a::r,k,v,hn=>by
  rw[List.map_cons,List.mem_cons,not_or]at hn
  simp only[setQ]
  rw[if_neg hn.1,zl5 r k v hn.2]
  rfl
theorem znd(W:yP bd pl){n:Nat}(hn:n<pl.length)(h:isC (ix pl n).1=true):(ix pl n).2.2.1 ∉ (cnsC T pl n).1.map (·.1):=λhm=>by
 obtain⟨j,h1,h2,_⟩:=(zi0 n).1 _ hm
 exact W.new n hn (zrb W.shape hn h) j h1 (by omega) h2
theorem zrx(W:yP bd pl){n:Nat}(hn:n<pl.length)(h:(ix pl n).1=59):(ix pl n).2.2.1≠0:=yI W.shape hn h zkt
theorem zoi(W:yP bd pl){n:Nat}(hn:n<pl.length)(h:(ix pl n).1=59):(ix pl n).2.2.1 ∉ (cnsC T pl n).2.map (·.1):=λhm=>by
 obtain⟨j,h1,h2,_⟩:=(zi0 n).2 _ hm
 exact W.new n hn (zrx W hn h) j h1 (by omega) h2
theorem zqF(W:yP bd pl):∀n,n<=pl.length->(cnsC T pl n).1.map (·.1)=((List.range n).filter λk=>isC (ix pl k).1).map (λk=>(ix pl k).2.2.1)/\(cnsC T pl n).2.map (·.1)=((List.range n).filter λk=>decide (zt (ix pl k)=7/\(ix pl k).1=59)).map (λk=>(ix pl k).2.2.1)
 | 0,_=>⟨rfl,rfl⟩
 |n+1,hn=>by
  obtain⟨h1,h2⟩:=zqF W n (by omega)
  rw[List.range_succ,List.filter_append,List.filter_append,List.map_append,List.map_append]
  rcases zc1 T pl n with h | ⟨h,h7,h59⟩ | ⟨h,hq⟩
  ·obtain⟨p,hp⟩:=YB T (cnsC T pl n).1 h
   rw[Y2 h hp]
   dsimp only
   rw[zl5 _ _ _ (znd W (by omega) h),List.map_append,h1,h2]
   have e1:[n].filter (λk=>isC (ix pl k).1)=[n]:=by rw[List.filter_cons,if_pos h];rfl
   have e2:[n].filter (λk=>decide (zt (ix pl k)=7/\(ix pl k).1=59))=[]:=by
    rw[List.filter_cons,if_neg]
    ·rfl
    ·rw[decide_eq_true_eq]
     rintro⟨_,e⟩
     rw[Zk]at h
     omega
   rw[e1,e2]
   simp
  ·rw[zd4 h7 h59]
   dsimp only
   rw[zl5 _ _ _ (zoi W (by omega) h59),List.map_append,h1,h2]
   have e1:[n].filter (λk=>isC (ix pl k).1)=[]:=by rw[List.filter_cons,if_neg (by rw[h];simp)];rfl
   have e2:[n].filter (λk=>decide (zt (ix pl k)=7/\(ix pl k).1=59))=[n]:=by rw[List.filter_cons,if_pos (decide_eq_true ⟨h7,h59⟩)];rfl
   rw[e1,e2]
   simp
  ·rw[zbf h hq,h1,h2]
   have e1:[n].filter (λk=>isC (ix pl k).1)=[]:=by rw[List.filter_cons,if_neg (by rw[h];simp)];rfl
   have e2:[n].filter (λk=>decide (zt (ix pl k)=7/\(ix pl k).1=59))=[]:=by rw[List.filter_cons,if_neg (by rw[decide_eq_true_eq];exact hq)];rfl
   rw[e1,e2]
   simp
end
end Go.Proofs
