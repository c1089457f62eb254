/- FaceRenamed, part 10; made small by a program. -/
import Derived.Test.YtnpdnjmpmeikiaaGreatDoorProg
import Derived.Test.YtnpdnjmpmeikiaaGreatDoorPFaceRenamed9
set_option linter.unusedVariables false
namespace Go.Proofs
open Go.Gk
set_option linter.unusedVariables false
set_option maxRecDepth 100000
def Z8:Ann:=(.q (.q (.seq none (.q (.cond (.q .nil) .nil)) (.q (.q (.seq (some ⟨[5,7],[]⟩) (.q (.cond (.q .nil) .nil)) (.seq none (.q (.one (.loop ⟨[5,7],[(9,(.b (.int .i64)))]⟩ (.seq none (.q .c) (.seq (some ⟨[5,7,9],[]⟩) (.one (.q (.cond (.q .nil) .nil))) .nil))))) (.q .nil))))))))
def Z5(p0:(Int×Int×Sl×Unit))(R:VWP)(w:World):Prop:=Nw (w.alloc (.cells #[zu p0.1,zu p0.2.1,p0.2.2.1.zw] 25)) λw1=>da w1 (zB w) λx1 x2 x3=>di 9 #[.agg #[zu x1,zu x2,x3.zw]] w1 λx5 w2=>dx61 25 #[.agg #[zu x5.1,zu x5.2.1,x5.2.2.1.zw]] w2 λx7 x8 w3=>Nw (w3.alloc (.cells #[zu 0,zu 0,.slice none 0 0] 25)) λw4=>Nw (w4.alloc (.cells #[zi 0,zi 0] 29)) λw5=>de w5 (zB w3) (zu x7.1) (zu x7.2.1) (x7.2.2.1.zw) λw8=>df w8 (zB w4) (zi x8.1) (zi x8.2.1) λw10=>ldI w10 (zB w4) .i64 λx9=>ifB (x9 !=0) (da w10 (zB w3) λx10 x11 x12=>dN 26 #[.agg #[zu x10,zu x11,x12.zw]] w10 λx14 w11=>ifB x14 (dN 11 #[] w11 λx16 w12=>R (.bool x16) w12) (R (.bool false) w11)) (da w10 (zB w) λx17 x18 x19=>di 9 #[.agg #[zu x17,zu x18,x19.zw]] w10 λx21 w13=>dr 8 #[.agg #[zu x21.1,zu x21.2.1,x21.2.2.1.zw]] w13 λx23 x24 w14=>dd w14 #[zi 0,zi 0] 29 (zi x24.1) (zi x24.2.1) λw17=>da w17 (zB w3) λx25 x26 x27=>dr 8 #[.agg #[zu x25,zu x26,x27.zw]] w17 λx29 x30 w18=>dd w18 #[zi 0,zi 0] 29 (zi x30.1) (zi x30.2.1) λw21=>zo (S:=Unit) (λm31=>db w21 (zB w14) λx33 x34=>db w21 (zB w18) λx35 x36=>ifB (!(x33==x35&&(x34==x36&&true))) (R (.bool false) w21) (ifB ((x23.l:Int) !=(x29.l:Int)) (R (.bool false) w21) (m31 () w21))) (λs32 w22=>zm (S:=Int×Unit) (λs37 w23 n38=>ifB (decide (s37.1<(x23.l:Int))) (zo (S:=Unit) (λm39=>(0<=s37.1/\s37.1<(x23.l:Int))/\zc x23.a λa41=>zy w23.drew (a41.add (s37.1.toNat *5)) λx42=>(0<=s37.1/\s37.1<(x29.l:Int))/\zc x29.a λa43=>zy w23.drew (a43.add (s37.1.toNat *5)) λx44=>ifB (!(x42.toList==x44.toList)) (R (.bool false) w23.drew) ((0<=s37.1/\s37.1<(x23.l:Int))/\zc x23.a λa45=>ldI w23.drew ((a45.add (s37.1.toNat *5)).add 1) .u32 λx46=>(0<=s37.1/\s37.1<(x29.l:Int))/\zc x29.a λa47=>ldI w23.drew ((a47.add (s37.1.toNat *5)).add 1) .u32 λx48=>ifB (x46 !=x48) (R (.bool false) w23.drew) ((0<=s37.1/\s37.1<(x23.l:Int))/\zc x23.a λa49=>ldS w23.drew ((a49.add (s37.1.toNat *5)).add 3) λx50=>(0<=s37.1/\s37.1<(x29.l:Int))/\zc x29.a λa51=>ldS w23.drew ((a51.add (s37.1.toNat *5)).add 3) λx52=>dN 27 #[x50.zw,x52.zw] w23.drew λx54 w24=>ifB (!x54) (R (.bool false) w24) ((0<=s37.1/\s37.1<(x23.l:Int))/\zc x23.a λa55=>ldS w24 ((a55.add (s37.1.toNat *5)).add 4) λx56=>(0<=s37.1/\s37.1<(x29.l:Int))/\zc x29.a λa57=>ldS w24 ((a57.add (s37.1.toNat *5)).add 4) λx58=>dN 27 #[x56.zw,x58.zw] w24 λx60 w25=>ifB (!x60) (R (.bool false) w25) (m39 () w25))))) (λs40 w26=>n38 ((IntKind.i64.wrap (s37.1+(1:Int))),()) w26)) (dN 11 #[] w23 λx62 w27=>R (.bool x62) w27)) (0,()) w22))
theorem YZ(p0)(R)(w)(h:Z5 p0 R w):Calls Tryz.prog 6 #[.agg #[.int .u32 p0.1,.int .u32 p0.2.1,.slice p0.2.2.1.a p0.2.2.1.l p0.2.2.1.c]] w (Ret R):=lwC Z8 Tryz.func6 (by kernel_rfl) (by kernel_rfl) h
def zat:Ann:=(.q (.q (.q (.q .nil))))
def zaj  (R:VWP) (w:World):Prop:=di 39 #[zu 0] w λx2 w1=>dx62 38 #[.agg #[zu x2.1,zu x2.2.1,x2.2.2.1.zw],.string (BM #[109,97,105,110]),zu 4] w1 λx4 x5 w2=>Nw (w2.alloc (.cells #[.string (BM #[]),zu 0,zu 0,.slice none 0 0,.slice none 0 0] 47)) λw3=>dP w3 (zB w2) (.string x4.1) (zu x4.2.1) (zu x4.2.2.1) (x4.2.2.2.1.zw) (x4.2.2.2.2.1.zw) λw8=>di 39 #[zu 0] w8 λx7 w9=>dx62 38 #[.agg #[zu x7.1,zu x7.2.1,x7.2.2.1.zw],.string (BM #[109,97,105,110]),zu 0] w9 λx9 x10 w10=>Nw (w10.alloc (.cells #[.string (BM #[]),zu 0,zu 0,.slice none 0 0,.slice none 0 0] 47)) λw11=>dP w11 (zB w10) (.string x9.1) (zu x9.2.1) (zu x9.2.2.1) (x9.2.2.2.1.zw) (x9.2.2.2.2.1.zw) λw16=>ifB (x5==0) (ifB (x10==5) (ldI w16 ((zB w2).add 2) .u32 λx11=>ifB (x11==6) (ldS w16 ((zB w2).add 3) λx12=>ifB ((x12.l:Int)==0) (ldS w16 ((zB w2).add 4) λx13=>ifB ((x13.l:Int)==1) (ldS w16 ((zB w2).add 4) λx14=>(0<=(0:Int)/\0<(x14.l:Int))/\zc x14.a λa15=>dZ w16 (a15.add (0*6)) λx16 x17 x18 x19 x20 x21=>ifB (x16==5&&(x17==0&&(x18==(-1:Int)&&(x19==2&&(x20==1&&(x21==true&&true)))))) (di 39 #[zu 1] w16 λx23 w17=>dh 13 #[.agg #[zu x23.1,zu x23.2.1,x23.2.2.1.zw]] w17 λx25 w18=>R (.bool (x25.1==201&&(x25.2.1==1&&true))) w18) (R (.bool false) w16)) (R (.bool false) w16)) (R (.bool false) w16)) (R (.bool false) w16)) (R (.bool false) w16)) (R (.bool false) w16)
theorem zcZ(R)(w)(h:zaj  R w):Calls Tryz.prog 11 #[] w (Ret R):=lwC zat Tryz.func11 (by kernel_rfl) (by kernel_rfl) h
def zas:Ann:=(.q (.seq none (.q (.cond (.q .nil) .nil)) (.seq none (.q (.one (.loop ⟨[0,1],[(5,(.b (.int .i64)))]⟩ (.seq none (.q .c) (.seq (some ⟨[0,1,5],[]⟩) (.one (.q (.cond (.q .nil) .nil))) .nil))))) (.q .nil))))
def zai(p0:Sl)(p1:Sl)(R:VWP)(w:World):Prop:=ifB ((p0.l:Int) !=(p1.l:Int)) (R (.bool false) w) (zm (S:=Int×Unit) (λs1 w1 n2=>ifB (decide (s1.1<(p0.l:Int))) (zo (S:=Unit) (λm3=>(0<=s1.1/\s1.1<(p0.l:Int))/\zc p0.a λa5=>ldI w1.drew ((a5.add (s1.1.toNat *6)).add 1) .i64 λx6=>(0<=s1.1/\s1.1<(p1.l:Int))/\zc p1.a λa7=>ldI w1.drew ((a7.add (s1.1.toNat *6)).add 1) .i64 λx8=>ifB (x6 !=x8) (R (.bool false) w1.drew) ((0<=s1.1/\s1.1<(p0.l:Int))/\zc p0.a λa9=>ldI w1.drew ((a9.add (s1.1.toNat *6)).add 2) .i64 λx10=>(0<=s1.1/\s1.1<(p1.l:Int))/\zc p1.a λa11=>ldI w1.drew ((a11.add (s1.1.toNat *6)).add 2) .i64 λx12=>ifB (x10 !=x12) (R (.bool false) w1.drew) ((0<=s1.1/\s1.1<(p0.l:Int))/\zc p0.a λa13=>ldI w1.drew ((a13.add (s1.1.toNat *6)).add 4) .i64 λx14=>(0<=s1.1/\s1.1<(p1.l:Int))/\zc p1.a λa15=>ldI w1.drew ((a15.add (s1.1.toNat *6)).add 4) .i64 λx16=>ifB (x14 !=x16) (R (.bool false) w1.drew) ((0<=s1.1/\s1.1<(p0.l:Int))/\zc p0.a λa17=>ldB w1.drew ((a17.add (s1.1.toNat *6)).add 5) λx18=>(0<=s1.1/\s1.1<(p1.l:Int))/\zc p1.a λa19=>ldB w1.drew ((a19.add (s1.1.toNat *6)).add 5) λx20=>ifB (!(x18==x20)) (R (.bool false) w1.drew) (m3 () w1.drew))))) (λs4 w2=>n2 ((IntKind.i64.wrap (s1.1+(1:Int))),()) w2)) (R (.bool true) w1)) (0,()) w)
theorem zcY(p0)(p1)(R)(w)(h:zai p0 p1 R w):Calls Tryz.prog 27 #[.slice p0.a p0.l p0.c,.slice p1.a p1.l p1.c] w (Ret R):=lwC zas Tryz.func27 (by kernel_rfl) (by kernel_rfl) h
def zau:Ann:=(.q (.q (.q (.q (.q (.q (.q (.q (.q (.q (.q (.q (.q (.q (.q (.q (.q (.q (.q (.q .nil))))))))))))))))))))
def zak(p0:Int)(R:VWP)(w:World):Prop:=Nw (w.alloc (.cells #[zu 0,zu 0,.slice none 0 0] 25)) λw1=>dW w1 #[zu 0,zu 0,.slice none 0 0] 25 (zu 0) (zu 20) (.slice none 0 0) λw5=>ldS w5.drew ((zB w1).add 2) λx1=>dx63 68 #[zu 0] w5.drew λx3 w6=>w6.cell? ((zB w1).add 2)=some (x1.zw)/\dx63 68 #[zu 0] w6 λx5 w7=>w7.cell? ((zB w1).add 2)=some (x1.zw)/\dm 67 #[.agg #[zb x3.1,zu x3.2.1,.string x3.2.2.1],.agg #[zb x5.1,zu x5.2.1,.string x5.2.2.1]] w7 λx7 w8=>w8.cell? ((zB w1).add 2)=some (x1.zw)/\Nw (w8.alloc (.cells #[zh 14,zu 0,zu 0,x7.zw] 44)) λw9=>w9.cell? ((zB w1).add 2)=some (x1.zw)/\zz Tryz.prog 23 (x1.zw) (.slice (some (zB w8)) 1 1) w9 λr8 w10=>Wr w10 ((zB w1).add 2)/\Nw (w10.setCell ((zB w1).add 2) (r8.zw)) λw11=>dx63 68 #[zu 4] w11 λx10 w12=>dx63 69 #[zu 6] w12 λx12 w13=>dm 67 #[.agg #[zb x10.1,zu x10.2.1,.string x10.2.2.1],.agg #[zb x12.1,zu x12.2.1,.string x12.2.2.1]] w13 λx14 w14=>dg w14 #[zh 0,zu 0,zu 0,.slice none 0 0] 44 (zh 15) (zu 0) (zu 0) (x14.zw) λw19=>ldS w19.drew ((zB w14).add 3) λx15=>dx63 70 #[.string (BM #[109,97,105,110])] w19.drew λx17 w20=>w20.cell? ((zB w14).add 3)=some (x15.zw)/\dx63 69 #[zu 5] w20 λx19 w21=>w21.cell? ((zB w14).add 3)=some (x15.zw)/\Nw (w21.alloc (.cells #[zb x17.1,zu x17.2.1,.string x17.2.2.1,zb x19.1,zu x19.2.1,.string x19.2.2.1] 123)) λw22=>w22.cell? ((zB w14).add 3)=some (x15.zw)/\zz Tryz.prog 42 (x15.zw) (.slice (some (zB w21)) 2 2) w22 λr20 w23=>Wr w23 ((zB w14).add 3)/\Nw (w23.setCell ((zB w14).add 3) (r20.zw)) λw24=>ldS w24 ((zB w1).add 2) λx21=>dc w24 (zB w14) λx22 x23 x24 x25=>Nw (w24.alloc (.cells #[zh x22,zu x23,zu x24,x25.zw] 44)) λw25=>zz Tryz.prog 23 (x21.zw) (.slice (some (zB w24)) 1 1) w25 λr26 w26=>Wr w26 ((zB w1).add 2)/\Nw (w26.setCell ((zB w1).add 2) (r26.zw)) λw27=>ldS w27.drew ((zB w1).add 2) λx27=>dx63 69 #[zu 6] w27.drew λx29 w28=>w28.cell? ((zB w1).add 2)=some (x27.zw)/\dx63 68 #[zu 7] w28 λx31 w29=>w29.cell? ((zB w1).add 2)=some (x27.zw)/\dm 67 #[.agg #[zb x29.1,zu x29.2.1,.string x29.2.2.1],.agg #[zb x31.1,zu x31.2.1,.string x31.2.2.1]] w29 λx33 w30=>w30.cell? ((zB w1).add 2)=some (x27.zw)/\Nw (w30.alloc (.cells #[zh 16,zu 0,zu 0,x33.zw] 44)) λw31=>w31.cell? ((zB w1).add 2)=some (x27.zw)/\zz Tryz.prog 23 (x27.zw) (.slice (some (zB w30)) 1 1) w31 λr34 w32=>Wr w32 ((zB w1).add 2)/\Nw (w32.setCell ((zB w1).add 2) (r34.zw)) λw33=>dx63 69 #[zu 5] w33 λx36 w34=>dx63 68 #[zu 30] w34 λx38 w35=>dm 67 #[.agg #[zb x36.1,zu x36.2.1,.string x36.2.2.1],.agg #[zb x38.1,zu x38.2.1,.string x38.2.2.1]] w35 λx40 w36=>dg w36 #[zh 0,zu 0,zu 0,.slice none 0 0] 44 (zh 71) (zu 0) (zu 0) (x40.zw) λw41=>ldS w41.drew ((zB w36).add 3) λx41=>dx63 71 #[zu p0] w41.drew λx43 w42=>w42.cell? ((zB w36).add 3)=some (x41.zw)/\Nw (w42.alloc (.cells #[zb x43.1,zu x43.2.1,.string x43.2.2.1] 123)) λw43=>w43.cell? ((zB w36).add 3)=some (x41.zw)/\zz Tryz.prog 42 (x41.zw) (.slice (some (zB w42)) 1 1) w43 λr44 w44=>Wr w44 ((zB w36).add 3)/\Nw (w44.setCell ((zB w36).add 3) (r44.zw)) λw45=>ldS w45 ((zB w1).add 2) λx45=>dc w45 (zB w36) λx46 x47 x48 x49=>Nw (w45.alloc (.cells #[zh x46,zu x47,zu x48,x49.zw] 44)) λw46=>zz Tryz.prog 23 (x45.zw) (.slice (some (zB w45)) 1 1) w46 λr50 w47=>Wr w47 ((zB w1).add 2)/\Nw (w47.setCell ((zB w1).add 2) (r50.zw)) λw48=>ldS w48 ((zB w1).add 2) λx51=>Nw (w48.alloc (.cells #[zh 19,zu 0,zu 1,.slice none 0 0] 44)) λw49=>zz Tryz.prog 23 (x51.zw) (.slice (some (zB w48)) 1 1) w49 λr52 w50=>Wr w50 ((zB w1).add 2)/\Nw (w50.setCell ((zB w1).add 2) (r52.zw)) λw51=>ldS w51.drew ((zB w1).add 2) λx53=>dx63 71 #[zu 32] w51.drew λx55 w52=>w52.cell? ((zB w1).add 2)=some (x53.zw)/\dx63 71 #[zu 1] w52 λx57 w53=>w53.cell? ((zB w1).add 2)=some (x53.zw)/\dm 67 #[.agg #[zb x55.1,zu x55.2.1,.string x55.2.2.1],.agg #[zb x57.1,zu x57.2.1,.string x57.2.2.1]] w53 λx59 w54=>w54.cell? ((zB w1).add 2)=some (x53.zw)/\Nw (w54.alloc (.cells #[zh 21,zu 0,zu 2,x59.zw] 44)) λw55=>w55.cell? ((zB w1).add 2)=some (x53.zw)/\zz Tryz.prog 23 (x53.zw) (.slice (some (zB w54)) 1 1) w55 λr60 w56=>Wr w56 ((zB w1).add 2)/\Nw (w56.setCell ((zB w1).add 2) (r60.zw)) λw57=>ldS w57.drew ((zB w1).add 2) λx61=>dx63 69 #[zu 1] w57.drew λx63 w58=>w58.cell? ((zB w1).add 2)=some (x61.zw)/\dx63 69 #[zu 1] w58 λx65 w59=>w59.cell? ((zB w1).add 2)=some (x61.zw)/\dm 67 #[.agg #[zb x63.1,zu x63.2.1,.string x63.2.2.1],.agg #[zb x65.1,zu x65.2.1,.string x65.2.2.1]] w59 λx67 w60=>w60.cell? ((zB w1).add 2)=some (x61.zw)/\(0<=(0:Int)/\(0:Int)<=1/\1<=(x67.c:Int))/\Nw (w60.alloc (.cells #[zh 33,zu 0,zu 3,.slice (if x67.c=0 then x67.a else Option.map (λa=>a.add (0*3)) x67.a) (1-0) (x67.c-0)] 44)) λw61=>w61.cell? ((zB w1).add 2)=some (x61.zw)/\zz Tryz.prog 23 (x61.zw) (.slice (some (zB w60)) 1 1) w61 λr68 w62=>Wr w62 ((zB w1).add 2)/\Nw (w62.setCell ((zB w1).add 2) (r68.zw)) λw63=>ldS w63.drew ((zB w1).add 2) λx69=>dx63 68 #[zu 3] w63.drew λx71 w64=>w64.cell? ((zB w1).add 2)=some (x69.zw)/\dx63 69 #[zu 2] w64 λx73 w65=>w65.cell? ((zB w1).add 2)=some (x69.zw)/\dm 67 #[.agg #[zb x71.1,zu x71.2.1,.string x71.2.2.1],.agg #[zb x73.1,zu x73.2.1,.string x73.2.2.1]] w65 λx75 w66=>w66.cell? ((zB w1).add 2)=some (x69.zw)/\Nw (w66.alloc (.cells #[zh 32,zu 0,zu 4,x75.zw] 44)) λw67=>w67.cell? ((zB w1).add 2)=some (x69.zw)/\zz Tryz.prog 23 (x69.zw) (.slice (some (zB w66)) 1 1) w67 λr76 w68=>Wr w68 ((zB w1).add 2)/\Nw (w68.setCell ((zB w1).add 2) (r76.zw)) λw69=>ldS w69.drew ((zB w1).add 2) λx77=>dx63 68 #[zu 3] w69.drew λx79 w70=>w70.cell? ((zB w1).add 2)=some (x77.zw)/\dx63 68 #[zu 3] w70 λx81 w71=>w71.cell? ((zB w1).add 2)=some (x77.zw)/\dm 67 #[.agg #[zb x79.1,zu x79.2.1,.string x79.2.2.1],.agg #[zb x81.1,zu x81.2.1,.string x81.2.2.1]] w71 λx83 w72=>w72.cell? ((zB w1).add 2)=some (x77.zw)/\(0<=(0:Int)/\(0:Int)<=1/\1<=(x83.c:Int))/\Nw (w72.alloc (.cells #[zh 59,zu 4,zu 5,.slice (if x83.c=0 then x83.a else Option.map (λa=>a.add (0*3)) x83.a) (1-0) (x83.c-0)] 44)) λw73=>w73.cell? ((zB w1).add 2)=some (x77.zw)/\zz Tryz.prog 23 (x77.zw) (.slice (some (zB w72)) 1 1) w73 λr84 w74=>Wr w74 ((zB w1).add 2)/\Nw (w74.setCell ((zB w1).add 2) (r84.zw)) λw75=>ldS w75.drew ((zB w1).add 2) λx85=>dx63 68 #[zu 0] w75.drew λx87 w76=>w76.cell? ((zB w1).add 2)=some (x85.zw)/\dx63 69 #[zu 3] w76 λx89 w77=>w77.cell? ((zB w1).add 2)=some (x85.zw)/\dm 67 #[.agg #[zb x87.1,zu x87.2.1,.string x87.2.2.1],.agg #[zb x89.1,zu x89.2.1,.string x89.2.2.1]] w77 λx91 w78=>w78.cell? ((zB w1).add 2)=some (x85.zw)/\Nw (w78.alloc (.cells #[zh 54,zu 1,zu 6,x91.zw] 44)) λw79=>w79.cell? ((zB w1).add 2)=some (x85.zw)/\zz Tryz.prog 23 (x85.zw) (.slice (some (zB w78)) 1 1) w79 λr92 w80=>Wr w80 ((zB w1).add 2)/\Nw (w80.setCell ((zB w1).add 2) (r92.zw)) λw81=>ldS w81 ((zB w1).add 2) λx93=>Nw (w81.alloc (.cells #[zh 248,zu 0,zu 7,.slice none 0 0] 44)) λw82=>zz Tryz.prog 23 (x93.zw) (.slice (some (zB w81)) 1 1) w82 λr94 w83=>Wr w83 ((zB w1).add 2)/\Nw (w83.setCell ((zB w1).add 2) (r94.zw)) λw84=>ldS w84 ((zB w1).add 2) λx95=>Nw (w84.alloc (.cells #[zh 253,zu 0,zu 0,.slice none 0 0] 44)) λw85=>zz Tryz.prog 23 (x95.zw) (.slice (some (zB w84)) 1 1) w85 λr96 w86=>Wr w86 ((zB w1).add 2)/\Nw (w86.setCell ((zB w1).add 2) (r96.zw)) λw87=>ldS w87 ((zB w1).add 2) λx97=>Nw (w87.alloc (.cells #[zh 56,zu 0,zu 0,.slice none 0 0] 44)) λw88=>zz Tryz.prog 23 (x97.zw) (.slice (some (zB w87)) 1 1) w88 λr98 w89=>Wr w89 ((zB w1).add 2)/\Nw (w89.setCell ((zB w1).add 2) (r98.zw)) λw90=>da w90 (zB w1) λx99 x100 x101=>de w90 (zB w) (zu x99) (zu x100) (x101.zw) λw93=>da w93 (zB w) λx102 x103 x104=>R (.agg #[zu x102,zu x103,x104.zw]) w93
theorem zda(p0)(R)(w)(h:zak p0 R w):Calls Tryz.prog 39 #[.int .u32 p0] w (Ret R):=lwC zau Tryz.func39 (by kernel_rfl) (by kernel_rfl) h
def zaW:Ann:=(.q (.q (.q (.q (.q .nil)))))
def zaJ(p0:(Int×Int×ByteArray×Unit))(p1:(Int×Int×ByteArray×Unit))(R:VWP)(w:World):Prop:=Nw (w.alloc (.cells #[zb p0.1,zu p0.2.1,.string p0.2.2.1] 123)) λw1=>Nw (w1.alloc (.cells #[zb p1.1,zu p1.2.1,.string p1.2.2.1] 123)) λw2=>(0<=(2:Int)/\(2:Int)<=2/\(24:Int)*(2:Int)<=281474976710656/\(2:Int)<=9223372036854775807)/\Nw (w2.alloc (.cells (madeCells #[zb 0,zu 0,.string (BM #[])] (2*3)) 123)) λw3=>dn w3 (zB w) λx1 x2 x3=>(0<=(0:Int)/\(0:Int)<2)/\Wr w3 ((zB w2).add (0*3))/\Nw (w3.setCell ((zB w2).add (0*3)) (zb x1)) λw4=>Wr w4 (((zB w2).add (0*3)).add 1)/\Nw (w4.setCell (((zB w2).add (0*3)).add 1) (zu x2)) λw5=>Wr w5 (((zB w2).add (0*3)).add 2)/\Nw (w5.setCell (((zB w2).add (0*3)).add 2) (.string x3)) λw6=>dn w6 (zB w1) λx4 x5 x6=>(0<=(1:Int)/\(1:Int)<2)/\Wr w6 ((zB w2).add (1*3))/\Nw (w6.setCell ((zB w2).add (1*3)) (zb x4)) λw7=>Wr w7 (((zB w2).add (1*3)).add 1)/\Nw (w7.setCell (((zB w2).add (1*3)).add 1) (zu x5)) λw8=>Wr w8 (((zB w2).add (1*3)).add 2)/\Nw (w8.setCell (((zB w2).add (1*3)).add 2) (.string x6)) λw9=>R (.slice (some (zB w2)) 2 2) w9
theorem zdE(p0)(p1)(R)(w)(h:zaJ p0 p1 R w):Calls Tryz.prog 67 #[.agg #[.int .u8 p0.1,.int .u32 p0.2.1,.string p0.2.2.1],.agg #[.int .u8 p1.1,.int .u32 p1.2.1,.string p1.2.2.1]] w (Ret R):=lwC zaW Tryz.func67 (by kernel_rfl) (by kernel_rfl) h
end Go.Proofs
namespace Go.Proofs
open Go.Gk Go.RowKit Go.Gm
abbrev agA(a:Ag):Value:=.agg #[.int .u8 a.1,.int .u32 a.2.1,.string a.2.2]
def Arg1(f:Nat)(n:Int)(a:Ag):Prop:=∀(w:World) (R:VWP),(∀w',Below w.heap.size w w'->R (agA a) w')->cR f #[.int .u32 n] w R
theorem zix(n:Int):Arg1 68 n (4,n,bs []):=λw R hR=>by
 refine za.of (zeJ n R w ?_) λ_ _ h=>h
 refine box3 rfl λw4 h4 b4 z4=>?_
 exact h4.rI (n:=0) (x:=4) rfl (h4.rI (n:=1) (x:=n) rfl (h4.rT (n:=2) (x:=bs []) rfl (hR w4 b4)))
theorem fId(n:Int):Arg1 69 n (1,n,bs []):=λw R hR=>by
 refine za.of (zgb n R w ?_) λ_ _ h=>h
 refine box3 rfl λw4 h4 b4 z4=>?_
 exact h4.rI (n:=0) (x:=1) rfl (h4.rI (n:=1) (x:=n) rfl (h4.rT (n:=2) (x:=bs []) rfl (hR w4 b4)))
theorem fNum(n:Int):Arg1 71 n (2,n,bs []):=λw R hR=>by
 refine za.of (zdD n R w ?_) λ_ _ h=>h
 refine box3 rfl λw4 h4 b4 z4=>?_
 exact h4.rI (n:=0) (x:=2) rfl (h4.rI (n:=1) (x:=n) rfl (h4.rT (n:=2) (x:=bs []) rfl (hR w4 b4)))
section
variable {w:World} {R:VWP}
theorem zvS{s:ByteArray}(hR:∀w',Below w.heap.size w w'->R (agA (3,0,s)) w'):cR 70 #[.string s] w R:=by
 refine za.of (zeL s R w ?_) λ_ _ h=>h
 refine box3 rfl λw4 h4 b4 z4=>?_
 exact h4.rI (n:=0) (x:=3) rfl (h4.rI (n:=1) (x:=0) rfl (h4.rT (n:=2) (x:=s) rfl (hR w4 b4)))
theorem zq7{a b:Ag}(hR:∀w' c,w.heap.size<=c->Blk w' c 123 (flat agV [a,b])->Below w.heap.size w w'->R (.slice (some (blk c)) 2 2) w'):cR 67 #[agA a,agA b] w R:=by
 refine za.of (zdE (a.1,a.2.1,a.2.2,()) (b.1,b.2.1,b.2.2,()) R w ?_) λ_ _ h=>h
 refine zk λw1 hA1 b1 z1=>zk λw2 hB2 b2 z2=>?_
 have hA1:Blk w1 w.heap.size 123 (agV a):=hA1
 have hB2:Blk w2 w1.heap.size 123 (agV b):=hB2
 refine⟨by decide,zk λw3 hC3 b3 z3=>?_⟩
 have hC3:Blk w3 w2.heap.size 123 [.int .u8 0,.int .u32 0,.string ⟨#[]⟩,.int .u8 0,.int .u32 0,.string ⟨#[]⟩]:=by
  have e:(madeCells #[(.int .u8 (0:Int)),(.int .u32 (0:Int)),(.string (BM #[]))] (2*3)).toList=[.int .u8 0,.int .u32 0,.string ⟨#[]⟩,.int .u8 0,.int .u32 0,.string ⟨#[]⟩]:=by kernel_rfl
  rw[e]at hC3
  exact hC3
 have hA3:=(hA1.below b2).below b3
 have hB3:=hB2.below b3
 have s1:=b1.size
 refine hA3.rI (n:=0) (x:=a.1) rfl (hA3.rI (n:=1) (x:=a.2.1) rfl (hA3.rT (n:=2) (x:=a.2.2) rfl ⟨by decide,?_⟩))
 have step:∀{w':World} {cs:List Value} {i:Nat} {x y z:Value} {K:World->Prop},Blk w' w2.heap.size 123 cs->i+2<cs.length->
   (∀w'',Blk w'' w2.heap.size 123 (((cs.set i x).set (i+1) y).set (i+2) z)->Chg w2.heap.size w' w''->K w'')->
   Wr w' ((blk w2.heap.size).add i)/\Nw (w'.setCell ((blk w2.heap.size).add i) x) λu1=>Wr u1 (((blk w2.heap.size).add i).add 1)/\Nw (u1.setCell (((blk w2.heap.size).add i).add 1) y) λu2=>Wr u2 (((blk w2.heap.size).add i).add 2)/\Nw (u2.setCell (((blk w2.heap.size).add i).add 2) z) K:=λ{w' cs i x y z K} hB hi hK=>by
  rw[zn,zn]
  refine⟨hB.wr (by omega),Nw.mk ?_⟩
  have h1:=hB.set i x
  refine⟨h1.wr (by rw[List.length_set];omega),Nw.mk ?_⟩
  have h2:=h1.set (i+1) y
  refine⟨h2.wr (by rw[List.length_set,List.length_set];omega),Nw.mk ?_⟩
  exact hK _ (h2.set (i+2) z) (((Chg.set _ _ _ _).trans (Chg.set _ _ _ _)).trans (Chg.set _ _ _ _))
 refine step hC3 (by show 0*3+2<6;decide) λw6 hC6 c6=>?_
 have hB6:=c6.blk hB3 (by omega)
 refine hB6.rI (n:=0) (x:=b.1) rfl (hB6.rI (n:=1) (x:=b.2.1) rfl (hB6.rT (n:=2) (x:=b.2.2) rfl ⟨by decide,?_⟩))
 refine step hC6 (by show 1*3+2<6;decide) λw9 hC9 c9=>?_
 have b12:=b1.on b2
 exact hR w9 w2.heap.size (by omega) hC9 (c9.below (c6.below (b12.on b3) (by omega)) (by omega))
end
structure Sm (w0 w:World) (mb:Nat) (s:Sl) (pl:List PI):Prop where
 below:Below w0.heap.size w0 w
 box:Blk w mb 25 (moV (0,20,s,()))
 lo:w0.heap.size<=mb
 own:yE w w0.heap.size s pl
section
variable {w0 w w':World} {mb:Nat} {s t:Sl} {pl:List PI} {p:PI}
theorem Sm.on(h:Sm w0 w mb s pl)(hb:Below w.heap.size w w'):Sm w0 w' mb s pl:=⟨h.below.on hb,h.box.below hb,h.lo,h.own.below hb⟩
theorem Sm.push(h:Sm w0 w mb s pl)(ht:Own w 123 3 t (flat agV p.2.2.2))(hF:zM w0.heap.size t){b:Nat}(hB:Blk w b 44 (inV (mkIn p t)))(hl:pl.length<=100){K:World->Prop}
  (hK:∀r w',Sm w0 w' mb r (pl++[p])->K w'):zz Tryz.prog 23 (.slice s.a s.l s.c) (.slice (some (blk b)) 1 1) w λr w1=>Wr w1 ((blk mb).add 2)/\Nw (w1.setCell ((blk mb).add 2) (.slice r.a r.l r.c)) K:=by
 refine h.own.push h.below ht hF hB (by omega) λr w1 hO hb hs hk=>?_
 have hM:=h.box.of_block (hk mb _ _ h.box (by decide))
 refine⟨hM.wr (n:=2) (by show 2<3;decide),Nw.mk (hK r _ ⟨?_,hM.set 2 _,h.lo,?_⟩)⟩
 ·exact(Chg.set mb 2 w1 _).below hb h.lo
 ·exact hO.chgT hM (by decide) (by decide) (Chg.set mb 2 w1 _)
theorem Sm.two{f1 f2:Nat}{n1 n2:Int}{a1 a2:Ag}(h1:Arg1 f1 n1 a1)(h2:Arg1 f2 n2 a2)(h:Sm w0 w mb s pl)(hl:pl.length<=100){op ty re:Int}{K:World->Prop}(hK:∀r w',Sm w0 w' mb r (pl++[(op,ty,re,[a1,a2])])->K w') :
  ldS w.drew ((blk mb).add 2) λx1=>cR f1 #[.int .u32 n1] w.drew λv2 w6=>∃x3:(Int×Int×ByteArray×Unit),v2=(.agg #[(.int .u8 x3.1),(.int .u32 x3.2.1),(.string x3.2.2.1)])/\w6.cell? ((blk mb).add 2)=some (.slice x1.a x1.l x1.c)/\
   cR f2 #[.int .u32 n2] w6 λv4 w7=>∃x5:(Int×Int×ByteArray×Unit),v4=(.agg #[(.int .u8 x5.1),(.int .u32 x5.2.1),(.string x5.2.2.1)])/\w7.cell? ((blk mb).add 2)=some (.slice x1.a x1.l x1.c)/\
   cR 67 #[(.agg #[(.int .u8 x3.1),(.int .u32 x3.2.1),(.string x3.2.2.1)]),(.agg #[(.int .u8 x5.1),(.int .u32 x5.2.1),(.string x5.2.2.1)])] w7 λv6 w8=>∃x7:Sl,v6=(.slice x7.a x7.l x7.c)/\w8.cell? ((blk mb).add 2)=some (.slice x1.a x1.l x1.c)/\
   Nw (w8.alloc (.cells #[(.int .u16 op),(.int .u32 ty),(.int .u32 re),(.slice x7.a x7.l x7.c)] 44)) λw9=>w9.cell? ((blk mb).add 2)=some (.slice x1.a x1.l x1.c)/\
   zz Tryz.prog 23 (.slice x1.a x1.l x1.c) (.slice (some (blk w8.heap.size)) 1 1) w9 λr8 w10=>Wr w10 ((blk mb).add 2)/\Nw (w10.setCell ((blk mb).add 2) (.slice r8.a r8.l r8.c)) K:=by
 have bd:Below w.heap.size w w.drew:=(Below.refl _ _).drew
 have hM:=h.box.drew
 refine hM.rS (n:=2) (x:=s) rfl (h1 _ _ λw6 b6=>⟨(a1.1,a1.2.1,a1.2.2,()),rfl,(hM.below b6).cell (n:=2) rfl,h2 _ _ λw7 b7=>⟨(a2.1,a2.2.1,a2.2.2,()),rfl,((hM.below b6).below b7).cell (n:=2) rfl,?_⟩⟩)
 refine zq7 (a:=a1) (b:=a2) λw8 c hc hC b8=>⟨⟨some (blk c),2,2⟩,rfl,(((hM.below b6).below b7).below b8).cell (n:=2) rfl,zk λw9 hI b9 z9=>⟨((((hM.below b6).below b7).below b8).below b9).cell (n:=2) rfl,?_⟩⟩
 have b09:=(((bd.on b6).on b7).on b8).on b9
 have s6:=b6.size
 have s7:=b7.size
 have hs:=h.below.size
 have hd:w.drew.heap.size=w.heap.size:=rfl
 refine(h.on b09).push (p:=(op,ty,re,[a1,a2])) (t:=⟨some (blk c),2,2⟩) ⟨rfl,.inr ⟨c,_,rfl,hC.below b9,Nat.le_refl _,(by show 2<=9223372036854775807;decide),rfl,rfl⟩⟩ (λa ha=>?_) hI hl hK
 cases ha
 show w0.heap.size<=c
 omega
theorem Sm.one{f1 f2:Nat}{n1 n2:Int}{a1 a2:Ag}(h1:Arg1 f1 n1 a1)(h2:Arg1 f2 n2 a2)(h:Sm w0 w mb s pl)(hl:pl.length<=100){op ty re:Int}{K:World->Prop}(hK:∀r w',Sm w0 w' mb r (pl++[(op,ty,re,[a1])])->K w') :
  ldS w.drew ((blk mb).add 2) λx1=>cR f1 #[.int .u32 n1] w.drew λv2 w6=>∃x3:(Int×Int×ByteArray×Unit),v2=(.agg #[(.int .u8 x3.1),(.int .u32 x3.2.1),(.string x3.2.2.1)])/\w6.cell? ((blk mb).add 2)=some (.slice x1.a x1.l x1.c)/\
   cR f2 #[.int .u32 n2] w6 λv4 w7=>∃x5:(Int×Int×ByteArray×Unit),v4=(.agg #[(.int .u8 x5.1),(.int .u32 x5.2.1),(.string x5.2.2.1)])/\w7.cell? ((blk mb).add 2)=some (.slice x1.a x1.l x1.c)/\
   cR 67 #[(.agg #[(.int .u8 x3.1),(.int .u32 x3.2.1),(.string x3.2.2.1)]),(.agg #[(.int .u8 x5.1),(.int .u32 x5.2.1),(.string x5.2.2.1)])] w7 λv6 w8=>∃x7:Sl,v6=(.slice x7.a x7.l x7.c)/\w8.cell? ((blk mb).add 2)=some (.slice x1.a x1.l x1.c)/\
   (0<=(0:Int)/\(0:Int)<=(1:Int)/\(1:Int)<=(x7.c:Int))/\
   Nw (w8.alloc (.cells #[(.int .u16 op),(.int .u32 ty),(.int .u32 re),(.slice (if x7.c=0 then x7.a else Option.map (λa=>a.add (0*3)) x7.a) (1-0) (x7.c-0))] 44)) λw9=>w9.cell? ((blk mb).add 2)=some (.slice x1.a x1.l x1.c)/\
   zz Tryz.prog 23 (.slice x1.a x1.l x1.c) (.slice (some (blk w8.heap.size)) 1 1) w9 λr8 w10=>Wr w10 ((blk mb).add 2)/\Nw (w10.setCell ((blk mb).add 2) (.slice r8.a r8.l r8.c)) K:=by
 have bd:Below w.heap.size w w.drew:=(Below.refl _ _).drew
 have hM:=h.box.drew
 refine hM.rS (n:=2) (x:=s) rfl (h1 _ _ λw6 b6=>⟨(a1.1,a1.2.1,a1.2.2,()),rfl,(hM.below b6).cell (n:=2) rfl,h2 _ _ λw7 b7=>⟨(a2.1,a2.2.1,a2.2.2,()),rfl,((hM.below b6).below b7).cell (n:=2) rfl,?_⟩⟩)
 refine zq7 (a:=a1) (b:=a2) λw8 c hc hC b8=>⟨⟨some (blk c),2,2⟩,rfl,(((hM.below b6).below b7).below b8).cell (n:=2) rfl,⟨by decide,by decide,(by show(1:Int)<=((2:Nat):Int);decide)⟩,zk λw9 hI b9 z9=>⟨((((hM.below b6).below b7).below b8).below b9).cell (n:=2) rfl,?_⟩⟩
 have b09:=(((bd.on b6).on b7).on b8).on b9
 have s6:=b6.size
 have s7:=b7.size
 have hs:=h.below.size
 have hd:w.drew.heap.size=w.heap.size:=rfl
 refine(h.on b09).push (p:=(op,ty,re,[a1])) (t:=⟨some (blk c),1,2⟩) ⟨rfl,.inr ⟨c,_,rfl,hC.below b9,(by show 1<=2;decide),(by show 2<=9223372036854775807;decide),rfl,rfl⟩⟩ (λa ha=>?_) hI hl hK
 cases ha
 show w0.heap.size<=c
 omega
theorem Sm.none(h:Sm w0 w mb s pl)(hl:pl.length<=100){op ty re:Int}{K:World->Prop}(hK:∀r w',Sm w0 w' mb r (pl++[(op,ty,re,[])])->K w') :
  ldS w ((blk mb).add 2) λx1=>Nw (w.alloc (.cells #[(.int .u16 op),(.int .u32 ty),(.int .u32 re),(.slice none 0 0)] 44)) λw9=>
   zz Tryz.prog 23 (.slice x1.a x1.l x1.c) (.slice (some (blk w.heap.size)) 1 1) w9 λr8 w10=>Wr w10 ((blk mb).add 2)/\Nw (w10.setCell ((blk mb).add 2) (.slice r8.a r8.l r8.c)) K:=by
 refine h.box.rS (n:=2) (x:=s) rfl (zk λw9 hI b9 z9=>?_)
 exact(h.on b9).push (p:=(op,ty,re,[])) (t:=⟨Option.none,0,0⟩) (Own.nil _ _ _) (λa ha=>by cases ha) hI hl hK
theorem zqn{u:World}{al new:List Ag}{b:Nat}(h:Own u 123 3 t (flat agV al))(hb:Below w.heap.size w u)(hF:zM w.heap.size t)(hB:Blk u b 123 (flat agV new))(hn:0<new.length)(hl:al.length+new.length<=100){k:Sl->World->Prop}{m:Nat}(hm:m=new.length)
  (hk:∀r w',Own w' 123 3 r (flat agV (al++new))->Below w.heap.size w w'->zM w.heap.size r->(∀i T cs,Blk u i T cs->T≠123->Blk w' i T cs)->k r w'):zz Tryz.prog 42 (.slice t.a t.l t.c) (.slice (some (blk b)) m m) u k:=by
 subst hm
 have htl:t.l=al.length:=by have:=h.1;rw[zH zF]at this;omega
 refine yG eArg h (news:=flat agV new) (by rw[zH zF]) (λj v hj=>hB.cell hj) (λv hv=>?_) (by omega) (by omega) λr w' h1 hl' hg=>?_
 ·obtain⟨x,_,hx⟩:=List.mem_flatMap.1 hv
  simp only[agV,List.mem_cons,List.not_mem_nil,or_false]at hx
  rcases hx with rfl |rfl |rfl<;>rfl
 ·rcases hg with⟨_,_,h3⟩ | ⟨b',h3,h4,h5⟩
  ·rw[h3]at hl';omega
  ·have hbb:w.heap.size<=b':=by
    rcases h4 with h4 |h4
    ·exact hF _ h4
    ·have:=hb.size
     omega
   have e:flat agV (al++new)=flat agV al++flat agV new:=by simp[flat]
   refine hk r w' (by rw[e];exact h1) (hb.trans (zT h5 hbb hb.size)) (λa ha=>by rw[h3]at ha;cases ha;exact hbb) λi T cs hi hT=>hi.of_block (h5.block _ hi.lt λe=>?_)
   have e:=Option.some.inj e
   subst e
   rcases h4 with h4 |h4
   ·exact ym h hi (λq=>hT q.symm) h4
   ·have:=hi.lt
    omega
end
end Go.Proofs
namespace Go.Proofs
open Go.Gk Go.RowKit Go.Gm
section
variable {w:World} {R:VWP}
set_option maxHeartbeats 4000000 in
theorem zhJ{loc:Int}(hR:∀w' s,IsPl w' s (smP loc)->Below w.heap.size w w'->R (moA (0,20,s,())) w'):cR 39 #[.int .u32 loc] w R:=by
 refine za.of (zda loc R w ?_) λ_ _ h=>h
 refine zk λw1 hX1 b1 z1=>box3 rfl λw5 hM5 b5 z5=>?_
 have hX1:Blk w1 w.heap.size 25 (moV (0,0,⟨none,0,0⟩,())):=hX1
 have S0:Sm w1 w5 w1.heap.size ⟨none,0,0⟩ []:=⟨b5,hM5,Nat.le_refl _,yE.nil _ _⟩
 refine Sm.two (zix 0) (zix 0) S0 (by decide) λr1 w11 S1=>?_
 refine zix 4 _ _ λw12 b12=>⟨(4,4,bs [],()),rfl,fId 6 _ _ λw13 b13=>⟨(1,6,bs [],()),rfl,?_⟩⟩
 refine zq7 (a:=(4,4,bs [])) (b:=(1,6,bs [])) λw14 c hc hC b14=>⟨⟨some (blk c),2,2⟩,rfl,box4 rfl λw19 hE b19 z19=>?_⟩
 have b1114:=(b12.on b13).on b14
 have s12:=b12.size
 have s13:=b13.size
 have s14:=b1114.size
 refine hE.drew.rS (n:=3) (x:=⟨some (blk c),2,2⟩) rfl ?_
 refine zvS (s:=bs [109,97,105,110]) λw20 b20=>⟨(3,0,bs [109,97,105,110],()),rfl,(hE.drew.below b20).cell (n:=3) rfl,?_⟩
 refine fId 5 _ _ λw21 b21=>⟨(1,5,bs [],()),rfl,((hE.drew.below b20).below b21).cell (n:=3) rfl,zk λw22 hA22 b22 z22=>⟨(((hE.drew.below b20).below b21).below b22).cell (n:=3) rfl,?_⟩⟩
 have d19:Below w19.heap.size w19 w19.drew:=(Below.refl _ _).drew
 have b1922:=((d19.on b20).on b21).on b22
 have b1122:=(b1114.on b19).on b1922
 have hE22:=hE.below b1922
 have hC22:=(hC.below b19).below b1922
 refine zqn (w:=w11) (t:=⟨some (blk c),2,2⟩) (al:=[(4,4,bs []),(1,6,bs [])]) (new:=[(3,0,bs [109,97,105,110]),(1,5,bs [])]) ⟨rfl,.inr ⟨c,_,rfl,hC22,Nat.le_refl _,(by show 2<=9223372036854775807;decide),rfl,rfl⟩⟩ b1122 (λa ha=>by cases ha;show w11.heap.size<=c;omega) hA22 (by decide) (by decide) rfl λr20 w23 hO23 b23 hF23 hk23=>?_
 have hE23:=hk23 _ _ _ hE22 (by decide)
 refine⟨hE23.wr (n:=3) (by show 3<4;decide),Nw.gen λw24 e24=>?_⟩
 have c24:Chg w14.heap.size w23 w24:=by rw[e24];exact Chg.set _ _ _ _
 have hE24:Blk w24 w14.heap.size 44 [.int .u16 15,.int .u32 0,.int .u32 0,.slice r20.a r20.l r20.c]:=by rw[e24];exact hE23.set 3 _
 have b24:Below w11.heap.size w11 w24:=c24.below b23 (by omega)
 have hO24:Own w24 123 3 r20 (flat agV [(4,4,bs []),(1,6,bs []),(3,0,bs [109,97,105,110]),(1,5,bs [])]):=hO23.of_block λa ha=>c24.block _ λq=>by
  have:=ym hO23 hE23 (by decide)
  exact this (by rw[ha,<-q,<-(hO23.lt ha).1])
 have S24:=S1.on b24
 have s1:=S1.below.size
 refine S24.box.rS (n:=2) (x:=r1) rfl (hE24.rI (n:=0) rfl (hE24.rI (n:=1) rfl (hE24.rI (n:=2) rfl (hE24.rS (n:=3) (x:=r20) rfl (zk λw25 hI25 b25 z25=>?_)))))
 refine(S24.on b25).push (p:=(15,0,0,[(4,4,bs []),(1,6,bs []),(3,0,bs [109,97,105,110]),(1,5,bs [])])) (t:=r20) (hO24.below b25) (λa ha=>Nat.le_trans s1 (hF23 a ha)) hI25 (by decide) λr2 w27 S2=>?_
 refine Sm.two (fId 6) (zix 7) S2 (by decide) λr3 w33 S3=>?_
 clear hE hC hE22 hC22 hA22 hO23 hE23 hE24 hO24 S24 hI25 S2 hk23 b23 b24 b1122 b1922 d19 b1114 s12 s13 s14 s1
 refine fId 5 _ _ λw34 b34=>⟨(1,5,bs [],()),rfl,zix 30 _ _ λw35 b35=>⟨(4,30,bs [],()),rfl,?_⟩⟩
 refine zq7 (a:=(1,5,bs [])) (b:=(4,30,bs [])) λw36 c hc hC b36=>⟨⟨some (blk c),2,2⟩,rfl,box4 rfl λw41 hE b41 z41=>?_⟩
 have b3336:=(b34.on b35).on b36
 have s34:=b34.size
 have s35:=b35.size
 have s36:=b3336.size
 refine hE.drew.rS (n:=3) (x:=⟨some (blk c),2,2⟩) rfl ?_
 refine fNum loc _ _ λw42 b42=>⟨(2,loc,bs [],()),rfl,(hE.drew.below b42).cell (n:=3) rfl,zk λw43 hA43 b43 z43=>⟨((hE.drew.below b42).below b43).cell (n:=3) rfl,?_⟩⟩
 have d41:Below w41.heap.size w41 w41.drew:=(Below.refl _ _).drew
 have b4143:=(d41.on b42).on b43
 have b3343:=(b3336.on b41).on b4143
 have hE43:=hE.below b4143
 have hC43:=(hC.below b41).below b4143
 refine zqn (w:=w33) (t:=⟨some (blk c),2,2⟩) (al:=[(1,5,bs []),(4,30,bs [])]) (new:=[(2,loc,bs [])]) ⟨rfl,.inr ⟨c,_,rfl,hC43,Nat.le_refl _,(by show 2<=9223372036854775807;decide),rfl,rfl⟩⟩ b3343 (λa ha=>by cases ha;show w33.heap.size<=c;omega) hA43 (by show 0<1;decide) (by show 2+1<=100;decide) rfl λr44 w44 hO44 b44 hF44 hk44=>?_
 have hE44:=hk44 _ _ _ hE43 (by decide)
 refine⟨hE44.wr (n:=3) (by show 3<4;decide),Nw.gen λw45 e45=>?_⟩
 have c45:Chg w36.heap.size w44 w45:=by rw[e45];exact Chg.set _ _ _ _
 have hE45:Blk w45 w36.heap.size 44 [.int .u16 71,.int .u32 0,.int .u32 0,.slice r44.a r44.l r44.c]:=by rw[e45];exact hE44.set 3 _
 have b45:Below w33.heap.size w33 w45:=c45.below b44 (by omega)
 have hO45:Own w45 123 3 r44 (flat agV [(1,5,bs []),(4,30,bs []),(2,loc,bs [])]):=hO44.of_block λa ha=>c45.block _ λq=>by
  have:=ym hO44 hE44 (by decide)
  exact this (by rw[ha,<-q,<-(hO44.lt ha).1])
 have S45:=S3.on b45
 have s3:=S3.below.size
 refine S45.box.rS (n:=2) (x:=r3) rfl (hE45.rI (n:=0) rfl (hE45.rI (n:=1) rfl (hE45.rI (n:=2) rfl (hE45.rS (n:=3) (x:=r44) rfl (zk λw46 hI46 b46 z46=>?_)))))
 refine(S45.on b46).push (p:=(71,0,0,[(1,5,bs []),(4,30,bs []),(2,loc,bs [])])) (t:=r44) (hO45.below b46) (λa ha=>Nat.le_trans s3 (hF44 a ha)) hI46 (by show 3<=100;decide) λr4 w48 S4=>?_
 clear hE hC hE43 hC43 hA43 hO44 hE44 hE45 hO45 S45 hI46 hk44 b44 b45 b3343 b4143 d41 b3336 s34 s35 s36 s3
 refine Sm.none S4 (by show 4<=100;decide) λr5 w51 S5=>?_
 refine Sm.two (fNum 32) (fNum 1) S5 (by show 5<=100;decide) λr6 w57 S6=>?_
 refine Sm.one (fId 1) (fId 1) S6 (by show 6<=100;decide) λr7 w63 S7=>?_
 refine Sm.two (zix 3) (fId 2) S7 (by show 7<=100;decide) λr8 w69 S8=>?_
 refine Sm.one (zix 3) (zix 3) S8 (by show 8<=100;decide) λr9 w75 S9=>?_
 refine Sm.two (zix 0) (fId 3) S9 (by show 9<=100;decide) λr10 w81 S10=>?_
 refine Sm.none S10 (by show 10<=100;decide) λr11 w84 S11=>?_
 refine Sm.none S11 (by show 11<=100;decide) λr12 w87 S12=>?_
 refine Sm.none S12 (by show 12<=100;decide) λr13 w90 S13=>?_
 have hS:Sm w1 w90 w1.heap.size r13 (smP loc):=S13
 refine Mo.load hS.box (st3 (hX1.below hS.below) rfl λw93 hX93 c93=>Mo.load (x:=(0,20,r13,())) hX93 ?_)
 have s1:=b1.size
 exact hR w93 r13 (hS.own.keep λi hi _=>c93.block i (by omega)).isPl (c93.below (b1.trans (hS.below.mono (by omega))) (Nat.le_refl _))
end
theorem zvH:entF (ix (smP 0) 1)=(4,6,bs [109,97,105,110],[5]):=by decide +kernel
theorem zkv:entK (smP 0)=[1]:=by decide +kernel
theorem zuS:(fcP (smP 0)).pts [5] 1=[]:=by decide +kernel
theorem zuT:(fcP (smP 0)).pts [5] 3=[(5,0,-1,2,1,true,())]:=by kernel_rfl
theorem zpY{fs:List Fa}(h:FacL (smP 0) fs):∃f,fs=[f]/\f=(bs [109,97,105,110],4,6,[],[(5,0,-1,2,1,true,())]):=by
 obtain⟨h1,h2⟩:=h
 rw[zkv]at h1
 obtain⟨f,rfl⟩:=List.length_eq_one_iff.1 h1
 refine⟨f,rfl,?_⟩
 have:=h2 0 (by simp) (by rw[zkv];simp)
 have e:(entK (smP 0))[0]'(by rw[zkv];simp)=1:=by
  have:∀(l:List Nat) (hl:0<l.length),l=[1]->l[0]=1:=λl hl e=>by subst e;rfl
  exact this _ _ zkv
 rw[e]at this
 obtain⟨q1,q2,q3,q4,q5⟩:=this
 rw[zvH]at q1 q2 q3 q4 q5
 dsimp only at q1 q2 q3 q4 q5
 rw[zuS]at q4
 rw[zuT]at q5
 have e4:=q4.perm.eq_nil
 have e5:=List.perm_singleton.1 q5.perm
 obtain⟨a,b,c,d,g⟩:=f
 simp only[List.getElem_cons_zero]at q1 q2 q3 e4 e5
 rw[q1,q2,q3,e4,e5]
section
variable {w:World} {R:VWP}
set_option maxHeartbeats 4000000 in
theorem zjM(ht:Tab w)(hR:∀w',Below w.heap.size w w'->R (.bool true) w'):cR 11 #[] w R:=by
 refine za.of (zcZ R w ?_) λ_ _ h=>h
 refine zhJ (loc:=0) λw1 s hs b1=>⟨(0,20,s,()),rfl,?_⟩
 have hp:=zqU 0 (by decide)
 have nobad:∀{e a:Int} {Q:Prop},(e,a)=facE 20 (smP 0)->e≠0->Q:=λ{e a Q} h1 h2=>by
  rw[zuQ]at h1
  exact absurd (congrArg Prod.fst h1) h2
 refine zma (x:=(0,20,s,())) (name:=bs [109,97,105,110]) (model:=4) hs hp (by show(0:Int)<=20;decide) (ht.below b1) (λw2 e a h1 h2 _=>nobad h1 h2) (λw2 fs _ _ hfl hn _=>?_) (λw2 fs y f _ _ hfl hn b2 hy=>?_)
 ·obtain⟨f,rfl,rfl⟩:=zpY hfl
  exact absurd hn (by simp[fndF])
 obtain⟨f',rfl,rfl⟩:=zpY hfl
 have hn:f=(bs [109,97,105,110],4,6,[],[(5,0,-1,2,1,true,())]):=by
  have:fndF [(bs [109,97,105,110],4,6,[],[(5,0,-1,2,1,true,())])] (bs [109,97,105,110]) 4=some (bs [109,97,105,110],4,6,[],[(5,0,-1,2,1,true,())]):=by simp[fndF]
  rw[this]at hn
  exact(Option.some.inj hn).symm
 subst hn
 refine⟨y,0,rfl,box5 rfl λw8 hF8 b8 z8=>?_⟩
 have hF8:Blk w8 w2.heap.size 47 (faV y):=hF8
 have b08:=(b1.on b2).on b8
 refine zhJ (loc:=0) λw9 s' hs' b9=>⟨(0,20,s',()),rfl,?_⟩
 have b09:=b08.on b9
 refine zma (x:=(0,20,s',())) (name:=bs [109,97,105,110]) (model:=0) hs' hp (by show(0:Int)<=20;decide) (ht.below b09) (λw10 e a h1 h2 _=>nobad h1 h2) (λw10 fs _ _ hfl' _ b10=>?_) (λw10 fs y' f _ _ hfl' hn' _ _=>?_)
 rotate_left
 ·obtain⟨f',rfl,rfl⟩:=zpY hfl'
  have:fndF [(bs [109,97,105,110],4,6,[],[(5,0,-1,2,1,true,())])] (bs [109,97,105,110]) 0=none:=by simp[fndF]
  rw[this]at hn'
  cases hn'
 refine⟨faZ,5,rfl,box5 rfl λw16 hG16 b16 z16=>?_⟩
 have b816:=(b9.on b10).on b16
 have b016:=b08.on b816
 have hF16:=hF8.below b816
 have hy16:=(hy.below b8).below b816
 have e3:y.2.2.1=6:=hy16.fn
 have hi:y.2.2.2.1.l=0:=hy16.ins.len
 have ho:y.2.2.2.2.1.l=1:=hy16.outs.len
 refine zR rfl (zR rfl (hF16.rI (n:=2) (x:=y.2.2.1) rfl (zl (λ_=>?_) (λq=>absurd e3 q))))
 refine hF16.rS (n:=3) (x:=y.2.2.2.1) rfl (zl (λ_=>?_) (λq=>absurd (by rw[hi];rfl) q))
 refine hF16.rS (n:=4) (x:=y.2.2.2.2.1) rfl (zl (λ_=>?_) (λq=>absurd (by rw[ho];rfl) q))
 refine hF16.rS (n:=4) (x:=y.2.2.2.2.1) rfl ?_
 obtain⟨a,ha⟩:=hy16.outs.base (i:=0) (by decide)
 have hc:=λj hj=>hy16.outs.cell a ha 0 (by decide) j hj
 refine⟨⟨by decide,by omega⟩,ze ha ⟨_,by rw[zn];exact hc 0 (by decide),_,by rw[zn];exact hc 1 (by decide),_,by rw[zn];exact hc 2 (by decide),_,by rw[zn];exact hc 3 (by decide),_,by rw[zn];exact hc 4 (by decide),_,by rw[zn];exact hc 5 (by decide),?_⟩⟩
 refine zR rfl ?_
 refine zhJ (loc:=1) λw17 s'' hs'' b17=>⟨(0,20,s'',()),rfl,?_⟩
 refine zmU (x:=(0,20,s'',())) hs'' (zqU 1 (by decide)) (by show(0:Int)<=20;decide) (ht.below (b016.on b17)) λw18 b18=>⟨((facE 20 (smP 1)).1,(facE 20 (smP 1)).2,()),rfl,?_⟩
 rw[zuR]
 exact hR w18 ((b016.on b17).on b18)
end
end Go.Proofs
namespace Go.Proofs
open Go.Gk Go.RowKit Go.Gm
end Go.Proofs
namespace Go.Proofs
open Go.Gk
set_option linter.unusedVariables false
set_option maxRecDepth 100000
def zc5:Ann:=(.q (.q .nil))
def zcx(p0:(Int×Int×Sl×Unit))(R:VWP)(w:World):Prop:=Nw (w.alloc (.cells #[zu p0.1,zu p0.2.1,p0.2.2.1.zw] 25)) λw1=>ldI w1 (zB w) .u32 λx1=>ifB (x1==0) (ldI w1 ((zB w).add 1) .u32 λx2=>ifB (x2==0) (ldS w1 ((zB w).add 2) λx3=>R (.bool ((x3.l:Int)==0)) w1) (R (.bool false) w1)) (R (.bool false) w1)
theorem zeK(p0)(R)(w)(h:zcx p0 R w):Calls Tryz.prog 26 #[.agg #[.int .u32 p0.1,.int .u32 p0.2.1,.slice p0.2.2.1.a p0.2.2.1.l p0.2.2.1.c]] w (Ret R):=lwC zc5 Tryz.func26 (by kernel_rfl) (by kernel_rfl) h
end Go.Proofs
namespace Go.Proofs
open Go.Gk Go.RowKit Go.Gm
theorem PlOk.turn{g:Int->Int}{pl:List PI}(h:PlOk pl)(hg:∀n∈allP pl,0<=g n/\g n<=4294967295):PlOk (zv g pl):=by
 have get:∀p∈zv g pl,∃q∈pl,p=zS g q:=λp hp=>by
  obtain⟨q,hq,e⟩:=List.mem_map.1 hp
  exact⟨q,hq,e.symm⟩
 refine⟨by rw[ye];exact h.len,λp hp=>?_,λp hp x hx=>?_,λp hp=>?_⟩
 ·obtain⟨q,hq,rfl⟩:=get p hp
  have:=h.args q hq
  unfold zS
  dsimp only
  rw[List.length_map]
  exact this
 ·obtain⟨q,hq,rfl⟩:=get p hp
  obtain⟨y,hy,rfl⟩:=List.mem_map.1 hx
  rw[zra]
  exact h.text q hq y hy
 ·obtain⟨q,hq,rfl⟩:=get p hp
  refine⟨hg _ (zgg hq (by simp[allI])),hg _ (zgg hq (by simp[allI])),λx hx=>?_⟩
  obtain⟨y,hy,rfl⟩:=List.mem_map.1 hx
  by_cases e:y.1=1
  ·rw[zcP g e]
   refine hg _ (zgg hq ?_)
   simp only[allI,List.mem_cons]
   right;right
   exact List.mem_map.2 ⟨y,List.mem_filter.2 ⟨hy,by simp[e]⟩,rfl⟩
  ·rw[zcQ g e]
   exact(h.nums q hq).2.2 y hy
theorem zr.plOk{g:Int->Int}{pl:List PI}{b':Int}(h:zr g pl b')(hp:PlOk pl):PlOk (zv g pl):=by
 refine hp.turn λn hn=>?_
 have hb:=h.pos
 by_cases e:n=0
 ·rw[e,h.zero];omega
 ·have:=h.rng n hn e
  omega
section
variable {x:Mo} {pl:List PI} {w:World} {R:VWP} {s:Sl} {T:List Int}
theorem zvO{y:Mo}{e a:Int}{K:World->World->Prop}(hK:∀w1 w',w1.heap.size=w.heap.size+1->Blk w' w.heap.size 25 (moV y)->Blk w' w1.heap.size 29 [.int .i64 e,.int .i64 a]->Below w.heap.size w w'->w'.heap.size=w.heap.size+2->K w1 w') :
  Nw (w.alloc (.cells #[(.int .u32 (0:Int)),(.int .u32 (0:Int)),(.slice none 0 0)] 25)) λw1=>
  Nw (w1.alloc (.cells #[(.int .i64 (0:Int)),(.int .i64 (0:Int))] 29)) λw2=>
  Wr w2 (blk w.heap.size)/\Nw (w2.setCell (blk w.heap.size) (.int .u32 y.1)) λw3=>
  Wr w3 ((blk w.heap.size).add 1)/\Nw (w3.setCell ((blk w.heap.size).add 1) (.int .u32 y.2.1)) λw4=>
  Wr w4 ((blk w.heap.size).add 2)/\Nw (w4.setCell ((blk w.heap.size).add 2) (.slice y.2.2.1.a y.2.2.1.l y.2.2.1.c)) λw5=>
  Wr w5 (blk w1.heap.size)/\Nw (w5.setCell (blk w1.heap.size) (.int .i64 e)) λw6=>
  Wr w6 ((blk w1.heap.size).add 1)/\Nw (w6.setCell ((blk w1.heap.size).add 1) (.int .i64 a)) λw7=>K w1 w7:=by
 refine zk λw1 hM1 b1 z1=>?_
 refine zk λw2 hS2 b2 z2=>?_
 refine st3 (hM1.below b2) rfl λw3 hM3 c3=>?_
 refine st2 (c3.blk hS2 (by omega)) rfl λw5 hS5 c5=>?_
 exact hK w1 w5 z1 (c5.blk hM3 (by omega)) hS5 (c5.below (c3.below (b1.on b2) (Nat.le_refl _)) (by omega)) (by rw[c5.size,c3.size];omega)
theorem zrk(hR:∀w',Below w.heap.size w w'->R (.bool true) w')(h1:x.1=0)(h2:x.2.1=0)(h3:x.2.2.1.l=0):cR 26 #[moA x] w R:=by
 refine za.of (zeK x R w ?_) λ_ _ h=>h
 refine zk λw1 hB1 b1 z1=>?_
 have hB1:Blk w1 w.heap.size 25 (moV x):=hB1
 refine hB1.rI0 (x:=x.1) rfl (zl (λ_=>?_) (λe=>absurd h1 e))
 refine hB1.rI (n:=1) (x:=x.2.1) rfl (zl (λ_=>?_) (λe=>absurd h2 e))
 refine hB1.rS (n:=2) (x:=x.2.2.1) rfl ?_
 have:=hR w1 b1
 rw[h3]
 exact this
theorem ztB(h:(zN x.2.1 pl).1≠0):rnbP x pl=(0,0,[]):=by unfold rnbP;rw[if_pos h]
theorem ztC(h:zN x.2.1 pl=(0,0)):rnbP x pl=(x.1,bndP pl,newP pl):=by unfold rnbP;rw[if_neg (by rw[h];simp)]
end
end Go.Proofs
namespace Go.Proofs
open Go.Gk Go.RowKit Go.Gm
def AR(bd:Int)(pl:List PI)(w:World)(s:Sl)(e a:Int):Prop:=(e,a)=facE bd pl/\∃fs,zfy w s fs/\((e≠0/\fs=[])\/(facE bd pl=(0,0)/\zgO bd pl/\FacL pl fs))
theorem zfy.nil(w:World):zfy w ⟨none,0,0⟩ []:=⟨[],⟨rfl,Nat.le_refl _,Nat.zero_le _,λ_=>rfl,λa ha=>by cases ha⟩,rfl,λi q=>absurd q (Nat.not_lt_zero i)⟩
theorem AR.below{bd:Int}{pl:List PI}{w w':World}{s:Sl}{e a:Int}(h:AR bd pl w s e a)(hb:Below w.heap.size w w'):AR bd pl w' s e a:=by
 obtain⟨h1,fs,h2,h3⟩:=h
 exact⟨h1,fs,h2.below hb,h3⟩
section
variable {x:Mo} {pl:List PI} {w:World} {R:VWP}
theorem zq8(hN:IsPl w x.2.2.1 pl)(hp:PlOk pl)(h0:0<=x.2.1)(ht:Tab w)(hR:∀w' s e a,AR x.2.1 pl w' s e a->Below w.heap.size w w'->R (.tuple #[.slice s.a s.l s.c,.agg #[.int .i64 e,.int .i64 a]]) w'):cR 8 #[moA x] w R:=
 zhz hN hp h0 ht (λw' e a h1 h2 hb=>hR w' ⟨none,0,0⟩ e a ⟨h1,[],zfy.nil w',.inl ⟨h2,rfl⟩⟩ hb) (λw' s fs hz hO hL hb hF=>hR w' s 0 0 ⟨hz.symm,fs,hF,.inr ⟨hz,hO,hL⟩⟩ hb)
theorem zjL{s t:Sl}{l:List Po}{g:Int->Int}(hs:IsPs w s l)(ht:IsPs w t (l.map (yX g)))(hR:∀w',Below w.heap.size w w'->R (.bool true) w'):cR 27 #[.slice s.a s.l s.c,.slice t.a t.l t.c] w R:=by
 refine za.of (zcY s t R w ?_) λ_ _ h=>h
 have hsl:=hs.len
 have htl:=ht.len
 rw[List.length_map]at htl
 refine zC (λe=>absurd (by omega) e) (λ_=>?_)
 refine zm.count l.length hs.bound (λk w'=>Below w.heap.size w w') (Below.refl _ _) ?_
 rintro k w1 hk b1 next hnext
 refine zj (λg=>?_) (λg=>hR w1 b1)
 have hkl:k<l.length:=by dsimp only at g;omega
 have hkm:k<(l.map (yX ‹Int->Int›)).length:=by rw[List.length_map];exact hkl
 have bd:=b1.drew
 have hX:=IsC.below y7 hs bd
 have hY:=IsC.below y7 ht bd
 refine zo.cut (λ(_:Unit) w'=>Below w.heap.size w w') ?_ ?_
 rotate_left
 ·rintro _ w2 b2
  exact hnext w2 hkl b2
 refine fldI hX hkl (j:=1) (by decide) (x:=l[k].2.1) rfl (fldI hY hkm (j:=1) (by decide) (x:=l[k].2.1) (by rw[List.getElem_map];rfl) (zC (λe=>absurd rfl e) (λ_=>?_)))
 refine fldI hX hkl (j:=2) (by decide) (x:=l[k].2.2.1) rfl (fldI hY hkm (j:=2) (by decide) (x:=l[k].2.2.1) (by rw[List.getElem_map];rfl) (zC (λe=>absurd rfl e) (λ_=>?_)))
 refine fldI hX hkl (j:=4) (by decide) (x:=l[k].2.2.2.2.1) rfl (fldI hY hkm (j:=4) (by decide) (x:=l[k].2.2.2.2.1) (by rw[List.getElem_map];rfl) (zC (λe=>absurd rfl e) (λ_=>?_)))
 refine fldB hX hkl (j:=5) (by decide) (x:=l[k].2.2.2.2.2.1) rfl (fldB hY hkm (j:=5) (by decide) (x:=l[k].2.2.2.2.2.1) (by rw[List.getElem_map];rfl) (zL (zA (λ_=>bd) (λe=>?_))))
 simp at e
theorem fldT{α:Type}{sz:Nat}{f:α->List Value}{s:Sl}{l:List α}(h:IsC sz f w s l){k:Nat}(hk:k<l.length)(hj:0<sz){x:ByteArray}(hx:(f l[k])[0]? =some (.string x)){φ:ByteArray->Prop}(hφ:φ x) :
  (0<=(k:Int)/\(k:Int)<(s.l:Int))/\zc s.a λa=>zy w (a.add (Int.toNat (k:Int)*sz)) φ:=by
 obtain⟨a,ha⟩:=h.base hk
 have hl:=h.len
 exact⟨⟨by omega,by omega⟩,ze ha ⟨x,(h.cell a ha k hk 0 hj).trans hx,hφ⟩⟩
end
theorem zrz{g:Int->Int}{pl:List PI}(hop:∀k,(ix (zv g pl) k).1=(ix pl k).1):entK (zv g pl)=entK pl:=by
 unfold entK
 rw[ye]
 exact List.filter_congr λk _=>by rw[hop k]
theorem ztv{pl:List PI}{i:Nat}(h:i<(entK pl).length):(entK pl)[i]<pl.length/\(ix pl (entK pl)[i]).1=15:=by
 have h2:(entK pl)[i]∈(List.range pl.length).filter λk=>(ix pl k).1==15:=List.getElem_mem h
 rw[List.mem_filter,List.mem_range,beq_iff_eq]at h2
 exact h2
theorem zr0{g:Int->Int}{bd b':Int}{pl:List PI}(T:Trn g bd b' (fcP pl) (fcP (zv g pl)))(hO:zgO bd pl){fs gs:List Fa}(hF:FacL pl fs)(hG:FacL (zv g pl) gs) :
  gs.length=fs.length/\∀i (h:i<fs.length) (h':i<gs.length),gs[i].1=fs[i].1/\gs[i].2.1=fs[i].2.1/\gs[i].2.2.2.1=fs[i].2.2.2.1.map (yX g)/\gs[i].2.2.2.2=fs[i].2.2.2.2.map (yX g):=by
 have hE:entK (zv g pl)=entK pl:=zrz λk=>T.op k
 refine⟨by rw[hG.len,hF.len,hE],λi h h'=>?_⟩
 have hk:i<(entK pl).length:=by rw[<-hF.len];exact h
 have hk2:i<(entK (zv g pl)).length:=by rw[hE];exact hk
 obtain⟨k1,k2⟩:=ztv hk
 have o1:=hF.ok i h hk
 have o2:=hG.ok i h' hk2
 have e:(entK (zv g pl))[i]=(entK pl)[i]:=List.getElem_of_eq hE _
 rw[e]at o2
 have en:entF (ix (zv g pl) (entK pl)[i])=zbn g (entF (ix pl (entK pl)[i])):=T.ent k1 k2
 refine⟨?_,?_,T.srt hO.ok k1 k2 (.inl rfl) o1.ins o2.ins,T.srt hO.ok k1 k2 (.inr rfl) o1.outs o2.outs⟩
 ·rw[o2.name,o1.name,en];rfl
 ·rw[o2.model,o1.model,en];rfl
section
variable {x:Mo} {pl:List PI} {w:World} {R:VWP}
set_option maxHeartbeats 4000000 in
theorem zjb(hN:IsPl w x.2.2.1 pl)(hp:PlOk pl)(hbd:0<=x.2.1/\x.2.1<=4294967295)(htab:Tab w)(hR:∀w',Below w.heap.size w w'->R (.bool true) w') :
  cR 6 #[moA x] w R:=by
 refine za.of (YZ x R w ?_) λ_ _ h=>h
 refine zk λw1 hB1 b1 z1=>?_
 have hB1:Blk w1 w.heap.size 25 (moV x):=hB1
 refine Mo.load hB1 ?_
 refine zeY (x:=x) (hN.below b1) hp λca w2 _ _ hC2 b2=>⟨(x.1,x.2.1,⟨some (blk ca),pl.length,pl.length⟩,()),rfl,?_⟩
 refine zl6 (x:=(x.1,x.2.1,⟨some (blk ca),pl.length,pl.length⟩,())) hC2 hp λy ql w3 b3 hO3 hy=>⟨y,((zN x.2.1 pl).1,((zN x.2.1 pl).2:Int),()),rfl,?_⟩
 have hy:(y.1,y.2.1,ql)=rnbP x pl:=hy
 refine zvO (y:=y) λw4 w10 z4 hY10 hS10 b10 z10=>?_
 have b110:=(b2.on b3).on b10
 have hb10:=b1.on b110
 have hB10:=hB1.below b110
 have hO10:=hO3.below b10
 refine hS10.rI0 rfl (zC (λe=>?_) (λe=>?_))
 ·have e:(zN x.2.1 pl).1≠0:=e
  rw[ztB e,Prod.mk.injEq,Prod.mk.injEq]at hy
  refine Mo.load hY10 ?_
  refine zrk (x:=y) (λw11 b11=>⟨_,rfl,zR rfl ?_⟩) hy.1 hy.2.1 ?_
  ·exact zjM (htab.below (hb10.on b11)) λw12 b12=>⟨true,rfl,hR w12 ((hb10.on b11).on b12)⟩
  ·rw[hO10.isPl.len,hy.2.2]
   rfl
 have e:(zN x.2.1 pl).1=0:=e
 obtain⟨hok,hlay,_⟩:=zit e
 have hsh:=zjy hlay
 have hw9:=zW.of hp hbd.1 e
 rw[ztC hok,Prod.mk.injEq,Prod.mk.injEq]at hy
 obtain⟨hy1,hy2,hy3⟩:=hy
 have hturn0:=hw9.turn
 have hturn:zr (rnP pl pl.length) pl y.2.1:=by rw[hy2];exact hturn0
 have hql:ql=zv (rnP pl pl.length) pl:=hy3
 generalize rnP pl pl.length=g at *
 subst hql
 have hpq:PlOk (zv g pl):=hturn.plOk hp
 have h0y:0<=y.2.1:=by have:=hturn.pos;omega
 have hN10:IsPl w10 y.2.2.1 (zv g pl):=hO10.isPl
 have hfe:facE y.2.1 (zv g pl)=facE x.2.1 pl:=hturn.facE hp hbd.1 hsh
 refine Mo.load hB10 ?_
 refine zeY (x:=x) (hN.below hb10) hp λcb w13 _ _ hC13 b13=>⟨(x.1,x.2.1,⟨some (blk cb),pl.length,pl.length⟩,()),rfl,?_⟩
 refine zq8 (x:=(x.1,x.2.1,⟨some (blk cb),pl.length,pl.length⟩,())) hC13 hp hbd.1 (htab.below (hb10.on b13)) λw14 s e1 a1 hA b14=>⟨s,(e1,a1,()),rfl,box2 rfl λw17 h17 b17 z17=>?_⟩
 have b1017:=(b13.on b14).on b17
 have hY17:=hY10.below b1017
 refine Mo.load hY17 ?_
 refine zq8 (x:=y) (hN10.below b1017) hpq h0y (htab.below (hb10.on b1017)) λw18 t e2 a2 hA2 b18=>⟨t,(e2,a2,()),rfl,box2 rfl λw21 h21 b21 z21=>?_⟩
 have b1721:=b18.on b21
 have h17':=h17.below b1721
 have b021:=hb10.on (b1017.on b1721)
 obtain⟨he1,fs,hfs,hf⟩:=hA.below (b17.on b1721)
 obtain⟨he2,gs,hgs,hg⟩:=hA2.below b21
 have he1:(e1,a1)=facE x.2.1 pl:=he1
 have he2':=he2
 rw[hfe,<-he1,Prod.mk.injEq]at he2
 obtain⟨rfl,rfl⟩:=he2
 have rel:gs.length=fs.length/\∀i (h:i<fs.length) (h':i<gs.length),gs[i].1=fs[i].1/\gs[i].2.1=fs[i].2.1/\gs[i].2.2.2.1=fs[i].2.2.2.1.map (yX g)/\gs[i].2.2.2.2=fs[i].2.2.2.2.map (yX g):=by
  rcases hf with⟨hne,rfl⟩ | ⟨hz,hO,hL⟩
  ·rcases hg with⟨_,rfl⟩ | ⟨hz2,_,_⟩
   ·exact⟨rfl,λi h=>absurd h (Nat.not_lt_zero i)⟩
   ·rw[hz2,Prod.mk.injEq]at he2'
    exact absurd he2'.1 hne
  ·have hz:facE x.2.1 pl=(0,0):=hz
   rcases hg with⟨hne,_⟩ | ⟨_,_,hL2⟩
   ·rw[hz,Prod.mk.injEq]at he1
    exact absurd he1.1 hne
   ·exact zr0 (zq9 (zgO.con hO) hp hbd.1 hturn hlay) hO hL hL2
 have sl:=hfs.len
 have tl:=hgs.len
 have hrl:=rel.1
 refine zo.cut (λ(_:Unit) w'=>w21=w') ?_ ?_
 ·refine Sp.load h17' (Sp.load h21 (zK (by simp) (zC (λq=>absurd (by omega) q) λ_=>rfl)))
 rintro _ _ rfl
 obtain⟨hs,hC,hsl,hsr⟩:=hfs.ex
 obtain⟨ks,kC,ksl,ksr⟩:=hgs.ex
 refine zm.count fs.length (by have:=hC.bound;omega) (λ_ w'=>Below w21.heap.size w21 w') (Below.refl _ _) ?_
 rintro k w23 hk b23 next hnext
 have b023:=b021.on b23
 refine zj (λgk=>?_) (λ_=>zjM (htab.below b023) λw27 b27=>⟨true,rfl,hR w27 (b023.on b27)⟩)
 have hkl:k<fs.length:=by dsimp only at gk;omega
 have hkm:k<gs.length:=by omega
 have h1:k<hs.length:=by omega
 have h2:k<ks.length:=by omega
 obtain⟨r1,r2,r3,r4⟩:=rel.2 k hkl hkm
 have fR:=hsr k h1 hkl
 have gR:=ksr k h2 hkm
 have bd:=b23.drew
 have X:=IsC.below zdx hC bd
 have Y:=IsC.below zdx kC bd
 refine zo.cut (λ(_:Unit) w'=>Below w21.heap.size w21 w') ?_ ?_
 rotate_left
 ·rintro _ w26 b26
  exact hnext w26 hkl b26
 refine fldT X h1 (by decide) (x:=hs[k].1) rfl (fldT Y h2 (by decide) (x:=ks[k].1) rfl (zL (zR (by rw[fR.name,gR.name,r1];simp) ?_)))
 refine fldI X h1 (j:=1) (by decide) (x:=hs[k].2.1) rfl (fldI Y h2 (j:=1) (by decide) (x:=ks[k].2.1) rfl (zC (λe=>absurd (by rw[fR.model,gR.model,r2]) e) (λ_=>?_)))
 refine fldS X h1 (j:=3) (by decide) (x:=hs[k].2.2.2.1) rfl (fldS Y h2 (j:=3) (by decide) (x:=ks[k].2.2.2.1) rfl ?_)
 refine zjL (l:=fs[k].2.2.2.1) (g:=g) (IsC.below y7 fR.ins bd) (by rw[<-r3];exact IsC.below y7 gR.ins bd) λw24 b24=>⟨true,rfl,zL (zR rfl ?_)⟩
 have b24':=bd.on b24
 refine fldS (IsC.below zdx hC b24') h1 (j:=4) (by decide) (x:=hs[k].2.2.2.2.1) rfl (fldS (IsC.below zdx kC b24') h2 (j:=4) (by decide) (x:=ks[k].2.2.2.2.1) rfl ?_)
 refine zjL (l:=fs[k].2.2.2.2) (g:=g) (IsC.below y7 fR.outs b24') (by rw[<-r4];exact IsC.below y7 gR.outs b24') λw25 b25=>⟨true,rfl,zL (zR rfl ?_)⟩
 exact b24'.on b25
end
end Go.Proofs
