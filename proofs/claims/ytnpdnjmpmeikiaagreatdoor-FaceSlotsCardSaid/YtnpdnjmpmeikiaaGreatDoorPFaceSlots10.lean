/- FaceSlots, part 10; made small by a program. -/
import Derived.Test.YtnpdnjmpmeikiaaGreatDoorProg
import Derived.Test.YtnpdnjmpmeikiaaGreatDoorPFaceSlots9
set_option linter.unusedVariables false
namespace Go.Proofs
open Go.Gk
set_option linter.unusedVariables false
set_option maxRecDepth 100000
def ZV:Ann:=(.q (.q (.seq (some ⟨[],[]⟩) (.q (.one (.loop ⟨[1,2,7,8],[(9,(.b (.int .i64)))]⟩ (.seq (some ⟨[1,2,7,8,9],[]⟩) (.q .c) (.seq (some ⟨[1,2,7,8,9],[]⟩) (.one (.q (.seq (some ⟨[1,2,7,8,9,10],[]⟩) (.q (.cond (.q .nil) .nil)) (.q (.seq (some ⟨[1,2,7,8,9,10],[(11,(.b (.int .i64)))]⟩) (.q .c) (.q (.q (.q (.q (.q (.seq (some ⟨[1,2,7,8,9,10],[]⟩) (.q (.cond (.q .nil) .nil)) (.q (.seq none (.q (.one (.loop ⟨[1,2,7,8,9,10,15],[(16,(.b (.int .i64)))]⟩ (.seq none (.q .c) (.seq (some ⟨[1,2,7,8,9,10,15,16],[]⟩) (.one (.q (.q .c))) .nil))))) (.q (.q (.cond (.q .nil) .nil)))))))))))))))) .nil))))) (.q .nil))))
def ZR(p0:(Int×Int×Sl×Unit))(p1:Int)(p2:Int)(R:VWP)(w:World):Prop:=Nw (w.alloc (.cells #[zu p0.1,zu p0.2.1,p0.2.2.1.zw] 25)) λw1=>da w1 (zB w) λx1 x2 x3=>dx61 9 #[.agg #[zu x1,zu x2,x3.zw]] w1 λx5 w2=>dp 8 #[.agg #[zu x5.1,zu x5.2.1,x5.2.2.1.zw]] w2 λx7 x8 w3=>df w3 #[zi 0,zi 0] 29 (zi x8.1) (zi x8.2.1) λw6=>zr (S:=Unit) (λm9=>zo (S:=Int×Unit) (λs11 w7 n12=>zr (S:=Unit) (λm13=>ifB (decide (s11.1<(x7.l:Int))) (ldI w7 (zB w3) .i64 λx15=>ifB (x15==0) (m13 () w7) (m9 () w7)) (m9 () w7)) (λs14 w8=>zr (S:=Unit) (λm16=>(0<=s11.1/\s11.1<(x7.l:Int))/\zf x7.a λa18=>dx60 w8 (a18.add (s11.1.toNat *5)) λx19 x20 x21 x22 x23=>Nw (w8.alloc (.cells #[.string (BM #[]),zu 0,zu 0,.slice none 0 0,.slice none 0 0] 47)) λw9=>dO w9 (zB w8) (.string x19) (zu x20) (zu x21) (x22.zw) (x23.zw) λw14=>zr (S:=Unit) (λm24=>ldS w14.drew ((zB w8).add 3) λx26=>ldS w14.drew ((zB w8).add 3) λx27=>dj 28 #[x27.zw,zu p1] w14.drew λx29 w15=>w15.cell? ((zB w8).add 3)=some (x26.zw)/\dM 18 #[x26.zw,x29.zw] w15 λx31 w16=>ifB (!x31) (R (.bool false) w16) (ldS w16 ((zB w8).add 4) λx32=>ldS w16 ((zB w8).add 4) λx33=>dj 28 #[x33.zw,zu p1] w16 λx35 w17=>w17.cell? ((zB w8).add 4)=some (x32.zw)/\dM 18 #[x32.zw,x35.zw] w17 λx37 w18=>ifB (!x37) (R (.bool false) w18) (ldS w18 ((zB w8).add 4) λx38=>dM 18 #[x38.zw,.slice none 0 0] w18 λx40 w19=>ifB x40 (R (.bool false) w19) (m24 () w19)))) (λs25 w20=>zr (S:=Int×Unit) (λm41=>ifB (decide (p2<(0:Int))) (m41 (0,()) w20) (ldS w20 ((zB w8).add 4) λx43=>ifB (decide (p2≥(x43.l:Int))) (m41 (0,()) w20) (m41 (p2,()) w20))) (λs42 w21=>ldS w21 ((zB w8).add 4) λx44=>dj 28 #[x44.zw,zu p1] w21 λx46 w22=>(0<=s42.1/\s42.1<(x46.l:Int))/\zf x46.a λa47=>ldS w22 ((a47.add (s42.1.toNat *3)).add 2) λx48=>Nw (w22.alloc (.cells #[zu p1] 22)) λw23=>zC Tryz.prog 56 (x48.zw) (.slice (some (zB w22)) 1 1) w23 λr49 w24=>(0<=s42.1/\s42.1<(x46.l:Int))/\zf x46.a λa50=>Wr w24 ((a50.add (s42.1.toNat *3)).add 2)/\Nw (w24.setCell ((a50.add (s42.1.toNat *3)).add 2) (r49.zw)) λw25=>ldS w25 ((zB w8).add 4) λx51=>dj 28 #[x51.zw,zu p1] w25 λx53 w26=>(0<=s42.1/\s42.1<(x53.l:Int))/\zf x53.a λa54=>ldI w26 (a54.add (s42.1.toNat *3)) .i64 λx55=>(0<=s42.1/\s42.1<(x53.l:Int))/\zf x53.a λa56=>Wr w26 (a56.add (s42.1.toNat *3))/\Nw (w26.setCell (a56.add (s42.1.toNat *3)) (zi (IntKind.i64.wrap (x55+(1:Int))))) λw27=>ldS w27 ((zB w8).add 4) λx57=>dj 28 #[x57.zw,zu p1] w27 λx59 w28=>zr (S:=Unit) (λm60=>ldS w28.drew ((zB w8).add 4) λx62=>dM 18 #[x62.zw,x46.zw] w28.drew λx64 w29=>ifB x64 (R (.bool false) w29) (ldS w29 ((zB w8).add 4) λx65=>dM 18 #[x65.zw,x53.zw] w29 λx67 w30=>ifB x67 (R (.bool false) w30) (ldS w30 ((zB w8).add 4) λx68=>(0<=(0:Int)/\0<=(IntKind.i64.wrap ((x59.l:Int)-1))/\(IntKind.i64.wrap ((x59.l:Int)-1))<=(x59.c:Int))/\dM 18 #[x68.zw,.slice (if x59.c=0 then x59.a else Option.map (λa=>a.add (0*3)) x59.a) ((Int.toNat (IntKind.i64.wrap ((x59.l:Int)-1)))-0) (x59.c-0)] w30 λx70 w31=>ifB x70 (R (.bool false) w31) (m60 () w31)))) (λs61 w32=>Nw (w32.alloc (.cells #[.string (BM #[]),zu 0,zu 0,.slice none 0 0,.slice none 0 0] 47)) λw33=>dO w33 (zB w32) (.string (BM #[120])) (zu 4) (zu 0) (.slice none 0 0) (.slice none 0 0) λw38=>zo (S:=Int×Unit) (λs71 w39 n72=>ldS w39 ((zB w8).add 4) λx73=>ifB (decide (s71.1<(x73.l:Int))) (zr (S:=Unit) (λm74=>ldS w39 ((zB w8).add 4) λx76=>(0<=s71.1/\s71.1<(x76.l:Int))/\zf x76.a λa77=>dY w39 (a77.add (s71.1.toNat *6)) λx78 x79 x80 x81 x82 x83=>dx51 w39 #[zu 0,zi 0,zi 0,zu 0,zi 0,.bool false] 52 (zu x78) (zi x79) (zi x80) (zu x81) (zi x82) (.bool x83) λw46=>ldI w46 ((zB w39).add 2) .i64 λx84=>ifB (decide (x84<(0:Int))) (ldS w46 ((zB w32).add 3) λx85=>ldI w46 ((zB w39).add 1) .i64 λx86=>ldI w46 ((zB w39).add 4) .i64 λx87=>ldB w46 ((zB w39).add 5) λx88=>Nw (w46.alloc (.cells #[zu 1,zi x86,zi (-1:Int),zu 0,zi x87,.bool x88] 52)) λw47=>zC Tryz.prog 45 (x85.zw) (.slice (some (zB w46)) 1 1) w47 λr89 w48=>Wr w48 ((zB w32).add 3)/\Nw (w48.setCell ((zB w32).add 3) (r89.zw)) λw49=>m74 () w49) (m74 () w46)) (λs75 w50=>n72 ((IntKind.i64.wrap (s71.1+(1:Int))),()) w50)) (dx60 w39 (zB w8) λx90 x91 x92 x93 x94=>dx60 w39 (zB w32) λx95 x96 x97 x98 x99=>dn 22 #[.agg #[.string x90,zu x91,zu x92,x93.zw,x94.zw],.agg #[.string x95,zu x96,zu x97,x98.zw,x99.zw]] w39 λx101 w51=>ldI w51 ((zB w8).add 1) .u32 λx102=>ifB (x102==0) (ifB (x101 !=0) (R (.bool false) w51) (ldI w51 ((zB w8).add 1) .u32 λx103=>ifB (x103==4) (ifB (x101 !=203) (R (.bool false) w51) (m16 () w51)) (m16 () w51))) (ldI w51 ((zB w8).add 1) .u32 λx104=>ifB (x104==4) (ifB (x101 !=203) (R (.bool false) w51) (m16 () w51)) (m16 () w51)))) (0,()) w38)))) (λs17 w52=>n12 ((IntKind.i64.wrap (s11.1+(1:Int))),()) w52))) (0,()) w6) (λs10 w53=>dM 11 #[] w53 λx106 w54=>R (.bool x106) w54)
theorem zbl(p0)(p1)(p2)(R)(w)(h:ZR p0 p1 p2 R w):Calls Tryz.prog 7 #[.agg #[.int .u32 p0.1,.int .u32 p0.2.1,.slice p0.2.2.1.a p0.2.2.1.l p0.2.2.1.c],.int .u32 p1,.int .i64 p2] w (Ret R):=lwC ZV Tryz.func7 (by kernel_rfl) (by kernel_rfl) h
def zav:Ann:=(.q (.q (.q (.q .nil))))
def zak  (R:VWP) (w:World):Prop:=dx61 39 #[zu 0] w λx2 w1=>dx62 38 #[.agg #[zu x2.1,zu x2.2.1,x2.2.2.1.zw],.string (BM #[109,97,105,110]),zu 4] w1 λx4 x5 w2=>Nw (w2.alloc (.cells #[.string (BM #[]),zu 0,zu 0,.slice none 0 0,.slice none 0 0] 47)) λw3=>dO w3 (zB w2) (.string x4.1) (zu x4.2.1) (zu x4.2.2.1) (x4.2.2.2.1.zw) (x4.2.2.2.2.1.zw) λw8=>dx61 39 #[zu 0] w8 λx7 w9=>dx62 38 #[.agg #[zu x7.1,zu x7.2.1,x7.2.2.1.zw],.string (BM #[109,97,105,110]),zu 0] w9 λx9 x10 w10=>Nw (w10.alloc (.cells #[.string (BM #[]),zu 0,zu 0,.slice none 0 0,.slice none 0 0] 47)) λw11=>dO w11 (zB w10) (.string x9.1) (zu x9.2.1) (zu x9.2.2.1) (x9.2.2.2.1.zw) (x9.2.2.2.2.1.zw) λw16=>ifB (x5==0) (ifB (x10==5) (ldI w16 ((zB w2).add 2) .u32 λx11=>ifB (x11==6) (ldS w16 ((zB w2).add 3) λx12=>ifB ((x12.l:Int)==0) (ldS w16 ((zB w2).add 4) λx13=>ifB ((x13.l:Int)==1) (ldS w16 ((zB w2).add 4) λx14=>(0<=(0:Int)/\0<(x14.l:Int))/\zf x14.a λa15=>dY w16 (a15.add (0*6)) λx16 x17 x18 x19 x20 x21=>ifB (x16==5&&(x17==0&&(x18==(-1:Int)&&(x19==2&&(x20==1&&(x21==true&&true)))))) (dx61 39 #[zu 1] w16 λx23 w17=>dL 13 #[.agg #[zu x23.1,zu x23.2.1,x23.2.2.1.zw]] w17 λx25 w18=>R (.bool (x25.1==201&&(x25.2.1==1&&true))) w18) (R (.bool false) w16)) (R (.bool false) w16)) (R (.bool false) w16)) (R (.bool false) w16)) (R (.bool false) w16)) (R (.bool false) w16)
theorem zcX(R)(w)(h:zak  R w):Calls Tryz.prog 11 #[] w (Ret R):=lwC zav Tryz.func11 (by kernel_rfl) (by kernel_rfl) h
def zaw:Ann:=(.q (.q (.seq none (.q (.one (.loop ⟨[0,1],[(5,(.b .slice)),(6,(.b (.int .i64)))]⟩ (.seq none (.q .c) (.seq none (.one (.q (.seq none (.q (.one (.loop ⟨[0,1,5,6,7],[(8,(.b (.int .i64)))]⟩ (.seq none (.q .c) (.seq none (.one .nil) .nil))))) .nil))) .nil))))) (.q .nil))))
def zal(p0:Sl)(p1:Int)(R:VWP)(w:World):Prop:=zo (S:=Sl×Int×Unit) (λs1 w1 n2=>ifB (decide (s1.2.1<(p0.l:Int))) ((0<=s1.2.1/\s1.2.1<(p0.l:Int))/\zf p0.a λa3=>ldI w1 ((a3.add (s1.2.1.toNat *6)).add 4) .i64 λx4=>(0<=x4/\x4<=x4/\4*x4<=281474976710656/\x4<=9223372036854775807)/\Nw (w1.alloc (.cells (madeCells #[zu 0] (x4.toNat *1)) 22)) λw2=>zo (S:=Int×Unit) (λs5 w3 n6=>ifB (decide (s5.1<(x4.toNat:Int))) ((0<=s5.1/\s5.1<(x4.toNat:Int))/\Wr w3 ((zB w1).add s5.1.toNat)/\Nw (w3.setCell ((zB w1).add s5.1.toNat) (zu p1)) λw4=>n6 ((IntKind.i64.wrap (s5.1+(1:Int))),()) w4) ((0<=s1.2.1/\s1.2.1<(p0.l:Int))/\zf p0.a λa7=>ldI w3.drew ((a7.add (s1.2.1.toNat *6)).add 1) .i64 λx8=>(0<=s1.2.1/\s1.2.1<(p0.l:Int))/\zf p0.a λa9=>ldI w3.drew ((a9.add (s1.2.1.toNat *6)).add 2) .i64 λx10=>Nw (w3.drew.alloc (.cells #[zi x8,zi x10,.slice (some (zB w1)) x4.toNat x4.toNat] 58)) λw5=>zC Tryz.prog 54 (s1.1.zw) (.slice (some (blk w3.drew.heap.size)) 1 1) w5 λr11 w6=>n2 (r11,(IntKind.i64.wrap (s1.2.1+(1:Int))),()) w6)) (0,()) w2) (R (s1.1.zw) w1)) ((Sl.mk none 0 0),0,()) w
theorem zcY(p0)(p1)(R)(w)(h:zal p0 p1 R w):Calls Tryz.prog 28 #[.slice p0.a p0.l p0.c,.int .u32 p1] w (Ret R):=lwC zaw Tryz.func28 (by kernel_rfl) (by kernel_rfl) h
def zax:Ann:=(.q (.q (.q (.q (.q (.q (.q (.q (.q (.q (.q (.q (.q (.q (.q (.q (.q (.q (.q (.q .nil))))))))))))))))))))
def zam(p0:Int)(R:VWP)(w:World):Prop:=Nw (w.alloc (.cells #[zu 0,zu 0,.slice none 0 0] 25)) λw1=>dV w1 #[zu 0,zu 0,.slice none 0 0] 25 (zu 0) (zu 20) (.slice none 0 0) λw5=>ldS w5.drew ((zB w1).add 2) λx1=>dx63 68 #[zu 0] w5.drew λx3 w6=>w6.cell? ((zB w1).add 2)=some (x1.zw)/\dx63 68 #[zu 0] w6 λx5 w7=>w7.cell? ((zB w1).add 2)=some (x1.zw)/\dj 67 #[.agg #[zb x3.1,zu x3.2.1,.string x3.2.2.1],.agg #[zb x5.1,zu x5.2.1,.string x5.2.2.1]] w7 λx7 w8=>w8.cell? ((zB w1).add 2)=some (x1.zw)/\Nw (w8.alloc (.cells #[zh 14,zu 0,zu 0,x7.zw] 44)) λw9=>w9.cell? ((zB w1).add 2)=some (x1.zw)/\zC Tryz.prog 23 (x1.zw) (.slice (some (zB w8)) 1 1) w9 λr8 w10=>Wr w10 ((zB w1).add 2)/\Nw (w10.setCell ((zB w1).add 2) (r8.zw)) λw11=>dx63 68 #[zu 4] w11 λx10 w12=>dx63 69 #[zu 6] w12 λx12 w13=>dj 67 #[.agg #[zb x10.1,zu x10.2.1,.string x10.2.2.1],.agg #[zb x12.1,zu x12.2.1,.string x12.2.2.1]] w13 λx14 w14=>dg w14 #[zh 0,zu 0,zu 0,.slice none 0 0] 44 (zh 15) (zu 0) (zu 0) (x14.zw) λw19=>ldS w19.drew ((zB w14).add 3) λx15=>dx63 70 #[.string (BM #[109,97,105,110])] w19.drew λx17 w20=>w20.cell? ((zB w14).add 3)=some (x15.zw)/\dx63 69 #[zu 5] w20 λx19 w21=>w21.cell? ((zB w14).add 3)=some (x15.zw)/\Nw (w21.alloc (.cells #[zb x17.1,zu x17.2.1,.string x17.2.2.1,zb x19.1,zu x19.2.1,.string x19.2.2.1] 123)) λw22=>w22.cell? ((zB w14).add 3)=some (x15.zw)/\zC Tryz.prog 42 (x15.zw) (.slice (some (zB w21)) 2 2) w22 λr20 w23=>Wr w23 ((zB w14).add 3)/\Nw (w23.setCell ((zB w14).add 3) (r20.zw)) λw24=>ldS w24 ((zB w1).add 2) λx21=>dc w24 (zB w14) λx22 x23 x24 x25=>Nw (w24.alloc (.cells #[zh x22,zu x23,zu x24,x25.zw] 44)) λw25=>zC Tryz.prog 23 (x21.zw) (.slice (some (zB w24)) 1 1) w25 λr26 w26=>Wr w26 ((zB w1).add 2)/\Nw (w26.setCell ((zB w1).add 2) (r26.zw)) λw27=>ldS w27.drew ((zB w1).add 2) λx27=>dx63 69 #[zu 6] w27.drew λx29 w28=>w28.cell? ((zB w1).add 2)=some (x27.zw)/\dx63 68 #[zu 7] w28 λx31 w29=>w29.cell? ((zB w1).add 2)=some (x27.zw)/\dj 67 #[.agg #[zb x29.1,zu x29.2.1,.string x29.2.2.1],.agg #[zb x31.1,zu x31.2.1,.string x31.2.2.1]] w29 λx33 w30=>w30.cell? ((zB w1).add 2)=some (x27.zw)/\Nw (w30.alloc (.cells #[zh 16,zu 0,zu 0,x33.zw] 44)) λw31=>w31.cell? ((zB w1).add 2)=some (x27.zw)/\zC Tryz.prog 23 (x27.zw) (.slice (some (zB w30)) 1 1) w31 λr34 w32=>Wr w32 ((zB w1).add 2)/\Nw (w32.setCell ((zB w1).add 2) (r34.zw)) λw33=>dx63 69 #[zu 5] w33 λx36 w34=>dx63 68 #[zu 30] w34 λx38 w35=>dj 67 #[.agg #[zb x36.1,zu x36.2.1,.string x36.2.2.1],.agg #[zb x38.1,zu x38.2.1,.string x38.2.2.1]] w35 λx40 w36=>dg w36 #[zh 0,zu 0,zu 0,.slice none 0 0] 44 (zh 71) (zu 0) (zu 0) (x40.zw) λw41=>ldS w41.drew ((zB w36).add 3) λx41=>dx63 71 #[zu p0] w41.drew λx43 w42=>w42.cell? ((zB w36).add 3)=some (x41.zw)/\Nw (w42.alloc (.cells #[zb x43.1,zu x43.2.1,.string x43.2.2.1] 123)) λw43=>w43.cell? ((zB w36).add 3)=some (x41.zw)/\zC Tryz.prog 42 (x41.zw) (.slice (some (zB w42)) 1 1) w43 λr44 w44=>Wr w44 ((zB w36).add 3)/\Nw (w44.setCell ((zB w36).add 3) (r44.zw)) λw45=>ldS w45 ((zB w1).add 2) λx45=>dc w45 (zB w36) λx46 x47 x48 x49=>Nw (w45.alloc (.cells #[zh x46,zu x47,zu x48,x49.zw] 44)) λw46=>zC Tryz.prog 23 (x45.zw) (.slice (some (zB w45)) 1 1) w46 λr50 w47=>Wr w47 ((zB w1).add 2)/\Nw (w47.setCell ((zB w1).add 2) (r50.zw)) λw48=>ldS w48 ((zB w1).add 2) λx51=>Nw (w48.alloc (.cells #[zh 19,zu 0,zu 1,.slice none 0 0] 44)) λw49=>zC Tryz.prog 23 (x51.zw) (.slice (some (zB w48)) 1 1) w49 λr52 w50=>Wr w50 ((zB w1).add 2)/\Nw (w50.setCell ((zB w1).add 2) (r52.zw)) λw51=>ldS w51.drew ((zB w1).add 2) λx53=>dx63 71 #[zu 32] w51.drew λx55 w52=>w52.cell? ((zB w1).add 2)=some (x53.zw)/\dx63 71 #[zu 1] w52 λx57 w53=>w53.cell? ((zB w1).add 2)=some (x53.zw)/\dj 67 #[.agg #[zb x55.1,zu x55.2.1,.string x55.2.2.1],.agg #[zb x57.1,zu x57.2.1,.string x57.2.2.1]] w53 λx59 w54=>w54.cell? ((zB w1).add 2)=some (x53.zw)/\Nw (w54.alloc (.cells #[zh 21,zu 0,zu 2,x59.zw] 44)) λw55=>w55.cell? ((zB w1).add 2)=some (x53.zw)/\zC Tryz.prog 23 (x53.zw) (.slice (some (zB w54)) 1 1) w55 λr60 w56=>Wr w56 ((zB w1).add 2)/\Nw (w56.setCell ((zB w1).add 2) (r60.zw)) λw57=>ldS w57.drew ((zB w1).add 2) λx61=>dx63 69 #[zu 1] w57.drew λx63 w58=>w58.cell? ((zB w1).add 2)=some (x61.zw)/\dx63 69 #[zu 1] w58 λx65 w59=>w59.cell? ((zB w1).add 2)=some (x61.zw)/\dj 67 #[.agg #[zb x63.1,zu x63.2.1,.string x63.2.2.1],.agg #[zb x65.1,zu x65.2.1,.string x65.2.2.1]] w59 λx67 w60=>w60.cell? ((zB w1).add 2)=some (x61.zw)/\(0<=(0:Int)/\(0:Int)<=1/\1<=(x67.c:Int))/\Nw (w60.alloc (.cells #[zh 33,zu 0,zu 3,.slice (if x67.c=0 then x67.a else Option.map (λa=>a.add (0*3)) x67.a) (1-0) (x67.c-0)] 44)) λw61=>w61.cell? ((zB w1).add 2)=some (x61.zw)/\zC Tryz.prog 23 (x61.zw) (.slice (some (zB w60)) 1 1) w61 λr68 w62=>Wr w62 ((zB w1).add 2)/\Nw (w62.setCell ((zB w1).add 2) (r68.zw)) λw63=>ldS w63.drew ((zB w1).add 2) λx69=>dx63 68 #[zu 3] w63.drew λx71 w64=>w64.cell? ((zB w1).add 2)=some (x69.zw)/\dx63 69 #[zu 2] w64 λx73 w65=>w65.cell? ((zB w1).add 2)=some (x69.zw)/\dj 67 #[.agg #[zb x71.1,zu x71.2.1,.string x71.2.2.1],.agg #[zb x73.1,zu x73.2.1,.string x73.2.2.1]] w65 λx75 w66=>w66.cell? ((zB w1).add 2)=some (x69.zw)/\Nw (w66.alloc (.cells #[zh 32,zu 0,zu 4,x75.zw] 44)) λw67=>w67.cell? ((zB w1).add 2)=some (x69.zw)/\zC Tryz.prog 23 (x69.zw) (.slice (some (zB w66)) 1 1) w67 λr76 w68=>Wr w68 ((zB w1).add 2)/\Nw (w68.setCell ((zB w1).add 2) (r76.zw)) λw69=>ldS w69.drew ((zB w1).add 2) λx77=>dx63 68 #[zu 3] w69.drew λx79 w70=>w70.cell? ((zB w1).add 2)=some (x77.zw)/\dx63 68 #[zu 3] w70 λx81 w71=>w71.cell? ((zB w1).add 2)=some (x77.zw)/\dj 67 #[.agg #[zb x79.1,zu x79.2.1,.string x79.2.2.1],.agg #[zb x81.1,zu x81.2.1,.string x81.2.2.1]] w71 λx83 w72=>w72.cell? ((zB w1).add 2)=some (x77.zw)/\(0<=(0:Int)/\(0:Int)<=1/\1<=(x83.c:Int))/\Nw (w72.alloc (.cells #[zh 59,zu 4,zu 5,.slice (if x83.c=0 then x83.a else Option.map (λa=>a.add (0*3)) x83.a) (1-0) (x83.c-0)] 44)) λw73=>w73.cell? ((zB w1).add 2)=some (x77.zw)/\zC Tryz.prog 23 (x77.zw) (.slice (some (zB w72)) 1 1) w73 λr84 w74=>Wr w74 ((zB w1).add 2)/\Nw (w74.setCell ((zB w1).add 2) (r84.zw)) λw75=>ldS w75.drew ((zB w1).add 2) λx85=>dx63 68 #[zu 0] w75.drew λx87 w76=>w76.cell? ((zB w1).add 2)=some (x85.zw)/\dx63 69 #[zu 3] w76 λx89 w77=>w77.cell? ((zB w1).add 2)=some (x85.zw)/\dj 67 #[.agg #[zb x87.1,zu x87.2.1,.string x87.2.2.1],.agg #[zb x89.1,zu x89.2.1,.string x89.2.2.1]] w77 λx91 w78=>w78.cell? ((zB w1).add 2)=some (x85.zw)/\Nw (w78.alloc (.cells #[zh 54,zu 1,zu 6,x91.zw] 44)) λw79=>w79.cell? ((zB w1).add 2)=some (x85.zw)/\zC Tryz.prog 23 (x85.zw) (.slice (some (zB w78)) 1 1) w79 λr92 w80=>Wr w80 ((zB w1).add 2)/\Nw (w80.setCell ((zB w1).add 2) (r92.zw)) λw81=>ldS w81 ((zB w1).add 2) λx93=>Nw (w81.alloc (.cells #[zh 248,zu 0,zu 7,.slice none 0 0] 44)) λw82=>zC Tryz.prog 23 (x93.zw) (.slice (some (zB w81)) 1 1) w82 λr94 w83=>Wr w83 ((zB w1).add 2)/\Nw (w83.setCell ((zB w1).add 2) (r94.zw)) λw84=>ldS w84 ((zB w1).add 2) λx95=>Nw (w84.alloc (.cells #[zh 253,zu 0,zu 0,.slice none 0 0] 44)) λw85=>zC Tryz.prog 23 (x95.zw) (.slice (some (zB w84)) 1 1) w85 λr96 w86=>Wr w86 ((zB w1).add 2)/\Nw (w86.setCell ((zB w1).add 2) (r96.zw)) λw87=>ldS w87 ((zB w1).add 2) λx97=>Nw (w87.alloc (.cells #[zh 56,zu 0,zu 0,.slice none 0 0] 44)) λw88=>zC Tryz.prog 23 (x97.zw) (.slice (some (zB w87)) 1 1) w88 λr98 w89=>Wr w89 ((zB w1).add 2)/\Nw (w89.setCell ((zB w1).add 2) (r98.zw)) λw90=>da w90 (zB w1) λx99 x100 x101=>dl w90 (zB w) (zu x99) (zu x100) (x101.zw) λw93=>da w93 (zB w) λx102 x103 x104=>R (.agg #[zu x102,zu x103,x104.zw]) w93
theorem zcZ(p0)(R)(w)(h:zam p0 R w):Calls Tryz.prog 39 #[.int .u32 p0] w (Ret R):=lwC zax Tryz.func39 (by kernel_rfl) (by kernel_rfl) h
def zaZ:Ann:=(.q (.q (.q (.q (.q .nil)))))
def zaM(p0:(Int×Int×ByteArray×Unit))(p1:(Int×Int×ByteArray×Unit))(R:VWP)(w:World):Prop:=Nw (w.alloc (.cells #[zb p0.1,zu p0.2.1,.string p0.2.2.1] 123)) λw1=>Nw (w1.alloc (.cells #[zb p1.1,zu p1.2.1,.string p1.2.2.1] 123)) λw2=>(0<=(2:Int)/\(2:Int)<=2/\(24:Int)*(2:Int)<=281474976710656/\(2:Int)<=9223372036854775807)/\Nw (w2.alloc (.cells (madeCells #[zb 0,zu 0,.string (BM #[])] (2*3)) 123)) λw3=>dz w3 (zB w) λx1 x2 x3=>(0<=(0:Int)/\(0:Int)<2)/\Wr w3 ((zB w2).add (0*3))/\Nw (w3.setCell ((zB w2).add (0*3)) (zb x1)) λw4=>Wr w4 (((zB w2).add (0*3)).add 1)/\Nw (w4.setCell (((zB w2).add (0*3)).add 1) (zu x2)) λw5=>Wr w5 (((zB w2).add (0*3)).add 2)/\Nw (w5.setCell (((zB w2).add (0*3)).add 2) (.string x3)) λw6=>dz w6 (zB w1) λx4 x5 x6=>(0<=(1:Int)/\(1:Int)<2)/\Wr w6 ((zB w2).add (1*3))/\Nw (w6.setCell ((zB w2).add (1*3)) (zb x4)) λw7=>Wr w7 (((zB w2).add (1*3)).add 1)/\Nw (w7.setCell (((zB w2).add (1*3)).add 1) (zu x5)) λw8=>Wr w8 (((zB w2).add (1*3)).add 2)/\Nw (w8.setCell (((zB w2).add (1*3)).add 2) (.string x6)) λw9=>R (.slice (some (zB w2)) 2 2) w9
theorem zdC(p0)(p1)(R)(w)(h:zaM p0 p1 R w):Calls Tryz.prog 67 #[.agg #[.int .u8 p0.1,.int .u32 p0.2.1,.string p0.2.2.1],.agg #[.int .u8 p1.1,.int .u32 p1.2.1,.string p1.2.2.1]] w (Ret R):=lwC zaZ Tryz.func67 (by kernel_rfl) (by kernel_rfl) h
end Go.Proofs
namespace Go.Proofs
open Go.Gk Go.RowKit Go.Gm
abbrev agA(a:Ag):Value:=.agg #[.int .u8 a.1,.int .u32 a.2.1,.string a.2.2]
def Arg1(f:Nat)(n:Int)(a:Ag):Prop:=∀(w:World) (R:VWP),(∀w',Below w.heap.size w w'->R (agA a) w')->cR f #[.int .u32 n] w R
theorem zio(n:Int):Arg1 68 n (4,n,bs []):=λw R hR=>by
 refine ze.of (zeI n R w ?_) λ_ _ h=>h
 refine box3 rfl λw4 h4 b4 z4=>?_
 exact h4.rI (n:=0) (x:=4) rfl (h4.rI (n:=1) (x:=n) rfl (h4.rT (n:=2) (x:=bs []) rfl (hR w4 b4)))
theorem fId(n:Int):Arg1 69 n (1,n,bs []):=λw R hR=>by
 refine ze.of (zfT n R w ?_) λ_ _ h=>h
 refine box3 rfl λw4 h4 b4 z4=>?_
 exact h4.rI (n:=0) (x:=1) rfl (h4.rI (n:=1) (x:=n) rfl (h4.rT (n:=2) (x:=bs []) rfl (hR w4 b4)))
theorem fNum(n:Int):Arg1 71 n (2,n,bs []):=λw R hR=>by
 refine ze.of (zdB n R w ?_) λ_ _ h=>h
 refine box3 rfl λw4 h4 b4 z4=>?_
 exact h4.rI (n:=0) (x:=2) rfl (h4.rI (n:=1) (x:=n) rfl (h4.rT (n:=2) (x:=bs []) rfl (hR w4 b4)))
section
variable {w:World} {R:VWP}
theorem zvO{s:ByteArray}(hR:∀w',Below w.heap.size w w'->R (agA (3,0,s)) w'):cR 70 #[.string s] w R:=by
 refine ze.of (zeJ s R w ?_) λ_ _ h=>h
 refine box3 rfl λw4 h4 b4 z4=>?_
 exact h4.rI (n:=0) (x:=3) rfl (h4.rI (n:=1) (x:=0) rfl (h4.rT (n:=2) (x:=s) rfl (hR w4 b4)))
theorem zq3{a b:Ag}(hR:∀w' c,w.heap.size<=c->Blk w' c 123 (flat agV [a,b])->Below w.heap.size w w'->R (.slice (some (blk c)) 2 2) w'):cR 67 #[agA a,agA b] w R:=by
 refine ze.of (zdC (a.1,a.2.1,a.2.2,()) (b.1,b.2.1,b.2.2,()) R w ?_) λ_ _ h=>h
 refine zp λw1 hA1 b1 z1=>zp λw2 hB2 b2 z2=>?_
 have hA1:Blk w1 w.heap.size 123 (agV a):=hA1
 have hB2:Blk w2 w1.heap.size 123 (agV b):=hB2
 refine⟨by decide,zp λw3 hC3 b3 z3=>?_⟩
 have hC3:Blk w3 w2.heap.size 123 [.int .u8 0,.int .u32 0,.string ⟨#[]⟩,.int .u8 0,.int .u32 0,.string ⟨#[]⟩]:=by
  have e:(madeCells #[(.int .u8 (0:Int)),(.int .u32 (0:Int)),(.string (BM #[]))] (2*3)).toList=[.int .u8 0,.int .u32 0,.string ⟨#[]⟩,.int .u8 0,.int .u32 0,.string ⟨#[]⟩]:=by kernel_rfl
  rw[e]at hC3
  exact hC3
 have hA3:=(hA1.below b2).below b3
 have hB3:=hB2.below b3
 have s1:=b1.size
 refine hA3.rI (n:=0) (x:=a.1) rfl (hA3.rI (n:=1) (x:=a.2.1) rfl (hA3.rT (n:=2) (x:=a.2.2) rfl ⟨by decide,?_⟩))
 have step:∀{w':World} {cs:List Value} {i:Nat} {x y z:Value} {K:World->Prop},Blk w' w2.heap.size 123 cs->i+2<cs.length->
   (∀w'',Blk w'' w2.heap.size 123 (((cs.set i x).set (i+1) y).set (i+2) z)->Chg w2.heap.size w' w''->K w'')->
   Wr w' ((blk w2.heap.size).add i)/\Nw (w'.setCell ((blk w2.heap.size).add i) x) λu1=>Wr u1 (((blk w2.heap.size).add i).add 1)/\Nw (u1.setCell (((blk w2.heap.size).add i).add 1) y) λu2=>Wr u2 (((blk w2.heap.size).add i).add 2)/\Nw (u2.setCell (((blk w2.heap.size).add i).add 2) z) K:=λ{w' cs i x y z K} hB hi hK=>by
  rw[zs,zs]
  refine⟨hB.wr (by omega),Nw.mk ?_⟩
  have h1:=hB.set i x
  refine⟨h1.wr (by rw[List.length_set];omega),Nw.mk ?_⟩
  have h2:=h1.set (i+1) y
  refine⟨h2.wr (by rw[List.length_set,List.length_set];omega),Nw.mk ?_⟩
  exact hK _ (h2.set (i+2) z) (((Chg.set _ _ _ _).trans (Chg.set _ _ _ _)).trans (Chg.set _ _ _ _))
 refine step hC3 (by show 0*3+2<6;decide) λw6 hC6 c6=>?_
 have hB6:=c6.blk hB3 (by omega)
 refine hB6.rI (n:=0) (x:=b.1) rfl (hB6.rI (n:=1) (x:=b.2.1) rfl (hB6.rT (n:=2) (x:=b.2.2) rfl ⟨by decide,?_⟩))
 refine step hC6 (by show 1*3+2<6;decide) λw9 hC9 c9=>?_
 have b12:=b1.on b2
 exact hR w9 w2.heap.size (by omega) hC9 (c9.below (c6.below (b12.on b3) (by omega)) (by omega))
end
structure Sm (w0 w:World) (mb:Nat) (s:Sl) (pl:List PI):Prop where
 below:Below w0.heap.size w0 w
 box:Blk w mb 25 (moV (0,20,s,()))
 lo:w0.heap.size<=mb
 own:zap w w0.heap.size s pl
section
variable {w0 w w':World} {mb:Nat} {s t:Sl} {pl:List PI} {p:PI}
theorem Sm.on(h:Sm w0 w mb s pl)(hb:Below w.heap.size w w'):Sm w0 w' mb s pl:=⟨h.below.on hb,h.box.below hb,h.lo,h.own.below hb⟩
theorem Sm.push(h:Sm w0 w mb s pl)(ht:Own w 123 3 t (flat agV p.2.2.2))(hF:zN w0.heap.size t){b:Nat}(hB:Blk w b 44 (inV (mkIn p t)))(hl:pl.length<=100){K:World->Prop}
  (hK:∀r w',Sm w0 w' mb r (pl++[p])->K w'):zC Tryz.prog 23 (.slice s.a s.l s.c) (.slice (some (blk b)) 1 1) w λr w1=>Wr w1 ((blk mb).add 2)/\Nw (w1.setCell ((blk mb).add 2) (.slice r.a r.l r.c)) K:=by
 refine h.own.push h.below ht hF hB (by omega) λr w1 hO hb hs hk=>?_
 have hM:=h.box.of_block (hk mb _ _ h.box (by decide))
 refine⟨hM.wr (n:=2) (by show 2<3;decide),Nw.mk (hK r _ ⟨?_,hM.set 2 _,h.lo,?_⟩)⟩
 ·exact(Chg.set mb 2 w1 _).below hb h.lo
 ·exact hO.chgT hM (by decide) (by decide) (Chg.set mb 2 w1 _)
theorem Sm.two{f1 f2:Nat}{n1 n2:Int}{a1 a2:Ag}(h1:Arg1 f1 n1 a1)(h2:Arg1 f2 n2 a2)(h:Sm w0 w mb s pl)(hl:pl.length<=100){op ty re:Int}{K:World->Prop}(hK:∀r w',Sm w0 w' mb r (pl++[(op,ty,re,[a1,a2])])->K w') :
  ldS w.drew ((blk mb).add 2) λx1=>cR f1 #[.int .u32 n1] w.drew λv2 w6=>∃x3:(Int×Int×ByteArray×Unit),v2=(.agg #[(.int .u8 x3.1),(.int .u32 x3.2.1),(.string x3.2.2.1)])/\w6.cell? ((blk mb).add 2)=some (.slice x1.a x1.l x1.c)/\
   cR f2 #[.int .u32 n2] w6 λv4 w7=>∃x5:(Int×Int×ByteArray×Unit),v4=(.agg #[(.int .u8 x5.1),(.int .u32 x5.2.1),(.string x5.2.2.1)])/\w7.cell? ((blk mb).add 2)=some (.slice x1.a x1.l x1.c)/\
   cR 67 #[(.agg #[(.int .u8 x3.1),(.int .u32 x3.2.1),(.string x3.2.2.1)]),(.agg #[(.int .u8 x5.1),(.int .u32 x5.2.1),(.string x5.2.2.1)])] w7 λv6 w8=>∃x7:Sl,v6=(.slice x7.a x7.l x7.c)/\w8.cell? ((blk mb).add 2)=some (.slice x1.a x1.l x1.c)/\
   Nw (w8.alloc (.cells #[(.int .u16 op),(.int .u32 ty),(.int .u32 re),(.slice x7.a x7.l x7.c)] 44)) λw9=>w9.cell? ((blk mb).add 2)=some (.slice x1.a x1.l x1.c)/\
   zC Tryz.prog 23 (.slice x1.a x1.l x1.c) (.slice (some (blk w8.heap.size)) 1 1) w9 λr8 w10=>Wr w10 ((blk mb).add 2)/\Nw (w10.setCell ((blk mb).add 2) (.slice r8.a r8.l r8.c)) K:=by
 have bd:Below w.heap.size w w.drew:=(Below.refl _ _).drew
 have hM:=h.box.drew
 refine hM.rS (n:=2) (x:=s) rfl (h1 _ _ λw6 b6=>⟨(a1.1,a1.2.1,a1.2.2,()),rfl,(hM.below b6).cell (n:=2) rfl,h2 _ _ λw7 b7=>⟨(a2.1,a2.2.1,a2.2.2,()),rfl,((hM.below b6).below b7).cell (n:=2) rfl,?_⟩⟩)
 refine zq3 (a:=a1) (b:=a2) λw8 c hc hC b8=>⟨⟨some (blk c),2,2⟩,rfl,(((hM.below b6).below b7).below b8).cell (n:=2) rfl,zp λw9 hI b9 z9=>⟨((((hM.below b6).below b7).below b8).below b9).cell (n:=2) rfl,?_⟩⟩
 have b09:=(((bd.on b6).on b7).on b8).on b9
 have s6:=b6.size
 have s7:=b7.size
 have hs:=h.below.size
 have hd:w.drew.heap.size=w.heap.size:=rfl
 refine(h.on b09).push (p:=(op,ty,re,[a1,a2])) (t:=⟨some (blk c),2,2⟩) ⟨rfl,.inr ⟨c,_,rfl,hC.below b9,Nat.le_refl _,(by show 2<=9223372036854775807;decide),rfl,rfl⟩⟩ (λa ha=>?_) hI hl hK
 cases ha
 show w0.heap.size<=c
 omega
theorem Sm.one{f1 f2:Nat}{n1 n2:Int}{a1 a2:Ag}(h1:Arg1 f1 n1 a1)(h2:Arg1 f2 n2 a2)(h:Sm w0 w mb s pl)(hl:pl.length<=100){op ty re:Int}{K:World->Prop}(hK:∀r w',Sm w0 w' mb r (pl++[(op,ty,re,[a1])])->K w') :
  ldS w.drew ((blk mb).add 2) λx1=>cR f1 #[.int .u32 n1] w.drew λv2 w6=>∃x3:(Int×Int×ByteArray×Unit),v2=(.agg #[(.int .u8 x3.1),(.int .u32 x3.2.1),(.string x3.2.2.1)])/\w6.cell? ((blk mb).add 2)=some (.slice x1.a x1.l x1.c)/\
   cR f2 #[.int .u32 n2] w6 λv4 w7=>∃x5:(Int×Int×ByteArray×Unit),v4=(.agg #[(.int .u8 x5.1),(.int .u32 x5.2.1),(.string x5.2.2.1)])/\w7.cell? ((blk mb).add 2)=some (.slice x1.a x1.l x1.c)/\
   cR 67 #[(.agg #[(.int .u8 x3.1),(.int .u32 x3.2.1),(.string x3.2.2.1)]),(.agg #[(.int .u8 x5.1),(.int .u32 x5.2.1),(.string x5.2.2.1)])] w7 λv6 w8=>∃x7:Sl,v6=(.slice x7.a x7.l x7.c)/\w8.cell? ((blk mb).add 2)=some (.slice x1.a x1.l x1.c)/\
   (0<=(0:Int)/\(0:Int)<=(1:Int)/\(1:Int)<=(x7.c:Int))/\
   Nw (w8.alloc (.cells #[(.int .u16 op),(.int .u32 ty),(.int .u32 re),(.slice (if x7.c=0 then x7.a else Option.map (λa=>a.add (0*3)) x7.a) (1-0) (x7.c-0))] 44)) λw9=>w9.cell? ((blk mb).add 2)=some (.slice x1.a x1.l x1.c)/\
   zC Tryz.prog 23 (.slice x1.a x1.l x1.c) (.slice (some (blk w8.heap.size)) 1 1) w9 λr8 w10=>Wr w10 ((blk mb).add 2)/\Nw (w10.setCell ((blk mb).add 2) (.slice r8.a r8.l r8.c)) K:=by
 have bd:Below w.heap.size w w.drew:=(Below.refl _ _).drew
 have hM:=h.box.drew
 refine hM.rS (n:=2) (x:=s) rfl (h1 _ _ λw6 b6=>⟨(a1.1,a1.2.1,a1.2.2,()),rfl,(hM.below b6).cell (n:=2) rfl,h2 _ _ λw7 b7=>⟨(a2.1,a2.2.1,a2.2.2,()),rfl,((hM.below b6).below b7).cell (n:=2) rfl,?_⟩⟩)
 refine zq3 (a:=a1) (b:=a2) λw8 c hc hC b8=>⟨⟨some (blk c),2,2⟩,rfl,(((hM.below b6).below b7).below b8).cell (n:=2) rfl,⟨by decide,by decide,(by show(1:Int)<=((2:Nat):Int);decide)⟩,zp λw9 hI b9 z9=>⟨((((hM.below b6).below b7).below b8).below b9).cell (n:=2) rfl,?_⟩⟩
 have b09:=(((bd.on b6).on b7).on b8).on b9
 have s6:=b6.size
 have s7:=b7.size
 have hs:=h.below.size
 have hd:w.drew.heap.size=w.heap.size:=rfl
 refine(h.on b09).push (p:=(op,ty,re,[a1])) (t:=⟨some (blk c),1,2⟩) ⟨rfl,.inr ⟨c,_,rfl,hC.below b9,(by show 1<=2;decide),(by show 2<=9223372036854775807;decide),rfl,rfl⟩⟩ (λa ha=>?_) hI hl hK
 cases ha
 show w0.heap.size<=c
 omega
theorem Sm.none(h:Sm w0 w mb s pl)(hl:pl.length<=100){op ty re:Int}{K:World->Prop}(hK:∀r w',Sm w0 w' mb r (pl++[(op,ty,re,[])])->K w') :
  ldS w ((blk mb).add 2) λx1=>Nw (w.alloc (.cells #[(.int .u16 op),(.int .u32 ty),(.int .u32 re),(.slice none 0 0)] 44)) λw9=>
   zC Tryz.prog 23 (.slice x1.a x1.l x1.c) (.slice (some (blk w.heap.size)) 1 1) w9 λr8 w10=>Wr w10 ((blk mb).add 2)/\Nw (w10.setCell ((blk mb).add 2) (.slice r8.a r8.l r8.c)) K:=by
 refine h.box.rS (n:=2) (x:=s) rfl (zp λw9 hI b9 z9=>?_)
 exact(h.on b9).push (p:=(op,ty,re,[])) (t:=⟨Option.none,0,0⟩) (Own.nil _ _ _) (λa ha=>by cases ha) hI hl hK
theorem zqj{u:World}{al new:List Ag}{b:Nat}(h:Own u 123 3 t (flat agV al))(hb:Below w.heap.size w u)(hF:zN w.heap.size t)(hB:Blk u b 123 (flat agV new))(hn:0<new.length)(hl:al.length+new.length<=100){k:Sl->World->Prop}{m:Nat}(hm:m=new.length)
  (hk:∀r w',Own w' 123 3 r (flat agV (al++new))->Below w.heap.size w w'->zN w.heap.size r->(∀i T cs,Blk u i T cs->T≠123->Blk w' i T cs)->k r w'):zC Tryz.prog 42 (.slice t.a t.l t.c) (.slice (some (blk b)) m m) u k:=by
 subst hm
 have htl:t.l=al.length:=by have:=h.1;rw[zM zJ]at this;omega
 refine yY eArg h (news:=flat agV new) (by rw[zM zJ]) (λj v hj=>hB.cell hj) (λv hv=>?_) (by omega) (by omega) λr w' h1 hl' hg=>?_
 ·obtain⟨x,_,hx⟩:=List.mem_flatMap.1 hv
  simp only[agV,List.mem_cons,List.not_mem_nil,or_false]at hx
  rcases hx with rfl |rfl |rfl<;>rfl
 ·rcases hg with⟨_,_,h3⟩ | ⟨b',h3,h4,h5⟩
  ·rw[h3]at hl';omega
  ·have hbb:w.heap.size<=b':=by
    rcases h4 with h4 |h4
    ·exact hF _ h4
    ·have:=hb.size
     omega
   have e:flat agV (al++new)=flat agV al++flat agV new:=by simp[flat]
   refine hk r w' (by rw[e];exact h1) (hb.trans (zZ h5 hbb hb.size)) (λa ha=>by rw[h3]at ha;cases ha;exact hbb) λi T cs hi hT=>hi.of_block (h5.block _ hi.lt λe=>?_)
   have e:=Option.some.inj e
   subst e
   rcases h4 with h4 |h4
   ·exact yh h hi (λq=>hT q.symm) h4
   ·have:=hi.lt
    omega
end
end Go.Proofs
namespace Go.Proofs
open Go.Gk Go.RowKit Go.Gm
section
variable {w:World} {R:VWP}
set_option maxHeartbeats 4000000 in
theorem zhB{loc:Int}(hR:∀w' s,IsPl w' s (smP loc)->Below w.heap.size w w'->R (moA (0,20,s,())) w'):cR 39 #[.int .u32 loc] w R:=by
 refine ze.of (zcZ loc R w ?_) λ_ _ h=>h
 refine zp λw1 hX1 b1 z1=>box3 rfl λw5 hM5 b5 z5=>?_
 have hX1:Blk w1 w.heap.size 25 (moV (0,0,⟨none,0,0⟩,())):=hX1
 have S0:Sm w1 w5 w1.heap.size ⟨none,0,0⟩ []:=⟨b5,hM5,Nat.le_refl _,zap.nil _ _⟩
 refine Sm.two (zio 0) (zio 0) S0 (by decide) λr1 w11 S1=>?_
 refine zio 4 _ _ λw12 b12=>⟨(4,4,bs [],()),rfl,fId 6 _ _ λw13 b13=>⟨(1,6,bs [],()),rfl,?_⟩⟩
 refine zq3 (a:=(4,4,bs [])) (b:=(1,6,bs [])) λw14 c hc hC b14=>⟨⟨some (blk c),2,2⟩,rfl,box4 rfl λw19 hE b19 z19=>?_⟩
 have b1114:=(b12.on b13).on b14
 have s12:=b12.size
 have s13:=b13.size
 have s14:=b1114.size
 refine hE.drew.rS (n:=3) (x:=⟨some (blk c),2,2⟩) rfl ?_
 refine zvO (s:=bs [109,97,105,110]) λw20 b20=>⟨(3,0,bs [109,97,105,110],()),rfl,(hE.drew.below b20).cell (n:=3) rfl,?_⟩
 refine fId 5 _ _ λw21 b21=>⟨(1,5,bs [],()),rfl,((hE.drew.below b20).below b21).cell (n:=3) rfl,zp λw22 hA22 b22 z22=>⟨(((hE.drew.below b20).below b21).below b22).cell (n:=3) rfl,?_⟩⟩
 have d19:Below w19.heap.size w19 w19.drew:=(Below.refl _ _).drew
 have b1922:=((d19.on b20).on b21).on b22
 have b1122:=(b1114.on b19).on b1922
 have hE22:=hE.below b1922
 have hC22:=(hC.below b19).below b1922
 refine zqj (w:=w11) (t:=⟨some (blk c),2,2⟩) (al:=[(4,4,bs []),(1,6,bs [])]) (new:=[(3,0,bs [109,97,105,110]),(1,5,bs [])]) ⟨rfl,.inr ⟨c,_,rfl,hC22,Nat.le_refl _,(by show 2<=9223372036854775807;decide),rfl,rfl⟩⟩ b1122 (λa ha=>by cases ha;show w11.heap.size<=c;omega) hA22 (by decide) (by decide) rfl λr20 w23 hO23 b23 hF23 hk23=>?_
 have hE23:=hk23 _ _ _ hE22 (by decide)
 refine⟨hE23.wr (n:=3) (by show 3<4;decide),Nw.gen λw24 e24=>?_⟩
 have c24:Chg w14.heap.size w23 w24:=by rw[e24];exact Chg.set _ _ _ _
 have hE24:Blk w24 w14.heap.size 44 [.int .u16 15,.int .u32 0,.int .u32 0,.slice r20.a r20.l r20.c]:=by rw[e24];exact hE23.set 3 _
 have b24:Below w11.heap.size w11 w24:=c24.below b23 (by omega)
 have hO24:Own w24 123 3 r20 (flat agV [(4,4,bs []),(1,6,bs []),(3,0,bs [109,97,105,110]),(1,5,bs [])]):=hO23.of_block λa ha=>c24.block _ λq=>by
  have:=yh hO23 hE23 (by decide)
  exact this (by rw[ha,<-q,<-(hO23.lt ha).1])
 have S24:=S1.on b24
 have s1:=S1.below.size
 refine S24.box.rS (n:=2) (x:=r1) rfl (hE24.rI (n:=0) rfl (hE24.rI (n:=1) rfl (hE24.rI (n:=2) rfl (hE24.rS (n:=3) (x:=r20) rfl (zp λw25 hI25 b25 z25=>?_)))))
 refine(S24.on b25).push (p:=(15,0,0,[(4,4,bs []),(1,6,bs []),(3,0,bs [109,97,105,110]),(1,5,bs [])])) (t:=r20) (hO24.below b25) (λa ha=>Nat.le_trans s1 (hF23 a ha)) hI25 (by decide) λr2 w27 S2=>?_
 refine Sm.two (fId 6) (zio 7) S2 (by decide) λr3 w33 S3=>?_
 clear hE hC hE22 hC22 hA22 hO23 hE23 hE24 hO24 S24 hI25 S2 hk23 b23 b24 b1122 b1922 d19 b1114 s12 s13 s14 s1
 refine fId 5 _ _ λw34 b34=>⟨(1,5,bs [],()),rfl,zio 30 _ _ λw35 b35=>⟨(4,30,bs [],()),rfl,?_⟩⟩
 refine zq3 (a:=(1,5,bs [])) (b:=(4,30,bs [])) λw36 c hc hC b36=>⟨⟨some (blk c),2,2⟩,rfl,box4 rfl λw41 hE b41 z41=>?_⟩
 have b3336:=(b34.on b35).on b36
 have s34:=b34.size
 have s35:=b35.size
 have s36:=b3336.size
 refine hE.drew.rS (n:=3) (x:=⟨some (blk c),2,2⟩) rfl ?_
 refine fNum loc _ _ λw42 b42=>⟨(2,loc,bs [],()),rfl,(hE.drew.below b42).cell (n:=3) rfl,zp λw43 hA43 b43 z43=>⟨((hE.drew.below b42).below b43).cell (n:=3) rfl,?_⟩⟩
 have d41:Below w41.heap.size w41 w41.drew:=(Below.refl _ _).drew
 have b4143:=(d41.on b42).on b43
 have b3343:=(b3336.on b41).on b4143
 have hE43:=hE.below b4143
 have hC43:=(hC.below b41).below b4143
 refine zqj (w:=w33) (t:=⟨some (blk c),2,2⟩) (al:=[(1,5,bs []),(4,30,bs [])]) (new:=[(2,loc,bs [])]) ⟨rfl,.inr ⟨c,_,rfl,hC43,Nat.le_refl _,(by show 2<=9223372036854775807;decide),rfl,rfl⟩⟩ b3343 (λa ha=>by cases ha;show w33.heap.size<=c;omega) hA43 (by show 0<1;decide) (by show 2+1<=100;decide) rfl λr44 w44 hO44 b44 hF44 hk44=>?_
 have hE44:=hk44 _ _ _ hE43 (by decide)
 refine⟨hE44.wr (n:=3) (by show 3<4;decide),Nw.gen λw45 e45=>?_⟩
 have c45:Chg w36.heap.size w44 w45:=by rw[e45];exact Chg.set _ _ _ _
 have hE45:Blk w45 w36.heap.size 44 [.int .u16 71,.int .u32 0,.int .u32 0,.slice r44.a r44.l r44.c]:=by rw[e45];exact hE44.set 3 _
 have b45:Below w33.heap.size w33 w45:=c45.below b44 (by omega)
 have hO45:Own w45 123 3 r44 (flat agV [(1,5,bs []),(4,30,bs []),(2,loc,bs [])]):=hO44.of_block λa ha=>c45.block _ λq=>by
  have:=yh hO44 hE44 (by decide)
  exact this (by rw[ha,<-q,<-(hO44.lt ha).1])
 have S45:=S3.on b45
 have s3:=S3.below.size
 refine S45.box.rS (n:=2) (x:=r3) rfl (hE45.rI (n:=0) rfl (hE45.rI (n:=1) rfl (hE45.rI (n:=2) rfl (hE45.rS (n:=3) (x:=r44) rfl (zp λw46 hI46 b46 z46=>?_)))))
 refine(S45.on b46).push (p:=(71,0,0,[(1,5,bs []),(4,30,bs []),(2,loc,bs [])])) (t:=r44) (hO45.below b46) (λa ha=>Nat.le_trans s3 (hF44 a ha)) hI46 (by show 3<=100;decide) λr4 w48 S4=>?_
 clear hE hC hE43 hC43 hA43 hO44 hE44 hE45 hO45 S45 hI46 hk44 b44 b45 b3343 b4143 d41 b3336 s34 s35 s36 s3
 refine Sm.none S4 (by show 4<=100;decide) λr5 w51 S5=>?_
 refine Sm.two (fNum 32) (fNum 1) S5 (by show 5<=100;decide) λr6 w57 S6=>?_
 refine Sm.one (fId 1) (fId 1) S6 (by show 6<=100;decide) λr7 w63 S7=>?_
 refine Sm.two (zio 3) (fId 2) S7 (by show 7<=100;decide) λr8 w69 S8=>?_
 refine Sm.one (zio 3) (zio 3) S8 (by show 8<=100;decide) λr9 w75 S9=>?_
 refine Sm.two (zio 0) (fId 3) S9 (by show 9<=100;decide) λr10 w81 S10=>?_
 refine Sm.none S10 (by show 10<=100;decide) λr11 w84 S11=>?_
 refine Sm.none S11 (by show 11<=100;decide) λr12 w87 S12=>?_
 refine Sm.none S12 (by show 12<=100;decide) λr13 w90 S13=>?_
 have hS:Sm w1 w90 w1.heap.size r13 (smP loc):=S13
 refine Mo.load hS.box (st3 (hX1.below hS.below) rfl λw93 hX93 c93=>Mo.load (x:=(0,20,r13,())) hX93 ?_)
 have s1:=b1.size
 exact hR w93 r13 (hS.own.keep λi hi _=>c93.block i (by omega)).isPl (c93.below (b1.trans (hS.below.mono (by omega))) (Nat.le_refl _))
end
theorem zvE:entF (ix (smP 0) 1)=(4,6,bs [109,97,105,110],[5]):=by decide +kernel
theorem zkl:entK (smP 0)=[1]:=by decide +kernel
theorem zuM:(fcP (smP 0)).pts [5] 1=[]:=by decide +kernel
theorem zuN:(fcP (smP 0)).pts [5] 3=[(5,0,-1,2,1,true,())]:=by kernel_rfl
theorem zpV{fs:List Fa}(h:FacL (smP 0) fs):∃f,fs=[f]/\f=(bs [109,97,105,110],4,6,[],[(5,0,-1,2,1,true,())]):=by
 obtain⟨h1,h2⟩:=h
 rw[zkl]at h1
 obtain⟨f,rfl⟩:=List.length_eq_one_iff.1 h1
 refine⟨f,rfl,?_⟩
 have:=h2 0 (by simp) (by rw[zkl];simp)
 have e:(entK (smP 0))[0]'(by rw[zkl];simp)=1:=by
  have:∀(l:List Nat) (hl:0<l.length),l=[1]->l[0]=1:=λl hl e=>by subst e;rfl
  exact this _ _ zkl
 rw[e]at this
 obtain⟨q1,q2,q3,q4,q5⟩:=this
 rw[zvE]at q1 q2 q3 q4 q5
 dsimp only at q1 q2 q3 q4 q5
 rw[zuM]at q4
 rw[zuN]at q5
 have e4:=q4.perm.eq_nil
 have e5:=List.perm_singleton.1 q5.perm
 obtain⟨a,b,c,d,g⟩:=f
 simp only[List.getElem_cons_zero]at q1 q2 q3 e4 e5
 rw[q1,q2,q3,e4,e5]
section
variable {w:World} {R:VWP}
set_option maxHeartbeats 4000000 in
theorem zod(ht:Tab w)(hR:∀w',Below w.heap.size w w'->R (.bool true) w'):cR 11 #[] w R:=by
 refine ze.of (zcX R w ?_) λ_ _ h=>h
 refine zhB (loc:=0) λw1 s hs b1=>⟨(0,20,s,()),rfl,?_⟩
 have hp:=zqO 0 (by decide)
 have nobad:∀{e a:Int} {Q:Prop},(e,a)=facE 20 (smP 0)->e≠0->Q:=λ{e a Q} h1 h2=>by
  rw[zuK]at h1
  exact absurd (congrArg Prod.fst h1) h2
 refine zlV (x:=(0,20,s,())) (name:=bs [109,97,105,110]) (model:=4) hs hp (by show(0:Int)<=20;decide) (ht.below b1) (λw2 e a h1 h2 _=>nobad h1 h2) (λw2 fs _ _ hfl hn _=>?_) (λw2 fs y f _ _ hfl hn b2 hy=>?_)
 ·obtain⟨f,rfl,rfl⟩:=zpV hfl
  exact absurd hn (by simp[fndF])
 obtain⟨f',rfl,rfl⟩:=zpV hfl
 have hn:f=(bs [109,97,105,110],4,6,[],[(5,0,-1,2,1,true,())]):=by
  have:fndF [(bs [109,97,105,110],4,6,[],[(5,0,-1,2,1,true,())])] (bs [109,97,105,110]) 4=some (bs [109,97,105,110],4,6,[],[(5,0,-1,2,1,true,())]):=by simp[fndF]
  rw[this]at hn
  exact(Option.some.inj hn).symm
 subst hn
 refine⟨y,0,rfl,box5 rfl λw8 hF8 b8 z8=>?_⟩
 have hF8:Blk w8 w2.heap.size 47 (faV y):=hF8
 have b08:=(b1.on b2).on b8
 refine zhB (loc:=0) λw9 s' hs' b9=>⟨(0,20,s',()),rfl,?_⟩
 have b09:=b08.on b9
 refine zlV (x:=(0,20,s',())) (name:=bs [109,97,105,110]) (model:=0) hs' hp (by show(0:Int)<=20;decide) (ht.below b09) (λw10 e a h1 h2 _=>nobad h1 h2) (λw10 fs _ _ hfl' _ b10=>?_) (λw10 fs y' f _ _ hfl' hn' _ _=>?_)
 rotate_left
 ·obtain⟨f',rfl,rfl⟩:=zpV hfl'
  have:fndF [(bs [109,97,105,110],4,6,[],[(5,0,-1,2,1,true,())])] (bs [109,97,105,110]) 0=none:=by simp[fndF]
  rw[this]at hn'
  cases hn'
 refine⟨faZ,5,rfl,box5 rfl λw16 hG16 b16 z16=>?_⟩
 have b816:=(b9.on b10).on b16
 have b016:=b08.on b816
 have hF16:=hF8.below b816
 have hy16:=(hy.below b8).below b816
 have e3:y.2.2.1=6:=hy16.fn
 have hi:y.2.2.2.1.l=0:=hy16.ins.len
 have ho:y.2.2.2.2.1.l=1:=hy16.outs.len
 refine zW rfl (zW rfl (hF16.rI (n:=2) (x:=y.2.2.1) rfl (zn (λ_=>?_) (λq=>absurd e3 q))))
 refine hF16.rS (n:=3) (x:=y.2.2.2.1) rfl (zn (λ_=>?_) (λq=>absurd (by rw[hi];rfl) q))
 refine hF16.rS (n:=4) (x:=y.2.2.2.2.1) rfl (zn (λ_=>?_) (λq=>absurd (by rw[ho];rfl) q))
 refine hF16.rS (n:=4) (x:=y.2.2.2.2.1) rfl ?_
 obtain⟨a,ha⟩:=hy16.outs.base (i:=0) (by decide)
 have hc:=λj hj=>hy16.outs.cell a ha 0 (by decide) j hj
 refine⟨⟨by decide,by omega⟩,zj ha ⟨_,by rw[zs];exact hc 0 (by decide),_,by rw[zs];exact hc 1 (by decide),_,by rw[zs];exact hc 2 (by decide),_,by rw[zs];exact hc 3 (by decide),_,by rw[zs];exact hc 4 (by decide),_,by rw[zs];exact hc 5 (by decide),?_⟩⟩
 refine zW rfl ?_
 refine zhB (loc:=1) λw17 s'' hs'' b17=>⟨(0,20,s'',()),rfl,?_⟩
 refine zmT (x:=(0,20,s'',())) hs'' (zqO 1 (by decide)) (by show(0:Int)<=20;decide) (ht.below (b016.on b17)) λw18 b18=>⟨((facE 20 (smP 1)).1,(facE 20 (smP 1)).2,()),rfl,?_⟩
 rw[zuL]
 exact hR w18 ((b016.on b17).on b18)
end
end Go.Proofs
namespace Go.Proofs
open Go.Gk Go.RowKit Go.Gm
end Go.Proofs
namespace Go.Proofs
open Go.Gk
set_option linter.unusedVariables false
set_option maxRecDepth 100000
end Go.Proofs
namespace Go.Proofs
open Go.Gk Go.RowKit Go.Gm
end Go.Proofs
namespace Go.Proofs
open Go.Gk Go.RowKit Go.Gm
def AR(bd:Int)(pl:List PI)(w:World)(s:Sl)(e a:Int):Prop:=(e,a)=facE bd pl/\∃fs,zeX w s fs/\((e≠0/\fs=[])\/(facE bd pl=(0,0)/\zju bd pl/\FacL pl fs))
theorem zeX.nil(w:World):zeX w ⟨none,0,0⟩ []:=⟨[],⟨rfl,Nat.le_refl _,Nat.zero_le _,λ_=>rfl,λa ha=>by cases ha⟩,rfl,λi q=>absurd q (Nat.not_lt_zero i)⟩
theorem AR.below{bd:Int}{pl:List PI}{w w':World}{s:Sl}{e a:Int}(h:AR bd pl w s e a)(hb:Below w.heap.size w w'):AR bd pl w' s e a:=by
 obtain⟨h1,fs,h2,h3⟩:=h
 exact⟨h1,fs,h2.below hb,h3⟩
section
variable {x:Mo} {pl:List PI} {w:World} {R:VWP}
theorem zul(hN:IsPl w x.2.2.1 pl)(hp:PlOk pl)(h0:0<=x.2.1)(ht:Tab w)(hR:∀w' s e a,AR x.2.1 pl w' s e a->Below w.heap.size w w'->R (.tuple #[.slice s.a s.l s.c,.agg #[.int .i64 e,.int .i64 a]]) w'):cR 8 #[moA x] w R:=
 zht hN hp h0 ht (λw' e a h1 h2 hb=>hR w' ⟨none,0,0⟩ e a ⟨h1,[],zeX.nil w',.inl ⟨h2,rfl⟩⟩ hb) (λw' s fs hz hO hL hb hF=>hR w' s 0 0 ⟨hz.symm,fs,hF,.inr ⟨hz,hO,hL⟩⟩ hb)
end
theorem zto{pl:List PI}{i:Nat}(h:i<(entK pl).length):(entK pl)[i]<pl.length/\(ix pl (entK pl)[i]).1=15:=by
 have h2:(entK pl)[i]∈(List.range pl.length).filter λk=>(ix pl k).1==15:=List.getElem_mem h
 rw[List.mem_filter,List.mem_range,beq_iff_eq]at h2
 exact h2
end Go.Proofs
namespace Go.Proofs
open Go.Gk Go.RowKit Go.Gm
def isPl(p:Po):Bool:=p.2.2.1==0&&p.2.2.2.2.1==4&&p.2.2.2.2.2.1
def plcN(l:List Po)(n:Nat):Nat:=((l.take n).filter isPl).length
theorem zrK{F:Fc}{e:En}(h1:F.facd e=true)(h0:e.1=0){l:List Po}(hs:SrtP l (F.pts e.2.2.2 3)):plcN l l.length=1:=by
 obtain⟨_,id,m1,m2,m3⟩:=Fc.outs0 h1 (by omega)
 obtain⟨p1,p2⟩:=Fc.place_ok h1 h0 m1 m2 m3
 have hm:F.port id∈l:=hs.perm.mem_iff.2 (Fc.mem_pts.2 ⟨id,m1,m2,rfl⟩)
 have hu:l.Pairwise unlR:=by
  have:unlk l=true:=by rw[zg8 hs.perm];exact zum h1 (.inr rfl)
  exact of_decide_eq_true this
 have hp:isPl (F.port id)=true:=by
  unfold isPl
  rw[m3,p1,p2]
  rfl
 have hf:F.port id∈l.filter isPl:=List.mem_filter.2 ⟨hm,hp⟩
 have hu2:(l.filter isPl).Pairwise unlR:=hu.filter _
 have hall:∀p∈l.filter isPl,p.2.2.1=0:=λp hp=>by
  have:=(List.mem_filter.1 hp).2
  unfold isPl at this
  rw[Bool.and_eq_true,Bool.and_eq_true,beq_iff_eq]at this
  exact this.1.1
 unfold plcN
 rw[List.take_of_length_le (Nat.le_refl _)]
 revert hf hu2 hall
 generalize l.filter isPl=m
 intro hf hu2 hall
 match m,hf,hu2,hall with
 | [_],_,_,_=>rfl
 |p::q::r,_,hu2,hall=>
  exfalso
  have h2:=(List.pairwise_cons.1 hu2).1 q (List.mem_cons_self ..)
  have hp:=hall p (List.mem_cons_self ..)
  have hq:=hall q (List.mem_cons_of_mem _ (List.mem_cons_self ..))
  exact h2.2 ⟨by omega,by omega⟩
end Go.Proofs
namespace Go.Proofs
open Go.Gk Go.RowKit Go.Gm
theorem zvN:Yb Tryz.prog 54 58 3 40:=⟨by kernel_rfl,Tryz.t58,.agg #[.int .i64 0,.int .i64 0,.slice none 0 0],by kernel_rfl,rfl,rfl,rfl,rfl⟩
theorem Own.set1{w:World}{T:TypeId}{sz:Nat}{s:Sl}{xs:List Value}(h:Own w T sz s xs){n:Nat}(hn:n<xs.length){v:Value}:∃b,s.a=some (Gk.blk b)/\b<w.heap.size/\Wr w ((Gk.blk b).add n)/\Own (w.setCell ((Gk.blk b).add n) v) T sz s (xs.set n v):=by
 obtain⟨h1,h2⟩:=h
 rcases h2 with rfl | ⟨b,cs,ha,hB,hc,hm,hcs,ht⟩
 ·simp at h1
  subst h1
  exact absurd hn (Nat.not_lt_zero n)
 ·have hle:s.l*sz<=s.c*sz:=Nat.mul_le_mul_right _ hc
  refine⟨b,ha,hB.lt,hB.wr (by omega),by rw[List.length_set];exact h1,.inr ⟨b,cs.set n v,ha,hB.set n v,hc,hm,by rw[List.length_set];exact hcs,?_⟩⟩
  rw[List.take_set,ht]
theorem IsC.heads{α:Type}{sz:Nat}{f:α->List Value}{w:World}{s:Sl}{l:List α}(h:IsC sz f w s l){n:Nat}(hn:n<=l.length):IsC sz f w ⟨if s.c=0 then s.a else s.a.map (λa=>a.add 0),n-0,s.c-0⟩ (l.take n):=by
 have hl:=h.len
 have hc:=h.cap
 have e:(if s.c=0 then s.a else s.a.map (λa=>a.add 0))=s.a:=by
  by_cases q:s.c=0
  ·rw[if_pos q]
  ·rw[if_neg q]
   cases s.a<;>simp[Addr.add]
 rw[e]
 refine⟨by rw[List.length_take];show n-0=_;omega,by show n-0<=s.c-0;omega,h.max,h.nil,λa ha k hk j hj=>?_⟩
 rw[List.length_take]at hk
 rw[List.getElem_take]
 exact h.cell a ha k (by omega) j hj
structure SlO (w:World) (x:Sv) (y:Slt):Prop where
 loc:x.1=y.1
 bui:x.2.1=y.2.1
 wds:Own w 22 1 x.2.2.1 (y.2.2.map (Value.int .u32))
theorem SlO.sltR{w:World}{x:Sv}{y:Slt}(h:SlO w x y):SltR w x y:=⟨h.loc,h.bui,h.wds.isS⟩
theorem SlO.below{w w':World}{x:Sv}{y:Slt}(h:SlO w x y)(hb:Below w.heap.size w w'):SlO w' x y:=⟨h.loc,h.bui,h.wds.below hb⟩
structure SlL (B:Nat) (w:World) (r:Sl) (hs:List Sv) (ls:List Slt):Prop where
 own:Own w 58 3 r (flat slV hs)
 len:hs.length=ls.length
 fr:zN B r
 row:∀i (h:i<hs.length) (h':i<ls.length),SlO w hs[i] ls[i]/\zN B hs[i].2.2.1
 un:∀i i' (h:i<hs.length) (h':i'<hs.length),i<i'->∀a,hs[i].2.2.1.a=some a->hs[i'].2.2.1.a≠some a
theorem SlL.below{B:Nat}{w w':World}{r:Sl}{hs:List Sv}{ls:List Slt}(h:SlL B w r hs ls)(hb:Below w.heap.size w w'):SlL B w' r hs ls:=
 ⟨h.own.below hb,h.len,h.fr,λi q q'=>⟨(h.row i q q').1.below hb,(h.row i q q').2⟩,h.un⟩
theorem SlL.isSlts{B:Nat}{w:World}{r:Sl}{hs:List Sv}{ls:List Slt}(h:SlL B w r hs ls):zbr w r ls:=
 ⟨hs,Own.isC ZL (by decide) h.own,h.len,λi q q'=>(h.row i q q').1.sltR⟩
theorem SlL.l{B:Nat}{w:World}{r:Sl}{hs:List Sv}{ls:List Slt}(h:SlL B w r hs ls):r.l=ls.length:=by
 have:=h.own.1
 rw[zM ZL,h.len]at this
 omega
section
variable {w:World} {R:VWP}
set_option maxHeartbeats 2000000 in
theorem zlq{s:Sl}{l:List Po}{wd:Int}(hs:IsPs w s l)(hsz:∀p∈l,1<=p.2.2.2.2.1/\p.2.2.2.2.1<=4)(hln:l.length<=1048576)
  (hR:∀w' r hv,SlL w.heap.size w' r hv (l.map (ZI wd))->Below w.heap.size w w'->R (.slice r.a r.l r.c) w'):cR 28 #[.slice s.a s.l s.c,.int .u32 wd] w R:=by
 refine ze.of (zcY s wd R w ?_) λ_ _ h=>h
 have hsl:=hs.len
 refine zo.countSl l.length (by omega) (λk r w'=>Below w.heap.size w w'/\∃hv,SlL w.heap.size w' r hv ((l.take k).map (ZI wd))) ⟨Below.refl _ _,[],Own.nil _ _ _,rfl,λa ha=>(by cases ha),λi h=>absurd h (Nat.not_lt_zero i),λi i' h=>absurd h (Nat.not_lt_zero i)⟩ ?_
 rintro k r w1 hk ⟨b1,hv,hS⟩ next hnext
 refine zm (λg=>?_) (λg=>?_)
 rotate_left
 ·have hke:k=l.length:=by dsimp only at g;omega
  rw[hke,List.take_of_length_le (Nat.le_refl _)]at hS
  exact hR w1 r hv hS b1
 have hkl:k<l.length:=by dsimp only at g;omega
 have hP:=IsC.below zY hs b1
 obtain⟨z1,z2⟩:=hsz _ (List.getElem_mem hkl)
 obtain⟨n,hn⟩:∃n:Nat,l[k].2.2.2.2.1=(n:Int):=⟨l[k].2.2.2.2.1.toNat,(Int.toNat_of_nonneg (by omega)).symm⟩
 refine fldI hP hkl (j:=4) (by decide) (x:=(n:Int)) (by show some (Value.int .i64 l[k].2.2.2.2.1)=_;rw[hn]) ?_
 refine⟨⟨by omega,by omega,by omega,by omega⟩,zp λw2 hD2 b2 s2=>?_⟩
 have hD2:Blk w2 w1.heap.size 22 (madeCells #[(.int .u32 (0:Int))] (n*1)).toList:=hD2
 refine zo.count n (by omega) (λj w'=>Below w1.heap.size w1 w'/\w1.heap.size<w'.heap.size/\∃q,Blk w' w1.heap.size 22 (List.replicate j (.int .u32 wd)++q)/\q.length=n-j) ⟨b2,by omega,_,by simpa using hD2,by rw[Array.length_toList,size_madeCells];simp⟩ ?_
 rintro j w3 hj ⟨b3,s3,q,hB3,hq⟩ next2 hnext2
 refine zm (λg2=>?_) (λg2=>?_)
 ·have hjl:j<n:=by dsimp only at g2;omega
  refine⟨⟨by dsimp only;omega,by dsimp only;omega⟩,hB3.wr (by rw[List.length_append,List.length_replicate,hq];show j<_;omega),Nw.mk ?_⟩
  have hset:=hB3.set j (.int .u32 wd)
  have c:=Chg.set w1.heap.size j w3 (.int .u32 wd)
  refine hnext2 _ hjl ⟨c.below b3 (Nat.le_refl _),Nat.lt_of_lt_of_eq s3 c.size.symm,q.drop 1,?_,by rw[List.length_drop,hq];omega⟩
  obtain⟨y,q',rfl⟩:∃y q',q=y::q':=by
   cases q with
   |nil=>simp at hq;omega
   |cons y q'=>exact⟨y,q',rfl⟩
  have e:(List.replicate j (Value.int .u32 wd)++y::q').set j (.int .u32 wd)=List.replicate (j+1) (Value.int .u32 wd)++q':=by
   rw[List.set_append_right _ _ (by rw[List.length_replicate];exact Nat.le_refl _),List.length_replicate,Nat.sub_self,List.set_cons_zero,List.replicate_succ',List.append_assoc]
   rfl
  rw[e]at hset
  exact hset
 have hje:j=n:=by dsimp only at g2;omega
 subst hje
 have hq0:q=[]:=List.eq_nil_of_length_eq_zero (by omega)
 rw[hq0,List.append_nil]at hB3
 have b13:=b3.drew
 have b03:=b1.on b13
 have hP3:=IsC.below zY hs b03
 refine fldI hP3 hkl (j:=1) (by decide) (x:=l[k].2.1) rfl (fldI hP3 hkl (j:=2) (by decide) (x:=l[k].2.2.1) rfl (zp λw5 hD5 b5 z5=>?_))
 have hD5:Blk w5 w3.drew.heap.size 58 (slV (l[k].2.1,l[k].2.2.1,⟨some (blk w1.heap.size),j,j⟩,())):=hD5
 have b15:=b13.on b5
 have hS5:=hS.below b15
 have hwO:Own w5 22 1 ⟨some (blk w1.heap.size),j,j⟩ ((List.replicate j wd).map (Value.int .u32)):=
  ⟨by simp,.inr ⟨w1.heap.size,_,rfl,hB3.drew.below b5,Nat.le_refl _,by show j<=_;omega,by simp,by rw[List.map_replicate];exact List.take_of_length_le (by simp)⟩⟩
 have hlen:=hS.len
 rw[List.length_map,List.length_take,Nat.min_eq_left (by omega)]at hlen
 have hrl:=hS.l
 rw[List.length_map,List.length_take,Nat.min_eq_left (by omega)]at hrl
 refine zeu zvN hS5.own (b1.on b15) hS.fr (vs:=slV (l[k].2.1,l[k].2.2.1,⟨some (blk w1.heap.size),j,j⟩,())) rfl (λu hu=>by simp only[slV,List.mem_cons,List.not_mem_nil,or_false]at hu;rcases hu with rfl |rfl |rfl<;>rfl) hD5 (by omega) (by omega) λr' w6 hO6 b6 hF6 z6 hkeep=>hnext r' w6 hkl ⟨b6,hv++[(l[k].2.1,l[k].2.2.1,⟨some (blk w1.heap.size),j,j⟩,())],?_⟩
 have etk:(l.take (k+1)).map (ZI wd)=(l.take k).map (ZI wd)++[ZI wd l[k]]:=by
  rw[List.take_succ_eq_append_getElem hkl,List.map_append]
  rfl
 have hnew:SlO w5 (l[k].2.1,l[k].2.2.1,⟨some (blk w1.heap.size),j,j⟩,()) (ZI wd l[k]):=by
  refine⟨rfl,rfl,?_⟩
  show Own w5 _ 1 _ ((List.replicate l[k].2.2.2.2.1.toNat wd).map _)
  rw[hn,Int.toNat_natCast]
  exact hwO
 have mv:∀{x:Sv} {y:Slt},SlO w5 x y->SlO w6 x y:=λ{x y} h=>⟨h.loc,h.bui,h.wds.of_block λa ha=>hkeep _ (h.wds.lt ha).2 (ZF hS5.own h.wds (by decide) ha)⟩
 rw[etk]
 refine⟨by
       have e:flat slV (hv++[(l[k].2.1,l[k].2.2.1,(⟨some (blk w1.heap.size),j,j⟩:Sl),())])=flat slV hv++slV (l[k].2.1,l[k].2.2.1,⟨some (blk w1.heap.size),j,j⟩,()):=by simp[flat]
       rw[e];exact hO6,by rw[List.length_append,List.length_append,List.length_singleton,List.length_singleton,hS.len],hF6,λi h h'=>?_,λi i' h h' hlt a ha=>?_⟩
 ·by_cases hi:i<hv.length
  ·have hi':i<((l.take k).map (ZI wd)).length:=by rw[<-hS.len];exact hi
   rw[List.getElem_append_left hi,List.getElem_append_left hi']
   exact⟨mv (hS5.row i hi hi').1,(hS5.row i hi hi').2⟩
  ·rw[List.length_append,List.length_singleton]at h
   have hi:i=hv.length:=by omega
   subst hi
   have e1:(hv++[(l[k].2.1,l[k].2.2.1,(⟨some (blk w1.heap.size),j,j⟩:Sl),())])[hv.length]=(l[k].2.1,l[k].2.2.1,⟨some (blk w1.heap.size),j,j⟩,()):=by simp
   have e2:((l.take k).map (ZI wd)++[ZI wd l[k]])[hv.length]=ZI wd l[k]:=by
    rw[List.getElem_append_right (by rw[hS.len];exact Nat.le_refl _)]
    exact List.getElem_singleton _
   rw[e1,e2]
   refine⟨mv hnew,λa ha=>?_⟩
   cases ha
   exact b1.size
 ·rw[List.length_append,List.length_singleton]at h'
  have hi:i<hv.length:=by omega
  rw[List.getElem_append_left hi]at ha
  have hi2:i<((l.take k).map (ZI wd)).length:=by rw[<-hS.len];exact hi
  by_cases hi':i'<hv.length
  ·rw[List.getElem_append_left hi']
   exact hS.un i i' hi hi' hlt a ha
  ·have hi':i'=hv.length:=by omega
   subst hi'
   have e1:(hv++[(l[k].2.1,l[k].2.2.1,(⟨some (blk w1.heap.size),j,j⟩:Sl),())])[hv.length]=(l[k].2.1,l[k].2.2.1,⟨some (blk w1.heap.size),j,j⟩,()):=by simp
   rw[e1]
   intro ea
   have:=((hS.row i hi hi2).1.wds.lt ha).2
   cases ea
   exact absurd this (Nat.lt_irrefl _)
end
section
variable {w:World} {B:Nat} {r:Sl} {hs:List Sv} {ls:List Slt}
theorem SlL.grow(h:SlL B w r hs ls)(hB:B<=w.heap.size){j:Nat}(hj:j<ls.length){wd:Int}(hl:ls[j].2.2.length<=1048576){K:World->Prop}
  (hK:∀w',zbr w' r (ls.set j (ls[j].1,ls[j].2.1,ls[j].2.2++[wd]))->Below B w w'->K w') :
  (0<=(j:Int)/\(j:Int)<(r.l:Int))/\zf r.a λa47=>ldS w ((a47.add ((Int.toNat (j:Int))*3)).add 2) λx48=>Nw (w.alloc (.cells #[(.int .u32 wd)] 22)) λw23=>
   zC Tryz.prog 56 (.slice x48.a x48.l x48.c) (.slice (some (blk w.heap.size)) 1 1) w23 λr49 w24=>(0<=(j:Int)/\(j:Int)<(r.l:Int))/\zf r.a λa50=>
    Wr w24 ((a50.add ((Int.toNat (j:Int))*3)).add 2)/\Nw (w24.setCell ((a50.add ((Int.toNat (j:Int))*3)).add 2) (.slice r49.a r49.l r49.c)) K:=by
 have hrl:=h.l
 have hjh:j<hs.length:=by rw[h.len];exact hj
 obtain⟨hro,hrf⟩:=h.row j hjh hj
 refine fldS (Own.isC ZL (by decide) h.own) hjh (j:=2) (by decide) (x:=hs[j].2.2.1) rfl (zp λw23 hD b23 z23=>?_)
 have hD:Blk w23 w.heap.size 22 [.int .u32 wd]:=hD
 have hwl:hs[j].2.2.1.l=ls[j].2.2.length:=by have:=hro.wds.1;rw[List.length_map]at this;omega
 refine zet eU32 (hro.wds.below b23) (vs:=[.int .u32 wd]) rfl (λu hu=>by rw[List.mem_singleton]at hu;subst hu;rfl) hD (by omega) (by omega) λr' w24 b' hO hra hcase hbel hkeep=>?_
 have hBb:B<=b':=by
  rcases hcase with e |e
  ·exact hrf _ e
  ·rw[e];exact Nat.le_trans hB b23.size
 have b24:Below B w w24:=(b23.mono hB).trans (hbel B hBb (Nat.le_trans hB b23.size))
 have ne:∀{a:Addr},r.a=some a->a.block≠b':=λ{a} ha e=>by
  rcases hcase with q |q
  ·exact ZF hro.wds h.own (by decide) ha (by rw[e];exact q)
  ·have:=(h.own.lt ha).2
   have:=b23.size
   omega
 have hown24:Own w24 58 3 r (flat slV hs):=(h.own.below b23).of_block λa ha=>hkeep _ ((h.own.below b23).lt ha).2 (ne ha)
 have hlt:j*3+2<(flat slV hs).length:=by rw[zM ZL];omega
 obtain⟨b,hb,hbl,hwr,hset⟩:=Own.set1 hown24 hlt (v:=.slice r'.a r'.l r'.c)
 refine⟨⟨by omega,by omega⟩,zj hb ?_⟩
 rw[Int.toNat_natCast,zs]
 refine⟨hwr,Nw.mk ?_⟩
 have c:=Chg.set b (j*3+2) w24 (.slice r'.a r'.l r'.c)
 generalize w24.setCell ((Gk.blk b).add (j*3+2)) (.slice r'.a r'.l r'.c)=wF at hset c⊢
 rw[zkQ ZL (j:=2) (by decide) hs j hjh (y:=(hs[j].1,hs[j].2.1,r',())) rfl]at hset
 refine hK wF ⟨_,Own.isC ZL (by decide) hset,by rw[List.length_set,List.length_set,h.len],λi q q'=>?_⟩ (c.below b24 (h.fr _ hb))
 rw[List.length_set]at q q'
 have toF:∀{s:Sl} {xs:List Value},Own w24 22 1 s xs->Own wF 22 1 s xs:=λ{s xs} hs=>hs.of_block λa ha=>c.block _ λe=>ZF hown24 hs (by decide) ha (by rw[e];exact hb)
 by_cases hi:j=i
 ·subst hi
  rw[List.getElem_set_self,List.getElem_set_self]
  refine⟨hro.loc,hro.bui,?_⟩
  refine Own.isS (T:=22) (f:=Value.int .u32) (l:=ls[j].2.2++[wd]) ?_
  rw[List.map_append]
  exact toF hO
 ·rw[List.getElem_set_ne hi,List.getElem_set_ne hi]
  obtain⟨ho,hf⟩:=h.row i q q'
  refine⟨ho.loc,ho.bui,(toF ((ho.wds.below b23).of_block λa ha=>hkeep _ ((ho.wds.below b23).lt ha).2 λe=>?_)).isS⟩
  rcases hcase with e2 |e2
  ·obtain⟨ea,_⟩:=ho.wds.lt ha
   have ha2:hs[j].2.2.1.a=some a:=by rw[ea,e];exact e2
   rcases Nat.lt_or_gt_of_ne hi with g |g
   ·exact h.un j i hjh q g a ha2 ha
   ·exact h.un i j q hjh g a ha ha2
  ·have:=(ho.wds.lt ha).2
   have:=b23.size
   omega
theorem SlL.shift(h:SlL B w r hs ls){j:Nat}(hj:j<ls.length){K:World->Prop}
  (hK:∀w',zbr w' r (ls.set j (IntKind.i64.wrap (ls[j].1+1),ls[j].2.1,ls[j].2.2))->Below B w w'->K w') :
  (0<=(j:Int)/\(j:Int)<(r.l:Int))/\zf r.a λa54=>ldI w (a54.add ((Int.toNat (j:Int))*3)) .i64 λx55=>(0<=(j:Int)/\(j:Int)<(r.l:Int))/\zf r.a λa56=>
   Wr w (a56.add ((Int.toNat (j:Int))*3))/\Nw (w.setCell (a56.add ((Int.toNat (j:Int))*3)) (.int .i64 (IntKind.i64.wrap (x55+(1:Int))))) K:=by
 have hrl:=h.l
 have hjh:j<hs.length:=by rw[h.len];exact hj
 obtain⟨hro,hrf⟩:=h.row j hjh hj
 refine zvQ (Own.isC ZL (by decide) h.own) hjh (by decide) (x:=hs[j].1) rfl ?_
 have hlt:j*3+0<(flat slV hs).length:=by rw[zM ZL];omega
 obtain⟨b,hb,hbl,hwr,hset⟩:=Own.set1 h.own hlt (v:=.int .i64 (IntKind.i64.wrap (hs[j].1+1)))
 refine⟨⟨by omega,by omega⟩,zj hb ?_⟩
 rw[Int.toNat_natCast]
 refine⟨hwr,Nw.mk ?_⟩
 have c:=Chg.set b (j*3+0) w (.int .i64 (IntKind.i64.wrap (hs[j].1+1)))
 change K (w.setCell ((Gk.blk b).add (j*3+0)) (.int .i64 (IntKind.i64.wrap (hs[j].1+1))))
 generalize w.setCell ((Gk.blk b).add (j*3+0)) (.int .i64 (IntKind.i64.wrap (hs[j].1+1)))=wF at hset c⊢
 rw[zkQ ZL (j:=0) (by decide) hs j hjh (y:=(IntKind.i64.wrap (hs[j].1+1),hs[j].2.1,hs[j].2.2.1,())) rfl]at hset
 refine hK wF ⟨_,Own.isC ZL (by decide) hset,by rw[List.length_set,List.length_set,h.len],λi q q'=>?_⟩ (c.below (Below.refl _ _) (h.fr _ hb))
 rw[List.length_set]at q q'
 have toF:∀{s:Sl} {xs:List Value},Own w 22 1 s xs->Own wF 22 1 s xs:=λ{s xs} hs=>hs.of_block λa ha=>c.block _ λe=>ZF h.own hs (by decide) ha (by rw[e];exact hb)
 obtain⟨ho,hf⟩:=h.row i q q'
 by_cases hi:j=i
 ·subst hi
  rw[List.getElem_set_self,List.getElem_set_self]
  exact⟨by show IntKind.i64.wrap (hs[j].1+1)=_;rw[hro.loc],hro.bui,(toF hro.wds).isS⟩
 ·rw[List.getElem_set_ne hi,List.getElem_set_ne hi]
  exact⟨ho.loc,ho.bui,(toF ho.wds).isS⟩
theorem zbr.heads{w:World}{s:Sl}{ls:List Slt}(h:zbr w s ls){n m:Nat}(hm:m=n)(hn:n<=ls.length):zbr w ⟨if s.c=0 then s.a else Option.map (λa=>a.add (0*3)) s.a,m-0,s.c-0⟩ (ls.take n):=by
 subst hm
 obtain⟨hs,h1,h2,h3⟩:=h
 refine⟨hs.take m,h1.heads (by omega),by rw[List.length_take,List.length_take,h2],λi q q'=>?_⟩
 rw[List.length_take]at q q'
 rw[List.getElem_take,List.getElem_take]
 exact h3 i (by omega) (by omega)
end
end Go.Proofs
namespace Go.Proofs
open Go.Gk Go.RowKit Go.Gm
structure FcF (pl:List PI) (f:Fa):Prop where
 ins:∀p∈f.2.2.2.1,Fc.PoOk (fcP pl) p
 outs:∀p∈f.2.2.2.2,Fc.PoOk (fcP pl) p
 insO:f.2.2.2.1.Pairwise Fc.ordR
 outsO:f.2.2.2.2.Pairwise Fc.ordR
 ne:f.2.2.2.2≠[]
 li:f.2.2.2.1.length<=65535
 lo:f.2.2.2.2.length<=65535
 md:(f.2.1=4/\∃p,f.2.2.2.2=[p]/\p.2.1=0/\p.2.2.2.2.1=1)\/(f.2.1=0/\plcN f.2.2.2.2 f.2.2.2.2.length=1)
theorem zqK(F:Fc)(ids:List Int)(c:Int):(F.pts ids c).length<=ids.length:=by
 unfold Fc.pts
 rw[List.length_map]
 exact List.length_filter_le _ _
theorem zvP{bd:Int}{pl:List PI}{fs:List Fa}(hO:zju bd pl)(hF:FacL pl fs)(hp:PlOk pl)(h0:0<=bd){i:Nat}(h:i<fs.length):FcF pl fs[i]:=by
 have hk:i<(entK pl).length:=by rw[<-hF.len];exact h
 obtain⟨k1,k2⟩:=zto hk
 have o:=hF.ok i h hk
 have hsh:=(hO.con.whole hp h0).shape
 generalize (entK pl)[i]=k at k1 k2 o
 generalize fs[i]=f at o⊢
 have hg:(fcP pl).Good k:=Fc.good hO.ok k1 k2
 have hmx:(entF (ix pl k)).2.2.2.length<=65535:=by
  have:=Yp hsh k1
  rw[zK k1]
  unfold entF
  rw[List.length_map,List.length_drop]
  omega
 have s1:=Fc.srt_ok hO.ok hg.fac hg.dcd (.inl rfl) o.ins
 have s2:=Fc.srt_ok hO.ok hg.fac hg.dcd (.inr rfl) o.outs
 refine⟨s1.1,s2.1,s1.2,s2.2,Fc.outs_ne hg.fac o.outs,?_,?_,?_⟩
 ·rw[o.ins.perm.length_eq];exact Nat.le_trans (zqK _ _ _) hmx
 ·rw[o.outs.perm.length_eq];exact Nat.le_trans (zqK _ _ _) hmx
 ·by_cases h4:(entF (ix pl k)).1=4
  ·exact .inl ⟨o.model.trans h4,Fc.outs4 hg.fac h4 o.outs⟩
  ·have h0:=(Fc.outs0 hg.fac h4).1
   exact .inr ⟨o.model.trans h0,zrK hg.fac h0 o.outs⟩
theorem AR.ok{bd:Int}{pl:List PI}{w:World}{s:Sl}{e a:Int}(h:AR bd pl w s e a)(he:e=0):zju bd pl/\∃fs,zeX w s fs/\FacL pl fs:=by
 obtain⟨h1,fs,h2,h3⟩:=h
 rcases h3 with⟨q,_⟩ | ⟨_,q1,q2⟩
 ·exact absurd he q
 ·exact⟨q1,fs,h2,q2⟩
def gIn(l:List Po):List Po:=(l.filter λp=>decide (p.2.2.1<0)).map λp=>(1,p.2.1,-1,0,p.2.2.2.2.1,p.2.2.2.2.2.1,())
theorem zsR{l:List Po}{n:Nat}(hn:n<l.length):gIn (l.take (n+1))=gIn (l.take n)++if l[n].2.2.1<0 then [(1,l[n].2.1,-1,0,l[n].2.2.2.2.1,l[n].2.2.2.2.2.1,())] else []:=by
 unfold gIn
 rw[List.take_succ_eq_append_getElem hn,List.filter_append,List.map_append,List.filter_cons]
 by_cases e:l[n].2.2.1<0
 ·rw[if_pos (decide_eq_true e),if_pos e];rfl
 ·rw[if_neg (by simpa using e),if_neg e];rfl
theorem zuv(l:List Po):(gIn l).length<=l.length:=by
 unfold gIn
 rw[List.length_map]
 exact List.length_filter_le _ _
theorem st1f{w:World}{b:Nat}{T:TypeId}{x:Fw}{y:Sl}{K:World->Prop}(hB:Blk w b T (faV x))(hK:∀w',Blk w' b T (faV (x.1,x.2.1,x.2.2.1,y,x.2.2.2.2.1,()))->Chg b w w'->K w') :
  Wr w ((blk b).add 3)/\Nw (w.setCell ((blk b).add 3) (.slice y.a y.l y.c)) K:=
 ⟨hB.wr (by simp),Nw.mk (hK _ (hB.set 3 (.slice y.a y.l y.c)) (Chg.set b 3 w _))⟩
section
variable {x:Mo} {pl:List PI} {w:World} {R:VWP}
set_option maxHeartbeats 8000000 in
theorem zkr{wd at_:Int}(hN:IsPl w x.2.2.1 pl)(hp:PlOk pl)(hbd:0<=x.2.1/\x.2.1<=4294967295)(htab:Tab w)(hR:∀w',Below w.heap.size w w'->R (.bool true) w') :
  cR 7 #[moA x,.int .u32 wd,.int .i64 at_] w R:=by
 refine ze.of (zbl x wd at_ R w ?_) λ_ _ h=>h
 refine zp λw1 hB1 b1 z1=>?_
 have hB1:Blk w1 w.heap.size 25 (moV x):=hB1
 refine Mo.load hB1 ?_
 refine zjP (x:=x) (hN.below b1) hp λca w2 _ _ hC2 b2=>⟨(x.1,x.2.1,⟨some (blk ca),pl.length,pl.length⟩,()),rfl,?_⟩
 refine zul (x:=(x.1,x.2.1,⟨some (blk ca),pl.length,pl.length⟩,())) hC2 hp hbd.1 (htab.below (b1.on b2)) λw3 s e a hA b3=>⟨s,(e,a,()),rfl,box2 rfl λw6 h6 b6 z6=>?_⟩
 have b06:=((b1.on b2).on b3).on b6
 have hA6:AR x.2.1 pl w6 s e a:=hA.below b6
 refine zr.cut (λ(_:Unit) w'=>Below w6.heap.size w6 w') ?_ ?_
 rotate_left
 ·rintro _ w53 b53
  exact zod (htab.below (b06.on b53)) λw54 b54=>⟨true,rfl,hR w54 ((b06.on b53).on b54)⟩
 have hmax:s.l<=9223372036854775807:=by
  obtain⟨_,fs,h2,_⟩:=hA6
  obtain⟨hs,hC,_⟩:=h2.ex
  have:=hC.bound
  have:=hC.len
  omega
 refine zo.count s.l hmax (λ_ w'=>Below w6.heap.size w6 w') (Below.refl _ _) ?_
 rintro k w8 hk b8 next hnext
 have h8:=h6.below b8
 refine zr.cut (λ(_:Unit) w'=>w8=w'/\k<s.l/\e=0) ?_ ?_
 ·exact zm (λg=>h8.rI0 rfl (zn (λe0=>⟨rfl,by dsimp only at g;omega,e0⟩) (λ_=>b8))) (λ_=>b8)
 rintro _ _ ⟨rfl,hkl,he⟩
 obtain⟨hO,fs,hfs,hL⟩:=(hA6.below b8).ok he
 obtain⟨hs,hC,hsl,hsr⟩:=hfs.ex
 have hfl:=hfs.len
 have k1:k<fs.length:=by omega
 have k2:k<hs.length:=by omega
 have hF:=zvP hO hL hp hbd.1 k1
 have hr:=hsr k k2 k1
 refine zr.cut (λ(_:Unit) w'=>Below w8.heap.size w8 w') ?_ ?_
 rotate_left
 ·rintro _ w52 b52
  exact hnext w52 hkl (b8.on b52)
 refine zs9 hC k2 ?_
 generalize hs[k]=f at hr⊢
 generalize fs[k]=F at hr hF
 refine box5 rfl λw14 hB14 b14 z14=>?_
 have hB14:Blk w14 w8.heap.size 47 (faV f):=hB14
 have szI:∀p∈F.2.2.2.1,1<=p.2.2.2.2.1/\p.2.2.2.2.1<=4:=λp hp=>(hF.ins p hp).sz
 have szO:∀p∈F.2.2.2.2,1<=p.2.2.2.2.1/\p.2.2.2.2.1<=4:=λp hp=>(hF.outs p hp).sz
 have rI:∀{w'},Below w14.heap.size w14 w'->IsPs w' f.2.2.2.1 F.2.2.2.1:=λhb=>IsC.below zY (IsC.below zY hr.ins b14) hb
 have rO:∀{w'},Below w14.heap.size w14 w'->IsPs w' f.2.2.2.2.1 F.2.2.2.2:=λhb=>IsC.below zY (IsC.below zY hr.outs b14) hb
 have mkO:∀{w'} {R':VWP},Below w14.heap.size w14 w'->(∀w'' r hv,SlL w'.heap.size w'' r hv (F.2.2.2.2.map (ZI wd))->Below w'.heap.size w' w''->R' (.slice r.a r.l r.c) w'')->
   cR 28 #[.slice f.2.2.2.2.1.a f.2.2.2.2.1.l f.2.2.2.2.1.c,.int .u32 wd] w' R':=λhb h=>zlq (rO hb) szO (by have:=hF.lo;omega) h
 have ln:=hF.lo
 have lpos:0<F.2.2.2.2.length:=List.length_pos_iff.2 hF.ne
 have fitO:∀{w'} {t:Sl} {ls:List Slt} {b:Bool} {R':VWP},Below w14.heap.size w14 w'->zbr w' t ls->zha F.2.2.2.2 ls=b->(∀w'',Below w'.heap.size w' w''->R' (.bool b) w'')->
   cR 18 #[.slice f.2.2.2.2.1.a f.2.2.2.2.1.l f.2.2.2.2.1.c,.slice t.a t.l t.c] w' R':=λhb ht hf h=>zj6 (rO hb) ht λw'' hb'=>by rw[hf];exact h w'' hb'
 refine zr.cut (λ(_:Unit) w'=>Below w14.heap.size w14 w') ?_ ?_
 ·have d14:Below w14.heap.size w14 w14.drew:=(Below.refl _ _).drew
  refine hB14.drew.rS (n:=3) (x:=f.2.2.2.1) rfl (hB14.drew.rS (n:=3) (x:=f.2.2.2.1) rfl ?_)
  refine zlq (rI d14) szI (by have:=hF.li;omega) λw15 r1 v1 hS1 b15=>⟨r1,rfl,?_⟩
  have b1:=d14.on b15
  refine⟨(hB14.below b1).cell (n:=3) rfl,?_⟩
  refine zj6 (rI b1) hS1.isSlts λw16 b16=>⟨_,rfl,zO (zW (zlY wd λp hp=>by have:=szI p hp;omega) ?_)⟩
  have b2:=b1.on b16
  refine(hB14.below b2).rS (n:=4) (x:=f.2.2.2.2.1) rfl ((hB14.below b2).rS (n:=4) (x:=f.2.2.2.2.1) rfl ?_)
  refine mkO b2 λw17 r2 v2 hS2 b17=>⟨r2,rfl,?_⟩
  have b3:=b2.on b17
  refine⟨(hB14.below b3).cell (n:=4) rfl,?_⟩
  refine fitO b3 hS2.isSlts (zlY wd λp hp=>by have:=szO p hp;omega) λw18 b18=>⟨true,rfl,zO (zW rfl ?_)⟩
  have b4:=b3.on b18
  refine(hB14.below b4).rS (n:=4) (x:=f.2.2.2.2.1) rfl ?_
  refine fitO (t:=⟨none,0,0⟩) (ls:=[]) b4 ⟨[],⟨rfl,Nat.le_refl _,Nat.zero_le _,λ_=>rfl,λa ha=>by cases ha⟩,rfl,λi q=>absurd q (Nat.not_lt_zero i)⟩ (zkO (by show _≠0;omega)) λw19 b19=>⟨false,rfl,zL rfl (b4.on b19)⟩
 rintro _ w20 b20
 have hB20:=hB14.below b20
 have hol:f.2.2.2.2.1.l=F.2.2.2.2.length:=(rO b20).len
 refine zr.cut (λ(q:Int×Unit) w'=>w20=w'/\∃j:Nat,j<F.2.2.2.2.length/\q=((j:Int),())) ?_ ?_
 ·refine zm (λ_=>⟨rfl,0,lpos,rfl⟩) (λg1=>hB20.rS (n:=4) (x:=f.2.2.2.2.1) rfl (zm (λ_=>⟨rfl,0,lpos,rfl⟩) (λg2=>⟨rfl,at_.toNat,?_,?_⟩)))
  ·rw[hol]at g2
   omega
  ·rw[Int.toNat_of_nonneg (by omega)]
 rintro _ _ ⟨rfl,j,hj,rfl⟩
 have hjm:j<(F.2.2.2.2.map (ZI wd)).length:=by rw[List.length_map];exact hj
 have eJ:(F.2.2.2.2.map (ZI wd))[j]=ZI wd F.2.2.2.2[j]:=List.getElem_map ..
 have gJ:F.2.2.2.2.getD j po0=F.2.2.2.2[j]:=zq hj
 have pj:=hF.outs _ (List.getElem_mem hj)
 have lenM:F.2.2.2.2.length=(F.2.2.2.2.map (ZI wd)).length:=(List.length_map _).symm
 refine hB20.rS (n:=4) (x:=f.2.2.2.2.1) rfl (mkO b20 λw22 r1 v1 hS1 b22=>⟨r1,rfl,?_⟩)
 have m22:Below w8.heap.size w8 w20:=b14.on b20
 refine hS1.grow b22.size hjm (by rw[eJ];show(List.replicate _ _).length<=_;rw[List.length_replicate];have:=pj.sz;omega) λw25 hX25 c25=>?_
 have b25:Below w14.heap.size w14 w25:=(b20.on b22).trans (c25.mono b20.size)
 refine(hB14.below b25).rS (n:=4) (x:=f.2.2.2.2.1) rfl (mkO b25 λw26 r2 v2 hS2 b26=>⟨r2,rfl,?_⟩)
 refine hS2.shift hjm λw27 hY27 c27=>?_
 have b2527:Below w25.heap.size w25 w27:=b26.trans c27
 have b27:=b25.on b2527
 refine(hB14.below b27).rS (n:=4) (x:=f.2.2.2.2.1) rfl (mkO b27 λw28 r3 v3 hS3 b28=>⟨r3,rfl,?_⟩)
 have b28d:Below w27.heap.size w27 w28.drew:=b28.drew
 refine zr.cut (λ(_:Unit) w'=>Below w14.heap.size w14 w') ?_ ?_
 ·have b1:=b27.on b28d
  refine(hB14.below b1).rS (n:=4) (x:=f.2.2.2.2.1) rfl ?_
  refine fitO b1 ((hX25.below b2527).below b28d) (zok lenM hj ?_) λw29 b29=>⟨false,rfl,zL rfl ?_⟩
  ·rw[gJ,eJ]
   have e:(((List.replicate F.2.2.2.2[j].2.2.2.2.1.toNat wd++[wd]).length:Int)==F.2.2.2.2[j].2.2.2.2.1)=false:=by
    rw[beq_eq_false_iff_ne,List.length_append,List.length_replicate,List.length_singleton]
    have:=pj.sz
    omega
   show(_&&_&&_)=false
   rw[show(ZI wd F.2.2.2.2[j]).2.2=List.replicate F.2.2.2.2[j].2.2.2.2.1.toNat wd from rfl,e,Bool.and_false]
  have b2:=b1.on b29
  refine(hB14.below b2).rS (n:=4) (x:=f.2.2.2.2.1) rfl ?_
  refine fitO b2 ((hY27.below b28d).below b29) (zok lenM hj ?_) λw30 b30=>⟨false,rfl,zL rfl ?_⟩
  ·rw[gJ,eJ]
   have e:(IntKind.i64.wrap (F.2.2.2.2[j].2.1+1)==F.2.2.2.2[j].2.1)=false:=by
    have:=pj.loc
    rw[zt (by omega) (by omega),beq_eq_false_iff_ne]
    omega
   show(_&&_&&_)=false
   rw[show(ZI wd F.2.2.2.2[j]).1=F.2.2.2.2[j].2.1 from rfl,e,Bool.false_and,Bool.false_and]
  have b3:=b2.on b30
  have hS3':=((hS3.isSlts.below ((Below.refl _ _).drew)).below b29).below b30
  have h3l:=hS3.l
  have h3o:=Own.isC ZL (by decide) hS3.own
  have h3c:=h3o.cap
  rw[<-lenM]at h3l
  have ew:IntKind.i64.wrap ((r3.l:Int)-1)=((F.2.2.2.2.length-1:Nat):Int):=by
   rw[zt (by omega) (by omega)]
   omega
  refine(hB14.below b3).rS (n:=4) (x:=f.2.2.2.2.1) rfl ?_
  refine⟨⟨by decide,by omega,by omega⟩,?_⟩
  have hZ:zbr w30 ⟨if r3.c=0 then r3.a else Option.map (λa=>a.add (0*3)) r3.a,(Int.toNat (IntKind.i64.wrap ((r3.l:Int)-(1:Int))))-0,r3.c-0⟩ ((F.2.2.2.2.map (ZI wd)).take (F.2.2.2.2.length-1)):=hS3'.heads (by rw[ew];rfl) (by rw[<-lenM];omega)
  generalize Int.toNat (IntKind.i64.wrap ((r3.l:Int)-(1:Int)))-0=zl at hZ⊢
  generalize (if r3.c=0 then r3.a else Option.map (λa=>a.add (0*3)) r3.a)=za at hZ⊢
  generalize r3.c-0=zc at hZ⊢
  exact fitO (t:=⟨za,zl,zc⟩) b3 hZ (zkO (by rw[List.length_take,<-lenM];omega)) λw31 b31=>⟨false,rfl,zL rfl (b3.on b31)⟩
 rintro _ w32 b32
 refine box5 rfl λw38 hG38 b38 z38=>?_
 have hG38:Blk w38 w32.heap.size 47 (faV (bs [120],4,0,⟨none,0,0⟩,⟨none,0,0⟩,())):=hG38
 refine zo.count F.2.2.2.2.length (by omega) (λn w'=>Below w32.heap.size w32 w'/\w32.heap.size<w'.heap.size/\∃r,Blk w' w32.heap.size 47 (faV (bs [120],4,0,r,⟨none,0,0⟩,()))/\Own w' 52 6 r (flat poV (gIn (F.2.2.2.2.take n)))/\zN w32.heap.size r) ⟨b38,by omega,_,hG38,Own.nil _ _ _,λa ha=>by cases ha⟩ ?_
 rintro n w39 hn ⟨b39,z39,r,hG39,hO39,hF39⟩ next3 hnext3
 have b1439:=b32.on b39
 have hB39:=hB14.below b1439
 refine hB39.rS (n:=4) (x:=f.2.2.2.2.1) rfl (zm (λg=>?_) (λg=>?_))
 ·have hnl:n<F.2.2.2.2.length:=by rw[hol]at g;omega
  refine zr.cut (λ(_:Unit) w'=>Below w32.heap.size w32 w'/\w32.heap.size<w'.heap.size/\∃r,Blk w' w32.heap.size 47 (faV (bs [120],4,0,r,⟨none,0,0⟩,()))/\Own w' 52 6 r (flat poV (gIn (F.2.2.2.2.take (n+1))))/\zN w32.heap.size r) ?_ ?_
  rotate_left
  ·rintro _ w50 h50
   exact hnext3 w50 hnl h50
  refine hB39.rS (n:=4) (x:=f.2.2.2.2.1) rfl ?_
  refine zja (rO b1439) hnl ?_
  rw[zsR hnl]
  generalize F.2.2.2.2[n]=p
  refine box6 rfl λw46 hP46 b46 z46=>?_
  have hP46:Blk w46 w39.heap.size 52 (poV p):=hP46
  have b3246:=b39.on b46
  refine hP46.rI (n:=2) (x:=p.2.2.1) rfl (zm (λg2=>?_) (λg2=>?_))
  rotate_left
  ·rw[if_neg g2,List.append_nil]
   exact⟨b3246,by omega,r,hG39.below b46,hO39.below b46,hF39⟩
  rw[if_pos g2]
  have hG46:=hG39.below b46
  refine hG46.rS (n:=3) (x:=r) rfl (hP46.rI (n:=1) (x:=p.2.1) rfl (hP46.rI (n:=4) (x:=p.2.2.2.2.1) rfl (hP46.rB (n:=5) (x:=p.2.2.2.2.2.1) rfl (zp λw47 hQ47 b47 z47=>?_))))
  have hQ47:Blk w47 w46.heap.size 52 (poV (1,p.2.1,-1,0,p.2.2.2.2.1,p.2.2.2.2.2.1,())):=hQ47
  have hO47:=(hO39.below b46).below b47
  have hgl:=zuv (F.2.2.2.2.take n)
  rw[List.length_take]at hgl
  have hrl:r.l=(gIn (F.2.2.2.2.take n)).length:=by
   have:=hO47.1
   rw[zM zY]at this
   omega
  have hG47:=hG46.below b47
  refine zeu zvc hO47 (b3246.on b47) hF39 (vs:=poV (1,p.2.1,-1,0,p.2.2.2.2.1,p.2.2.2.2.2.1,())) rfl (λu hu=>by simp only[poV,List.mem_cons,List.not_mem_nil,or_false]at hu;rcases hu with rfl |rfl |rfl |rfl |rfl |rfl<;>rfl) hQ47 (by omega) (by omega) λr' w48 hO48 b48 hF48 z48 hkeep=>?_
  have hG48:Blk w48 w32.heap.size 47 (faV (bs [120],4,0,r,⟨none,0,0⟩,())):=hG47.of_block (hkeep _ hG47.lt λe=>yh hO47 hG47 (by decide) e)
  refine st1f (y:=r') hG48 λw49 hG49 c49=>⟨c49.below b48 (Nat.le_refl _),by rw[c49.size];have:=hG47.lt;omega,r',hG49,?_,hF48⟩
  have e:flat poV (gIn (F.2.2.2.2.take n)++[(1,p.2.1,-1,0,p.2.2.2.2.1,p.2.2.2.2.2.1,())])=flat poV (gIn (F.2.2.2.2.take n))++poV (1,p.2.1,-1,0,p.2.2.2.2.1,p.2.2.2.2.2.1,()):=by simp[flat]
  rw[e]
  exact hO48.of_block λa ha=>c49.block _ λq=>by
   obtain⟨cs,hc⟩:=hO48.type ha
   exact Blk.apart hc hG48 (by decide) q
 have hne:n=F.2.2.2.2.length:=by rw[hol]at g;omega
 subst hne
 rw[List.take_of_length_le (Nat.le_refl _)]at hO39
 refine Fw.load hB39 (Fw.load hG39 ?_)
 refine zmU (x:=f) (y:=(bs [120],4,0,r,⟨none,0,0⟩,())) (v:=F) (f:=zsN F.2.2.2.2) ((hr.below b14).below b1439) ⟨rfl,rfl,rfl,Own.isC zY (by decide) hO39,⟨rfl,Nat.le_refl _,Nat.zero_le _,λ_=>rfl,λa ha=>by cases ha⟩⟩ λw51 b51=>⟨_,rfl,?_⟩
 have b1451:=b1439.on b51
 have hB51:=hB14.below b1451
 obtain⟨q1,q2⟩:=zuz (f:=F) λp hp=>(hF.outs p hp).bui.1
 have hend:Below w8.heap.size w8 w51:=b14.on b1451
 have em:f.2.1=F.2.1:=hr.model
 refine hB51.rI (n:=1) (x:=f.2.1) rfl (zn (λg1=>?_) (λg1=>?_))
 ·refine zE (λg2=>absurd (q1 (em.symm.trans g1)) g2) (λ_=>hB51.rI (n:=1) (x:=f.2.1) rfl (zn (λg3=>absurd (g1.symm.trans g3) (by decide)) λ_=>hend))
 ·exact hB51.rI (n:=1) (x:=f.2.1) rfl (zn (λg3=>zE (λg4=>absurd (q2 (em.symm.trans g3)) g4) λ_=>hend) λ_=>hend)
end
end Go.Proofs
