/- NestModules, part 2; made small by a program. -/
import Derived.Test.YtogccbelnfgfhaaGreatProg
import Derived.Test.YtogccbelnfgfhaaGreatPNestModules1
namespace Go.Proofs
open Go.Gk
set_option linter.unusedVariables false
set_option maxRecDepth 100000
def Zo:Ann:=(.q (.seq none (.q (.one (.loop ⟨[1],[(3,(.b (.int .i64)))]⟩ (.seq none (.q .c) (.seq none (.one (.q (.seq (some ⟨[1,3],[(4,(.b (.int .i64)))]⟩) (.q (.one (.loop ⟨[1,3],[(4,(.b (.int .i64))),(5,(.b (.int .i64)))]⟩ (.seq (some ⟨[1,3,4,5],[]⟩) (.q .c) (.seq (some ⟨[1,3,5],[(4,(.b (.int .i64)))]⟩) (.one (.q .c)) .nil))))) (.q (.cond (.q .nil) .nil))))) .nil))))) (.q (.q .nil))))
def Zj(p0:(Int×Int×Sl×Unit))(R:VWP)(w:World):Prop:=Nw (w.alloc (.cells #[.int .u32 p0.1,.int .u32 p0.2.1,.slice p0.2.2.1.a p0.2.2.1.l p0.2.2.1.c] 25)) λw1=>zl (S:=Int×Unit) (λs1 w2 n2=>ldS w2 ((blk w.heap.size).add 2) λx3=>ifB (decide (s1.1<(x3.l:Int))) (zk (S:=Int×Unit) (λm4=>zl (S:=Int×Int×Unit) (λs6 w3 n7=>zk (S:=Unit) (λm8=>ldS w3 ((blk w.heap.size).add 2) λx10=>ifB (decide (s6.2.1<(x10.l:Int))) (ldS w3 ((blk w.heap.size).add 2) λx11=>(0<=s6.2.1/\s6.2.1<(x11.l:Int))/\zc x11.a λa12=>ldI w3 (a12.add (s6.2.1.toNat *4)) .u16 λx13=>ifB (x13 !=56) (m8 () w3) (m4 (s6.1,()) w3)) (m4 (s6.1,()) w3)) (λs9 w4=>zk (S:=Int×Unit) (λm14=>ldS w4 ((blk w.heap.size).add 2) λx16=>(0<=s6.2.1/\s6.2.1<(x16.l:Int))/\zc x16.a λa17=>ldI w4 (a17.add (s6.2.1.toNat *4)) .u16 λx18=>ifB (x18==248) (m14 ((IntKind.i64.wrap (s6.1+(1:Int))),()) w4) (m14 (s6.1,()) w4)) (λs15 w5=>n7 (s15.1,(IntKind.i64.wrap (s6.2.1+(1:Int))),()) w5))) (0,s1.1,()) w2) (λs5 w6=>ifB (decide (s5.1>(64:Int))) (R (.bool true) w6) (n2 ((IntKind.i64.wrap (s1.1+(1:Int))),()) w6))) (ldI w2 ((blk w.heap.size).add 0) .u32 λx19=>ldI w2 ((blk w.heap.size).add 1) .u32 λx20=>ldS w2 ((blk w.heap.size).add 2) λx21=>cR 11 #[.agg #[.int .u32 x19,.int .u32 x20,.slice x21.a x21.l x21.c]] w2 λv22 w7=>∃x23:(Int×Int×Sl×Unit),v22=(.agg #[.int .u32 x23.1,.int .u32 x23.2.1,.slice x23.2.2.1.a x23.2.2.1.l x23.2.2.1.c])/\Nw (w7.alloc (.cells #[.int .u32 0,.int .u32 0,.slice none 0 0] 25)) λw8=>Wr w8 (blk w7.heap.size)/\Nw (w8.setCell (blk w7.heap.size) (.int .u32 x23.1)) λw9=>Wr w9 ((blk w7.heap.size).add 1)/\Nw (w9.setCell ((blk w7.heap.size).add 1) (.int .u32 x23.2.1)) λw10=>Wr w10 ((blk w7.heap.size).add 2)/\Nw (w10.setCell ((blk w7.heap.size).add 2) (.slice x23.2.2.1.a x23.2.2.1.l x23.2.2.1.c)) λw11=>ldI w11.drew ((blk w7.heap.size).add 0) .u32 λx24=>ldI w11.drew ((blk w7.heap.size).add 1) .u32 λx25=>ldS w11.drew ((blk w7.heap.size).add 2) λx26=>ldI w11.drew ((blk w.heap.size).add 0) .u32 λx27=>ldI w11.drew ((blk w.heap.size).add 1) .u32 λx28=>ldS w11.drew ((blk w.heap.size).add 2) λx29=>cR 12 #[.agg #[.int .u32 x24,.int .u32 x25,.slice x26.a x26.l x26.c]] w11.drew λv30 w12=>∃x31:(Int×Int×Unit),v30=(.agg #[.int .i64 x31.1,.int .i64 x31.2.1])/\w12.cell? ((blk w.heap.size).add 0)=some (.int .u32 x27)/\w12.cell? ((blk w.heap.size).add 1)=some (.int .u32 x28)/\w12.cell? ((blk w.heap.size).add 2)=some (.slice x29.a x29.l x29.c)/\cR 13 #[.agg #[.int .u32 x27,.int .u32 x28,.slice x29.a x29.l x29.c]] w12 λv32 w13=>∃x33:(Int×Int×Unit),v32=(.agg #[.int .i64 x33.1,.int .i64 x33.2.1])/\ifB (x31.1==x33.1&&(x31.2.1==x33.2.1&&true)) (ldI w13 ((blk w7.heap.size).add 0) .u32 λx34=>ldI w13 ((blk w7.heap.size).add 1) .u32 λx35=>ldS w13 ((blk w7.heap.size).add 2) λx36=>ldI w13 ((blk w.heap.size).add 0) .u32 λx37=>ldI w13 ((blk w.heap.size).add 1) .u32 λx38=>ldS w13 ((blk w.heap.size).add 2) λx39=>cR 14 #[.agg #[.int .u32 x34,.int .u32 x35,.slice x36.a x36.l x36.c],.agg #[.int .u32 x37,.int .u32 x38,.slice x39.a x39.l x39.c]] w13 λv40 w14=>∃x41:Bool,v40=(.bool x41)/\ifB x41 (cR 15 #[] w14 λv42 w15=>∃x43:Bool,v42=(.bool x43)/\R (.bool x43) w15) (R (.bool false) w14)) (R (.bool false) w13))) (0,()) w1
theorem zai(p0)(R)(w)(h:Zj p0 R w):Calls Tryz.prog 4 #[.agg #[.int .u32 p0.1,.int .u32 p0.2.1,.slice p0.2.2.1.a p0.2.2.1.l p0.2.2.1.c]] w (Ret R):=lwC Zo Tryz.func4 (by kernel_rfl) (by kernel_rfl) h
def zhQ:Ann:=(.q (.seq none (.q (.q (.cond (.q .nil) .nil))) (.q (.seq none (.q (.one (.loop ⟨[1,2,23,24],[(25,(.b (.int .i64)))]⟩ (.q (.seq none .c (.seq none (.one (.q (.q (.seq none (.q (.cond (.q .nil) .nil)) (.q (.q (.cond (.q .nil) .nil))))))) .nil)))))) (.q .nil)))))
def zhH(p0:(Int×Int×Sl×Unit))(R:VWP)(w:World):Prop:=Nw (w.alloc (.cells #[.int .u32 p0.1,.int .u32 p0.2.1,.slice p0.2.2.1.a p0.2.2.1.l p0.2.2.1.c] 25)) λw1=>Nw (w1.alloc (.cells #[.int .i64 0,.int .i64 0] 33)) λw2=>ldI w2 ((blk w.heap.size).add 0) .u32 λx1=>ldI w2 ((blk w.heap.size).add 1) .u32 λx2=>ldS w2 ((blk w.heap.size).add 2) λx3=>cR 44 #[.agg #[.int .u32 x1,.int .u32 x2,.slice x3.a x3.l x3.c]] w2 λv4 w3=>∃x5:(Int×Int×Unit),v4=(.agg #[.int .i64 x5.1,.int .i64 x5.2.1])/\Nw (w3.alloc (.cells #[.int .i64 0,.int .i64 0] 33)) λw4=>Wr w4 (blk w3.heap.size)/\Nw (w4.setCell (blk w3.heap.size) (.int .i64 x5.1)) λw5=>Wr w5 ((blk w3.heap.size).add 1)/\Nw (w5.setCell ((blk w3.heap.size).add 1) (.int .i64 x5.2.1)) λw6=>ldI w6 (blk w3.heap.size) .i64 λx6=>ifB (x6 !=0) (ldI w6 ((blk w3.heap.size).add 0) .i64 λx7=>ldI w6 ((blk w3.heap.size).add 1) .i64 λx8=>Wr w6 (blk w1.heap.size)/\Nw (w6.setCell (blk w1.heap.size) (.int .i64 x7)) λw7=>Wr w7 ((blk w1.heap.size).add 1)/\Nw (w7.setCell ((blk w1.heap.size).add 1) (.int .i64 x8)) λw8=>ldI w8 ((blk w1.heap.size).add 0) .i64 λx9=>ldI w8 ((blk w1.heap.size).add 1) .i64 λx10=>R (.agg #[.int .i64 x9,.int .i64 x10]) w8) (ldI w6 ((blk w.heap.size).add 0) .u32 λx11=>ldI w6 ((blk w.heap.size).add 1) .u32 λx12=>ldS w6 ((blk w.heap.size).add 2) λx13=>cR 45 #[.agg #[.int .u32 x11,.int .u32 x12,.slice x13.a x13.l x13.c]] w6 λv14 w9=>∃x15:Sl,∃x16:(Int×Int×Unit),v14=(.tuple #[.slice x15.a x15.l x15.c,.agg #[.int .i64 x16.1,.int .i64 x16.2.1]])/\Nw (w9.alloc (.cells #[.int .i64 0,.int .i64 0] 33)) λw10=>Wr w10 (blk w9.heap.size)/\Nw (w10.setCell (blk w9.heap.size) (.int .i64 x16.1)) λw11=>Wr w11 ((blk w9.heap.size).add 1)/\Nw (w11.setCell ((blk w9.heap.size).add 1) (.int .i64 x16.2.1)) λw12=>zl (S:=Int×Unit) (λs17 w13 n18=>ifB (decide (s17.1<(x15.l:Int))) ((0<=s17.1/\s17.1<(x15.l:Int))/\zc x15.a λa19=>ldI w13 ((a19.add (s17.1.toNat *5)).add 0) .u32 λx20=>ldI w13 ((a19.add (s17.1.toNat *5)).add 1) .i64 λx21=>ldS w13 ((a19.add (s17.1.toNat *5)).add 2) λx22=>ldS w13 ((a19.add (s17.1.toNat *5)).add 3) λx23=>ldI w13 ((a19.add (s17.1.toNat *5)).add 4) .i64 λx24=>Nw (w13.alloc (.cells #[.int .u32 0,.int .i64 0,.slice none 0 0,.slice none 0 0,.int .i64 0] 29)) λw14=>Wr w14 (blk w13.heap.size)/\Nw (w14.setCell (blk w13.heap.size) (.int .u32 x20)) λw15=>Wr w15 ((blk w13.heap.size).add 1)/\Nw (w15.setCell ((blk w13.heap.size).add 1) (.int .i64 x21)) λw16=>Wr w16 ((blk w13.heap.size).add 2)/\Nw (w16.setCell ((blk w13.heap.size).add 2) (.slice x22.a x22.l x22.c)) λw17=>Wr w17 ((blk w13.heap.size).add 3)/\Nw (w17.setCell ((blk w13.heap.size).add 3) (.slice x23.a x23.l x23.c)) λw18=>Wr w18 ((blk w13.heap.size).add 4)/\Nw (w18.setCell ((blk w13.heap.size).add 4) (.int .i64 x24)) λw19=>ldI w19 ((blk w.heap.size).add 0) .u32 λx25=>ldI w19 ((blk w.heap.size).add 1) .u32 λx26=>ldS w19 ((blk w.heap.size).add 2) λx27=>ldI w19 ((blk w13.heap.size).add 0) .u32 λx28=>ldI w19 ((blk w13.heap.size).add 1) .i64 λx29=>ldS w19 ((blk w13.heap.size).add 2) λx30=>ldS w19 ((blk w13.heap.size).add 3) λx31=>ldI w19 ((blk w13.heap.size).add 4) .i64 λx32=>cR 33 #[.agg #[.int .u32 x25,.int .u32 x26,.slice x27.a x27.l x27.c],.agg #[.int .u32 x28,.int .i64 x29,.slice x30.a x30.l x30.c,.slice x31.a x31.l x31.c,.int .i64 x32]] w19 λv33 w20=>∃x34:Option Addr,∃x35:Sl,∃x36:(Int×Int×Unit),v33=(.tuple #[.pointer x34,.slice x35.a x35.l x35.c,.agg #[.int .i64 x36.1,.int .i64 x36.2.1]])/\Nw (w20.alloc (.cells #[.int .i64 0,.int .i64 0] 33)) λw21=>Wr w21 (blk w20.heap.size)/\Nw (w21.setCell (blk w20.heap.size) (.int .i64 x36.1)) λw22=>Wr w22 ((blk w20.heap.size).add 1)/\Nw (w22.setCell ((blk w20.heap.size).add 1) (.int .i64 x36.2.1)) λw23=>ldI w23 (blk w20.heap.size) .i64 λx37=>ifB (x37 !=0) (ldI w23 ((blk w20.heap.size).add 0) .i64 λx38=>ldI w23 ((blk w20.heap.size).add 1) .i64 λx39=>Wr w23 (blk w1.heap.size)/\Nw (w23.setCell (blk w1.heap.size) (.int .i64 x38)) λw24=>Wr w24 ((blk w1.heap.size).add 1)/\Nw (w24.setCell ((blk w1.heap.size).add 1) (.int .i64 x39)) λw25=>ldI w25 ((blk w1.heap.size).add 0) .i64 λx40=>ldI w25 ((blk w1.heap.size).add 1) .i64 λx41=>R (.agg #[.int .i64 x40,.int .i64 x41]) w25) (cR 46 #[.pointer x34,.slice x35.a x35.l x35.c] w23 λv42 w26=>∃x43:(Int×Int×Unit),v42=(.agg #[.int .i64 x43.1,.int .i64 x43.2.1])/\Nw (w26.alloc (.cells #[.int .i64 0,.int .i64 0] 33)) λw27=>Wr w27 (blk w26.heap.size)/\Nw (w27.setCell (blk w26.heap.size) (.int .i64 x43.1)) λw28=>Wr w28 ((blk w26.heap.size).add 1)/\Nw (w28.setCell ((blk w26.heap.size).add 1) (.int .i64 x43.2.1)) λw29=>ldI w29 (blk w26.heap.size) .i64 λx44=>ifB (x44 !=0) (ldI w29.drew (blk w26.heap.size) .i64 λx45=>ldS w29.drew ((blk w13.heap.size).add 3) λx46=>ldI w29.drew ((blk w26.heap.size).add 1) .i64 λx47=>(0<=x47/\x47<(x46.l:Int))/\zc x46.a λa48=>ldI w29.drew ((a48.add (x47.toNat *3)).add 2) .i64 λx49=>Wr w29.drew (blk w1.heap.size)/\Nw (w29.drew.setCell (blk w1.heap.size) (.int .i64 x45)) λw30=>Wr w30 ((blk w1.heap.size).add 1)/\Nw (w30.setCell ((blk w1.heap.size).add 1) (.int .i64 (IntKind.i64.wrap (x49-(1:Int))))) λw31=>ldI w31 ((blk w1.heap.size).add 0) .i64 λx50=>ldI w31 ((blk w1.heap.size).add 1) .i64 λx51=>R (.agg #[.int .i64 x50,.int .i64 x51]) w31) (n18 ((IntKind.i64.wrap (s17.1+(1:Int))),()) w29))) (Wr w13 (blk w1.heap.size)/\Nw (w13.setCell (blk w1.heap.size) (.int .i64 0)) λw32=>Wr w32 ((blk w1.heap.size).add 1)/\Nw (w32.setCell ((blk w1.heap.size).add 1) (.int .i64 0)) λw33=>ldI w33 ((blk w1.heap.size).add 0) .i64 λx52=>ldI w33 ((blk w1.heap.size).add 1) .i64 λx53=>R (.agg #[.int .i64 x52,.int .i64 x53]) w33)) (0,()) w12)
theorem zjw(p0)(R)(w)(h:zhH p0 R w):Calls Tryz.prog 12 #[.agg #[.int .u32 p0.1,.int .u32 p0.2.1,.slice p0.2.2.1.a p0.2.2.1.l p0.2.2.1.c]] w (Ret R):=lwC zhQ Tryz.func12 (by kernel_rfl) (by kernel_rfl) h
def zaB:Ann:=(.q (.q (.q (.q (.seq (some ⟨[3],[]⟩) (.q (.cond (.q .nil) .nil)) (.q (.q .nil)))))))
def zar  (R:VWP) (w:World):Prop:=cR 50 #[.int .u8 1] w λv1 w1=>∃x2:Sl,∃x3:Sl,v1=(.tuple #[.slice x2.a x2.l x2.c,.slice x3.a x3.l x3.c])/\cR 37 #[.slice x2.a x2.l x2.c] w1 λv4 w2=>∃x5:Option Addr,∃x6:Int,v4=(.tuple #[.pointer x5,.int .i64 x6])/\cR 51 #[.pointer x5,.slice x3.a x3.l x3.c,.int .i64 0] w2 λv7 w3=>∃x8:Sl,∃x9:Int,v7=(.tuple #[.slice x8.a x8.l x8.c,.int .i64 x9])/\zk (S:=Unit) (λm10=>ifB (x6 !=0) (R (.bool false) w3) (ifB (x9 !=0) (R (.bool false) w3) (cR 52 #[.int .i64 0,.int .i64 1] w3 λv12 w4=>∃x13:Sl,v12=(.slice x13.a x13.l x13.c)/\cR 26 #[.slice x8.a x8.l x8.c,.slice x13.a x13.l x13.c] w4 λv14 w5=>∃x15:Bool,v14=(.bool x15)/\ifB (!x15) (R (.bool false) w5) (cR 46 #[.pointer x5,.slice x3.a x3.l x3.c] w5 λv16 w6=>∃x17:(Int×Int×Unit),v16=(.agg #[.int .i64 x17.1,.int .i64 x17.2.1])/\ifB (!(x17.1==0&&(x17.2.1==0&&true))) (R (.bool false) w6) (m10 () w6))))) (λs11 w7=>cR 50 #[.int .u8 0] w7 λv18 w8=>∃x19:Sl,∃x20:Sl,v18=(.tuple #[.slice x19.a x19.l x19.c,.slice x20.a x20.l x20.c])/\cR 46 #[.pointer x5,.slice x20.a x20.l x20.c] w8 λv21 w9=>∃x22:(Int×Int×Unit),v21=(.agg #[.int .i64 x22.1,.int .i64 x22.2.1])/\R (.bool (x22.1==163&&(x22.2.1==0&&true))) w9)
theorem zdF(R)(w)(h:zar  R w):Calls Tryz.prog 15 #[] w (Ret R):=lwC zaB Tryz.func15 (by kernel_rfl) (by kernel_rfl) h
def ziR:Ann:=(.q (.q (.seq none (.one (.q (.cond (.q .nil) (.q (.cond (.q .nil) .nil))))) (.q .nil))))
def ziE(p0:Option Addr)(p1:Sl)(R:VWP)(w:World):Prop:=Nw (w.alloc (.cells #[.int .i64 0,.int .i64 0] 33)) λw1=>cR 104 #[.pointer p0,.slice p1.a p1.l p1.c] w1 λv1 w2=>∃x2:Sl,∃x3:Int,v1=(.tuple #[.slice x2.a x2.l x2.c,.int .i64 x3])/\ifB (x3 !=0) (Wr w2 (blk w.heap.size)/\Nw (w2.setCell (blk w.heap.size) (.int .i64 x3)) λw3=>Wr w3 ((blk w.heap.size).add 1)/\Nw (w3.setCell ((blk w.heap.size).add 1) (.int .i64 0)) λw4=>ldI w4 ((blk w.heap.size).add 0) .i64 λx4=>ldI w4 ((blk w.heap.size).add 1) .i64 λx5=>R (.agg #[.int .i64 x4,.int .i64 x5]) w4) (ifB (decide ((x2.l:Int)>0)) ((0<=(0:Int)/\0<(x2.l:Int))/\zc x2.a λa6=>ldI w2.drew ((a6.add (0*2)).add 1) .i64 λx7=>(0<=(0:Int)/\0<(x2.l:Int))/\zc x2.a λa8=>ldI w2.drew (a8.add (0*2)) .i64 λx9=>Wr w2.drew (blk w.heap.size)/\Nw (w2.drew.setCell (blk w.heap.size) (.int .i64 x7)) λw5=>Wr w5 ((blk w.heap.size).add 1)/\Nw (w5.setCell ((blk w.heap.size).add 1) (.int .i64 x9)) λw6=>ldI w6 ((blk w.heap.size).add 0) .i64 λx10=>ldI w6 ((blk w.heap.size).add 1) .i64 λx11=>R (.agg #[.int .i64 x10,.int .i64 x11]) w6) (Wr w2 (blk w.heap.size)/\Nw (w2.setCell (blk w.heap.size) (.int .i64 0)) λw7=>Wr w7 ((blk w.heap.size).add 1)/\Nw (w7.setCell ((blk w.heap.size).add 1) (.int .i64 0)) λw8=>ldI w8 ((blk w.heap.size).add 0) .i64 λx12=>ldI w8 ((blk w.heap.size).add 1) .i64 λx13=>R (.agg #[.int .i64 x12,.int .i64 x13]) w8))
theorem zkg(p0)(p1)(R)(w)(h:ziE p0 p1 R w):Calls Tryz.prog 46 #[.pointer p0,.slice p1.a p1.l p1.c] w (Ret R):=lwC ziR Tryz.func46 (by kernel_rfl) (by kernel_rfl) h
def zb9:Ann:=(.q (.q (.q (.q (.q (.q (.q .nil)))))))
def zbr(p0:Int)(R:VWP)(w:World):Prop:=(0<=(3:Int)/\(3:Int)<=3/\(24:Int)*(3:Int)<=281474976710656/\(3:Int)<=9223372036854775807)/\Nw (w.alloc (.cells (madeCells #[.slice none 0 0] (3*1)) 26)) λw1=>cR 52 #[.int .i64 1,.int .i64 2] w1 λv1 w2=>∃x2:Sl,v1=(.slice x2.a x2.l x2.c)/\(0<=(0:Int)/\(0:Int)<3)/\Wr w2 ((blk w.heap.size).add 0)/\Nw (w2.setCell ((blk w.heap.size).add 0) (.slice x2.a x2.l x2.c)) λw3=>(0<=(1:Int)/\(1:Int)<3)/\ldS w3 ((blk w.heap.size).add 1) λx3=>Nw (w3.alloc (.cells #[.int .i64 2] 3)) λw4=>zo Tryz.prog 26 (.slice x3.a x3.l x3.c) (.slice (some (blk w3.heap.size)) 1 1) w4 λr4 w5=>(0<=(1:Int)/\(1:Int)<3)/\Wr w5 ((blk w.heap.size).add 1)/\Nw (w5.setCell ((blk w.heap.size).add 1) (.slice r4.a r4.l r4.c)) λw6=>(0<=(3:Int)/\(3:Int)<=3/\(24:Int)*(3:Int)<=281474976710656/\(3:Int)<=9223372036854775807)/\Nw (w6.alloc (.cells (madeCells #[.int .u8 0,.int .i64 0,.int .i64 0] (3*3)) 121)) λw7=>(0<=(0:Int)/\(0:Int)<3)/\Wr w7 ((blk w6.heap.size).add (0*3))/\Nw (w7.setCell ((blk w6.heap.size).add (0*3)) (.int .u8 p0)) λw8=>Wr w8 (((blk w6.heap.size).add (0*3)).add 1)/\Nw (w8.setCell (((blk w6.heap.size).add (0*3)).add 1) (.int .i64 2)) λw9=>Wr w9 (((blk w6.heap.size).add (0*3)).add 2)/\Nw (w9.setCell (((blk w6.heap.size).add (0*3)).add 2) (.int .i64 (-1:Int))) λw10=>R (.tuple #[.slice (some (blk w.heap.size)) 3 3,.slice (some (blk w6.heap.size)) 3 3]) w10
theorem ze0(p0)(R)(w)(h:zbr p0 R w):Calls Tryz.prog 50 #[.int .u8 p0] w (Ret R):=lwC zb9 Tryz.func50 (by kernel_rfl) (by kernel_rfl) h
def zeT:Ann:=(.q (.q (.seq (some ⟨[2,8],[]⟩) (.one (.q (.cond (.q .nil) (.q (.cond (.q .nil) (.q (.cond (.q .nil) .nil))))))) (.q (.seq none (.q (.one (.loop ⟨[2,8,50],[(10,(.b .slice)),(51,(.b (.int .i64)))]⟩ (.q (.seq none .c (.seq (some ⟨[2,8,50,51],[(10,(.b .slice))]⟩) (.one (.q (.q .c))) .nil)))))) (.q .nil))))))
def zeJ(p0:Option Addr)(p1:Sl)(p2:Int)(R:VWP)(w:World):Prop:=cR 107 #[.pointer p0,.slice p1.a p1.l p1.c] w λv1 w1=>∃x2:Option Addr,∃x3:Int,v1=(.tuple #[.pointer x2,.int .i64 x3])/\zk (S:=Unit) (λm4=>ifB (x3 !=0) (R (.tuple #[.slice none 0 0,.int .i64 x3]) w1) (cR 108 #[.pointer p0,.int .i64 p2] w1 λv6 w2=>∃x7:Bool,v6=(.bool x7)/\ifB (!x7) (R (.tuple #[.slice none 0 0,.int .i64 3]) w2) (zc x2 λa8=>ldS w2 (a8.add 1) λx9=>(0<=p2/\p2<(x9.l:Int))/\zc x9.a λa10=>ldI w2 (a10.add (p2.toNat *3)) .u8 λx11=>ifB (x11==0) (R (.tuple #[.slice none 0 0,.int .i64 5]) w2) (zc x2 λa12=>ldP w2 (a12.add 2) λx13=>cR 41 #[.pointer x13,.int .i64 p2] w2 λv14 w3=>∃x15:Bool,v14=(.bool x15)/\ifB (!x15) (R (.tuple #[.slice none 0 0,.int .i64 5]) w3) (m4 () w3))))) (λs5 w4=>zc x2 λa16=>ldS w4 (a16.add 4) λx17=>zl (S:=Sl×Int×Unit) (λs18 w5 n19=>ifB (decide (s18.2.1<(x17.l:Int))) (zk (S:=Sl×Unit) (λm20=>cR 109 #[.pointer x2,.int .i64 p2,.int .i64 s18.2.1] w5 λv22 w6=>∃x23:Bool,v22=(.bool x23)/\ifB x23 (Nw (w6.alloc (.cells #[.int .i64 s18.2.1] 3)) λw7=>zo Tryz.prog 26 (.slice s18.1.a s18.1.l s18.1.c) (.slice (some (blk w6.heap.size)) 1 1) w7 λr24 w8=>m20 (r24,()) w8) (m20 (s18.1,()) w6)) (λs21 w9=>n19 (s21.1,(IntKind.i64.wrap (s18.2.1+(1:Int))),()) w9)) (R (.tuple #[.slice s18.1.a s18.1.l s18.1.c,.int .i64 0]) w5)) ((Sl.mk none 0 0),0,()) w4)
theorem zgY(p0)(p1)(p2)(R)(w)(h:zeJ p0 p1 p2 R w):Calls Tryz.prog 51 #[.pointer p0,.slice p1.a p1.l p1.c,.int .i64 p2] w (Ret R):=lwC zeT Tryz.func51 (by kernel_rfl) (by kernel_rfl) h
def zbA:Ann:=(.q (.q (.q (.q (.q .nil)))))
def zbs(p0:Int)(p1:Int)(R:VWP)(w:World):Prop:=(0<=(2:Int)/\(2:Int)<=2/\(8:Int)*(2:Int)<=281474976710656/\(2:Int)<=9223372036854775807)/\Nw (w.alloc (.cells (madeCells #[.int .i64 0] (2*1)) 3)) λw1=>(0<=(0:Int)/\(0:Int)<2)/\Wr w1 ((blk w.heap.size).add 0)/\Nw (w1.setCell ((blk w.heap.size).add 0) (.int .i64 p0)) λw2=>(0<=(1:Int)/\(1:Int)<2)/\Wr w2 ((blk w.heap.size).add 1)/\Nw (w2.setCell ((blk w.heap.size).add 1) (.int .i64 p1)) λw3=>R (.slice (some (blk w.heap.size)) 2 2) w3
theorem ze1(p0)(p1)(R)(w)(h:zbs p0 p1 R w):Calls Tryz.prog 52 #[.int .i64 p0,.int .i64 p1] w (Ret R):=lwC zbA Tryz.func52 (by kernel_rfl) (by kernel_rfl) h
def ziS:Ann:=(.q (.q (.seq none (.q (.cond (.q .nil) .nil)) (.q .nil))))
def ziF(p0:Option Addr)(p1:Sl)(R:VWP)(w:World):Prop:=cR 107 #[.pointer p0,.slice p1.a p1.l p1.c] w λv1 w1=>∃x2:Option Addr,∃x3:Int,v1=(.tuple #[.pointer x2,.int .i64 x3])/\ifB (x3 !=0) (R (.tuple #[.slice none 0 0,.int .i64 x3]) w1) (cR 141 #[.pointer x2] w1 λv4 w2=>∃x5:Sl,v4=(.slice x5.a x5.l x5.c)/\R (.tuple #[.slice x5.a x5.l x5.c,.int .i64 0]) w2)
theorem zkh(p0)(p1)(R)(w)(h:ziF p0 p1 R w):Calls Tryz.prog 104 #[.pointer p0,.slice p1.a p1.l p1.c] w (Ret R):=lwC ziS Tryz.func104 (by kernel_rfl) (by kernel_rfl) h
def zmy:Ann:=(.q (.seq none (.one (.q (.cond (.q .nil) (.q (.cond (.q .nil) .nil))))) (.q (.seq none (.q (.one (.loop ⟨[0,1,6,22,23],[(24,(.b (.int .i64)))]⟩ (.q (.seq none .c (.seq (some ⟨[0,1,6,22,23,24],[]⟩) (.one (.q (.q (.q (.one (.q (.cond .nil (.q .c)))))))) .nil)))))) (.q (.q (.q (.seq none (.q (.one (.loop ⟨[9,97],[(98,(.b (.int .i64)))]⟩ (.q (.seq none .c (.seq none (.one (.q .nil)) .nil)))))) (.q .nil)))))))))
def zmv(p0:Option Addr)(p1:Sl)(R:VWP)(w:World):Prop:=ifB (Option.isNone p0) (R (.tuple #[.pointer none,.int .i64 1]) w) (cR 147 #[.pointer p0,.slice p1.a p1.l p1.c] w λv1 w1=>∃x2:Bool,v1=(.bool x2)/\ifB (!x2) (R (.tuple #[.pointer none,.int .i64 2]) w1) (cR 38 #[.pointer p0] w1 λv3 w2=>∃x4:Int,v3=(.int .i64 x4)/\(0<=x4/\x4<=x4/\24*x4<=281474976710656/\x4<=9223372036854775807)/\Nw (w2.alloc (.cells (madeCells #[.slice none 0 0] (x4.toNat *1)) 26)) λw3=>zl (S:=Int×Unit) (λs5 w4 n6=>ifB (decide (s5.1<(p1.l:Int))) (zk (S:=Unit) (λm7=>(0<=s5.1/\s5.1<(p1.l:Int))/\zc p1.a λa9=>ldI w4 ((a9.add (s5.1.toNat *3)).add 0) .u8 λx10=>ldI w4 ((a9.add (s5.1.toNat *3)).add 1) .i64 λx11=>ldI w4 ((a9.add (s5.1.toNat *3)).add 2) .i64 λx12=>Nw (w4.alloc (.cells #[.int .u8 0,.int .i64 0,.int .i64 0] 121)) λw5=>Wr w5 (blk w4.heap.size)/\Nw (w5.setCell (blk w4.heap.size) (.int .u8 x10)) λw6=>Wr w6 ((blk w4.heap.size).add 1)/\Nw (w6.setCell ((blk w4.heap.size).add 1) (.int .i64 x11)) λw7=>Wr w7 ((blk w4.heap.size).add 2)/\Nw (w7.setCell ((blk w4.heap.size).add 2) (.int .i64 x12)) λw8=>cR 39 #[.pointer p0,.int .i64 s5.1] w8 λv13 w9=>∃x14:Sl,v13=(.slice x14.a x14.l x14.c)/\(0<=s5.1/\s5.1<(x4.toNat:Int))/\Wr w9 ((blk w2.heap.size).add s5.1.toNat)/\Nw (w9.setCell ((blk w2.heap.size).add s5.1.toNat) (.slice x14.a x14.l x14.c)) λw10=>ldI w10 (blk w4.heap.size) .u8 λx15=>ifB (x15==0) (m7 () w10) (ifB (x15==2) ((0<=s5.1/\s5.1<(x4.toNat:Int))/\ldS w10.drew ((blk w2.heap.size).add s5.1.toNat) λx16=>ldI w10.drew ((blk w4.heap.size).add 1) .i64 λx17=>ldI w10.drew ((blk w4.heap.size).add 2) .i64 λx18=>Nw (w10.drew.alloc (.cells #[.int .i64 x17,.int .i64 x18] 3)) λw11=>w11.cell? ((blk w2.heap.size).add s5.1.toNat)=some (.slice x16.a x16.l x16.c)/\zo Tryz.prog 26 (.slice x16.a x16.l x16.c) (.slice (some (blk w10.drew.heap.size)) 2 2) w11 λr19 w12=>(0<=s5.1/\s5.1<(x4.toNat:Int))/\Wr w12 ((blk w2.heap.size).add s5.1.toNat)/\Nw (w12.setCell ((blk w2.heap.size).add s5.1.toNat) (.slice r19.a r19.l r19.c)) λw13=>m7 () w13) ((0<=s5.1/\s5.1<(x4.toNat:Int))/\ldS w10.drew ((blk w2.heap.size).add s5.1.toNat) λx20=>ldI w10.drew ((blk w4.heap.size).add 1) .i64 λx21=>Nw (w10.drew.alloc (.cells #[.int .i64 x21] 3)) λw14=>w14.cell? ((blk w2.heap.size).add s5.1.toNat)=some (.slice x20.a x20.l x20.c)/\zo Tryz.prog 26 (.slice x20.a x20.l x20.c) (.slice (some (blk w10.drew.heap.size)) 1 1) w14 λr22 w15=>(0<=s5.1/\s5.1<(x4.toNat:Int))/\Wr w15 ((blk w2.heap.size).add s5.1.toNat)/\Nw (w15.setCell ((blk w2.heap.size).add s5.1.toNat) (.slice r22.a r22.l r22.c)) λw16=>m7 () w16))) (λs8 w17=>n6 ((IntKind.i64.wrap (s5.1+(1:Int))),()) w17)) (cR 148 #[.slice p1.a p1.l p1.c] w4 λv23 w18=>∃x24:Sl,v23=(.slice x24.a x24.l x24.c)/\cR 38 #[.pointer p0] w18 λv25 w19=>∃x26:Int,v25=(.int .i64 x26)/\(0<=x26/\x26<=x26/\24*x26<=281474976710656/\x26<=9223372036854775807)/\Nw (w19.alloc (.cells (madeCells #[.slice none 0 0] (x26.toNat *1)) 26)) λw20=>Nw (w20.alloc (.cells #[.pointer p0,.slice x24.a x24.l x24.c,.pointer none,.pointer none,.slice (some (blk w19.heap.size)) x26.toNat x26.toNat] 165)) λw21=>cR 37 #[.slice (some (blk w2.heap.size)) x4.toNat x4.toNat] w21 λv27 w22=>∃x28:Option Addr,∃x29:Int,v27=(.tuple #[.pointer x28,.int .i64 x29])/\Wr w22 ((blk w20.heap.size).add 2)/\Nw (w22.setCell ((blk w20.heap.size).add 2) (.pointer x28)) λw23=>ldP w23 ((blk w20.heap.size).add 2) λx30=>cR 149 #[.pointer x30] w23 λv31 w24=>∃x32:Option Addr,∃x33:Int,v31=(.tuple #[.pointer x32,.int .i64 x33])/\Wr w24 ((blk w20.heap.size).add 3)/\Nw (w24.setCell ((blk w20.heap.size).add 3) (.pointer x32)) λw25=>ldS w25 ((blk w20.heap.size).add 4) λx34=>zl (S:=Int×Unit) (λs35 w26 n36=>ifB (decide (s35.1<(x34.l:Int))) (ldS w26.drew ((blk w20.heap.size).add 4) λx37=>cR 150 #[.pointer (some (blk w20.heap.size)),.int .i64 s35.1] w26.drew λv38 w27=>∃x39:Sl,v38=(.slice x39.a x39.l x39.c)/\w27.cell? ((blk w20.heap.size).add 4)=some (.slice x37.a x37.l x37.c)/\(0<=s35.1/\s35.1<(x37.l:Int))/\zc x37.a λa40=>Wr w27 (a40.add s35.1.toNat)/\Nw (w27.setCell (a40.add s35.1.toNat) (.slice x39.a x39.l x39.c)) λw28=>n36 ((IntKind.i64.wrap (s35.1+(1:Int))),()) w28) (R (.tuple #[.pointer (some (blk w20.heap.size)),.int .i64 0]) w26)) (0,()) w25)) (0,()) w3))
theorem zmi(p0)(p1)(R)(w)(h:zmv p0 p1 R w):Calls Tryz.prog 107 #[.pointer p0,.slice p1.a p1.l p1.c] w (Ret R):=lwC zmy Tryz.func107 (by kernel_rfl) (by kernel_rfl) h
def zhR:Ann:=(.q (.q .nil))
def zhI(p0:Option Addr)(p1:Int)(R:VWP)(w:World):Prop:=ifB (decide (p1≥(0:Int))) (cR 38 #[.pointer p0] w λv1 w1=>∃x2:Int,v1=(.int .i64 x2)/\R (.bool (decide (p1<x2))) w1) (R (.bool false) w)
theorem zjx(p0)(p1)(R)(w)(h:zhI p0 p1 R w):Calls Tryz.prog 108 #[.pointer p0,.int .i64 p1] w (Ret R):=lwC zhR Tryz.func108 (by kernel_rfl) (by kernel_rfl) h
def zem:Ann:=(.q (.q .nil))
def zed(p0:Option Addr)(p1:Int)(p2:Int)(R:VWP)(w:World):Prop:=zc p0 λa1=>ldS w (a1.add 4) λx2=>(0<=p2/\p2<(x2.l:Int))/\zc x2.a λa3=>ldS w (a3.add p2.toNat) λx4=>cR 116 #[.slice x4.a x4.l x4.c,.int .i64 p1] w λv5 w1=>∃x6:Bool,v5=(.bool x6)/\R (.bool x6) w1
theorem zg2(p0)(p1)(p2)(R)(w)(h:zed p0 p1 p2 R w):Calls Tryz.prog 109 #[.pointer p0,.int .i64 p1,.int .i64 p2] w (Ret R):=lwC zem Tryz.func109 (by kernel_rfl) (by kernel_rfl) h
def zcB:Ann:=(.q (.q (.q (.seq none (.q (.one (.loop ⟨[0,3,25],[(4,(.b .slice)),(26,(.b (.int .i64)))]⟩ (.q (.seq none .c (.seq none (.one (.q (.q (.one (.loop ⟨[0,3,5,25,26,29],[(4,(.b .slice)),(30,(.b (.int .i64)))]⟩ (.q (.seq none .c (.seq (some ⟨[0,3,5,25,26,29,30],[(4,(.b .slice))]⟩) (.one (.seq (some ⟨[0,3,4,5,25,26,29,30],[(7,(.b .ptr))]⟩) .nil (.q .c))) .nil)))))))) .nil)))))) (.q .nil)))))
def ZT(p0:Option Addr)(R:VWP)(w:World):Prop:=Nw (w.alloc (.cells #[.nilFunc,.int .i64 0,.nilFunc,.int .i64 0,.nilFunc,.int .i64 0,.nilFunc,.int .i64 0] 237)) λw1=>Wr w1 (blk w.heap.size)/\Nw (w1.setCell (blk w.heap.size) (.func (.func 176) #[.pointer p0] #[])) λw2=>Wr w2 ((blk w.heap.size).add 1)/\Nw (w2.setCell ((blk w.heap.size).add 1) (.int .i64 163)) λw3=>Wr w3 ((blk w.heap.size).add 2)/\Nw (w3.setCell ((blk w.heap.size).add 2) (.func (.func 177) #[.pointer p0] #[])) λw4=>Wr w4 ((blk w.heap.size).add 3)/\Nw (w4.setCell ((blk w.heap.size).add 3) (.int .i64 160)) λw5=>Wr w5 ((blk w.heap.size).add 4)/\Nw (w5.setCell ((blk w.heap.size).add 4) (.func (.func 178) #[.pointer p0] #[])) λw6=>Wr w6 ((blk w.heap.size).add 5)/\Nw (w6.setCell ((blk w.heap.size).add 5) (.int .i64 162)) λw7=>Wr w7 ((blk w.heap.size).add 6)/\Nw (w7.setCell ((blk w.heap.size).add 6) (.func (.func 179) #[.pointer p0] #[])) λw8=>Wr w8 ((blk w.heap.size).add 7)/\Nw (w8.setCell ((blk w.heap.size).add 7) (.int .i64 161)) λw9=>zc p0 λa1=>ldS w9 (a1.add 1) λx2=>zl (S:=Sl×Int×Unit) (λs3 w10 n4=>ifB (decide (s3.2.1<(x2.l:Int))) (ldR w10 ((blk w.heap.size).add 0) λx5=>ldI w10 ((blk w.heap.size).add 1) .i64 λx6=>ldR w10 ((blk w.heap.size).add 2) λx7=>ldI w10 ((blk w.heap.size).add 3) .i64 λx8=>ldR w10 ((blk w.heap.size).add 4) λx9=>ldI w10 ((blk w.heap.size).add 5) .i64 λx10=>ldR w10 ((blk w.heap.size).add 6) λx11=>ldI w10 ((blk w.heap.size).add 7) .i64 λx12=>zl (S:=Sl×Int×Unit) (λs13 w11 n14=>ifB (decide (s13.2.1<(4:Int))) (zk (S:=Sl×Unit) (λm15=>zk (S:=(Option Addr)×Unit) (λm17=>(0<=s13.2.1/\s13.2.1<(4:Int))/\(s13.2.1=(0:Int)->Nw (w11.alloc (.cells #[.nilFunc,.int .i64 0] 236)) λw12=>oneV x5 (Wr w12 (blk w11.heap.size)/\Nw (w12.setCell (blk w11.heap.size) x5) λw13=>Wr w13 ((blk w11.heap.size).add 1)/\Nw (w13.setCell ((blk w11.heap.size).add 1) (.int .i64 x6)) λw14=>m17 ((some (blk w11.heap.size)),()) w14))/\(s13.2.1=(1:Int)->Nw (w11.alloc (.cells #[.nilFunc,.int .i64 0] 236)) λw15=>oneV x7 (Wr w15 (blk w11.heap.size)/\Nw (w15.setCell (blk w11.heap.size) x7) λw16=>Wr w16 ((blk w11.heap.size).add 1)/\Nw (w16.setCell ((blk w11.heap.size).add 1) (.int .i64 x8)) λw17=>m17 ((some (blk w11.heap.size)),()) w17))/\(s13.2.1=(2:Int)->Nw (w11.alloc (.cells #[.nilFunc,.int .i64 0] 236)) λw18=>oneV x9 (Wr w18 (blk w11.heap.size)/\Nw (w18.setCell (blk w11.heap.size) x9) λw19=>Wr w19 ((blk w11.heap.size).add 1)/\Nw (w19.setCell ((blk w11.heap.size).add 1) (.int .i64 x10)) λw20=>m17 ((some (blk w11.heap.size)),()) w20))/\(s13.2.1=(3:Int)->Nw (w11.alloc (.cells #[.nilFunc,.int .i64 0] 236)) λw21=>oneV x11 (Wr w21 (blk w11.heap.size)/\Nw (w21.setCell (blk w11.heap.size) x11) λw22=>Wr w22 ((blk w11.heap.size).add 1)/\Nw (w22.setCell ((blk w11.heap.size).add 1) (.int .i64 x12)) λw23=>m17 ((some (blk w11.heap.size)),()) w23))) (λs18 w24=>zc p0 λa19=>ldP w24 (a19.add 2) λx20=>cR 41 #[.pointer x20,.int .i64 s3.2.1] w24 λv21 w25=>∃x22:Bool,v21=(.bool x22)/\ifB x22 (zc s18.1 λa23=>ldR w25 a23 λx24=>zV Tryz.prog Tryz.fs x24 [(.int .i64 s3.2.1)] w25 λv25 w26=>∃x26:Bool,v25=(.bool x26)/\ifB x26 (zc s18.1 λa27=>ldI w26 (a27.add 1) .i64 λx28=>Nw (w26.alloc (.cells #[.int .i64 s3.2.1,.int .i64 x28] 156)) λw27=>zo Tryz.prog 152 (.slice s13.1.a s13.1.l s13.1.c) (.slice (some (blk w26.heap.size)) 1 1) w27 λr29 w28=>m15 (r29,()) w28) (m15 (s13.1,()) w26)) (m15 (s13.1,()) w25))) (λs16 w29=>n14 (s16.1,(IntKind.i64.wrap (s13.2.1+(1:Int))),()) w29)) (n4 (s13.1,(IntKind.i64.wrap (s3.2.1+(1:Int))),()) w11)) (s3.1,0,()) w10) (R (.slice s3.1.a s3.1.l s3.1.c) w10)) ((Sl.mk none 0 0),0,()) w9
theorem zfs(p0)(R)(w)(h:ZT p0 R w):Calls Tryz.prog 141 #[.pointer p0] w (Ret R):=lwC zcB Tryz.func141 (by kernel_rfl) (by kernel_rfl) h
def zlr:Ann:=(.q (.q .nil))
def zif(p0:Option Addr)(p1:Sl)(R:VWP)(w:World):Prop:=Nw (w.alloc (.cells #[.pointer p0] 75)) λw1=>ldP w1 (blk w.heap.size) λx1=>cR 38 #[.pointer x1] w1 λv2 w2=>∃x3:Int,v2=(.int .i64 x3)/\ifB ((p1.l:Int)==x3) (cR 186 #[.slice p1.a p1.l p1.c,.func (.func 187) #[] #[.pointer (some (blk w.heap.size))]] w2 λv4 w3=>∃x5:Bool,v4=(.bool x5)/\R (.bool (!x5)) w3) (R (.bool false) w2)
theorem zlM(p0)(p1)(R)(w)(h:zif p0 p1 R w):Calls Tryz.prog 147 #[.pointer p0,.slice p1.a p1.l p1.c] w (Ret R):=lwC zlr Tryz.func147 (by kernel_rfl) (by kernel_rfl) h
def yr:Ann:=(.q (.seq none (.q (.cond (.q .nil) .nil)) (.q .nil)))
def yp(p0:Sl)(R:VWP)(w:World):Prop:=ifB (Option.isNone p0.a) (R (.slice none 0 0) w) (Nw (w.alloc (.cells #[] 121)) λw1=>zo Tryz.prog 72 (.slice (some (blk w.heap.size)) 0 0) (.slice p0.a p0.l p0.c) w1 λr1 w2=>R (.slice r1.a r1.l r1.c) w2)
theorem Zv(p0)(R)(w)(h:yp p0 R w):Calls Tryz.prog 148 #[.slice p0.a p0.l p0.c] w (Ret R):=lwC yr Tryz.func148 (by kernel_rfl) (by kernel_rfl) h
def zbM:Ann:=(.q (.seq none (.q (.cond (.q .nil) .nil)) (.q (.seq none (.q (.one (.loop ⟨[],[(20,(.b (.int .i64)))]⟩ (.q (.one (.q .c)))))) (.q (.q .nil))))))
def Z2(p0:Option Addr)(p1:Int)(R:VWP)(w:World):Prop:=Nw (w.alloc (.cells #[.pointer p0] 159)) λw1=>Nw (w1.alloc (.cells #[.int .i64 p1] 3)) λw2=>ldP w2.drew (blk w.heap.size) λx1=>zc x1 λa2=>ldP w2.drew (a2.add 2) λx3=>ldI w2.drew (blk w1.heap.size) .i64 λx4=>cR 41 #[.pointer x3,.int .i64 x4] w2.drew λv5 w3=>∃x6:Bool,v5=(.bool x6)/\ifB (!x6) (R (.slice none 0 0) w3) (Nw (w3.alloc (.cells #[.slice none 0 0] 26)) λw4=>ldP w4.drew (blk w.heap.size) λx7=>zc x7 λa8=>ldP w4.drew (a8.add 3) λx9=>ldI w4.drew (blk w1.heap.size) .i64 λx10=>cR 189 #[.pointer x9,.int .i64 x10] w4.drew λv11 w5=>∃x12:Value,v11=x12/\zig Tryz.prog Tryz.fs x12 w5 (T:=Int×Unit) (λs13=>[(.int .i64 s13.1)]) (λmk14 l15 s13 w6 S16=>w6.heap[l15]? =some (mk14 .ready none)/\Nw (w6.putObj l15 (mk14 .busy none)) λw7=>ldP w7.drew (blk w.heap.size) λx18=>zc x18 λa19=>ldS w7.drew (a19.add 1) λx20=>(0<=s13.1/\s13.1<(x20.l:Int))/\zc x20.a λa21=>ldI w7.drew (a21.add (s13.1.toNat *3)) .u8 λx22=>ifB (x22 !=0) (ldP w7.drew (blk w.heap.size) λx23=>ldP w7.drew (blk w.heap.size) λx24=>zc x24 λa25=>ldS w7.drew (a25.add 1) λx26=>(0<=s13.1/\s13.1<(x26.l:Int))/\zc x26.a λa27=>ldI w7.drew ((a27.add (s13.1.toNat *3)).add 1) .i64 λx28=>ldI w7.drew (blk w1.heap.size) .i64 λx29=>cR 190 #[.pointer x23,.int .i64 x28,.int .i64 x29] w7.drew λv30 w8=>∃x31:Bool,v30=(.bool x31)/\ifB (!x31) (ldS w8 (blk w3.heap.size) λx32=>Nw (w8.alloc (.cells #[.int .i64 s13.1] 3)) λw9=>zo Tryz.prog 26 (.slice x32.a x32.l x32.c) (.slice (some (blk w8.heap.size)) 1 1) w9 λr33 w10=>Wr w10 (blk w3.heap.size)/\Nw (w10.setCell (blk w3.heap.size) (.slice r33.a r33.l r33.c)) λw11=>w11.heap[l15]? =some (mk14 .busy none)/\S16 (.bool true) (w11.putObj l15 (mk14 .ready none))) (w8.heap[l15]? =some (mk14 .busy none)/\S16 (.bool true) (w8.putObj l15 (mk14 .ready none)))) (w7.drew.heap[l15]? =some (mk14 .busy none)/\S16 (.bool true) (w7.drew.putObj l15 (mk14 .ready none)))) (λmk14 l15 d17 w12=>ym mk14 l15 .ready none w12 λw13=>ldS w13 (blk w3.heap.size) λx34=>cR 138 #[.slice x34.a x34.l x34.c] w13 λv35 w14=>v35=(.tuple #[])/\ldS w14 (blk w3.heap.size) λx36=>Yp (d17::[]) w14 λw15=>R (.slice x36.a x36.l x36.c) w15))
theorem zeD(p0:Option Addr)(p1:Int)(R:VWP)(w:World)(h:Z2 p0 p1 R w):Calls Tryz.prog 150 #[.pointer p0,.int .i64 p1] w (Ret R):=zhq (fs:=Tryz.fs) (an:=zbM) (args:=[(.pointer p0),(.int .i64 p1)]) Tryz.fsOK Tryz.mixed Tryz.func150 (by kernel_rfl) (by kernel_rfl) (Eq.mpr (by kernel_rfl:zmM Tryz.prog Tryz.fs Tryz.f150 zbM [(.pointer p0),(.int .i64 p1)] w R=Z2 p0 p1 R w) h)
def zdu:Ann:=(.q (.q .nil))
def zdf(p0:Option Addr)(p1:Int)(R:VWP)(w:World):Prop:=zc p0 λa1=>ldS w (a1.add 1) λx2=>(0<=p1/\p1<(x2.l:Int))/\zc x2.a λa3=>ldI w (a3.add (p1.toNat *3)) .u8 λx4=>ifB (x4==0) (zc p0 λa5=>ldP w a5 λx6=>cR 39 #[.pointer x6,.int .i64 p1] w λv7 w1=>∃x8:Sl,v7=(.slice x8.a x8.l x8.c)/\R (.bool (decide ((x8.l:Int)≥2))) w1) (R (.bool false) w)
theorem zfR(p0)(p1)(R)(w)(h:zdf p0 p1 R w):Calls Tryz.prog 176 #[.pointer p0,.int .i64 p1] w (Ret R):=lwC zdu Tryz.func176 (by kernel_rfl) (by kernel_rfl) h
def zcC:Ann:=(.q (.q (.seq none (.q (.cond (.q .nil) .nil)) (.q (.seq (some ⟨[0,1,5,6],[]⟩) (.q (.cond (.q .nil) .nil)) (.seq none (.q (.one (.loop ⟨[0,1,5,6,55,56],[(57,(.b (.int .i64)))]⟩ (.q (.seq none .c (.seq (some ⟨[0,1,5,6,55,56,57],[]⟩) (.one (.q (.seq (some ⟨[0,1,5,6,8,55,56,57],[]⟩) (.q .c) (.q (.cond (.q .nil) .nil))))) .nil)))))) (.q .nil)))))))
def zcw(p0:Option Addr)(p1:Int)(R:VWP)(w:World):Prop:=zc p0 λa1=>ldS w (a1.add 1) λx2=>(0<=p1/\p1<(x2.l:Int))/\zc x2.a λa3=>ldI w ((a3.add (p1.toNat *3)).add 0) .u8 λx4=>ldI w ((a3.add (p1.toNat *3)).add 1) .i64 λx5=>ldI w ((a3.add (p1.toNat *3)).add 2) .i64 λx6=>Nw (w.alloc (.cells #[.int .u8 0,.int .i64 0,.int .i64 0] 121)) λw1=>Wr w1 (blk w.heap.size)/\Nw (w1.setCell (blk w.heap.size) (.int .u8 x4)) λw2=>Wr w2 ((blk w.heap.size).add 1)/\Nw (w2.setCell ((blk w.heap.size).add 1) (.int .i64 x5)) λw3=>Wr w3 ((blk w.heap.size).add 2)/\Nw (w3.setCell ((blk w.heap.size).add 2) (.int .i64 x6)) λw4=>ldI w4 (blk w.heap.size) .u8 λx7=>ifB (x7==0) (R (.bool false) w4) (ldI w4 (blk w.heap.size) .u8 λx8=>zk (S:=Unit) (λm9=>ldI w4 ((blk w.heap.size).add 1) .i64 λx11=>ifB (x11==p1) (R (.bool true) w4) (ldI w4 ((blk w.heap.size).add 1) .i64 λx12=>cR 190 #[.pointer p0,.int .i64 p1,.int .i64 x12] w4 λv13 w5=>∃x14:Bool,v13=(.bool x14)/\ifB (!x14) (R (.bool true) w5) (ifB (x8==2) (ldI w5 ((blk w.heap.size).add 2) .i64 λx15=>ldI w5 ((blk w.heap.size).add 1) .i64 λx16=>ifB (x15==x16) (R (.bool true) w5) (ldI w5 ((blk w.heap.size).add 2) .i64 λx17=>cR 190 #[.pointer p0,.int .i64 p1,.int .i64 x17] w5 λv18 w6=>∃x19:Bool,v18=(.bool x19)/\ifB (!x19) (R (.bool true) w6) (m9 () w6))) (m9 () w5)))) (λs10 w7=>zc p0 λa20=>ldS w7 (a20.add 1) λx21=>zl (S:=Int×Unit) (λs22 w8 n23=>ifB (decide (s22.1<(x21.l:Int))) (zk (S:=Unit) (λm24=>(0<=s22.1/\s22.1<(x21.l:Int))/\zc x21.a λa26=>ldI w8 ((a26.add (s22.1.toNat *3)).add 0) .u8 λx27=>ldI w8 ((a26.add (s22.1.toNat *3)).add 1) .i64 λx28=>ldI w8 ((a26.add (s22.1.toNat *3)).add 2) .i64 λx29=>Nw (w8.alloc (.cells #[.int .u8 0,.int .i64 0,.int .i64 0] 121)) λw9=>Wr w9 (blk w8.heap.size)/\Nw (w9.setCell (blk w8.heap.size) (.int .u8 x27)) λw10=>Wr w10 ((blk w8.heap.size).add 1)/\Nw (w10.setCell ((blk w8.heap.size).add 1) (.int .i64 x28)) λw11=>Wr w11 ((blk w8.heap.size).add 2)/\Nw (w11.setCell ((blk w8.heap.size).add 2) (.int .i64 x29)) λw12=>zk (S:=Unit) (λm30=>ifB (s22.1==p1) (m24 () w12) (ldI w12 (blk w8.heap.size) .u8 λx32=>ifB (x32==0) (m24 () w12) (zc p0 λa33=>ldP w12 (a33.add 2) λx34=>cR 41 #[.pointer x34,.int .i64 s22.1] w12 λv35 w13=>∃x36:Bool,v35=(.bool x36)/\ifB (!x36) (m24 () w13) (m30 () w13)))) (λs31 w14=>ldI w14 ((blk w8.heap.size).add 1) .i64 λx37=>ldI w14 ((blk w.heap.size).add 1) .i64 λx38=>ifB (x37==x38) (R (.bool true) w14) (ifB (x8==2) (ldI w14 (blk w8.heap.size) .u8 λx39=>ifB (x39==2) (ldI w14 ((blk w8.heap.size).add 2) .i64 λx40=>ldI w14 ((blk w.heap.size).add 2) .i64 λx41=>ifB (x40==x41) (R (.bool true) w14) (m24 () w14)) (m24 () w14)) (m24 () w14)))) (λs25 w15=>n23 ((IntKind.i64.wrap (s22.1+(1:Int))),()) w15)) (R (.bool false) w8)) (0,()) w7))
theorem zft(p0)(p1)(R)(w)(h:zcw p0 p1 R w):Calls Tryz.prog 177 #[.pointer p0,.int .i64 p1] w (Ret R):=lwC zcC Tryz.func177 (by kernel_rfl) (by kernel_rfl) h
def zdt:Ann:=(.q (.seq none (.q (.one (.loop ⟨[0,1,16,17],[(18,(.b (.int .i64)))]⟩ (.q (.seq none .c (.seq (some ⟨[0,1,16,17,18],[]⟩) (.one (.q (.q (.one (.q (.cond (.q (.cond (.q .nil) .nil)) (.q (.cond (.q .nil) .nil)))))))) .nil)))))) (.q (.seq none (.q (.one (.loop ⟨[0,1,56,57],[(8,(.b (.int .i64))),(58,(.b (.int .i64)))]⟩ (.q (.seq none .c (.seq (some ⟨[0,1,56,57,58],[(8,(.b (.int .i64)))]⟩) (.one (.q (.q .c))) .nil)))))) (.q .nil)))))
def zde(p0:Option Addr)(p1:Int)(R:VWP)(w:World):Prop:=zc p0 λa1=>ldP w a1 λx2=>cR 39 #[.pointer x2,.int .i64 p1] w λv3 w1=>∃x4:Sl,v3=(.slice x4.a x4.l x4.c)/\zl (S:=Int×Unit) (λs5 w2 n6=>ifB (decide (s5.1<(x4.l:Int))) (zk (S:=Unit) (λm7=>(0<=s5.1/\s5.1<(x4.l:Int))/\zc x4.a λa9=>ldI w2 (a9.add s5.1.toNat) .i64 λx10=>zc p0 λa11=>ldS w2 (a11.add 1) λx12=>(0<=x10/\x10<(x12.l:Int))/\zc x12.a λa13=>ldI w2 ((a13.add (x10.toNat *3)).add 0) .u8 λx14=>ldI w2 ((a13.add (x10.toNat *3)).add 1) .i64 λx15=>ldI w2 ((a13.add (x10.toNat *3)).add 2) .i64 λx16=>Nw (w2.alloc (.cells #[.int .u8 0,.int .i64 0,.int .i64 0] 121)) λw3=>Wr w3 (blk w2.heap.size)/\Nw (w3.setCell (blk w2.heap.size) (.int .u8 x14)) λw4=>Wr w4 ((blk w2.heap.size).add 1)/\Nw (w4.setCell ((blk w2.heap.size).add 1) (.int .i64 x15)) λw5=>Wr w5 ((blk w2.heap.size).add 2)/\Nw (w5.setCell ((blk w2.heap.size).add 2) (.int .i64 x16)) λw6=>cR 190 #[.pointer p0,.int .i64 x10,.int .i64 p1] w6 λv17 w7=>∃x18:Bool,v17=(.bool x18)/\ifB x18 (ldI w7 (blk w2.heap.size) .u8 λx19=>ifB (x19 !=2) (R (.bool true) w7) (ldI w7 ((blk w2.heap.size).add 2) .i64 λx20=>cR 190 #[.pointer p0,.int .i64 x20,.int .i64 p1] w7 λv21 w8=>∃x22:Bool,v21=(.bool x22)/\ifB (!x22) (R (.bool true) w8) (m7 () w8))) (cR 229 #[.pointer p0,.int .i64 x10,.int .i64 p1] w7 λv23 w9=>∃x24:Bool,v23=(.bool x24)/\ifB x24 (R (.bool true) w9) (m7 () w9))) (λs8 w10=>n6 ((IntKind.i64.wrap (s5.1+(1:Int))),()) w10)) (zc p0 λa25=>ldP w2 a25 λx26=>cR 40 #[.pointer x26,.int .i64 p1] w2 λv27 w11=>∃x28:Sl,v27=(.slice x28.a x28.l x28.c)/\zl (S:=Int×Int×Unit) (λs29 w12 n30=>ifB (decide (s29.2.1<(x28.l:Int))) (zk (S:=Int×Unit) (λm31=>(0<=s29.2.1/\s29.2.1<(x28.l:Int))/\zc x28.a λa33=>ldI w12 (a33.add s29.2.1.toNat) .i64 λx34=>cR 190 #[.pointer p0,.int .i64 p1,.int .i64 x34] w12 λv35 w13=>∃x36:Bool,v35=(.bool x36)/\ifB x36 (m31 ((IntKind.i64.wrap (s29.1+(1:Int))),()) w13) (m31 (s29.1,()) w13)) (λs32 w14=>n30 (s32.1,(IntKind.i64.wrap (s29.2.1+(1:Int))),()) w14)) (R (.bool (decide (s29.1≥(2:Int)))) w12)) (0,0,()) w11)) (0,()) w1
theorem zfQ(p0)(p1)(R)(w)(h:zde p0 p1 R w):Calls Tryz.prog 178 #[.pointer p0,.int .i64 p1] w (Ret R):=lwC zdt Tryz.func178 (by kernel_rfl) (by kernel_rfl) h
def zdv:Ann:=(.q (.one (.q (.seq none (.q (.one (.loop ⟨[0,1,12,13],[(14,(.b (.int .i64)))]⟩ (.q (.seq none .c (.seq none (.one (.q (.seq none (.q .c) (.q .nil)))) .nil)))))) (.q .nil)))))
def zdg(p0:Option Addr)(p1:Int)(R:VWP)(w:World):Prop:=zc p0 λa1=>ldP w a1 λx2=>cR 39 #[.pointer x2,.int .i64 p1] w λv3 w1=>∃x4:Sl,v3=(.slice x4.a x4.l x4.c)/\zl (S:=Int×Unit) (λs5 w2 n6=>ifB (decide (s5.1<(x4.l:Int))) ((0<=s5.1/\s5.1<(x4.l:Int))/\zc x4.a λa7=>ldI w2 (a7.add s5.1.toNat) .i64 λx8=>cR 230 #[.pointer p0,.int .i64 p1,.int .i64 x8] w2 λv9 w3=>∃x10:Bool,v9=(.bool x10)/\ifB x10 (n6 ((IntKind.i64.wrap (s5.1+(1:Int))),()) w3) (R (.bool true) w3)) (R (.bool false) w2)) (0,()) w1
theorem zfS(p0)(p1)(R)(w)(h:zdg p0 p1 R w):Calls Tryz.prog 179 #[.pointer p0,.int .i64 p1] w (Ret R):=lwC zdv Tryz.func179 (by kernel_rfl) (by kernel_rfl) h
def zS:Ann:=(.q (.q .nil))
def zR(p0:Sl)(p1:Value)(R:VWP)(w:World):Prop:=cR 234 #[.slice p0.a p0.l p0.c,p1] w λv1 w1=>∃x2:Int,v1=(.int .i64 x2)/\R (.bool (decide (x2≥(0:Int)))) w1
theorem yI(p0)(p1)(R)(w)(h:zR p0 p1 R w):Calls Tryz.prog 186 #[.slice p0.a p0.l p0.c,p1] w (Ret R):=lwC zS Tryz.func186 (by kernel_rfl) (by kernel_rfl) h
def ziT:Ann:=(.q (.q .nil))
def zf3(p0:(Int×Int×Int×Unit))(c0:Addr)(R:VWP)(w:World):Prop:=Nw (w.alloc (.cells #[.int .u8 p0.1,.int .i64 p0.2.1,.int .i64 p0.2.2.1] 121)) λw1=>ldI w1 (blk w.heap.size) .u8 λx1=>ifB (decide (x1>(3:Int))) (R (.bool true) w1) (ldI w1 (blk w.heap.size) .u8 λx2=>ifB (x2 !=0) (ldP w1 c0 λx3=>ldI w1 ((blk w.heap.size).add 1) .i64 λx4=>cR 108 #[.pointer x3,.int .i64 x4] w1 λv5 w2=>∃x6:Bool,v5=(.bool x6)/\ifB (!x6) (R (.bool true) w2) (ldI w2 (blk w.heap.size) .u8 λx7=>ifB (x7==2) (ldP w2 c0 λx8=>ldI w2 ((blk w.heap.size).add 2) .i64 λx9=>cR 108 #[.pointer x8,.int .i64 x9] w2 λv10 w3=>∃x11:Bool,v10=(.bool x11)/\R (.bool (!x11)) w3) (R (.bool false) w2))) (ldI w1 (blk w.heap.size) .u8 λx12=>ifB (x12==2) (ldP w1 c0 λx13=>ldI w1 ((blk w.heap.size).add 2) .i64 λx14=>cR 108 #[.pointer x13,.int .i64 x14] w1 λv15 w4=>∃x16:Bool,v15=(.bool x16)/\R (.bool (!x16)) w4) (R (.bool false) w1)))
theorem zki(p0)(c0)(R)(w)(h:zf3 p0 c0 R w):Calls Tryz.prog 187 #[.agg #[.int .u8 p0.1,.int .i64 p0.2.1,.int .i64 p0.2.2.1],.pointer (some c0)] w (Ret R):=lwC ziT Tryz.func187 (by kernel_rfl) (by kernel_rfl) h
def Y9:Ann:=(.q (.q .nil))
def Y1(p0:Option Addr)(p1:Int)(p2:Int)(R:VWP)(w:World):Prop:=zc p0 λa1=>ldP w (a1.add 2) λx2=>cR 41 #[.pointer x2,.int .i64 p1] w λv3 w1=>∃x4:Bool,v3=(.bool x4)/\ifB x4 (zc p0 λa5=>ldP w1 (a5.add 2) λx6=>cR 41 #[.pointer x6,.int .i64 p2] w1 λv7 w2=>∃x8:Bool,v7=(.bool x8)/\ifB x8 (zc p0 λa9=>ldP w2 (a9.add 3) λx10=>cR 238 #[.pointer x10,.int .i64 p1,.int .i64 p2] w2 λv11 w3=>∃x12:Bool,v11=(.bool x12)/\R (.bool x12) w3) (R (.bool false) w2)) (R (.bool false) w1)
theorem zcM(p0)(p1)(p2)(R)(w)(h:Y1 p0 p1 p2 R w):Calls Tryz.prog 190 #[.pointer p0,.int .i64 p1,.int .i64 p2] w (Ret R):=lwC Y9 Tryz.func190 (by kernel_rfl) (by kernel_rfl) h
def zcA:Ann:=(.q (.q (.q (.q (.q .nil)))))
def ZS(p0:Option Addr)(p1:Int)(p2:Int)(R:VWP)(w:World):Prop:=Nw (w.alloc (.cells #[.pointer p0] 159)) λw1=>Nw (w1.alloc (.cells #[.int .i64 p2] 3)) λw2=>ldP w2 (blk w.heap.size) λx1=>zc x1 λa2=>ldP w2 a2 λx3=>cR 38 #[.pointer x3] w2 λv4 w3=>∃x5:Int,v4=(.int .i64 x5)/\(0<=x5/\x5<=x5/\8*x5<=281474976710656/\x5<=9223372036854775807)/\Nw (w3.alloc (.cells (madeCells #[.int .i64 0] (x5.toNat *1)) 3)) λw4=>Nw (w4.alloc (.cells #[.slice none 0 0] 26)) λw5=>Wr w5 (blk w4.heap.size)/\Nw (w5.setCell (blk w4.heap.size) (.slice (some (blk w3.heap.size)) x5.toNat x5.toNat)) λw6=>Nw (w6.alloc (.cells #[.nilFunc] 83)) λw7=>Wr w7 (blk w6.heap.size)/\Nw (w7.setCell (blk w6.heap.size) (.func (.func 259) #[] #[.pointer (some (blk w1.heap.size)),.pointer (some (blk w4.heap.size)),.pointer (some (blk w.heap.size)),.pointer (some (blk w6.heap.size))])) λw8=>ldR w8 (blk w6.heap.size) λx6=>zV Tryz.prog Tryz.fs x6 [(.int .i64 p1)] w8 λv7 w9=>∃x8:Bool,v7=(.bool x8)/\R (.bool x8) w9
theorem zfr(p0)(p1)(p2)(R)(w)(h:ZS p0 p1 p2 R w):Calls Tryz.prog 229 #[.pointer p0,.int .i64 p1,.int .i64 p2] w (Ret R):=lwC zcA Tryz.func229 (by kernel_rfl) (by kernel_rfl) h
def zen:Ann:=(.q (.seq none (.q (.one (.loop ⟨[0,1,2,20,21],[(22,(.b (.int .i64)))]⟩ (.q (.seq none .c (.seq (some ⟨[0,1,2,20,21,22],[]⟩) (.one (.q (.q (.cond (.q .nil) .nil)))) .nil)))))) (.q (.seq none (.q (.one (.loop ⟨[0,1,2,43,44],[(9,(.b .slice)),(45,(.b (.int .i64)))]⟩ (.q (.seq none .c (.seq (some ⟨[0,1,2,43,44,45],[(9,(.b .slice))]⟩) (.one (.q (.q .c))) .nil)))))) (.seq none (.q (.cond (.q .nil) .nil)) (.q (.seq (some ⟨[0,1,2],[]⟩) (.q (.cond (.q .nil) .nil)) (.q (.q .nil)))))))))
def zee(p0:Option Addr)(p1:Int)(p2:Int)(R:VWP)(w:World):Prop:=zc p0 λa1=>ldS w (a1.add 4) λx2=>(0<=p2/\p2<(x2.l:Int))/\zc x2.a λa3=>ldS w (a3.add p2.toNat) λx4=>zl (S:=Int×Unit) (λs5 w1 n6=>ifB (decide (s5.1<(x4.l:Int))) (zk (S:=Unit) (λm7=>(0<=s5.1/\s5.1<(x4.l:Int))/\zc x4.a λa9=>ldI w1 (a9.add s5.1.toNat) .i64 λx10=>ifB (x10 !=p2) (cR 109 #[.pointer p0,.int .i64 x10,.int .i64 p1] w1 λv11 w2=>∃x12:Bool,v11=(.bool x12)/\ifB (!x12) (R (.bool false) w2) (m7 () w2)) (m7 () w1)) (λs8 w3=>n6 ((IntKind.i64.wrap (s5.1+(1:Int))),()) w3)) (zc p0 λa13=>ldS w1 (a13.add 4) λx14=>(0<=p1/\p1<(x14.l:Int))/\zc x14.a λa15=>ldS w1 (a15.add p1.toNat) λx16=>zl (S:=Sl×Int×Unit) (λs17 w4 n18=>ifB (decide (s17.2.1<(x16.l:Int))) (zk (S:=Sl×Unit) (λm19=>(0<=s17.2.1/\s17.2.1<(x16.l:Int))/\zc x16.a λa21=>ldI w4 (a21.add s17.2.1.toNat) .i64 λx22=>cR 109 #[.pointer p0,.int .i64 x22,.int .i64 p2] w4 λv23 w5=>∃x24:Bool,v23=(.bool x24)/\ifB (!x24) (Nw (w5.alloc (.cells #[.int .i64 x22] 3)) λw6=>zo Tryz.prog 26 (.slice s17.1.a s17.1.l s17.1.c) (.slice (some (blk w5.heap.size)) 1 1) w6 λr25 w7=>m19 (r25,()) w7) (m19 (s17.1,()) w5)) (λs20 w8=>n18 (s20.1,(IntKind.i64.wrap (s17.2.1+(1:Int))),()) w8)) (ifB ((s17.1.l:Int)==0) (R (.bool true) w4) ((0<=(0:Int)/\0<(s17.1.l:Int))/\zc s17.1.a λa26=>ldI w4 (a26.add 0) .i64 λx27=>zk (S:=Unit) (λm28=>zc p0 λa30=>ldS w4 (a30.add 1) λx31=>(0<=x27/\x27<(x31.l:Int))/\zc x31.a λa32=>ldI w4 ((a32.add (x27.toNat *3)).add 1) .i64 λx33=>ifB (p2==x33) (ifB ((s17.1.l:Int)==1) (R (.bool true) w4) (Nw (w4.alloc (.cells #[.int .u8 2,.int .u8 3] 5)) λw9=>cR 262 #[.pointer p0,.int .i64 p1,.slice (some (blk w4.heap.size)) 2 2] w9 λv34 w10=>∃x35:Int,v34=(.int .i64 x35)/\ifB (x27==x35) (R (.bool true) w10) (m28 () w10))) (m28 () w4)) (λs29 w11=>Nw (w11.alloc (.cells #[.int .u8 2] 5)) λw12=>cR 262 #[.pointer p0,.int .i64 p1,.slice (some (blk w11.heap.size)) 1 1] w12 λv36 w13=>∃x37:Int,v36=(.int .i64 x37)/\ifB (decide (x37≥(0:Int))) (zc p0 λa38=>ldS w13 (a38.add 1) λx39=>(0<=x37/\x37<(x39.l:Int))/\zc x39.a λa40=>ldI w13 ((a40.add (x37.toNat *3)).add 2) .i64 λx41=>ifB (p2==x41) (cR 109 #[.pointer p0,.int .i64 x37,.int .i64 p2] w13 λv42 w14=>∃x43:Bool,v42=(.bool x43)/\R (.bool x43) w14) (R (.bool false) w13)) (R (.bool false) w13))))) ((Sl.mk none 0 0),0,()) w1)) (0,()) w
theorem zg3(p0)(p1)(p2)(R)(w)(h:zee p0 p1 p2 R w):Calls Tryz.prog 230 #[.pointer p0,.int .i64 p1,.int .i64 p2] w (Ret R):=lwC zen Tryz.func230 (by kernel_rfl) (by kernel_rfl) h
def yc:Ann:=(.q (.seq none (.q (.one (.loop ⟨[0,1,7],[(8,(.b (.int .i64)))]⟩ (.q (.seq none .c (.seq none (.one (.q (.q (.cond (.q .nil) .nil)))) .nil)))))) (.q .nil)))
def ya(p0:Sl)(p1:Value)(R:VWP)(w:World):Prop:=zl (S:=Int×Unit) (λs1 w1 n2=>ifB (decide (s1.1<(p0.l:Int))) ((0<=s1.1/\s1.1<(p0.l:Int))/\zc p0.a λa3=>ldI w1 ((a3.add (s1.1.toNat *3)).add 0) .u8 λx4=>ldI w1 ((a3.add (s1.1.toNat *3)).add 1) .i64 λx5=>ldI w1 ((a3.add (s1.1.toNat *3)).add 2) .i64 λx6=>zV Tryz.prog Tryz.fs p1 [(.agg #[.int .u8 x4,.int .i64 x5,.int .i64 x6])] w1 λv7 w2=>∃x8:Bool,v7=(.bool x8)/\ifB x8 (R (.int .i64 s1.1) w2) (n2 ((IntKind.i64.wrap (s1.1+(1:Int))),()) w2)) (R (.int .i64 (-1:Int)) w1)) (0,()) w
theorem yW(p0)(p1)(R)(w)(h:ya p0 p1 R w):Calls Tryz.prog 234 #[.slice p0.a p0.l p0.c,p1] w (Ret R):=lwC yc Tryz.func234 (by kernel_rfl) (by kernel_rfl) h
def zaT:Ann:=(.q (.seq none (.q (.cond (.q .nil) .nil)) (.q (.q .nil))))
def za8(p0:Int)(c0:Addr)(c1:Addr)(c2:Addr)(c3:Addr)(R:VWP)(w:World):Prop:=Nw (w.alloc (.cells #[.int .i64 p0] 3)) λw1=>ldI w1 (blk w.heap.size) .i64 λx1=>ldI w1 c0 .i64 λx2=>ifB (x1==x2) (R (.bool true) w1) (ldS w1 c1 λx3=>ldI w1 (blk w.heap.size) .i64 λx4=>(0<=x4/\x4<(x3.l:Int))/\zc x3.a λa5=>Wr w1 (a5.add x4.toNat)/\Nw (w1.setCell (a5.add x4.toNat) (.int .i64 1)) λw2=>ldP w2.drew c2 λx6=>zc x6 λa7=>ldP w2.drew a7 λx8=>ldI w2.drew (blk w.heap.size) .i64 λx9=>cR 39 #[.pointer x8,.int .i64 x9] w2.drew λv10 w3=>∃x11:Sl,v10=(.slice x11.a x11.l x11.c)/\cR 260 #[.slice x11.a x11.l x11.c,.func (.func 261) #[] #[.pointer (some c1),.pointer (some c2),.pointer (some (blk w.heap.size)),.pointer (some c3)]] w3 λv12 w4=>∃x13:Bool,v12=(.bool x13)/\R (.bool x13) w4)
theorem zdW(p0)(c0)(c1)(c2)(c3)(R)(w)(h:za8 p0 c0 c1 c2 c3 R w):Calls Tryz.prog 259 #[.int .i64 p0,.pointer (some c0),.pointer (some c1),.pointer (some c2),.pointer (some c3)] w (Ret R):=lwC zaT Tryz.func259 (by kernel_rfl) (by kernel_rfl) h
def Y8:Ann:=(.q (.q .nil))
def Y0(p0:Int)(c0:Addr)(c1:Addr)(c2:Addr)(c3:Addr)(R:VWP)(w:World):Prop:=ldS w c0 λx1=>(0<=p0/\p0<(x1.l:Int))/\zc x1.a λa2=>ldI w (a2.add p0.toNat) .i64 λx3=>ifB (x3==0) (ldP w c1 λx4=>ldI w c2 .i64 λx5=>cR 190 #[.pointer x4,.int .i64 p0,.int .i64 x5] w λv6 w1=>∃x7:Bool,v6=(.bool x7)/\ifB (!x7) (ldR w1 c3 λx8=>zV Tryz.prog Tryz.fs x8 [(.int .i64 p0)] w1 λv9 w2=>∃x10:Bool,v9=(.bool x10)/\R (.bool x10) w2) (R (.bool false) w1)) (R (.bool false) w)
theorem zcL(p0)(c0)(c1)(c2)(c3)(R)(w)(h:Y0 p0 c0 c1 c2 c3 R w):Calls Tryz.prog 261 #[.int .i64 p0,.pointer (some c0),.pointer (some c1),.pointer (some c2),.pointer (some c3)] w (Ret R):=lwC Y8 Tryz.func261 (by kernel_rfl) (by kernel_rfl) h
def zdw:Ann:=(.q (.q (.seq none (.q (.one (.loop ⟨[0,2,7],[(8,(.b (.int .i64)))]⟩ (.seq none (.q .c) (.seq none (.one (.q (.cond (.q .nil) .nil))) .nil))))) (.q .nil))))
def zdh(p0:Option Addr)(p1:Int)(p2:Sl)(R:VWP)(w:World):Prop:=zc p0 λa1=>ldS w (a1.add 4) λx2=>(0<=p1/\p1<(x2.l:Int))/\zc x2.a λa3=>ldS w (a3.add p1.toNat) λx4=>zl (S:=Int×Unit) (λs5 w1 n6=>ifB (decide (s5.1≥(0:Int))) (zc p0 λa7=>ldS w1.drew (a7.add 1) λx8=>(0<=s5.1/\s5.1<(x4.l:Int))/\zc x4.a λa9=>ldI w1.drew (a9.add s5.1.toNat) .i64 λx10=>(0<=x10/\x10<(x8.l:Int))/\zc x8.a λa11=>ldI w1.drew (a11.add (x10.toNat *3)) .u8 λx12=>cR 273 #[.slice p2.a p2.l p2.c,.int .u8 x12] w1.drew λv13 w2=>∃x14:Bool,v13=(.bool x14)/\ifB x14 ((0<=s5.1/\s5.1<(x4.l:Int))/\zc x4.a λa15=>ldI w2 (a15.add s5.1.toNat) .i64 λx16=>R (.int .i64 x16) w2) (n6 ((IntKind.i64.wrap (s5.1-(1:Int))),()) w2)) (R (.int .i64 (-1:Int)) w1)) ((IntKind.i64.wrap ((x4.l:Int)-1)),()) w
theorem zfT(p0)(p1)(p2)(R)(w)(h:zdh p0 p1 p2 R w):Calls Tryz.prog 262 #[.pointer p0,.int .i64 p1,.slice p2.a p2.l p2.c] w (Ret R):=lwC zdw Tryz.func262 (by kernel_rfl) (by kernel_rfl) h
end Go.Proofs
namespace Go.Proofs
open Go.Gk
set_option linter.unusedVariables false
set_option maxRecDepth 100000
def zdo:Ann:=(.q (.seq none (.q (.cond (.q .nil) .nil)) (.seq none (.q (.one (.loop ⟨[0,1],[(5,(.b (.int .i64)))]⟩ (.seq none (.q .c) (.seq none (.one (.q (.cond (.q .nil) .nil))) .nil))))) (.q .nil))))
def zdb(p0:Sl)(p1:Sl)(R:VWP)(w:World):Prop:=ifB ((p0.l:Int) !=(p1.l:Int)) (R (.bool false) w) (zl (S:=Int×Unit) (λs1 w1 n2=>ifB (decide (s1.1<(p0.l:Int))) ((0<=s1.1/\s1.1<(p0.l:Int))/\zc p0.a λa3=>ldI w1.drew (a3.add s1.1.toNat) .i64 λx4=>(0<=s1.1/\s1.1<(p1.l:Int))/\zc p1.a λa5=>ldI w1.drew (a5.add s1.1.toNat) .i64 λx6=>ifB (x4 !=x6) (R (.bool false) w1.drew) (n2 ((IntKind.i64.wrap (s1.1+(1:Int))),()) w1.drew)) (R (.bool true) w1)) (0,()) w)
theorem zfJ(p0)(p1)(R)(w)(h:zdb p0 p1 R w):Calls Tryz.prog 26 #[.slice p0.a p0.l p0.c,.slice p1.a p1.l p1.c] w (Ret R):=lwC zdo Tryz.func26 (by kernel_rfl) (by kernel_rfl) h
def zlq:Ann:=(.q (.seq none (.one (.q (.cond (.q .nil) (.q (.cond (.q .nil) .nil))))) (.seq (some ⟨[0],[(4,(.b .ptr))]⟩) .nil (.seq none (.q (.one (.loop ⟨[0,4,26,27],[(28,(.b (.int .i64)))]⟩ (.q (.seq none .c (.seq none (.one (.q (.q (.q (.one (.loop ⟨[0,4,5,7,26,27,28,33,34],[(35,(.b (.int .i64)))]⟩ (.q (.seq none .c (.seq (some ⟨[0,4,5,7,26,27,28,33,34,35],[]⟩) (.one (.q (.seq (some ⟨[0,4,5,7,9,26,27,28,33,34,35],[]⟩) (.q (.cond (.q .nil) .nil)) (.q (.cond (.q (.q .nil)) .nil))))) .nil))))))))) .nil)))))) (.q (.q .nil))))))
def zie(p0:Sl)(R:VWP)(w:World):Prop:=ifB ((p0.l:Int)==0) (R (.tuple #[.pointer none,.int .i64 2]) w) (ifB (decide ((p0.l:Int)>4096)) (R (.tuple #[.pointer none,.int .i64 4]) w) (zk (S:=(Option Addr)×Unit) (λm1=>((0<=(p0.l:Int)/\(p0.l:Int)<=(p0.l:Int)/\24*(p0.l:Int)<=281474976710656/\(p0.l:Int)<=9223372036854775807)/\Nw (w.drew.alloc (.cells (madeCells #[.slice none 0 0] (p0.l*1)) 26)) λw1=>(0<=(p0.l:Int)/\(p0.l:Int)<=(p0.l:Int)/\24*(p0.l:Int)<=281474976710656/\(p0.l:Int)<=9223372036854775807)/\Nw (w1.alloc (.cells (madeCells #[.slice none 0 0] (p0.l*1)) 26)) λw2=>Nw (w2.alloc (.cells (List.toArray ([(.slice (some (blk w.drew.heap.size)) p0.l p0.l),(.slice (some (blk w1.heap.size)) p0.l p0.l),(.slice none 0 0),(.slice none 0 0)]++List.replicate 64 (.int .u64 0))) 139)) λw3=>m1 ((some (blk w2.heap.size)),()) w3)/\(0<=(p0.l:Int)/\(p0.l:Int)<=(p0.l:Int)/\24*(p0.l:Int)<=281474976710656/\(p0.l:Int)<=9223372036854775807)/\Nw (w.drew.alloc (.cells (madeCells #[.slice none 0 0] (p0.l*1)) 26)) λw4=>(0<=(p0.l:Int)/\(p0.l:Int)<=(p0.l:Int)/\24*(p0.l:Int)<=281474976710656/\(p0.l:Int)<=9223372036854775807)/\Nw (w4.alloc (.cells (madeCells #[.slice none 0 0] (p0.l*1)) 26)) λw5=>Nw (w5.alloc (.cells (List.toArray ([(.slice (some (blk w4.heap.size)) p0.l p0.l),(.slice (some (blk w.drew.heap.size)) p0.l p0.l),(.slice none 0 0),(.slice none 0 0)]++List.replicate 64 (.int .u64 0))) 139)) λw6=>m1 ((some (blk w5.heap.size)),()) w6) (λs2 w7=>zl (S:=Int×Unit) (λs3 w8 n4=>ifB (decide (s3.1<(p0.l:Int))) ((0<=s3.1/\s3.1<(p0.l:Int))/\zc p0.a λa5=>ldS w8 (a5.add s3.1.toNat) λx6=>Nw (w8.alloc (.cells (List.toArray (List.replicate 64 (.int .u64 0))) 137)) λw9=>zl (S:=Int×Unit) (λs7 w10 n8=>ifB (decide (s7.1<(x6.l:Int))) (zk (S:=Unit) (λm9=>(0<=s7.1/\s7.1<(x6.l:Int))/\zc x6.a λa11=>ldI w10 (a11.add s7.1.toNat) .i64 λx12=>zk (S:=Unit) (λm13=>ifB (decide (x12<(0:Int))) (R (.tuple #[.pointer none,.int .i64 141]) w10) (ifB (decide (x12≥(p0.l:Int))) (R (.tuple #[.pointer none,.int .i64 141]) w10) (m13 () w10))) (λs14 w11=>cR 96 #[.pointer (some (blk w8.heap.size)),.int .i64 x12] w11 λv15 w12=>∃x16:Bool,v15=(.bool x16)/\ifB (!x16) (cR 97 #[.pointer (some (blk w8.heap.size)),.int .i64 x12] w12 λv17 w13=>v17=(.tuple #[])/\zc s2.1 λa18=>ldS w13.drew a18 λx19=>zc s2.1 λa20=>ldS w13.drew a20 λx21=>(0<=s3.1/\s3.1<(x21.l:Int))/\zc x21.a λa22=>ldS w13.drew (a22.add s3.1.toNat) λx23=>Nw (w13.drew.alloc (.cells #[.int .i64 x12] 3)) λw14=>w14.cell? (a22.add s3.1.toNat)=some (.slice x23.a x23.l x23.c)/\w14.cell? a20=some (.slice x21.a x21.l x21.c)/\w14.cell? a18=some (.slice x19.a x19.l x19.c)/\zo Tryz.prog 26 (.slice x23.a x23.l x23.c) (.slice (some (blk w13.drew.heap.size)) 1 1) w14 λr24 w15=>w15.cell? a18=some (.slice x19.a x19.l x19.c)/\(0<=s3.1/\s3.1<(x19.l:Int))/\zc x19.a λa25=>Wr w15 (a25.add s3.1.toNat)/\Nw (w15.setCell (a25.add s3.1.toNat) (.slice r24.a r24.l r24.c)) λw16=>zc s2.1 λa26=>ldS w16.drew (a26.add 1) λx27=>zc s2.1 λa28=>ldS w16.drew (a28.add 1) λx29=>(0<=x12/\x12<(x29.l:Int))/\zc x29.a λa30=>ldS w16.drew (a30.add x12.toNat) λx31=>Nw (w16.drew.alloc (.cells #[.int .i64 s3.1] 3)) λw17=>w17.cell? (a30.add x12.toNat)=some (.slice x31.a x31.l x31.c)/\w17.cell? (a28.add 1)=some (.slice x29.a x29.l x29.c)/\w17.cell? (a26.add 1)=some (.slice x27.a x27.l x27.c)/\zo Tryz.prog 26 (.slice x31.a x31.l x31.c) (.slice (some (blk w16.drew.heap.size)) 1 1) w17 λr32 w18=>w18.cell? (a26.add 1)=some (.slice x27.a x27.l x27.c)/\(0<=x12/\x12<(x27.l:Int))/\zc x27.a λa33=>Wr w18 (a33.add x12.toNat)/\Nw (w18.setCell (a33.add x12.toNat) (.slice r32.a r32.l r32.c)) λw19=>m9 () w19) (m9 () w12))) (λs10 w20=>n8 ((IntKind.i64.wrap (s7.1+(1:Int))),()) w20)) (n4 ((IntKind.i64.wrap (s3.1+(1:Int))),()) w10)) (0,()) w9) (cR 98 #[.pointer s2.1] w8 λv34 w21=>v34=(.tuple #[])/\R (.tuple #[.pointer s2.1,.int .i64 0]) w21)) (0,()) w7)))
theorem zl8(p0)(R)(w)(h:zie p0 R w):Calls Tryz.prog 37 #[.slice p0.a p0.l p0.c] w (Ret R):=lwC zlq Tryz.func37 (by kernel_rfl) (by kernel_rfl) h
def zej:Ann:=(.q (.seq none (.q (.cond (.q .nil) .nil)) (.q .nil)))
def zeb(p0:Option Addr)(R:VWP)(w:World):Prop:=ifB (Option.isNone p0) (R (.int .i64 0) w) (zc p0 λa1=>ldS w a1 λx2=>R (.int .i64 (x2.l:Int)) w)
theorem zgz(p0)(R)(w)(h:zeb p0 R w):Calls Tryz.prog 38 #[.pointer p0] w (Ret R):=lwC zej Tryz.func38 (by kernel_rfl) (by kernel_rfl) h
def zdl:Ann:=(.q (.seq none (.q (.cond (.q .nil) .nil)) (.q .nil)))
def zcY(p0:Option Addr)(p1:Int)(R:VWP)(w:World):Prop:=cR 99 #[.pointer p0,.int .i64 p1] w λv1 w1=>∃x2:Bool,v1=(.bool x2)/\ifB (!x2) (R (.slice none 0 0) w1) (zc p0 λa3=>ldS w1 a3 λx4=>(0<=p1/\p1<(x4.l:Int))/\zc x4.a λa5=>ldS w1 (a5.add p1.toNat) λx6=>cR 73 #[.slice x6.a x6.l x6.c] w1 λv7 w2=>∃x8:Sl,v7=(.slice x8.a x8.l x8.c)/\R (.slice x8.a x8.l x8.c) w2)
theorem zfF(p0)(p1)(R)(w)(h:zcY p0 p1 R w):Calls Tryz.prog 39 #[.pointer p0,.int .i64 p1] w (Ret R):=lwC zdl Tryz.func39 (by kernel_rfl) (by kernel_rfl) h
def zcz:Ann:=(.q (.seq none (.q (.cond (.q .nil) .nil)) (.q .nil)))
def zcl(p0:Option Addr)(p1:Int)(R:VWP)(w:World):Prop:=cR 99 #[.pointer p0,.int .i64 p1] w λv1 w1=>∃x2:Bool,v1=(.bool x2)/\ifB (!x2) (R (.slice none 0 0) w1) (zc p0 λa3=>ldS w1 (a3.add 1) λx4=>(0<=p1/\p1<(x4.l:Int))/\zc x4.a λa5=>ldS w1 (a5.add p1.toNat) λx6=>cR 73 #[.slice x6.a x6.l x6.c] w1 λv7 w2=>∃x8:Sl,v7=(.slice x8.a x8.l x8.c)/\R (.slice x8.a x8.l x8.c) w2)
theorem zfa(p0)(p1)(R)(w)(h:zcl p0 p1 R w):Calls Tryz.prog 40 #[.pointer p0,.int .i64 p1] w (Ret R):=lwC zcz Tryz.func40 (by kernel_rfl) (by kernel_rfl) h
def zaA:Ann:=(.q (.q .nil))
def zaq(p0:Option Addr)(p1:Int)(R:VWP)(w:World):Prop:=cR 99 #[.pointer p0,.int .i64 p1] w λv1 w1=>∃x2:Bool,v1=(.bool x2)/\ifB x2 (zc p0 λa3=>cR 96 #[.pointer (some (a3.add 4)),.int .i64 p1] w1 λv4 w2=>∃x5:Bool,v4=(.bool x5)/\R (.bool x5) w2) (R (.bool false) w1)
theorem zdE(p0)(p1)(R)(w)(h:zaq p0 p1 R w):Calls Tryz.prog 41 #[.pointer p0,.int .i64 p1] w (Ret R):=lwC zaA Tryz.func41 (by kernel_rfl) (by kernel_rfl) h
def zc0:Ann:=(.q (.seq none (.q (.cond (.q .nil) .nil)) (.q .nil)))
def zcm(p0:Option Addr)(R:VWP)(w:World):Prop:=ifB (Option.isNone p0) (R (.slice none 0 0) w) (zc p0 λa1=>ldS w (a1.add 3) λx2=>cR 73 #[.slice x2.a x2.l x2.c] w λv3 w1=>∃x4:Sl,v3=(.slice x4.a x4.l x4.c)/\R (.slice x4.a x4.l x4.c) w1)
theorem zfb(p0)(R)(w)(h:zcm p0 R w):Calls Tryz.prog 42 #[.pointer p0] w (Ret R):=lwC zc0 Tryz.func42 (by kernel_rfl) (by kernel_rfl) h
def YA:Ann:=(.q (.seq none (.q (.cond (.q .nil) .nil)) (.q .nil)))
def Y2(p0:Sl)(R:VWP)(w:World):Prop:=ifB (Option.isNone p0.a) (R (.slice none 0 0) w) (Nw (w.alloc (.cells #[] 3)) λw1=>zo Tryz.prog 26 (.slice (some (blk w.heap.size)) 0 0) (.slice p0.a p0.l p0.c) w1 λr1 w2=>R (.slice r1.a r1.l r1.c) w2)
theorem zcN(p0)(R)(w)(h:Y2 p0 R w):Calls Tryz.prog 73 #[.slice p0.a p0.l p0.c] w (Ret R):=lwC YA Tryz.func73 (by kernel_rfl) (by kernel_rfl) h
def zdr:Ann:=(.q (.seq none (.q (.cond (.q .nil) .nil)) (.seq none (.q (.cond (.q .nil) .nil)) (.q (.seq none (.q (.one (.loop ⟨[0,4],[(5,(.b (.int .i64)))]⟩ (.seq none (.q .c) (.seq none (.one (.q (.seq none (.q (.one (.loop ⟨[0,4,5],[(6,(.b .slice)),(7,(.b (.int .i64)))]⟩ (.seq none (.q .c) (.seq (some ⟨[0,4,5,7],[(6,(.b .slice))]⟩) (.one (.q (.seq (some ⟨[0,4,5,6,7,8],[]⟩) (.q (.cond (.q .nil) .nil)) (.q .c)))) .nil))))) .nil))) .nil))))) (.q .nil))))))
def Yo(p0:Sl)(R:VWP)(w:World):Prop:=ifB ((p0.l:Int)==0) (R (.tuple #[.pointer none,.int .i64 2]) w) (ifB (decide ((p0.l:Int)>4096)) (R (.tuple #[.pointer none,.int .i64 4]) w) (Nw (w.alloc (.cells #[.slice none 0 0] 185)) λw1=>zl (S:=Int×Unit) (λs1 w2 n2=>ifB (decide (s1.1<(p0.l:Int))) (zl (S:=Sl×Int×Unit) (λs3 w3 n4=>(0<=s1.1/\s1.1<(p0.l:Int))/\zc p0.a λa5=>ldS w3 (a5.add s1.1.toNat) λx6=>ifB (decide (s3.2.1<(x6.l:Int))) (zk (S:=Sl×Unit) (λm7=>(0<=s1.1/\s1.1<(p0.l:Int))/\zc p0.a λa9=>ldS w3 (a9.add s1.1.toNat) λx10=>(0<=s3.2.1/\s3.2.1<(x10.l:Int))/\zc x10.a λa11=>ldI w3 (a11.add s3.2.1.toNat) .i64 λx12=>zk (S:=Unit) (λm13=>ifB (decide (x12<(0:Int))) (R (.tuple #[.pointer none,.int .i64 141]) w3) (ifB (decide (x12≥(p0.l:Int))) (R (.tuple #[.pointer none,.int .i64 141]) w3) (m13 () w3))) (λs14 w4=>cR 130 #[.slice s3.1.a s3.1.l s3.1.c,.int .i64 x12] w4 λv15 w5=>∃x16:Bool,v15=(.bool x16)/\ifB (!x16) (Nw (w5.alloc (.cells #[.int .i64 x12] 3)) λw6=>zo Tryz.prog 26 (.slice s3.1.a s3.1.l s3.1.c) (.slice (some (blk w5.heap.size)) 1 1) w6 λr17 w7=>m7 (r17,()) w7) (m7 (s3.1,()) w5))) (λs8 w8=>n4 (s8.1,(IntKind.i64.wrap (s3.2.1+(1:Int))),()) w8)) (ldS w3 (blk w.heap.size) λx18=>Nw (w3.alloc (.cells #[.slice s3.1.a s3.1.l s3.1.c] 26)) λw9=>zo Tryz.prog 48 (.slice x18.a x18.l x18.c) (.slice (some (blk w3.heap.size)) 1 1) w9 λr19 w10=>Wr w10 (blk w.heap.size)/\Nw (w10.setCell (blk w.heap.size) (.slice r19.a r19.l r19.c)) λw11=>n2 ((IntKind.i64.wrap (s1.1+(1:Int))),()) w11)) ((Sl.mk none 0 0),0,()) w2) (R (.tuple #[.pointer (some (blk w.heap.size)),.int .i64 0]) w2)) (0,()) w1))
theorem zfM(p0)(R)(w)(h:Yo p0 R w):Calls Tryz.prog 84 #[.slice p0.a p0.l p0.c] w (Ret R):=lwC zdr Tryz.func84 (by kernel_rfl) (by kernel_rfl) h
def ZL:Ann:=(.q (.seq none (.q (.cond (.q .nil) .nil)) (.q .nil)))
def ZF(p0:Option Addr)(R:VWP)(w:World):Prop:=ifB (Option.isNone p0) (R (.int .i64 0) w) (zc p0 λa1=>ldS w a1 λx2=>R (.int .i64 (x2.l:Int)) w)
theorem zbS(p0)(R)(w)(h:ZF p0 R w):Calls Tryz.prog 91 #[.pointer p0] w (Ret R):=lwC ZL Tryz.func91 (by kernel_rfl) (by kernel_rfl) h
def Z4:Ann:=(.q (.q (.seq (some ⟨[0,1,5],[]⟩) (.q (.cond (.q .nil) .nil)) (.seq none (.q (.one (.loop ⟨[0,1],[(5,(.b .slice)),(6,(.b (.int .i64)))]⟩ (.seq none (.q .c) (.seq none (.one .nil) .nil))))) (.q .nil)))))
def Zz(p0:Option Addr)(p1:Int)(R:VWP)(w:World):Prop:=zk (S:=Unit) (λm1=>ifB (decide (p1<(0:Int))) (R (.slice none 0 0) w) (cR 91 #[.pointer p0] w λv3 w1=>∃x4:Int,v3=(.int .i64 x4)/\ifB (decide (p1≥x4)) (R (.slice none 0 0) w1) (m1 () w1))) (λs2 w2=>zl (S:=Sl×Int×Unit) (λs5 w3 n6=>zc p0 λa7=>ldS w3 a7 λx8=>(0<=p1/\p1<(x8.l:Int))/\zc x8.a λa9=>ldS w3 (a9.add p1.toNat) λx10=>ifB (decide (s5.2.1<(x10.l:Int))) (zc p0 λa11=>ldS w3 a11 λx12=>(0<=p1/\p1<(x12.l:Int))/\zc x12.a λa13=>ldS w3 (a13.add p1.toNat) λx14=>(0<=s5.2.1/\s5.2.1<(x14.l:Int))/\zc x14.a λa15=>ldI w3 (a15.add s5.2.1.toNat) .i64 λx16=>Nw (w3.alloc (.cells #[.int .i64 x16] 3)) λw4=>zo Tryz.prog 26 (.slice s5.1.a s5.1.l s5.1.c) (.slice (some (blk w3.heap.size)) 1 1) w4 λr17 w5=>n6 (r17,(IntKind.i64.wrap (s5.2.1+(1:Int))),()) w5) (R (.slice s5.1.a s5.1.l s5.1.c) w3)) ((Sl.mk none 0 0),0,()) w2)
theorem yQ(p0)(p1)(R)(w)(h:Zz p0 p1 R w):Calls Tryz.prog 92 #[.pointer p0,.int .i64 p1] w (Ret R):=lwC Z4 Tryz.func92 (by kernel_rfl) (by kernel_rfl) h
def Zp:Ann:=(.q (.q (.seq none (.q (.one (.loop ⟨[0,1],[(5,(.b .slice)),(6,(.b (.int .i64)))]⟩ (.seq none (.q .c) (.seq (some ⟨[0,1,6],[(5,(.b .slice))]⟩) (.one (.q .c)) .nil))))) (.q .nil))))
def Zk(p0:Option Addr)(p1:Int)(R:VWP)(w:World):Prop:=zl (S:=Sl×Int×Unit) (λs1 w1 n2=>cR 91 #[.pointer p0] w1 λv3 w2=>∃x4:Int,v3=(.int .i64 x4)/\ifB (decide (s1.2.1<x4)) (zk (S:=Sl×Unit) (λm5=>zc p0 λa7=>ldS w2 a7 λx8=>(0<=s1.2.1/\s1.2.1<(x8.l:Int))/\zc x8.a λa9=>ldS w2 (a9.add s1.2.1.toNat) λx10=>cR 130 #[.slice x10.a x10.l x10.c,.int .i64 p1] w2 λv11 w3=>∃x12:Bool,v11=(.bool x12)/\ifB x12 (Nw (w3.alloc (.cells #[.int .i64 s1.2.1] 3)) λw4=>zo Tryz.prog 26 (.slice s1.1.a s1.1.l s1.1.c) (.slice (some (blk w3.heap.size)) 1 1) w4 λr13 w5=>m5 (r13,()) w5) (m5 (s1.1,()) w3)) (λs6 w6=>n2 (s6.1,(IntKind.i64.wrap (s1.2.1+(1:Int))),()) w6)) (R (.slice s1.1.a s1.1.l s1.1.c) w2)) ((Sl.mk none 0 0),0,()) w
theorem zaj(p0)(p1)(R)(w)(h:Zk p0 p1 R w):Calls Tryz.prog 93 #[.pointer p0,.int .i64 p1] w (Ret R):=lwC Zp Tryz.func93 (by kernel_rfl) (by kernel_rfl) h
def zeS:Ann:=(.q (.q .nil))
def zaY(p0:Option Addr)(p1:Int)(R:VWP)(w:World):Prop:=zc p0 λa1=>(0<=(IntKind.i64.wrap (Int.tdiv p1 64))/\(IntKind.i64.wrap (Int.tdiv p1 64))<64)/\ldI w (a1.add (Int.toNat (IntKind.i64.wrap (Int.tdiv p1 64)))) .u64 λx2=>ifB (decide ((Int.tmod p1 64)<0)) (False) (R (.bool ((IntKind.u64.wrap (BitVec.toNat (BitVec.ofInt (IntKind.bits .u64) (Int.fdiv x2 (2 ^ (min (Int.toNat (Int.tmod p1 64)) (IntKind.bits .u64)))) &&& BitVec.ofInt (IntKind.bits .u64) 1):Int))==1)) w)
theorem zgQ(p0)(p1)(R)(w)(h:zaY p0 p1 R w):Calls Tryz.prog 96 #[.pointer p0,.int .i64 p1] w (Ret R):=lwC zeS Tryz.func96 (by kernel_rfl) (by kernel_rfl) h
def zeR:Ann:=.nil
def zaX(p0:Option Addr)(p1:Int)(R:VWP)(w:World):Prop:=zc p0 λa1=>(0<=(IntKind.i64.wrap (Int.tdiv p1 64))/\(IntKind.i64.wrap (Int.tdiv p1 64))<64)/\ldI w.drew (a1.add (Int.toNat (IntKind.i64.wrap (Int.tdiv p1 64)))) .u64 λx2=>ifB (decide ((Int.tmod p1 64)<0)) (False) (zc p0 λa3=>(0<=(IntKind.i64.wrap (Int.tdiv p1 64))/\(IntKind.i64.wrap (Int.tdiv p1 64))<64)/\Wr w.drew (a3.add (Int.toNat (IntKind.i64.wrap (Int.tdiv p1 64))))/\Nw (w.drew.setCell (a3.add (Int.toNat (IntKind.i64.wrap (Int.tdiv p1 64)))) (.int .u64 (IntKind.u64.wrap (BitVec.toNat (BitVec.ofInt (IntKind.bits .u64) x2 ||| BitVec.ofInt (IntKind.bits .u64) (IntKind.u64.wrap ((1:Int)*2 ^ (min (Int.toNat (Int.tmod p1 64)) (IntKind.bits .u64))))):Int)))) λw1=>R (.tuple #[]) w1)
theorem zgP(p0)(p1)(R)(w)(h:zaX p0 p1 R w):Calls Tryz.prog 97 #[.pointer p0,.int .i64 p1] w (Ret R):=lwC zeR Tryz.func97 (by kernel_rfl) (by kernel_rfl) h
def zb6:Ann:=(.q (.q (.q (.q .nil))))
def zbo(p0:Option Addr)(R:VWP)(w:World):Prop:=Nw (w.alloc (.cells #[.pointer p0] 75)) λw1=>Nw (w1.alloc (.cells #[.nilFunc] 140)) λw2=>Wr w2 (blk w1.heap.size)/\Nw (w2.setCell (blk w1.heap.size) (.func (.func 137) #[] #[.pointer (some (blk w.heap.size)),.pointer (some (blk w1.heap.size))])) λw3=>ldR w3 (blk w1.heap.size) λx1=>zV Tryz.prog Tryz.fs x1 [(.int .i64 0)] w3 λv2 w4=>v2=(.tuple #[])/\ldP w4 (blk w.heap.size) λx3=>zc x3 λa4=>ldS w4 (a4.add 3) λx5=>cR 138 #[.slice x5.a x5.l x5.c] w4 λv6 w5=>v6=(.tuple #[])/\R (.tuple #[]) w5
theorem zew(p0)(R)(w)(h:zbo p0 R w):Calls Tryz.prog 98 #[.pointer p0] w (Ret R):=lwC zb6 Tryz.func98 (by kernel_rfl) (by kernel_rfl) h
def zeQ:Ann:=(.q (.q .nil))
def zeI(p0:Option Addr)(p1:Int)(R:VWP)(w:World):Prop:=ifB (decide (p1≥(0:Int))) (cR 38 #[.pointer p0] w λv1 w1=>∃x2:Int,v1=(.int .i64 x2)/\R (.bool (decide (p1<x2))) w1) (R (.bool false) w)
theorem zgO(p0)(p1)(R)(w)(h:zeI p0 p1 R w):Calls Tryz.prog 99 #[.pointer p0,.int .i64 p1] w (Ret R):=lwC zeQ Tryz.func99 (by kernel_rfl) (by kernel_rfl) h
def zds:Ann:=(.q (.seq none (.q (.one (.loop ⟨[0,1],[(5,(.b (.int .i64)))]⟩ (.seq none (.q .c) (.seq none (.one (.q (.cond (.q .nil) .nil))) .nil))))) (.q .nil)))
def zdd(p0:Sl)(p1:Int)(R:VWP)(w:World):Prop:=zl (S:=Int×Unit) (λs1 w1 n2=>ifB (decide (s1.1<(p0.l:Int))) ((0<=s1.1/\s1.1<(p0.l:Int))/\zc p0.a λa3=>ldI w1 (a3.add s1.1.toNat) .i64 λx4=>ifB (x4==p1) (R (.bool true) w1) (n2 ((IntKind.i64.wrap (s1.1+(1:Int))),()) w1)) (R (.bool false) w1)) (0,()) w
theorem zfN(p0)(p1)(R)(w)(h:zdd p0 p1 R w):Calls Tryz.prog 130 #[.slice p0.a p0.l p0.c,.int .i64 p1] w (Ret R):=lwC zds Tryz.func130 (by kernel_rfl) (by kernel_rfl) h
def ZK:Ann:=(.q (.q (.seq (some ⟨[0,1,5],[]⟩) (.q (.cond (.q .nil) .nil)) (.q (.seq none (.q (.one (.loop ⟨[0,1,5],[(6,(.b .bool))]⟩ (.seq none (.q .c) (.one (.q (.q (.one (.loop ⟨[0,1,5],[(6,(.b .bool)),(7,(.b (.int .i64)))]⟩ (.seq none (.q .c) (.seq (some ⟨[0,1,5,7],[(6,(.b .bool))]⟩) (.one (.seq none (.q .c) (.q (.one (.loop ⟨[0,1,5,7],[(6,(.b .bool)),(8,(.b (.int .i64)))]⟩ (.seq none (.q .c) (.seq (some ⟨[0,1,5,7,8],[(6,(.b .bool))]⟩) (.one (.q (.q (.cond (.q .nil) .nil)))) .nil))))))) .nil))))))))))) (.q .nil))))))
def ZE(p0:Option Addr)(p1:Int)(R:VWP)(w:World):Prop:=cR 91 #[.pointer p0] w λv1 w1=>∃x2:Int,v1=(.int .i64 x2)/\(0<=x2/\x2<=x2/\1*x2<=281474976710656/\x2<=9223372036854775807)/\Nw (w1.alloc (.cells (madeCells #[.bool false] (x2.toNat *1)) 4)) λw2=>zk (S:=Unit) (λm3=>cR 91 #[.pointer p0] w2 λv5 w3=>∃x6:Int,v5=(.int .i64 x6)/\ifB (x6==0) (R (.slice (some (blk w1.heap.size)) x2.toNat x2.toNat) w3) (ifB (p1==0) (R (.slice (some (blk w1.heap.size)) x2.toNat x2.toNat) w3) (m3 () w3))) (λs4 w4=>(0<=(0:Int)/\0<(x2.toNat:Int))/\Wr w4 ((blk w1.heap.size).add 0)/\Nw (w4.setCell ((blk w1.heap.size).add 0) (.bool true)) λw5=>zl (S:=Bool×Unit) (λs7 w6 n8=>ifB s7.1 (zl (S:=Bool×Int×Unit) (λs9 w7 n10=>cR 91 #[.pointer p0] w7 λv11 w8=>∃x12:Int,v11=(.int .i64 x12)/\ifB (decide (s9.2.1<x12)) (zk (S:=Bool×Unit) (λm13=>(0<=s9.2.1/\s9.2.1<(x2.toNat:Int))/\ldB w8 ((blk w1.heap.size).add s9.2.1.toNat) λx15=>ifB (!x15) (m13 (s9.1,()) w8) (zl (S:=Bool×Int×Unit) (λs16 w9 n17=>zc p0 λa18=>ldS w9 a18 λx19=>(0<=s9.2.1/\s9.2.1<(x19.l:Int))/\zc x19.a λa20=>ldS w9 (a20.add s9.2.1.toNat) λx21=>ifB (decide (s16.2.1<(x21.l:Int))) (zk (S:=Bool×Unit) (λm22=>zc p0 λa24=>ldS w9 a24 λx25=>(0<=s9.2.1/\s9.2.1<(x25.l:Int))/\zc x25.a λa26=>ldS w9 (a26.add s9.2.1.toNat) λx27=>(0<=s16.2.1/\s16.2.1<(x27.l:Int))/\zc x27.a λa28=>ldI w9 (a28.add s16.2.1.toNat) .i64 λx29=>ifB (x29 !=p1) ((0<=x29/\x29<(x2.toNat:Int))/\ldB w9 ((blk w1.heap.size).add x29.toNat) λx30=>ifB (!x30) ((0<=x29/\x29<(x2.toNat:Int))/\Wr w9 ((blk w1.heap.size).add x29.toNat)/\Nw (w9.setCell ((blk w1.heap.size).add x29.toNat) (.bool true)) λw10=>m22 (true,()) w10) (m22 (s16.1,()) w9)) (m22 (s16.1,()) w9)) (λs23 w11=>n17 (s23.1,(IntKind.i64.wrap (s16.2.1+(1:Int))),()) w11)) (m13 (s16.1,()) w9)) (s9.1,0,()) w8)) (λs14 w12=>n10 (s14.1,(IntKind.i64.wrap (s9.2.1+(1:Int))),()) w12)) (n8 (s9.1,()) w8)) (false,0,()) w6) (R (.slice (some (blk w1.heap.size)) x2.toNat x2.toNat) w6)) (true,()) w5)
theorem zbR(p0)(p1)(R)(w)(h:ZE p0 p1 R w):Calls Tryz.prog 135 #[.pointer p0,.int .i64 p1] w (Ret R):=lwC ZK Tryz.func135 (by kernel_rfl) (by kernel_rfl) h
def YS:Ann:=(.q (.q (.seq none (.q (.one (.loop ⟨[0,1,2,27,28],[(29,(.b (.int .i64)))]⟩ (.q (.seq none .c (.seq (some ⟨[0,1,2,27,28,29],[]⟩) (.one (.q (.q .c))) .nil)))))) .nil)))
def YM(p0:Int)(c0:Addr)(c1:Addr)(R:VWP)(w:World):Prop:=ldP w c0 λx1=>zc x1 λa2=>cR 97 #[.pointer (some (a2.add 4)),.int .i64 p0] w λv3 w1=>v3=(.tuple #[])/\ldP w1.drew c0 λx4=>ldP w1.drew c0 λx5=>zc x5 λa6=>ldS w1.drew (a6.add 2) λx7=>Nw (w1.drew.alloc (.cells #[.int .i64 p0] 3)) λw2=>w2.cell? (a6.add 2)=some (.slice x7.a x7.l x7.c)/\w2.cell? c0=some (.pointer x5)/\w2.cell? c0=some (.pointer x4)/\zo Tryz.prog 26 (.slice x7.a x7.l x7.c) (.slice (some (blk w1.drew.heap.size)) 1 1) w2 λr8 w3=>w3.cell? c0=some (.pointer x4)/\zc x4 λa9=>Wr w3 (a9.add 2)/\Nw (w3.setCell (a9.add 2) (.slice r8.a r8.l r8.c)) λw4=>ldP w4 c0 λx10=>zc x10 λa11=>ldS w4 a11 λx12=>(0<=p0/\p0<(x12.l:Int))/\zc x12.a λa13=>ldS w4 (a13.add p0.toNat) λx14=>zl (S:=Int×Unit) (λs15 w5 n16=>ifB (decide (s15.1<(x14.l:Int))) (zk (S:=Unit) (λm17=>(0<=s15.1/\s15.1<(x14.l:Int))/\zc x14.a λa19=>ldI w5 (a19.add s15.1.toNat) .i64 λx20=>ldP w5 c0 λx21=>zc x21 λa22=>cR 96 #[.pointer (some (a22.add 4)),.int .i64 x20] w5 λv23 w6=>∃x24:Bool,v23=(.bool x24)/\ifB (!x24) (ldR w6 c1 λx25=>zV Tryz.prog Tryz.fs x25 [(.int .i64 x20)] w6 λv26 w7=>v26=(.tuple #[])/\m17 () w7) (m17 () w6)) (λs18 w8=>n16 ((IntKind.i64.wrap (s15.1+(1:Int))),()) w8)) (ldP w5.drew c0 λx27=>ldP w5.drew c0 λx28=>zc x28 λa29=>ldS w5.drew (a29.add 3) λx30=>Nw (w5.drew.alloc (.cells #[.int .i64 p0] 3)) λw9=>w9.cell? (a29.add 3)=some (.slice x30.a x30.l x30.c)/\w9.cell? c0=some (.pointer x28)/\w9.cell? c0=some (.pointer x27)/\zo Tryz.prog 26 (.slice x30.a x30.l x30.c) (.slice (some (blk w5.drew.heap.size)) 1 1) w9 λr31 w10=>w10.cell? c0=some (.pointer x27)/\zc x27 λa32=>Wr w10 (a32.add 3)/\Nw (w10.setCell (a32.add 3) (.slice r31.a r31.l r31.c)) λw11=>R (.tuple #[]) w11)) (0,()) w4
theorem zdz(p0)(c0)(c1)(R)(w)(h:YM p0 c0 c1 R w):Calls Tryz.prog 137 #[.int .i64 p0,.pointer (some c0),.pointer (some c1)] w (Ret R):=lwC YS Tryz.func137 (by kernel_rfl) (by kernel_rfl) h
def ZQ:Ann:=(.q (.one (.loop ⟨[0],[(2,(.b (.int .i64))),(3,(.b (.int .i64)))]⟩ (.seq none (.q .c) (.seq none (.one .nil) .nil)))))
def y9(p0:Sl)(R:VWP)(w:World):Prop:=zl (S:=Int×Int×Unit) (λs1 w1 n2=>ifB (decide (s1.1<s1.2.1)) ((0<=s1.2.1/\s1.2.1<(p0.l:Int))/\zc p0.a λa3=>ldI w1.drew (a3.add s1.2.1.toNat) .i64 λx4=>(0<=s1.1/\s1.1<(p0.l:Int))/\zc p0.a λa5=>ldI w1.drew (a5.add s1.1.toNat) .i64 λx6=>(0<=s1.1/\s1.1<(p0.l:Int))/\zc p0.a λa7=>Wr w1.drew (a7.add s1.1.toNat)/\Nw (w1.drew.setCell (a7.add s1.1.toNat) (.int .i64 x4)) λw2=>(0<=s1.2.1/\s1.2.1<(p0.l:Int))/\zc p0.a λa8=>Wr w2 (a8.add s1.2.1.toNat)/\Nw (w2.setCell (a8.add s1.2.1.toNat) (.int .i64 x6)) λw3=>n2 ((IntKind.i64.wrap (s1.1+(1:Int))),(IntKind.i64.wrap (s1.2.1-(1:Int))),()) w3) (R (.tuple #[]) w1)) (0,(IntKind.i64.wrap ((p0.l:Int)-1)),()) w
theorem zbZ(p0)(R)(w)(h:y9 p0 R w):Calls Tryz.prog 138 #[.slice p0.a p0.l p0.c] w (Ret R):=lwC ZQ Tryz.func138 (by kernel_rfl) (by kernel_rfl) h
end Go.Proofs
namespace Go.Gr
def YW(acc:List Nat)(x:Nat):List Nat:=if acc.contains x then acc else acc++[x]
def Ze(l:List Nat):List Nat:=l.foldl YW []
def zJ(nx:List (List Nat)):List (List Nat):=(List.range nx.length).map λj=>(List.range nx.length).filter λi=>(nx.getD i []).contains j
def yi(nx:List (List Nat)):Nat->Nat->List Nat×List Nat->List Nat×List Nat
 | 0,_,s=>s
 |f+1,i,s=>let r:=(nx.getD i []).foldl (λs t=>if s.1.contains t then s else yi nx f t s) (s.1++[i],s.2);(r.1,r.2++[i])
def zD(nx:List (List Nat))(f:Nat)(l:List Nat)(s:List Nat×List Nat):List Nat×List Nat:=l.foldl (λs t=>if s.1.contains t then s else yi nx f t s) s
theorem zdA(nx:List (List Nat))(f i:Nat)(s:List Nat×List Nat) :
  yi nx (f+1) i s=((zD nx f (nx.getD i []) (s.1++[i],s.2)).1,(zD nx f (nx.getD i []) (s.1++[i],s.2)).2++[i]):=rfl
theorem zmo(nx:List (List Nat))(f:Nat)(l:List Nat)(t:Nat)(s:List Nat×List Nat) :
  zD nx f (l++[t]) s=if (zD nx f l s).1.contains t then zD nx f l s else yi nx f t (zD nx f l s):=by
 simp[zD,List.foldl_append]
def yB(nx:List (List Nat)):List Nat:=(yi nx nx.length 0 ([],[])).1
def zp(nx:List (List Nat)):List Nat:=(yi nx nx.length 0 ([],[])).2.reverse
structure Came (n:Nat) (s s':List Nat×List Nat):Prop where
 nodup:s'.1.Nodup
 lt:∀x∈s'.1,x<n
 more:∃l,s'.1=s.1++l
theorem zfX{nx:List (List Nat)}(hnx:∀i,∀t∈nx.getD i [],t<nx.length):∀(f i:Nat) (s:List Nat×List Nat),i<nx.length->s.1.Nodup->(∀x∈s.1,x<nx.length)->i ∉ s.1->
  Came nx.length s (yi nx f i s):=by
 intro f
 induction f with
 |zero=>intro i s _ h1 h2 _;exact⟨h1,h2,[],by simp[yi]⟩
 |succ f ih=>
  intro i s hi h1 h2 h3
  have base:Came nx.length s (s.1++[i],s.2):=⟨by
    rw[List.nodup_append]
    exact⟨h1,by simp,λx hx y hy=>by simp at hy;subst hy;intro e;subst e;exact h3 hx⟩,λx hx=>by
    simp at hx
    rcases hx with hx |rfl
    ·exact h2 x hx
    ·exact hi,[i],rfl⟩
  have all:∀(l:List Nat) (s':List Nat×List Nat),(∀t∈l,t<nx.length)->Came nx.length s s'->Came nx.length s (zD nx f l s'):=by
   intro l
   induction l with
   |nil=>intro s' _ h;exact h
   |cons t r ihl=>
    intro s' hl h
    show Came nx.length s (zD nx f r (if s'.1.contains t then s' else yi nx f t s'))
    refine ihl _ (λx hx=>hl x (List.mem_cons_of_mem _ hx)) ?_
    split
    ·exact h
    ·rename_i hc
     have hv:=ih t s' (hl t (List.mem_cons_self ..)) h.nodup h.lt (by simpa using hc)
     obtain⟨l1,e1⟩:=h.more
     obtain⟨l2,e2⟩:=hv.more
     exact⟨hv.nodup,hv.lt,l1++l2,by rw[e2,e1,List.append_assoc]⟩
  rw[zdA]
  have:=all (nx.getD i []) _ (hnx i) base
  exact⟨this.nodup,this.lt,this.more⟩
theorem zac:∀{n:Nat} {l:List Nat},l.Nodup->(∀x∈l,x<n)->l.length<=n
 | 0,l,_,hl=>by
  cases l with
  |nil=>simp
  |cons x r=>exact absurd (hl x (List.mem_cons_self ..)) (by omega)
 |n+1,l,h,hl=>by
  by_cases hn:n∈l
  ·have h1:=zac (n:=n) (l:=l.erase n) (h.erase n) (λx hx=>by
    have h2:=(h.mem_erase_iff).1 hx
    have:=hl x h2.2
    omega)
   rw[List.length_erase_of_mem hn]at h1
   omega
  ·have:=zac (n:=n) (l:=l) h (λx hx=>by
    have h1:=hl x hx
    have h2:x≠n:=λe=>hn (e▸hx)
    omega)
   omega
theorem zfu{n i:Nat}{l:List Nat}(h:l.Nodup)(hl:∀x∈l,x<n)(hi:i<n)(hni:i ∉ l):l.length<n:=by
 have:(l++[i]).length<=n:=zac (by
  rw[List.nodup_append]
  exact⟨h,by simp,λx hx y hy=>by simp at hy;subst hy;intro e;subst e;exact hni hx⟩) (λx hx=>by
  simp at hx
  rcases hx with hx |rfl
  ·exact hl x hx
  ·exact hi)
 simp at this
 omega
def nxP(rows:List (List Nat))(i k:Nat):List (List Nat):=(List.range rows.length).map λj=>if j<i then Ze (rows.getD j []) else if j=i then Ze ((rows.getD j []).take k) else []
theorem ziy(rows:List (List Nat))(i k:Nat):(nxP rows i k).length=rows.length:=by simp[nxP]
theorem zfv{rows:List (List Nat)}{i k j:Nat}(hj:j<rows.length):(nxP rows i k).getD j []=if j<i then Ze (rows.getD j []) else if j=i then Ze ((rows.getD j []).take k) else []:=by
 simp[nxP,List.getD,hj]
theorem zsk(rows:List (List Nat)):nxP rows 0 0=List.replicate rows.length []:=by
 apply List.ext_getElem
 ·simp[nxP]
 ·intro j h1 h2
  simp only[nxP,List.getElem_map,List.getElem_range,List.getElem_replicate,List.take_zero]
  split
  ·omega
  ·split<;>rfl
theorem zsh(rows:List (List Nat))(i:Nat):nxP rows i (rows.getD i []).length=nxP rows (i+1) 0:=by
 apply List.ext_getElem
 ·simp[nxP]
 ·intro j h1 h2
  simp only[nxP,List.getElem_map,List.getElem_range,List.take_zero]
  by_cases h:j<i
  ·rw[if_pos h,if_pos (by omega)]
  ·rw[if_neg h]
   by_cases h':j=i
   ·subst h';rw[if_pos rfl,if_pos (by omega),List.take_length]
   ·rw[if_neg h',if_neg (by omega)];split<;>rfl
theorem zsK(rows:List (List Nat)):nxP rows rows.length 0=rows.map Ze:=by
 apply List.ext_getElem
 ·simp[nxP]
 ·intro j h1 h2
  have hj:j<rows.length:=by simpa using h2
  simp only[nxP,List.getElem_map,List.getElem_range,if_pos hj]
  simp[List.getD,hj]
theorem zii(l:List Nat)(x:Nat):Ze (l++[x])=YW (Ze l) x:=by simp[Ze,List.foldl_append]
theorem zsj{rows:List (List Nat)}{i k:Nat}(hi:i<rows.length)(hk:k<(rows.getD i []).length)(h:((nxP rows i k).getD i []).contains ((rows.getD i [])[k])=true):nxP rows i (k+1)=nxP rows i k:=by
 apply List.ext_getElem
 ·simp[nxP]
 ·intro j h1 h2
  simp only[nxP,List.getElem_map,List.getElem_range]
  by_cases hji:j<i
  ·rw[if_pos hji,if_pos hji]
  ·rw[if_neg hji,if_neg hji]
   by_cases h':j=i
   ·subst h'
    rw[if_pos rfl,if_pos rfl,List.take_succ_eq_append_getElem hk,zii]
    rw[zfv hi,if_neg (by omega),if_pos rfl]at h
    unfold YW
    rw[if_pos h]
   ·rw[if_neg h',if_neg h']
theorem zsi{rows:List (List Nat)}{i k:Nat}(hi:i<rows.length)(hk:k<(rows.getD i []).length)(h:((nxP rows i k).getD i []).contains ((rows.getD i [])[k])=false) :
  nxP rows i (k+1)=(nxP rows i k).set i ((nxP rows i k).getD i []++[(rows.getD i [])[k]]):=by
 apply List.ext_getElem
 ·simp[nxP]
 ·intro j h1 h2
  by_cases h':j=i
  ·subst h'
   rw[List.getElem_set_self,zfv hi]
   rw[zfv hi,if_neg (by omega),if_pos rfl]at h
   rw[if_neg (by omega),if_pos rfl]
   simp only[nxP,List.getElem_map,List.getElem_range]
   rw[if_neg (by omega),if_pos trivial,List.take_succ_eq_append_getElem hk,zii]
   unfold YW
   rw[if_neg (by rw[h];simp)]
  ·rw[List.getElem_set_ne (by omega)]
   simp only[nxP,List.getElem_map,List.getElem_range]
   rw[if_neg h',if_neg h']
theorem yX(nx:List (List Nat)):(zJ nx).length=nx.length:=by simp[zJ]
theorem zf5{nx:List (List Nat)}{j:Nat}(hj:j<nx.length):(zJ nx).getD j []=(List.range nx.length).filter λi=>(nx.getD i []).contains j:=by
 simp[zJ,List.getD,hj]
theorem zpq{nx:List (List Nat)}{i x:Nat}(hi:i<nx.length)(hx:x<nx.length)(hni:(nx.getD i []).contains x=false)(hgt:∀j,i<j->nx.getD j []=[]) :
  zJ (nx.set i (nx.getD i []++[x]))=(zJ nx).set x ((zJ nx).getD x []++[i]):=by
 have hget:∀a,(nx.set i (nx.getD i []++[x])).getD a []=if a=i then nx.getD i []++[x] else nx.getD a []:=by
  intro a
  by_cases h:a=i
  ·subst h;rw[if_pos rfl];simp[List.getD,hi]
  ·rw[if_neg h];simp only[List.getD];rw[List.getElem?_set_ne (by omega)]
 apply List.ext_getElem
 ·simp[zJ]
 ·intro j h1 h2
  have hj:j<nx.length:=by simpa[zJ] using h1
  by_cases h:j=x
  ·subst h
   rw[List.getElem_set_self,zf5 hj]
   simp only[zJ,List.getElem_map,List.getElem_range,List.length_set]
   have e1:List.range nx.length=List.range i++i::(List.range (nx.length-i-1)).map (·+(i+1)):=by
    apply List.ext_getElem
    ·simp;omega
    ·intro a g1 g2
     rw[List.getElem_range]
     rcases Nat.lt_trichotomy a i with g |g |g
     ·rw[List.getElem_append_left (by simpa using g)];simp
     ·subst g;rw[List.getElem_append_right (by simp)];simp
     ·rw[List.getElem_append_right (by simp;omega),List.getElem_cons]
      simp only[List.length_range]
      rw[dif_neg (by omega)]
      simp;omega
   rw[e1,List.filter_append,List.filter_append,List.filter_cons,List.filter_cons,hget i,if_pos rfl,hni]
   have e2:∀(p:Nat->Bool),(∀a,i<a->p a=false)->((List.range (nx.length-i-1)).map (·+(i+1))).filter p=[]:=by
    intro p hp
    rw[List.filter_eq_nil_iff]
    intro a ha
    simp only[List.mem_map]at ha
    obtain⟨b,_,rfl⟩:=ha
    rw[hp _ (by omega)]
    simp
   rw[e2 _ (λa ha=>by rw[hget a,if_neg (by omega),hgt a ha];rfl),e2 _ (λa ha=>by rw[hgt a ha];rfl)]
   have e3:(List.range i).filter (λa=>((nx.set i (nx.getD i []++[j])).getD a []).contains j)=(List.range i).filter (λa=>(nx.getD a []).contains j):=by
    apply List.filter_congr
    intro a ha
    have:=List.mem_range.1 ha
    rw[hget a,if_neg (by omega)]
   rw[e3]
   simp
  ·rw[List.getElem_set_ne (by omega)]
   simp only[zJ,List.getElem_map,List.getElem_range,List.length_set]
   apply List.filter_congr
   intro a _
   rw[hget a]
   split
   ·rename_i g;subst g
    rw[Bool.eq_iff_iff]
    simp[h]
   ·rfl
theorem zhu{l:List Nat}{x:Nat}:x∈Ze l↔x∈l:=by
 have:∀(l acc:List Nat),x∈l.foldl YW acc↔x∈acc\/x∈l:=by
  intro l
  induction l with
  |nil=>simp
  |cons y r ih=>
   intro acc
   rw[List.foldl_cons,ih]
   unfold YW
   split
   ·rename_i h
    have h:y∈acc:=by simpa using h
    constructor
    ·rintro(h1 |h1)
     ·exact .inl h1
     ·exact .inr (List.mem_cons_of_mem _ h1)
    ·rintro(h1 |h1)
     ·exact .inl h1
     ·cases h1 with
      |head=>exact .inl h
      |tail _ h1=>exact .inr h1
   ·simp[or_assoc]
 unfold Ze
 simpa using this l []
theorem zk0(l:List Nat):(Ze l).Nodup:=by
 have:∀(l acc:List Nat),acc.Nodup->(l.foldl YW acc).Nodup:=by
  intro l
  induction l with
  |nil=>exact λ_ h=>h
  |cons y r ih=>
   intro acc h
   rw[List.foldl_cons]
   refine ih _ ?_
   unfold YW
   split
   ·exact h
   ·rename_i hc
    rw[List.nodup_append]
    refine⟨h,by simp,λa ha b hb=>?_⟩
    simp at hb
    subst hb
    intro e
    subst e
    exact hc (by simpa using ha)
 exact this l [] List.nodup_nil
theorem zoe{n:Nat}{l:List Nat}(h:∀x∈l,x<n):(Ze l).length<=n:=zac (zk0 l) λx hx=>h x (zhu.1 hx)
theorem zgF(nx:List (List Nat))(j:Nat):((zJ nx).getD j []).length<=nx.length:=by
 by_cases hj:j<nx.length
 ·rw[zf5 hj]
  have:=List.length_filter_le (λi=>(nx.getD i []).contains j) (List.range nx.length)
  simpa using this
 ·simp[List.getD,yX,hj]
theorem zmZ(nx:List (List Nat)):∀(f i:Nat) (s:List Nat×List Nat),(yi nx f i s).1.length+s.2.length=s.1.length+(yi nx f i s).2.length:=by
 intro f
 induction f with
 |zero=>intro i s;rfl
 |succ f ih=>
  intro i s
  have all:∀(l:List Nat) (s:List Nat×List Nat),(zD nx f l s).1.length+s.2.length=s.1.length+(zD nx f l s).2.length:=by
   intro l
   induction l with
   |nil=>intro s;rfl
   |cons t r ihl=>
    intro s
    have h1:=ihl (if s.1.contains t then s else yi nx f t s)
    have h2:zD nx f (t::r) s=zD nx f r (if s.1.contains t then s else yi nx f t s):=rfl
    rw[h2]
    split at h1<;>split
    ·exact h1
    ·rename_i a b;exact absurd a b
    ·rename_i a b;exact absurd b a
    ·have:=ih t s;omega
  have:=all (nx.getD i []) (s.1++[i],s.2)
  rw[zdA]
  simp only[List.length_append,List.length_cons,List.length_nil]at this⊢
  omega
end Go.Gr
namespace Go.Proofs
open Go.Gk Go.RowKit
theorem zqq{s:Sl}{l:List Int}{n:Int}{w:World}{R:VWP}(h:IsI w s l)(hR:R (.bool (l.contains n)) w) :
  cR 130 #[.slice s.a s.l s.c,.int .i64 n] w R:=by
 refine zb.of (zfN s n R w ?_) λ_ _ h=>h
 refine zl.count l.length h.bound (λk w'=>w'=w/\∀i (hi:i<l.length),i<k->l[i]≠n) ⟨rfl,λ_ _ h=>by omega⟩ ?_
 rintro k _ hk ⟨rfl,hI⟩ next hnext
 refine zi (λhlt=>?_) (λhge=>?_)
 ·have hlt:k<l.length:=by have:=h.len;dsimp only at hlt;omega
  refine yv h hlt (zj (λhe=>?_) (λhe=>?_))
  ·have:l.contains n=true:=by simp;exact he▸List.getElem_mem hlt
   rw[this]at hR
   exact hR
  ·exact hnext _ hlt ⟨rfl,λi hi hik=>by
    by_cases h:i=k
    ·subst h;exact he
    ·exact hI i hi (by omega)⟩
 ·have:l.contains n=false:=by
   rw[<-Bool.not_eq_true]
   simp only[List.contains_iff_mem]
   intro hm
   obtain⟨i,hi,he⟩:=List.mem_iff_getElem.1 hm
   exact hI i hi (by have:=h.len;dsimp only at hge;omega) he
  rw[this]at hR
  exact hR
theorem zq5{s t:Sl}{l m:List Int}{w:World}{R:VWP}(hs:IsI w s l)(ht:IsI w t m)(hR:∀w',w'.heap=w.heap->Below w.heap.size w w'->R (.bool (decide (l=m))) w') :
  cR 26 #[.slice s.a s.l s.c,.slice t.a t.l t.c] w R:=by
 refine zb.of (zfJ s t R w ?_) λ_ _ h=>h
 have e1:=hs.len
 have e2:=ht.len
 refine zr (λhne=>?_) (λhe=>?_)
 ·have:decide (l=m)=false:=by
   rw[decide_eq_false_iff_not];intro e;subst e;omega
  have:=this▸hR w rfl (Below.refl _ _)
  exact this
 ·have hlm:l.length=m.length:=by omega
  refine zl.count l.length hs.bound (λk w'=>w'.heap=w.heap/\Below w.heap.size w w'/\l.take k=m.take k) ⟨rfl,Below.refl _ _,by simp⟩ ?_
  rintro k w' hk ⟨hh,hb,hI⟩ next hnext
  refine zi (λhlt=>?_) (λhge=>?_)
  ·have hlt:k<l.length:=by dsimp only at hlt;omega
   refine yv (hs.heap (w':=w'.drew) hh) hlt (yv (ht.heap (w':=w'.drew) hh) (by omega) (zr (λhne=>?_) (λhe=>?_)))
   ·have:decide (l=m)=false:=by
     rw[decide_eq_false_iff_not];intro e;subst e;exact hne rfl
    have:=this▸hR w'.drew hh hb.drew
    exact this
   ·exact hnext _ hlt ⟨hh,hb.drew,by rw[List.take_succ_eq_append_getElem hlt,List.take_succ_eq_append_getElem (by omega),hI,he]⟩
  ·have:l=m:=by
    have hk':k=l.length:=by dsimp only at hge;omega
    subst hk'
    rwa[List.take_length,hlm,List.take_length]at hI
   have:=(decide_eq_true this)▸hR w' hh hb
   exact this
theorem zid{α:Type}{f:α->Value}{s:Sl}{l:List α}{w:World}{R:VWP}(hf:∀x,(f x).oneCell'=true)(h:IsS f w s l)(hl:l.length*8<=140737488355328)
  (hR:∀r w',Own w' 3 1 r (l.map f)->zw w.heap.size r->Below w.heap.size w w'->R (.slice r.a r.l r.c) w') :
  cR 73 #[.slice s.a s.l s.c] w R:=by
 refine zb.of (zcN s R w ?_) λ_ _ h=>h
 refine zm (λhn=>?_) (λhn=>?_)
 ·have hn:s.a=none:=by simpa using hn
  have hc:=h.nil hn
  have:l=[]:=List.eq_nil_of_length_eq_zero (by have:=h.len;have:=h.cap;omega)
  subst this
  exact hR ⟨none,0,0⟩ w (Own.nil _ _ _) (λa ha=>by cases ha) (Below.refl _ _)
 ·obtain⟨a,ha⟩:∃a,s.a=some a:=by
   cases hs:s.a with
   |none=>rw[hs]at hn;cases hn
   |some a=>exact⟨a,rfl⟩
  refine Nw.gen λw1 hw1=>?_
  have hB:Blk w1 w.heap.size 3 []:=by rw[hw1];exact Blk.new w 3 #[]
  have hb1:Below w.heap.size w w1:=by rw[hw1];exact(Below.refl _ _).alloc (Nat.le_refl _) _
  have hO:Own w1 3 1 ⟨some (blk w.heap.size),0,0⟩ []:=⟨rfl,.inr ⟨_,[],rfl,hB,Nat.le_refl _,by simp,rfl,rfl⟩⟩
  have h':=h.below hb1
  rw[ha,h.len]
  refine yF eInt hO (m:=l.length) (news:=l.map f) (by simp) (λj u hj=>?_) (λu hu=>?_) (by have:=h.bound;simp;omega) (by simpa using hl) λr w' h1 _ h3=>?_
  ·rw[List.getElem?_map]at hj
   obtain⟨x,hx,rfl⟩:=Option.map_eq_some_iff.1 hj
   obtain⟨hlt,rfl⟩:=List.getElem?_eq_some_iff.1 hx
   exact h'.cell a ha j hlt
  ·obtain⟨x,_,rfl⟩:=List.mem_map.1 hu
   exact hf x
  ·rcases h3 with⟨_,rfl,rfl⟩ | ⟨b,h4,h5,h6⟩
   ·exact hR _ _ h1 (λa ha=>by cases ha;exact Nat.le_refl _) hb1
   ·have hbb:w.heap.size<=b:=by
     rcases h5 with h5 |h5
     ·cases h5;exact Nat.le_refl _
     ·have:=hb1.size;omega
    refine hR _ _ h1 (λa ha=>by rw[h4]at ha;cases ha;exact hbb) (hb1.trans (zM h6 hbb hb1.size))
end Go.Proofs
namespace Go.Proofs
open Go.Gk Go.RowKit
def Bits(w:World)(a:Addr)(S:Nat->Bool):Prop:=
 a.spot=none/\∀j,j<64->∃x:Nat,x<2 ^ 64/\w.cell? (a.add j)=some (.int .u64 x)/\w.frozen? (a.add j)=false/\∀k,k<64->x.testBit k=S (64*j+k)
theorem Bits.of_block{w w':World}{a:Addr}{S:Nat->Bool}(h:Bits w a S)(hb:w'.heap[a.block]? =w.heap[a.block]?):Bits w' a S:=by
 refine⟨h.1,λj hj=>?_⟩
 obtain⟨x,h1,h2,h3,h4⟩:=h.2 j hj
 refine⟨x,h1,?_,?_,h4⟩
 ·rw[World.cell?_of_block (w:=w) (by rw[zn];exact hb)];exact h2
 ·rw[World.frozen?_of_block (w:=w) (by rw[zn];exact hb)];exact h3
theorem Bits.new(w:World)(T:TypeId):Bits (w.alloc (.cells (List.toArray (List.replicate 64 (.int .u64 (0:Int)))) T)) (blk w.heap.size) λ_=>false:=by
 have hB:=Blk.new w T (List.toArray (List.replicate 64 (.int .u64 (0:Int))))
 refine⟨rfl,λj hj=>⟨0,by decide,hB.cell ?_,hB.frozen j,λk _=>by simp⟩⟩
 rw[List.getElem?_replicate,if_pos hj]
 rfl
theorem zs6(x k:Nat)(hx:x<2 ^ 64)(hk:k<64) :
  ((IntKind.u64.wrap (BitVec.toNat (BitVec.ofInt (IntKind.bits .u64) (Int.fdiv (x:Int) (2 ^ (min k (IntKind.bits .u64)))) &&& BitVec.ofInt (IntKind.bits .u64) (1:Int)):Int))==(1:Int))=x.testBit k:=by
 have hb:IntKind.bits .u64=64:=rfl
 have hm:min k (IntKind.bits .u64)=k:=by rw[hb];omega
 rw[hm]
 have e1:Int.fdiv (x:Int) (2 ^ k)=((x / 2 ^ k:Nat):Int):=by
  rw[show((2:Int) ^ k)=((2 ^ k:Nat):Int) by simp,Int.ofNat_fdiv]
 rw[e1]
 have e2:(BitVec.ofInt (IntKind.bits .u64) ((x / 2 ^ k:Nat):Int) &&& BitVec.ofInt (IntKind.bits .u64) (1:Int)).toNat=x / 2 ^ k % 2:=by
  rw[BitVec.toNat_and,BitVec.ofInt_natCast,BitVec.toNat_ofNat,show(BitVec.ofInt (IntKind.bits .u64) (1:Int)).toNat=1 from rfl,Nat.and_one_is_mod,hb]
  have:x / 2 ^ k<2 ^ 64:=Nat.lt_of_le_of_lt (Nat.div_le_self _ _) hx
  rw[Nat.mod_eq_of_lt this]
 rw[e2,IntKind.wrap_u64,Nat.testBit_eq_decide_div_mod_eq]
 rcases Nat.mod_two_eq_zero_or_one (x / 2 ^ k) with h |h<;>simp[h]
theorem zs5(x k:Nat)(hx:x<2 ^ 64)(hk:k<64) :
  (IntKind.u64.wrap (BitVec.toNat (BitVec.ofInt (IntKind.bits .u64) (x:Int) ||| BitVec.ofInt (IntKind.bits .u64) (IntKind.u64.wrap ((1:Int)*2 ^ (min k (IntKind.bits .u64))))):Int))=((x ||| 2 ^ k:Nat):Int)/\x ||| 2 ^ k<2 ^ 64:=by
 have hb:IntKind.bits .u64=64:=rfl
 have hm:min k (IntKind.bits .u64)=k:=by rw[hb];omega
 rw[hm]
 have hp:2 ^ k<2 ^ 64:=Nat.pow_lt_pow_right (by omega) hk
 have e1:IntKind.u64.wrap ((1:Int)*2 ^ k)=((2 ^ k:Nat):Int):=by
  rw[show(1:Int)*2 ^ k=((2 ^ k:Nat):Int) by simp,IntKind.wrap_u64]
  generalize 2 ^ k=p at hp
  omega
 have hlt:x ||| 2 ^ k<2 ^ 64:=Nat.or_lt_two_pow hx hp
 refine⟨?_,hlt⟩
 rw[e1,BitVec.toNat_or,BitVec.ofInt_natCast,BitVec.ofInt_natCast,BitVec.toNat_ofNat,BitVec.toNat_ofNat,hb,Nat.mod_eq_of_lt hx,Nat.mod_eq_of_lt hp,IntKind.wrap_u64]
 omega
theorem zpj(i:Nat)(hi:i<4096):IntKind.i64.wrap (Int.tdiv (i:Int) (64:Int))=((i / 64:Nat):Int):=by
 have:Int.tdiv (i:Int) 64=((i / 64:Nat):Int):=by rw[Int.tdiv_eq_ediv_of_nonneg (by omega)];omega
 rw[this,zt (by omega) (by omega)]
theorem zqy(i:Nat):Int.tmod (i:Int) 64=((i % 64:Nat):Int):=by
 rw[Int.tmod_eq_emod_of_nonneg (by omega)];omega
theorem zlA{a:Addr}{S:Nat->Bool}{i:Nat}(hi:i<4096){w:World}{R:VWP}(h:Bits w a S)(hR:R (.bool (S i)) w) :
  cR 96 #[.pointer (some a),.int .i64 i] w R:=by
 refine zb.of (zgQ _ _ R w ?_) λ_ _ h=>h
 unfold zaY
 obtain⟨x,h1,h2,_,h4⟩:=h.2 (i / 64) (by omega)
 rw[zpj i hi,zqy]
 refine⟨⟨by omega,by omega⟩,x,h2,zi (λhlt=>by omega) (λ_=>?_)⟩
 rw[Int.toNat_natCast,zs6 x (i % 64) h1 (by omega),h4 _ (by omega),Nat.div_add_mod]
 exact hR
theorem znO{a:Addr}{S:Nat->Bool}{i:Nat}(hi:i<4096){w:World}{R:VWP}(h:Bits w a S)
  (hR:∀x:Nat,Bits (w.drew.setCell (a.add (i / 64)) (.int .u64 x)) a (λj=>S j||j==i)->R (.tuple #[]) (w.drew.setCell (a.add (i / 64)) (.int .u64 x))) :
  cR 97 #[.pointer (some a),.int .i64 i] w R:=by
 refine zb.of (zgP _ _ R w ?_) λ_ _ h=>h
 unfold zaX
 obtain⟨x,h1,h2,h3,h4⟩:=h.2 (i / 64) (by omega)
 rw[zpj i hi,zqy]
 refine⟨⟨by omega,by omega⟩,x,h2,zi (λhlt=>by omega) (λ_=>?_)⟩
 refine⟨⟨by omega,by omega⟩,⟨⟨_,h2⟩,h3⟩,Nw.mk ?_⟩
 obtain⟨e1,e2⟩:=zs5 x (i % 64) h1 (by omega)
 rw[Int.toNat_natCast,Int.toNat_natCast,e1]
 refine hR _ ⟨h.1,λj hj=>?_⟩
 have hblk:(a.add j).block=(a.add (i / 64)).block:=by rw[zn,zn]
 have hfz:∀v,(w.drew.setCell (a.add (i / 64)) v).frozen? (a.add j)=w.frozen? (a.add j):=λv=>by simp
 by_cases hj':j=i / 64
 ·subst hj'
  refine⟨x ||| 2 ^ (i % 64),e2,?_,by rw[hfz];exact h3,λk hk=>?_⟩
  ·exact World.cell?_setCell_same _ _ _ (by exact h2)
  ·rw[Nat.testBit_or,h4 k hk,Nat.testBit_two_pow]
   congr 1
   have:=Nat.div_add_mod i 64
   by_cases hki:i % 64=k
   ·simp[hki];omega
   ·simp[hki];omega
 ·obtain⟨y,g1,g2,g3,g4⟩:=h.2 j hj
  refine⟨y,g1,?_,by rw[hfz];exact g3,λk hk=>?_⟩
  ·rw[World.cell?_setCell_other]
   ·exact g2
   ·have hs:=h.1
    obtain⟨ab,ao,asp⟩:=a
    simp only at hs
    subst hs
    unfold Addr.add
    split<;>split<;>simp<;>omega
  ·rw[g4 k hk]
   have:(64*j+k==i)=false:=by simp;omega
   simp[this]
end Go.Proofs
namespace Go.Proofs
open Go.Gk Go.RowKit Go.Gr
abbrev iN(x:Nat):Value:=.int .i64 (x:Int)
abbrev IsN(w:World)(s:Sl)(l:List Nat):Prop:=IsS iN w s l
theorem zp4(x:Nat):(iN x).oneCell'=true:=rfl
theorem zm4{w:World}{s:Sl}{l:List Nat}(h:IsN w s l){k:Nat}(hk:k<l.length){φ:Int->Prop}(hφ:φ (l[k]:Int)) :
  (0<=(k:Int)/\(k:Int)<(s.l:Int))/\zc s.a λa=>ldI w (a.add (Int.toNat (k:Int))) .i64 φ:=
 h.addr hk λa _ hc=>⟨(l[k]:Int),hc,hφ⟩
theorem ziH{s:Sl}{l:List Nat}{w:World}{R:VWP}(h:Own w 3 1 s (l.map iN))
  (hR:∀w',Own w' 3 1 s (l.reverse.map iN)->Only s w w'->R (.tuple #[]) w') :
  cR 138 #[.slice s.a s.l s.c] w R:=by
 refine zb.of (zbZ s R w ?_) λ_ _ h=>h
 have hlen:s.l=l.length:=by have:=h.1;simp at this;omega
 have hbd:=h.isS.bound
 unfold y9
 rw[hlen,zt (by omega) (by omega)]
 let M:Nat->List Nat:=λi=>(List.range l.length).map λk=>if k<i\/l.length<=k+i then l.getD (l.length-1-k) 0 else l.getD k 0
 have hM0:M 0=l:=by
  apply List.ext_getElem
  ·simp[M]
  ·intro k h1 h2
   have h2':¬l.length<=k:=by omega
   simp[M,h2',h2]
 refine zl.ghost (λj st w'=>∃i:Nat,2*i<=l.length+1/\j=l.length+1-i/\st=((i:Int),(l.length:Int)-1-i,())/\Only s w w'/\Own w' 3 1 s ((M i).map iN)) _ ⟨0,by omega,rfl,by simp,Only.refl _ _,by rw[hM0];exact h⟩ ?_
 rintro _ _ w' ⟨i,hi,rfl,rfl,hO,hX⟩ next hnext
 refine zi (λhlt=>?_) (λhge=>?_)
 ·have hlt:2*i+1<l.length:=by dsimp only at hlt;omega
  have hj:(l.length:Int)-1-i=((l.length-1-i:Nat):Int):=by omega
  have hX':Own w'.drew 3 1 s ((M i).map iN):=hX
  have hS:=hX'.isS
  have hml:(M i).length=l.length:=by simp[M]
  dsimp only
  rw[hj]
  have g1:(M i)[l.length-1-i]'(by rw[hml];omega)=l.getD (l.length-1-i) 0:=by
   simp only[M,List.getElem_map,List.getElem_range]
   rw[if_neg (by omega)]
  have g2:(M i)[i]'(by rw[hml];omega)=l.getD i 0:=by
   simp only[M,List.getElem_map,List.getElem_range]
   rw[if_neg (by omega)]
  rw[show(l.length:Int)=(s.l:Int) by omega]
  refine zm4 hS (by rw[hml];omega) (zm4 hS (by rw[hml];omega) ?_)
  rcases hX'.2 with e | ⟨b,cs,ha,hB,h1,h2,h3,h4⟩
  ·rw[e]at hlen;simp at hlen;omega
  ·refine⟨⟨by omega,by omega⟩,zf ha ⟨hB.wr (n:=i) (by omega),Nw.mk ?_⟩⟩
   have hB2:=hB.set i (iN ((M i)[l.length-1-i]'(by rw[hml];omega)))
   refine⟨⟨by omega,by omega⟩,zf ha ⟨hB2.wr (n:=l.length-1-i) (by rw[List.length_set];omega),Nw.mk ?_⟩⟩
   have hB3:=hB2.set (l.length-1-i) (iN ((M i)[i]'(by rw[hml];omega)))
   have e1:IntKind.i64.wrap ((i:Int)+1)=((i+1:Nat):Int):=zE (by omega)
   have e2:IntKind.i64.wrap (((l.length-1-i:Nat):Int)-1)=(l.length:Int)-1-((i+1:Nat):Int):=by rw[zt (by omega) (by omega)];omega
   rw[e1,e2]
   refine hnext (l.length+1-(i+1)) _ _ (by omega) ⟨i+1,by omega,rfl,rfl,(hO.drew.set ha _ _).set ha _ _,?_⟩
   refine⟨by simp[M,hlen],.inr ⟨b,_,ha,hB3,h1,h2,by simpa using h3,?_⟩⟩
   have hcs:∀k,k<l.length->cs[k]? =some (iN (l.getD (if k<i\/l.length<=k+i then l.length-1-k else k) 0)):=by
    intro k hk
    have:(cs.take (s.l*1))[k]? =cs[k]?:=List.getElem?_take_of_lt (by omega)
    rw[<-this,h4]
    simp only[M,List.getElem?_map,List.getElem?_range hk,Option.map_some]
    split<;>rfl
   apply List.ext_getElem?
   intro k
   by_cases hk:k<l.length
   ·rw[List.getElem?_take_of_lt (by omega)]
    simp only[M,List.getElem?_map,List.getElem?_range hk,Option.map_some]
    by_cases k1:k=l.length-1-i
    ·subst k1
     rw[List.getElem?_set_self (by rw[List.length_set];omega),g2,if_pos (by omega)]
     congr 3
     omega
    ·rw[List.getElem?_set_ne (by omega)]
     by_cases k2:k=i
     ·subst k2
      rw[List.getElem?_set_self (by omega),g1,if_pos (by omega)]
     ·rw[List.getElem?_set_ne (by omega),hcs k hk]
      by_cases k3:k<i\/l.length<=k+i
      ·rw[if_pos k3,if_pos (by omega)]
      ·rw[if_neg k3,if_neg (by omega)]
   ·rw[List.getElem?_eq_none (by simp;omega),List.getElem?_eq_none (by simp[M];omega)]
 ·have hge:l.length<=2*i+1:=by dsimp only at hge;omega
  refine hR w' ?_ hO
  have:M i=l.reverse:=by
   apply List.ext_getElem
   ·simp[M]
   ·intro k h1 h2
    have hk:k<l.length:=by simpa using h2
    simp only[M,List.getElem_map,List.getElem_range,List.getElem_reverse]
    by_cases k3:k<i\/l.length<=k+i
    ·rw[if_pos k3];simp[List.getD,show l.length-1-k<l.length by omega]
    ·rw[if_neg k3]
     have:k=l.length-1-k:=by omega
     simp only[List.getD,List.getElem?_eq_getElem hk,Option.getD_some]
     congr 1
  rw[<-this]
  exact hX
end Go.Proofs
namespace Go.Proofs
open Go.Gk Go.RowKit Go.Gr
def zdX(bs:List Value)(S:Nat->Bool):Prop:=
 bs.length=64/\∀j,j<64->∃x:Nat,x<2 ^ 64/\bs[j]? =some (.int .u64 (x:Int))/\∀k,k<64->x.testBit k=S (64*j+k)
theorem zdX.zero:zdX (List.replicate 64 (.int .u64 (0:Int))) λ_=>false:=
 ⟨List.length_replicate,λj hj=>⟨0,by decide,by rw[List.getElem?_replicate,if_pos hj];rfl,λk _=>Nat.zero_testBit k⟩⟩
theorem zdX.bits{w:World}{b:Nat}{T:TypeId}{v0 v1 v2 v3:Value}{bs:List Value}{S:Nat->Bool}(h:Blk w b T (v0::v1::v2::v3::bs))(hb:zdX bs S):Bits w ((blk b).add 4) S:=by
 refine⟨by rw[zhh],λj hj=>?_⟩
 obtain⟨x,h1,h2,h3⟩:=hb.2 j hj
 rw[zng _ _ _ rfl]
 refine⟨x,h1,h.cell ?_,h.frozen _,h3⟩
 rw[show 4+j=j+1+1+1+1 by omega]
 simpa using h2
theorem Bits.list{w:World}{b:Nat}{T:TypeId}{v0 v1 v2 v3:Value}{bs:List Value}{S:Nat->Bool}(h:Blk w b T (v0::v1::v2::v3::bs))(hl:bs.length=64)(hb:Bits w ((blk b).add 4) S):zdX bs S:=by
 refine⟨hl,λj hj=>?_⟩
 obtain⟨x,h1,h2,_,h3⟩:=hb.2 j hj
 rw[zng _ _ _ rfl]at h2
 have hj':bs[j]? =some bs[j]:=List.getElem?_eq_getElem (by omega)
 have:=h.cell (n:=4+j) (v:=bs[j]) (by rw[show 4+j=j+1+1+1+1 by omega];exact hj')
 rw[h2]at this
 exact⟨x,h1,by rw[hj',<-Option.some.inj this],h3⟩
theorem zdX.congr{bs:List Value}{S S':Nat->Bool}(h:zdX bs S)(hs:∀i,S i=S' i):zdX bs S':=
 ⟨h.1,λj hj=>let⟨x,h1,h2,h3⟩:=h.2 j hj;⟨x,h1,h2,λk hk=>by rw[h3 k hk,hs]⟩⟩
structure IsSS {α:Type} (f:α->Value) (w:World) (s:Sl) (hs:List Sl) (ll:List (List α)):Prop where
 top:IsS Sl.val w s hs
 len:hs.length=ll.length
 row:∀(i:Nat) (h:i<hs.length) (h':i<ll.length),IsS f w hs[i] ll[i]
abbrev IsNN(w:World)(s:Sl)(hs:List Sl)(ll:List (List Nat)):Prop:=IsSS iN w s hs ll
theorem IsSS.below{α:Type}{f:α->Value}{w w':World}{s:Sl}{hs:List Sl}{ll:List (List α)}(h:IsSS f w s hs ll)(hb:Below w.heap.size w w'):IsSS f w' s hs ll:=
 ⟨h.top.below hb,h.len,λi h1 h2=>(h.row i h1 h2).below hb⟩
def zna(b:Nat)(s:Sl)(hs:List Sl):Prop:=(∀a,s.a=some a->a.block≠b)/\∀(i:Nat) (h:i<hs.length) a,hs[i].a=some a->a.block≠b
theorem _root_.Go.Gk.IsS.fr{α:Type}{f:α->Value}{w w':World}{s:Sl}{l:List α}(h:IsS f w s l){B b:Nat}(hb:Fr B (·=b) w w')(hB:w.heap.size<=B)(hn:∀a,s.a=some a->a.block≠b):IsS f w' s l:=
 h.of_block λa ha hlt=>hb.block _ (by omega) (hn a ha)
theorem IsSS.fr{α:Type}{f:α->Value}{w w':World}{s:Sl}{hs:List Sl}{ll:List (List α)}(h:IsSS f w s hs ll){B b:Nat}(hb:Fr B (·=b) w w')(hB:w.heap.size<=B)(hn:zna b s hs):IsSS f w' s hs ll:=
 ⟨h.top.fr hb hB hn.1,h.len,λi h1 h2=>(h.row i h1 h2).fr hb hB (hn.2 i h1)⟩
abbrev ZU(sn sa wk od:Sl)(bs:List Value):List Value:=sn.val::sa.val::wk.val::od.val::bs
structure CS (w1:World) (B gb:Nat) (sn sa:Sl) (w:World) (s:List Nat×List Nat):Prop where
 fr:Fr B (·=gb) w1 w
 st:∃wk od bs,Blk w gb 139 (ZU sn sa wk od bs)/\zdX bs (λi=>s.1.contains i)/\Own w 3 1 wk (s.1.map iN)/\Own w 3 1 od (s.2.map iN)/\
  zw B wk/\zw B od/\∀a b,wk.a=some a->od.a=some b->a.block≠b.block
structure CW (w1:World) (B b0 b1 gb:Nat) (sn:Sl) (hs:List Sl) (nx:List (List Nat)):Prop where
 size:w1.heap.size=B
 gblt:gb<B
 box0:Blk w1 b0 75 [.pointer (some (blk gb))]
 box1:Blk w1 b1 140 [.func (.func 137) #[] #[.pointer (some (blk b0)),.pointer (some (blk b1))]]
 ne0:b0≠gb
 ne1:b1≠gb
 next:IsNN w1 sn hs nx
 avoid:zna gb sn hs
 max:nx.length<=4096
 rows:∀i,∀t∈nx.getD i [],t<nx.length
theorem yh{w:World}{s:Sl}{l:List Nat}(h:Own w 3 1 s (l.map iN)):s.l=l.length:=by have:=h.1;simp at this;omega
theorem zad{w:World}{s:Sl}{xs:List Value}(h:Own w 3 1 s xs){b:Nat}{T:TypeId}{cs:List Value}(hB:Blk w b T cs)(hT:T≠3){a:Addr}(ha:s.a=some a):a.block≠b:=by
 intro e
 obtain⟨cs',hB'⟩:=h.type ha
 rw[e]at hB'
 exact hT (hB.type hB')
set_option maxHeartbeats 1000000 in
theorem zqD{w1:World}{B b0 b1 gb:Nat}{sn sa:Sl}{hs:List Sl}{nx:List (List Nat)}(cw:CW w1 B b0 b1 gb sn hs nx) :
  ∀(f i:Nat) (s:List Nat×List Nat) (w:World) (R:VWP),i<nx.length->i ∉ s.1->s.1.Nodup->(∀x∈s.1,x<nx.length)->nx.length<=s.1.length+f->s.2.length<=s.1.length->
   CS w1 B gb sn sa w s->(∀w',CS w1 B gb sn sa w' (yi nx f i s)->(yi nx f i s).2.length<=(yi nx f i s).1.length->R (.tuple #[]) w')->
   cR 137 #[.int .i64 (i:Int),.pointer (some (blk b0)),.pointer (some (blk b1))] w R:=by
 intro f
 induction f with
 |zero=>
  intro i s w R hi hni hnd hlt hf
  have:=zfu hnd hlt hi hni
  omega
 |succ f ih=>
  intro i s w R hi hni hnd hlt hf h2l hcs hR
  have hmax:=cw.max
  have hslt:=zfu hnd hlt hi hni
  refine zb.of (zdz (i:Int) (blk b0) (blk b1) R w ?_) λ_ _ h=>h
  have box0:∀{w':World},Fr B (·=gb) w1 w'->Blk w' b0 75 [.pointer (some (blk gb))]:=λhf=>cw.box0.of_block (hf.block _ (by have:=cw.box0.lt;have:=cw.size;omega) cw.ne0)
  have box1:∀{w':World},Fr B (·=gb) w1 w'->Blk w' b1 140 [.func (.func 137) #[] #[.pointer (some (blk b0)),.pointer (some (blk b1))]]:=λhf=>cw.box1.of_block (hf.block _ (by have:=cw.box1.lt;have:=cw.size;omega) cw.ne1)
  have next:∀{w':World},Fr B (·=gb) w1 w'->IsNN w' sn hs nx:=λhf=>cw.next.fr hf (by rw[cw.size];exact Nat.le_refl _) cw.avoid
  obtain⟨hfr,wk,od,bs,hG,hbits,hwk,hod,hfw,hfo,hap⟩:=hcs
  have hBsz:∀{w':World},Fr B (·=gb) w1 w'->B<=w'.heap.size:=λhf=>by have:=hf.size;have:=cw.size;omega
  refine⟨some (blk gb),(box0 hfr).cell0 rfl,?_⟩
  refine znO (S:=λi=>s.1.contains i) (i:=i) (by omega) (hbits.bits hG) λx hx=>⟨rfl,?_⟩
  generalize hw2:w.drew.setCell (((blk gb).add 4).add (i / 64)) (.int .u64 (x:Int))=w2 at hx⊢
  have hG2:Blk w2 gb 139 (ZU sn sa wk od (bs.set (i / 64) (.int .u64 (x:Int)))):=by
   rw[<-hw2,zng _ _ _ rfl]
   have:=(hG.drew).set (4+i / 64) (.int .u64 (x:Int))
   rw[show 4+i / 64=i / 64+1+1+1+1 by omega]at this⊢
   exact this
  have hfr2:Fr B (·=gb) w1 w2:=by rw[<-hw2];exact hfr.drew.set (.inr (by rw[zn,zn])) _
  have hb2:=Bits.list hG2 (by rw[List.length_set];exact hbits.1) hx
  have stay:∀{sl:Sl} {xs:List Value},Own w 3 1 sl xs->Own w2 3 1 sl xs:=λh=>h.of_block λa ha=>by
   rw[<-hw2];exact Below.heap_setCell _ _ _ _ (by rw[zn,zn];exact zad h hG (by decide) ha)
  have hwk2:=stay hwk
  have hod2:=stay hod
  clear hw2 stay hG hbits hwk hod hx
  generalize bs.set (i / 64) (.int .u64 (x:Int))=bs2 at hG2 hb2
  refine⟨some (blk gb),(box0 hfr2).cell0 rfl,⟨some (blk gb),(box0 hfr2).cell0 rfl,wk,hG2.cell rfl,Nw.gen λw3 hw3=>?_⟩⟩
  have hG3:Blk w3 gb 139 (ZU sn sa wk od bs2):=by rw[hw3];exact hG2.drew.alloc _
  have hfr3:Fr B (·=gb) w1 w3:=by rw[hw3];exact hfr2.drew.alloc (hBsz hfr2.drew) _
  have ht3:Blk w3 w2.drew.heap.size 3 [iN i]:=by rw[hw3];exact Blk.new w2.drew 3 #[iN i]
  have hwk3:Own w3 3 1 wk (s.1.map iN):=by rw[hw3];exact hwk2.drew.alloc _
  have hod3:Own w3 3 1 od (s.2.map iN):=by rw[hw3];exact hod2.drew.alloc _
  have hsz3:w3.heap.size=w2.heap.size+1:=by rw[hw3];simp
  refine⟨hG3.cell rfl,(box0 hfr3).cell0 rfl,(box0 hfr3).cell0 rfl,?_⟩
  have hwl:=yh hwk3
  refine yY eInt hwk3 rfl ht3 (by omega) (by omega) λr w4 hr hrl ⟨b,hrb,hbo,hg⟩=>?_
  have hbB:B<=b:=by
   rcases hbo with hb |rfl
   ·exact hfw _ hb
   ·exact hBsz hfr3
  have hfr4:Fr B (·=gb) w1 w4:=hfr3.grown hg hbB (hBsz hfr3)
  have hbgb:gb≠b:=by have:=cw.gblt;omega
  have hG4:Blk w4 gb 139 (ZU sn sa wk od bs2):=hG3.of_block (hg.block gb hG3.lt (λe=>hbgb (Option.some.inj e)))
  have hodne:∀a,od.a=some a->a.block≠b:=λa ha e=>by
   rcases hbo with hb |hb
   ·exact hap _ _ hb ha e.symm
   ·have:=(hod3.lt ha).2;omega
  have hod4:Own w4 3 1 od (s.2.map iN):=hod3.of_block λa ha=>hg.block _ (hod3.lt ha).2 (λe=>hodne a ha (Option.some.inj e))
  refine⟨(box0 hfr4).cell0 rfl,hG4.wr (by simp),Nw.gen λw5 hw5=>?_⟩
  have hG5:Blk w5 gb 139 (ZU sn sa r od bs2):=by rw[hw5];exact hG4.set 2 _
  have hfr5:Fr B (·=gb) w1 w5:=by rw[hw5];exact hfr4.set (.inr (by rw[zn])) _
  have stay5:∀{sl:Sl} {xs:List Value},Own w4 3 1 sl xs->Own w5 3 1 sl xs:=λh=>h.of_block λa ha=>by
   rw[hw5];exact Below.heap_setCell _ _ _ _ (by rw[zn];exact zad h hG4 (by decide) ha)
  have hcs5:CS w1 B gb sn sa w5 (s.1++[i],s.2):=by
   refine⟨hfr5,r,od,bs2,hG5,hb2.congr λj=>?_,?_,stay5 hod4,λa ha=>?_,hfo,λa c ha hc=>?_⟩
   ·rw[Bool.eq_iff_iff];simp
   ·simpa using stay5 hr
   ·rw[hrb]at ha;cases ha;exact hbB
   ·rw[hrb]at ha;cases ha;exact(hodne c hc).symm
  clear hw3 hG3 hfr3 ht3 hwk3 hod3 hsz3 hG4 hod4 hw5 stay5 hr hg hG2 hb2 hwk2 hod2 hfr2 hfr4 hfr
  refine⟨some (blk gb),(box0 hfr5).cell0 rfl,sn,hG5.cell0 rfl,?_⟩
  have hnx5:=next hfr5
  have hlen:hs.length=nx.length:=hnx5.len
  refine zhU hnx5.top (k:=i) (by omega) ?_
  clear hG5 hnx5
  have hrow:∀{w':World},Fr B (·=gb) w1 w'->IsN w' (hs[i]'(by omega)) (nx.getD i []):=λhf=>by
   have:=(next hf).row i (by omega) hi
   simpa[List.getD,hi] using this
  generalize hrl':nx.getD i []=row at hrow
  have hrt:∀t∈row,t<nx.length:=λt ht=>cw.rows i t (by rw[hrl'];exact ht)
  have hrn:(hs[i]'(by omega)).l=row.length:=(hrow hfr5).len
  have base:Came nx.length s (s.1++[i],s.2):=⟨by
    rw[List.nodup_append]
    exact⟨hnd,by simp,λx hx y hy=>by simp at hy;subst hy;intro e;subst e;exact hni hx⟩,λx hx=>by
    simp at hx
    rcases hx with hx |rfl
    ·exact hlt x hx
    ·exact hi,[i],rfl⟩
  have rowsOk:∀i,∀t∈nx.getD i [],t<nx.length:=cw.rows
  refine zl.count row.length (hrow hfr5).bound (λk w'=>CS w1 B gb sn sa w' (zD nx f (row.take k) (s.1++[i],s.2))/\Came nx.length (s.1++[i],s.2) (zD nx f (row.take k) (s.1++[i],s.2))/\
   (zD nx f (row.take k) (s.1++[i],s.2)).2.length<(zD nx f (row.take k) (s.1++[i],s.2)).1.length) ⟨by simpa[zD] using hcs5,?_,by simp[zD];omega⟩ ?_
  ·simp only[List.take_zero]
   exact⟨base.nodup,base.lt,[],by simp[zD]⟩
  rintro k w6 hk ⟨hcs6,hcame,hlen6⟩ nxt hnext
  generalize hst:zD nx f (row.take k) (s.1++[i],s.2)=st at hcs6 hcame hlen6
  refine zi (λhlt6=>?_) (λhge=>?_)
  ·have hlt6:k<row.length:=by dsimp only at hlt6;omega
   have hsnoc:zD nx f (row.take (k+1)) (s.1++[i],s.2)=if st.1.contains row[k] then st else yi nx f row[k] st:=by
    rw[List.take_succ_eq_append_getElem hlt6,zmo,hst]
   refine zk.cut (λ_ w'=>CS w1 B gb sn sa w' (zD nx f (row.take (k+1)) (s.1++[i],s.2))/\Came nx.length (s.1++[i],s.2) (zD nx f (row.take (k+1)) (s.1++[i],s.2))/\
    (zD nx f (row.take (k+1)) (s.1++[i],s.2)).2.length<(zD nx f (row.take (k+1)) (s.1++[i],s.2)).1.length) ?_ λ_ w' h=>hnext w' hlt6 h
   have hfr6:=hcs6.fr
   obtain⟨wk6,od6,bs6,hG6,hb6,_⟩:=hcs6.st
   refine zm4 (hrow hfr6) hlt6 ⟨some (blk gb),(box0 hfr6).cell0 rfl,?_⟩
   have hrk:=hrt row[k] (List.getElem_mem hlt6)
   refine zlA (S:=λi=>st.1.contains i) (i:=row[k]) (by omega) (hb6.bits hG6) ⟨_,rfl,?_⟩
   rw[hsnoc]
   cases hc:st.1.contains row[k] with
   |true=>exact⟨hcs6,hcame,hlen6⟩
   |false=>
    have hnm:row[k] ∉ st.1:=by simpa using hc
    refine⟨_,(box1 hfr6).cell0 rfl,?_⟩
    have hmore:st.1.length≥(s.1++[i]).length:=by obtain⟨l,e⟩:=hcame.more;rw[e];simp
    have hvc:=zfX rowsOk f row[k] st hrk hcame.nodup hcame.lt hnm
    have:=ih row[k] st w6 (λv w'=>v =.tuple #[]/\CS w1 B gb sn sa w' (yi nx f row[k] st)/\Came nx.length (s.1++[i],s.2) (yi nx f row[k] st)/\(yi nx f row[k] st).2.length<(yi nx f row[k] st).1.length)
     hrk hnm hcame.nodup hcame.lt (by simp at hmore;omega) (by omega) hcs6 (λw' h _=>⟨rfl,h,?_,?_⟩)
    ·exact this
    ·obtain⟨l1,e1⟩:=hcame.more
     obtain⟨l2,e2⟩:=hvc.more
     exact⟨hvc.nodup,hvc.lt,l1++l2,by rw[e2,e1,List.append_assoc]⟩
    ·have:=zmZ nx f row[k] st
     omega
  ·
   have hkk:k=row.length:=by dsimp only at hge;omega
   subst hkk
   rw[List.take_length]at hst
   have hvis:yi nx (f+1) i s=(st.1,st.2++[i]):=by rw[zdA,hrl',hst]
   rw[hvis]at hR
   clear hst
   obtain⟨hfr6,wk6,od6,bs6,hG6,hb6,hwk6,hod6,hfw6,hfo6,hap6⟩:=hcs6
   refine⟨some (blk gb),(box0 hfr6.drew).cell0 rfl,some (blk gb),(box0 hfr6.drew).cell0 rfl,od6,hG6.drew.cell rfl,Nw.gen λw7 hw7=>?_⟩
   have hG7:Blk w7 gb 139 (ZU sn sa wk6 od6 bs6):=by rw[hw7];exact hG6.drew.alloc _
   have hfr7:Fr B (·=gb) w1 w7:=by rw[hw7];exact hfr6.drew.alloc (hBsz hfr6.drew) _
   have ht7:Blk w7 w6.drew.heap.size 3 [iN i]:=by rw[hw7];exact Blk.new w6.drew 3 #[iN i]
   have hwk7:Own w7 3 1 wk6 (st.1.map iN):=by rw[hw7];exact hwk6.drew.alloc _
   have hod7:Own w7 3 1 od6 (st.2.map iN):=by rw[hw7];exact hod6.drew.alloc _
   refine⟨hG7.cell rfl,(box0 hfr7).cell0 rfl,(box0 hfr7).cell0 rfl,?_⟩
   have hwl:=yh hod7
   have hsl:=zac hcame.nodup hcame.lt
   refine yY eInt hod7 rfl ht7 (by omega) (by omega) λr w8 hr hrl ⟨b,hrb,hbo,hg⟩=>?_
   have hbB:B<=b:=by
    rcases hbo with hb |rfl
    ·exact hfo6 _ hb
    ·exact hBsz hfr7
   have hfr8:Fr B (·=gb) w1 w8:=hfr7.grown hg hbB (hBsz hfr7)
   have hbgb:gb≠b:=by have:=cw.gblt;omega
   have hG8:Blk w8 gb 139 (ZU sn sa wk6 od6 bs6):=hG7.of_block (hg.block gb hG7.lt (λe=>hbgb (Option.some.inj e)))
   have hwkne:∀a,wk6.a=some a->a.block≠b:=λa ha e=>by
    rcases hbo with hb |hb
    ·exact hap6 _ _ ha hb e
    ·have:=(hwk7.lt ha).2;omega
   have hwk8:Own w8 3 1 wk6 (st.1.map iN):=hwk7.of_block λa ha=>hg.block _ (hwk7.lt ha).2 (λe=>hwkne a ha (Option.some.inj e))
   refine⟨(box0 hfr8).cell0 rfl,hG8.wr (by simp),Nw.gen λw9 hw9=>?_⟩
   have hG9:Blk w9 gb 139 (ZU sn sa wk6 r bs6):=by rw[hw9];exact hG8.set 3 _
   have hfr9:Fr B (·=gb) w1 w9:=by rw[hw9];exact hfr8.set (.inr (by rw[zn])) _
   have stay9:∀{sl:Sl} {xs:List Value},Own w8 3 1 sl xs->Own w9 3 1 sl xs:=λh=>h.of_block λa ha=>by
    rw[hw9];exact Below.heap_setCell _ _ _ _ (by rw[zn];exact zad h hG8 (by decide) ha)
   refine hR w9 ⟨hfr9,wk6,r,bs6,hG9,hb6,stay9 hwk8,by simpa using stay9 hr,hfw6,λa ha=>?_,λa c ha hc=>?_⟩ (by simp;omega)
   ·rw[hrb]at ha;cases ha;exact hbB
   ·rw[hrb]at hc;cases hc;exact hwkne a ha
end Go.Proofs
namespace Go.Proofs
open Go.Gk Go.RowKit Go.Gr
theorem zsE{B:Nat}{X:Nat->Prop}{w w' w'':World}{s:Sl}(h:Fr B X w w')(ho:Only s w' w'')(hs:zw B s):Fr B X w w'':=h.trans (Fr.of_below (ho.below hs))
theorem zpf{gb:Nat}{sn sa:Sl}{hs:List Sl}{nx:List (List Nat)}{w:World}{R:VWP}
  (hG:Blk w gb 139 (ZU sn sa ⟨none,0,0⟩ ⟨none,0,0⟩ (List.replicate 64 (.int .u64 (0:Int))))) (hnx:IsNN w sn hs nx) (hav:zna gb sn hs)
  (h0:0<nx.length) (hmax:nx.length<=4096) (hrows:∀i,∀t∈nx.getD i [],t<nx.length)
  (hR:∀w' wk od bs,Fr w.heap.size (·=gb) w w'->Blk w' gb 139 (ZU sn sa wk od bs)->zdX bs (λi=>(yB nx).contains i)->Own w' 3 1 wk ((yB nx).map iN)->
   Own w' 3 1 od ((zp nx).map iN)->zw w.heap.size wk->zw w.heap.size od->R (.tuple #[]) w') :
  cR 98 #[.pointer (some (blk gb))] w R:=by
 refine zb.of (zew _ R w ?_) λ_ _ h=>h
 have hgl:=hG.lt
 refine Nw.gen λw1 hw1=>Nw.gen λw2 hw2=>?_
 have hz1:w1.heap.size=w.heap.size+1:=by rw[hw1];simp
 have hB0:Blk w2 w.heap.size 75 [.pointer (some (blk gb))]:=by rw[hw2,hw1];exact(Blk.new w _ #[_]).alloc _
 have hB1:Blk w2 w1.heap.size 140 [.nilFunc]:=by rw[hw2];exact Blk.new w1 _ #[_]
 have hb2:Below w.heap.size w w2:=by rw[hw2,hw1];exact((Below.refl _ _).alloc (Nat.le_refl _) _).alloc (by simp) _
 have hz2:w2.heap.size=w.heap.size+2:=by rw[hw2,hw1];simp
 refine⟨hB1.wr0 (by simp),Nw.gen λw3 hw3=>?_⟩
 have hz3:w3.heap.size=w.heap.size+2:=by rw[hw3];simpa[World.setCell] using hz2
 have hb3:Below w.heap.size w w3:=by rw[hw3];exact hb2.setCell (by simp;omega) _
 have hB0':Blk w3 w.heap.size 75 [.pointer (some (blk gb))]:=by rw[hw3];exact hB0.other (by simp;omega) _
 have hB1':Blk w3 w1.heap.size 140 [.func (.func 137) #[] #[.pointer (some (blk w.heap.size)),.pointer (some (blk w1.heap.size))]]:=by rw[hw3];exact hB1.set0 _
 have hG3:=hG.below hb3
 have cw:CW w3 w3.heap.size w.heap.size w1.heap.size gb sn hs nx:=
  ⟨rfl,by omega,hB0',hB1',by omega,by omega,hnx.below hb3,hav,hmax,hrows⟩
 refine⟨_,hB1'.cell0 rfl,?_⟩
 have cs:CS w3 w3.heap.size gb sn sa w3 ([],[]):=
  ⟨Fr.refl _ _ _,⟨none,0,0⟩,⟨none,0,0⟩,_,hG3,zdX.zero.congr (λi=>by simp),Own.nil _ _ _,Own.nil _ _ _,λa h=>(by cases h),λa h=>(by cases h),λa b h=>by cases h⟩
 refine zqD cw nx.length 0 ([],[]) w3 _ h0 (by simp) (by simp) (by simp) (by simp) (by simp) cs λw4 hcs _=>⟨rfl,?_⟩
 obtain⟨hfr,wk,od,bs,hG4,hbits,hwk,hod,hfw,hfo,hap⟩:=hcs
 have hB04:Blk w4 w.heap.size 75 [.pointer (some (blk gb))]:=hB0'.of_block (hfr.block _ (by omega) (by show ¬w.heap.size=gb;omega))
 refine⟨some (blk gb),hB04.cell0 rfl,od,hG4.cell rfl,?_⟩
 refine ziH hod λw5 hod5 honly=>⟨rfl,?_⟩
 have hne:∀a,od.a=some a->a.block≠gb:=λa ha=>zad hod hG4 (by decide) ha
 have hG5:=hG4.of_block (honly.block gb hne)
 have hwk5:Own w5 3 1 wk ((yi nx nx.length 0 ([],[])).1.map iN):=hwk.of_block λa ha=>honly.block _ λb hb=>(hap a b ha hb).symm
 have hfr5:Fr w3.heap.size (·=gb) w3 w5:=zsE hfr honly hfo
 refine hR w5 wk od bs (Fr.trans (Fr.of_below hb3) (hfr5.mono (by omega) (λ_ _ h=>h))) hG5 hbits hwk5 (by simpa[zp] using hod5) (λa ha=>?_) (λa ha=>?_)
 ·have:=hfw a ha;omega
 ·have:=hfo a ha;omega
end Go.Proofs
namespace Go.Proofs
open Go.Gk Go.RowKit Go.Gr
structure Fam (B:Nat) (w:World) (bh:Nat) (hs:List Sl) (ll:List (List Nat)) (ow:Nat->Nat) (off:Nat):Prop where
 head:Blk w bh 26 (hs.map Sl.val)
 len:hs.length=ll.length
 row:∀(i:Nat) (h:i<hs.length),Own w 3 1 hs[i] ((ll.getD i []).map iN)
 own:∀(i:Nat) (h:i<hs.length) a,hs[i].a=some a->ow a.block=off+i/\B<=a.block
def upd(ow:Nat->Nat)(b v:Nat):Nat->Nat:=λk=>if k=b then v else ow k
theorem Fam.ne{B:Nat}{w:World}{bh:Nat}{hs:List Sl}{ll:List (List Nat)}{ow:Nat->Nat}{off:Nat}(h:Fam B w bh hs ll ow off){i:Nat}(hi:i<hs.length){a:Addr}(ha:hs[i].a=some a):a.block≠bh:=
 zad (h.row i hi) h.head (by decide) ha
theorem Fam.other{B:Nat}{w w':World}{bh:Nat}{hs:List Sl}{ll:List (List Nat)}{ow:Nat->Nat}{off b v:Nat}(h:Fam B w bh hs ll ow off)(hg:w.grownBy w' (some b))(hb:b≠bh)
  (hn:(∃v',ow b=v'/\∀i,i<hs.length->v'≠off+i)\/b=w.heap.size):Fam B w' bh hs ll (upd ow b v) off:=by
 have hrow:∀(i:Nat) (hi:i<hs.length) a,hs[i].a=some a->a.block≠b:=λi hi a ha e=>by
  rcases hn with⟨v',h1,h2⟩ |h1
  ·exact h2 i hi (by rw[<-h1,<-e];exact(h.own i hi a ha).1)
  ·have:=((h.row i hi).lt ha).2;omega
 refine⟨h.head.of_block (hg.block bh h.head.lt (λe=>hb (Option.some.inj e).symm)),h.len,λi hi=>(h.row i hi).of_block λa ha=>hg.block _ ((h.row i hi).lt ha).2 (λe=>hrow i hi a ha (Option.some.inj e)),λi hi a ha=>?_⟩
 refine⟨?_,(h.own i hi a ha).2⟩
 unfold upd
 rw[if_neg (hrow i hi a ha)]
 exact(h.own i hi a ha).1
theorem Fam.set_other{B:Nat}{w:World}{bh:Nat}{hs:List Sl}{ll:List (List Nat)}{ow:Nat->Nat}{off:Nat}(h:Fam B w bh hs ll ow off){b:Nat}{T:TypeId}{cs:List Value}(hB:Blk w b T cs)(hb:b≠bh)(hT:T≠3)(n:Nat)(v:Value) :
  Fam B (w.setCell ((blk b).add n) v) bh hs ll ow off:=by
 refine⟨h.head.other (by rw[zn];exact Ne.symm hb) v,h.len,λi hi=>(h.row i hi).of_block λa ha=>Below.heap_setCell _ _ _ _ (by rw[zn];exact zad (h.row i hi) hB hT ha),h.own⟩
theorem Fam.grown{B:Nat}{w w':World}{bh:Nat}{hs:List Sl}{ll:List (List Nat)}{ow:Nat->Nat}{off:Nat}(h:Fam B w bh hs ll ow off)(hb:Below w.heap.size w w'):Fam B w' bh hs ll ow off:=
 ⟨h.head.below hb,h.len,λi hi=>(h.row i hi).below hb,h.own⟩
theorem Fam.push{B:Nat}{w w':World}{bh:Nat}{hs:List Sl}{ll:List (List Nat)}{ow:Nat->Nat}{off:Nat}(h:Fam B w bh hs ll ow off){i:Nat}(hi:i<hs.length){r:Sl}{x b:Nat}
  (hr:Own w' 3 1 r ((ll.getD i []).map iN++[iN x])) (hrb:r.a=some (blk b)) (hbo:hs[i].a=some (blk b)\/b=w.heap.size) (hB:B<=b) (hg:w.grownBy w' (some b)) :
  Blk w' bh 26 (hs.map Sl.val)/\Fam B (w'.setCell ((blk bh).add i) r.val) bh (hs.set i r) (ll.set i (ll.getD i []++[x])) (upd ow b (off+i)) off:=by
 have hbne:b≠bh:=by
  rcases hbo with hb |hb
  ·exact h.ne hi hb
  ·have:=h.head.lt;omega
 have hH:Blk w' bh 26 (hs.map Sl.val):=h.head.of_block (hg.block bh h.head.lt (λe=>hbne (Option.some.inj e).symm))
 have hrow:∀(j:Nat) (hj:j<hs.length) a,j≠i->hs[j].a=some a->a.block≠b:=λj hj a hne ha e=>by
  rcases hbo with hb |hb
  ·have h1:=(h.own j hj a ha).1
   have h2:=(h.own i hi _ hb).1
   rw[e]at h1
   simp only at h2
   omega
  ·have:=((h.row j hj).lt ha).2;omega
 have stay:∀{s:Sl} {xs:List Value},Own w' 3 1 s xs->Own (w'.setCell ((blk bh).add i) r.val) 3 1 s xs:=λho=>ho.of_block λa ha=>Below.heap_setCell _ _ _ _ (by rw[zn];exact zad ho hH (by decide) ha)
 refine⟨hH,?_,by simp[h.len],λj hj=>?_,λj hj a ha=>?_⟩
 ·have:=hH.set i r.val
  rwa[<-List.map_set]at this
 ·have hj':j<hs.length:=by simpa using hj
  by_cases e:j=i
  ·subst e
   have:(ll.set j (ll.getD j []++[x])).getD j []=ll.getD j []++[x]:=by simp[List.getD,show j<ll.length by have:=h.len;omega]
   rw[List.getElem_set_self,this,List.map_append]
   exact stay hr
  ·have:(ll.set i (ll.getD i []++[x])).getD j []=ll.getD j []:=by simp only[List.getD];rw[List.getElem?_set_ne (by omega)]
   rw[List.getElem_set_ne (by omega),this]
   exact stay ((h.row j hj').of_block λa ha=>hg.block _ ((h.row j hj').lt ha).2 (λe'=>hrow j hj' a e ha (Option.some.inj e')))
 ·have hj':j<hs.length:=by simpa using hj
  by_cases e:j=i
  ·subst e
   rw[List.getElem_set_self,hrb]at ha
   cases ha
   exact⟨by simp[upd],hB⟩
  ·rw[List.getElem_set_ne (by omega)]at ha
   refine⟨?_,(h.own j hj' a ha).2⟩
   unfold upd
   rw[if_neg (hrow j hj' a e ha)]
   exact(h.own j hj' a ha).1
theorem Fam.isSS{B:Nat}{w:World}{bh n:Nat}{hs:List Sl}{ll:List (List Nat)}{ow:Nat->Nat}{off:Nat}(h:Fam B w bh hs ll ow off)(hn:hs.length=n)(hm:n<=9223372036854775807):IsNN w ⟨some (blk bh),n,n⟩ hs ll:=
 ⟨h.head.isS rfl hn.symm (Nat.le_refl _) hm,h.len,λi hi hi'=>by
  have:=(h.row i hi).isS
  simpa[List.getD,hi'] using this⟩
theorem Fam.avoids{B:Nat}{w:World}{bh n:Nat}{hs:List Sl}{ll:List (List Nat)}{ow:Nat->Nat}{off:Nat}(h:Fam B w bh hs ll ow off){b:Nat}{T:TypeId}{cs:List Value}(hB:Blk w b T cs)(hT:T≠3)(hT':T≠26):zna b ⟨some (blk bh),n,n⟩ hs:=
 ⟨λa ha e=>by
  cases ha
  have e:bh=b:=e
  subst e
  exact hT' (hB.type h.head),λi hi a ha=>zad (h.row i hi) hB hT ha⟩
theorem Fam.new(B:Nat)(w:World)(n:Nat)(ow:Nat->Nat)(off bh:Nat)(hB:Blk w bh 26 (List.replicate n (.slice none 0 0))):Fam B w bh (List.replicate n ⟨none,0,0⟩) (List.replicate n []) ow off:=by
 refine⟨?_,by simp,λi hi=>?_,λi hi a ha=>?_⟩
 ·rw[List.map_replicate];exact hB
 ·have hi':i<n:=by simpa using hi
  simp only[List.getElem_replicate,List.getD,List.getElem?_replicate,if_pos hi',Option.getD_some,List.map_nil]
  exact Own.nil _ _ _
 ·simp at ha
def IsG(w:World)(gb:Nat)(nx:List (List Nat)):Prop:=
 ∃sn sa wk od bs hn ha,Blk w gb 139 (ZU sn sa wk od bs)/\IsNN w sn hn nx/\IsNN w sa ha (zJ nx)/\IsN w wk (yB nx)/\IsN w od (zp nx)/\zdX bs λi=>(yB nx).contains i
theorem IsG.below{w w':World}{gb:Nat}{nx:List (List Nat)}(h:IsG w gb nx)(hb:Below w.heap.size w w'):IsG w' gb nx:=
 let⟨sn,sa,wk,od,bs,hn,ha,h1,h2,h3,h4,h5,h6⟩:=h
 ⟨sn,sa,wk,od,bs,hn,ha,h1.below hb,h2.below hb,h3.below hb,h4.below hb,h5.below hb,h6⟩
def IsGB(w:World)(B gb:Nat)(nx:List (List Nat)):Prop:=
 B<=gb/\∃sn sa wk od bs hn ha,Blk w gb 139 (ZU sn sa wk od bs)/\IsNN w sn hn nx/\IsNN w sa ha (zJ nx)/\IsN w wk (yB nx)/\IsN w od (zp nx)/\zdX bs (λi=>(yB nx).contains i)/\
  zw B sn/\zw B sa/\zw B wk/\zw B od/\(∀(i:Nat) (h:i<hn.length),zw B hn[i])/\∀(i:Nat) (h:i<ha.length),zw B ha[i]
theorem IsGB.isG{w:World}{B gb:Nat}{nx:List (List Nat)}(h:IsGB w B gb nx):IsG w gb nx:=
 let⟨_,sn,sa,wk,od,bs,hn,ha,h1,h2,h3,h4,h5,h6,_⟩:=h
 ⟨sn,sa,wk,od,bs,hn,ha,h1,h2,h3,h4,h5,h6⟩
theorem IsGB.keep{w w':World}{B gb:Nat}{nx:List (List Nat)}(h:IsGB w B gb nx)(hk:∀k,B<=k->k<w.heap.size->w'.heap[k]? =w.heap[k]?):IsGB w' B gb nx:=by
 obtain⟨hg,sn,sa,wk,od,bs,hn,ha,h1,h2,h3,h4,h5,h6,f1,f2,f3,f4,f5,f6⟩:=h
 have st:∀{α:Type} {f:α->Value} {s:Sl} {l:List α},IsS f w s l->zw B s->IsS f w' s l:=λhs hf=>hs.of_block λa ha hlt=>hk _ (hf a ha) hlt
 exact⟨hg,sn,sa,wk,od,bs,hn,ha,h1.of_block (hk gb hg h1.lt),⟨st h2.top f1,h2.len,λi g1 g2=>st (h2.row i g1 g2) (f5 i g1)⟩,⟨st h3.top f2,h3.len,λi g1 g2=>st (h3.row i g1 g2) (f6 i g1)⟩,st h4 f3,st h5 f4,h6,f1,f2,f3,f4,f5,f6⟩
structure OS (w0:World) (gb bn ba n:Nat) (w:World) (NX:List (List Nat)):Prop where
 below:Below w0.heap.size w0 w
 len:NX.length=n
 g:Blk w gb 139 (ZU ⟨some (blk bn),n,n⟩ ⟨some (blk ba),n,n⟩ ⟨none,0,0⟩ ⟨none,0,0⟩ (List.replicate 64 (.int .u64 (0:Int))))
 gB:w0.heap.size<=gb
 bnB:w0.heap.size<=bn
 baB:w0.heap.size<=ba
 ne:bn≠ba
 fam:∃hn ha ow,Fam w0.heap.size w bn hn NX ow 0/\Fam w0.heap.size w ba ha (zJ NX) ow n
theorem OS.grown{w0 w w':World}{gb bn ba n:Nat}{NX:List (List Nat)}(h:OS w0 gb bn ba n w NX)(hb:Below w.heap.size w w'):OS w0 gb bn ba n w' NX:=
 let⟨hn,ha,ow,f1,f2⟩:=h.fam
 ⟨h.below.trans (hb.mono h.below.size),h.len,h.g.below hb,h.gB,h.bnB,h.baB,h.ne,hn,ha,ow,f1.grown hb,f2.grown hb⟩
set_option maxHeartbeats 1000000 in
theorem zrd{w0:World}{gb bn ba n:Nat}{w:World}{NX:List (List Nat)}(h:OS w0 gb bn ba n w NX){i x:Nat}(hi:i<n)(hx:x<n)(hn:n<=4096)(hlen:(NX.getD i []).length<=4096)(hlenA:((zJ NX).getD x []).length<=4096)
  (hni:(NX.getD i []).contains x=false) (hgt:∀j,i<j->NX.getD j []=[]) {sb:Nat} {T:TypeId} {cs:List Value} (hT:T≠3) (hT':T≠26) (hsb:Blk w sb T cs) {K:World->Prop}
  (hK:∀w',OS w0 gb bn ba n w' (NX.set i (NX.getD i []++[x]))->Blk w' sb T cs->K w') :
  zc (some (blk gb)) λa18=>
   ldS w.drew a18 λx19=>
   zc (some (blk gb)) λa20=>
   ldS w.drew a20 λx21=>
   (0<=(i:Int)/\(i:Int)<(x21.l:Int))/\
   zc x21.a λa22=>
   ldS w.drew (a22.add (Int.toNat (i:Int))) λx23=>
   Nw (w.drew.alloc (.cells #[(.int .i64 (x:Int))] 3)) λw14=>
   w14.cell? (a22.add (Int.toNat (i:Int)))=some (.slice x23.a x23.l x23.c)/\
   w14.cell? a20=some (.slice x21.a x21.l x21.c)/\
   w14.cell? a18=some (.slice x19.a x19.l x19.c)/\
   zo Tryz.prog 26 (.slice x23.a x23.l x23.c) (.slice (some (blk w.drew.heap.size)) 1 1) w14 λr24 w15=>
   w15.cell? a18=some (.slice x19.a x19.l x19.c)/\
   (0<=(i:Int)/\(i:Int)<(x19.l:Int))/\
   zc x19.a λa25=>
   Wr w15 (a25.add (Int.toNat (i:Int)))/\
   Nw (w15.setCell (a25.add (Int.toNat (i:Int))) (.slice r24.a r24.l r24.c)) λw16=>
   zc (some (blk gb)) λa26=>
   ldS w16.drew (a26.add 1) λx27=>
   zc (some (blk gb)) λa28=>
   ldS w16.drew (a28.add 1) λx29=>
   (0<=(x:Int)/\(x:Int)<(x29.l:Int))/\
   zc x29.a λa30=>
   ldS w16.drew (a30.add (Int.toNat (x:Int))) λx31=>
   Nw (w16.drew.alloc (.cells #[(.int .i64 (i:Int))] 3)) λw17=>
   w17.cell? (a30.add (Int.toNat (x:Int)))=some (.slice x31.a x31.l x31.c)/\
   w17.cell? (a28.add 1)=some (.slice x29.a x29.l x29.c)/\
   w17.cell? (a26.add 1)=some (.slice x27.a x27.l x27.c)/\
   zo Tryz.prog 26 (.slice x31.a x31.l x31.c) (.slice (some (blk w16.drew.heap.size)) 1 1) w17 λr32 w18=>
   w18.cell? (a26.add 1)=some (.slice x27.a x27.l x27.c)/\
   (0<=(x:Int)/\(x:Int)<(x27.l:Int))/\
   zc x27.a λa33=>
   Wr w18 (a33.add (Int.toNat (x:Int)))/\
   Nw (w18.setCell (a33.add (Int.toNat (x:Int))) (.slice r32.a r32.l r32.c)) λw19=>K w19:=by
 obtain⟨hbel,hNX,hG,hgB,hbnB,hbaB,hne,hn',ha',ow,f1,f2⟩:=h
 have hnl:hn'.length=n:=by rw[f1.len,hNX]
 have hal:ha'.length=n:=by rw[f2.len,yX,hNX]
 have hBsz:w0.heap.size<=w.heap.size:=hbel.size
 have hmax:n<=9223372036854775807:=by omega
 refine⟨⟨some (blk bn),n,n⟩,hG.drew.cell0 rfl,⟨some (blk bn),n,n⟩,hG.drew.cell0 rfl,?_⟩
 refine zhU (s:=⟨some (blk bn),n,n⟩) (f1.isSS hnl hmax).top.drew (k:=i) (by omega) ?_
 refine Nw.gen λw14 hw14=>?_
 have hb14:Below w.heap.size w w14:=by rw[hw14];exact(Below.refl _ _).drew.alloc (by simp) _
 have ht14:Blk w14 w.drew.heap.size 3 [iN x]:=by rw[hw14];exact Blk.new w.drew 3 #[iN x]
 have f1':=f1.grown hb14
 have f2':=f2.grown hb14
 have hG':=hG.below hb14
 have hsb':=hsb.below hb14
 have hz14:w.heap.size<=w14.heap.size:=hb14.size
 refine⟨?_,hG'.cell0 rfl,hG'.cell0 rfl,?_⟩
 ·exact(f1'.isSS hnl hmax).top.cell _ rfl i (by omega)
 have hrow:=f1'.row i (by omega)
 have hrl:=yh hrow
 refine yY eInt hrow rfl ht14 (by omega) (by omega) λr w15 hr _ ⟨b,hrb,hbo,hg⟩=>?_
 have hbB:w0.heap.size<=b:=by
  rcases hbo with hb |rfl
  ·exact(f1'.own i (by omega) _ hb).2
  ·omega
 obtain⟨hH,f1p⟩:=f1'.push (by omega) hr hrb hbo hbB hg
 have hbT:∃cs,Blk w15 b 3 cs:=by obtain⟨cs,hc⟩:=hr.type hrb;exact⟨cs,hc⟩
 have hnot:∀{b':Nat} {T:TypeId} {cs:List Value},Blk w14 b' T cs->T≠3->b'≠b/\Blk w15 b' T cs:=λhB hT=>by
  have hb':_≠b:=λe=>by
   rcases hbo with hb |hb
   ·exact zad hrow hB hT hb e.symm
   ·have:=hB.lt;omega
  exact⟨hb',hB.of_block (hg.block _ hB.lt (λe=>hb' (Option.some.inj e)))⟩
 have hG15:=(hnot hG' (by decide)).2
 have hgb:=(hnot hG' (by decide)).1
 have hbba:=(hnot f2'.head (by decide)).1
 have f2o:=f2'.other (v:=0+i) hg (Ne.symm hbba) (by
  rcases hbo with hb |hb
  ·exact .inl ⟨_,(f1'.own i (by omega) _ hb).1,λj hj=>by omega⟩
  ·exact .inr hb)
 refine⟨hG15.cell0 rfl,⟨by omega,by show(i:Int)<((n:Nat):Int);omega⟩,hH.wr (by simp;omega),Nw.gen λw16 hw16=>?_⟩
 have f1q:=f1p
 have f2q:=f2o.set_other hH hne (by decide) i r.val
 have hG16:Blk w16 gb 139 (ZU ⟨some (blk bn),n,n⟩ ⟨some (blk ba),n,n⟩ ⟨none,0,0⟩ ⟨none,0,0⟩ (List.replicate 64 (.int .u64 (0:Int)))):=by
  rw[hw16];exact hG15.other (by rw[zn];exact hG15.apart hH (by decide)) _
 have hsb15:=(hnot hsb' hT).2
 have hsb16:Blk w16 sb T cs:=by
  rw[hw16];exact hsb15.other (by rw[zn];exact hsb15.apart hH hT') _
 rw[show w15.setCell ((blk bn).add i) r.val=w16 from hw16.symm]at f1q f2q
 have hb16:Below w0.heap.size w0 w16:=by
  rw[hw16]
  exact((hbel.trans (hb14.mono hBsz)).trans (zM hg hbB (by omega))).setCell (by rw[zn];exact hbnB) _
 have hl1:(hn'.set i r).length=n:=by simp[hnl]
 have hBsz16:=hb16.size
 clear hw16 f1p f2o hH hG15 hnot hbT hr hg hrow f1' f2' hG' ht14 hw14 hb14 f1 f2 hG hsb hsb' hsb15
 refine⟨⟨some (blk ba),n,n⟩,hG16.drew.cell rfl,⟨some (blk ba),n,n⟩,hG16.drew.cell rfl,?_⟩
 refine zhU (s:=⟨some (blk ba),n,n⟩) (f2q.isSS hal hmax).top.drew (k:=x) (by omega) ?_
 refine Nw.gen λw17 hw17=>?_
 have hb17:Below w16.heap.size w16 w17:=by rw[hw17];exact(Below.refl _ _).drew.alloc (by simp) _
 have ht17:Blk w17 w16.drew.heap.size 3 [iN i]:=by rw[hw17];exact Blk.new w16.drew 3 #[iN i]
 have f1':=f1q.grown hb17
 have f2':=f2q.grown hb17
 have hG':=hG16.below hb17
 have hsb':=hsb16.below hb17
 have hz17:w16.heap.size<=w17.heap.size:=hb17.size
 refine⟨?_,hG'.cell rfl,hG'.cell rfl,?_⟩
 ·exact(f2'.isSS hal hmax).top.cell _ rfl x (by omega)
 have hrow:=f2'.row x (by omega)
 have hrl:=yh hrow
 refine yY eInt hrow rfl ht17 (by omega) (by omega) λr2 w18 hr _ ⟨b2,hrb2,hbo2,hg2⟩=>?_
 have hbB2:w0.heap.size<=b2:=by
  rcases hbo2 with hb |rfl
  ·exact(f2'.own x (by omega) _ hb).2
  ·omega
 obtain⟨hH,f2p⟩:=f2'.push (by omega) hr hrb2 hbo2 hbB2 hg2
 have hnot:∀{b':Nat} {T:TypeId} {cs:List Value},Blk w17 b' T cs->T≠3->b'≠b2/\Blk w18 b' T cs:=λhB hT=>by
  have hb':_≠b2:=λe=>by
   rcases hbo2 with hb |hb
   ·exact zad hrow hB hT hb e.symm
   ·have:=hB.lt;omega
  exact⟨hb',hB.of_block (hg2.block _ hB.lt (λe=>hb' (Option.some.inj e)))⟩
 have hG18:=(hnot hG' (by decide)).2
 have hbbn:=(hnot f1'.head (by decide)).1
 have f1o:=f1'.other (v:=n+x) hg2 (Ne.symm hbbn) (by
  rcases hbo2 with hb |hb
  ·exact .inl ⟨_,(f2'.own x (by omega) _ hb).1,λj hj=>by omega⟩
  ·exact .inr hb)
 refine⟨hG18.cell rfl,⟨by omega,by show(x:Int)<((n:Nat):Int);omega⟩,hH.wr (by simp;omega),Nw.gen λw19 hw19=>?_⟩
 have f2z:=f2p
 have f1z:=f1o.set_other hH (Ne.symm hne) (by decide) x r2.val
 rw[show w18.setCell ((blk ba).add x) r2.val=w19 from hw19.symm]at f1z f2z
 have hsb18:=(hnot hsb' hT).2
 rw[<-zpq (by omega) (by omega) hni hgt]at f2z
 refine hK w19 ⟨?_,by simp[hNX],?_,hgB,hbnB,hbaB,hne,hn'.set i r,ha'.set x r2,_,f1z,f2z⟩ ?_
 ·rw[hw19]
  exact((hb16.trans (hb17.mono hBsz16)).trans (zM hg2 hbB2 (by omega))).setCell (by rw[zn];exact hbaB) _
 ·rw[hw19];exact hG18.other (by rw[zn];exact hG18.apart hH (by decide)) _
 ·rw[hw19];exact hsb18.other (by rw[zn];exact hsb18.apart hH hT') _
end Go.Proofs
namespace Go.Proofs
open Go.Gk Go.RowKit Go.Gr
theorem ziu{n:Nat}{b:Int}(hb:b=24\/b=8\/b=1)(h:n<=4096):(0<=(n:Int)/\(n:Int)<=(n:Int)/\b*(n:Int)<=281474976710656/\(n:Int)<=9223372036854775807):=by
 rcases hb with rfl |rfl |rfl<;>omega
theorem znr{w:World}{s:Sl}{hs:List Sl}(h:IsS Sl.val w s hs){n:Nat}(hn:s.l=n){k:Nat}(hk:k<hs.length){φ:Sl->Prop}(hφ:φ hs[k]) :
  (0<=(k:Int)/\(k:Int)<(n:Int))/\zc s.a λa=>ldS w (a.add (Int.toNat (k:Int))) φ:=by
 subst hn;exact zhU h hk hφ
abbrev z0(ll:List (List Int)):List (List Nat):=ll.map λl=>l.map Int.toNat
theorem zn1(ll:List (List Int))(i:Nat)(hi:i<ll.length):(z0 ll).getD i []=(ll[i]).map Int.toNat:=by simp[z0,List.getD,hi]
def Good(ll:List (List Int)):Prop:=∀l∈ll,∀x∈l,0<=x/\x<(ll.length:Int)
abbrev zO(ll:List (List Int)):List (List Nat):=(z0 ll).map Ze
theorem zgr(n:Nat):zJ (List.replicate n ([]:List Nat))=List.replicate n []:=by
 apply List.ext_getElem
 ·simp[zJ]
 ·intro j g1 g2
  simp only[zJ,List.getElem_map,List.getElem_range,List.getElem_replicate]
  rw[List.filter_eq_nil_iff]
  intro a ha
  have ha:=List.mem_range.1 ha
  simp only[List.length_replicate]at ha
  simp[List.getD,ha]
theorem zcS(ll:List (List Int)):nxP (z0 ll) 0 0=List.replicate ll.length []:=by
 rw[zsk];simp[z0]
set_option maxHeartbeats 1000000 in
theorem zex{s:Sl}{hs:List Sl}{ll:List (List Int)}{w:World}{R:VWP}(h:IsII w s hs ll)
  (h2:ll.length=0->R (.tuple #[.pointer none,.int .i64 2]) w)
  (h4:4096<ll.length->R (.tuple #[.pointer none,.int .i64 4]) w)
  (hbad:0<ll.length->ll.length<=4096->¬Good ll->∀w',Below w.heap.size w w'->R (.tuple #[.pointer none,.int .i64 141]) w')
  (hok:0<ll.length->ll.length<=4096->Good ll->∀w' gb,Below w.heap.size w w'->IsGB w' w.heap.size gb (zO ll)->IsG w' gb (zO ll)->R (.tuple #[.pointer (some (blk gb)),.int .i64 0]) w') :
  cR 37 #[.slice s.a s.l s.c] w R:=by
 refine zb.of (zl8 s R w ?_) λ_ _ h=>h
 have hsl:s.l=hs.length:=h.top.len
 have hhl:hs.length=ll.length:=h.len
 have hn:s.l=ll.length:=by omega
 unfold zie
 rw[hn]
 refine zj (λhe=>h2 (by omega)) (λhne=>zi (λhgt=>h4 (by omega)) (λhle=>?_))
 have hn0:0<ll.length:=by omega
 have hn1:ll.length<=4096:=by omega
 refine zk.cut (λst w7=>∃gb bn ba,st=(some (blk gb),())/\OS w gb bn ba ll.length w7 (nxP (z0 ll) 0 0)) ⟨?_,?_⟩ ?_
 ·refine⟨ziu (.inl rfl) hn1,Nw.gen λw1 hw1=>⟨ziu (.inl rfl) hn1,Nw.gen λw2 hw2=>Nw.gen λw3 hw3=>⟨w2.heap.size,w.heap.size,w1.heap.size,rfl,?_⟩⟩⟩
  have hz1:w1.heap.size=w.heap.size+1:=by rw[hw1];simp
  have hz2:w2.heap.size=w.heap.size+2:=by rw[hw2];simp;omega
  have b1:Blk w1 w.heap.size 26 (List.replicate ll.length (.slice none 0 0)):=by rw[hw1];exact Blk.made w.drew _ _ _
  have b2:Blk w2 w1.heap.size 26 (List.replicate ll.length (.slice none 0 0)):=by rw[hw2];exact Blk.made w1 _ _ _
  have b1':Blk w3 w.heap.size 26 (List.replicate ll.length (.slice none 0 0)):=by rw[hw3,hw2];exact(b1.alloc _).alloc _
  have b2':Blk w3 w1.heap.size 26 (List.replicate ll.length (.slice none 0 0)):=by rw[hw3];exact b2.alloc _
  have hg:Blk w3 w2.heap.size 139 (ZU ⟨some (blk w.heap.size),ll.length,ll.length⟩ ⟨some (blk w1.heap.size),ll.length,ll.length⟩ ⟨none,0,0⟩ ⟨none,0,0⟩ (List.replicate 64 (.int .u64 (0:Int)))):=by
   rw[hw3];exact Blk.new w2 _ _
  refine⟨?_,by rw[zcS];simp,hg,by omega,Nat.le_refl _,by omega,by omega,List.replicate ll.length ⟨none,0,0⟩,List.replicate ll.length ⟨none,0,0⟩,λ_=>0,by rw[zcS];exact Fam.new _ w3 _ _ _ _ b1',by rw[zcS,zgr];exact Fam.new _ w3 _ _ _ _ b2'⟩
  ·rw[hw3,hw2,hw1];exact(((Below.refl _ _).drew.alloc (by simp) _).alloc (by simp) _).alloc (by simp;omega) _
 ·refine⟨ziu (.inl rfl) hn1,Nw.gen λw1 hw1=>⟨ziu (.inl rfl) hn1,Nw.gen λw2 hw2=>Nw.gen λw3 hw3=>⟨w2.heap.size,w1.heap.size,w.heap.size,rfl,?_⟩⟩⟩
  have hz1:w1.heap.size=w.heap.size+1:=by rw[hw1];simp
  have hz2:w2.heap.size=w.heap.size+2:=by rw[hw2];simp;omega
  have b1:Blk w1 w.heap.size 26 (List.replicate ll.length (.slice none 0 0)):=by rw[hw1];exact Blk.made w.drew _ _ _
  have b2:Blk w2 w1.heap.size 26 (List.replicate ll.length (.slice none 0 0)):=by rw[hw2];exact Blk.made w1 _ _ _
  have b1':Blk w3 w.heap.size 26 (List.replicate ll.length (.slice none 0 0)):=by rw[hw3,hw2];exact(b1.alloc _).alloc _
  have b2':Blk w3 w1.heap.size 26 (List.replicate ll.length (.slice none 0 0)):=by rw[hw3];exact b2.alloc _
  have hg:Blk w3 w2.heap.size 139 (ZU ⟨some (blk w1.heap.size),ll.length,ll.length⟩ ⟨some (blk w.heap.size),ll.length,ll.length⟩ ⟨none,0,0⟩ ⟨none,0,0⟩ (List.replicate 64 (.int .u64 (0:Int)))):=by
   rw[hw3];exact Blk.new w2 _ _
  refine⟨?_,by rw[zcS];simp,hg,by omega,by omega,Nat.le_refl _,by omega,List.replicate ll.length ⟨none,0,0⟩,List.replicate ll.length ⟨none,0,0⟩,λ_=>0,by rw[zcS];exact Fam.new _ w3 _ _ _ _ b2',by rw[zcS,zgr];exact Fam.new _ w3 _ _ _ _ b1'⟩
  ·rw[hw3,hw2,hw1];exact(((Below.refl _ _).drew.alloc (by simp) _).alloc (by simp) _).alloc (by simp;omega) _
 rintro _ w7 ⟨gb,bn,ba,rfl,hos⟩
 have hrl:(z0 ll).length=ll.length:=by simp[z0]
 refine zl.count ll.length (by omega) (λi w'=>OS w gb bn ba ll.length w' (nxP (z0 ll) i 0)/\∀j,j<i->∀(hj:j<ll.length),∀x∈ll[j],0<=x/\x<(ll.length:Int)) ⟨hos,λj hj=>by omega⟩ ?_
 rintro i w8 hi ⟨hos8,hgood⟩ next hnext
 refine zi (λhlt=>?_) (λhge=>?_)
 ·have hlt:i<ll.length:=by dsimp only at hlt;omega
  have hin:=h.below (w':=w8) (hos8.below.mono (Nat.le_refl _))
  refine znr hin.top hn (k:=i) (by omega) ?_
  refine Nw.gen λw9 hw9=>?_
  have hb9:Below w8.heap.size w8 w9:=by rw[hw9];exact(Below.refl _ _).alloc (Nat.le_refl _) _
  have hbits9:Bits w9 (blk w8.heap.size) λ_=>false:=by rw[hw9];exact Bits.new w8 _
  have hB9:Blk w9 w8.heap.size 137 (List.replicate 64 (.int .u64 (0:Int))):=by rw[hw9];exact Blk.new w8 _ _
  have hos9:=hos8.grown hb9
  have hsbB:w.heap.size<=w8.heap.size:=hos8.below.size
  have hrow:∀{w':World},Below w.heap.size w w'->IsI w' (hs[i]'(by omega)) ll[i]:=λhb=>(h.below hb).row i (by omega) hlt
  have hrn:(hs[i]'(by omega)).l=(ll[i]).length:=(hrow hos9.below).len
  have hgd:=zn1 ll i hlt
  clear hw9 hin
  refine zl.count (ll[i]).length (hrow hos9.below).bound (λk w'=>OS w gb bn ba ll.length w' (nxP (z0 ll) i k)/\(∃cs,Blk w' w8.heap.size 137 cs)/\Bits w' (blk w8.heap.size) (λj=>((nxP (z0 ll) i k).getD i []).contains j)/\
   ∀j,j<k->∀(hj:j<(ll[i]).length),0<=ll[i][j]/\ll[i][j]<(ll.length:Int)) ⟨hos9,⟨_,hB9⟩,?_,λj hj=>by omega⟩ ?_
  ·have e:(nxP (z0 ll) i 0).getD i []=[]:=by rw[zfv (by omega)];simp[Ze]
   rw[e];simpa using hbits9
  rintro k w10 hk ⟨hos10,⟨cs10,hB10⟩,hbits10,hgood10⟩ nxt hnxt
  refine zi (λhltk=>?_) (λhgek=>?_)
  ·have hltk:k<(ll[i]).length:=by dsimp only at hltk;omega
   refine zk.cut (λ_ w'=>OS w gb bn ba ll.length w' (nxP (z0 ll) i (k+1))/\(∃cs,Blk w' w8.heap.size 137 cs)/\Bits w' (blk w8.heap.size) (λj=>((nxP (z0 ll) i (k+1)).getD i []).contains j)/\
    0<=ll[i][k]/\ll[i][k]<(ll.length:Int)) ?_ λ_ w' hh=>hnxt w' hltk ⟨hh.1,hh.2.1,hh.2.2.1,λj hj hjl=>by
     by_cases e:j=k
     ·subst e;exact hh.2.2.2
     ·exact hgood10 j (by omega) hjl⟩
   refine yv (hrow hos10.below) hltk ?_
   have bad:¬(0<=ll[i][k]/\ll[i][k]<(ll.length:Int))->R (.tuple #[.pointer none,.int .i64 141]) w10:=λhx=>
    hbad hn0 hn1 (λhG=>hx (hG _ (List.getElem_mem hlt) _ (List.getElem_mem hltk))) w10 hos10.below
   refine zk.cut (λ_ w'=>w'=w10/\0<=ll[i][k]/\ll[i][k]<(ll.length:Int)) (zi (λhx=>bad (by omega)) (λhx=>zi (λhx'=>bad (by omega)) (λhx'=>⟨rfl,by omega,by omega⟩))) ?_
   rintro _ wx ⟨ewx,hx0,hx1⟩
   subst wx
   obtain⟨x,hx⟩:=Int.eq_ofNat_of_zero_le hx0
   have hxn:x<ll.length:=by omega
   have hrk:k<((z0 ll).getD i []).length:=by rw[hgd];simpa using hltk
   have hrx:((z0 ll).getD i [])[k]=x:=by
    have:((z0 ll).getD i [])[k]=(ll[i][k]).toNat:=(List.getElem_of_eq hgd hrk).trans (List.getElem_map _)
    rw[this,hx];rfl
   rw[hx]
   refine zlA (i:=x) (by omega) hbits10 ⟨_,rfl,zy ?_⟩
   refine zm (λhc=>?_) (λhc=>?_)
   ·have hskip:=zsj (rows:=z0 ll) (i:=i) (k:=k) (by omega) hrk (by rw[hrx];exact hc)
    rw[hskip]
    exact⟨hos10,⟨_,hB10⟩,hbits10,by omega,by omega⟩
   ·have hpush:=zsi (rows:=z0 ll) (i:=i) (k:=k) (by omega) hrk (by rw[hrx];exact hc)
    rw[hrx]at hpush
    refine znO (i:=x) (by omega) hbits10 λv hbits11=>⟨rfl,?_⟩
    generalize hw11:w10.drew.setCell ((blk w8.heap.size).add (x / 64)) (.int .u64 (v:Int))=w11 at hbits11⊢
    obtain⟨cs11,hB11⟩:∃cs,Blk w11 w8.heap.size 137 cs:=by rw[<-hw11];exact⟨_,hB10.drew.set _ _⟩
    have hos11:OS w gb bn ba ll.length w11 (nxP (z0 ll) i k):=by
     obtain⟨o1,o2,o3,o4,o5,o6,o7,hn',ha',ow,f1,f2⟩:=hos10
     have hne3:gb≠w8.heap.size:=o3.apart hB10 (by decide)
     have hne1:w8.heap.size≠bn:=hB10.apart f1.head (by decide)
     have hne2:w8.heap.size≠ba:=hB10.apart f2.head (by decide)
     rw[<-hw11]
     exact⟨o1.drew.setCell (by rw[zn];exact hsbB) _,o2,o3.drew.other (by rw[zn];exact hne3) _,o4,o5,o6,o7,hn',ha',ow,
      (f1.grown (w':=_) (Below.refl _ _).drew).set_other (hB10.drew) hne1 (by decide) _ _,(f2.grown (w':=_) (Below.refl _ _).drew).set_other (hB10.drew) hne2 (by decide) _ _⟩
    have hlen:((nxP (z0 ll) i k).getD i []).length<=ll.length:=by
     rw[zfv (by omega),if_neg (by omega),if_pos rfl,hgd]
     refine zoe λy hy=>?_
     obtain⟨j,hj,rfl⟩:=List.mem_iff_getElem.1 hy
     have hj':j<k/\j<(ll[i]).length:=by simp at hj;omega
     have:=hgood10 j hj'.1 hj'.2
     simp only[List.getElem_take,List.getElem_map]
     omega
    have hgt:∀j,i<j->(nxP (z0 ll) i k).getD j []=[]:=λj hj=>by
     by_cases hjn:j<(z0 ll).length
     ·rw[zfv hjn,if_neg (by omega),if_neg (by omega)]
     ·rw[List.getD_eq_getElem?_getD,List.getElem?_eq_none (by rw[ziy];omega)];rfl
    refine zrd hos11 hlt hxn hn1 (by omega) (by have:=zgF (nxP (z0 ll) i k) x;rw[ziy]at this;omega) hc hgt (by decide) (by decide) hB11 λw' hos' hB'=>?_
    rw[hpush]
    refine⟨hos',⟨_,hB'⟩,?_,by omega,by omega⟩
    have e:∀j,(((nxP (z0 ll) i k).set i ((nxP (z0 ll) i k).getD i []++[x])).getD i []).contains j=(((nxP (z0 ll) i k).getD i []).contains j||j==x):=by
     intro j
     have:((nxP (z0 ll) i k).set i ((nxP (z0 ll) i k).getD i []++[x])).getD i []=(nxP (z0 ll) i k).getD i []++[x]:=by simp[List.getD,ziy,hlt]
     rw[this,Bool.eq_iff_iff]
     simp
    have hbits':Bits w' (blk w8.heap.size) (λj=>((nxP (z0 ll) i k).getD i []).contains j||j==x):=
     hbits11.of_block ((show w'.heap[w8.heap.size]? =_ from hB').trans (show w11.heap[w8.heap.size]? =_ from hB11).symm)
    simpa only[e] using hbits'
  ·have hkk:k=(ll[i]).length:=by dsimp only at hgek;omega
   subst hkk
   refine hnext w10 hlt ⟨?_,λj hj hjl x hx=>?_⟩
   ·have:=zsh (z0 ll) i
    rw[hgd,List.length_map]at this
    rw[<-this]
    exact hos10
   ·by_cases e:j=i
    ·subst e
     obtain⟨m,hm,rfl⟩:=List.mem_iff_getElem.1 hx
     exact hgood10 m hm hm
    ·exact hgood j (by omega) hjl x hx
 ·
  have hi':i=ll.length:=by dsimp only at hge;omega
  subst hi'
  have hG:Good ll:=λl hl x hx=>by
   obtain⟨j,hj,rfl⟩:=List.mem_iff_getElem.1 hl
   exact hgood j hj hj x hx
  have hnx:nxP (z0 ll) ll.length 0=zO ll:=by have:=zsK (z0 ll);rwa[hrl]at this
  rw[hnx]at hos8
  obtain⟨o1,o2,o3,o4,o5,o6,o7,hn',ha',ow,f1,f2⟩:=hos8
  have hl1:hn'.length=ll.length:=by rw[f1.len,o2]
  have hl2:ha'.length=ll.length:=by rw[f2.len,yX,o2]
  have hrows:∀j,∀t∈(zO ll).getD j [],t<(zO ll).length:=by
   intro j t ht
   by_cases hj:j<ll.length
   ·have:(zO ll).getD j []=Ze (ll[j].map Int.toNat):=by simp[zO,z0,List.getD,hj]
    rw[this,zhu]at ht
    obtain⟨y,hy,rfl⟩:=List.mem_map.1 ht
    have:=hG _ (List.getElem_mem hj) y hy
    simp[zO,z0]
    omega
   ·simp[zO,z0,List.getD,hj]at ht
  refine zpf o3 (f1.isSS hl1 (by omega)) (f1.avoids o3 (by decide) (by decide)) (by rw[o2];exact hn0) (by rw[o2];exact hn1) hrows λw' wk od bs hfr hGw hbits hwk hod hfw hfo=>⟨rfl,?_⟩
  have hz:=o1.size
  have gB:IsGB w' w.heap.size gb (zO ll):=by
   refine⟨o4,_,_,wk,od,bs,hn',ha',hGw,?_,?_,hwk.isS,hod.isS,hbits,(λa ha=>by cases ha;exact o5),(λa ha=>by cases ha;exact o6),(λa ha=>by have:=hfw a ha;omega),(λa ha=>by have:=hfo a ha;omega),(λi hi a ha=>(f1.own i hi a ha).2),λi hi a ha=>(f2.own i hi a ha).2⟩
   ·exact(f1.isSS hl1 (by omega)).fr hfr (Nat.le_refl _) (f1.avoids o3 (by decide) (by decide))
   ·exact(f2.isSS hl2 (by omega)).fr hfr (Nat.le_refl _) (f2.avoids o3 (by decide) (by decide))
  refine hok hn0 hn1 hG w' gb ?_ gB gB.isG
  exact o1.trans ((hfr.mono (B':=w.heap.size) (X':=λ_=>False) o1.size (λk hk e=>by omega)).below)
end Go.Proofs
namespace Go.Proofs
open Go.Gk Go.RowKit Go.Gr
structure NxOk (nx:List (List Nat)):Prop where
 pos:0<nx.length
 max:nx.length<=4096
 rows:∀i,∀t∈nx.getD i [],t<nx.length
 nodup:∀i,(nx.getD i []).Nodup
theorem NxOk.row_le{nx:List (List Nat)}(h:NxOk nx)(i:Nat):(nx.getD i []).length<=nx.length:=zac (h.nodup i) (h.rows i)
theorem NxOk.came{nx:List (List Nat)}(h:NxOk nx):Came nx.length ([],[]) (yi nx nx.length 0 ([],[])):=
 zfX h.rows nx.length 0 ([],[]) h.pos (by simp) (by simp) (by simp)
theorem zmO(nx:List (List Nat)):(zp nx).length=(yB nx).length:=by
 have:=zmZ nx nx.length 0 ([],[])
 simp[zp,yB]at this⊢
 omega
theorem NxOk.walk_le{nx:List (List Nat)}(h:NxOk nx):(yB nx).length<=nx.length:=zac h.came.nodup h.came.lt
theorem zij{ll:List (List Int)}{j:Nat}(hj:j<ll.length):(zO ll).getD j []=Ze (ll[j].map Int.toNat):=by simp[zO,z0,List.getD,hj]
theorem ZD(ll:List (List Int)):(zO ll).length=ll.length:=by simp[zO,z0]
theorem zgH{ll:List (List Int)}(h0:0<ll.length)(h1:ll.length<=4096)(hG:Good ll):NxOk (zO ll):=by
 refine⟨by rw[ZD];exact h0,by rw[ZD];exact h1,λj t ht=>?_,λj=>?_⟩
 ·by_cases hj:j<ll.length
  ·rw[zij hj,zhu]at ht
   obtain⟨y,hy,rfl⟩:=List.mem_map.1 ht
   have:=hG _ (List.getElem_mem hj) y hy
   rw[ZD]
   omega
  ·simp[zO,z0,List.getD,hj]at ht
 ·by_cases hj:j<ll.length
  ·rw[zij hj];exact zk0 _
  ·simp[zO,z0,List.getD,hj]
theorem _root_.Go.Gk.IsS.toI{w:World}{s:Sl}{l:List Nat}(h:IsS iN w s l):IsI w s (l.map λ(x:Nat)=>(x:Int)):=
 ⟨by rw[List.length_map];exact h.len,h.cap,h.max,h.nil,λa ha i hi=>by rw[List.getElem_map];exact h.cell a ha i (by simpa using hi)⟩
theorem zba{gb:Nat}{nx:List (List Nat)}{w:World}{R:VWP}(h:IsG w gb nx)(hR:R (.int .i64 (nx.length:Int)) w) :
  cR 38 #[.pointer (some (blk gb))] w R:=by
 refine zb.of (zgz _ R w ?_) λ_ _ h=>h
 obtain⟨sn,sa,wk,od,bs,hn,ha,h1,h2,h3,h4,h5,h6⟩:=h
 refine⟨sn,h1.cell0 rfl,?_⟩
 have e:sn.l=nx.length:=by have:=h2.top.len;have:=h2.len;omega
 show R (.int .i64 (sn.l:Int)) w
 rw[e];exact hR
theorem znt{gb:Nat}{nx:List (List Nat)}{i:Int}{w:World}{R:VWP}(h:IsG w gb nx)(hR:R (.bool (decide (0<=i/\i<nx.length))) w) :
  cR 99 #[.pointer (some (blk gb)),.int .i64 i] w R:=by
 refine zb.of (zgO _ i R w ?_) λ_ _ h=>h
 refine zi (λh0=>zba h ⟨_,rfl,?_⟩) (λh0=>?_)
 ·have:decide (i<(nx.length:Int))=decide (0<=i/\i<nx.length):=by
   rw[decide_eq_decide];exact⟨λh=>⟨h0,h⟩,λh=>h.2⟩
  rw[this];exact hR
 ·have:decide (0<=i/\i<(nx.length:Int))=false:=by rw[decide_eq_false_iff_not];omega
  rw[this]at hR;exact hR
def zj9(ll:List (List Nat))(i:Int):List Nat:=if 0<=i then ll.getD i.toNat [] else []
theorem zU(ll:List (List Nat))(i:Nat):zj9 ll (i:Int)=ll.getD i []:=by simp[zj9]
theorem zhx{ll:List (List Nat)}{i:Int}(h:¬(0<=i/\i<ll.length)):zj9 ll i=[]:=by
 unfold zj9
 split
 ·rw[List.getD_eq_getElem?_getD,List.getElem?_eq_none (by omega)];rfl
 ·rfl
theorem zeK{gb:Nat}{nx:List (List Nat)}(hx:NxOk nx){i:Int}{w:World}{R:VWP}(h:IsG w gb nx)
  (hR:∀r w',Own w' 3 1 r ((zj9 nx i).map iN)->zw w.heap.size r->Below w.heap.size w w'->R (.slice r.a r.l r.c) w') :
  cR 39 #[.pointer (some (blk gb)),.int .i64 i] w R:=by
 refine zb.of (zfF _ i R w ?_) λ_ _ h=>h
 refine znt h ⟨_,rfl,zy (zi (λhi=>?_) (λhi=>?_))⟩
 ·obtain⟨sn,sa,wk,od,bs,hn,ha,h1,h2,h3,h4,h5,h6⟩:=h
  obtain⟨k,rfl⟩:=Int.eq_ofNat_of_zero_le hi.1
  have hk:k<nx.length:=by have:=hi.2;omega
  have hnl:=h2.len
  have hrl:=hx.row_le k
  have hrm:=hx.max
  have hsz:nx[k].length*8<=140737488355328:=by
   have e:nx[k]=nx.getD k []:=by simp[List.getD,hk]
   rw[e];omega
  refine⟨sn,h1.cell0 rfl,zhU h2.top (by omega) ?_⟩
  refine zid zp4 (h2.row k (by omega) hk) hsz λr w' g1 g2 g3=>⟨r,rfl,hR r w' ?_ g2 g3⟩
  rw[zU]
  simpa[List.getD,hk] using g1
 ·refine hR ⟨none,0,0⟩ w ?_ (λa ha=>by cases ha) (Below.refl _ _)
  rw[zhx (by omega)];exact Own.nil _ _ _
theorem zlc{gb:Nat}{nx:List (List Nat)}(hx:NxOk nx){i:Int}{w:World}{R:VWP}(h:IsG w gb nx)
  (hR:∀r w',Own w' 3 1 r ((zj9 (zJ nx) i).map iN)->zw w.heap.size r->Below w.heap.size w w'->R (.slice r.a r.l r.c) w') :
  cR 40 #[.pointer (some (blk gb)),.int .i64 i] w R:=by
 refine zb.of (zfa _ i R w ?_) λ_ _ h=>h
 refine znt h ⟨_,rfl,zy (zi (λhi=>?_) (λhi=>?_))⟩
 ·obtain⟨sn,sa,wk,od,bs,hn,ha,h1,h2,h3,h4,h5,h6⟩:=h
  obtain⟨k,rfl⟩:=Int.eq_ofNat_of_zero_le hi.1
  have hk:k<(zJ nx).length:=by rw[yX];have:=hi.2;omega
  have hnl:=h3.len
  have hrl:=zgF nx k
  have hrm:=hx.max
  have hsz:(zJ nx)[k].length*8<=140737488355328:=by
   have e:(zJ nx)[k]=(zJ nx).getD k []:=by simp[List.getD,hk]
   rw[e];omega
  refine⟨sa,h1.cell (n:=1) rfl,zhU h3.top (by omega) ?_⟩
  refine zid zp4 (h3.row k (by omega) hk) hsz λr w' g1 g2 g3=>⟨r,rfl,hR r w' ?_ g2 g3⟩
  rw[zU]
  simpa[List.getD,hk] using g1
 ·refine hR ⟨none,0,0⟩ w ?_ (λa ha=>by cases ha) (Below.refl _ _)
  rw[zhx (by rw[yX];omega)];exact Own.nil _ _ _
theorem zpm{gb:Nat}{nx:List (List Nat)}(hx:NxOk nx){w:World}{R:VWP}(h:IsG w gb nx)
  (hR:∀r w',Own w' 3 1 r ((zp nx).map iN)->zw w.heap.size r->Below w.heap.size w w'->R (.slice r.a r.l r.c) w') :
  cR 42 #[.pointer (some (blk gb))] w R:=by
 refine zb.of (zfb _ R w ?_) λ_ _ h=>h
 obtain⟨sn,sa,wk,od,bs,hn,ha,h1,h2,h3,h4,h5,h6⟩:=h
 refine⟨od,h1.cell (n:=3) rfl,zid zp4 h5 (by have:=zmO nx;have:=hx.walk_le;have:=hx.max;omega) λr w' g1 g2 g3=>⟨r,rfl,hR r w' g1 g2 g3⟩⟩
def zbh(nx:List (List Nat))(i:Int):Bool:=decide (0<=i)&&(yB nx).contains i.toNat
theorem ZC{gb:Nat}{nx:List (List Nat)}(hx:NxOk nx){i:Int}{w:World}{R:VWP}(h:IsG w gb nx)(hR:R (.bool (zbh nx i)) w) :
  cR 41 #[.pointer (some (blk gb)),.int .i64 i] w R:=by
 refine zb.of (zdE _ i R w ?_) λ_ _ h=>h
 refine znt h ⟨_,rfl,zi (λhi=>?_) (λhi=>?_)⟩
 ·obtain⟨sn,sa,wk,od,bs,hn,ha,h1,h2,h3,h4,h5,h6⟩:=h
  obtain⟨k,rfl⟩:=Int.eq_ofNat_of_zero_le hi.1
  have hm:=hx.max
  have hk:k<4096:=by have:=hi.2;omega
  refine zlA hk (zdX.bits h1 h6) ⟨_,rfl,?_⟩
  simpa[zbh] using hR
 ·have:zbh nx i=false:=by
   unfold zbh
   by_cases h0:0<=i
   ·have:(yB nx).contains i.toNat=false:=by
     rw[<-Bool.not_eq_true,List.contains_iff_mem]
     intro hm
     have:=hx.came.lt _ hm
     omega
    rw[this,Bool.and_false]
   ·simp[h0]
  rw[this]at hR
  exact hR
end Go.Proofs
namespace Go.Proofs
open Go.Gk Go.RowKit Go.Gr
end Go.Proofs
namespace Go.Proofs
open Go.Gk Go.RowKit Go.Gr
end Go.Proofs
namespace Go.Proofs
open Go.Gk Go.RowKit Go.Gr
theorem zm2(l:List Nat)(x:Nat):(l.map λ(x:Nat)=>(x:Int)).contains (x:Int)=l.contains x:=by
 rw[Bool.eq_iff_iff]
 simp only[List.contains_iff_mem,List.mem_map]
 exact⟨λ⟨y,hy,e⟩=>by rw[show x=y by omega];exact hy,λh=>⟨x,h,rfl⟩⟩
theorem zjd{nx:List (List Nat)}(hx:NxOk nx){i j:Nat}:i∈(zJ nx).getD j []↔j∈nx.getD i []:=by
 by_cases hj:j<nx.length
 ·rw[zf5 hj,List.mem_filter,List.mem_range,List.contains_iff_mem]
  refine⟨λh=>h.2,λh=>⟨?_,h⟩⟩
  by_cases hi:i<nx.length
  ·exact hi
  ·simp[List.getD,hi]at h
 ·constructor
  ·intro h;simp[List.getD,yX,hj]at h
  ·intro h;exact absurd (hx.rows i j h) hj
end Go.Proofs
namespace Go.Gr
inductive ReachN (nx:List (List Nat)) (wo:Int):Nat->Prop
 |zero:wo≠0->0<nx.length->ReachN nx wo 0
 |step {i t:Nat}:ReachN nx wo i->t∈nx.getD i []->(t:Int)≠wo->ReachN nx wo t
structure Clo (nx:List (List Nat)) (Q:Nat->Prop) (s s':List Nat×List Nat):Prop where
 came:∀x∈s.1,x∈s'.1
 closed:∀x∈s'.1,x∈s.1\/∀t∈nx.getD x [],t∈s'.1
 sound:∀x∈s'.1,x∈s.1\/Q x
theorem zrs{nx:List (List Nat)}(hnx:∀i,∀t∈nx.getD i [],t<nx.length){Q:Nat->Prop}(hQ:∀i,Q i->∀t∈nx.getD i [],Q t) :
  ∀(f i:Nat) (s:List Nat×List Nat),i<nx.length->s.1.Nodup->(∀x∈s.1,x<nx.length)->i ∉ s.1->nx.length<=s.1.length+f->Q i->Clo nx Q s (yi nx f i s)/\i∈(yi nx f i s).1:=by
 intro f
 induction f with
 |zero=>
  intro i s hi hnd hlt hni hf
  have:=zfu hnd hlt hi hni
  omega
 |succ f ih=>
  intro i s hi hnd hlt hni hf hq
  have hslt:=zfu hnd hlt hi hni
  have all:∀(l:List Nat) (s1:List Nat×List Nat),(∀t∈l,t<nx.length/\Q t)->s1.1.Nodup->(∀x∈s1.1,x<nx.length)->nx.length<=s1.1.length+f->Clo nx Q s1 (zD nx f l s1)/\∀t∈l,t∈(zD nx f l s1).1:=by
   intro l
   induction l with
   |nil=>intro s1 _ _ _ _;exact⟨⟨λ_ h=>h,λ_ h=>.inl h,λ_ h=>.inl h⟩,by simp⟩
   |cons t r ihl=>
    intro s1 hl h1 h2 h3
    have e:zD nx f (t::r) s1=zD nx f r (if s1.1.contains t then s1 else yi nx f t s1):=rfl
    rw[e]
    have ht:=hl t (by simp)
    by_cases hc:t∈s1.1
    ·rw[if_pos (by simpa using hc)]
     obtain⟨g1,g2⟩:=ihl s1 (λu hu=>hl u (by simp[hu])) h1 h2 h3
     refine⟨g1,λu hu=>?_⟩
     rcases List.mem_cons.1 hu with rfl |hu
     ·exact g1.came _ hc
     ·exact g2 u hu
    ·rw[if_neg (by simpa using hc)]
     obtain⟨v1,v2⟩:=ih t s1 ht.1 h1 h2 hc h3 ht.2
     have hv:=zfX hnx f t s1 ht.1 h1 h2 hc
     have hm:s1.1.length<=(yi nx f t s1).1.length:=by obtain⟨l,e⟩:=hv.more;rw[e];simp
     obtain⟨g1,g2⟩:=ihl (yi nx f t s1) (λu hu=>hl u (by simp[hu])) hv.nodup hv.lt (by omega)
     refine⟨⟨λx hx=>g1.came x (v1.came x hx),λx hx=>?_,λx hx=>?_⟩,λu hu=>?_⟩
     ·rcases g1.closed x hx with h |h
      ·rcases v1.closed x h with h |h
       ·exact .inl h
       ·exact .inr λu hu=>g1.came u (h u hu)
      ·exact .inr h
     ·rcases g1.sound x hx with h |h
      ·exact v1.sound x h
      ·exact .inr h
     ·rcases List.mem_cons.1 hu with rfl |hu
      ·exact g1.came _ v2
      ·exact g2 u hu
  rw[zdA]
  have hb:(s.1++[i]).Nodup:=by
   rw[List.nodup_append]
   exact⟨hnd,by simp,λx hx y hy=>by simp at hy;subst hy;intro e;subst e;exact hni hx⟩
  obtain⟨a1,a2⟩:=all (nx.getD i []) (s.1++[i],s.2) (λt ht=>⟨hnx i t ht,hQ i hq t ht⟩) hb (λx hx=>by
   rcases List.mem_append.1 hx with h |h
   ·exact hlt x h
   ·simp at h;subst h;exact hi) (by simp;omega)
  refine⟨⟨λx hx=>a1.came x (List.mem_append.2 (.inl hx)),λx hx=>?_,λx hx=>?_⟩,a1.came i (by simp)⟩
  ·rcases a1.closed x hx with h |h
   ·rcases List.mem_append.1 h with h |h
    ·exact .inl h
    ·simp at h;subst h;exact .inr a2
   ·exact .inr h
  ·rcases a1.sound x hx with h |h
   ·rcases List.mem_append.1 h with h |h
    ·exact .inl h
    ·simp at h;subst h;exact .inr hq
   ·exact .inr h
theorem zdC{nx:List (List Nat)}(hnx:∀i,∀t∈nx.getD i [],t<nx.length)(h0:0<nx.length)(j:Nat):j∈yB nx↔ReachN nx (-1) j:=by
 obtain⟨c,c0⟩:=zrs hnx (Q:=ReachN nx (-1)) (λi hi t ht=>.step hi ht (by omega)) nx.length 0 ([],[]) h0 (by simp) (by simp) (by simp) (by simp) (.zero (by decide) h0)
 constructor
 ·intro h
  rcases c.sound j h with h |h
  ·cases h
  ·exact h
 ·intro h
  induction h with
  |zero=>exact c0
  |step _ ht _ ih=>
   rcases c.closed _ ih with h |h
   ·cases h
   ·exact h _ ht
theorem zkT{nx:List (List Nat)}{wo:Int}{S:Nat->Prop}(h0:0<nx.length->wo≠0->S 0)(hs:∀i,S i->∀t∈nx.getD i [],(t:Int)≠wo->S t){j:Nat}(h:ReachN nx wo j):S j:=by
 induction h with
 |zero h1 h2=>exact h0 h2 h1
 |step _ ht hw ih=>exact hs _ ih _ ht hw
end Go.Gr
namespace Go.Gr
def Pe(nx:List (List Nat))(l:List Nat):Prop:=∀a b x,l=a++x::b->a=[]\/∃y∈a,x∈nx.getD y []
def Pl(nx:List (List Nat))(m:List Nat):Prop:=∀a b x,m=a++x::b->b=[]\/∃y∈b,x∈nx.getD y []
theorem zrc{a b:List Nat}(h:(a++b).Nodup):a.Nodup/\b.Nodup/\∀x∈a,x ∉ b:=by
 rw[List.nodup_append]at h
 exact⟨h.1,h.2.1,λx hx hy=>h.2.2 x hx x hy rfl⟩
theorem zrt{nx:List (List Nat)}(hnx:∀i,∀t∈nx.getD i [],t<nx.length) :
  ∀(f i:Nat) (s:List Nat×List Nat),i<nx.length->s.1.Nodup->(∀x∈s.1,x<nx.length)->i ∉ s.1->nx.length<=s.1.length+f->
   ∃l m,(yi nx f i s).1=s.1++i::l/\(yi nx f i s).2=s.2++(m++[i])/\(∀x,x∈m↔x∈l)/\m.Nodup/\Pe nx (i::l)/\Pl nx (m++[i]):=by
 intro f
 induction f with
 |zero=>
  intro i s hi hnd hlt hni hf
  have:=zfu hnd hlt hi hni
  omega
 |succ f ih=>
  intro i s hi hnd hlt hni hf
  have hslt:=zfu hnd hlt hi hni
  have all:∀(r:List Nat) (s1:List Nat×List Nat),(∀t∈r,t<nx.length/\t∈nx.getD i [])->s1.1.Nodup->(∀x∈s1.1,x<nx.length)->nx.length<=s1.1.length+f->
    (∃l m,s1.1=s.1++i::l/\s1.2=s.2++m/\(∀x,x∈m↔x∈l)/\m.Nodup/\Pe nx (i::l)/\∀a b x,m=a++x::b->(∃y∈b,x∈nx.getD y [])\/x∈nx.getD i [])->
    ∃l m,(zD nx f r s1).1=s.1++i::l/\(zD nx f r s1).2=s.2++m/\(∀x,x∈m↔x∈l)/\m.Nodup/\Pe nx (i::l)/\∀a b x,m=a++x::b->(∃y∈b,x∈nx.getD y [])\/x∈nx.getD i []:=by
   intro r
   induction r with
   |nil=>intro s1 _ _ _ _ h;exact h
   |cons t r ihl=>
    intro s1 hl h1 h2 h3 h
    have e:zD nx f (t::r) s1=zD nx f r (if s1.1.contains t then s1 else yi nx f t s1):=rfl
    rw[e]
    have ht:=hl t (by simp)
    by_cases hc:t∈s1.1
    ·rw[if_pos (by simpa using hc)]
     exact ihl s1 (λu hu=>hl u (by simp[hu])) h1 h2 h3 h
    ·rw[if_neg (by simpa using hc)]
     obtain⟨l2,m2,v1,v2,v3,v4,v5,v6⟩:=ih t s1 ht.1 h1 h2 hc h3
     have hv:=zfX hnx f t s1 ht.1 h1 h2 hc
     have hm:s1.1.length<=(yi nx f t s1).1.length:=by obtain⟨l,e⟩:=hv.more;rw[e];simp
     refine ihl (yi nx f t s1) (λu hu=>hl u (by simp[hu])) hv.nodup hv.lt (by omega) ?_
     obtain⟨l,m,g1,g2,g3,g4,g5,g6⟩:=h
     have hnd':=hv.nodup
     rw[v1,g1]at hnd'
     obtain⟨_,n2,n3⟩:=zrc hnd'
     have n2':=List.nodup_cons.1 n2
     refine⟨l++t::l2,m++(m2++[t]),by rw[v1,g1];simp,by rw[v2,g2];simp,λx=>?_,?_,?_,?_⟩
     ·simp only[List.mem_append,List.mem_cons,List.not_mem_nil,or_false,g3 x,v3 x]
      constructor<;>(rintro(h |h |h)<;>simp[h])
     ·rw[List.nodup_append]
      refine⟨g4,?_,λx hx y hy=>?_⟩
      ·rw[List.nodup_append]
       exact⟨v4,by simp,λx hx y hy=>by
        simp at hy;subst hy
        intro e;subst e
        exact n2'.1 ((v3 _).1 hx)⟩
      ·intro e;subst e
       refine n3 x (by simp[(g3 x).1 hx]) ?_
       rcases List.mem_append.1 hy with hy |hy
       ·exact List.mem_cons_of_mem _ ((v3 x).1 hy)
       ·simp at hy;subst hy;exact List.mem_cons_self ..
     ·intro a b x hx
      have hx:(i::l)++(t::l2)=a++x::b:=by simpa using hx
      rcases List.append_eq_append_iff.1 hx with⟨a',ha,hb⟩ | ⟨c',ha,hb⟩
      ·rcases v5 a' b x hb with e | ⟨y,hy,hxy⟩
       ·subst e
        simp at hb
        exact .inr ⟨i,by rw[ha];simp,by rw[<-hb.1];exact ht.2⟩
       ·exact .inr ⟨y,by rw[ha];simp[hy],hxy⟩
      ·cases c' with
       |nil=>
        simp at hb ha
        exact .inr ⟨i,by rw[<-ha];simp,by rw[hb.1];exact ht.2⟩
       |cons z c'=>
        simp at hb
        rw[<-hb.1]at ha
        exact g5 a c' x ha
     ·intro a b x hx
      rcases List.append_eq_append_iff.1 hx with⟨a',ha,hb⟩ | ⟨c',ha,hb⟩
      ·rcases v6 a' b x hb with e |h
       ·subst e
        have:x=t:=by have:=congrArg List.getLast? hb;simpa using this.symm
        subst this
        exact .inr ht.2
       ·exact .inl h
      ·cases c' with
       |nil=>
        simp at hb
        rcases v6 [] b x (by simp[hb]) with e |h
        ·subst e
         have:x=t:=by
          have:=congrArg List.getLast? hb
          simpa using this
         subst this
         exact .inr ht.2
        ·exact .inl h
       |cons z c'=>
        simp at hb
        obtain⟨rfl,rfl⟩:=hb
        rcases g6 a c' x ha with⟨y,hy,hxy⟩ |h
        ·exact .inl ⟨y,by simp[hy],hxy⟩
        ·exact .inr h
  have hb:(s.1++[i]).Nodup:=by
   rw[List.nodup_append]
   exact⟨hnd,by simp,λx hx y hy=>by simp at hy;subst hy;intro e;subst e;exact hni hx⟩
  rw[zdA]
  obtain⟨l,m,g1,g2,g3,g4,g5,g6⟩:=all (nx.getD i []) (s.1++[i],s.2) (λt ht=>⟨hnx i t ht,ht⟩) hb (λx hx=>by
   rcases List.mem_append.1 hx with h |h
   ·exact hlt x h
   ·simp at h;subst h;exact hi) (by simp;omega)
   ⟨[],[],by simp,by simp,by simp,by simp,λa b x hx=>by
    cases a with
    |nil=>exact .inl rfl
    |cons _ a=>simp at hx,λa b x hx=>by simp at hx⟩
  refine⟨l,m,g1,by rw[g2];simp,g3,g4,g5,λa b x hx=>?_⟩
  rcases List.append_eq_append_iff.1 hx with⟨a',ha,hb⟩ | ⟨c',ha,hb⟩
  ·cases a' with
   |nil=>simp at hb;exact .inl hb.2
   |cons z a'=>simp at hb
  ·cases c' with
   |nil=>simp at hb;exact .inl hb.2
   |cons z c'=>
    simp at hb
    obtain⟨rfl,rfl⟩:=hb
    rcases g6 a c' x ha with⟨y,hy,hxy⟩ |h
    ·exact .inr ⟨y,by simp[hy],hxy⟩
    ·exact .inr ⟨i,by simp,h⟩
end Go.Gr
namespace Go.Proofs
open Go.Gk Go.RowKit Go.Gr
structure zte (nx:List (List Nat)):Prop where
 head:∃l,yB nx=0::l
 par:∀k (hk:k<(yB nx).length),0<k->∃j,∃hj:j<k,(yB nx)[k]∈nx.getD ((yB nx)[j]'(by omega)) []
 ohead:∃l,zp nx=0::l
 mem:∀x,x∈zp nx↔x∈yB nx
 nodup:(zp nx).Nodup
 opar:∀k (hk:k<(zp nx).length),0<k->∃j,∃hj:j<k,(zp nx)[k]∈nx.getD ((zp nx)[j]'(by omega)) []
 closed:∀x∈yB nx,∀t∈nx.getD x [],t∈yB nx
theorem _root_.Go.Proofs.NxOk.walkOk{nx:List (List Nat)}(h:NxOk nx):zte nx:=by
 obtain⟨l,m,g1,g2,g3,g4,g5,g6⟩:=zrt h.rows nx.length 0 ([],[]) h.pos (by simp) (by simp) (by simp) (by simp)
 have hw:yB nx=0::l:=by simpa[yB] using g1
 have ho:zp nx=0::m.reverse:=by simp[zp,g2]
 have hnd:=h.came.nodup
 have hw':(0::l).Nodup:=by rw[<-hw];exact hnd
 have hmem:∀x,x∈zp nx↔x∈yB nx:=λx=>by rw[ho,hw];simp[g3 x]
 refine⟨⟨l,hw⟩,λk hk h0=>?_,⟨_,ho⟩,hmem,?_,λk hk h0=>?_,λx hx t ht=>?_⟩
 ·have hk':k<(0::l).length:=by rw[<-hw];exact hk
  have e:(0::l)=(0::l).take k++(0::l)[k]::(0::l).drop (k+1):=by rw[<-List.drop_eq_getElem_cons hk',List.take_append_drop]
  rcases g5 _ _ _ e with e | ⟨y,hy,hxy⟩
  ·have:=congrArg List.length e;simp at this;omega
  ·obtain⟨j,hj,rfl⟩:=List.mem_iff_getElem.1 hy
   have hjk:j<k:=by rw[List.length_take]at hj;omega
   refine⟨j,hjk,?_⟩
   rw[List.getElem_take]at hxy
   simp only[hw]
   exact hxy
 ·rw[ho,List.nodup_cons]
  refine⟨λhx=>?_,List.pairwise_reverse.2 (g4.imp λh=>h.symm)⟩
  have:=(g3 0).1 (List.mem_reverse.1 hx)
  exact(List.nodup_cons.1 hw').1 this
 ·have ho':zp nx=(m++[0]).reverse:=by simp[ho]
  obtain⟨q,hq⟩:∃q,q=m++[0]:=⟨_,rfl⟩
  rw[<-hq]at g6 ho'
  have hl:(zp nx).length=q.length:=by rw[ho'];simp
  have hk2:q.length-1-k<q.length:=by omega
  have e:q=q.take (q.length-1-k)++q[q.length-1-k]::q.drop (q.length-1-k+1):=by rw[<-List.drop_eq_getElem_cons hk2,List.take_append_drop]
  have ek:∀j (hj:j<(zp nx).length),(zp nx)[j]=q[q.length-1-j]'(by omega):=λj hj=>by simp only[ho',List.getElem_reverse]
  rcases g6 _ _ _ e with e | ⟨y,hy,hxy⟩
  ·have:=congrArg List.length e;simp at this;omega
  ·obtain⟨j,hj,rfl⟩:=List.mem_iff_getElem.1 hy
   rw[List.length_drop]at hj
   rw[List.getElem_drop]at hxy
   refine⟨q.length-1-(q.length-1-k+1+j),by omega,?_⟩
   rw[ek k hk,ek _ (by omega)]
   have e9:q.length-1-(q.length-1-(q.length-1-k+1+j))=q.length-1-k+1+j:=by omega
   simp only[e9]
   exact hxy
 ·exact(zdC h.rows h.pos t).2 (.step ((zdC h.rows h.pos x).1 hx) ht (by omega))
end Go.Proofs
