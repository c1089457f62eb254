/- NestModules, part 3; made small by a program. -/
import Derived.Test.YtogccbelnfgfhaaGreatProg
import Derived.Laws.CopyRow
import Derived.MapKept
import Derived.Test.YtogccbelnfgfhaaGreatPNestModules2
namespace Go.Proofs
open Go.Gk
set_option linter.unusedVariables false
set_option maxRecDepth 100000
def zmx:Ann:=(.q (.seq none (.q (.cond (.q .nil) .nil)) (.q (.seq (some ⟨[0],[(5,(.b .ptr))]⟩) .nil (.q (.seq none (.q (.one (.loop ⟨[5,6,28,29],[(30,(.b (.int .i64)))]⟩ (.q (.seq none .c (.seq none (.one (.q .nil)) .nil)))))) (.q (.seq none (.q (.one (.loop ⟨[5,46,47],[(48,(.b (.int .i64)))]⟩ (.q (.seq none .c (.seq (some ⟨[5,46,47,48],[]⟩) (.one (.q (.q (.q .c)))) .nil)))))) (.q .nil)))))))))
def zjI(p0:Option Addr)(R:VWP)(w:World):Prop:=ifB (Option.isNone p0) (R (.tuple #[.pointer none,.int .i64 1]) w) (cR 38 #[.pointer p0] w λv1 w1=>∃x2:Int,v1=(.int .i64 x2)/\zk (S:=(Option Addr)×Unit) (λm3=>(Nw (w1.drew.alloc (.cells #[.int .i64 (-1:Int)] 3)) λw2=>(cR 114 #[.slice (some (blk w1.drew.heap.size)) 1 1,.int .i64 x2] w2 λv5 w3=>∃x6:Sl,v5=(.slice x6.a x6.l x6.c)/\(Nw (w3.alloc (.cells #[.int .i64 (-1:Int)] 3)) λw4=>(cR 114 #[.slice (some (blk w3.heap.size)) 1 1,.int .i64 x2] w4 λv7 w5=>∃x8:Sl,v7=(.slice x8.a x8.l x8.c)/\(0<=x2/\x2<=x2/\8*x2<=281474976710656/\x2<=9223372036854775807)/\Nw (w5.alloc (.cells (madeCells #[.int .i64 0] (x2.toNat *1)) 3)) λw6=>Nw (w6.alloc (.cells #[.pointer p0,.slice x6.a x6.l x6.c,.slice x8.a x8.l x8.c,.slice (some (blk w5.heap.size)) x2.toNat x2.toNat] 245)) λw7=>m3 ((some (blk w6.heap.size)),()) w7)/\(0<=x2/\x2<=x2/\8*x2<=281474976710656/\x2<=9223372036854775807)/\Nw (w4.alloc (.cells (madeCells #[.int .i64 0] (x2.toNat *1)) 3)) λw8=>cR 114 #[.slice (some (blk w3.heap.size)) 1 1,.int .i64 x2] w8 λv9 w9=>∃x10:Sl,v9=(.slice x10.a x10.l x10.c)/\Nw (w9.alloc (.cells #[.pointer p0,.slice x6.a x6.l x6.c,.slice x10.a x10.l x10.c,.slice (some (blk w4.heap.size)) x2.toNat x2.toNat] 245)) λw10=>m3 ((some (blk w9.heap.size)),()) w10)/\(0<=x2/\x2<=x2/\8*x2<=281474976710656/\x2<=9223372036854775807)/\Nw (w3.alloc (.cells (madeCells #[.int .i64 0] (x2.toNat *1)) 3)) λw11=>Nw (w11.alloc (.cells #[.int .i64 (-1:Int)] 3)) λw12=>cR 114 #[.slice (some (blk w11.heap.size)) 1 1,.int .i64 x2] w12 λv11 w13=>∃x12:Sl,v11=(.slice x12.a x12.l x12.c)/\Nw (w13.alloc (.cells #[.pointer p0,.slice x6.a x6.l x6.c,.slice x12.a x12.l x12.c,.slice (some (blk w3.heap.size)) x2.toNat x2.toNat] 245)) λw14=>m3 ((some (blk w13.heap.size)),()) w14)/\(Nw (w2.alloc (.cells #[.int .i64 (-1:Int)] 3)) λw15=>(cR 114 #[.slice (some (blk w1.drew.heap.size)) 1 1,.int .i64 x2] w15 λv13 w16=>∃x14:Sl,v13=(.slice x14.a x14.l x14.c)/\(cR 114 #[.slice (some (blk w2.heap.size)) 1 1,.int .i64 x2] w16 λv15 w17=>∃x16:Sl,v15=(.slice x16.a x16.l x16.c)/\(0<=x2/\x2<=x2/\8*x2<=281474976710656/\x2<=9223372036854775807)/\Nw (w17.alloc (.cells (madeCells #[.int .i64 0] (x2.toNat *1)) 3)) λw18=>Nw (w18.alloc (.cells #[.pointer p0,.slice x14.a x14.l x14.c,.slice x16.a x16.l x16.c,.slice (some (blk w17.heap.size)) x2.toNat x2.toNat] 245)) λw19=>m3 ((some (blk w18.heap.size)),()) w19)/\(0<=x2/\x2<=x2/\8*x2<=281474976710656/\x2<=9223372036854775807)/\Nw (w16.alloc (.cells (madeCells #[.int .i64 0] (x2.toNat *1)) 3)) λw20=>cR 114 #[.slice (some (blk w2.heap.size)) 1 1,.int .i64 x2] w20 λv17 w21=>∃x18:Sl,v17=(.slice x18.a x18.l x18.c)/\Nw (w21.alloc (.cells #[.pointer p0,.slice x14.a x14.l x14.c,.slice x18.a x18.l x18.c,.slice (some (blk w16.heap.size)) x2.toNat x2.toNat] 245)) λw22=>m3 ((some (blk w21.heap.size)),()) w22)/\(0<=x2/\x2<=x2/\8*x2<=281474976710656/\x2<=9223372036854775807)/\Nw (w15.alloc (.cells (madeCells #[.int .i64 0] (x2.toNat *1)) 3)) λw23=>cR 114 #[.slice (some (blk w1.drew.heap.size)) 1 1,.int .i64 x2] w23 λv19 w24=>∃x20:Sl,v19=(.slice x20.a x20.l x20.c)/\cR 114 #[.slice (some (blk w2.heap.size)) 1 1,.int .i64 x2] w24 λv21 w25=>∃x22:Sl,v21=(.slice x22.a x22.l x22.c)/\Nw (w25.alloc (.cells #[.pointer p0,.slice x20.a x20.l x20.c,.slice x22.a x22.l x22.c,.slice (some (blk w15.heap.size)) x2.toNat x2.toNat] 245)) λw26=>m3 ((some (blk w25.heap.size)),()) w26)/\(0<=x2/\x2<=x2/\8*x2<=281474976710656/\x2<=9223372036854775807)/\Nw (w2.alloc (.cells (madeCells #[.int .i64 0] (x2.toNat *1)) 3)) λw27=>(cR 114 #[.slice (some (blk w1.drew.heap.size)) 1 1,.int .i64 x2] w27 λv23 w28=>∃x24:Sl,v23=(.slice x24.a x24.l x24.c)/\Nw (w28.alloc (.cells #[.int .i64 (-1:Int)] 3)) λw29=>cR 114 #[.slice (some (blk w28.heap.size)) 1 1,.int .i64 x2] w29 λv25 w30=>∃x26:Sl,v25=(.slice x26.a x26.l x26.c)/\Nw (w30.alloc (.cells #[.pointer p0,.slice x24.a x24.l x24.c,.slice x26.a x26.l x26.c,.slice (some (blk w2.heap.size)) x2.toNat x2.toNat] 245)) λw31=>m3 ((some (blk w30.heap.size)),()) w31)/\Nw (w27.alloc (.cells #[.int .i64 (-1:Int)] 3)) λw32=>cR 114 #[.slice (some (blk w1.drew.heap.size)) 1 1,.int .i64 x2] w32 λv27 w33=>∃x28:Sl,v27=(.slice x28.a x28.l x28.c)/\cR 114 #[.slice (some (blk w27.heap.size)) 1 1,.int .i64 x2] w33 λv29 w34=>∃x30:Sl,v29=(.slice x30.a x30.l x30.c)/\Nw (w34.alloc (.cells #[.pointer p0,.slice x28.a x28.l x28.c,.slice x30.a x30.l x30.c,.slice (some (blk w2.heap.size)) x2.toNat x2.toNat] 245)) λw35=>m3 ((some (blk w34.heap.size)),()) w35)/\(Nw (w1.drew.alloc (.cells #[.int .i64 (-1:Int)] 3)) λw36=>(Nw (w36.alloc (.cells #[.int .i64 (-1:Int)] 3)) λw37=>(cR 114 #[.slice (some (blk w36.heap.size)) 1 1,.int .i64 x2] w37 λv31 w38=>∃x32:Sl,v31=(.slice x32.a x32.l x32.c)/\(cR 114 #[.slice (some (blk w1.drew.heap.size)) 1 1,.int .i64 x2] w38 λv33 w39=>∃x34:Sl,v33=(.slice x34.a x34.l x34.c)/\(0<=x2/\x2<=x2/\8*x2<=281474976710656/\x2<=9223372036854775807)/\Nw (w39.alloc (.cells (madeCells #[.int .i64 0] (x2.toNat *1)) 3)) λw40=>Nw (w40.alloc (.cells #[.pointer p0,.slice x32.a x32.l x32.c,.slice x34.a x34.l x34.c,.slice (some (blk w39.heap.size)) x2.toNat x2.toNat] 245)) λw41=>m3 ((some (blk w40.heap.size)),()) w41)/\(0<=x2/\x2<=x2/\8*x2<=281474976710656/\x2<=9223372036854775807)/\Nw (w38.alloc (.cells (madeCells #[.int .i64 0] (x2.toNat *1)) 3)) λw42=>cR 114 #[.slice (some (blk w1.drew.heap.size)) 1 1,.int .i64 x2] w42 λv35 w43=>∃x36:Sl,v35=(.slice x36.a x36.l x36.c)/\Nw (w43.alloc (.cells #[.pointer p0,.slice x32.a x32.l x32.c,.slice x36.a x36.l x36.c,.slice (some (blk w38.heap.size)) x2.toNat x2.toNat] 245)) λw44=>m3 ((some (blk w43.heap.size)),()) w44)/\(0<=x2/\x2<=x2/\8*x2<=281474976710656/\x2<=9223372036854775807)/\Nw (w37.alloc (.cells (madeCells #[.int .i64 0] (x2.toNat *1)) 3)) λw45=>cR 114 #[.slice (some (blk w36.heap.size)) 1 1,.int .i64 x2] w45 λv37 w46=>∃x38:Sl,v37=(.slice x38.a x38.l x38.c)/\cR 114 #[.slice (some (blk w1.drew.heap.size)) 1 1,.int .i64 x2] w46 λv39 w47=>∃x40:Sl,v39=(.slice x40.a x40.l x40.c)/\Nw (w47.alloc (.cells #[.pointer p0,.slice x38.a x38.l x38.c,.slice x40.a x40.l x40.c,.slice (some (blk w37.heap.size)) x2.toNat x2.toNat] 245)) λw48=>m3 ((some (blk w47.heap.size)),()) w48)/\(0<=x2/\x2<=x2/\8*x2<=281474976710656/\x2<=9223372036854775807)/\Nw (w36.alloc (.cells (madeCells #[.int .i64 0] (x2.toNat *1)) 3)) λw49=>Nw (w49.alloc (.cells #[.int .i64 (-1:Int)] 3)) λw50=>cR 114 #[.slice (some (blk w49.heap.size)) 1 1,.int .i64 x2] w50 λv41 w51=>∃x42:Sl,v41=(.slice x42.a x42.l x42.c)/\cR 114 #[.slice (some (blk w1.drew.heap.size)) 1 1,.int .i64 x2] w51 λv43 w52=>∃x44:Sl,v43=(.slice x44.a x44.l x44.c)/\Nw (w52.alloc (.cells #[.pointer p0,.slice x42.a x42.l x42.c,.slice x44.a x44.l x44.c,.slice (some (blk w36.heap.size)) x2.toNat x2.toNat] 245)) λw53=>m3 ((some (blk w52.heap.size)),()) w53)/\(0<=x2/\x2<=x2/\8*x2<=281474976710656/\x2<=9223372036854775807)/\Nw (w1.drew.alloc (.cells (madeCells #[.int .i64 0] (x2.toNat *1)) 3)) λw54=>(Nw (w54.alloc (.cells #[.int .i64 (-1:Int)] 3)) λw55=>(cR 114 #[.slice (some (blk w54.heap.size)) 1 1,.int .i64 x2] w55 λv45 w56=>∃x46:Sl,v45=(.slice x46.a x46.l x46.c)/\Nw (w56.alloc (.cells #[.int .i64 (-1:Int)] 3)) λw57=>cR 114 #[.slice (some (blk w56.heap.size)) 1 1,.int .i64 x2] w57 λv47 w58=>∃x48:Sl,v47=(.slice x48.a x48.l x48.c)/\Nw (w58.alloc (.cells #[.pointer p0,.slice x46.a x46.l x46.c,.slice x48.a x48.l x48.c,.slice (some (blk w1.drew.heap.size)) x2.toNat x2.toNat] 245)) λw59=>m3 ((some (blk w58.heap.size)),()) w59)/\Nw (w55.alloc (.cells #[.int .i64 (-1:Int)] 3)) λw60=>cR 114 #[.slice (some (blk w54.heap.size)) 1 1,.int .i64 x2] w60 λv49 w61=>∃x50:Sl,v49=(.slice x50.a x50.l x50.c)/\cR 114 #[.slice (some (blk w55.heap.size)) 1 1,.int .i64 x2] w61 λv51 w62=>∃x52:Sl,v51=(.slice x52.a x52.l x52.c)/\Nw (w62.alloc (.cells #[.pointer p0,.slice x50.a x50.l x50.c,.slice x52.a x52.l x52.c,.slice (some (blk w1.drew.heap.size)) x2.toNat x2.toNat] 245)) λw63=>m3 ((some (blk w62.heap.size)),()) w63)/\Nw (w54.alloc (.cells #[.int .i64 (-1:Int)] 3)) λw64=>Nw (w64.alloc (.cells #[.int .i64 (-1:Int)] 3)) λw65=>cR 114 #[.slice (some (blk w64.heap.size)) 1 1,.int .i64 x2] w65 λv53 w66=>∃x54:Sl,v53=(.slice x54.a x54.l x54.c)/\cR 114 #[.slice (some (blk w54.heap.size)) 1 1,.int .i64 x2] w66 λv55 w67=>∃x56:Sl,v55=(.slice x56.a x56.l x56.c)/\Nw (w67.alloc (.cells #[.pointer p0,.slice x54.a x54.l x54.c,.slice x56.a x56.l x56.c,.slice (some (blk w1.drew.heap.size)) x2.toNat x2.toNat] 245)) λw68=>m3 ((some (blk w67.heap.size)),()) w68) (λs4 w69=>cR 42 #[.pointer p0] w69 λv57 w70=>∃x58:Sl,v57=(.slice x58.a x58.l x58.c)/\zl (S:=Int×Unit) (λs59 w71 n60=>ifB (decide (s59.1<(x58.l:Int))) ((0<=s59.1/\s59.1<(x58.l:Int))/\zc x58.a λa61=>ldI w71 (a61.add s59.1.toNat) .i64 λx62=>zc s4.1 λa63=>ldS w71 (a63.add 3) λx64=>(0<=x62/\x62<(x64.l:Int))/\zc x64.a λa65=>Wr w71 (a65.add x62.toNat)/\Nw (w71.setCell (a65.add x62.toNat) (.int .i64 s59.1)) λw72=>n60 ((IntKind.i64.wrap (s59.1+(1:Int))),()) w72) (cR 188 #[.pointer s4.1,.slice x58.a x58.l x58.c] w71 λv66 w73=>v66=(.tuple #[])/\zl (S:=Int×Unit) (λs67 w74 n68=>ifB (decide (s67.1<(x58.l:Int))) (zk (S:=Unit) (λm69=>(0<=s67.1/\s67.1<(x58.l:Int))/\zc x58.a λa71=>ldI w74 (a71.add s67.1.toNat) .i64 λx72=>zc s4.1 λa73=>ldS w74 (a73.add 2) λx74=>(0<=x72/\x72<(x74.l:Int))/\zc x74.a λa75=>Wr w74 (a75.add x72.toNat)/\Nw (w74.setCell (a75.add x72.toNat) (.int .i64 0)) λw75=>zc s4.1 λa76=>ldS w75 (a76.add 1) λx77=>(0<=x72/\x72<(x77.l:Int))/\zc x77.a λa78=>ldI w75 (a78.add x72.toNat) .i64 λx79=>ifB (x79 !=(-1:Int)) (zc s4.1 λa80=>ldS w75.drew (a80.add 2) λx81=>zc s4.1 λa82=>ldS w75.drew (a82.add 2) λx83=>zc s4.1 λa84=>ldS w75.drew (a84.add 1) λx85=>(0<=x72/\x72<(x85.l:Int))/\zc x85.a λa86=>ldI w75.drew (a86.add x72.toNat) .i64 λx87=>(0<=x87/\x87<(x83.l:Int))/\zc x83.a λa88=>ldI w75.drew (a88.add x87.toNat) .i64 λx89=>(0<=x72/\x72<(x81.l:Int))/\zc x81.a λa90=>Wr w75.drew (a90.add x72.toNat)/\Nw (w75.drew.setCell (a90.add x72.toNat) (.int .i64 (IntKind.i64.wrap (x89+(1:Int))))) λw76=>m69 () w76) (m69 () w75)) (λs70 w77=>n68 ((IntKind.i64.wrap (s67.1+(1:Int))),()) w77)) (R (.tuple #[.pointer s4.1,.int .i64 0]) w74)) (0,()) w73)) (0,()) w70))
theorem zmf(p0)(R)(w)(h:zjI p0 R w):Calls Tryz.prog 149 #[.pointer p0] w (Ret R):=lwC zmx Tryz.func149 (by kernel_rfl) (by kernel_rfl) h
def zeh:Ann:=(.one (.q (.one (.loop ⟨[0,1],[]⟩ (.one (.seq none (.q (.one (.loop ⟨[0,1,9,10],[(11,(.b (.int .i64)))]⟩ (.q (.seq none .c (.seq (some ⟨[0,1,9,10,11],[]⟩) (.one (.q (.seq none (.q .c) (.q (.seq none (.q (.one (.loop ⟨[0,1,5,9,10,11,22,23],[(6,(.b (.int .i64))),(24,(.b (.int .i64)))]⟩ (.q (.seq none .c (.seq (some ⟨[0,1,5,9,10,11,22,23,24],[(6,(.b (.int .i64)))]⟩) (.one (.q (.seq (some ⟨[0,1,5,6,8,9,10,11,22,23,24],[]⟩) (.q .c) (.q .c)))) .nil)))))) (.q (.cond (.q .nil) .nil))))))) .nil)))))) .nil))))))
def YL(p0:Option Addr)(p1:Sl)(R:VWP)(w:World):Prop:=zl (S:=Unit) (λs1 w1 n2=>zl (S:=Int×Unit) (λs3 w2 n4=>ifB (decide (s3.1<(p1.l:Int))) (zk (S:=Unit) (λm5=>(0<=s3.1/\s3.1<(p1.l:Int))/\zc p1.a λa7=>ldI w2 (a7.add s3.1.toNat) .i64 λx8=>ifB (x8==0) (m5 () w2) (zc p0 λa9=>ldP w2 a9 λx10=>cR 40 #[.pointer x10,.int .i64 x8] w2 λv11 w3=>∃x12:Sl,v11=(.slice x12.a x12.l x12.c)/\zl (S:=Int×Int×Unit) (λs13 w4 n14=>ifB (decide (s13.2.1<(x12.l:Int))) (zk (S:=Int×Unit) (λm15=>(0<=s13.2.1/\s13.2.1<(x12.l:Int))/\zc x12.a λa17=>ldI w4 (a17.add s13.2.1.toNat) .i64 λx18=>zk (S:=Unit) (λm19=>ifB (x18 !=0) (zc p0 λa21=>ldS w4 (a21.add 1) λx22=>(0<=x18/\x18<(x22.l:Int))/\zc x22.a λa23=>ldI w4 (a23.add x18.toNat) .i64 λx24=>ifB (x24==(-1:Int)) (m15 (s13.1,()) w4) (m19 () w4)) (m19 () w4)) (λs20 w5=>ifB (s13.1==(-1:Int)) (m15 (x18,()) w5) (cR 235 #[.pointer p0,.int .i64 s13.1,.int .i64 x18] w5 λv25 w6=>∃x26:Int,v25=(.int .i64 x26)/\m15 (x26,()) w6))) (λs16 w7=>n14 (s16.1,(IntKind.i64.wrap (s13.2.1+(1:Int))),()) w7)) (zc p0 λa27=>ldS w4 (a27.add 1) λx28=>(0<=x8/\x8<(x28.l:Int))/\zc x28.a λa29=>ldI w4 (a29.add x8.toNat) .i64 λx30=>ifB (s13.1 !=x30) (zc p0 λa31=>ldS w4 (a31.add 1) λx32=>(0<=x8/\x8<(x32.l:Int))/\zc x32.a λa33=>Wr w4 (a33.add x8.toNat)/\Nw (w4.setCell (a33.add x8.toNat) (.int .i64 s13.1)) λw8=>n2 () w8) (m5 () w4))) ((-1:Int),0,()) w3)) (λs6 w9=>n4 ((IntKind.i64.wrap (s3.1+(1:Int))),()) w9)) (R (.tuple #[]) w2)) (0,()) w1) () w
theorem zgx(p0)(p1)(R)(w)(h:YL p0 p1 R w):Calls Tryz.prog 188 #[.pointer p0,.slice p1.a p1.l p1.c] w (Ret R):=lwC zeh Tryz.func188 (by kernel_rfl) (by kernel_rfl) h
def zhJ:Ann:=(.q (.q .nil))
def zhA(p0:Option Addr)(p1:Int)(R:VWP)(w:World):Prop:=Nw (w.alloc (.cells #[.pointer p0] 163)) λw1=>Nw (w1.alloc (.cells #[.int .i64 p1] 3)) λw2=>R (.func (.func 236) #[] #[.pointer (some (blk w.heap.size)),.pointer (some (blk w1.heap.size))]) w2
theorem zjc(p0)(p1)(R)(w)(h:zhA p0 p1 R w):Calls Tryz.prog 189 #[.pointer p0,.int .i64 p1] w (Ret R):=lwC zhJ Tryz.func189 (by kernel_rfl) (by kernel_rfl) h
def zgj:Ann:=(.q (.seq none (.one (.loop ⟨[0],[(1,(.b (.int .i64))),(2,(.b (.int .i64)))]⟩ (.seq none (.q .c) (.one (.seq (some ⟨[0],[(1,(.b (.int .i64))),(2,(.b (.int .i64)))]⟩) (.q .c) .nil))))) (.q .nil)))
def zgd(p0:Option Addr)(p1:Int)(p2:Int)(R:VWP)(w:World):Prop:=zl (S:=Int×Int×Unit) (λs1 w1 n2=>ifB (s1.1 !=s1.2.1) (zk (S:=Int×Int×Unit) (λm3=>zc p0 λa5=>ldS w1.drew (a5.add 3) λx6=>(0<=s1.1/\s1.1<(x6.l:Int))/\zc x6.a λa7=>ldI w1.drew (a7.add s1.1.toNat) .i64 λx8=>zc p0 λa9=>ldS w1.drew (a9.add 3) λx10=>(0<=s1.2.1/\s1.2.1<(x10.l:Int))/\zc x10.a λa11=>ldI w1.drew (a11.add s1.2.1.toNat) .i64 λx12=>ifB (decide (x8<x12)) (m3 (s1.2.1,s1.1,()) w1.drew) (m3 (s1.1,s1.2.1,()) w1.drew)) (λs4 w2=>zc p0 λa13=>ldS w2 (a13.add 1) λx14=>(0<=s4.1/\s4.1<(x14.l:Int))/\zc x14.a λa15=>ldI w2 (a15.add s4.1.toNat) .i64 λx16=>n2 (x16,s4.2.1,()) w2)) (R (.int .i64 s1.1) w1)) (p1,p2,()) w
theorem zh3(p0)(p1)(p2)(R)(w)(h:zgd p0 p1 p2 R w):Calls Tryz.prog 235 #[.pointer p0,.int .i64 p1,.int .i64 p2] w (Ret R):=lwC zgj Tryz.func235 (by kernel_rfl) (by kernel_rfl) h
def zgi:Ann:=(.seq none (.q .c) (.q (.one (.loop ⟨[0,1],[(4,(.b (.int .i64)))]⟩ (.seq none (.q .c) (.seq none (.one (.q .c)) .nil))))))
def zgc(p0:Value)(c0:Addr)(c1:Addr)(R:VWP)(w:World):Prop:=ldP w c0 λx1=>ldI w c1 .i64 λx2=>cR 237 #[.pointer x1,.int .i64 x2] w λv3 w1=>∃x4:Bool,v3=(.bool x4)/\ifB (!x4) (R (.tuple #[]) w1) (ldI w1 c1 .i64 λx5=>zl (S:=Int×Unit) (λs6 w2 n7=>ifB (s6.1 !=(-1:Int)) (zV Tryz.prog Tryz.fs p0 [(.int .i64 s6.1)] w2 λv8 w3=>∃x9:Bool,v8=(.bool x9)/\ifB (!x9) (R (.tuple #[]) w3) (ldP w3 c0 λx10=>zc x10 λa11=>ldS w3 (a11.add 1) λx12=>(0<=s6.1/\s6.1<(x12.l:Int))/\zc x12.a λa13=>ldI w3 (a13.add s6.1.toNat) .i64 λx14=>n7 (x14,()) w3)) (R (.tuple #[]) w2)) (x5,()) w1)
theorem zh2(p0)(c0)(c1)(R)(w)(h:zgc p0 c0 c1 R w):Calls Tryz.prog 236 #[p0,.pointer (some c0),.pointer (some c1)] w (Ret R):=lwC zgi Tryz.func236 (by kernel_rfl) (by kernel_rfl) h
def zdk:Ann:=(.q (.q .nil))
def zcX(p0:Option Addr)(p1:Int)(R:VWP)(w:World):Prop:=ifB (!(Option.isNone p0)) (ifB (decide (p1≥(0:Int))) (zc p0 λa1=>ldS w (a1.add 2) λx2=>ifB (decide (p1<(x2.l:Int))) (zc p0 λa3=>ldS w (a3.add 2) λx4=>(0<=p1/\p1<(x4.l:Int))/\zc x4.a λa5=>ldI w (a5.add p1.toNat) .i64 λx6=>R (.bool (x6 !=(-1:Int))) w) (R (.bool false) w)) (R (.bool false) w)) (R (.bool false) w)
theorem zfA(p0)(p1)(R)(w)(h:zcX p0 p1 R w):Calls Tryz.prog 237 #[.pointer p0,.int .i64 p1] w (Ret R):=lwC zdk Tryz.func237 (by kernel_rfl) (by kernel_rfl) h
def zb4:Ann:=(.q (.seq none (.q (.one (.loop ⟨[],[(11,(.b (.int .i64)))]⟩ (.q (.one (.q (.cond (.q .nil) .nil))))))) (.q .nil)))
def Zy(p0:Option Addr)(p1:Int)(p2:Int)(R:VWP)(w:World):Prop:=Nw (w.alloc (.cells #[.int .i64 p1] 3)) λw1=>Nw (w1.alloc (.cells #[.bool false] 4)) λw2=>cR 189 #[.pointer p0,.int .i64 p2] w2 λv1 w3=>∃x2:Value,v1=x2/\zig Tryz.prog Tryz.fs x2 w3 (T:=Int×Unit) (λs3=>[(.int .i64 s3.1)]) (λmk4 l5 s3 w4 S6=>w4.heap[l5]? =some (mk4 .ready none)/\Nw (w4.putObj l5 (mk4 .busy none)) λw5=>ldI w5 (blk w.heap.size) .i64 λx8=>ifB (s3.1==x8) (Wr w5 (blk w1.heap.size)/\Nw (w5.setCell (blk w1.heap.size) (.bool true)) λw6=>w6.heap[l5]? =some (mk4 .busy none)/\S6 (.bool false) (w6.putObj l5 (mk4 .done (some .ret)))) (w5.heap[l5]? =some (mk4 .busy none)/\S6 (.bool true) (w5.putObj l5 (mk4 .ready none)))) (λmk4 l5 d7 w7=>(ym mk4 l5 .ready none w7 λw8=>Wr w8 (blk w1.heap.size)/\Nw (w8.setCell (blk w1.heap.size) (.bool false)) λw9=>Yp (d7::[]) w9 λw10=>ldB w10 (blk w1.heap.size) λx9=>R (.bool x9) w10)\/(ym mk4 l5 .done (some .ret) w7 λw11=>Yp (d7::[]) w11 λw12=>ldB w12 (blk w1.heap.size) λx10=>R (.bool x10) w12))
theorem zeu(p0:Option Addr)(p1:Int)(p2:Int)(R:VWP)(w:World)(h:Zy p0 p1 p2 R w):Calls Tryz.prog 238 #[.pointer p0,.int .i64 p1,.int .i64 p2] w (Ret R):=zhq (fs:=Tryz.fs) (an:=zb4) (args:=[(.pointer p0),(.int .i64 p1),(.int .i64 p2)]) Tryz.fsOK Tryz.mixed Tryz.func238 (by kernel_rfl) (by kernel_rfl) (Eq.mpr (by kernel_rfl:zmM Tryz.prog Tryz.fs Tryz.f238 zb4 [(.pointer p0),(.int .i64 p1),(.int .i64 p2)] w R=Zy p0 p1 p2 R w) h)
end Go.Proofs
namespace Go.Gk
theorem zl.countS{α:Type}{body:α×Int×Unit->World->(α×Int×Unit->World->Prop)->Prop}{w:World}{a0:α}(n:Nat)(hn:n<=9223372036854775807)(I:Nat->α->World->Prop)(h0:I 0 a0 w)
  (h:∀k a w,k<=n->I k a w->∀next:α×Int×Unit->World->Prop,(∀a' w',k<n->I (k+1) a' w'->next (a',IntKind.i64.wrap ((k:Int)+1),()) w')->body (a,(k:Int),()) w next):zl body (a0,(0:Int),()) w:=by
 refine zl.ghost (λj s w=>∃k:Nat,k<=n/\j=n-k/\∃a,s=(a,(k:Int),())/\I k a w) n ⟨0,Nat.zero_le _,rfl,a0,rfl,h0⟩ ?_
 rintro _ _ w ⟨k,hk,rfl,a,rfl,hI⟩ next hnext
 refine h k a w hk hI next λa' w' hlt hI'=>?_
 rw[zE (by omega)]
 exact hnext (n-(k+1)) _ _ (by omega) ⟨k+1,by omega,rfl,a',rfl,hI'⟩
end Go.Gk
namespace Go.Proofs
open Go.Gk Go.RowKit Go.Gr
theorem eII:zao Tryz.prog 48 26 1 24:=⟨by kernel_rfl,Tryz.t26,.slice none 0 0,by kernel_rfl,rfl,rfl,rfl,rfl⟩
theorem Yi{B0:Nat}{w0 w:World}{r:Sl}{l:List Nat}{x:Int}{y:Nat}(hx:x=(y:Int))(hb:Below B0 w0 w)(hB:B0<=w.heap.size)(ho:Own w 3 1 r (l.map iN))(hf:zw B0 r)(hl:l.length<1099511627776)
  {k:Sl->World->Prop} (hk:∀r' w',Below B0 w0 w'->B0<=w'.heap.size->Own w' 3 1 r' ((l++[y]).map iN)->zw B0 r'->k r' w') :
  Nw (w.alloc (.cells #[.int .i64 x] 3)) λw1=>zo Tryz.prog 26 (.slice r.a r.l r.c) (.slice (some (blk w.heap.size)) 1 1) w1 k:=by
 subst hx
 refine Nw.gen λw1 hw1=>?_
 have hB1:Blk w1 w.heap.size 3 [iN y]:=by rw[hw1];exact Blk.new w _ #[_]
 have ho1:Own w1 3 1 r (l.map iN):=by rw[hw1];exact ho.alloc _
 have hb1:Below B0 w0 w1:=by rw[hw1];exact hb.alloc hB _
 have hz1:w1.heap.size=w.heap.size+1:=by rw[hw1];simp
 have hl1:=yh ho1
 refine yY eInt ho1 rfl hB1 (by omega) (by omega) λr' w' hr hrl ⟨b,hrb,hbo,hg⟩=>?_
 have hbB:B0<=b:=by
  rcases hbo with hb |rfl
  ·exact hf _ hb
  ·omega
 refine hk r' w' (hb1.trans (zM hg hbB (by omega))) ?_ (by simpa using hr) (λa ha=>by rw[hrb]at ha;cases ha;exact hbB)
 have:=hg.size
 omega
def IsR(w:World)(rb:Nat)(nx:List (List Nat)):Prop:=∃s hs,Blk w rb 185 [s.val]/\IsNN w s hs nx
theorem IsR.below{w w':World}{rb:Nat}{nx:List (List Nat)}(h:IsR w rb nx)(hb:Below w.heap.size w w'):IsR w' rb nx:=
 let⟨s,hs,h1,h2⟩:=h
 ⟨s,hs,h1.below hb,h2.below hb⟩
set_option maxHeartbeats 1000000 in
theorem zlU{s:Sl}{hs:List Sl}{ll:List (List Int)}{w:World}{R:VWP}(h:IsII w s hs ll)(h8:∀l∈ll,8*l.length<=281474976710656)
  (h2:ll.length=0->R (.tuple #[.pointer none,.int .i64 2]) w)
  (h4:4096<ll.length->R (.tuple #[.pointer none,.int .i64 4]) w)
  (hbad:0<ll.length->ll.length<=4096->¬Good ll->∀w',Below w.heap.size w w'->R (.tuple #[.pointer none,.int .i64 141]) w')
  (hok:0<ll.length->ll.length<=4096->Good ll->∀w' rb,Below w.heap.size w w'->IsR w' rb (zO ll)->R (.tuple #[.pointer (some (blk rb)),.int .i64 0]) w') :
  cR 84 #[.slice s.a s.l s.c] w R:=by
 refine zb.of (zfM s R w ?_) λ_ _ h=>h
 have hsl:s.l=hs.length:=h.top.len
 have hhl:hs.length=ll.length:=h.len
 have hn:s.l=ll.length:=by omega
 unfold Yo
 rw[hn]
 refine zj (λhe=>h2 (by omega)) (λhne=>zi (λhgt=>h4 (by omega)) (λhle=>?_))
 have hn0:0<ll.length:=by omega
 have hn1:ll.length<=4096:=by omega
 refine Nw.gen λw1 hw1=>?_
 have hb1:Below w.heap.size w w1:=by rw[hw1];exact(Below.refl _ _).alloc (Nat.le_refl _) _
 have hg1:Blk w1 w.heap.size 185 [(⟨none,0,0⟩:Sl).val]:=by rw[hw1];exact Blk.new w _ #[_]
 have hz1:w1.heap.size=w.heap.size+1:=by rw[hw1];simp
 clear hw1
 have natlen:(z0 ll).length=ll.length:=by simp
 refine zl.count ll.length (by omega) (λi w'=>Below w.heap.size w w'/\w.heap.size<w'.heap.size/\(∃(r:Sl) (rs:List Sl),Blk w' w.heap.size 185 [r.val]/\Own w' 26 1 r (rs.map Sl.val)/\zw (w.heap.size+1) r/\rs.length=i/\
   ∀(j:Nat) (hj:j<rs.length),Own w' 3 1 rs[j] (((zO ll).getD j []).map iN))/\∀j,j<i->∀(hj:j<ll.length),∀x∈ll[j],0<=x/\x<(ll.length:Int))
  ⟨hb1,by omega,⟨⟨none,0,0⟩,[],hg1,Own.nil _ _ _,(λa ha=>by cases ha),rfl,λj hj=>by cases hj⟩,λj hj=>by omega⟩ ?_
 rintro i w2 hi ⟨hb2,hz2,⟨r,rs,hg2,hr2,hf2,hrs,hrows2⟩,hgood⟩ next hnext
 refine zi (λhlt=>?_) (λhge=>?_)
 ·have hlt:i<ll.length:=by dsimp only at hlt;omega
  have hrow:∀{w':World},Below w.heap.size w w'->IsI w' (hs[i]'(by omega)) ll[i]:=λhb=>(h.below hb).row i (by omega) hlt
  have hbw:∀{w':World},Below w2.heap.size w2 w'->Below w.heap.size w w':=λhb=>hb2.trans (hb.mono (by omega))
  have hrn:(hs[i]'(by omega)).l=(ll[i]).length:=(hrow hb2).len
  have h8i:=h8 _ (List.getElem_mem hlt)
  refine zl.countS (ll[i]).length (hrow hb2).bound (λk l w'=>Below w2.heap.size w2 w'/\w2.heap.size<=w'.heap.size/\Own w' 3 1 l ((Ze ((ll[i].take k).map Int.toNat)).map iN)/\zw w2.heap.size l/\∀j,j<k->∀(hj:j<(ll[i]).length),0<=ll[i][j]/\ll[i][j]<(ll.length:Int))
   ⟨Below.refl _ _,Nat.le_refl _,by simpa[Ze] using Own.nil _ _ _,(λa ha=>by cases ha),λj hj=>by omega⟩ ?_
  rintro k l w3 hk ⟨hb3,hz3,ho3,hf3,hgood3⟩ nxt hnxt
  refine znr (h.below (hbw hb3)).top hn (k:=i) (by omega) ?_
  refine zi (λhltk=>?_) (λhgek=>?_)
  ·have hltk:k<(ll[i]).length:=by dsimp only at hltk;omega
   refine zk.cut (λst w'=>Below w2.heap.size w2 w'/\w2.heap.size<=w'.heap.size/\Own w' 3 1 st.1 ((Ze ((ll[i].take (k+1)).map Int.toNat)).map iN)/\zw w2.heap.size st.1/\0<=ll[i][k]/\ll[i][k]<(ll.length:Int)) ?_
    λst w' hh=>hnxt st.1 w' hltk ⟨hh.1,hh.2.1,hh.2.2.1,hh.2.2.2.1,λj hj hjl=>by
     by_cases e:j=k
     ·subst e;exact hh.2.2.2.2
     ·exact hgood3 j (by omega) hjl⟩
   refine znr (h.below (hbw hb3)).top hn (k:=i) (by omega) ?_
   refine yv (hrow (hbw hb3)) hltk ?_
   have bad:¬(0<=ll[i][k]/\ll[i][k]<(ll.length:Int))->R (.tuple #[.pointer none,.int .i64 141]) w3:=λhx=>
    hbad hn0 hn1 (λhG=>hx (hG _ (List.getElem_mem hlt) _ (List.getElem_mem hltk))) w3 (hbw hb3)
   refine zk.cut (λ_ w'=>w'=w3/\0<=ll[i][k]/\ll[i][k]<(ll.length:Int)) (zi (λhx=>bad (by omega)) (λhx=>zi (λhx'=>bad (by omega)) (λhx'=>⟨rfl,by omega,by omega⟩))) ?_
   rintro _ wx ⟨ewx,hx0,hx1⟩
   subst wx
   obtain⟨x,hx⟩:=Int.eq_ofNat_of_zero_le hx0
   have hsnoc:Ze ((ll[i].take (k+1)).map Int.toNat)=YW (Ze ((ll[i].take k).map Int.toNat)) x:=by
    rw[List.take_succ_eq_append_getElem hltk,List.map_append,<-zii,hx];rfl
   rw[hsnoc,hx]
   refine zqq (IsS.toI ho3.isS) ⟨_,rfl,zy ?_⟩
   rw[zm2]
   refine zm (λhc=>?_) (λhc=>?_)
   ·refine⟨hb3,hz3,?_,hf3,by omega,by omega⟩
    unfold YW
    rw[if_pos hc];exact ho3
   ·have hd:(Ze ((ll[i].take k).map Int.toNat)).length<=ll.length:=zoe λy hy=>by
     obtain⟨z,hz,rfl⟩:=List.mem_map.1 hy
     obtain⟨j,hj,rfl⟩:=List.mem_iff_getElem.1 hz
     have hj':j<k/\j<(ll[i]).length:=by rw[List.length_take]at hj;omega
     have:=hgood3 j hj'.1 hj'.2
     rw[List.getElem_take]
     omega
    refine Yi rfl hb3 hz3 ho3 hf3 (by omega) λr' w' g1 g2 g3 g4=>⟨g1,g2,?_,g4,by omega,by omega⟩
    unfold YW
    rw[if_neg (by rw[hc];decide)];exact g3
  ·have hkk:k=(ll[i]).length:=by dsimp only at hgek;omega
   subst hkk
   rw[List.take_length]at ho3
   have hg3:=hg2.below hb3
   have hr3:=hr2.below hb3
   refine⟨r,hg3.cell0 rfl,Nw.gen λw4 hw4=>?_⟩
   have hb4:Below w3.heap.size w3 w4:=by rw[hw4];exact(Below.refl _ _).alloc (Nat.le_refl _) _
   have hB4:Blk w4 w3.heap.size 26 [l.val]:=by rw[hw4];exact Blk.new w3 _ #[_]
   have hz4:w4.heap.size=w3.heap.size+1:=by rw[hw4];simp
   have hr4:=hr3.below hb4
   have hrl:r.l=rs.length:=by have:=hr4.1;simp at this;omega
   refine yY eII hr4 rfl hB4 (by omega) (by omega) λr5 w5 hr5 hrl5 ⟨b,hrb,hbo,hgr⟩=>?_
   have hbB:w.heap.size+1<=b:=by
    rcases hbo with hb |rfl
    ·exact hf2 _ hb
    ·omega
   have hg5:Blk w5 w.heap.size 185 [r.val]:=(hg3.below hb4).of_block (hgr.block _ (hg3.below hb4).lt (λe=>by have:=Option.some.inj e;omega))
   have hbt:∀{sl:Sl} {xs:List Value},Own w4 3 1 sl xs->Own w5 3 1 sl xs:=λho=>ho.of_block λa ha=>hgr.block _ (ho.lt ha).2 (λe=>by
    have e:=Option.some.inj e
    obtain⟨c2,t2⟩:=ho.type ha
    rcases hbo with hb |hb
    ·obtain⟨c1,t1⟩:=hr4.type hb
     have e':(blk b).block=a.block:=Eq.symm e
     rw[e']at t1
     exact absurd (t1.type t2) (by decide)
    ·have:=(ho.lt ha).2;omega)
   refine⟨hg5.wr0 (by simp),Nw.gen λw6 hw6=>?_⟩
   have hg6:Blk w6 w.heap.size 185 [r5.val]:=by rw[hw6];exact hg5.set0 _
   have st6:∀{T:TypeId} {sl:Sl} {xs:List Value},T≠185->Own w5 T 1 sl xs->Own w6 T 1 sl xs:=λhT ho=>ho.of_block λa ha=>by
    rw[hw6]
    refine Below.heap_setCell _ _ _ _ λe=>hT ?_
    obtain⟨c2,t2⟩:=ho.type ha
    have e':a.block=w.heap.size:=e
    rw[e']at t2
    exact t2.type hg5
   have hb45:Below w.heap.size w w5:=(hbw (hb3.trans (hb4.mono hz3))).trans (zM hgr (by omega) (by omega))
   have hz5:w4.heap.size<=w5.heap.size:=hgr.size
   refine hnext w6 hlt ⟨by rw[hw6];exact hb45.setCell (Nat.le_refl _) _,by rw[hw6];simp[World.setCell];omega,⟨r5,rs++[l],hg6,by simpa using st6 (by decide) hr5,(λa ha=>by rw[hrb]at ha;cases ha;exact hbB),by simp[hrs],λj hj=>?_⟩,λj hj hjl x hx=>?_⟩
   ·by_cases e:j<rs.length
    ·rw[List.getElem_append_left e]
     exact st6 (by decide) (hbt (((hrows2 j e).below hb3).below hb4))
    ·have hj':j=rs.length:=by simp at hj;omega
     subst hj'
     rw[List.getElem_append_right (Nat.le_refl _)]
     simp only[Nat.sub_self,List.getElem_cons_zero]
     rw[show(zO ll).getD rs.length []=Ze (ll[i].map Int.toNat) by rw[hrs];exact zij hlt]
     exact st6 (by decide) (hbt (ho3.below hb4))
   ·by_cases e:j=i
    ·subst e
     obtain⟨m,hm,rfl⟩:=List.mem_iff_getElem.1 hx
     exact hgood3 m hm hm
    ·exact hgood j (by omega) hjl x hx
 ·have hi':i=ll.length:=by dsimp only at hge;omega
  subst hi'
  have hG:Good ll:=λl hl x hx=>by
   obtain⟨j,hj,rfl⟩:=List.mem_iff_getElem.1 hl
   exact hgood j hj hj x hx
  refine hok hn0 hn1 hG w2 _ hb2 ⟨r,rs,hg2,hr2.isS,by rw[ZD];omega,λj hj hj'=>?_⟩
  have:=(hrows2 j hj).isS
  have e:(zO ll)[j]=(zO ll).getD j []:=by simp only[List.getD,List.getElem?_eq_getElem hj',Option.getD_some]
  rw[e];exact this
end Go.Proofs
namespace Go.Proofs
open Go.Gk Go.RowKit Go.Gr
theorem zbg{rb:Nat}{nx:List (List Nat)}{w:World}{R:VWP}(h:IsR w rb nx)(hR:R (.int .i64 (nx.length:Int)) w) :
  cR 91 #[.pointer (some (blk rb))] w R:=by
 refine zb.of (zbS _ R w ?_) λ_ _ h=>h
 obtain⟨s,hs,h1,h2⟩:=h
 refine⟨s,h1.cell0 rfl,?_⟩
 have e:s.l=nx.length:=by have:=h2.top.len;have:=h2.len;omega
 show R (.int .i64 (s.l:Int)) w
 rw[e];exact hR
theorem rRow{w:World}{rb:Nat}{s:Sl}{hs:List Sl}{nx:List (List Nat)}(h1:Blk w rb 185 [s.val])(h2:IsNN w s hs nx){i:Nat}(hi:i<nx.length){φ:Sl->Prop}(hφ:∀(hi':i<hs.length),φ hs[i]) :
  zc (some (blk rb)) λa=>ldS w a λx=>(0<=(i:Int)/\(i:Int)<(x.l:Int))/\zc x.a λa=>ldS w (a.add (Int.toNat (i:Int))) φ:=by
 have hl:=h2.len
 exact⟨s,h1.cell0 rfl,zhU h2.top (k:=i) (by omega) (hφ (by omega))⟩
theorem zfV{rb:Nat}{nx:List (List Nat)}(hx:NxOk nx){i:Int}{w:World}{R:VWP}(h:IsR w rb nx)
  (hR:∀r w',Own w' 3 1 r ((zj9 nx i).map iN)->Below w.heap.size w w'->R (.slice r.a r.l r.c) w') :
  cR 92 #[.pointer (some (blk rb)),.int .i64 i] w R:=by
 refine zb.of (yQ _ i R w ?_) λ_ _ h=>h
 have none:¬(0<=i/\i<nx.length)->R (.slice none 0 0) w:=λhn=>hR ⟨none,0,0⟩ w (by rw[zhx hn];exact Own.nil _ _ _) (Below.refl _ _)
 refine zk.cut (λ_ w'=>w'=w/\0<=i/\i<nx.length) (zi (λh0=>none (by omega)) λh0=>zbg h ⟨_,rfl,zi (λh1=>none (by omega)) λh1=>⟨rfl,by omega,by omega⟩⟩) ?_
 rintro _ wx ⟨ewx,h0,h1⟩
 subst wx
 obtain⟨k,rfl⟩:=Int.eq_ofNat_of_zero_le h0
 have hk:k<nx.length:=by omega
 have hgd:nx.getD k []=nx[k]:=by simp[List.getD,hk]
 have hrl:=hx.row_le k
 have hmx:=hx.max
 rw[zU]at hR
 obtain⟨s,hs,g1,g2⟩:=h
 have hrow:∀{w':World},Below w.heap.size w w'->∀(h':k<hs.length),IsN w' hs[k] (nx.getD k []):=λhb h'=>by rw[hgd];exact(g2.below hb).row k h' hk
 refine zl.countS (nx.getD k []).length (by omega) (λj l w'=>Below w.heap.size w w'/\w.heap.size<=w'.heap.size/\Own w' 3 1 l (((nx.getD k []).take j).map iN)/\zw w.heap.size l)
  ⟨Below.refl _ _,Nat.le_refl _,by simpa using Own.nil _ _ _,λa ha=>by cases ha⟩ ?_
 rintro j l w2 hj ⟨hb,hz,ho,hf⟩ next hnext
 refine rRow (g1.below hb) (g2.below hb) hk λhh=>?_
 have hrn:hs[k].l=(nx.getD k []).length:=(hrow hb hh).len
 refine zi (λhlt=>?_) (λhge=>?_)
 ·have hlt:j<(nx.getD k []).length:=by dsimp only at hlt;omega
  refine rRow (g1.below hb) (g2.below hb) hk λhh=>?_
  refine zm4 (hrow hb hh) hlt ?_
  refine Yi rfl hb hz ho hf (by simp;omega) λr' w' k1 k2 k3 k4=>hnext r' w' hlt ⟨k1,k2,?_,k4⟩
  rw[List.take_succ_eq_append_getElem hlt];exact k3
 ·have hj':j=(nx.getD k []).length:=by dsimp only at hge;omega
  subst hj'
  rw[List.take_length]at ho
  exact hR l w2 ho hb
theorem zs3{nx:List (List Nat)}(hx:NxOk nx)(i:Int):zj9 (zJ nx) i=(List.range nx.length).filter λk=>((nx.getD k []).map λ(x:Nat)=>(x:Int)).contains i:=by
 by_cases h:0<=i/\i<nx.length
 ·obtain⟨k,rfl⟩:=Int.eq_ofNat_of_zero_le h.1
  rw[zU,zf5 (by omega)]
  refine List.filter_congr λj _=>?_
  rw[zm2]
 ·rw[zhx (by rw[yX];exact h)]
  symm
  rw[List.filter_eq_nil_iff]
  intro k hk
  rw[List.contains_iff_mem]
  intro hm
  obtain⟨x,hxm,rfl⟩:=List.mem_map.1 hm
  have:=hx.rows k x hxm
  omega
theorem zoH{rb:Nat}{nx:List (List Nat)}(hx:NxOk nx){i:Int}{w:World}{R:VWP}(h:IsR w rb nx)
  (hR:∀r w',Own w' 3 1 r ((zj9 (zJ nx) i).map iN)->Below w.heap.size w w'->R (.slice r.a r.l r.c) w') :
  cR 93 #[.pointer (some (blk rb)),.int .i64 i] w R:=by
 refine zb.of (zaj _ i R w ?_) λ_ _ h=>h
 have hmx:=hx.max
 rw[zs3 hx]at hR
 obtain⟨P,hP⟩:∃P:Nat->Bool,P=λk=>((nx.getD k []).map λ(x:Nat)=>(x:Int)).contains i:=⟨_,rfl⟩
 rw[<-hP]at hR
 obtain⟨s,hs,g1,g2⟩:=h
 refine zl.countS nx.length (by omega) (λj l w'=>Below w.heap.size w w'/\w.heap.size<=w'.heap.size/\Own w' 3 1 l (((List.range j).filter P).map iN)/\zw w.heap.size l)
  ⟨Below.refl _ _,Nat.le_refl _,by simpa using Own.nil _ _ _,λa ha=>by cases ha⟩ ?_
 rintro j l w2 hj ⟨hb,hz,ho,hf⟩ next hnext
 refine zbg ⟨s,hs,g1.below hb,g2.below hb⟩ ⟨_,rfl,zi (λhlt=>?_) (λhge=>?_)⟩
 ·have hlt:j<nx.length:=by dsimp only at hlt;omega
  refine zk.cut (λst w'=>Below w.heap.size w w'/\w.heap.size<=w'.heap.size/\Own w' 3 1 st.1 (((List.range (j+1)).filter P).map iN)/\zw w.heap.size st.1) ?_ λst w' hh=>hnext st.1 w' hlt hh
  refine rRow (g1.below hb) (g2.below hb) hlt λhh=>?_
  have hrow:=(g2.below hb).row j hh hlt
  have hgd:nx[j]=nx.getD j []:=by simp[List.getD,hlt]
  rw[hgd]at hrow
  rw[List.range_succ,List.filter_append]
  refine zqq (IsS.toI hrow) ⟨_,rfl,zm (λhc=>?_) (λhc=>?_)⟩
  ·have e:[j].filter P=[j]:=by rw[hP];simp only[List.filter_cons,hc,if_true,List.filter_nil]
   rw[e]
   have hlen:=List.length_filter_le P (List.range j)
   simp only[List.length_range]at hlen
   exact Yi rfl hb hz ho hf (by omega) λr' w' k1 k2 k3 k4=>⟨k1,k2,k3,k4⟩
  ·have e:[j].filter P=[]:=by rw[hP];simp only[List.filter_cons,hc,Bool.false_eq_true,if_false,List.filter_nil]
   rw[e,List.append_nil]
   exact⟨hb,hz,ho,hf⟩
 ·have hj':j=nx.length:=by dsimp only at hge;omega
  subst hj'
  exact hR l w2 ho hb
end Go.Proofs
namespace Go.Proofs
open Go.Gk Go.RowKit Go.Gr
end Go.Proofs
namespace Go.Proofs
open Go.Gk Go.RowKit Go.Gr
theorem znZ{bl:List Bool}{t:Nat}(ht:t<bl.length)(hf:bl.getD t false=false):bl.count true<(bl.set t true).count true:=by
 have e:bl[t]=false:=by simpa[List.getD,ht] using hf
 rw[List.count_set ht,e]
 simp
theorem YZ{bl:List Bool}{t j:Nat}(ht:t<bl.length):(bl.set t true).getD j false=(bl.getD j false||j==t):=by
 simp only[List.getD,List.getElem?_set]
 by_cases e:t=j
 ·subst e;simp[ht]
 ·simp[e,Ne.symm e]
structure Mk (w0:World) (nx:List (List Nat)) (wo:Int) (w:World) (bl:List Bool):Prop where
 below:Below w0.heap.size w0 w
 blk:Blk w w0.heap.size 4 (bl.map Value.bool)
 len:bl.length=nx.length
 sound:∀j,bl.getD j false=true->ReachN nx wo j
 zero:bl.getD 0 false=true
theorem Mk.ld{w0:World}{nx:List (List Nat)}{wo:Int}{w:World}{bl:List Bool}(h:Mk w0 nx wo w bl){i:Nat}(hi:i<nx.length){φ:Bool->Prop}(hφ:φ (bl.getD i false)):ldB w ((Go.Gk.blk w0.heap.size).add i) φ:=by
 refine⟨bl.getD i false,h.blk.cell ?_,hφ⟩
 have:i<bl.length:=by rw[h.len];exact hi
 simp[List.getD,this]
theorem Mk.set{w0:World}{nx:List (List Nat)}{wo:Int}{w:World}{bl:List Bool}(h:Mk w0 nx wo w bl){t:Nat}(ht:t<nx.length)(hr:ReachN nx wo t):Mk w0 nx wo (w.setCell ((Go.Gk.blk w0.heap.size).add t) (.bool true)) (bl.set t true):=by
 have htl:t<bl.length:=by rw[h.len];exact ht
 refine⟨h.below.setCell (by rw[zn];exact Nat.le_refl _) _,?_,by rw[List.length_set];exact h.len,λj hj=>?_,?_⟩
 ·rw[List.map_set];exact h.blk.set t _
 ·rw[YZ htl,Bool.or_eq_true]at hj
  rcases hj with hj |hj
  ·exact h.sound j hj
  ·have:j=t:=by simpa using hj
   subst this;exact hr
 ·rw[YZ htl,h.zero];rfl
def ClAt(nx:List (List Nat))(wo:Int)(bl:List Bool)(i:Nat):Prop:=bl.getD i false=true->∀t∈nx.getD i [],(t:Int)≠wo->bl.getD t false=true
set_option maxHeartbeats 1000000 in
theorem zn9{rb:Nat}{nx:List (List Nat)}(hx:NxOk nx){wo:Int}{w:World}{R:VWP}(h:IsR w rb nx)
  (hR:∀w' (bl:List Bool),Below w.heap.size w w'->Blk w' w.heap.size 4 (bl.map Value.bool)->bl.length=nx.length->(∀j,bl.getD j false=true↔ReachN nx wo j)->R (.slice (some (blk w.heap.size)) nx.length nx.length) w') :
  cR 135 #[.pointer (some (blk rb)),.int .i64 wo] w R:=by
 refine zb.of (zbR _ wo R w ?_) λ_ _ h=>h
 have hmx:=hx.max
 have hps:=hx.pos
 refine zbg h ⟨_,rfl,⟨by omega,by omega,by omega,by omega⟩,Nw.gen λw2 hw2=>?_⟩
 have hb2:Below w.heap.size w w2:=by rw[hw2];exact(Below.refl _ _).alloc (Nat.le_refl _) _
 have hB2:Blk w2 w.heap.size 4 (List.replicate nx.length (.bool false)):=by rw[hw2];exact Blk.made w _ _ _
 clear hw2
 have hst:∀{w':World},Below w.heap.size w w'->IsR w' rb nx:=λhb=>h.below hb
 have hz:(List.replicate nx.length false).map Value.bool=List.replicate nx.length (.bool false):=List.map_replicate
 refine zk.cut (λ_ w'=>w'=w2/\wo≠0) (zbg (hst hb2) ⟨_,rfl,zj (λhe=>by omega) λ_=>zj (λhe=>?_) λhe=>⟨rfl,he⟩⟩) ?_
 ·refine hR w2 (List.replicate nx.length false) hb2 (by rw[hz];exact hB2) (by simp) λj=>⟨λhj=>?_,λhj=>?_⟩
  ·exfalso
   simp only[List.getD,List.getElem?_replicate]at hj
   split at hj<;>simp at hj
  ·exfalso
   subst he
   induction hj with
   |zero h _=>exact h rfl
   |step _ _ _ ih=>exact ih
 rintro _ wx ⟨ewx,hwo⟩
 subst wx
 refine⟨⟨by first |omega | (dsimp only;omega),by first |omega | (dsimp only;omega)⟩,hB2.wr (n:=0) (by simp;omega),Nw.gen λw5 hw5=>?_⟩
 have hm5:Mk w nx wo w5 ((List.replicate nx.length false).set 0 true):=by
  have hl0:0<(List.replicate nx.length false).length:=by simpa using hps
  refine⟨by rw[hw5];exact hb2.setCell (by rw[zn];exact Nat.le_refl _) _,?_,by simp,λj hj=>?_,?_⟩
  ·rw[hw5,List.map_set,hz];exact hB2.set 0 _
  ·rw[YZ hl0]at hj
   have e:(List.replicate nx.length false).getD j false=false:=by
    simp only[List.getD,List.getElem?_replicate]
    split<;>rfl
   rw[e,Bool.false_or]at hj
   have:j=0:=by simpa using hj
   subst this
   exact .zero hwo hps
  ·rw[YZ hl0];simp
 clear hw5
 refine zl.ghost (λj s w'=>∃bl m,Mk w nx wo w' bl/\s=(m,())/\(m=false->∀i,ClAt nx wo bl i)/\j=if m then nx.length-bl.count true+1 else 0) (nx.length-((List.replicate nx.length false).set 0 true).count true+1) ⟨_,true,hm5,rfl,(λh=>by cases h),rfl⟩ ?_
 rintro _ _ w6 ⟨bl,m,hm6,rfl,hcl,rfl⟩ next hnext
 refine zm (λhm=>?_) (λhm=>?_)
 ·have hm:m=true:=hm
  subst hm
  refine zl.countS nx.length (by omega) (λi m w'=>∃bl',Mk w nx wo w' bl'/\(m=false->bl'=bl/\∀i',i'<i->ClAt nx wo bl i')/\(m=true->bl.count true<bl'.count true)) ⟨bl,hm6,λ_=>⟨rfl,λi' hi'=>by omega⟩,λh=>by cases h⟩ ?_
  rintro i m w7 hi ⟨bl7,hm7,hf7,ht7⟩ nxt hnxt
  refine zbg (hst hm7.below) ⟨_,rfl,zi (λhlt=>?_) (λhge=>?_)⟩
  ·have hlt:i<nx.length:=by dsimp only at hlt;omega
   refine zk.cut (λst w'=>∃bl',Mk w nx wo w' bl'/\(st.1=false->bl'=bl/\∀i',i'<i+1->ClAt nx wo bl i')/\(st.1=true->bl.count true<bl'.count true)) ?_ λst w' hh=>hnxt st.1 w' hlt hh
   refine⟨⟨by first |omega | (dsimp only;omega),by first |omega | (dsimp only;omega)⟩,hm7.ld hlt (zy (zm (λhmk=>?_) (λhmk=>?_)))⟩
   ·
    obtain⟨sr,hs,g1,g2⟩:=h
    have hgd:nx.getD i []=nx[i]:=by simp[List.getD,hlt]
    have hrow:∀{w':World},Below w.heap.size w w'->∀(h':i<hs.length),IsN w' hs[i] (nx.getD i []):=λhb h'=>by rw[hgd];exact(g2.below hb).row i h' hlt
    have hrl:=hx.row_le i
    have hri:ReachN nx wo i:=hm7.sound i hmk
    refine zl.countS (nx.getD i []).length (by omega) (λk m w'=>∃bl',Mk w nx wo w' bl'/\(m=false->bl'=bl/\(∀i',i'<i->ClAt nx wo bl i')/\∀k',k'<k->∀(hk':k'<(nx.getD i []).length),(((nx.getD i [])[k']:Nat):Int)≠wo->bl.getD (nx.getD i [])[k'] false=true)/\(m=true->bl.count true<bl'.count true))
     ⟨bl7,hm7,λhm=>⟨(hf7 hm).1,(hf7 hm).2,λk' hk'=>by omega⟩,ht7⟩ ?_
    rintro k m9 w9 hk ⟨bl9,hm9,hf9,ht9⟩ nx3 hnx3
    refine rRow (g1.below hm9.below) (g2.below hm9.below) hlt λhh=>?_
    have hrn:hs[i].l=(nx.getD i []).length:=(hrow hm9.below hh).len
    refine zi (λhltk=>?_) (λhgek=>?_)
    ·have hltk:k<(nx.getD i []).length:=by dsimp only at hltk;omega
     refine zk.cut (λst w'=>∃bl',Mk w nx wo w' bl'/\(st.1=false->bl'=bl/\(∀i',i'<i->ClAt nx wo bl i')/\∀k',k'<k+1->∀(hk':k'<(nx.getD i []).length),(((nx.getD i [])[k']:Nat):Int)≠wo->bl.getD (nx.getD i [])[k'] false=true)/\(st.1=true->bl.count true<bl'.count true)) ?_ λst w' hh=>hnx3 st.1 w' hltk hh
     refine rRow (g1.below hm9.below) (g2.below hm9.below) hlt λhh=>?_
     refine zm4 (hrow hm9.below hh) hltk ?_
     have htn:(nx.getD i [])[k]<nx.length:=hx.rows i _ (List.getElem_mem hltk)
     generalize ht:(nx.getD i [])[k]=t at htn
     have hmem:t∈nx.getD i []:=by rw[<-ht];exact List.getElem_mem hltk
     have keep:(m9=false->(t:Int)≠wo->bl.getD t false=true)->∃bl',Mk w nx wo w9 bl'/\(m9=false->bl'=bl/\(∀i',i'<i->ClAt nx wo bl i')/\∀k',k'<k+1->∀(hk':k'<(nx.getD i []).length),(((nx.getD i [])[k']:Nat):Int)≠wo->bl.getD (nx.getD i [])[k'] false=true)/\(m9=true->bl.count true<bl'.count true):=
      λhnew=>⟨bl9,hm9,λhm=>⟨(hf9 hm).1,(hf9 hm).2.1,λk' hk' hkl hne=>by
       by_cases e:k'=k
       ·subst e;rw[ht]at hne⊢;exact hnew hm hne
       ·exact(hf9 hm).2.2 k' (by omega) hkl hne⟩,ht9⟩
     refine zr (λhne=>?_) (λhe=>keep λ_ hne=>absurd he hne)
     refine⟨⟨by first |omega | (dsimp only;omega),by first |omega | (dsimp only;omega)⟩,hm9.ld htn (zy (zm (λhmt=>keep λhm _=>by rw[<-(hf9 hm).1];exact hmt) (λhmt=>?_)))⟩
     have htl:t<bl9.length:=by rw[hm9.len];exact htn
     refine⟨⟨by first |omega | (dsimp only;omega),by first |omega | (dsimp only;omega)⟩,hm9.blk.wr (by rw[List.length_map];exact htl),Nw.mk ⟨bl9.set t true,hm9.set htn (.step hri hmem hne),(λh=>by cases h),λ_=>?_⟩⟩
     have hup:=znZ htl hmt
     cases hm:m9 with
     |true=>have:=ht9 hm;omega
     |false=>rw[(hf9 hm).1]at hup⊢;exact hup
    ·have hkk:k=(nx.getD i []).length:=by dsimp only at hgek;omega
     subst hkk
     refine⟨bl9,hm9,λhm=>⟨(hf9 hm).1,λi' hi'=>?_⟩,ht9⟩
     by_cases e:i'=i
     ·subst e
      intro _ t ht hne
      obtain⟨k',hk',rfl⟩:=List.mem_iff_getElem.1 ht
      exact(hf9 hm).2.2 k' hk' hk' hne
     ·exact(hf9 hm).2.1 i' (by omega)
   ·refine⟨bl7,hm7,λhm=>⟨(hf7 hm).1,λi' hi'=>?_⟩,ht7⟩
    by_cases e:i'=i
    ·subst e
     intro hmk'
     rw[(hf7 hm).1]at hmk
     rw[hmk]at hmk';cases hmk'
    ·exact(hf7 hm).2 i' (by omega)
  ·have hi':i=nx.length:=by dsimp only at hge;omega
   subst hi'
   have hc1:=List.count_le_length (a:=true) (l:=bl7)
   have hl7:=hm7.len
   cases hm:m with
   |false=>
    refine hnext 0 _ _ (by simp) ⟨bl7,false,hm7,rfl,λ_ i=>?_,rfl⟩
    rw[(hf7 hm).1]
    by_cases hi:i<nx.length
    ·exact(hf7 hm).2 i hi
    ·intro _ t ht
     simp[List.getD,hi]at ht
   |true=>
    have:=ht7 hm
    exact hnext (nx.length-bl7.count true+1) _ _ (by simp only[if_true];omega) ⟨bl7,true,hm7,rfl,(λh=>by cases h),rfl⟩
 ·have hm:m=false:=hm
  subst hm
  exact hR w6 bl hm6.below hm6.blk hm6.len λj=>⟨hm6.sound j,zkT (S:=λj=>bl.getD j false=true) (λ_ _=>hm6.zero) λi hi t ht hne=>hcl rfl i hi t ht hne⟩
end Go.Proofs
namespace Go.Gk
end Go.Gk
namespace Go.Proofs
open Go.Gk Go.RowKit Go.Gr
variable {w:World} {R:VWP} {p:Option Addr} {nx:List (List Nat)} {i:Int}
end Go.Proofs
namespace Go.Proofs
open Go.Gk
set_option linter.unusedVariables false
set_option maxRecDepth 100000
def Yf:Ann:=(.q (.seq (some ⟨[0,1],[]⟩) (.q .c) (.q (.seq (some ⟨[0,6],[]⟩) (.q .c) (.q (.q (.seq none (.one (.loop ⟨[7],[(8,(.b (.int .i64)))]⟩ (.seq none (.q .c) (.one .nil)))) (.q .nil))))))))
def Ya(p0:Sl)(p1:Int)(R:VWP)(w:World):Prop:=zk (S:=Unit) (λm1=>ifB (decide (p1<(0:Int))) (False) (m1 () w)) (λs2 w1=>cR 153 #[.int .u64 (IntKind.u64.wrap (p0.l:Int)),.int .u64 (IntKind.u64.wrap p1)] w1 λv3 w2=>∃x4:Int,∃x5:Int,v3=(.tuple #[.int .u64 x4,.int .u64 x5])/\zk (S:=Unit) (λm6=>ifB (decide (x4>(0:Int))) (False) (ifB (decide (x5>(9223372036854775807:Int))) (False) (m6 () w2))) (λs7 w3=>(0<=(IntKind.i64.wrap x5)/\(IntKind.i64.wrap x5)<=(IntKind.i64.wrap x5)/\8*(IntKind.i64.wrap x5)<=281474976710656/\(IntKind.i64.wrap x5)<=9223372036854775807)/\Nw (w3.alloc (.cells (madeCells #[.int .i64 0] ((Int.toNat (IntKind.i64.wrap x5))*1)) 3)) λw4=>zrB Tryz.prog #[26,26] (.slice (some (blk w3.heap.size)) (Int.toNat (IntKind.i64.wrap x5)) (Int.toNat (IntKind.i64.wrap x5))) (.slice p0.a p0.l p0.c) w4 λx8 w5=>zl (S:=Int×Unit) (λs9 w6 n10=>ifB (decide (s9.1<((Int.toNat (IntKind.i64.wrap x5)):Int))) ((0<=s9.1/\s9.1<=((Int.toNat (IntKind.i64.wrap x5)):Int)/\((Int.toNat (IntKind.i64.wrap x5)):Int)<=((Int.toNat (IntKind.i64.wrap x5)):Int))/\(0<=(0:Int)/\0<=s9.1/\s9.1<=((Int.toNat (IntKind.i64.wrap x5)):Int))/\zrB Tryz.prog #[26,26] (.slice (if (Int.toNat (IntKind.i64.wrap x5))=s9.1.toNat then(some (blk w3.heap.size)) else Option.map (λa=>a.add s9.1.toNat) (some (blk w3.heap.size))) ((Int.toNat (IntKind.i64.wrap x5))-s9.1.toNat) ((Int.toNat (IntKind.i64.wrap x5))-s9.1.toNat)) (.slice (if (Int.toNat (IntKind.i64.wrap x5))=0 then(some (blk w3.heap.size)) else Option.map (λa=>a.add 0) (some (blk w3.heap.size))) (s9.1.toNat-0) ((Int.toNat (IntKind.i64.wrap x5))-0)) w6.drew λx11 w7=>n10 ((IntKind.i64.wrap (s9.1+x11)),()) w7) (R (.slice (some (blk w3.heap.size)) (Int.toNat (IntKind.i64.wrap x5)) (Int.toNat (IntKind.i64.wrap x5))) w6)) (x8,()) w5))
theorem zci(p0)(p1)(R)(w)(h:Ya p0 p1 R w):Calls Tryz.prog 114 #[.slice p0.a p0.l p0.c,.int .i64 p1] w (Ret R):=lwC Yf Tryz.func114 (by kernel_rfl) (by kernel_rfl) h
def zgq:Ann:=(.q (.seq none (.cond (.q (.q .nil)) .nil) (.q (.q .nil))))
def zgh(p0:Int)(p1:Int)(R:VWP)(w:World):Prop:=cR 203 #[.int .u64 p0,.int .u64 p1] w λv1 w1=>∃x2:Int,∃x3:Int,v1=(.tuple #[.int .u64 x2,.int .u64 x3])/\R (.tuple #[.int .u64 x2,.int .u64 x3]) w1
theorem zh9(p0)(p1)(R)(w)(h:zgh p0 p1 R w):Calls Tryz.prog 153 #[.int .u64 p0,.int .u64 p1] w (Ret R):=lwC zgq Tryz.func153 (by kernel_rfl) (by kernel_rfl) h
def zel:Ann:=(.q (.q (.q (.q (.q (.q (.q (.q (.q (.q (.q (.q .nil))))))))))))
def YQ(p0:Int)(p1:Int)(R:VWP)(w:World):Prop:=R (.tuple #[.int .u64 (IntKind.u64.wrap ((IntKind.u64.wrap ((IntKind.u64.wrap ((Int.fdiv p0 (2 ^ (min 32 (IntKind.bits .u64))))*(Int.fdiv p1 (2 ^ (min 32 (IntKind.bits .u64))))))+(Int.fdiv (IntKind.u64.wrap ((IntKind.u64.wrap ((Int.fdiv p0 (2 ^ (min 32 (IntKind.bits .u64))))*(IntKind.u64.wrap (BitVec.toNat (BitVec.ofInt (IntKind.bits .u64) p1 &&& BitVec.ofInt (IntKind.bits .u64) 4294967295):Int))))+(Int.fdiv (IntKind.u64.wrap ((IntKind.u64.wrap (BitVec.toNat (BitVec.ofInt (IntKind.bits .u64) p0 &&& BitVec.ofInt (IntKind.bits .u64) 4294967295):Int))*(IntKind.u64.wrap (BitVec.toNat (BitVec.ofInt (IntKind.bits .u64) p1 &&& BitVec.ofInt (IntKind.bits .u64) 4294967295):Int)))) (2 ^ (min 32 (IntKind.bits .u64)))))) (2 ^ (min 32 (IntKind.bits .u64))))))+(Int.fdiv (IntKind.u64.wrap ((IntKind.u64.wrap (BitVec.toNat (BitVec.ofInt (IntKind.bits .u64) (IntKind.u64.wrap ((IntKind.u64.wrap ((Int.fdiv p0 (2 ^ (min 32 (IntKind.bits .u64))))*(IntKind.u64.wrap (BitVec.toNat (BitVec.ofInt (IntKind.bits .u64) p1 &&& BitVec.ofInt (IntKind.bits .u64) 4294967295):Int))))+(Int.fdiv (IntKind.u64.wrap ((IntKind.u64.wrap (BitVec.toNat (BitVec.ofInt (IntKind.bits .u64) p0 &&& BitVec.ofInt (IntKind.bits .u64) 4294967295):Int))*(IntKind.u64.wrap (BitVec.toNat (BitVec.ofInt (IntKind.bits .u64) p1 &&& BitVec.ofInt (IntKind.bits .u64) 4294967295):Int)))) (2 ^ (min 32 (IntKind.bits .u64)))))) &&& BitVec.ofInt (IntKind.bits .u64) 4294967295):Int))+(IntKind.u64.wrap ((IntKind.u64.wrap (BitVec.toNat (BitVec.ofInt (IntKind.bits .u64) p0 &&& BitVec.ofInt (IntKind.bits .u64) 4294967295):Int))*(Int.fdiv p1 (2 ^ (min 32 (IntKind.bits .u64)))))))) (2 ^ (min 32 (IntKind.bits .u64)))))),.int .u64 (IntKind.u64.wrap (p0*p1))]) w
theorem zg1(p0)(p1)(R)(w)(h:YQ p0 p1 R w):Calls Tryz.prog 203 #[.int .u64 p0,.int .u64 p1] w (Ret R):=lwC zel Tryz.func203 (by kernel_rfl) (by kernel_rfl) h
end Go.Proofs
namespace Go.Proofs
open Go.Gk Go.RowKit
theorem zmY{n:Nat}(hn:n<=65536):IntKind.u64.wrap (n:Int)=n:=by rw[IntKind.wrap_u64];omega
theorem ziv{n:Nat}(hn:n<=65536):((BitVec.toNat (BitVec.ofInt (IntKind.bits .u64) (n:Int) &&& BitVec.ofInt (IntKind.bits .u64) (4294967295:Int)):Nat):Int)=n:=by
 have h:(BitVec.ofInt 64 (n:Int) &&& BitVec.ofInt 64 (4294967295:Int)).toNat=n:=by
  rw[BitVec.toNat_and,BitVec.toNat_ofInt,BitVec.toNat_ofInt]
  have e1:((n:Int) % ((2 ^ 64:Nat):Int)).toNat=n:=by omega
  have e2:((4294967295:Int) % ((2 ^ 64:Nat):Int)).toNat=2 ^ 32-1:=by decide
  rw[e1,e2,Nat.and_two_pow_sub_one_eq_mod]
  omega
 exact congrArg Int.ofNat h
theorem zq6{n:Nat}(hn:n<=65536){w:World}{R:VWP}(hR:R (.tuple #[.int .u64 0,.int .u64 (n:Int)]) w):cR 203 #[.int .u64 1,.int .u64 (n:Int)] w R:=by
 refine zb.of (zg1 1 n R w ?_) λ_ _ h=>h
 unfold YQ
 have e0:((2:Int) ^ (min 32 (IntKind.bits .u64)))=4294967296:=by decide
 have e1:Int.fdiv 1 4294967296=0:=by decide
 have e2:Int.fdiv (n:Int) 4294967296=0:=by rw[Int.fdiv_eq_ediv_of_nonneg _ (by decide)];omega
 have m1:((BitVec.toNat (BitVec.ofInt (IntKind.bits .u64) (1:Int) &&& BitVec.ofInt (IntKind.bits .u64) (4294967295:Int)):Nat):Int)=1:=ziv (n:=1) (by decide)
 have m0:((BitVec.toNat (BitVec.ofInt (IntKind.bits .u64) (0:Int) &&& BitVec.ofInt (IntKind.bits .u64) (4294967295:Int)):Nat):Int)=0:=ziv (n:=0) (by decide)
 have u0:IntKind.u64.wrap (0:Int)=0:=by decide
 have u1:IntKind.u64.wrap (1:Int)=1:=by decide
 have f0:Int.fdiv 0 4294967296=0:=by decide
 simp only[e0,e1,e2,ziv hn,m1,zmY hn,u0,u1,Int.zero_mul,Int.one_mul,Int.mul_zero,Int.add_zero,f0,m0]
 exact hR
theorem znj{B:Nat}{w w':World}(h:Below B w w'){g:Nat}(hg:B<=g)(cs:Array Value):Below B w (w'.setRow g cs):=
 ⟨h.os,h.tape,h.output,by simpa[World.setRow] using h.size,λk hk=>(setRow_other w' g k cs (by omega)).trans (h.block k hk)⟩
theorem zm3{w:World}{b o:Nat}{cs:List Value}(hD:Blk w b 3 cs){a:Addr}{dl dc sl sc:Nat}{news:List Value}(hn:news.length=Nat.min sl dl)(hsrc:∀j v,news[j]? =some v->w.cell? (a.add j)=some v)
  (hfit:o+news.length<=cs.length) (h1:∀v∈news,v.oneCell'=true) {k:Int->World->Prop}
  (hk:∀w',Blk w' b 3 (cs.take o++news++cs.drop (o+news.length))->(∀B w0,Below B w0 w->B<=b->Below B w0 w')->k (news.length:Int) w') :
  zrB Tryz.prog #[26,26] (.slice (some ⟨b,o,none⟩) dl dc) (.slice (some a) sl sc) w k:=by
 have hun:(Tryz.prog).underlying 26=some (.slice 3):=by kernel_rfl
 have hsz:((Tryz.prog).info? 3).map (·.size)=some 1:=by kernel_rfl
 have hc:=run_copy_row (P:=Tryz.prog) w 26 26 0 3 b o dl dc a sl sc cs.toArray 3 news hun hsz hD hn hsrc (by simpa using hfit) h1
 refine⟨_,_,hc,hk _ ?_ λB w0 hb hB=>znj hb hB _⟩
 exact setRow_heap w b _ _ _ _ hD
set_option maxHeartbeats 1000000 in
theorem znM{n:Nat}(hn:n<=65536)(hn1:1<=n){v:Int}{xb:Nat}{w:World}{R:VWP}(hx:Blk w xb 3 [.int .i64 v])
  (hR:∀b w',Blk w' b 3 (List.replicate n (.int .i64 v))->w.heap.size<=b->Below w.heap.size w w'->R (.slice (some (blk b)) n n) w') :
  cR 114 #[.slice (some (blk xb)) 1 1,.int .i64 (n:Int)] w R:=by
 refine zb.of (zci ⟨some (blk xb),1,1⟩ n R w ?_) λ_ _ h=>h
 refine zk.cut (λ_ w'=>w'=w) (zi (λh=>by omega) λ_=>rfl) ?_
 rintro _ _ rfl
 rename_i w
 have e1:IntKind.u64.wrap (((1:Nat):Nat):Int)=1:=by decide
 dsimp only
 rw[e1,zmY hn]
 refine zb.of (zh9 1 n _ w ?_) λ_ _ h=>h
 refine zq6 hn ⟨0,n,rfl,0,n,rfl,?_⟩
 refine zk.cut (λ_ w'=>w'=w) (zi (λh=>absurd h (by decide)) λ_=>zi (λh=>absurd h (by omega)) λ_=>rfl) ?_
 rintro _ _ rfl
 rename_i w
 have e2:IntKind.i64.wrap (n:Int)=n:=zt (by omega) (by omega)
 rw[e2]
 refine⟨⟨by omega,by omega,by omega,by omega⟩,Nw.gen λw4 hw4=>?_⟩
 obtain⟨z,hz⟩:∃z,z=Value.int .i64 0:=⟨_,rfl⟩
 obtain⟨u,hu⟩:∃u,u=Value.int .i64 v:=⟨_,rfl⟩
 have hu1:u.oneCell'=true:=by rw[hu];rfl
 rw[<-hz]at hw4
 rw[<-hu]at hx hR
 have hD4:Blk w4 w.heap.size 3 (List.replicate n z):=by rw[hw4];exact Blk.made w 3 z n
 have b4:Below w.heap.size w w4:=by rw[hw4];exact(Below.refl _ _).alloc (Nat.le_refl _) _
 have hx4:=hx.below b4
 have tn:Int.toNat ((n:Nat):Int)=n:=rfl
 rw[tn]
 refine zm3 hD4 (o:=0) (news:=[u]) (by simp[Nat.min_def];omega) (λj x hj=>by
   cases j with
   |zero=>simp at hj;subst hj;exact hx4.cell rfl
   |succ j=>simp at hj) (by simp;omega) (by simpa using hu1) λw5 hD5 hb5=>?_
 have hb5:=hb5 _ _ b4 (Nat.le_refl _)
 have hD5':Blk w5 w.heap.size 3 (List.replicate 1 u++List.replicate (n-1) z):=by
  simpa using hD5
 clear hD5 hD4 hx4 hw4
 refine zl.ghost (λj st w'=>∃m:Nat,1<=m/\m<=n/\j=n-m/\st=((m:Int),())/\Below w.heap.size w w'/\Blk w' w.heap.size 3 (List.replicate m u++List.replicate (n-m) z)) (n-1)
  ⟨1,Nat.le_refl _,hn1,rfl,rfl,hb5,hD5'⟩ ?_
 rintro _ _ w6 ⟨m,hm1,hmn,rfl,rfl,hb,hD⟩ next hnext
 refine zi (λhlt=>?_) (λhge=>?_)
 ·have hlt:m<n:=by dsimp only at hlt;omega
  have tm:Int.toNat ((m:Nat):Int)=m:=rfl
  refine⟨⟨by first |omega | (dsimp only;omega),by first |omega | (dsimp only;omega),by omega⟩,⟨by omega,by first |omega | (dsimp only;omega),by first |omega | (dsimp only;omega)⟩,?_⟩
  dsimp only
  rw[tm,if_neg (by omega:¬n=m),if_neg (by omega:¬n=0)]
  simp only[Option.map_some,Nat.sub_zero]
  have ea:(blk w.heap.size).add m=⟨w.heap.size,m,none⟩:=by rw[zhh]
  have e0:(blk w.heap.size).add 0=blk w.heap.size:=by rw[zhh]
  rw[ea,e0]
  obtain⟨q,hq⟩:∃q,q=Nat.min m (n-m):=⟨_,rfl⟩
  have hq1:1<=q/\q<=n-m/\q<=m:=by rw[hq];simp only[Nat.min_def];split<;>omega
  have hD':=hD.drew
  refine zm3 hD' (o:=m) (news:=List.replicate q u) (by rw[List.length_replicate,hq]) (λj x hj=>by
    have hj':j<q:=by have:=(List.getElem?_eq_some_iff.1 hj).1;simpa using this
    rw[List.getElem?_replicate,if_pos hj']at hj
    cases hj
    refine hD'.cell ?_
    rw[List.getElem?_append_left (by simp;omega),List.getElem?_replicate,if_pos (by omega)]) (by simp;omega) (λx hx=>by
    rw[List.eq_of_mem_replicate hx];exact hu1) λw7 hD7 hb7=>?_
  rw[List.length_replicate]at hD7⊢
  rw[show IntKind.i64.wrap ((m:Int)+(q:Int))=((m+q:Nat):Int) by rw[zt (by omega) (by omega)];omega]
  refine hnext (n-(m+q)) _ _ (by omega) ⟨m+q,by omega,by omega,rfl,rfl,hb7 _ _ hb.drew (Nat.le_refl _),?_⟩
  have:(List.replicate m u++List.replicate (n-m) z).take m++List.replicate q u++(List.replicate m u++List.replicate (n-m) z).drop (m+q)=List.replicate (m+q) u++List.replicate (n-(m+q)) z:=by
   rw[List.take_left' (by simp),List.drop_append,List.drop_replicate,List.drop_replicate,List.length_replicate,List.replicate_append_replicate]
   simp
   omega
  rw[<-this]
  exact hD7
 ·have:m=n:=by dsimp only at hge;omega
  subst this
  refine hR w.heap.size w6 ?_ (Nat.le_refl _) hb
  simpa using hD
end Go.Proofs
namespace Go.Dm
inductive Anc (ov:Nat->Option Nat) (a:Nat):Nat->Prop
 |refl:Anc ov a a
 |step {x y:Nat}:ov x=some y->Anc ov a y->Anc ov a x
def PR(ov:Nat->Option Nat)(x:Nat):Prop:=x=0\/ov x≠none
structure Tr (rk:Nat->Nat) (ov:Nat->Option Nat):Prop where
 root:ov 0=none
 up:∀x y,ov x=some y->rk y<rk x/\PR ov y
section
variable {rk:Nat->Nat} {ov:Nat->Option Nat} {a b x y:Nat}
theorem Anc.inv(h:Anc ov a x):a=x\/∃y,ov x=some y/\Anc ov a y:=by
 cases h with
 |refl=>exact .inl rfl
 |step h1 h2=>exact .inr ⟨_,h1,h2⟩
theorem Anc.trans(h:Anc ov a b)(k:Anc ov b x):Anc ov a x:=by
 induction k with
 |refl=>exact h
 |step h1 _ ih=>exact .step h1 ih
theorem Anc.le(t:Tr rk ov)(h:Anc ov a x):a=x\/rk a<rk x:=by
 induction h with
 |refl=>exact .inl rfl
 |step h1 _ ih=>
  have:=(t.up _ _ h1).1
  rcases ih with rfl |ih
  ·exact .inr this
  ·exact .inr (by omega)
theorem Anc.anti(t:Tr rk ov)(h:Anc ov a x)(k:Anc ov x a):a=x:=by
 rcases h.le t with e |h
 ·exact e
 ·rcases k.le t with e |k
  ·exact e.symm
  ·omega
theorem Anc.lin(h:Anc ov a x)(k:Anc ov b x):Anc ov a b\/Anc ov b a:=by
 induction h with
 |refl=>exact .inr k
 |step h1 h2 ih=>
  rcases k.inv with rfl | ⟨z,hz,k⟩
  ·exact .inl (.step h1 h2)
  ·rw[h1]at hz
   cases hz
   exact ih k
theorem Anc.pr(t:Tr rk ov)(h:Anc ov a x)(hx:PR ov x):PR ov a:=by
 induction h with
 |refl=>exact hx
 |step h1 _ ih=>exact ih (t.up _ _ h1).2
theorem Anc.none(hx:ov x=none)(h:Anc ov a x):a=x:=by
 rcases h.inv with e | ⟨y,hy,_⟩
 ·exact e
 ·rw[hx]at hy;cases hy
theorem Tr.zero(t:Tr rk ov):∀(n x:Nat),rk x<=n->PR ov x->Anc ov 0 x:=by
 intro n
 induction n with
 |zero=>
  intro x hn hx
  cases hx with
  |inl h=>subst h;exact .refl
  |inr h=>
   cases e:ov x with
   |none=>exact absurd e h
   |some y=>have:=(t.up x y e).1;omega
 |succ n ih=>
  intro x hn hx
  cases hx with
  |inl h=>subst h;exact .refl
  |inr h=>
   cases e:ov x with
   |none=>exact absurd e h
   |some y=>
    have:=t.up x y e
    exact .step e (ih y (by omega) this.2)
end
def Ym(ov:Nat->Option Nat)(ps:Nat->Prop)(m:Nat):Prop:=∀d,Anc ov d m↔∀p,ps p->Anc ov d p
def pt(ov:Nat->Option Nat)(k m:Nat):Nat->Option Nat:=λx=>if x=k then some m else ov x
theorem zae(ov:Nat->Option Nat)(k m:Nat):pt ov k m k=some m:=by simp[pt]
theorem zcF{ov:Nat->Option Nat}{k m x:Nat}(h:x≠k):pt ov k m x=ov x:=by simp[pt,h]
structure IsA (ov0:Nat->Option Nat) (v x y:Nat):Prop where
 over:Anc ov0 y x
 c:Anc ov0 y v
 deep:∀d,Anc ov0 d x->Anc ov0 d v->Anc ov0 d y
structure Ph (rk:Nat->Nat) (E:Nat->Nat->Prop) (v:Nat) (ov0 ov:Nat->Option Nat):Prop where
 tr0:Tr rk ov0
 pv:PR ov0 v
 cons:∀k o,ov0 k=some o->Ym ov0 (λp=>E p k/\PR ov0 p/\p≠v) o
 st:∀x,ov x=ov0 x\/(¬Anc ov0 x v/\∃y o,ov x=some y/\ov0 x=some o/\y≠o/\IsA ov0 v x y/\∃p,E p x/\PR ov0 p/\¬Anc ov o p)
section
variable {rk:Nat->Nat} {E:Nat->Nat->Prop} {v:Nat} {ov0 ov:Nat->Option Nat}
theorem Ph.none_iff(h:Ph rk E v ov0 ov)(x:Nat):ov x=none↔ov0 x=none:=by
 rcases h.st x with e | ⟨_,y,o,h1,h2,_⟩
 ·rw[e]
 ·simp[h1,h2]
theorem Ph.pr(h:Ph rk E v ov0 ov)(x:Nat):PR ov x↔PR ov0 x:=by unfold PR;rw[Ne,Ne,h.none_iff]
theorem Ph.tr(h:Ph rk E v ov0 ov):Tr rk ov:=by
 refine⟨(h.none_iff 0).2 h.tr0.root,λx y hy=>?_⟩
 rcases h.st x with e | ⟨hc,z,o,h1,h2,hne,ha,_⟩
 ·rw[e]at hy
  have:=h.tr0.up x y hy
  exact⟨this.1,(h.pr y).2 this.2⟩
 ·rw[h1]at hy
  cases hy
  refine⟨?_,(h.pr y).2 (ha.over.pr h.tr0 (.inr (by rw[h2];simp)))⟩
  rcases ha.over.le h.tr0 with e |h'
  ·subst e;exact absurd ha.c hc
  ·exact h'
theorem Ph.old(h:Ph rk E v ov0 ov){d x:Nat}(ha:Anc ov d x):Anc ov0 d x:=by
 induction ha with
 |refl=>exact .refl
 |step h1 _ ih=>
  rename_i x y _
  rcases h.st x with e | ⟨_,z,o,g1,_,_,ga,_⟩
  ·exact .step (e▸h1) ih
  ·rw[g1]at h1
   cases h1
   exact ih.trans ga.over
theorem Ph.new(h:Ph rk E v ov0 ov):∀(n:Nat) {d x:Nat},rk x<=n->Anc ov0 d x->Anc ov0 d v->Anc ov d x:=by
 intro n
 induction n using Nat.strongRecOn with
 |_ n ih=>
  intro d x hn ha hc
  rcases ha.inv with rfl | ⟨y,hy,hay⟩
  ·exact .refl
  ·rcases h.st x with e | ⟨hcx,z,o,g1,g2,_,ga,_⟩
   ·have:=(h.tr0.up x y hy).1
    exact .step (e.trans hy) (ih (rk y) (by omega) (Nat.le_refl _) hay hc)
   ·have hlt:rk z<rk x:=by
     rcases ga.over.le h.tr0 with e |h'
     ·subst e;exact absurd ga.c hcx
     ·exact h'
    exact .step g1 (ih (rk z) (by omega) (Nat.le_refl _) (ga.deep d ha hc) hc)
theorem Ph.new'(h:Ph rk E v ov0 ov){d x:Nat}(ha:Anc ov0 d x)(hc:Anc ov0 d v):Anc ov d x:=h.new (rk x) (Nat.le_refl _) ha hc
theorem Ph.left(h:Ph rk E v ov0 ov):∀(n:Nat) {d x e:Nat},rk x<=n->Anc ov0 d x->¬Anc ov d x->Anc ov e x->Anc ov0 e d->Anc ov0 e v:=by
 intro n
 induction n using Nat.strongRecOn with
 |_ n ih=>
  intro d x e hn ha hna he hed
  have hex:e≠x:=by
   rintro rfl
   exact hna (by rw[Anc.anti h.tr0 ha hed];exact .refl)
  rcases ha.inv with rfl | ⟨y,hy,hay⟩
  ·exact absurd .refl hna
  rcases he.inv with rfl | ⟨z,hz,hez⟩
  ·exact absurd rfl hex
  rcases h.st x with e1 | ⟨hcx,z',o,g1,g2,_,ga,_⟩
  ·rw[e1,hy]at hz
   cases hz
   have:=(h.tr0.up x y hy).1
   exact ih (rk y) (by omega) (Nat.le_refl _) hay (λhh=>hna (.step (e1.trans hy) hh)) hez hed
  ·rw[g1]at hz
   cases hz
   exact(h.old hez).trans ga.c
theorem Ph.move(h:Ph rk E v ov0 ov){k c m:Nat}(hk:ov k=some c)(hm:Ym ov (λp=>E p k/\PR ov p) m)(hne:m≠c) :
  ov k=ov0 k/\Ph rk E v ov0 (pt ov k m)/\(∀d x,Anc ov0 d x->Anc ov0 d v->Anc ov d x)/\Anc ov m k:=by
 obtain⟨o,ho⟩:∃o,ov0 k=some o:=by
  cases e:ov0 k with
  |none=>rw[(h.none_iff k).2 e]at hk;cases hk
  |some o=>exact⟨o,rfl⟩
 have hcons:=h.cons k o ho
 have hmo:Anc ov0 m o:=(hcons m).2 λp hp=>h.old ((hm m).1 .refl p ⟨hp.1,(h.pr p).2 hp.2.1⟩)
 have hleft:(∀p,E p k->PR ov p->Anc ov o p)->m=o:=λhall=>by
  have:Anc ov o m:=(hm o).2 λp hp=>hall p hp.1 hp.2
  exact Anc.anti h.tr0 hmo (h.old this)
 have hex:∃p,E p k/\PR ov0 p/\¬Anc ov o p:=by
  refine Classical.byContradiction λhn=>?_
  have hall:∀p,E p k->PR ov p->Anc ov o p:=λp h1 h2=>Classical.byContradiction λh3=>hn ⟨p,h1,(h.pr p).1 h2,h3⟩
  have e:=hleft hall
  rcases h.st k with e1 | ⟨_,y,o',g1,g2,g3,g4,p,g5,g6,g7⟩
  ·rw[hk,ho]at e1
   cases e1
   exact hne e
  ·rw[ho]at g2
   cases g2
   exact g7 (hall p g5 ((h.pr p).2 g6))
 obtain⟨p,hp1,hp2,hp3⟩:=hex
 have hcm:Anc ov0 m v:=by
  have hmp:=(hm m).1 .refl p ⟨hp1,(h.pr p).2 hp2⟩
  by_cases e:p=v
  ·subst e;exact h.old hmp
  ·exact h.left (rk p) (Nat.le_refl _) ((hcons o).1 .refl p ⟨hp1,hp2,e⟩) hp3 hmp hmo
 have hnc:¬Anc ov0 k v:=λhc=>by
  have hco:Anc ov0 o v:=(Anc.step ho .refl:Anc ov0 o k).trans hc
  refine hp3 ?_
  by_cases e:p=v
  ·subst e;exact h.new' hco hco
  ·exact h.new' ((hcons o).1 .refl p ⟨hp1,hp2,e⟩) hco
 have hisA:IsA ov0 v k m:=by
  refine⟨hmo.trans (.step ho .refl),hcm,λd hd hdv=>?_⟩
  have hdo:Anc ov0 d o:=by
   rcases hd.inv with rfl | ⟨y,hy,hd⟩
   ·exact absurd hdv hnc
   ·rw[ho]at hy;cases hy;exact hd
  refine h.old ((hm d).2 λq hq=>?_)
  by_cases e:q=v
  ·subst e;exact h.new' hdv hdv
  ·exact h.new' ((hcons d).1 hdo q ⟨hq.1,(h.pr q).1 hq.2,e⟩) hdv
 have hmk:Anc ov m k:=h.new' hisA.over hcm
 have hun:ov k=ov0 k:=by
  rcases h.st k with e1 | ⟨_,y,o',g1,g2,g3,g4,_⟩
  ·exact e1
  ·exfalso
   rw[hk]at g1
   cases g1
   exact hne (Anc.anti h.tr0 (g4.deep m hisA.over hcm) (hisA.deep _ g4.over g4.c))
 have shr:∀{d x:Nat},Anc (pt ov k m) d x->Anc ov d x:=λha=>by
  induction ha with
  |refl=>exact .refl
  |step h1 _ ih=>
   rename_i x y _
   by_cases e:x=k
   ·subst e
    rw[zae]at h1
    cases h1
    exact ih.trans hmk
   ·rw[zcF e]at h1
    exact .step h1 ih
 refine⟨hun,⟨h.tr0,h.pv,h.cons,λx=>?_⟩,λd x h1 h2=>h.new' h1 h2,hmk⟩
 by_cases e:x=k
 ·subst e
  refine .inr ⟨hnc,m,o,zae _ _ _,ho,?_,hisA,p,hp1,hp2,λha=>hp3 (shr ha)⟩
  rintro rfl
  rw[hun,ho]at hk
  cases hk
  exact hne rfl
 ·rw[zcF e]
  rcases h.st x with e1 | ⟨g0,y,o',g1,g2,g3,g4,p',g5,g6,g7⟩
  ·exact .inl e1
  ·exact .inr ⟨g0,y,o',g1,g2,g3,g4,p',g5,g6,λha=>g7 (shr ha)⟩
theorem Ph.start{k m:Nat}(t:Tr rk ov)(hc:∀x c,ov x=some c->Ym ov (λp=>E p x/\PR ov p) c)(hk:ov k=none)(hk0:k≠0)(hm:Ym ov (λp=>E p k/\PR ov p) m)(hpm:PR ov m)(hlt:rk m<rk k) :
  Ph rk E k (pt ov k m) (pt ov k m):=by
 have hnk:¬PR ov k:=λh=>h.elim hk0 (λh=>h hk)
 have hprI:∀{x},PR ov x->PR (pt ov k m) x:=λ{x} h=>by
  by_cases e:x=k
  ·subst e;exact .inr (by rw[zae];simp)
  ·exact h.imp id λh=>by rw[zcF e];exact h
 have hprE:∀{x},PR (pt ov k m) x->x≠k->PR ov x:=λh e=>h.imp id λh=>by rw[zcF e]at h;exact h
 have hanc:∀{d x},PR ov x->(Anc (pt ov k m) d x↔Anc ov d x):=λ{d x} hx=>by
  constructor
  ·intro h
   induction h with
   |refl=>exact .refl
   |step h1 _ ih=>
    rename_i x y _
    have e:x≠k:=λe=>hnk (e▸hx)
    rw[zcF e]at h1
    exact .step h1 (ih (t.up _ _ h1).2)
  ·intro h
   induction h with
   |refl=>exact .refl
   |step h1 _ ih=>
    rename_i x y _
    have e:x≠k:=λe=>hnk (e▸hx)
    exact .step (by rw[zcF e];exact h1) (ih (t.up _ _ h1).2)
 refine⟨⟨by rw[zcF (Ne.symm hk0)];exact t.root,λx y hy=>?_⟩,.inr (by rw[zae];simp),λx o ho d=>?_,λx=>.inl rfl⟩
 ·by_cases e:x=k
  ·subst e;rw[zae]at hy;cases hy;exact⟨hlt,hprI hpm⟩
  ·rw[zcF e]at hy
   have:=t.up x y hy
   exact⟨this.1,hprI this.2⟩
 ·have key:∀o,PR ov o->Ym ov (λp=>E p x/\PR ov p) o->(Anc (pt ov k m) d o↔∀p,(E p x/\PR (pt ov k m) p/\p≠k)->Anc (pt ov k m) d p):=λo hpo hmo=>by
   rw[hanc hpo,hmo d]
   constructor
   ·intro hh p hp
    have:=hprE hp.2.1 hp.2.2
    exact(hanc this).2 (hh p ⟨hp.1,this⟩)
   ·intro hh p hp
    exact(hanc hp.2).1 (hh p ⟨hp.1,hprI hp.2,λe=>hnk (e▸hp.2)⟩)
  by_cases e:x=k
  ·subst e
   rw[zae]at ho
   cases ho
   exact key m hpm hm
  ·rw[zcF e]at ho
   exact key o (t.up _ _ ho).2 (hc x o ho)
theorem Ph.empty(h0:∀x,ov x=none):Ph rk E 0 ov ov:=
 ⟨⟨h0 0,λx y h=>(by rw[h0]at h;cases h)⟩,.inl rfl,λk o h=>(by rw[h0]at h;cases h),λ_=>.inl rfl⟩
end
end Go.Dm
namespace Go.Dm
open Go.Gr
abbrev Ed(nx:List (List Nat))(p x:Nat):Prop:=x∈nx.getD p []
structure DI (nx:List (List Nat)) (rk:Nat->Nat) (ov:Nat->Option Nat):Prop where
 b:∀x y,ov x=some y->∀d:Nat,rk d<rk y->ReachN nx (d:Int) y->ReachN nx (d:Int) x
 dom:∀x,PR ov x->∀d:Nat,d≠x->¬ReachN nx (d:Int) x->Anc ov d x
section
variable {nx:List (List Nat)} {rk:Nat->Nat} {ov:Nat->Option Nat}
theorem DI.down(h:DI nx rk ov)(t:Tr rk ov){y x d:Nat}(ha:Anc ov y x)(hd:rk d<rk y)(hr:ReachN nx (d:Int) y):ReachN nx (d:Int) x:=by
 induction ha with
 |refl=>exact hr
 |step h1 h2 ih=>
  refine h.b _ _ h1 d ?_ ih
  rcases h2.le t with e |e
  ·subst e;exact hd
  ·omega
theorem DI.empty(h0:∀x,ov x=none)(hn:0<nx.length):DI nx rk ov:=by
 refine⟨λx y h=>(by rw[h0]at h;cases h),λx hx d hd hr=>?_⟩
 rcases hx with rfl |hx
 ·exact absurd (.zero (by omega) hn) hr
 ·exact absurd (h0 x) hx
theorem DI.pt(h:DI nx rk ov)(t:Tr rk ov){k m:Nat}(hm:Ym ov (λp=>Ed nx p k/\PR ov p) m)(hex:∃p,Ed nx p k/\PR ov p)(hlt:rk m<rk k):DI nx rk (pt ov k m):=by
 have keepm:∀{d z},rk z<rk k->Anc ov d z->Anc (Dm.pt ov k m) d z:=λhz ha=>by
  induction ha with
  |refl=>exact .refl
  |step h1 _ ih=>
   rename_i x y _
   have e:x≠k:=by rintro rfl;omega
   have:=(t.up x y h1).1
   exact .step (by rw[zcF e];exact h1) (ih (by omega))
 have atk:∀d:Nat,d≠k->¬ReachN nx (d:Int) k->Anc (Dm.pt ov k m) d k:=λd hd hr=>by
  refine .step (zae _ _ _) (keepm hlt ((hm d).2 λp hp=>?_))
  by_cases e:d=p
  ·subst e;exact .refl
  ·exact h.dom p hp.2 d e λhw=>hr (.step hw hp.1 (by omega))
 have move:∀{d x},Anc ov d x->¬ReachN nx (d:Int) x->Anc (Dm.pt ov k m) d x:=λha=>by
  induction ha with
  |refl=>exact λ_=>.refl
  |step h1 h2 ih=>
   rename_i d _ x y
   intro hr
   by_cases e:x=k
   ·subst e
    by_cases ed:d=x
    ·subst ed;exact .refl
    ·exact atk d ed hr
   ·refine .step (by rw[zcF e];exact h1) ?_
    rcases h2.le t with ed |ed
    ·subst ed;exact .refl
    ·exact ih λhw=>hr (h.b _ _ h1 d ed hw)
 refine⟨λx y hy d hd hr=>?_,λx hx d hd hr=>?_⟩
 ·by_cases e:x=k
  ·subst e
   rw[zae]at hy
   cases hy
   obtain⟨p,hp⟩:=hex
   exact .step (h.down t ((hm m).1 .refl p hp) hd hr) hp.1 (λe=>by
    have e:x=d:=by omega
    subst e
    omega)
  ·rw[zcF e]at hy
   exact h.b x y hy d hd hr
 ·by_cases e:x=k
  ·subst e;exact atk d hd hr
  ·exact move (h.dom x (hx.imp id λh=>by rw[zcF e]at h;exact h) d hd hr) hr
theorem DI.iff(h:DI nx rk ov)(t:Tr rk ov)(hpr:∀x,ReachN nx (-1) x->PR ov x)(hfix:∀x c,ov x=some c->Ym ov (λp=>Ed nx p x/\PR ov p) c){d x:Nat}(hx:ReachN nx (-1) x) :
  Anc ov d x↔d=x\/¬ReachN nx (d:Int) x:=by
 constructor
 ·intro ha
  refine Classical.or_iff_not_imp_left.2 λhne hw=>?_
  have all:∀{wo:Int} {z:Nat},ReachN nx wo z->wo=(d:Int)->ReachN nx (-1) z:=λ{wo z} hz=>by
   induction hz with
   |zero _ h2=>exact λ_=>.zero (by decide) h2
   |step _ ht _ ih=>exact λe=>.step (ih e) ht (by omega)
  have key:∀{wo:Int} {z:Nat},ReachN nx wo z->wo=(d:Int)->d≠z->¬Anc ov d z:=λ{wo z} hz=>by
   induction hz with
   |zero h1 h2=>exact λe hdz ha=>hdz (ha.none t.root)
   |step hi ht hw ih=>
    rename_i i u
    intro e hdu ha
    rcases ha.inv with e' | ⟨c,hc,ha⟩
    ·exact hdu e'
    ·have hdi:d≠i:=by
      rintro rfl
      cases hi with
      |zero h1 h2=>exact h1 (by omega)
      |step _ _ h3=>exact h3 (by omega)
     exact ih e hdi ((hfix u c hc d).1 ha i ⟨ht,hpr i (all hi e)⟩)
  exact key hw rfl hne ha
 ·rintro(rfl |hw)
  ·exact .refl
  ·by_cases e:d=x
   ·subst e;exact .refl
   ·exact h.dom x (hpr x hx) d e hw
end
theorem zjP{p q:Nat->Bool}:∀{l:List Nat},(∀x,p x=true->q x=true)->(∃x∈l,q x=true/\p x=false)->l.countP p<l.countP q
 | [],_,⟨_,h,_⟩=>by cases h
 |y::r,hpq,⟨x,hx,h1,h2⟩=>by
  have hle:r.countP p<=r.countP q:=List.countP_mono_left λx _ h=>hpq x h
  rcases List.mem_cons.1 hx with rfl |hx
  ·rw[List.countP_cons_of_neg (by simp[h2]),List.countP_cons_of_pos h1]
   omega
  ·have:=zjP hpq ⟨x,hx,h1,h2⟩
   by_cases hp:p y=true
   ·rw[List.countP_cons_of_pos hp,List.countP_cons_of_pos (hpq y hp)]
    omega
   ·rw[List.countP_cons_of_neg hp]
    by_cases hq:q y=true
    ·rw[List.countP_cons_of_pos hq];omega
    ·rw[List.countP_cons_of_neg hq];exact this
def rkOf(od:List Nat)(x:Nat):Nat:=od.idxOf x
structure SS (nx:List (List Nat)) (od:List Nat) (ov:Nat->Option Nat) (j:Nat):Prop where
 di:DI nx (rkOf od) ov
 ph:∃v ov0 K,Ph (rkOf od) (Ed nx) v ov0 ov/\1<=K/\K<=od.length/\(∀x,PR ov x↔x∈od.take K)/\j=(od.length-K)*(od.length+1)+od.countP λx=>decide (ov x=ov0 x)
structure OdOk (nx:List (List Nat)) (od:List Nat):Prop where
 head:∃l,od=0::l
 nodup:od.Nodup
 par:∀k (hk:k<od.length),0<k->∃j,∃hj:j<k,od[k]∈nx.getD (od[j]'(by omega)) []
section
variable {nx:List (List Nat)} {od:List Nat} {ov:Nat->Option Nat} {j:Nat}
theorem Yj(h:od.Nodup){k:Nat}(hk:k<od.length):rkOf od od[k]=k:=List.Nodup.idxOf_getElem h k hk
theorem SS.tr(h:SS nx od ov j):Tr (rkOf od) ov:=let⟨_,_,_,h1,_⟩:=h.ph;h1.tr
theorem SS.start(ok:OdOk nx od)(hn:0<nx.length)(h0:∀x,ov x=none):∃j,SS nx od ov j:=by
 obtain⟨l,hl⟩:=ok.head
 refine⟨_,.empty h0 hn,0,ov,1,.empty h0,Nat.le_refl _,by rw[hl];simp,λx=>?_,rfl⟩
 rw[hl]
 simp[PR,h0]
theorem SS.next(ok:OdOk nx od)(h:SS nx od ov j){i m:Nat}(hi:i<od.length)(h0:od[i]≠0)
  (hpre:∀k (hk:k<i),od[k]≠0->∃c,ov od[k]=some c/\Ym ov (λp=>Ed nx p od[k]/\PR ov p) c)
  (hm:Ym ov (λp=>Ed nx p od[i]/\PR ov p) m) (hpm:PR ov m) (hne:ov od[i]≠some m):∃j',j'<j/\SS nx od (pt ov od[i] m) j':=by
 obtain⟨hdi,v,ov0,K,hph,hK1,hK,hpr,rfl⟩:=h
 have t:=hph.tr
 have hi0:0<i:=by
  obtain⟨l,hl⟩:=ok.head
  rcases Nat.eq_zero_or_pos i with e |e
  ·subst e;exact absurd (by simp[hl]) h0
  ·exact e
 have hprei:∀k (hk:k<i),PR ov od[k]:=λk hk=>by
  by_cases e:od[k]=0
  ·exact .inl e
  ·obtain⟨c,hc,_⟩:=hpre k hk e
   exact .inr (by rw[hc];simp)
 obtain⟨q,hq,hqe⟩:=ok.par i hi hi0
 have hex:∃p,Ed nx p od[i]/\PR ov p:=⟨_,hqe,hprei q hq⟩
 have hlt:rkOf od m<rkOf od od[i]:=by
  rw[Yj ok.nodup hi]
  have ha:=(hm m).1 .refl _ ⟨hqe,hprei q hq⟩
  rcases ha.le t with e |e
  ·rw[e,Yj ok.nodup];exact hq
  ·rw[Yj ok.nodup]at e;omega
 have hdi':=hdi.pt t hm hex hlt
 have memtake:∀k (hk:k<od.length),od[k]∈od.take K↔k<K:=λk hk=>by
  constructor
  ·intro hh
   obtain⟨k',hk',e⟩:=List.mem_iff_getElem.1 hh
   rw[List.getElem_take]at e
   have h1:=Yj ok.nodup hk
   have h2:=Yj ok.nodup (k:=k') (by rw[List.length_take]at hk';omega)
   rw[e,h1]at h2
   rw[List.length_take]at hk'
   omega
  ·intro hh
   exact List.mem_iff_getElem.2 ⟨k,by rw[List.length_take];omega,by simp⟩
 have hmul:(od.length-K)*(od.length+1)=(od.length-K)*od.length+(od.length-K):=Nat.mul_succ _ _
 by_cases hiK:i<K
 ·
  have hpi:PR ov od[i]:=(hpr _).2 ((memtake i hi).2 hiK)
  obtain⟨c,hc⟩:∃c,ov od[i]=some c:=by
   rcases hpi with e |e
   ·exact absurd e h0
   ·cases e':ov od[i] with
    |none=>exact absurd e' e
    |some c=>exact⟨c,rfl⟩
  obtain⟨g1,g2,_,_⟩:=hph.move hc hm (λe=>hne (by rw[hc,e]))
  refine⟨_,?_,hdi',v,ov0,K,g2,hK1,hK,λx=>?_,rfl⟩
  ·refine Nat.add_lt_add_left (zjP (λx hx=>?_) ⟨od[i],List.getElem_mem hi,by simp[g1],?_⟩) _
   ·by_cases e:x=od[i]
    ·subst e
     simp[g1]
    ·simpa[zcF e] using hx
   ·rw[zae,decide_eq_false_iff_not,<-g1]
    exact λe=>hne e.symm
  ·rw[<-hpr x]
   unfold PR
   by_cases e:x=od[i]
   ·subst e;rw[zae,hc];simp
   ·rw[zcF e]
 ·
  have hiK':i=K:=by
   have:¬K<i:=λhKi=>by
    have:=(memtake K (by omega)).1 ((hpr _).1 (hprei K hKi))
    omega
   omega
  have hnone:ov od[i]=none:=by
   have:¬PR ov od[i]:=λhh=>hiK ((memtake i hi).1 ((hpr _).1 hh))
   cases e:ov od[i] with
   |none=>rfl
   |some c=>exact absurd (.inr (by rw[e];simp)) this
  have hall:∀x c,ov x=some c->Ym ov (λp=>Ed nx p x/\PR ov p) c:=λx c hc=>by
   obtain⟨k,hk,e⟩:=List.mem_iff_getElem.1 ((hpr x).1 (.inr (by rw[hc];simp)))
   rw[List.getElem_take]at e
   rw[List.length_take]at hk
   have hx0:x≠0:=by rintro rfl;rw[t.root]at hc;cases hc
   obtain⟨c',hc',hm'⟩:=hpre k (by omega) (by rw[e];exact hx0)
   simp only[e]at hc' hm'
   rw[hc]at hc'
   cases hc'
   exact hm'
  refine⟨_,?_,hdi',od[i],pt ov od[i] m,K+1,Ph.start t hall hnone h0 hm hpm hlt,by omega,by omega,λx=>?_,rfl⟩
  ·have hcl:od.countP (λx=>decide (pt ov od[i] m x=pt ov od[i] m x))<=od.length:=List.countP_le_length
   have h2:(od.length-K)*(od.length+1)=(od.length-(K+1))*(od.length+1)+(od.length+1):=by
    rw[show od.length-K=od.length-(K+1)+1 by omega,Nat.succ_mul]
   omega
  ·have e1:od.take (K+1)=od.take K++[od[i]]:=by
    subst hiK'
    exact List.take_succ_eq_append_getElem hi
   rw[e1,List.mem_append,List.mem_singleton,<-hpr x]
   unfold PR
   by_cases e:x=od[i]
   ·subst e;rw[zae];simp
   ·rw[zcF e];simp[e]
end
end Go.Dm
namespace Go.Proofs
open Go.Gk
set_option linter.unusedVariables false
set_option maxRecDepth 100000
end Go.Proofs
namespace Go.Gk
open Go.RowKit
theorem Blk.put{w:World}{b:Nat}{T:TypeId}{cs:List Value}(h:Blk w b T cs){l:Nat}(hl:b≠l)(o:Obj):Blk (w.putObj l o) b T cs:=h.of_block (World.putObj_heap_other hl)
theorem _root_.Go.RowKit.Below.putObj{B:Nat}{w w':World}(h:Below B w w'){b:Nat}(hb:B<=b)(o:Obj):Below B w (w'.putObj b o):=
 ⟨h.os,h.tape,h.output,by simpa using h.size,λk hk=>(World.putObj_heap_other (by omega)).trans (h.block k hk)⟩
theorem zA{w:World}{b k:Nat}(h:k≠b)(n:Nat)(v:Value):(w.setCell ((blk b).add n) v).heap[k]? =w.heap[k]?:=Below.heap_setCell _ _ _ _ (by rw[zn];exact h)
theorem zd5(w:World)(o o':Obj):Below w.heap.size w ((w.alloc o).alloc o'):=(((Below.refl _ _).alloc (Nat.le_refl _) o).alloc (by simp) o')
theorem zka(w:World)(o o':Obj):((w.alloc o).alloc o').heap.size=w.heap.size+2:=by simp
theorem znv(w:World)(o o':Obj):((w.alloc o).alloc o').heap[w.heap.size]? =some o:=(zhi (w.alloc o) o' (by simp)).trans (World.alloc_heap_new w o)
theorem znw(w:World)(o o':Obj):((w.alloc o).alloc o').heap[w.heap.size+1]? =some o':=by
 have:=World.alloc_heap_new (w.alloc o) o'
 simpa using this
theorem zdy{d:Nat}{w:World}{k:World->Prop}(h:w.heap[d]? =some (.deferred (some [])))(hk:k (w.putObj d (.deferred none))):Yp [d] w k:=⟨h,hk⟩
theorem zV.mono{P:Program}{fs:List Nat}{f:Value}{args:List Value}{w:World}{S T:VWP}(h:zV P fs f args w S)(hk:∀v w',S v w'->T v w'):zV P fs f args w T:=by
 revert h
 unfold zV
 split
 ·split
  ·exact λh=>zb.mono h hk
  ·rintro⟨v,w',h1,h2⟩
   exact⟨v,w',h1,hk _ _ h2⟩
 ·rintro⟨r,h1,h2,h3⟩
  exact⟨r,h1,h2,RoundIn.mono h3 λe w' he=>by cases e<;>first |exact hk _ _ he |exact he.elim⟩
 ·exact id
end Go.Gk
namespace Go.Gk
open Go.RowKit Go.MapKept
variable {P:Program}
def zC:List (Int×Int)->Int->Option Int
 | [],_=>none
 |p::r,k=>if k=p.1 then some p.2 else zC r k
def setL:List (Int×Int)->Int->Int->List (Int×Int)
 | [],k,v=>[(k,v)]
 |p::r,k,v=>if k=p.1 then(k,v)::r else p::setL r k v
theorem zfo(k v k':Int):∀L,zC (setL L k v) k'=if k'=k then some v else zC L k'
 | []=>by simp only[setL,zC]
 |p::r=>by
  have ih:=zfo k v k' r
  simp only[setL]
  split
  ·rename_i e
   simp only[zC]
   split
   ·rfl
   ·rename_i e'
    rw[if_neg (by rw[<-e];exact e')]
  ·rename_i e
   simp only[zC]
   split
   ·rename_i e'
    rw[if_neg (by rw[e'];exact λh=>e h.symm)]
   ·exact ih
def IsMp(w:World)(r:Nat)(κ:IntKind)(L:List (Int×Int)):Prop:=
 ∃es clock,w.heap[r]? =some (.map es clock)/\es.toList.map (λe=>(e.key,e.val))=(L.map λp=>(Value.int .u32 p.1,Value.int κ p.2))/\(∀x∈es.toList,x.born<clock)/\(es.toList.map (·.born)).Nodup
theorem IsMp.lt{w:World}{r:Nat}{κ:IntKind}{L:List (Int×Int)}(h:IsMp w r κ L):r<w.heap.size:=by
 obtain⟨es,c,h,_⟩:=h
 exact(Array.getElem?_eq_some_iff.1 h).1
theorem IsMp.of_block{w w':World}{r:Nat}{κ:IntKind}{L:List (Int×Int)}(h:IsMp w r κ L)(hb:w'.heap[r]? =w.heap[r]?):IsMp w' r κ L:=by
 obtain⟨es,c,h,h2⟩:=h
 exact⟨es,c,hb.trans h,h2⟩
theorem IsMp.below{w w':World}{r:Nat}{κ:IntKind}{L:List (Int×Int)}(h:IsMp w r κ L)(hb:Below w.heap.size w w'):IsMp w' r κ L:=h.of_block (hb.block r h.lt)
theorem IsMp.new(w:World)(κ:IntKind):IsMp (w.alloc (.map #[] 0)) w.heap.size κ []:=⟨#[],0,by show(w.heap.push _)[w.heap.size]? =_;simp,rfl,(by simp),by simp⟩
theorem zio(κ:IntKind)(k:Int):∀(es:List MapEntry) (L:List (Int×Int)) (i:Nat),es.map (λe=>(e.key,e.val))=(L.map λp=>(Value.int .u32 p.1,Value.int κ p.2))->
  ∃o,Instr.findNow (.int .u32) (.int .u32 k) es i=some o/\(match o with
   |none=>zC L k=none
   |some (j,v)=>∃m x,j=i+m/\m<es.length/\v =.int κ x/\zC L k=some x/\∃e,es[m]? =some e/\e.key =.int .u32 k/\∀v',(es.modify m λe=>{e with key:=.int .u32 k,val:=.int κ v'}).map (λe=>(e.key,e.val))=(setL L k v').map λp=>(Value.int .u32 p.1,Value.int κ p.2))
 | [],[],i,_=>⟨none,rfl,rfl⟩
 | [],_::_,_,h=>by simp at h
 |_::_,[],_,h=>by simp at h
 |e::es,p::L,i,h=>by
  simp only[List.map_cons,List.cons.injEq,Prod.mk.injEq]at h
  obtain⟨⟨h1,h2⟩,h3⟩:=h
  unfold Instr.findNow
  rw[h1]
  simp only[Instr.sameNow,if_true]
  by_cases hk:k=p.1
  ·rw[show(k==p.1)=true from beq_iff_eq.2 hk]
   refine⟨some (i,e.val),rfl,0,p.2,rfl,by simp,h2,by simp[zC,hk],e,rfl,by rw[h1,hk],λv'=>?_⟩
   simp[setL,hk,h3]
  ·rw[show(k==p.1)=false from beq_eq_false_iff_ne.2 hk]
   obtain⟨o,ho,hm⟩:=zio κ k es L (i+1) h3
   refine⟨o,ho,?_⟩
   cases o with
   |none=>simpa[zC,hk] using hm
   |some q=>
    obtain⟨j,v⟩:=q
    obtain⟨m,x,g1,g2,g3,g4,e',g5,g6,g7⟩:=hm
    refine⟨m+1,x,by omega,by simp;omega,g3,by simpa[zC,hk] using g4,e',by simpa using g5,g6,λv'=>?_⟩
    have:=g7 v'
    simp[setL,hk,h1,h2,this]
theorem zkG{t kt et:TypeId}(ht:P.underlying t=some (.map kt et))(hk:P.underlying kt=some (.int .u32)){κ:IntKind}(hz:∃i,P.info? et=some i/\i.zero=some (.int κ 0)){w:World}{r:Nat}{L:List (Int×Int)}(h:IsMp w r κ L)(k:Int)(ok:Bool) :
  (Instr.lookup t (.map (some r)) (.int .u32 k) ok).run P w =.ok (if ok then .tuple #[.int κ ((zC L k).getD 0),.bool (zC L k).isSome] else .int κ ((zC L k).getD 0)) w:=by
 obtain⟨es,c,hb,hes,_⟩:=h
 obtain⟨i,hi,hzi⟩:=hz
 obtain⟨o,ho,hm⟩:=zio κ k es.toList L 0 hes
 unfold Instr.lookup
 have hck:∀e,(Instr.checkKey e 10000 kt (.int .u32 k)).run P w =.ok () w:=λe=>run_checkKey (d:=.int .u32) hk (by simp[IsKey]) e 9999
 have hg:(getObj r).run P w =.ok (.map es c) w:=Go.MapKept.run_getObj_map hb
 simp only[Sem.run_bind,run_underlying ht,Result.andThen_ok,hg,Sem.run_pure,hck,run_findKey hk ho]
 cases o with
 |none=>
  have hzr:(zeroValue et).run P w =.ok (.int κ 0) w:=by simp[zeroValue,typeInfo,hi,hzi,Result.andThen]
  have hm:zC L k=none:=hm
  simp only[Sem.run_bind,hzr,Result.andThen_ok,Sem.run_pure,hm,Option.getD_none,Option.isSome_none]
 |some q=>
  obtain⟨j,v⟩:=q
  obtain⟨m,x,g1,g2,g3,g4,_⟩:=hm
  simp only[Sem.run_bind,Sem.run_pure,Result.andThen_ok,g3,g4,Option.getD_some,Option.isSome_some]
theorem zmL{t kt et:TypeId}(ht:P.underlying t=some (.map kt et))(hk:P.underlying kt=some (.int .u32)){κ:IntKind}(hz:∃i,P.info? et=some i/\i.zero=some (.int κ 0)){w:World}{r:Nat}{L:List (Int×Int)}(h:IsMp w r κ L){k:Int}{φ:Int->Bool->Prop}
  (hφ:φ ((zC L k).getD 0) (zC L k).isSome):zny P t (.map (some r)) (.int .u32 k) (BK.int κ) w φ:=⟨(zC L k).getD 0,(zC L k).isSome,zkG ht hk hz h k true,hφ⟩
theorem zrY{t kt et:TypeId}(ht:P.underlying t=some (.map kt et))(hk:P.underlying kt=some (.int .u32)){κ:IntKind}(hz:∃i,P.info? et=some i/\i.zero=some (.int κ 0)){w:World}{r:Nat}{L:List (Int×Int)}(h:IsMp w r κ L){k:Int}{φ:Int->Prop}
  (hφ:φ ((zC L k).getD 0)):zrX P t (.map (some r)) (.int .u32 k) (BK.int κ) w φ:=⟨(zC L k).getD 0,zkG ht hk hz h k false,hφ⟩
theorem zq1{t kt et:TypeId}(ht:P.underlying t=some (.map kt et))(hk:P.underlying kt=some (.int .u32)){κ:IntKind}{w:World}{r:Nat}{L:List (Int×Int)}(h:IsMp w r κ L){k v:Int}{K:World->Prop}
  (hK:∀w',IsMp w' r κ (setL L k v)->Go.Proofs.Chg r w w'->K w'):updW P t (.map (some r)) (.int .u32 k) (.int κ v) w K:=by
 have hlt:=h.lt
 obtain⟨es,c,hb,hes,hstamp,hnd⟩:=h
 obtain⟨o,ho,hm⟩:=zio κ k es.toList L 0 hes
 have hck:∀e,(Instr.checkKey e 10000 kt (.int .u32 k)).run P w =.ok () w:=λe=>run_checkKey (d:=.int .u32) hk (by simp[IsKey]) e 9999
 have hg:(getObj r).run P w =.ok (.map es c) w:=Go.MapKept.run_getObj_map hb
 have chg:∀ob:Obj,Go.Proofs.Chg r w {w with heap:=w.heap.setIfInBounds r ob}:=λob=>⟨rfl,rfl,rfl,by simp,λi hi=>by simp[Array.getElem?_setIfInBounds_ne (Ne.symm hi)]⟩
 unfold updW Instr.mapUpdate
 simp only[Sem.run_bind,run_underlying ht,Result.andThen_ok,hg,Sem.run_pure,hck,run_findKey hk ho]
 cases o with
 |none=>
  simp only[run_setObj_map _ hb]
  refine⟨_,rfl,hK _ ⟨_,_,(heap_set hb).1,?_,λx hx=>?_,?_⟩ (chg _)⟩
  rotate_left
  ·rw[Array.toList_push]at hx
   rcases List.mem_append.1 hx with hx |hx
   ·exact Nat.lt_succ_of_lt (hstamp x hx)
   ·rw[List.mem_singleton.1 hx]
    exact Nat.lt_succ_self c
  ·rw[Array.toList_push,List.map_append]
   refine List.nodup_append.2 ⟨hnd,by simp,?_⟩
   intro a ha b hb e
   obtain⟨x,hx,rfl⟩:=List.mem_map.1 ha
   simp only[List.map_cons,List.map_nil,List.mem_singleton]at hb
   have:=hstamp x hx
   omega
  simp only[Array.toList_push,List.map_append,hes,List.map_cons,List.map_nil]
  have:∀L:List (Int×Int),zC L k=none->setL L k v=L++[(k,v)]:=by
   intro L
   induction L with
   |nil=>intro _;rfl
   |cons p r ih=>
    intro hn
    simp only[zC]at hn
    split at hn
    ·cases hn
    ·rename_i e
     simp only[setL]
     rw[if_neg e,ih hn]
     rfl
  rw[this L hm]
  simp
 |some q=>
  obtain⟨j,v0⟩:=q
  obtain⟨m,x,g1,g2,g3,g4,e,g5,g6,g7⟩:=hm
  have hj:j=m:=by omega
  subst hj
  have hst:(Instr.keyThatStays (((es[j]?).map (·.key)).getD (.int .u32 k)) (.int .u32 k)).run P w =.ok (.int .u32 k) w:=by
   have:((es[j]?).map (·.key)).getD (.int .u32 k) =.int .u32 k:=by
    rw[<-Array.getElem?_toList,g5]
    exact g6
   rw[this]
   unfold Instr.keyThatStays
   rw[if_pos (by simp[Instr.sameBits])]
   rfl
  simp only[Sem.run_bind,hst,Result.andThen_ok,run_setObj_map _ hb]
  have hbn:(es.modify j λe=>{e with key:=.int .u32 k,val:=.int κ v}).toList.map (·.born)=es.toList.map (·.born):=by
   rw[Array.toList_modify]
   apply List.ext_getElem
   ·simp
   ·intro n q1 q2
    simp only[List.getElem_map,List.getElem_modify]
    split<;>rfl
  refine⟨_,rfl,hK _ ⟨_,_,(heap_set hb).1,?_,λx hx=>?_,by rw[hbn];exact hnd⟩ (chg _)⟩
  rotate_left
  ·have:x.born∈es.toList.map (·.born):=by rw[<-hbn];exact List.mem_map.2 ⟨x,hx,rfl⟩
   obtain⟨y,hy,e⟩:=List.mem_map.1 this
   rw[<-e]
   exact hstamp y hy
  have:=g7 v
  rw[<-this]
  congr 1
  rw[Array.toList_modify]
end Go.Gk
namespace Go.Proofs
open Go.Gk Go.RowKit Go.Gr
end Go.Proofs
namespace Go.Proofs
open Go.Gk Go.RowKit Go.Gr Go.Dm
def ovI:Option Nat->Int
 |none=>-1
 |some y=>(y:Int)
def natL(n:Nat)(f:Nat->Int):List Value:=(List.range n).map λi=>.int .i64 (f i)
theorem zju{n i:Nat}{f:Nat->Int}(hi:i<n):(natL n f)[i]? =some (.int .i64 (f i)):=by simp[natL,hi]
theorem zlK{n i:Nat}{f:Nat->Int}(v:Int):(natL n f).set i (.int .i64 v)=natL n λj=>if j=i then v else f j:=by
 apply List.ext_getElem
 ·simp[natL]
 ·intro j h1 h2
  rw[List.getElem_set]
  by_cases e:i=j
  ·subst e;simp[natL]
  ·rw[if_neg e];simp[natL,Ne.symm e]
theorem zfP{n:Nat}{f g:Nat->Int}(h:∀i,i<n->f i=g i):natL n f=natL n g:=List.map_congr_left λi hi=>by rw[h i (List.mem_range.1 hi)]
theorem ziw(n:Nat)(v:Int):natL n (λ_=>v)=List.replicate n (.int .i64 v):=by
 apply List.ext_getElem<;>simp[natL]
structure TB (w:World) (tb gb ob db rb n:Nat) (o d r:Nat->Int):Prop where
 t:Blk w tb 245 [.pointer (some (Gk.blk gb)),.slice (some (Gk.blk ob)) n n,.slice (some (Gk.blk db)) n n,.slice (some (Gk.blk rb)) n n]
 o:Blk w ob 3 (natL n o)
 d:Blk w db 3 (natL n d)
 r:Blk w rb 3 (natL n r)
 ne:ob≠db/\ob≠rb/\db≠rb
section
variable {w w':World} {tb gb ob db rb n:Nat} {o d r:Nat->Int}
theorem TB.below(h:TB w tb gb ob db rb n o d r)(hb:Below w.heap.size w w'):TB w' tb gb ob db rb n o d r:=⟨h.t.below hb,h.o.below hb,h.d.below hb,h.r.below hb,h.ne⟩
theorem TB.of_o{o':Nat->Int}(h:TB w tb gb ob db rb n o d r)(he:∀i,i<n->o i=o' i):TB w tb gb ob db rb n o' d r:=⟨h.t,zfP he▸h.o,h.d,h.r,h.ne⟩
theorem TB.setO(h:TB w tb gb ob db rb n o d r)(i:Nat)(v:Int):TB (w.setCell ((Gk.blk ob).add i) (.int .i64 v)) tb gb ob db rb n (λj=>if j=i then v else o j) d r:=by
 obtain⟨n1,n2,n3⟩:=h.ne
 exact⟨h.t.other (by rw[zn];exact h.t.apart h.o (by decide)) _,zlK (f:=o) v▸h.o.set i _,h.d.other (by rw[zn];exact n1.symm) _,h.r.other (by rw[zn];exact n2.symm) _,h.ne⟩
theorem TB.setD(h:TB w tb gb ob db rb n o d r)(i:Nat)(v:Int):TB (w.setCell ((Gk.blk db).add i) (.int .i64 v)) tb gb ob db rb n o (λj=>if j=i then v else d j) r:=by
 obtain⟨n1,n2,n3⟩:=h.ne
 exact⟨h.t.other (by rw[zn];exact h.t.apart h.d (by decide)) _,h.o.other (by rw[zn];exact n1) _,zlK (f:=d) v▸h.d.set i _,h.r.other (by rw[zn];exact n3.symm) _,h.ne⟩
theorem TB.setR(h:TB w tb gb ob db rb n o d r)(i:Nat)(v:Int):TB (w.setCell ((Gk.blk rb).add i) (.int .i64 v)) tb gb ob db rb n o d (λj=>if j=i then v else r j):=by
 obtain⟨n1,n2,n3⟩:=h.ne
 exact⟨h.t.other (by rw[zn];exact h.t.apart h.r (by decide)) _,h.o.other (by rw[zn];exact n2) _,h.d.other (by rw[zn];exact n3) _,zlK (f:=r) v▸h.r.set i _,h.ne⟩
theorem TB.getO(h:TB w tb gb ob db rb n o d r){i:Nat}(hi:i<n){φ:Int->Prop}(hφ:φ (o i)) :
  zc (some (Gk.blk tb)) λa=>ldS w (a.add 1) λx=>(0<=(i:Int)/\(i:Int)<(x.l:Int))/\zc x.a λa'=>ldI w (a'.add (Int.toNat (i:Int))) .i64 φ:=
 ⟨⟨_,n,n⟩,h.t.cell (n:=1) rfl,⟨by omega,by first |omega | (dsimp only;omega)⟩,zf rfl ⟨_,h.o.cell (zju hi),hφ⟩⟩
theorem TB.getD(h:TB w tb gb ob db rb n o d r){i:Nat}(hi:i<n){φ:Int->Prop}(hφ:φ (d i)) :
  zc (some (Gk.blk tb)) λa=>ldS w (a.add 2) λx=>(0<=(i:Int)/\(i:Int)<(x.l:Int))/\zc x.a λa'=>ldI w (a'.add (Int.toNat (i:Int))) .i64 φ:=
 ⟨⟨_,n,n⟩,h.t.cell (n:=2) rfl,⟨by omega,by first |omega | (dsimp only;omega)⟩,zf rfl ⟨_,h.d.cell (zju hi),hφ⟩⟩
theorem TB.getR(h:TB w tb gb ob db rb n o d r){i:Nat}(hi:i<n){φ:Int->Prop}(hφ:φ (r i)) :
  zc (some (Gk.blk tb)) λa=>ldS w (a.add 3) λx=>(0<=(i:Int)/\(i:Int)<(x.l:Int))/\zc x.a λa'=>ldI w (a'.add (Int.toNat (i:Int))) .i64 φ:=
 ⟨⟨_,n,n⟩,h.t.cell (n:=3) rfl,⟨by omega,by first |omega | (dsimp only;omega)⟩,zf rfl ⟨_,h.r.cell (zju hi),hφ⟩⟩
theorem TB.putO(h:TB w tb gb ob db rb n o d r){i:Nat}(hi:i<n){v:Int}{K:World->Prop}(hK:K (w.setCell ((Gk.blk ob).add i) (.int .i64 v))) :
  zc (some (Gk.blk tb)) λa=>ldS w (a.add 1) λx=>(0<=(i:Int)/\(i:Int)<(x.l:Int))/\zc x.a λa'=>Wr w (a'.add (Int.toNat (i:Int)))/\Nw (w.setCell (a'.add (Int.toNat (i:Int))) (.int .i64 v)) K:=
 ⟨⟨_,n,n⟩,h.t.cell (n:=1) rfl,⟨by omega,by first |omega | (dsimp only;omega)⟩,zf rfl ⟨h.o.wr (by simpa[natL] using hi),Nw.mk hK⟩⟩
theorem TB.putD(h:TB w tb gb ob db rb n o d r){i:Nat}(hi:i<n){v:Int}{K:World->Prop}(hK:K (w.setCell ((Gk.blk db).add i) (.int .i64 v))) :
  zc (some (Gk.blk tb)) λa=>ldS w (a.add 2) λx=>(0<=(i:Int)/\(i:Int)<(x.l:Int))/\zc x.a λa'=>Wr w (a'.add (Int.toNat (i:Int)))/\Nw (w.setCell (a'.add (Int.toNat (i:Int))) (.int .i64 v)) K:=
 ⟨⟨_,n,n⟩,h.t.cell (n:=2) rfl,⟨by omega,by first |omega | (dsimp only;omega)⟩,zf rfl ⟨h.d.wr (by simpa[natL] using hi),Nw.mk hK⟩⟩
theorem TB.putR(h:TB w tb gb ob db rb n o d r){i:Nat}(hi:i<n){v:Int}{K:World->Prop}(hK:K (w.setCell ((Gk.blk rb).add i) (.int .i64 v))) :
  zc (some (Gk.blk tb)) λa=>ldS w (a.add 3) λx=>(0<=(i:Int)/\(i:Int)<(x.l:Int))/\zc x.a λa'=>Wr w (a'.add (Int.toNat (i:Int)))/\Nw (w.setCell (a'.add (Int.toNat (i:Int))) (.int .i64 v)) K:=
 ⟨⟨_,n,n⟩,h.t.cell (n:=3) rfl,⟨by omega,by first |omega | (dsimp only;omega)⟩,zf rfl ⟨h.r.wr (by simpa[natL] using hi),Nw.mk hK⟩⟩
end
def rkI(od:List Nat)(i:Nat):Int:=if i∈od then(rkOf od i:Int) else 0
theorem zqw{od:List Nat}{i:Nat}(h:i∈od):rkI od i=(rkOf od i:Int):=by simp[rkI,h]
theorem zto{od:List Nat}{a b:Nat}(ha:a∈od)(hb:b∈od)(h:rkOf od a=rkOf od b):a=b:=by
 have h1:=List.idxOf_lt_length_of_mem ha
 have h2:=List.idxOf_lt_length_of_mem hb
 have e1:od[od.idxOf a]=a:=List.getElem_idxOf h1
 have e2:od[od.idxOf b]=b:=List.getElem_idxOf h2
 unfold rkOf at h
 rw[<-e1,<-e2]
 simp only[h]
theorem zqY{tb gb ob db rb n:Nat}{d:Nat->Int}{ov:Nat->Option Nat}{od:List Nat}(t:Tr (rkOf od) ov)(hpo:∀x,PR ov x->x∈od)(hlt:∀x∈od,x<n){a b:Nat}{w:World}{R:VWP}
  (h:TB w tb gb ob db rb n (λi=>ovI (ov i)) d (rkI od)) (ha:PR ov a) (hb:PR ov b)
  (hR:∀c w',Below w.heap.size w w'->PR ov c->(∀e,Anc ov e c↔Anc ov e a/\Anc ov e b)->R (.int .i64 (c:Int)) w') :
  cR 235 #[.pointer (some (Gk.blk tb)),.int .i64 (a:Int),.int .i64 (b:Int)] w R:=by
 refine zb.of (zh3 _ _ _ R w ?_) λ_ _ h=>h
 refine zl.ghost (λj s w'=>∃x y:Nat,j=rkOf od x+rkOf od y/\s=((x:Int),(y:Int),())/\PR ov x/\PR ov y/\(∀e,Anc ov e x/\Anc ov e y↔Anc ov e a/\Anc ov e b)/\Below w.heap.size w w') _ ⟨a,b,rfl,rfl,ha,hb,λ_=>Iff.rfl,Below.refl _ _⟩ ?_
 rintro _ _ w' ⟨x,y,rfl,rfl,hx,hy,hxy,hbw⟩ next hnext
 refine zr (λhne=>?_) (λhe=>?_)
 ·have hne:x≠y:=by rintro rfl;exact hne rfl
  have h':=h.below hbw.drew
  have mx:=hpo x hx
  have my:=hpo y hy
  refine zk.cut (λs w2=>w2=w'.drew/\∃p q:Nat,s=((p:Int),(q:Int),())/\((p=x/\q=y)\/(p=y/\q=x))/\rkOf od q<rkOf od p) ?_ ?_
  ·dsimp only
   refine h'.getR (hlt x mx) (h'.getR (hlt y my) ?_)
   rw[zqw mx,zqw my]
   refine zi (λhl=>⟨rfl,y,x,rfl,.inr ⟨rfl,rfl⟩,by omega⟩) (λhl=>⟨rfl,x,y,rfl,.inl ⟨rfl,rfl⟩,?_⟩)
   have:rkOf od x≠rkOf od y:=λe=>hne (zto mx my e)
   omega
  ·rintro _ _ ⟨rfl,p,q,rfl,hpq,hrk⟩
   have hp:PR ov p:=by rcases hpq with⟨rfl,_⟩ | ⟨rfl,_⟩<;>assumption
   have hq:PR ov q:=by rcases hpq with⟨_,rfl⟩ | ⟨_,rfl⟩<;>assumption
   have hsum:rkOf od x+rkOf od y=rkOf od p+rkOf od q:=by rcases hpq with⟨rfl,rfl⟩ | ⟨rfl,rfl⟩<;>omega
   obtain⟨z,hz⟩:∃z,ov p=some z:=by
    cases e:ov p with
    |some z=>exact⟨z,rfl⟩
    |none=>
     rcases hp with rfl |hp
     ·have hz:=t.zero _ q (Nat.le_refl _) hq
      rcases hz.le t with e |e
      ·subst e;omega
      ·omega
     ·exact absurd e hp
   have hzt:=t.up p z hz
   dsimp only
   refine h'.getO (hlt p (hpo p hp)) ?_
   rw[hz]
   refine hnext (rkOf od z+rkOf od q) _ _ (by omega) ⟨z,q,rfl,rfl,hzt.2,hq,λe=>?_,hbw.drew⟩
   rw[<-hxy e]
   have:(Anc ov e x/\Anc ov e y)↔(Anc ov e p/\Anc ov e q):=by
    rcases hpq with⟨rfl,rfl⟩ | ⟨rfl,rfl⟩
    ·exact Iff.rfl
    ·exact And.comm
   rw[this]
   constructor
   ·rintro⟨h1,h2⟩;exact⟨.step hz h1,h2⟩
   ·rintro⟨h1,h2⟩
    refine⟨?_,h2⟩
    rcases h1.inv with rfl | ⟨z',hz',h1⟩
    ·rcases h2.le t with e |e
     ·subst e;omega
     ·omega
    ·rw[hz]at hz';cases hz';exact h1
 ·have he:x=y:=by exact Int.ofNat.inj he
  subst he
  exact hR x w' hbw hx λe=>by rw[<-hxy e];exact⟨λh=>⟨h,h⟩,λh=>h.1⟩
end Go.Proofs
namespace Go.Proofs
open Go.Gk Go.RowKit Go.Gr Go.Dm
theorem zj1{o:Option Nat}:ovI o=-1↔o=none:=by
 cases o with
 |none=>simp[ovI]
 |some y=>simp[ovI]
theorem ztm(ov:Nat->Option Nat)(k m:Nat)(j:Nat):(if j=k then(m:Int) else ovI (ov j))=ovI (pt ov k m j):=by
 unfold pt
 split<;>rfl
structure zne (nx:List (List Nat)) (od:List Nat) (ov:Nat->Option Nat):Prop where
 tr:Tr (rkOf od) ov
 di:DI nx (rkOf od) ov
 pr:∀x,PR ov x↔x∈od
 fix:∀x c,ov x=some c->Ym ov (λp=>Ed nx p x/\PR ov p) c
def Fo(ov:Nat->Option Nat)(l:List Nat)(o:Int):Prop:=
 (o=-1/\∀p∈l,¬PR ov p)\/∃m:Nat,o=(m:Int)/\PR ov m/\(∃p∈l,PR ov p)/\Ym ov (λp=>p∈l/\PR ov p) m
theorem Fo.skip{ov:Nat->Option Nat}{l:List Nat}{o:Int}{p:Nat}(h:Fo ov l o)(hp:¬PR ov p):Fo ov (l++[p]) o:=by
 rcases h with⟨rfl,h⟩ | ⟨m,rfl,h1,⟨q,hq,hq'⟩,h3⟩
 ·exact .inl ⟨rfl,λq hq=>by
   rcases List.mem_append.1 hq with hq |hq
   ·exact h q hq
   ·simp at hq;subst hq;exact hp⟩
 ·refine .inr ⟨m,rfl,h1,⟨q,by simp[hq],hq'⟩,λd=>?_⟩
  rw[h3 d]
  constructor
  ·rintro hh q ⟨hq,hqp⟩
   rcases List.mem_append.1 hq with hq |hq
   ·exact hh q ⟨hq,hqp⟩
   ·simp at hq;subst hq;exact absurd hqp hp
  ·exact λhh q hq=>hh q ⟨by simp[hq.1],hq.2⟩
theorem Fo.first{ov:Nat->Option Nat}{l:List Nat}{p:Nat}(h:Fo ov l (-1))(hp:PR ov p):Fo ov (l++[p]) (p:Int):=by
 rcases h with⟨_,h⟩ | ⟨m,e,_⟩
 ·refine .inr ⟨p,rfl,hp,⟨p,by simp,hp⟩,λd=>⟨?_,λhh=>hh p ⟨by simp,hp⟩⟩⟩
  rintro hd q ⟨hq,hqp⟩
  rcases List.mem_append.1 hq with hq |hq
  ·exact absurd hqp (h q hq)
  ·simp at hq;subst hq;exact hd
 ·omega
theorem Fo.more{ov:Nat->Option Nat}{l:List Nat}{o:Nat}{p c:Nat}(h:Fo ov l (o:Int))(hp:PR ov p)(hc:PR ov c)(hm:∀e,Anc ov e c↔Anc ov e o/\Anc ov e p):Fo ov (l++[p]) (c:Int):=by
 rcases h with⟨e,_⟩ | ⟨m,e,h1,⟨q,hq,hq'⟩,h3⟩
 ·omega
 ·have e:o=m:=by omega
  subst e
  refine .inr ⟨c,rfl,hc,⟨p,by simp,hp⟩,λd=>?_⟩
  rw[hm d,h3 d]
  constructor
  ·rintro⟨hh,hd⟩ q ⟨hq,hqp⟩
   rcases List.mem_append.1 hq with hq |hq
   ·exact hh q ⟨hq,hqp⟩
   ·simp at hq;subst hq;exact hd
  ·exact λhh=>⟨λq hq=>hh q ⟨by simp[hq.1],hq.2⟩,hh p ⟨by simp,hp⟩⟩
set_option maxHeartbeats 4000000 in
theorem zpb{nx:List (List Nat)}(hx:NxOk nx){tb gb ob db rb B:Nat}{d:Nat->Int}{od:List Nat}(ok:OdOk nx od)(hod:∀x∈od,x<nx.length){p1:Sl}{w0 w:World}{R:VWP}
  (hG:IsG w0 gb nx) (hB:B=w0.heap.size) (hob:B<=ob) (hb0:Below B w0 w) (h:TB w tb gb ob db rb nx.length (λ_=>-1) d (rkI od)) (hp1:Own w 3 1 p1 (od.map iN)) (hp2:∀a,p1.a=some a->a.block≠ob)
  (hR:∀w' ov,Below B w0 w'->w.heap.size<=w'.heap.size->(∀k,k<w.heap.size->k≠ob->w'.heap[k]? =w.heap[k]?)->TB w' tb gb ob db rb nx.length (λi=>ovI (ov i)) d (rkI od)->zne nx od ov->R (.tuple #[]) w') :
  cR 188 #[.pointer (some (Gk.blk tb)),.slice p1.a p1.l p1.c] w R:=by
 refine zb.of (zgx _ p1 R w ?_) λ_ _ h=>h
 unfold YL
 have hpl:=yh hp1
 have hmax:=hx.max
 have hodl:od.length<=nx.length:=zac ok.nodup hod
 obtain⟨j0,hs0⟩:=SS.start (od:=od) (ov:=λ_=>none) ok hx.pos (λ_=>rfl)
 let St:(Nat->Option Nat)->World->Prop:=λov w'=>Below B w0 w'/\w.heap.size<=w'.heap.size/\(∀k,k<w.heap.size->k≠ob->w'.heap[k]? =w.heap[k]?)/\TB w' tb gb ob db rb nx.length (λi=>ovI (ov i)) d (rkI od)/\Own w' 3 1 p1 (od.map iN)
 have hBw:B<=w.heap.size:=by rw[hB];rw[hB]at hb0;exact hb0.size
 have grow:∀{ov w1 w2},St ov w1->Below w1.heap.size w1 w2->St ov w2:=λ{ov w1 w2} h hb=>by
  obtain⟨h1,h2,h3,h4,h5⟩:=h
  exact⟨h1.trans (hb.mono (by omega)),by have:=hb.size;omega,λk hk hne=>(hb.block k (by omega)).trans (h3 k hk hne),h4.below hb,h5.below hb⟩
 refine zl.ghost (λj _ w'=>∃ov,SS nx od ov j/\St ov w') j0 ⟨_,hs0,hb0,Nat.le_refl _,λ_ _ _=>rfl,h,hp1⟩ ?_
 rintro j _ w1 ⟨ov,hs,hst⟩ nextR hnextR
 have t:=hs.tr
 have hpo:∀x,PR ov x->x∈od:=λx hxp=>by
  obtain⟨v,ov0,K,_,_,_,hpr,_⟩:=hs.ph
  exact List.mem_of_mem_take ((hpr x).1 hxp)
 let Ok:Nat->Prop:=λk=>∀q (hq:q<od.length),q<k->od[q]≠0->∃c,ov od[q]=some c/\Ym ov (λp=>Ed nx p od[q]/\PR ov p) c
 refine zl.count od.length (by omega) (λk w'=>Ok k/\St ov w') ⟨λq hq h=>absurd h (by omega),hst⟩ ?_
 rintro i w2 hi ⟨hok,hst⟩ next hnext
 refine zi (λhlt=>?_) (λhge=>?_)
 ·have hlt:i<od.length:=by dsimp only at hlt;omega
  refine zk.cut (λ_ w'=>Ok (i+1)/\St ov w') ?_ λ_ w' hh=>hnext w' hlt hh
  refine yv hst.2.2.2.2.isS.toI (k:=i) (by simpa using hlt) ?_
  rw[List.getElem_map]
  refine zj (λhe=>?_) (λhne=>?_)
  ·refine⟨λq hq hlt' hq0=>?_,hst⟩
   by_cases e:q=i
   ·subst e;exact absurd (by exact Int.ofNat.inj he) hq0
   ·exact hok q hq (by omega) hq0
  ·have hne0:od[i]≠0:=λe=>hne (by rw[e];rfl)
   have hT:=hst.2.2.2.1
   refine zf rfl ⟨_,hT.t.cell0 rfl,?_⟩
   have hg2:IsG w2 gb nx:=hG.below (hB▸hst.1)
   refine zlc hx hg2 λr w3 a1 a2 a3=>⟨r,rfl,?_⟩
   rw[zU]at a1
   have hst3:=grow hst a3
   clear a3 hT
   obtain⟨ah,hah⟩:∃ah,ah=(zJ nx).getD od[i] []:=⟨_,rfl⟩
   have hahn:∀p∈ah,p<nx.length:=λp hp=>by
    rw[hah]at hp
    have:=(zjd hx).1 hp
    by_cases hpn:p<nx.length
    ·exact hpn
    ·simp[List.getD,hpn]at this
   have hahl:=zgF nx od[i]
   rw[<-hah]at a1 hahl
   have hrl:=yh a1
   refine zl.ghost (λg st w'=>∃m:Nat,∃o:Int,m<=ah.length/\g=ah.length-m/\st=(o,(m:Int),())/\Fo ov (ah.take m) o/\St ov w'/\Own w' 3 1 r (ah.map iN)) ah.length
    ⟨0,-1,by omega,rfl,rfl,.inl ⟨rfl,by simp⟩,hst3,a1⟩ ?_
   rintro _ _ w4 ⟨m,o,hm,rfl,rfl,hF,hst,a1⟩ nxt hnxt
   have hT:=hst.2.2.2.1
   refine zi (λhltm=>?_) (λhgem=>?_)
   ·have hltm:m<ah.length:=by dsimp only at hltm;omega
    have etk:ah.take (m+1)=ah.take m++[ah[m]]:=List.take_succ_eq_append_getElem hltm
    have hpn:=hahn _ (List.getElem_mem hltm)
    refine zk.cut (λst w'=>∃o':Int,st=(o',())/\Fo ov (ah.take (m+1)) o'/\St ov w'/\Own w' 3 1 r (ah.map iN)) ?_ ?_
    ·refine yv a1.isS.toI (k:=m) (by simpa using hltm) ?_
     rw[List.getElem_map]
     refine zk.cut (λ_ w'=>w'=w4/\PR ov ah[m]) ?_ ?_
     ·refine zr (λhne=>?_) (λhe=>⟨rfl,.inl (Int.ofNat.inj he)⟩)
      refine hT.getO hpn (zj (λhe=>?_) λhne'=>⟨rfl,.inr λe=>hne' (zj1.2 e)⟩)
      refine⟨o,rfl,?_,hst,a1⟩
      rw[etk]
      refine hF.skip λhp=>?_
      rcases hp with hp |hp
      ·exact hne (by rw[hp];rfl)
      ·exact hp (zj1.1 he)
     ·rintro _ _ ⟨rfl,hp⟩
      refine zj (λhe=>⟨_,rfl,?_,hst,a1⟩) (λhne=>?_)
      ·rw[etk]
       dsimp only at he
       exact(he▸hF).first hp
      ·rcases hF with⟨e,_⟩ | ⟨mm,rfl,hF1,hF2,hF3⟩
       ·exact absurd e hne
       ·refine zqY t hpo hod hT hF1 hp λc w5 hb5 hc hce=>⟨_,rfl,_,rfl,?_,grow hst hb5,a1.below hb5⟩
        rw[etk]
        exact Fo.more (.inr ⟨mm,rfl,hF1,hF2,hF3⟩) hp hc hce
    ·rintro _ w7 ⟨o',rfl,hF',hst',a1'⟩
     dsimp only
     rw[zE (by omega)]
     exact hnxt (ah.length-(m+1)) _ _ (by omega) ⟨m+1,o',by omega,rfl,rfl,hF',hst',a1'⟩
   ·have:m=ah.length:=by dsimp only at hgem;omega
    subst this
    rw[List.take_length]at hF
    have hpre:∀k (hk:k<i),PR ov od[k]:=λk hk=>by
     by_cases e:od[k]=0
     ·exact .inl e
     ·obtain⟨c,hc,_⟩:=hok k (by omega) hk e
      exact .inr (by rw[hc];simp)
    have hi0:0<i:=by
     obtain⟨l,hl⟩:=ok.head
     rcases Nat.eq_zero_or_pos i with e |e
     ·subst e;exact absurd (by simp[hl]) hne0
     ·exact e
    obtain⟨q,hq,hqe⟩:=ok.par i hlt hi0
    have hedge:∀p,p∈ah↔Ed nx p od[i]:=λp=>by rw[hah];exact zjd hx
    rcases hF with⟨_,hF⟩ | ⟨mm,rfl,hF1,_,hF3⟩
    ·exact absurd (hpre q hq) (hF _ ((hedge _).2 hqe))
    have hM:Ym ov (λp=>Ed nx p od[i]/\PR ov p) mm:=λe=>by
     rw[hF3 e]
     exact⟨λhh p hp=>hh p ⟨(hedge p).2 hp.1,hp.2⟩,λhh p hp=>hh p ⟨(hedge p).1 hp.1,hp.2⟩⟩
    have hin:od[i]<nx.length:=hod _ (List.getElem_mem hlt)
    dsimp only
    refine hT.getO hin (zr (λhne'=>?_) (λhe=>?_))
    ·refine hT.putO hin ?_
     have hne2:ov od[i]≠some mm:=λe=>hne' (by rw[e];rfl)
     obtain⟨j',hj',hs'⟩:=hs.next ok hlt hne0 (λk hk h0=>hok k (by omega) hk h0) hM hF1 hne2
     refine hnextR j' _ _ hj' ⟨_,hs',?_⟩
     obtain⟨g1,g2,g3,g4,g5⟩:=hst
     refine⟨g1.setCell (by rw[zn];exact hob) _,by simpa[World.setCell] using g2,λk hk hne=>(zA hne _ _).trans (g3 k hk hne),(g4.setO od[i] mm).of_o λj _=>ztm ov od[i] mm j,g5.of_block λa ha=>zA (hp2 a ha) _ _⟩
    ·refine⟨λq hq hlt' hq0=>?_,hst⟩
     by_cases e:q=i
     ·subst e
      refine⟨mm,?_,hM⟩
      cases e:ov od[q] with
      |none=>rw[e]at he;have he:(mm:Int)=-1:=he;omega
      |some y=>rw[e]at he;have he:(mm:Int)=(y:Int):=he;rw[show y=mm by omega]
     ·exact hok q hq (by omega) hq0
 ·have:i=od.length:=by dsimp only at hge;omega
  subst this
  obtain⟨g1,g2,g3,g4,g5⟩:=hst
  have hall:∀x∈od,x≠0->∃c,ov x=some c/\Ym ov (λp=>Ed nx p x/\PR ov p) c:=λx hx h0=>by
   obtain⟨q,hq,rfl⟩:=List.mem_iff_getElem.1 hx
   exact hok q hq hq h0
  refine hR w2 ov g1 g2 g3 g4 ⟨t,hs.di,λx=>⟨hpo x,λhx=>?_⟩,λx c hc=>?_⟩
  ·by_cases e:x=0
   ·exact .inl e
   ·obtain⟨c,hc,_⟩:=hall x hx e
    exact .inr (by rw[hc];simp)
  ·have hx0:x≠0:=by rintro rfl;rw[t.root]at hc;cases hc
   obtain⟨c',hc',hm⟩:=hall x (hpo x (.inr (by rw[hc];simp))) hx0
   rw[hc]at hc'
   cases hc'
   exact hm
end Go.Proofs
namespace Go.Proofs
open Go.Gk Go.RowKit Go.Gr Go.Dm
structure Rs (w1 w:World) (n:Nat) (us rs:List Nat) (rb:Option Nat):Prop where
 below:Below w1.heap.size w1 w
 a:∀b∈us,Blk w b 3 [.int .i64 (-1)]
 r:∀b∈rs,Blk w b 3 (List.replicate n (.int .i64 (-1)))/\w1.heap.size<=b
 nd:rs.Nodup
 m:∀b,rb=some b->Blk w b 3 (List.replicate n (.int .i64 0))/\w1.heap.size<=b/\b ∉ rs
section
variable {w1 w w':World} {n:Nat} {us rs:List Nat} {rb:Option Nat}
theorem Rs.grow(h:Rs w1 w n us rs rb)(hb:Below w.heap.size w w'):Rs w1 w' n us rs rb:=
 ⟨h.below.trans (hb.mono h.below.size),λb hm=>(h.a b hm).below hb,λb hm=>⟨(h.r b hm).1.below hb,(h.r b hm).2⟩,h.nd,λb e=>⟨(h.m b e).1.below hb,(h.m b e).2⟩⟩
theorem Rs.stepA(h:Rs w1 w n us rs rb){K:World->Prop}(hK:∀w',Rs w1 w' n (w.heap.size::us) rs rb->K w'):Nw (w.alloc (.cells #[(.int .i64 (-1:Int))] 3)) K:=by
 refine Nw.mk (hK _ ?_)
 have g:=h.grow (w':=w.alloc (.cells #[(.int .i64 (-1:Int))] 3)) ((Below.refl _ _).alloc (Nat.le_refl _) _)
 refine⟨g.below,λb hb=>?_,g.r,g.nd,g.m⟩
 rcases List.mem_cons.1 hb with rfl |hb
 ·exact Blk.new w 3 #[_]
 ·exact g.a b hb
theorem Rs.stepR(h:Rs w1 w n us rs rb)(hn:n<=4096)(hn1:1<=n){b:Nat}(hb:b∈us){K:Sl->World->Prop}(hK:∀r w',Rs w1 w' n us (r::rs) rb->K ⟨some (Gk.blk r),n,n⟩ w') :
  cR 114 #[.slice (some (Gk.blk b)) 1 1,.int .i64 (n:Int)] w λv w'=>∃x:Sl,v =.slice x.a x.l x.c/\K x w':=by
 refine znM (by omega) hn1 (h.a b hb) λr w' hr hf hbw=>⟨⟨some (Gk.blk r),n,n⟩,rfl,hK r w' ?_⟩
 have g:=h.grow hbw
 refine⟨g.below,g.a,λb hb=>?_,List.nodup_cons.2 ⟨λhm=>?_,g.nd⟩,λb e=>⟨(g.m b e).1,(g.m b e).2.1,λhm=>?_⟩⟩
 ·rcases List.mem_cons.1 hb with rfl |hb
  ·exact⟨hr,by have:=h.below.size;omega⟩
  ·exact g.r b hb
 ·have:=(h.r r hm).1.lt;omega
 ·rcases List.mem_cons.1 hm with rfl |hm
  ·have:=(h.m b e).1.lt;omega
  ·exact(g.m b e).2.2 hm
theorem Rs.stepM(h:Rs w1 w n us rs none)(hn:n<=4096){K:World->Prop}(hK:∀w',Rs w1 w' n us rs (some w.heap.size)->K w') :
  (0<=(n:Int)/\(n:Int)<=(n:Int)/\(8:Int)*(n:Int)<=281474976710656/\(n:Int)<=9223372036854775807)/\Nw (w.alloc (.cells (madeCells #[(.int .i64 (0:Int))] ((Int.toNat (n:Int))*1)) 3)) K:=by
 refine⟨⟨by omega,by omega,by omega,by omega⟩,Nw.mk (hK _ ?_)⟩
 have g:=h.grow (w':=w.alloc (.cells (madeCells #[(.int .i64 (0:Int))] ((Int.toNat (n:Int))*1)) 3)) ((Below.refl _ _).alloc (Nat.le_refl _) _)
 refine⟨g.below,g.a,g.r,g.nd,λb e=>?_⟩
 cases e
 exact⟨Blk.made w 3 (.int .i64 0) n,h.below.size,λhm=>by have:=(h.r _ hm).1.lt;omega⟩
def Mt(w1:World)(n gb:Nat)(p:Option Addr)(w':World):Prop:=
 ∃tb ob db rb,p=some (Gk.blk tb)/\w1.heap.size<=ob/\w1.heap.size<=db/\w1.heap.size<=rb/\TB w' tb gb ob db rb n (λ_=>-1) (λ_=>-1) (λ_=>0)/\Below w1.heap.size w1 w'/\ob<tb
theorem Rs.stepF{b:Nat}(h:Rs w1 w n us rs (some b)){gb:Nat}{r1 r2:Nat}(h1:r1∈rs)(h2:r2∈rs)(hne:r1≠r2) :
  Nw (w.alloc (.cells #[(.pointer (some (Gk.blk gb))),(.slice (some (Gk.blk r1)) n n),(.slice (some (Gk.blk r2)) n n),(.slice (some (Gk.blk b)) (Int.toNat (n:Int)) (Int.toNat (n:Int)))] 245)) λw7=>Mt w1 n gb (some (Gk.blk w.heap.size)) w7:=by
 refine Nw.mk ?_
 have hb:Below w.heap.size w (w.alloc (.cells #[(.pointer (some (Gk.blk gb))),(.slice (some (Gk.blk r1)) n n),(.slice (some (Gk.blk r2)) n n),(.slice (some (Gk.blk b)) (Int.toNat (n:Int)) (Int.toNat (n:Int)))] 245)):=(Below.refl _ _).alloc (Nat.le_refl _) _
 have g:=h.grow hb
 obtain⟨m1,m2,m3⟩:=g.m b rfl
 refine⟨w.heap.size,r1,r2,b,rfl,(g.r r1 h1).2,(g.r r2 h2).2,m2,⟨Blk.new w 245 #[_,_,_,_],?_,?_,?_,hne,λe=>m3 (e▸h1),λe=>m3 (e▸h2)⟩,g.below,(h.r r1 h1).1.lt⟩
 ·rw[ziw];exact(g.r r1 h1).1
 ·rw[ziw];exact(g.r r2 h2).1
 ·rw[ziw];exact m1
end
structure DpOk (od:List Nat) (ov:Nat->Option Nat) (dp:Nat->Int):Prop where
 mem:∀x∈od,0<=dp x/\dp x<=(rkOf od x:Int)
 out:∀x,x ∉ od->dp x=-1
 root:∀x∈od,ov x=none->dp x=0
 up:∀x∈od,∀y,ov x=some y->dp x=dp y+1
def IsD(w:World)(tb:Nat)(nx:List (List Nat))(ov:Nat->Option Nat)(dp:Nat->Int):Prop:=
 ∃gb ob db rb,TB w tb gb ob db rb nx.length (λi=>ovI (ov i)) dp (rkI (zp nx))/\IsG w gb nx
theorem IsD.below{w w':World}{tb:Nat}{nx:List (List Nat)}{ov:Nat->Option Nat}{dp:Nat->Int}(h:IsD w tb nx ov dp)(hb:Below w.heap.size w w'):IsD w' tb nx ov dp:=
 let⟨gb,ob,db,rb,h1,h2⟩:=h
 ⟨gb,ob,db,rb,h1.below hb,h2.below hb⟩
theorem odOk{nx:List (List Nat)}(hx:NxOk nx):OdOk nx (zp nx):=⟨hx.walkOk.ohead,hx.walkOk.nodup,hx.walkOk.opar⟩
theorem zsl{nx:List (List Nat)}(hx:NxOk nx):∀x∈zp nx,x<nx.length:=λx h=>hx.came.lt x ((hx.walkOk.mem x).1 h)
set_option maxHeartbeats 8000000 in
theorem zq7{nx:List (List Nat)}(hx:NxOk nx){gb:Nat}{w:World}{R:VWP}(hG:IsG w gb nx)
  (hR:∀w' tb ov dp,Below w.heap.size w w'->(∃ob db rb,TB w' tb gb ob db rb nx.length (λi=>ovI (ov i)) dp (rkI (zp nx)))->zne nx (zp nx) ov->DpOk (zp nx) ov dp->R (.tuple #[.pointer (some (Gk.blk tb)),.int .i64 0]) w') :
  cR 149 #[.pointer (some (Gk.blk gb))] w R:=by
 refine zb.of (zmf _ R w ?_) λ_ _ h=>h
 unfold zjI
 have hm:=hx.max
 have hp:=hx.pos
 refine zB rfl (zba hG ⟨_,rfl,?_⟩)
 refine zk.cut (λs w'=>Mt w nx.length gb s.1 w') ?_ ?_
 ·have h0:Rs w w.drew nx.length [] [] none:=⟨(Below.refl _ _).drew,λ_ h=>(by cases h),λ_ h=>(by cases h),List.nodup_nil,λ_ h=>(by cases h)⟩
  repeat' first
   |exact Rs.stepF (by assumption) (by simp) (by simp) (by
     have:=Rs.nd (by assumption)
     simp at this
     first |exact this |exact λe=>this e.symm)
   |refine Rs.stepM (by assumption) hm λw' h=>?_
   |refine Rs.stepR (by assumption) hm hp (by simp) λr w' h=>?_
   |refine Rs.stepA (by assumption) λw' h=>?_
   |refine And.intro ?_ ?_
 ·rintro⟨p,_⟩ w69 ⟨tb,ob,db,rb,hpe,hob,hdb,hrb,hT,hb69,hobt⟩
  dsimp only at hpe
  subst hpe
  obtain⟨od,hod⟩:∃od,od=zp nx:=⟨_,rfl⟩
  have ok:OdOk nx od:=hod▸odOk hx
  have hlt:∀x∈od,x<nx.length:=hod▸zsl hx
  have hodl:od.length<=nx.length:=zac ok.nodup hlt
  refine zpm hx (hG.below hb69) λr w70 o1 o2 o3=>⟨r,rfl,?_⟩
  rw[<-hod]at o1 hR
  have hrl:=yh o1
  have hT70:=hT.below o3
  have hb70:Below w.heap.size w w70:=hb69.trans (o3.mono hb69.size)
  have hrb':∀a,r.a=some a->a.block≠ob/\a.block≠db/\a.block≠rb:=λa ha=>by
   have h1:=o2 a ha
   have h2:=hT.o.lt
   have h3:=hT.d.lt
   have h4:=hT.r.lt
   exact⟨by omega,by omega,by omega⟩
  refine zl.count od.length (by omega) (λk w'=>Below w.heap.size w w'/\TB w' tb gb ob db rb nx.length (λ_=>-1) (λ_=>-1) (λi=>if i∈od.take k then(rkOf od i:Int) else 0)/\Own w' 3 1 r (od.map iN)) ⟨hb70,?_,o1⟩ ?_
  ·refine⟨hT70.t,hT70.o,hT70.d,?_,hT70.ne⟩
   rw[zfP (g:=λ_=>0) (λi _=>by simp)]
   exact hT70.r
  rintro k w71 hk ⟨hb71,hT71,ho71⟩ next hnext
  refine zi (λhltk=>?_) (λhgek=>?_)
  ·have hltk:k<od.length:=by dsimp only at hltk;omega
   have hkn:=hlt _ (List.getElem_mem hltk)
   refine yv ho71.isS.toI (k:=k) (by simpa using hltk) ?_
   rw[List.getElem_map]
   refine hT71.putR hkn (hnext _ hltk ⟨hb71.setCell (by rw[zn];exact hrb) _,?_,ho71.of_block λa ha=>zA (hrb' a ha).2.2 _ _⟩)
   have g:=hT71.setR od[k] (k:Int)
   refine⟨g.t,g.o,g.d,?_,g.ne⟩
   rw[zfP (g:=λj=>if j=od[k] then(k:Int) else if j∈od.take k then(rkOf od j:Int) else 0) (λj _=>?_)]
   ·exact g.r
   ·have hmem:j∈od.take (k+1)↔j∈od.take k\/j=od[k]:=by
     rw[List.take_succ_eq_append_getElem hltk,List.mem_append,List.mem_singleton]
    by_cases e:j=od[k]
    ·rw[if_pos (hmem.2 (.inr e)),if_pos e,e,Yj ok.nodup hltk]
    ·rw[if_neg e]
     by_cases e2:j∈od.take k
     ·rw[if_pos (hmem.2 (.inl e2)),if_pos e2]
     ·rw[if_neg (λh=>(hmem.1 h).elim e2 e),if_neg e2]
  ·have hkk:k=od.length:=by dsimp only at hgek;omega
   subst hkk
   have hT71':TB w71 tb gb ob db rb nx.length (λ_=>-1) (λ_=>-1) (rkI od):=by
    refine⟨hT71.t,hT71.o,hT71.d,?_,hT71.ne⟩
    rw[zfP (g:=λi=>if i∈od.take od.length then(rkOf od i:Int) else 0) (λj _=>by rw[List.take_length];rfl)]
    exact hT71.r
   refine zpb hx ok hlt hG rfl hob hb71 hT71' ho71 (λa ha=>(hrb' a ha).1) λw73 ov hb73 hz73 hf73 hT73 hS=>⟨rfl,?_⟩
   have ho73:Own w73 3 1 r (od.map iN):=ho71.of_block λa ha=>hf73 _ (ho71.lt ha).2 (hrb' a ha).1
   have t:=hS.tr
   refine zl.count od.length (by omega) (λk w'=>Below w.heap.size w w'/\Own w' 3 1 r (od.map iN)/\∃dp,TB w' tb gb ob db rb nx.length (λi=>ovI (ov i)) dp (rkI od)/\
     (∀q (hq:q<od.length),q<k->0<=dp od[q]/\dp od[q]<=(q:Int)/\(ov od[q]=none->dp od[q]=0)/\∀y,ov od[q]=some y->dp od[q]=dp y+1)/\∀x,x ∉ od->dp x=-1)
    ⟨hb73,ho73,_,hT73,λq hq h=>absurd h (by omega),λ_ _=>rfl⟩ ?_
   rintro k w74 hk ⟨hb74,ho74,dp,hT74,hD,hout⟩ next2 hnext2
   refine zi (λhltk=>?_) (λhgek=>?_)
   ·have hltk:k<od.length:=by dsimp only at hltk;omega
    have hkn:=hlt _ (List.getElem_mem hltk)
    refine zk.cut (λ_ w'=>Below w.heap.size w w'/\Own w' 3 1 r (od.map iN)/\∃dp,TB w' tb gb ob db rb nx.length (λi=>ovI (ov i)) dp (rkI od)/\
     (∀q (hq:q<od.length),q<k+1->0<=dp od[q]/\dp od[q]<=(q:Int)/\(ov od[q]=none->dp od[q]=0)/\∀y,ov od[q]=some y->dp od[q]=dp y+1)/\∀x,x ∉ od->dp x=-1) ?_ λ_ w' hh=>hnext2 w' hltk hh
    refine yv ho74.isS.toI (k:=k) (by simpa using hltk) ?_
    rw[List.getElem_map]
    refine hT74.putD hkn ?_
    have hT75:=hT74.setD od[k] 0
    have hb75:Below w.heap.size w (w74.setCell ((Gk.blk db).add od[k]) (.int .i64 0)):=hb74.setCell (by rw[zn];exact hdb) _
    have ho75:Own (w74.setCell ((Gk.blk db).add od[k]) (.int .i64 0)) 3 1 r (od.map iN):=ho74.of_block λa ha=>zA (hrb' a ha).2.1 _ _
    generalize w74.setCell ((Gk.blk db).add od[k]) (.int .i64 0)=w75 at hT75 hb75 ho75
    have hneq:∀q (hq:q<od.length),q≠k->od[q]≠od[k]:=λq hq hne e=>hne (by
     have h1:=Yj ok.nodup hq
     have h2:=Yj ok.nodup hltk
     rw[e,h2]at h1
     exact h1.symm)
    have hbef:∀{q y},(hq:q<od.length)->q<=k->ov od[q]=some y->∃q':Nat,∃h:q'<od.length,q'<q/\od[q']=y:=λ{q y} hq _ hy=>by
     obtain⟨h1,h2⟩:=t.up _ _ hy
     have hm2:=(hS.pr y).1 h2
     have h3:=List.idxOf_lt_length_of_mem hm2
     refine⟨od.idxOf y,h3,?_,List.getElem_idxOf h3⟩
     have:=Yj ok.nodup hq
     rw[this]at h1
     exact h1
    refine hT75.getO hkn (zr (λhne=>?_) (λhe=>?_))
    ·obtain⟨y,hy⟩:∃y,ov od[k]=some y:=by
      cases e:ov od[k] with
      |none=>exact absurd (zj1.2 e) hne
      |some y=>exact⟨y,rfl⟩
     obtain⟨q',hq'l,hq'k,hq'y⟩:=hbef hltk (Nat.le_refl _) hy
     have hyn:y<nx.length:=hq'y▸hlt _ (List.getElem_mem hq'l)
     have hyk:y≠od[k]:=hq'y▸hneq q' hq'l (by omega)
     have hT76:=hT75.below (w':=w75.drew) (Below.refl _ _).drew
     refine zf rfl ⟨⟨_,nx.length,nx.length⟩,hT76.t.cell (n:=2) rfl,zf rfl ⟨⟨_,nx.length,nx.length⟩,hT76.t.cell (n:=2) rfl,hT76.getO hkn ?_⟩⟩
     rw[hy]
     refine⟨⟨by simp[ovI],by simpa[ovI] using hyn⟩,zf rfl ⟨_,hT76.d.cell (zju hyn),⟨⟨by omega,by first |omega | (dsimp only;omega)⟩,zf rfl ⟨hT76.d.wr (by simpa[natL] using hkn),Nw.mk ?_⟩⟩⟩⟩
     have hv:=hD q' hq'l hq'k
     rw[hq'y]at hv
     rw[show Int.toNat (ovI (some y))=y from rfl,if_neg hyk,zt (by omega) (by omega)]
     refine⟨hb75.drew.setCell (by rw[zn];exact hdb) _,ho75.drew.of_block λa ha=>zA (hrb' a ha).2.1 _ _,_,hT76.setD od[k] (dp y+1),λq hq hqk=>?_,λx hx=>?_⟩
     ·by_cases e:q=k
      ·subst e
       simp only[if_true]
       refine⟨by omega,by omega,λe=>(by rw[hy]at e;cases e),λy' hy'=>?_⟩
       rw[hy]at hy'
       cases hy'
       simp[hyk]
      ·have h1:=hD q hq (by omega)
       have h2:=hneq q hq e
       simp only[h2,if_false]
       refine⟨h1.1,h1.2.1,h1.2.2.1,λy' hy'=>?_⟩
       obtain⟨q2,hq2l,hq2k,hq2y⟩:=hbef hq (by omega) hy'
       have:y'≠od[k]:=hq2y▸hneq q2 hq2l (by omega)
       simp only[this,if_false]
       exact h1.2.2.2 y' hy'
     ·have:x≠od[k]:=λe=>hx (e▸List.getElem_mem hltk)
      simp only[this,if_false]
      exact hout x hx
    ·have hnone:ov od[k]=none:=zj1.1 he
     refine⟨hb75,ho75,_,hT75,λq hq hqk=>?_,λx hx=>?_⟩
     ·by_cases e:q=k
      ·subst e
       simp only[if_true]
       exact⟨by omega,by omega,λ_=>trivial,λy' hy'=>by rw[hnone]at hy';cases hy'⟩
      ·have h1:=hD q hq (by omega)
       have h2:=hneq q hq e
       simp only[h2,if_false]
       refine⟨h1.1,h1.2.1,h1.2.2.1,λy' hy'=>?_⟩
       obtain⟨q2,hq2l,hq2k,hq2y⟩:=hbef hq (by omega) hy'
       have:y'≠od[k]:=hq2y▸hneq q2 hq2l (by omega)
       simp only[this,if_false]
       exact h1.2.2.2 y' hy'
     ·have:x≠od[k]:=λe=>hx (e▸List.getElem_mem hltk)
      simp only[this,if_false]
      exact hout x hx
   ·have hkk:k=od.length:=by dsimp only at hgek;omega
    subst hkk
    have hget:∀x∈od,∃q:Nat,∃h:q<od.length,od[q]=x/\rkOf od x=q:=λx hxm=>by
     obtain⟨q,hq,e⟩:=List.mem_iff_getElem.1 hxm
     exact⟨q,hq,e,e▸Yj ok.nodup hq⟩
    refine hR w74 tb ov dp hb74 ⟨ob,db,rb,hod▸hT74⟩ hS ⟨λx hxm=>?_,hout,λx hxm hn=>?_,λx hxm y hy=>?_⟩
    ·obtain⟨q,hq,rfl,e⟩:=hget x hxm
     have:=hD q hq hq
     rw[e]
     exact⟨this.1,this.2.1⟩
    ·obtain⟨q,hq,rfl,e⟩:=hget x hxm
     exact(hD q hq hq).2.2.1 hn
    ·obtain⟨q,hq,rfl,e⟩:=hget x hxm
     exact(hD q hq hq).2.2.2 y hy
end Go.Proofs
namespace Go.Proofs
open Go.Gk Go.RowKit Go.Gr Go.Dm
def inOd(od:List Nat)(i:Int):Bool:=decide (0<=i)&&od.contains i.toNat
theorem zd1(od:List Nat)(i:Nat):inOd od (i:Int)=od.contains i:=by simp[inOd]
theorem yP{od:List Nat}{i:Int}:inOd od i=true↔∃k:Nat,i=(k:Int)/\k∈od:=by
 unfold inOd
 rw[Bool.and_eq_true,decide_eq_true_iff,List.contains_iff_mem]
 constructor
 ·rintro⟨h1,h2⟩;exact⟨i.toNat,by omega,h2⟩
 ·rintro⟨k,rfl,h⟩;exact⟨by omega,by simpa using h⟩
structure Dt (w:World) (tb:Nat) (nx:List (List Nat)) (ov:Nat->Option Nat) (dp:Nat->Int):Prop where
 ok:NxOk nx
 d:IsD w tb nx ov dp
 s:zne nx (zp nx) ov
 dpo:DpOk (zp nx) ov dp
theorem Dt.below{w w':World}{tb:Nat}{nx:List (List Nat)}{ov:Nat->Option Nat}{dp:Nat->Int}(h:Dt w tb nx ov dp)(hb:Below w.heap.size w w'):Dt w' tb nx ov dp:=⟨h.ok,h.d.below hb,h.s,h.dpo⟩
section
variable {w:World} {R:VWP} {tb:Nat} {nx:List (List Nat)} {ov:Nat->Option Nat} {dp:Nat->Int} {i:Int}
theorem Dt.lt(h:Dt w tb nx ov dp){x:Nat}(hx:x∈zp nx):x<nx.length:=zsl h.ok x hx
theorem zn5(h:Dt w tb nx ov dp)(hR:R (.bool (inOd (zp nx) i)) w):cR 237 #[.pointer (some (Gk.blk tb)),.int .i64 i] w R:=by
 refine zb.of (zfA _ i R w ?_) λ_ _ h=>h
 obtain⟨gb,ob,db,rb,hT,hG⟩:=h.d
 refine zF rfl (zi (λh0=>zf rfl ⟨⟨_,nx.length,nx.length⟩,hT.t.cell (n:=2) rfl,zi (λh1=>?_) (λh1=>?_)⟩) (λh0=>?_))
 ·obtain⟨k,rfl⟩:=Int.eq_ofNat_of_zero_le h0
  have hk:k<nx.length:=by dsimp only at h1;omega
  refine hT.getD hk ?_
  have:(dp k !=(-1:Int))=inOd (zp nx) (k:Int):=by
   rw[zd1,Bool.eq_iff_iff,bne_iff_ne,List.contains_iff_mem]
   constructor
   ·intro hne;exact Classical.byContradiction λhn=>hne (h.dpo.out k hn)
   ·intro hm e;have:=(h.dpo.mem k hm).1;omega
  rw[this];exact hR
 ·have:inOd (zp nx) i=false:=by
   rw[<-Bool.not_eq_true,yP]
   rintro⟨k,rfl,hk⟩
   have:=h.lt hk
   dsimp only at h1
   omega
  rw[this]at hR;exact hR
 ·have:inOd (zp nx) i=false:=by
   rw[<-Bool.not_eq_true,yP]
   rintro⟨k,rfl,hk⟩
   omega
  rw[this]at hR;exact hR
end
theorem zqe{p:Option Addr}{i:Int}{w:World}{R:VWP}
  (hR:∀w',Blk w' w.heap.size 163 [.pointer p]->Blk w' (w.heap.size+1) 3 [.int .i64 i]->Below w.heap.size w w'->w'.heap.size=w.heap.size+2->R (.func (.func 236) #[] #[.pointer (some (Gk.blk w.heap.size)),.pointer (some (Gk.blk (w.heap.size+1)))]) w') :
  cR 189 #[.pointer p,.int .i64 i] w R:=by
 refine zb.of (zjc p i R w ?_) λ_ _ h=>h
 refine Nw.gen λw1 hw1=>Nw.gen λw2 hw2=>?_
 have z1:w1.heap.size=w.heap.size+1:=by rw[hw1];simp
 have h1:Blk w1 w.heap.size 163 [.pointer p]:=by rw[hw1];exact Blk.new w _ #[_]
 have h2:Blk w2 w1.heap.size 3 [.int .i64 i]:=by rw[hw2];exact Blk.new w1 _ #[_]
 rw[z1]at h2⊢
 refine hR w2 (by rw[hw2];exact h1.alloc _) h2 (by rw[hw2,hw1];exact((Below.refl _ _).alloc (Nat.le_refl _) _).alloc (by simp) _) (by rw[hw2];simp[z1])
theorem zr1{y:Value}{tb:Nat}{nx:List (List Nat)}{ov:Nat->Option Nat}{dp:Nat->Int}{i:Int}{pb ib:Nat}{T:TypeId}{w:World}(h:Dt w tb nx ov dp)(hp:Blk w pb T [.pointer (some (Gk.blk tb))])
  (hi:w.cell? (Gk.blk ib)=some (.int .i64 i)) (Inv:Option Nat->World->Prop) (S:World->Prop)
  (h0:inOd (zp nx) i=true->Inv (some i.toNat) w) (h1:inOd (zp nx) i=false->S w) (hkeep:∀o w',Inv o w'->Dt w' tb nx ov dp/\Blk w' pb T [.pointer (some (Gk.blk tb))])
  (hround:∀x w',x∈zp nx->Inv (some x) w'->zV Tryz.prog Tryz.fs y [.int .i64 (x:Int)] w' λv w''=>(v =.bool true/\Inv (ov x) w'')\/(v =.bool false/\S w''))
  (hend:∀w',Inv none w'->S w'):Calls Tryz.prog 236 #[y,.pointer (some (Gk.blk pb)),.pointer (some (Gk.blk ib))] w (Ret λ_ w'=>S w'):=by
 refine zh2 y (Gk.blk pb) (Gk.blk ib) _ w ⟨_,hp.cell0 rfl,i,hi,zn5 h ⟨_,rfl,?_⟩⟩
 refine zy (zm (λhin=>⟨i,hi,?_⟩) (λhin=>h1 hin))
 obtain⟨k,rfl,hk⟩:=yP.1 hin
 refine zl.ghost (λj s w'=>∃o,j=(match o with |none=>0 |some x=>rkOf (zp nx) x+1)/\s=(ovI o,())/\Inv o w'/\∀x,o=some x->x∈zp nx) _ ⟨some k,rfl,rfl,h0 hin,λx e=>by cases e;exact hk⟩ ?_
 rintro _ _ w' ⟨o,rfl,rfl,hI,hm⟩ next hnext
 cases o with
 |none=>exact zB rfl (hend w' hI)
 |some x=>
  have hx:=hm x rfl
  refine zF (by simp[ovI]) (zV.mono (hround x w' hx hI) λv w'' hv=>?_)
  rcases hv with⟨rfl,hv⟩ | ⟨rfl,hv⟩
  ·refine⟨true,rfl,zB rfl ?_⟩
   obtain⟨h2,h3⟩:=hkeep _ _ hv
   obtain⟨gb,ob,db,rb,hT,hG⟩:=h2.d
   refine⟨_,h3.cell0 rfl,hT.getO (h.lt hx) (hnext _ _ _ ?_ ⟨ov x,rfl,rfl,hv,λz hz=>?_⟩)⟩
   ·cases e:ov x with
    |none=>exact Nat.succ_pos _
    |some z=>have:=(h.s.tr.up x z e).1;simp only;omega
   ·exact(h.s.pr z).1 ((h.s.tr.up x z hz).2)
  ·exact⟨false,rfl,zF rfl hv⟩
theorem zpe{tb:Nat}{nx:List (List Nat)}{ov:Nat->Option Nat}{dp:Nat->Int}{i:Int}{pb ib:Nat}{T T':TypeId}{w:World}(h:Dt w tb nx ov dp)(hp:Blk w pb T [.pointer (some (Gk.blk tb))])
  (hi:Blk w ib T' [.int .i64 i]) {round:Gk.Mk->Nat->Int×Unit->World->(VWP)->Prop} {fin:Gk.Mk->Nat->Nat->World->Prop}
  (hh:∀mk:Gk.Mk,∃Inv:Option Nat->World->Prop,(inOd (zp nx) i=true->Inv (some i.toNat) ((w.alloc (.deferred (some []))).alloc (mk .ready none)))/\
   (inOd (zp nx) i=false->fin mk (w.heap.size+1) w.heap.size ((w.alloc (.deferred (some []))).alloc (mk .ready none)))/\(∀o w',Inv o w'->Dt w' tb nx ov dp/\Blk w' pb T [.pointer (some (Gk.blk tb))])/\
   (∀x w',x∈zp nx->Inv (some x) w'->w'.heap[w.heap.size+1]? =some (mk .ready none)/\round mk (w.heap.size+1) ((x:Int),()) w' λv w''=>(v =.bool true/\Inv (ov x) w'')\/(v =.bool false/\fin mk (w.heap.size+1) w.heap.size w''))/\
   ∀w',Inv none w'->fin mk (w.heap.size+1) w.heap.size w') :
  zig Tryz.prog Tryz.fs (.func (.func 236) #[] #[.pointer (some (Gk.blk pb)),.pointer (some (Gk.blk ib))]) w (T:=Int×Unit) (λs=>[.int .i64 s.1]) round fin:=by
 intro mk hy
 obtain⟨Inv,h0,h1,hk,hr,he⟩:=hh mk
 have hc:Tryz.fs.contains 236=true:=by kernel_rfl
 unfold znW
 simp only[hc]
 have hb:=zd5 w (.deferred (some [])) (mk .ready none)
 refine zr1 (y:=.func (.yield (w.heap.size+1)) #[] #[]) (h.below hb) (hp.below hb) ((hi.below hb).cell0 rfl) Inv _ h0 h1 hk (λx w' hx hI=>?_) he
 obtain⟨h1,h2⟩:=hr x w' hx hI
 exact hy ((x:Int),()) w' _ h1 h2
def DomP(od:List Nat)(ov:Nat->Option Nat)(a b:Int):Prop:=∃a' b':Nat,a=(a':Int)/\b=(b':Int)/\b'∈od/\Anc ov a' b'
set_option maxHeartbeats 2000000 in
theorem zli{tb:Nat}{nx:List (List Nat)}{ov:Nat->Option Nat}{dp:Nat->Int}{a b:Int}{w:World}{R:VWP}(h:Dt w tb nx ov dp)
  (hR:∀v w',Below w.heap.size w w'->(v=true↔DomP (zp nx) ov a b)->R (.bool v) w'):cR 238 #[.pointer (some (Gk.blk tb)),.int .i64 a,.int .i64 b] w R:=by
 refine zb.of (zeu _ a b R w ?_) λ_ _ h=>h
 unfold Zy
 refine Nw.gen λw1 hw1=>?_
 have hA1:Blk w1 w.heap.size 3 [.int .i64 a]:=by rw[hw1];exact Blk.new w _ #[_]
 have b1:Below w.heap.size w w1:=by rw[hw1];exact(Below.refl _ _).alloc (Nat.le_refl _) _
 have z1:w1.heap.size=w.heap.size+1:=by rw[hw1];simp
 clear hw1
 refine Nw.gen λw2 hw2=>?_
 have hF2:Blk w2 w1.heap.size 4 [.bool false]:=by rw[hw2];exact Blk.new w1 _ #[_]
 have b2':Below w1.heap.size w1 w2:=by rw[hw2];exact(Below.refl _ _).alloc (Nat.le_refl _) _
 have z2:w2.heap.size=w1.heap.size+1:=by rw[hw2];simp
 clear hw2
 have b2:Below w.heap.size w w2:=b1.trans (b2'.mono (by omega))
 refine zqe λw3 hP3 hI3 b3' z3=>⟨_,rfl,?_⟩
 have b3:Below w.heap.size w w3:=b2.trans (b3'.mono (by omega))
 have hA3:=(hA1.below b2').below b3'
 have hF3:=hF2.below b3'
 refine zpe (h.below b3) hP3 hI3 λmk=>?_
 let St:Obj->World->Prop:=λo w'=>Below w.heap.size w w'/\w3.heap.size+1<w'.heap.size/\Blk w' w.heap.size 3 [.int .i64 a]/\Blk w' w1.heap.size 4 [.bool false]/\Blk w' w2.heap.size 163 [.pointer (some (Gk.blk tb))]/\
  w'.heap[w3.heap.size+1]? =some o/\w'.heap[w3.heap.size]? =some (.deferred (some []))
 have hput:∀{o w'} (o':Obj),St o w'->St o' (w'.putObj (w3.heap.size+1) o'):=λ{o w'} o' ⟨g1,g2,g3,g4,g5,g6,g7⟩=>
  ⟨g1.putObj (by omega) _,by simpa using g2,g3.put (by omega) _,g4.put (by omega) _,g5.put (by omega) _,World.putObj_heap_same g2,(World.putObj_heap_other (by omega)).trans g7⟩
 have bl:=zd5 w3 (.deferred (some [])) (mk .ready none)
 have start:St (mk .ready none) ((w3.alloc (.deferred (some []))).alloc (mk .ready none)):=
  ⟨b3.trans (bl.mono (by omega)),by rw[zka];omega,hA3.below bl,hF3.below bl,hP3.below bl,znw _ _ _,znv _ _ _⟩
 have finT:∀{o w'},St o w'->DomP (zp nx) ov a b->∀w6,w6=w'.setCell (Gk.blk w1.heap.size) (.bool true)->ym mk (w3.heap.size+1) .done (some .ret) (w6.putObj (w3.heap.size+1) (mk .done (some .ret))) λw11=>Yp (w3.heap.size::[]) w11 λw12=>ldB w12 (Gk.blk w1.heap.size) λx10=>R (.bool x10) w12:=by
  rintro o w' ⟨g1,g2,g3,g4,g5,g6,g7⟩ hD w6 rfl
  refine⟨World.putObj_heap_same (by simpa[World.setCell] using g2),?_⟩
  refine zdy ((World.putObj_heap_other (by omega)).trans ((World.putObj_heap_other (by omega)).trans ((zA (n:=0) (by omega) _).trans g7))) ⟨true,((((g4.set0 _).put (by omega) _).put (by omega) _).put (by omega) _).cell0 rfl,hR true _ ?_ ⟨λ_=>hD,λ_=>rfl⟩⟩
  exact(((g1.setCell (by show w.heap.size<=w1.heap.size;omega) _).putObj (by omega) _).putObj (by omega) _).putObj (by omega) _
 have finF:∀{w'},St (mk .ready none) w'->¬DomP (zp nx) ov a b->ym mk (w3.heap.size+1) .ready none w' λw8=>Wr w8 (Gk.blk w1.heap.size)/\Nw (w8.setCell (Gk.blk w1.heap.size) (.bool false)) λw9=>Yp (w3.heap.size::[]) w9 λw10=>ldB w10 (Gk.blk w1.heap.size) λx9=>R (.bool x9) w10:=by
  intro w' hst hD
  refine⟨hst.2.2.2.2.2.1,?_⟩
  obtain⟨g1,g2,g3,g4,g5,g6,g7⟩:=hput (mk .exhausted none) hst
  refine⟨g4.wr0 (by simp),Nw.mk (zdy ((zA (n:=0) (by omega) _).trans g7) ⟨false,((g4.set0 _).put (by omega) _).cell0 rfl,hR false _ ?_ ⟨λe=>(by cases e),λe=>absurd e hD⟩⟩)⟩
  exact(g1.setCell (by show w.heap.size<=w1.heap.size;omega) _).putObj (by omega) _
 refine⟨λo w'=>St (mk .ready none) w'/\(DomP (zp nx) ov a b↔∃x a':Nat,o=some x/\a=(a':Int)/\Anc ov a' x),λhin=>⟨start,?_⟩,λhin=>.inl (finF start ?_),λo w' hI=>⟨h.below hI.1.1,hI.1.2.2.2.2.1⟩,λx w' hx hI=>⟨hI.1.2.2.2.2.2.1,hI.1.2.2.2.2.2.1,Nw.mk ?_⟩,λw' hI=>.inl (finF hI.1 ?_)⟩
 ·obtain⟨k,rfl,hk⟩:=yP.1 hin
  constructor
  ·rintro⟨a',b',rfl,e,_,h3⟩
   exact⟨k,a',rfl,rfl,by rw[show k=b' by omega];exact h3⟩
  ·rintro⟨x,a',e,rfl,h3⟩
   cases e
   exact⟨a',k,rfl,rfl,hk,h3⟩
 ·rintro⟨a',b',rfl,rfl,h3,_⟩
  have:inOd (zp nx) (b':Int)=true:=yP.2 ⟨b',rfl,h3⟩
  rw[hin]at this
  cases this
 ·obtain⟨hst,hiff⟩:=hI
  have hst2:=hput (mk .busy none) hst
  obtain⟨g1,g2,g3,g4,g5,g6,g7⟩:=hst2
  refine⟨a,g3.cell0 rfl,zj (λhe=>⟨g4.wr0 (by simp),Nw.gen λw6 hw6=>⟨?_,.inr ⟨rfl,.inr ?_⟩⟩⟩) (λhne=>⟨g6,.inl ⟨rfl,?_,?_⟩⟩)⟩
  ·rw[hw6];exact(zA (n:=0) (by omega) _).trans g6
  ·have hD:DomP (zp nx) ov a b:=hiff.2 ⟨x,x,rfl,he.symm,.refl⟩
   exact finT ⟨g1,g2,g3,g4,g5,g6,g7⟩ hD _ hw6
  ·exact hput _ ⟨g1,g2,g3,g4,g5,g6,g7⟩
  ·rw[hiff]
   constructor
   ·rintro⟨x',a',e,ea,h3⟩
    cases e
    rcases h3.inv with e | ⟨y,hy,h3⟩
    ·exact absurd (by rw[ea,e]) hne
    ·exact⟨y,a',hy,ea,h3⟩
   ·rintro⟨y,a',e,ea,h3⟩
    exact⟨x,a',rfl,ea,.step e h3⟩
 ·rw[hI.2]
  rintro⟨x,a',e,_⟩
  cases e
end Go.Proofs
namespace Go.Proofs
open Go.Gk Go.RowKit Go.Gr
end Go.Proofs
namespace Go.Proofs
open Go.Gk Go.RowKit Go.Gr Go.Dm
end Go.Proofs
namespace Go.Proofs
open Go.Gk Go.RowKit Go.Gr Go.Dm
end Go.Proofs
namespace Go.Proofs
open Go.Gk Go.RowKit Go.Gr Go.Dm
theorem eBB:zao Tryz.prog 96 98 1 24:=⟨by kernel_rfl,Tryz.t98,.slice none 0 0,by kernel_rfl,rfl,rfl,rfl,rfl⟩
structure Tab (w:World) (t:Sl) (n:Nat) (D:Nat->Nat->Prop):Prop where
 ex:∃hs:List Sl,IsS Sl.val w t hs/\hs.length=n/\∀a (ha:a<hs.length),∃bl:List Bool,IsS Value.bool w hs[a] bl/\bl.length=n/\∀b,bl.getD b false=true↔D a b
theorem Tab.below{w w':World}{t:Sl}{n:Nat}{D:Nat->Nat->Prop}(h:Tab w t n D)(hb:Below w.heap.size w w'):Tab w' t n D:=by
 obtain⟨hs,h1,h2,h3⟩:=h.ex
 exact⟨hs,h1.below hb,h2,λa ha=>let⟨bl,g1,g2,g3⟩:=h3 a ha;⟨bl,g1.below hb,g2,g3⟩⟩
theorem Tab.get{w:World}{t:Sl}{n:Nat}{D:Nat->Nat->Prop}(h:Tab w t n D){a b:Nat}(ha:a<n)(hb:b<n){φ:Bool->Prop}(hφ:∀v,(v=true↔D a b)->φ v) :
  (0<=(a:Int)/\(a:Int)<(t.l:Int))/\zc t.a λa3=>ldS w (a3.add (Int.toNat (a:Int))) λx=>(0<=(b:Int)/\(b:Int)<(x.l:Int))/\zc x.a λa5=>ldB w (a5.add (Int.toNat (b:Int))) φ:=by
 obtain⟨hs,h1,h2,h3⟩:=h.ex
 obtain⟨bl,g1,g2,g3⟩:=h3 a (by omega)
 refine zhU h1 (k:=a) (by omega) (zql g1 (k:=b) (by omega) (hφ _ ?_))
 rw[<-g3 b]
 simp[List.getD,show b<bl.length by omega]
def DomR(nx:List (List Nat))(a b:Nat):Prop:=ReachN nx (-1) b/\(a=b\/¬ReachN nx (a:Int) b)
theorem Yg{bl:List Bool}{b:Nat}(hb:b<bl.length):(bl.map Value.bool)[b]? =some (.bool (bl.getD b false)):=by simp[List.getD,hb]
theorem zmA{bl:List Bool}{t j:Nat}{v:Bool}(ht:t<bl.length):(bl.set t v).getD j false=if j=t then v else bl.getD j false:=by
 simp only[List.getD,List.getElem?_set]
 by_cases e:t=j
 ·subst e;simp[ht]
 ·simp[e,Ne.symm e]
end Go.Proofs
namespace Go.Proofs
open Go.Gk Go.RowKit Go.Gr Go.Dm
section
variable {w:World} {tb:Nat} {nx:List (List Nat)} {ov:Nat->Option Nat} {dp:Nat->Int}
theorem Dt.domR(h:Dt w tb nx ov dp)(a b:Nat):DomR nx a b↔b∈zp nx/\Anc ov a b:=by
 have hw:=h.ok.walkOk
 have hre:∀x,ReachN nx (-1) x↔x∈zp nx:=λx=>by rw[hw.mem x];exact(zdC h.ok.rows h.ok.pos x).symm
 unfold DomR
 rw[hre b]
 constructor
 ·rintro⟨h1,h2⟩
  exact⟨h1,(h.s.di.iff h.s.tr (λx hx=>(h.s.pr x).2 ((hre x).1 hx)) h.s.fix ((hre b).2 h1)).2 h2⟩
 ·rintro⟨h1,h2⟩
  exact⟨h1,(h.s.di.iff h.s.tr (λx hx=>(h.s.pr x).2 ((hre x).1 hx)) h.s.fix ((hre b).2 h1)).1 h2⟩
theorem Dt.ancOd(h:Dt w tb nx ov dp){a x:Nat}(hx:x∈zp nx)(ha:Anc ov a x):a∈zp nx:=(h.s.pr a).1 (ha.pr h.s.tr ((h.s.pr x).2 hx))
theorem Dt.mono(h:Dt w tb nx ov dp){a x:Nat}(hx:x∈zp nx)(ha:Anc ov a x):a=x\/dp a<dp x:=by
 induction ha with
 |refl=>exact .inl rfl
 |step h1 h2 ih=>
  rename_i x y
  have hy:y∈zp nx:=(h.s.pr y).1 (h.s.tr.up x y h1).2
  have:=h.dpo.up x hx y h1
  rcases ih hy with rfl |hlt
  ·right;omega
  ·right;omega
end
theorem zep(p:Nat->Bool)(k:Nat):(List.range (k+1)).filter p=(List.range k).filter p++if p k then [k] else []:=by
 rw[List.range_succ,List.filter_append]
 congr 1
 simp only[List.filter_cons,List.filter_nil]
end Go.Proofs
namespace Go.Proofs
open Go.Gk Go.RowKit Go.Gr Go.Dm
end Go.Proofs
namespace Go.Proofs
open Go.Gk Go.RowKit Go.Gr Go.Dm
def upL(ov:Nat->Option Nat):Nat->Nat->List Nat
 | 0,_=>[]
 |f+1,x=>x::(match ov x with |none=>[] |some y=>upL ov f y)
section
variable {w:World} {tb:Nat} {nx:List (List Nat)} {ov:Nat->Option Nat} {dp:Nat->Int}
theorem Dt.upL_spec(h:Dt w tb nx ov dp):∀(f x:Nat),x∈zp nx->dp x+1=(f:Int)->
  (upL ov f x).length=f/\(∀k (hk:k<(upL ov f x).length),Anc ov (upL ov f x)[k] x/\dp (upL ov f x)[k]=dp x-k)/\(∀k,(upL ov f x)[k+1]? =(upL ov f x)[k]?.bind ov)/\(upL ov f x)[0]? =some x:=by
 intro f
 induction f with
 |zero=>intro x hx hf;have:=(h.dpo.mem x hx).1;omega
 |succ f ih=>
  intro x hx hf
  cases e:ov x with
  |none=>
   have hd:=h.dpo.root x hx e
   have hf0:f=0:=by omega
   subst hf0
   have el:upL ov (0+1) x=[x]:=by simp[upL,e]
   refine⟨by rw[el];rfl,λk hk=>?_,λk=>?_,by rw[el];rfl⟩
   ·have hk0:k=0:=by rw[el]at hk;simp at hk;exact hk
    subst hk0
    simp only[el,List.getElem_cons_zero]
    exact⟨.refl,by omega⟩
   ·rw[el]
    cases k with
    |zero=>simp[e]
    |succ k=>simp
  |some y=>
   have hy:y∈zp nx:=(h.s.pr y).1 (h.s.tr.up x y e).2
   have hd:=h.dpo.up x hx y e
   obtain⟨g1,g2,g3,g4⟩:=ih y hy (by omega)
   have el:upL ov (f+1) x=x::upL ov f y:=by simp[upL,e]
   refine⟨by rw[el,List.length_cons,g1],λk hk=>?_,λk=>?_,by rw[el];rfl⟩
   ·cases k with
    |zero=>simp only[el,List.getElem_cons_zero];exact⟨.refl,by omega⟩
    |succ k=>
     have hk':k<(upL ov f y).length:=by rw[el]at hk;simpa using hk
     simp only[el,List.getElem_cons_succ]
     obtain⟨g5,g6⟩:=g2 k hk'
     exact⟨g5.trans (.step e .refl),by omega⟩
   ·rw[el]
    cases k with
    |zero=>simp[e,g4]
    |succ k=>simp only[List.getElem?_cons_succ];exact g3 k
def upOf(nx:List (List Nat))(ov:Nat->Option Nat)(dp:Nat->Int)(i:Int):List Nat:=if inOd (zp nx) i then upL ov ((dp i.toNat).toNat +1) i.toNat else []
theorem zh1{x:Nat}(hx:x∈zp nx):upOf nx ov dp (x:Int)=upL ov ((dp x).toNat +1) x:=by unfold upOf;rw[if_pos (yP.2 ⟨x,rfl,hx⟩)];rfl
theorem Dt.same(h:Dt w tb nx ov dp){x a b:Nat}(hx:x∈zp nx)(ha:Anc ov a x)(hb:Anc ov b x)(e:dp a=dp b):a=b:=by
 rcases ha.lin hb with h1 |h1
 ·rcases h.mono (h.ancOd hx hb) h1 with e' |e'
  ·exact e'
  ·omega
 ·rcases h.mono (h.ancOd hx ha) h1 with e' |e'
  ·exact e'.symm
  ·omega
end
end Go.Proofs
namespace Go.Proofs
open Go.Gk Go.RowKit Go.Gr Go.Dm
section
variable {w w':World} {s:Sl} {l:List Mg}
theorem _root_.Go.Proofs.IsC.mbelow(h:IsM w s l)(hb:Below w.heap.size w w'):IsM w' s l:=IsC.below Zu h hb
theorem zoh(h:IsM w s l){k:Nat}(hk:k<l.length){φ:Int->Int->Int->Prop}(hφ:φ l[k].1 l[k].2.1 l[k].2.2) :
  (0<=(k:Int)/\(k:Int)<(s.l:Int))/\zc s.a λa=>ldI w ((a.add (Int.toNat (k:Int)*3)).add 0) .u8 λx=>ldI w ((a.add (Int.toNat (k:Int)*3)).add 1) .i64 λy=>ldI w ((a.add (Int.toNat (k:Int)*3)).add 2) .i64 λz=>φ x y z:=by
 obtain⟨a,ha⟩:=h.base hk
 have hc:=λj hj=>h.cell a ha k hk j hj
 refine⟨⟨by omega,by have:=h.len;omega⟩,zf ha ⟨_,?_,_,?_,_,?_,hφ⟩⟩
 ·rw[zv];exact hc 0 (by omega)
 ·rw[zv];exact hc 1 (by omega)
 ·rw[zv];exact hc 2 (by omega)
theorem zcd(h:IsM w s l){k:Nat}(hk:k<l.length){φ:Int->Prop}(hφ:φ l[k].1) :
  (0<=(k:Int)/\(k:Int)<(s.l:Int))/\zc s.a λa=>ldI w (a.add (Int.toNat (k:Int)*3)) .u8 φ:=by
 obtain⟨a,ha⟩:=h.base hk
 exact⟨⟨by omega,by have:=h.len;omega⟩,zf ha ⟨_,h.cell a ha k hk 0 (by omega),hφ⟩⟩
theorem zim(h:IsM w s l){k:Nat}(hk:k<l.length){φ:Int->Prop}(hφ:φ l[k].2.1) :
  (0<=(k:Int)/\(k:Int)<(s.l:Int))/\zc s.a λa=>ldI w ((a.add (Int.toNat (k:Int)*3)).add 1) .i64 φ:=by
 obtain⟨a,ha⟩:=h.base hk
 exact⟨⟨by omega,by have:=h.len;omega⟩,zf ha ⟨_,by rw[zv];exact h.cell a ha k hk 1 (by omega),hφ⟩⟩
theorem zl3(h:IsM w s l){k:Nat}(hk:k<l.length){φ:Int->Prop}(hφ:φ l[k].2.2) :
  (0<=(k:Int)/\(k:Int)<(s.l:Int))/\zc s.a λa=>ldI w ((a.add (Int.toNat (k:Int)*3)).add 2) .i64 φ:=by
 obtain⟨a,ha⟩:=h.base hk
 exact⟨⟨by omega,by have:=h.len;omega⟩,zf ha ⟨_,by rw[zv];exact h.cell a ha k hk 2 (by omega),hφ⟩⟩
end
theorem zqs{w:World}{x y z:Int}{K:World->Prop}(hK:∀w',Blk w' w.heap.size 121 [.int .u8 x,.int .i64 y,.int .i64 z]->Below w.heap.size w w'->w'.heap.size=w.heap.size+1->K w') :
  Nw (w.alloc (.cells #[(.int .u8 (0:Int)),(.int .i64 (0:Int)),(.int .i64 (0:Int))] 121)) λw5=>
  Wr w5 (blk w.heap.size)/\
  Nw (w5.setCell (blk w.heap.size) (.int .u8 x)) λw6=>
  Wr w6 ((blk w.heap.size).add 1)/\
  Nw (w6.setCell ((blk w.heap.size).add 1) (.int .i64 y)) λw7=>
  Wr w7 ((blk w.heap.size).add 2)/\
  Nw (w7.setCell ((blk w.heap.size).add 2) (.int .i64 z)) λw8=>K w8:=by
 have h1:=Blk.new w 121 #[(.int .u8 (0:Int)),(.int .i64 (0:Int)),(.int .i64 (0:Int))]
 have b1:Below w.heap.size w (w.alloc (.cells #[(.int .u8 (0:Int)),(.int .i64 (0:Int)),(.int .i64 (0:Int))] 121)):=(Below.refl _ _).alloc (Nat.le_refl _) _
 refine⟨h1.wr0 (by simp),(h1.set0 _).wr (n:=1) (by simp),((h1.set0 _).set 1 _).wr (n:=2) (by simp),hK _ (((h1.set0 _).set 1 _).set 2 _) ?_ (by simp[World.setCell])⟩
 exact((b1.setCell (Nat.le_refl _) _).setCell (by rw[zn];exact Nat.le_refl _) _).setCell (by rw[zn];exact Nat.le_refl _) _
theorem znC{s:Sl}{l:List Mg}{w:World}{R:VWP}(h:IsM w s l)(h24:l.length*24<=140737488355328)
  (hR:∀r w',IsM w' r l->zw w.heap.size r->Below w.heap.size w w'->(∃xs,Own w' 121 3 r xs)->R (.slice r.a r.l r.c) w') :
  cR 148 #[.slice s.a s.l s.c] w R:=by
 refine zb.of (Zv s R w ?_) λ_ _ h=>h
 refine zm (λhn=>?_) (λhn=>?_)
 ·have hn:s.a=none:=by simpa using hn
  have hc:=h.nil hn
  have:l=[]:=List.eq_nil_of_length_eq_zero (by have:=h.len;have:=h.cap;omega)
  subst this
  exact hR ⟨none,0,0⟩ w ⟨rfl,Nat.le_refl _,Nat.zero_le _,λ_=>rfl,λa ha=>by cases ha⟩ (λa ha=>by cases ha) (Below.refl _ _) ⟨[],Own.nil _ _ _⟩
 ·obtain⟨a,ha⟩:∃a,s.a=some a:=by
   cases hs:s.a with
   |none=>rw[hs]at hn;cases hn
   |some a=>exact⟨a,rfl⟩
  refine Nw.gen λw1 hw1=>?_
  have hB:Blk w1 w.heap.size 121 []:=by rw[hw1];exact Blk.new w 121 #[]
  have hb1:Below w.heap.size w w1:=by rw[hw1];exact(Below.refl _ _).alloc (Nat.le_refl _) _
  have hO:Own w1 121 3 ⟨some (blk w.heap.size),0,0⟩ []:=⟨rfl,.inr ⟨_,[],rfl,hB,Nat.le_refl _,by simp,rfl,rfl⟩⟩
  have h':=IsC.mbelow h hb1
  rw[ha,h.len]
  refine yF eMg hO (m:=l.length) (news:=flat mgV l) (zI Zu l) (λj u hj=>?_) (λu hu=>?_) (by have:=h.bound;simp;omega) (by simpa using h24) λr w' h1 _ h3=>?_
  ·have hlt:j<l.length*3:=by
    have:=(List.getElem?_eq_some_iff.1 hj).1
    rwa[zI Zu]at this
   have e:j=j / 3*3+j % 3:=by omega
   have hg:=zjf Zu l (j / 3) (by omega) (j % 3) (by omega)
   have hc:=h'.cell a ha (j / 3) (by omega) (j % 3) (by omega)
   rw[e]at hj
   rw[e,hc,<-hg,hj]
  ·obtain⟨x,_,hx⟩:=List.mem_flatMap.1 hu
   simp only[mgV,List.mem_cons,List.not_mem_nil,or_false]at hx
   rcases hx with rfl |rfl |rfl<;>rfl
  ·rcases h3 with⟨h4,h5,h6⟩ | ⟨b,h4,h5,h6⟩
   ·subst h5
    refine hR _ _ (Own.isC (T:=121) Zu (by omega) (by simpa using h1)) (λa ha=>by rw[h4]at ha;cases ha) hb1 ⟨_,h1⟩
   ·have hbb:w.heap.size<=b:=by
     rcases h5 with h5 |h5
     ·cases h5;exact Nat.le_refl _
     ·have:=hb1.size;omega
    exact hR _ _ (Own.isC (T:=121) Zu (by omega) (by simpa using h1)) (λa ha=>by rw[h4]at ha;cases ha;exact hbb) (hb1.trans (zM h6 hbb hb1.size)) ⟨_,h1⟩
abbrev flV(x:Int×Int):List Value:=[.int .i64 x.1,.int .i64 x.2]
theorem zkW(x:Int×Int):(flV x).length=2:=rfl
abbrev IsF(w:World)(s:Sl)(l:List (Int×Int)):Prop:=IsC 2 flV w s l
theorem eFl:zao Tryz.prog 152 156 2 16:=⟨by kernel_rfl,Tryz.t156,.agg #[.int .i64 0,.int .i64 0],by kernel_rfl,rfl,rfl,rfl,rfl⟩
end Go.Proofs
namespace Go.Proofs
open Go.Gk Go.RowKit Go.Gr Go.Dm
def FitP(n:Nat)(x:Mg):Prop:=x.1<=3/\(x.1≠0->0<=x.2.1/\x.2.1<n)/\(x.1=2->0<=x.2.2/\x.2.2<n)
def Fit(n:Nat)(ml:List Mg):Prop:=ml.length=n/\∀x∈ml,FitP n x
theorem zgR{gb:Nat}{nx:List (List Nat)}{i:Int}{w:World}{R:VWP}(h:IsG w gb nx)(hR:R (.bool (decide (0<=i/\i<nx.length))) w) :
  cR 108 #[.pointer (some (blk gb)),.int .i64 i] w R:=by
 refine zb.of (zjx _ i R w ?_) λ_ _ h=>h
 refine zi (λh0=>zba h ⟨_,rfl,?_⟩) (λh0=>?_)
 ·have:decide (i<(nx.length:Int))=decide (0<=i/\i<nx.length):=by
   rw[decide_eq_decide];exact⟨λh=>⟨h0,h⟩,λh=>h.2⟩
  rw[this]
  exact hR
 ·have:decide (0<=i/\i<(nx.length:Int))=false:=by
   rw[decide_eq_false_iff_not];exact λh=>h0 h.1
  rw[this]at hR
  exact hR
theorem zkP{y:Value}{r:Sl}{l:List Mg}{Q:Mg->Prop}{Inv:World->Prop}{w:World}{R:VWP}(hi:Inv w)(hl:l.length<=4096)(hr:∀w',Inv w'->IsM w' r l)
  (hy:∀x∈l,∀w',Inv w'->zV Tryz.prog Tryz.fs y [.agg #[.int .u8 x.1,.int .i64 x.2.1,.int .i64 x.2.2]] w' λv w''=>∃b:Bool,v =.bool b/\(b=true↔Q x)/\Inv w'')
  (hR:∀(v:Int) w',Inv w'->(0<=v↔∃p∈l,Q p)->R (.int .i64 v) w'):cR 234 #[.slice r.a r.l r.c,y] w R:=by
 refine zb.of (yW r y R w ?_) λ_ _ h=>h
 refine zl.count l.length (by omega) (λk w'=>Inv w'/\∀j (hj:j<l.length),j<k->¬Q l[j]) ⟨hi,λj hj h=>absurd h (by omega)⟩ ?_
 rintro k w1 hk ⟨hi,hn⟩ next hnext
 have hlen:=(hr w1 hi).len
 refine zi (λhlt=>?_) (λhge=>?_)
 ·have hlt:k<l.length:=by dsimp only at hlt;omega
  refine zoh (hr w1 hi) hlt ?_
  refine zV.mono (hy _ (List.getElem_mem hlt) w1 hi) λv w'' ⟨b,hv,hb,hi'⟩=>⟨b,hv,zm (λe=>hR _ w'' hi' ⟨λ_=>⟨l[k],List.getElem_mem hlt,hb.1 e⟩,λ_=>by first |omega | (dsimp only;omega)⟩) λe=>hnext w'' hlt ⟨hi',λj hj hjk=>?_⟩⟩
  by_cases e':j=k
  ·subst e';intro hq;rw[hb.2 hq]at e;cases e
  ·exact hn j hj (by omega)
 ·refine hR (-1) w1 hi ⟨λh=>absurd h (by decide),λ⟨p,hp,hq⟩=>?_⟩
  obtain⟨j,hj,rfl⟩:=List.mem_iff_getElem.1 hp
  exact absurd hq (hn j hj (by dsimp only at hge;omega))
theorem zqJ{x:Mg}{c gb:Nat}{nx:List (List Nat)}{w:World}{R:VWP}(hG:IsG w gb nx)(hc:Blk w c 75 [.pointer (some (Gk.blk gb))])
  (hR:∀b w',Below w.heap.size w w'->(b=true↔¬FitP nx.length x)->R (.bool b) w') :
  Calls Tryz.prog 187 #[.agg #[.int .u8 x.1,.int .i64 x.2.1,.int .i64 x.2.2],.pointer (some (Gk.blk c))] w (Ret R):=by
 refine zki (x.1,x.2.1,x.2.2,()) (Gk.blk c) R w ?_
 unfold zf3
 refine Nw.gen λw1 hw1=>?_
 have h1:Blk w1 w.heap.size 121 [.int .u8 x.1,.int .i64 x.2.1,.int .i64 x.2.2]:=by rw[hw1];exact Blk.new w _ #[_,_,_]
 have b1:Below w.heap.size w w1:=by rw[hw1];exact(Below.refl _ _).alloc (Nat.le_refl _) _
 clear hw1
 have hG1:=hG.below b1
 have hc1:=hc.below b1
 refine⟨x.1,h1.cell0 rfl,zi (λh3=>hR true w1 b1 ⟨λ_ hf=>by have:=hf.1;omega,λ_=>rfl⟩) (λh3=>⟨x.1,h1.cell0 rfl,zr (λhne=>?_) (λhe=>?_)⟩)⟩
 ·refine⟨_,hc1.cell0 rfl,x.2.1,h1.cell (n:=1) rfl,zgR hG1 ⟨_,rfl,zy (zi (λhin=>?_) (λhin=>hR true w1 b1 ⟨λ_ hf=>hin (hf.2.1 hne),λ_=>rfl⟩))⟩⟩
  refine⟨x.1,h1.cell0 rfl,zj (λh2=>?_) (λh2=>hR false w1 b1 ⟨(λh=>by cases h),λhf=>absurd ⟨by omega,λ_=>hin,λh=>absurd h h2⟩ hf⟩)⟩
  refine⟨_,hc1.cell0 rfl,x.2.2,h1.cell (n:=2) rfl,zgR hG1 ⟨_,rfl,hR _ w1 b1 ?_⟩⟩
  rw[Bool.not_eq_true',decide_eq_false_iff_not]
  exact⟨λh hf=>h (hf.2.2 h2),λhf h=>hf ⟨by omega,λ_=>hin,λ_=>h⟩⟩
 ·refine⟨x.1,h1.cell0 rfl,zj (λh2=>absurd h2 (by omega)) (λh2=>hR false w1 b1 ⟨(λh=>by cases h),λhf=>absurd ⟨by omega,λh=>absurd he h,λh=>absurd h h2⟩ hf⟩)⟩
theorem zrM{gb:Nat}{nx:List (List Nat)}{s:Sl}{ml:List Mg}{w:World}{R:VWP}(hG:IsG w gb nx)(hmax:nx.length<=4096)(hM:IsM w s ml)
  (hR:∀b w',Below w.heap.size w w'->(b=true↔Fit nx.length ml)->R (.bool b) w'):cR 147 #[.pointer (some (Gk.blk gb)),.slice s.a s.l s.c] w R:=by
 refine zb.of (zlM _ s R w ?_) λ_ _ h=>h
 unfold zif
 refine Nw.gen λw1 hw1=>?_
 have h1:Blk w1 w.heap.size 75 [.pointer (some (Gk.blk gb))]:=by rw[hw1];exact Blk.new w _ #[_]
 have b1:Below w.heap.size w w1:=by rw[hw1];exact(Below.refl _ _).alloc (Nat.le_refl _) _
 clear hw1
 have hG1:=hG.below b1
 have hM1:=IsC.mbelow hM b1
 have hz1:=b1.size
 have hl:=hM.len
 refine⟨_,h1.cell0 rfl,zba hG1 ⟨_,rfl,zj (λhe=>?_) (λhne=>hR false w1 b1 ⟨(λh=>by cases h),λhf=>absurd hf.1 (by omega)⟩)⟩⟩
 refine zb.of (yI s _ _ w1 ?_) λ_ _ h=>h
 refine zkP (Q:=λx=>¬FitP nx.length x) (Inv:=λw'=>Below w1.heap.size w1 w') (Below.refl _ _) (by omega) (λw' hb'=>IsC.mbelow hM1 hb') (λx hx w' hb'=>?_) λv w2 hb2 hv=>⟨v,rfl,_,rfl,hR _ w2 (b1.trans (hb2.mono (by omega))) ?_⟩
 ·have hc:Tryz.fs.contains 187=true:=by kernel_rfl
  unfold zV
  simp only[hc]
  exact zqJ (hG1.below hb') (h1.below hb') λb w'' hb'' hb=>⟨b,rfl,hb,hb'.trans (hb''.mono hb'.size)⟩
 ·rw[Bool.not_eq_true',decide_eq_false_iff_not,ge_iff_le,hv]
  refine⟨λh=>⟨by omega,λx hx=>Classical.byContradiction λhn=>h ⟨x,hx,hn⟩⟩,λh ⟨x,hx,hn⟩=>hn (h.2 x hx)⟩
end Go.Proofs
namespace Go.Proofs
open Go.Gk Go.RowKit Go.Gr Go.Dm
structure Nst where
 nx:List (List Nat)
 ml:List Mg
 wx:List (List Nat)
 ov:Nat->Option Nat
 dp:Nat->Int
namespace Nst
variable (g:Nst)
def kd(i:Nat):Int:=(g.ml.getD i (0,0,0)).1
def to(i:Nat):Int:=(g.ml.getD i (0,0,0)).2.1
def co(i:Nat):Int:=(g.ml.getD i (0,0,0)).2.2
def D(a b:Int):Prop:=DomP (zp g.wx) g.ov a b
def In(h i:Nat):Prop:=g.kd h≠0/\g.D (h:Int) (i:Int)/\¬g.D (g.to h) (i:Int)
open Classical in
noncomputable def hdP(i h:Nat):Bool:=decide (g.kd h≠0/\¬g.D (g.to h) (i:Int))
noncomputable def hd(i:Nat):List Nat:=((upOf g.wx g.ov g.dp (i:Int)).filter (g.hdP i)).reverse
variable {g}
theorem kd_get{i:Nat}(h:i<g.ml.length):(g.ml[i]).1=g.kd i:=by simp[kd,List.getD,h]
theorem to_get{i:Nat}(h:i<g.ml.length):(g.ml[i]).2.1=g.to i:=by simp[to,List.getD,h]
theorem co_get{i:Nat}(h:i<g.ml.length):(g.ml[i]).2.2=g.co i:=by simp[co,List.getD,h]
theorem hdP_iff{i h:Nat}:g.hdP i h=true↔g.kd h≠0/\¬g.D (g.to h) (i:Int):=by simp[hdP]
end Nst
structure Ne0 (w:World) (nb gb:Nat) (hsl:Sl) (g:Nst) (wb tb:Nat) (ms:Sl):Prop where
 ok:NxOk g.nx
 fit:Fit g.nx.length g.ml
 wlen:g.wx.length=g.nx.length
 b:Blk w nb 165 [.pointer (some (Gk.blk gb)),ms.val,.pointer (some (Gk.blk wb)),.pointer (some (Gk.blk tb)),hsl.val]
 gr:IsG w gb g.nx
 m:IsM w ms g.ml
 wide:IsG w wb g.wx
 dt:Dt w tb g.wx g.ov g.dp
section
variable {w w':World} {nb gb:Nat} {hsl:Sl} {g:Nst} {wb tb:Nat} {ms:Sl} {R:VWP}
theorem Ne0.below(h:Ne0 w nb gb hsl g wb tb ms)(hb:Below w.heap.size w w'):Ne0 w' nb gb hsl g wb tb ms:=
 ⟨h.ok,h.fit,h.wlen,h.b.below hb,h.gr.below hb,IsC.mbelow h.m hb,h.wide.below hb,h.dt.below hb⟩
theorem yo{nx:List (List Nat)}(hx:NxOk nx)(i:Int):zbh nx i=inOd (zp nx) i:=by
 unfold zbh inOd
 congr 1
 rw[Bool.eq_iff_iff]
 simp[hx.walkOk.mem]
theorem Dt.ends{nx:List (List Nat)}{ov:Nat->Option Nat}{dp:Nat->Int}{a b:Int}(h:Dt w tb nx ov dp)(hD:DomP (zp nx) ov a b):inOd (zp nx) a=true/\inOd (zp nx) b=true:=by
 obtain⟨a',b',rfl,rfl,h1,h2⟩:=hD
 exact⟨yP.2 ⟨a',rfl,h.ancOd h1 h2⟩,yP.2 ⟨b',rfl,h1⟩⟩
theorem yy(h:Ne0 w nb gb hsl g wb tb ms){a b:Int}(hR:∀v w',Below w.heap.size w w'->(v=true↔g.D a b)->R (.bool v) w') :
  cR 190 #[.pointer (some (Gk.blk nb)),.int .i64 a,.int .i64 b] w R:=by
 refine zb.of (zcM _ a b R w ?_) λ_ _ h=>h
 have no:∀{x:Int},zbh g.wx x=false->(x=a\/x=b)->R (.bool false) w:=λ{x} hx hab=>by
  refine hR false w (Below.refl _ _) ⟨λe=>(by cases e),λhD=>?_⟩
  obtain⟨h1,h2⟩:=h.dt.ends hD
  rw[yo h.dt.ok]at hx
  rcases hab with rfl |rfl
  ·rw[h1]at hx;cases hx
  ·rw[h2]at hx;cases hx
 refine zf rfl ⟨_,h.b.cell (n:=2) rfl,ZC h.dt.ok h.wide ⟨_,rfl,zm (λha=>?_) (λha=>no ha (.inl rfl))⟩⟩
 refine zf rfl ⟨_,h.b.cell (n:=2) rfl,ZC h.dt.ok h.wide ⟨_,rfl,zm (λhb=>?_) (λhb=>no hb (.inr rfl))⟩⟩
 exact zf rfl ⟨_,h.b.cell (n:=3) rfl,zli h.dt λv w' hb hv=>⟨v,rfl,hR v w' hb hv⟩⟩
theorem Dt.upLen{nx:List (List Nat)}{ov:Nat->Option Nat}{dp:Nat->Int}(h:Dt w tb nx ov dp)(i:Int):(upOf nx ov dp i).length<=4097:=by
 by_cases hin:inOd (zp nx) i=true
 ·obtain⟨y,rfl,hy⟩:=yP.1 hin
  have hm:=h.dpo.mem y hy
  have hrl:=List.idxOf_lt_length_of_mem hy
  have hol:=zmO nx
  have hwl:=h.ok.walk_le
  have hmx:=h.ok.max
  have hrk:rkOf (zp nx) y<4096:=by unfold rkOf;omega
  rw[zh1 hy,(h.upL_spec _ y hy (by omega)).1]
  omega
 ·unfold upOf;rw[if_neg hin];simp
theorem Dt.upNext{nx:List (List Nat)}{ov:Nat->Option Nat}{dp:Nat->Int}(h:Dt w tb nx ov dp)(i:Int)(k:Nat):(upOf nx ov dp i)[k+1]? =(upOf nx ov dp i)[k]?.bind ov:=by
 by_cases hin:inOd (zp nx) i=true
 ·obtain⟨y,rfl,hy⟩:=yP.1 hin
  have hm:=h.dpo.mem y hy
  rw[zh1 hy]
  exact(h.upL_spec _ y hy (by omega)).2.2.1 k
 ·unfold upOf;rw[if_neg hin];rfl
theorem Dt.up0{nx:List (List Nat)}{ov:Nat->Option Nat}{dp:Nat->Int}(h:Dt w tb nx ov dp){i:Int}(hin:inOd (zp nx) i=true):(upOf nx ov dp i)[0]? =some i.toNat:=by
 obtain⟨y,rfl,hy⟩:=yP.1 hin
 have hm:=h.dpo.mem y hy
 rw[zh1 hy,(h.upL_spec _ y hy (by omega)).2.2.2]
 rfl
structure AS (w:World) (nb tb:Nat) (i:Int) (l:List Nat) (o:Obj) (w':World):Prop where
 b:Below w.heap.size w w'
 size:w.heap.size+6<w'.heap.size
 self:Blk w' w.heap.size 159 [.pointer (some (Gk.blk nb))]
 i:Blk w' (w.heap.size+1) 3 [.int .i64 i]
 lst:∃s:Sl,Blk w' (w.heap.size+2) 26 [s.val]/\Own w' 3 1 s (l.map iN)/\zw (w.heap.size+7) s
 pp:Blk w' (w.heap.size+3) 163 [.pointer (some (Gk.blk tb))]
 rcd:w'.heap[w.heap.size+6]? =some o
 mark:w'.heap[w.heap.size+5]? =some (.deferred (some []))
theorem AS.grow{i:Int}{l:List Nat}{o:Obj}{w'':World}(h:AS w nb tb i l o w')(hb:Below w'.heap.size w' w''):AS w nb tb i l o w'':=by
 have hs:=h.size
 obtain⟨s,h1,h2,h3⟩:=h.lst
 exact⟨h.b.trans (hb.mono h.b.size),by have:=hb.size;omega,h.self.below hb,h.i.below hb,⟨s,h1.below hb,h2.below hb,h3⟩,h.pp.below hb,(hb.block _ (by omega)).trans h.rcd,(hb.block _ (by omega)).trans h.mark⟩
theorem AS.put{i:Int}{l:List Nat}{o:Obj}(h:AS w nb tb i l o w')(o':Obj):AS w nb tb i l o' (w'.putObj (w.heap.size+6) o'):=by
 obtain⟨s,h1,h2,h3⟩:=h.lst
 exact⟨h.b.putObj (by omega) _,by simpa using h.size,h.self.put (by omega) _,h.i.put (by omega) _,⟨s,h1.put (by omega) _,h2.of_block λa ha=>World.putObj_heap_other (by have:=h3 a ha;omega),h3⟩,h.pp.put (by omega) _,World.putObj_heap_same h.size,(World.putObj_heap_other (by omega)).trans h.mark⟩
set_option maxHeartbeats 8000000 in
theorem znR(h:Ne0 w nb gb hsl g wb tb ms){i:Nat}(hR:∀r w',Below w.heap.size w w'->Own w' 3 1 r ((g.hd i).map iN)->zw w.heap.size r->R (.slice r.a r.l r.c) w') :
  cR 150 #[.pointer (some (Gk.blk nb)),.int .i64 (i:Int)] w R:=by
 refine zb.of (zeD _ (i:Int) R w ?_) λ_ _ h=>h
 unfold Z2
 refine Nw.gen λw1 hw1=>Nw.gen λw2 hw2=>?_
 have h1:Blk w1 w.heap.size 159 [.pointer (some (Gk.blk nb))]:=by rw[hw1];exact Blk.new w _ #[_]
 have z1:w1.heap.size=w.heap.size+1:=by rw[hw1];simp
 have h2:Blk w2 w1.heap.size 3 [.int .i64 (i:Int)]:=by rw[hw2];exact Blk.new w1 _ #[_]
 have h1':Blk w2 w.heap.size 159 [.pointer (some (Gk.blk nb))]:=by rw[hw2];exact h1.alloc _
 have z2:w2.heap.size=w.heap.size+2:=by rw[hw2,hw1];simp
 have b2:Below w.heap.size w w2:=by rw[hw2,hw1];exact((Below.refl _ _).alloc (Nat.le_refl _) _).alloc (by simp) _
 clear hw2 hw1 h1
 rw[z1]at h2⊢
 have e2:=h.below b2.drew
 refine⟨_,h1'.cell0 rfl,zf rfl ⟨_,e2.b.cell (n:=2) rfl,_,h2.cell0 rfl,ZC e2.dt.ok e2.wide ⟨_,rfl,zy (zm (λhin=>?_) (λhin=>?_))⟩⟩⟩
 rotate_left
 ·rw[yo e2.dt.ok]at hin
  refine hR ⟨none,0,0⟩ _ b2.drew ?_ λa ha=>by cases ha
  have:g.hd i=[]:=by unfold Nst.hd upOf;rw[if_neg (by rw[hin];simp)];rfl
  rw[this]
  exact Own.nil _ _ _
 rw[yo e2.dt.ok]at hin
 refine Nw.gen λw4 hw4=>?_
 have h4:Blk w4 w2.heap.size 26 [(⟨none,0,0⟩:Sl).val]:=by rw[hw4];exact Blk.new w2.drew _ #[_]
 have b4:Below w2.heap.size w2 w4:=by rw[hw4];exact(Below.refl _ _).drew.alloc (Nat.le_refl _) _
 have z4:w4.heap.size=w2.heap.size+1:=by rw[hw4];simp
 clear hw4
 have ed:w2.drew.heap.size=w2.heap.size:=rfl
 rw[ed]
 have e4:=(h.below (b2.trans (b4.mono (by omega)))).below (Below.refl _ _).drew
 have b04:Below w.heap.size w w4:=b2.trans (b4.mono (by omega))
 have h14:=h1'.below b4
 have h24:=h2.below b4
 refine⟨_,h14.cell0 rfl,zf rfl ⟨_,e4.b.cell (n:=3) rfl,_,h24.cell0 rfl,?_⟩⟩
 refine zqe λw5 hP5 hI5 b5 z5=>⟨_,rfl,?_⟩
 have ed4:w4.drew.heap.size=w4.heap.size:=rfl
 rw[ed4]at hP5 hI5 b5 z5⊢
 have b5:Below w4.heap.size w4 w5:=(Below.refl _ _).drew.trans b5
 have ez2:w2.heap.size=w.heap.size+2:=z2
 have ez4:w4.heap.size=w.heap.size+3:=by omega
 have ez5:w5.heap.size=w.heap.size+5:=by omega
 have b05:Below w.heap.size w w5:=b04.trans (b5.mono (by omega))
 have h15:=h14.below b5
 have h25:=h24.below b5
 have h45:=h4.below b5
 rw[ez2]at h45⊢
 rw[ez4]at hP5 hI5⊢
 have e5:=h.below b05
 obtain⟨U,hU⟩:∃U,U=upOf g.wx g.ov g.dp (i:Int):=⟨_,rfl⟩
 have hUl:U.length<=4097:=hU▸e5.dt.upLen _
 have hUn:∀k,U[k+1]? =U[k]?.bind g.ov:=λk=>hU▸e5.dt.upNext _ k
 have hfl:∀k,((U.take k).filter (g.hdP i)).length<=4097:=λk=>by
  have:=List.length_filter_le (g.hdP i) (U.take k)
  rw[List.length_take]at this
  omega
 refine zpe e5.dt hP5 hI5 λmk=>?_
 rw[ez5]
 have start:∀o:Obj,AS w nb tb (i:Int) [] o ((w5.alloc (.deferred (some []))).alloc o):=λo=>by
  have bl:=zd5 w5 (.deferred (some [])) o
  have k1:=znw w5 (.deferred (some [])) o
  have k2:=znv w5 (.deferred (some [])) o
  rw[ez5]at k1 k2
  exact⟨b05.trans (bl.mono (by omega)),by rw[zka];omega,h15.below bl,h25.below bl,⟨_,h45.below bl,Own.nil _ _ _,λa ha=>by cases ha⟩,hP5.below bl,k1,k2⟩
 have fin:∀w',AS w nb tb (i:Int) (U.filter (g.hdP i)) (mk .ready none) w'->
   ym mk (w.heap.size+6) .ready none w' λw13=>
     ldS w13 (Gk.blk (w.heap.size+2)) λx34=>
     cR 138 #[(.slice x34.a x34.l x34.c)] w13 λv35 w14=>
     v35=(.tuple #[])/\
     ldS w14 (Gk.blk (w.heap.size+2)) λx36=>
     Yp ((w.heap.size+5)::[]) w14 λw15=>
     R (.slice x36.a x36.l x36.c) w15:=λw' g1=>by
  refine⟨g1.rcd,?_⟩
  have g2:=g1.put (mk .exhausted none)
  generalize w'.putObj (w.heap.size+6) (mk .exhausted none)=w13 at g2
  obtain⟨s,k1,k2,k3⟩:=g2.lst
  refine⟨s,k1.cell0 rfl,ziH k2 λw14 k4 k5=>⟨rfl,s,?_,?_⟩⟩
  ·have hbl:w14.heap[w.heap.size+2]? =w13.heap[w.heap.size+2]?:=k5.block _ λa ha=>by have:=k3 a ha;omega
   exact(k1.of_block hbl).cell0 rfl
  ·have hbl:w14.heap[w.heap.size+5]? =w13.heap[w.heap.size+5]?:=k5.block _ λa ha=>by have:=k3 a ha;omega
   refine zdy (hbl.trans g2.mark) (hR s _ ?_ ?_ λa ha=>by have:=k3 a ha;omega)
   ·exact(g2.b.trans (k5.below λa ha=>by have:=k3 a ha;omega)).putObj (by omega) _
   ·have:g.hd i=(U.filter (g.hdP i)).reverse:=by rw[hU];rfl
    rw[this]
    exact k4.of_block λa ha=>World.putObj_heap_other (by have:=k3 a ha;omega)
 refine⟨λo w'=>∃k,AS w nb tb (i:Int) ((U.take k).filter (g.hdP i)) (mk .ready none) w'/\o=U[k]?/\k<=U.length,λhin=>⟨0,start _,(hU▸(e5.dt.up0 hin).symm),Nat.zero_le _⟩,λhno=>(by rw[hin]at hno;cases hno),λo w' ⟨k,g1,_⟩=>⟨(h.below g1.b).dt,g1.pp⟩,λy w' hy hI=>?_,λw' ⟨k,g1,e,hk⟩=>fin w' ?_⟩
 ·obtain⟨k,g1,e,hk⟩:=hI
  refine⟨g1.rcd,g1.rcd,Nw.mk ?_⟩
  have hkl:k<U.length:=by
   rcases Nat.lt_or_ge k U.length with h |h
   ·exact h
   ·rw[List.getElem?_eq_none h]at e;cases e
  have hyk:U[k]=y:=by rw[List.getElem?_eq_getElem hkl]at e;exact(Option.some.inj e).symm
  have hyn:=e5.dt.lt hy
  have hym:y<g.ml.length:=by rw[h.fit.1,<-h.wlen];exact hyn
  have nxt:∀{l w''},AS w nb tb (i:Int) l (mk .busy none) w''->l=(U.take (k+1)).filter (g.hdP i)->∃k',AS w nb tb (i:Int) ((U.take k').filter (g.hdP i)) (mk .ready none) (w''.putObj (w.heap.size+6) (mk .ready none))/\g.ov y=U[k']?/\k'<=U.length:=λ{l w''} g3 el=>by
   subst el
   exact⟨k+1,g3.put _,by rw[hUn,<-e];rfl,hkl⟩
  have hstep:(U.take (k+1)).filter (g.hdP i)=(U.take k).filter (g.hdP i)++if g.hdP i y then [y] else []:=by
   rw[List.take_succ_eq_append_getElem hkl,List.filter_append,hyk]
   by_cases hp:g.hdP i y=true
   ·simp[hp]
   ·simp[hp]
  have g2:=g1.put (mk .busy none)
  generalize w'.putObj (w.heap.size+6) (mk .busy none)=w7 at g2
  have g2:=g2.grow (w'':=w7.drew) (Below.refl _ _).drew
  have e7:=h.below g2.b
  refine⟨_,g2.self.cell0 rfl,zf rfl ⟨ms,e7.b.cell (n:=1) rfl,zcd e7.m hym ?_⟩⟩
  rw[Nst.kd_get hym]
  refine zr (λhne=>?_) (λhe=>?_)
  ·refine⟨_,g2.self.cell0 rfl,_,g2.self.cell0 rfl,zf rfl ⟨ms,e7.b.cell (n:=1) rfl,zim e7.m hym ?_⟩⟩
   rw[Nst.to_get hym]
   refine⟨_,g2.i.cell0 rfl,yy e7 λv w8 b8 hv=>⟨v,rfl,zy (zm (λhv1=>?_) (λhv0=>?_))⟩⟩
   ·have g3:=g2.grow b8
    refine⟨g3.rcd,.inl ⟨rfl,nxt g3 ?_⟩⟩
    rw[hstep,if_neg,List.append_nil]
    rw[Nst.hdP_iff]
    exact λhh=>hh.2 (hv.1 hv1)
   ·have g3:=g2.grow b8
    obtain⟨s,k1,k2,k3⟩:=g3.lst
    have hp:g.hdP i y=true:=Nst.hdP_iff.2 ⟨hne,λhD=>by rw[hv.2 hD]at hv0;cases hv0⟩
    have hl4:=hfl k
    have hs3:=g3.size
    refine⟨s,k1.cell0 rfl,Yi (B0:=w.heap.size+7) (w0:=w8) (y:=y) rfl (Below.refl _ _) (by omega) k2 k3 (by omega) λr w10 q1 q2 q3 q4=>?_⟩
    have bl:∀j,j<=6->w10.heap[w.heap.size+j]? =w8.heap[w.heap.size+j]?:=λj hj=>q1.block _ (by omega)
    have k1':Blk w10 (w.heap.size+2) 26 [s.val]:=k1.of_block (bl 2 (by omega))
    refine⟨k1'.wr0 (by simp),Nw.mk ?_⟩
    have g4:AS w nb tb (i:Int) ((U.take k).filter (g.hdP i)++[y]) (mk .busy none) (w10.setCell (Gk.blk (w.heap.size+2)) (.slice r.a r.l r.c)):=by
     refine⟨(g3.b.trans (q1.mono (by omega))).setCell (by show w.heap.size<=w.heap.size+2;omega) _,by have:w.heap.size+6<w10.heap.size:=q2;simpa[World.setCell] using this,?_,?_,⟨r,k1'.set0 _,?_,q4⟩,?_,?_,?_⟩
     ·exact(g3.self.of_block (bl 0 (by omega))).other (by show w.heap.size≠w.heap.size+2;omega) _
     ·exact(g3.i.of_block (bl 1 (by omega))).other (by show w.heap.size+1≠w.heap.size+2;omega) _
     ·exact q3.of_block λa ha=>zA (n:=0) (by have:=q4 a ha;omega) _
     ·exact(g3.pp.of_block (bl 3 (by omega))).other (by show w.heap.size+3≠w.heap.size+2;omega) _
     ·exact(zA (n:=0) (by omega) _).trans ((bl 6 (by omega)).trans g3.rcd)
     ·exact(zA (n:=0) (by omega) _).trans ((bl 5 (by omega)).trans g3.mark)
    exact⟨g4.rcd,.inl ⟨rfl,nxt g4 (by rw[hstep,if_pos hp])⟩⟩
  ·refine⟨g2.rcd,.inl ⟨rfl,nxt g2 ?_⟩⟩
   rw[hstep,if_neg,List.append_nil]
   rw[Nst.hdP_iff]
   exact λhh=>hh.1 he
 ·have:U.length<=k:=by
   rcases Nat.lt_or_ge k U.length with h |h
   ·rw[List.getElem?_eq_getElem h]at e;cases e
   ·exact h
  rw[List.take_of_length_le this]at g1
  exact g1
end
end Go.Proofs
namespace Go.Proofs
open Go.Gk Go.RowKit Go.Gr Go.Dm
def extL(x:Mg):List Nat:=if x.1=0 then [] else if x.1=2 then [x.2.1.toNat,x.2.2.toNat] else [x.2.1.toNat]
def wrow(nx:List (List Nat))(ml:List Mg)(i:Nat):List Nat:=nx.getD i []++extL (ml.getD i (0,0,0))
def zhe(nx:List (List Nat))(ml:List Mg):List (List Nat):=(List.range nx.length).map (wrow nx ml)
def zz(nx:List (List Nat))(ml:List Mg):List (List Nat):=(zhe nx ml).map Ze
abbrev Yk(nx:List (List Nat))(ml:List Mg):List (List Int):=(zhe nx ml).map λl=>l.map λ(x:Nat)=>(x:Int)
theorem zik(nx:List (List Nat))(ml:List Mg):zO (Yk nx ml)=zz nx ml:=by
 have e:(λl:List Int=>l.map Int.toNat) ∘ (λl:List Nat=>l.map λ(x:Nat)=>(x:Int))=id:=by
  funext l
  simp only[Function.comp_apply,List.map_map,id_eq]
  have:Int.toNat ∘ (λ(x:Nat)=>(x:Int))=id:=by funext x;rfl
  rw[this,List.map_id]
 unfold zO z0 Yk zz
 rw[List.map_map (l:=zhe nx ml),e,List.map_id]
theorem zsA{n:Nat}{x:Mg}(h:FitP n x):∀t∈extL x,t<n:=by
 intro t ht
 unfold extL at ht
 by_cases h0:x.1=0
 ·rw[if_pos h0]at ht;cases ht
 ·rw[if_neg h0]at ht
  have h1:=h.2.1 h0
  by_cases h2:x.1=2
  ·rw[if_pos h2]at ht
   have h3:=h.2.2 h2
   simp only[List.mem_cons,List.not_mem_nil,or_false]at ht
   rcases ht with rfl |rfl<;>omega
  ·rw[if_neg h2]at ht
   simp only[List.mem_cons,List.not_mem_nil,or_false]at ht
   omega
theorem zok(x:Mg):(extL x).length<=2:=by
 unfold extL
 split
 ·simp
 ·split<;>simp
theorem zl7{n:Nat}{ml:List Mg}(h:Fit n ml){i:Nat}(hi:i<n):FitP n (ml.getD i (0,0,0)):=by
 have hl:i<ml.length:=by rw[h.1];exact hi
 have:ml.getD i (0,0,0)=ml[i]:=by simp[List.getD,hl]
 rw[this]
 exact h.2 _ (List.getElem_mem hl)
theorem zsU{nx:List (List Nat)}{ml:List Mg}(hx:NxOk nx)(h:Fit nx.length ml){i:Nat}(hi:i<nx.length):∀t∈wrow nx ml i,t<nx.length:=by
 intro t ht
 rcases List.mem_append.1 ht with ht |ht
 ·exact hx.rows i t ht
 ·exact zsA (zl7 h hi) t ht
theorem zi3{nx:List (List Nat)}{ml:List Mg}(hx:NxOk nx)(h:Fit nx.length ml):Good (Yk nx ml):=by
 intro l hl x hxl
 obtain⟨l',hl',rfl⟩:=List.mem_map.1 hl
 obtain⟨t,ht,rfl⟩:=List.mem_map.1 hxl
 obtain⟨i,hi,rfl⟩:=List.mem_map.1 hl'
 have:=zsU hx h (List.mem_range.1 hi) t ht
 have e:(Yk nx ml).length=nx.length:=by simp[Yk,zhe]
 rw[e]
 omega
theorem zky{w:World}{s:Sl}{xs:List Nat}{B0:Nat}(h:Own w 3 1 s (xs.map iN))(hf:zw B0 s)(hB:B0<=w.heap.size){b c m:Nat}{T:TypeId}{ys:List Nat}(hBy:Blk w b T (ys.map iN))(hm:m=ys.length)(hlen:xs.length+ys.length<=1099511627776)
  {k:Sl->World->Prop} (hk:∀r w',Below B0 w w'->Own w' 3 1 r ((xs++ys).map iN)->zw B0 r->k r w') :
  zo Tryz.prog 26 (.slice s.a s.l s.c) (.slice (some (Gk.blk b)) m c) w k:=by
 subst hm
 have hsl:=yh h
 refine yF eInt h (m:=ys.length) (news:=ys.map iN) (by simp) (λj u hj=>hBy.cell hj) (λu hu=>?_) (by omega) (by omega) λr w' h1 _ h3=>?_
 ·obtain⟨x,_,rfl⟩:=List.mem_map.1 hu;rfl
 ·rw[<-List.map_append]at h1
  rcases h3 with⟨h4,h5,h6⟩ | ⟨b',h4,h5,h6⟩
  ·subst h5
   exact hk _ _ (Below.refl _ _) h1 (λa ha=>by rw[h4]at ha;cases ha)
  ·have hb:B0<=b':=by
    rcases h5 with h5 |h5
    ·have:=hf _ h5;exact this
    ·omega
   exact hk _ _ (zM h6 hb hB) h1 (λa ha=>by rw[h4]at ha;cases ha;exact hb)
structure Ne (w:World) (nb gb:Nat) (g:Nst):Prop where
 ex:∃hsl hh wb tb ms,Ne0 w nb gb hsl g wb tb ms/\IsNN w hsl hh ((List.range g.nx.length).map g.hd)
theorem Ne.below{w w':World}{nb gb:Nat}{g:Nst}(h:Ne w nb gb g)(hb:Below w.heap.size w w'):Ne w' nb gb g:=
 let⟨hsl,hh,wb,tb,ms,h1,h2⟩:=h.ex;⟨hsl,hh,wb,tb,ms,h1.below hb,h2.below hb⟩
structure WS (w:World) (bh n:Nat) (row:Nat->List Nat) (T k:Nat) (w':World):Prop where
 b:Below w.heap.size w w'
 wT:w.heap.size<=T
 bT:bh<T
 size:T<=w'.heap.size
 rows:∃hs:List Sl,hs.length=n/\Blk w' bh 26 (hs.map Sl.val)/\∀(i:Nat) (h:i<hs.length),i<k->Own w' 3 1 hs[i] ((row i).map iN)/\∀a,hs[i].a=some a->a.block<T
theorem WS.grow{w w' w'':World}{bh n:Nat}{row:Nat->List Nat}{T k:Nat}(h:WS w bh n row T k w')(hb:Below T w' w''):WS w bh n row T k w'':=by
 obtain⟨hs,h1,h2,h3⟩:=h.rows
 have:=h.bT
 have hz:=hb.size
 have hz':=h.size
 exact⟨h.b.trans (hb.mono h.wT),h.wT,h.bT,by omega,hs,h1,h2.of_block (hb.block _ (by omega)),λi hi hk=>⟨(h3 i hi hk).1.of_block λa ha=>hb.block _ ((h3 i hi hk).2 a ha),(h3 i hi hk).2⟩⟩
theorem WS.put{w w' w'':World}{bh n:Nat}{row:Nat->List Nat}{T k:Nat}{r:Sl}{l:List Nat}(h:WS w bh n row T k w')(hbh:w.heap.size<=bh)(hw:w''=w'.setCell ((Gk.blk bh).add k) (.slice r.a r.l r.c))(hjn:k<n)(ho:Own w' 3 1 r (l.map iN)) :
  WS w bh n row T k w''/\w''.cell? ((Gk.blk bh).add k)=some (.slice r.a r.l r.c)/\Own w'' 3 1 r (l.map iN)/\(l=row k->WS w bh n row w''.heap.size (k+1) w''):=by
 subst hw
 obtain⟨hs,h1,h2,h3⟩:=h.rows
 have keep:∀{r':Sl} {xs:List Value},Own w' 3 1 r' xs->Own (w'.setCell ((Gk.blk bh).add k) (.slice r.a r.l r.c)) 3 1 r' xs:=λ{r' xs} ho'=>ho'.of_block λa ha=>zA (zad ho' h2 (by decide) ha) _ _
 have e:Blk (w'.setCell ((Gk.blk bh).add k) (.slice r.a r.l r.c)) bh 26 ((hs.set k r).map Sl.val):=by rw[List.map_set];exact h2.set k _
 have hb':Below w.heap.size w (w'.setCell ((Gk.blk bh).add k) (.slice r.a r.l r.c)):=h.b.setCell (by rw[zn];exact hbh) _
 have hz:(w'.setCell ((Gk.blk bh).add k) (.slice r.a r.l r.c)).heap.size=w'.heap.size:=by simp[World.setCell]
 have hT:=h.wT
 have hbT:=h.bT
 have hs':=h.size
 refine⟨⟨hb',hT,hbT,by omega,hs.set k r,by rw[List.length_set];exact h1,e,λi hi hk=>?_⟩,?_,keep ho,λhl=>⟨hb',by omega,by omega,Nat.le_refl _,hs.set k r,by rw[List.length_set];exact h1,e,λi hi hk=>?_⟩⟩
 ·simp only[List.getElem_set_ne (show k≠i by omega)]
  have:=h3 i (by simpa using hi) hk
  exact⟨keep this.1,this.2⟩
 ·exact e.cell (n:=k) (by rw[List.getElem?_map,List.getElem?_set_self (by omega)];rfl)
 ·by_cases hik:i=k
  ·subst hik
   simp only[List.getElem_set_self]
   rw[<-hl]
   exact⟨keep ho,λa ha=>by rw[hz];exact(ho.lt ha).2⟩
  ·simp only[List.getElem_set_ne (show k≠i by omega)]
   have:=h3 i (by simpa using hi) (by omega)
   exact⟨keep this.1,λa ha=>by have:=this.2 a ha;omega⟩
theorem WS.wr{w w':World}{bh n:Nat}{row:Nat->List Nat}{T k:Nat}(h:WS w bh n row T k w'){j:Nat}(hj:j<n):Wr w' ((Gk.blk bh).add j):=by
 obtain⟨hs,h1,h2,h3⟩:=h.rows
 exact h2.wr (by rw[List.length_map];omega)
set_option maxRecDepth 20000 in
set_option maxHeartbeats 8000000 in
theorem zsL{p:Option Addr}{gb:Nat}{nx:List (List Nat)}{s:Sl}{ml:List Mg}{w:World}{R:VWP}
  (hp:p=none->R (.tuple #[.pointer none,.int .i64 1]) w) (hpg:∀a,p=some a->a=Gk.blk gb/\NxOk nx/\IsG w gb nx) (hM:IsM w s ml)
  (hbad:p≠none->¬Fit nx.length ml->∀w',Below w.heap.size w w'->R (.tuple #[.pointer none,.int .i64 2]) w')
  (hok:p≠none->Fit nx.length ml->∀w' nb g,Below w.heap.size w w'->Ne w' nb gb g->g.nx=nx->g.ml=ml->g.wx=zz nx ml->R (.tuple #[.pointer (some (Gk.blk nb)),.int .i64 0]) w') :
  cR 107 #[.pointer p,.slice s.a s.l s.c] w R:=by
 refine zb.of (zmi p s R w ?_) λ_ _ h=>h
 cases p with
 |none=>exact zF rfl (hp rfl)
 |some a=>
 obtain⟨rfl,hx,hG⟩:=hpg a rfl
 have hmx:=hx.max
 refine zB rfl ?_
 refine zrM hG hmx hM λb w1 b1 hb=>⟨b,rfl,zy (zm (λe=>?_) (λe=>hbad (by simp) (λhf=>by rw[hb.2 hf]at e;cases e) w1 b1))⟩
 have hf:=hb.1 e
 clear hb e b hbad
 have hok:=hok (by simp) hf
 have hl:=hM.len
 have hml:=hf.1
 refine zba (hG.below b1) ⟨_,rfl,ziu (.inl rfl) hmx,Nw.gen λw3 hw3=>?_⟩
 rw[show Int.toNat (nx.length:Int)=nx.length from rfl]at hw3⊢
 obtain⟨bh,hbh⟩:∃bh,bh=w1.heap.size:=⟨_,rfl⟩
 have z1:=b1.size
 have hs3:WS w bh nx.length (wrow nx ml) w3.heap.size 0 w3:=by
  have hB:Blk w3 bh 26 (List.replicate nx.length (.slice none 0 0)):=by rw[hw3,hbh];exact Blk.made w1 _ _ nx.length
  have hz:w3.heap.size=w1.heap.size+1:=by rw[hw3];simp
  refine⟨by rw[hw3];exact b1.alloc z1 _,by omega,by omega,Nat.le_refl _,List.replicate nx.length ⟨none,0,0⟩,by simp,by simpa[Sl.val] using hB,λi hi hk=>by omega⟩
 rw[<-hbh]
 clear hw3
 have bnd:∀{k:Nat},k<nx.length->(0<=(k:Int)/\(k:Int)<((Int.toNat (nx.length:Int):Nat):Int)):=λ{k} hk=>⟨by omega,by omega⟩
 refine zl.count nx.length (by omega) (λk w'=>WS w bh nx.length (wrow nx ml) w'.heap.size k w') hs3 ?_
 rintro k w4 hk hS next hnext
 refine zi (λhlt=>?_) (λhge=>?_)
 ·have hlt:k<nx.length:=by dsimp only at hlt;omega
  have hkm:k<ml.length:=by omega
  refine zk.cut (λ_ w'=>WS w bh nx.length (wrow nx ml) w'.heap.size (k+1) w') ?_ (λ_ w' h=>?_)
  ·refine zoh (IsC.mbelow hM hS.b) hkm (zqs λw8 hB8 b8 z8=>?_)
   have hS8:=hS.grow b8
   have hfk:FitP nx.length ml[k]:=hf.2 _ (List.getElem_mem hkm)
   have hwr:wrow nx ml k=nx.getD k []++extL ml[k]:=by unfold wrow;congr 2;simp[List.getD,hkm]
   refine zeK hx (hG.below hS8.b) λr w9 o9 f9 b9=>⟨r,rfl,bnd hlt,?_⟩
   rw[zU]at o9
   have hS9:=hS8.grow (b9.mono (by omega))
   have hrl:=hx.row_le k
   have hel:=zok ml[k]
   have hbT:=hS.bT
   rw[show Int.toNat (k:Int)=k from rfl]
   refine⟨hS9.wr hlt,Nw.gen λw10 hw10=>?_⟩
   obtain⟨hS10,hc10,ho10,hn10⟩:=hS9.put (by omega) hw10 hlt o9
   have hB10:Blk w10 w4.heap.size 121 [.int .u8 ml[k].1,.int .i64 ml[k].2.1,.int .i64 ml[k].2.2]:=by
    rw[hw10];exact(hB8.below b9).other (by rw[zn];show w4.heap.size≠bh;omega) _
   have z9:=b9.size
   have z10:w10.heap.size=w9.heap.size:=by rw[hw10];simp[World.setCell]
   clear hw10 hS9
   have add:∀(w11:World) (m c:Nat) (K:Unit->World->Prop),(∀u w',WS w bh nx.length (wrow nx ml) w'.heap.size (k+1) w'->K u w')->Below w10.heap.size w10 w11->Blk w11 w10.heap.size 3 ((extL ml[k]).map iN)->m=(extL ml[k]).length->
     w11.cell? ((Gk.blk bh).add k)=some (.slice r.a r.l r.c)/\
     zo Tryz.prog 26 (.slice r.a r.l r.c) (.slice (some (Gk.blk w10.heap.size)) m c) w11 λr22 w15=>
      (0<=(k:Int)/\(k:Int)<((Int.toNat (nx.length:Int):Nat):Int))/\
      Wr w15 ((Gk.blk bh).add k)/\
      Nw (w15.setCell ((Gk.blk bh).add k) (.slice r22.a r22.l r22.c)) λw16=>K () w16:=λw11 m c K hK b11 hA hm=>by
    have hS11:=hS10.grow (b11.mono (by omega))
    have hc11:w11.cell? ((Gk.blk bh).add k)=some (.slice r.a r.l r.c):=by
     rw[World.cell?_of_block (w:=w10) (by rw[zn];exact b11.block _ (show bh<w10.heap.size by omega))]
     exact hc10
    have z11:=b11.size
    refine⟨hc11,zky (B0:=w8.heap.size) (ho10.below b11) f9 (by omega) hA hm (by omega) λr12 w12 b12 o12 f12=>?_⟩
    have hS12:=hS11.grow (b12.mono (by omega))
    refine⟨bnd hlt,hS12.wr hlt,Nw.gen λw13 hw13=>?_⟩
    obtain⟨_,_,_,hn13⟩:=hS12.put (by omega) hw13 hlt o12
    exact hK () _ (hn13 hwr.symm)
   refine⟨_,hB10.cell0 rfl,zj (λh0=>?_) (λh0=>zj (λh2=>?_) (λh2=>?_))⟩
   ·exact hn10 (by rw[hwr];unfold extL;rw[if_pos h0,List.append_nil])
   ·
    refine⟨bnd hlt,r,hc10,_,hB10.cell (n:=1) rfl,_,hB10.cell (n:=2) rfl,Nw.gen λw11 hw11=>?_⟩
    have h1:=hfk.2.1 h0
    have h3:=hfk.2.2 h2
    refine add w11 2 2 (λ_ w'=>WS w bh nx.length (wrow nx ml) w'.heap.size (k+1) w') (λ_ _ h=>h) (by rw[hw11];exact(Below.refl _ _).drew.alloc (Nat.le_refl _) _) ?_ (by unfold extL;rw[if_neg h0,if_pos h2];rfl)
    have:=Blk.new w10.drew 3 #[(.int .i64 ml[k].2.1),(.int .i64 ml[k].2.2)]
    rw[hw11]
    unfold extL
    rw[if_neg h0,if_pos h2]
    simp only[List.map_cons,List.map_nil,iN,Int.toNat_of_nonneg h1.1,Int.toNat_of_nonneg h3.1]
    exact this
   ·refine⟨bnd hlt,r,hc10,_,hB10.cell (n:=1) rfl,Nw.gen λw11 hw11=>?_⟩
    have h1:=hfk.2.1 h0
    refine add w11 1 1 (λ_ w'=>WS w bh nx.length (wrow nx ml) w'.heap.size (k+1) w') (λ_ _ h=>h) (by rw[hw11];exact(Below.refl _ _).drew.alloc (Nat.le_refl _) _) ?_ (by unfold extL;rw[if_neg h0,if_neg h2];rfl)
    have:=Blk.new w10.drew 3 #[(.int .i64 ml[k].2.1)]
    rw[hw11]
    unfold extL
    rw[if_neg h0,if_neg h2]
    simp only[List.map_cons,List.map_nil,iN,Int.toNat_of_nonneg h1.1]
    exact this
  ·exact hnext _ hlt h
 ·have hkn:k=nx.length:=by dsimp only at hge;omega
  subst hkn
  refine znC (IsC.mbelow hM hS.b) (by omega) λms w18 m18 _ b18 _=>⟨ms,rfl,?_⟩
  have hS18:=hS.grow b18
  refine zba (hG.below hS18.b) ⟨_,rfl,ziu (.inl rfl) hmx,Nw.gen λw20 hw20=>?_⟩
  rw[show Int.toNat (nx.length:Int)=nx.length from rfl]at hw20⊢
  obtain⟨b2,hb2⟩:∃b2,b2=w18.heap.size:=⟨_,rfl⟩
  have hH20:Blk w20 b2 26 ((List.replicate nx.length (⟨none,0,0⟩:Sl)).map Sl.val):=by
   have:=Blk.made w18 26 (.slice none 0 0) nx.length
   rw[<-hw20,<-hb2]at this
   simpa[Sl.val] using this
  have b20:Below w18.heap.size w18 w20:=by rw[hw20];exact(Below.refl _ _).alloc (Nat.le_refl _) _
  have z20:w20.heap.size=w18.heap.size+1:=by rw[hw20];simp
  rw[<-hb2]
  clear hw20
  refine Nw.gen λw21 hw21=>?_
  obtain⟨nb,hnb⟩:∃nb,nb=w20.heap.size:=⟨_,rfl⟩
  have hN21:Blk w21 nb 165 [.pointer (some (Gk.blk gb)),ms.val,.pointer none,.pointer none,.slice (some (Gk.blk b2)) nx.length nx.length]:=by rw[hw21,hnb];exact Blk.new w20 _ #[_,_,_,_,_]
  have b21:Below w20.heap.size w20 w21:=by rw[hw21];exact(Below.refl _ _).alloc (Nat.le_refl _) _
  have z21:w21.heap.size=w20.heap.size+1:=by rw[hw21];simp
  rw[<-hnb]
  clear hw21
  have hS21:=(hS18.grow (b20.mono hS18.size)).grow (b21.mono (by have:=hS18.size;omega))
  have hII:IsII w21 ⟨some (Gk.blk bh),nx.length,nx.length⟩ (hS21.rows.choose) (Yk nx ml):=by
   obtain⟨h1,h2,h3⟩:=hS21.rows.choose_spec
   refine⟨Blk.isS (f:=Sl.val) h2 rfl h1.symm (Nat.le_refl _) (by show nx.length<=_;omega),by rw[h1];simp[Yk,zhe],λi hi hi'=>?_⟩
   have:=IsS.toI (Own.isS (h3 i hi (by omega)).1)
   have e:(Yk nx ml)[i]=(wrow nx ml i).map λ(x:Nat)=>(x:Int):=by simp[Yk,zhe]
   rw[e]
   exact this
  have hlw:(Yk nx ml).length=nx.length:=by simp[Yk,zhe]
  have hpos:=hx.pos
  refine zex (s:=⟨some (Gk.blk bh),nx.length,nx.length⟩) hII (λh0=>absurd (hlw▸h0) (by omega)) (λh0=>absurd (hlw▸h0) (by omega)) (λ_ _ hn=>absurd (zi3 hx hf) hn) λ_ _ hgd w22 wb b22 gB22 g22=>⟨_,_,rfl,?_⟩
  have hxw:NxOk (zO (Yk nx ml)):=zgH (by omega) (by omega) hgd
  have hN22:=hN21.below b22
  have z22:=b22.size
  refine⟨hN22.wr (n:=2) (by simp),Nw.gen λw23 hw23=>?_⟩
  have hN23:Blk w23 nb 165 [.pointer (some (Gk.blk gb)),ms.val,.pointer (some (Gk.blk wb)),.pointer none,.slice (some (Gk.blk b2)) nx.length nx.length]:=by rw[hw23];exact hN22.set 2 _
  have ne23:∀k,k≠nb->w23.heap[k]? =w22.heap[k]?:=λk hk=>by rw[hw23];exact zA hk _ _
  have z23:w23.heap.size=w22.heap.size:=by rw[hw23];simp[World.setCell]
  have f23:Fr w21.heap.size (·=nb) w22 w23:=by rw[hw23];exact(Fr.refl _ _ _).set (.inr (by rw[zn])) _
  clear hw23
  have gB23:IsGB w23 w21.heap.size wb (zO (Yk nx ml)):=gB22.keep λk h1 h2=>ne23 k (by omega)
  refine⟨_,hN23.cell (n:=2) rfl,zq7 hxw gB23.isG λw24 tb ov dp b24 hT hSt hDp=>⟨_,_,rfl,?_⟩⟩
  obtain⟨ob,db,rb,hT⟩:=hT
  have hN24:=hN23.below b24
  have z24:=b24.size
  refine⟨hN24.wr (n:=3) (by simp),Nw.gen λw25 hw25=>?_⟩
  have hN25:Blk w25 nb 165 [.pointer (some (Gk.blk gb)),ms.val,.pointer (some (Gk.blk wb)),.pointer (some (Gk.blk tb)),.slice (some (Gk.blk b2)) nx.length nx.length]:=by rw[hw25];exact hN24.set 3 _
  have ne25:∀k,k≠nb->w25.heap[k]? =w24.heap[k]?:=λk hk=>by rw[hw25];exact zA hk _ _
  have z25:w25.heap.size=w24.heap.size:=by rw[hw25];simp[World.setCell]
  have f25:Fr w21.heap.size (·=nb) w24 w25:=by rw[hw25];exact(Fr.refl _ _ _).set (.inr (by rw[zn])) _
  clear hw25
  have hH24:Blk w24 b2 26 ((List.replicate nx.length (⟨none,0,0⟩:Sl)).map Sl.val):=(((hH20.below b21).below b22).of_block (ne23 _ (by omega))).below b24
  have hH25:=hH24.of_block (ne25 b2 (by omega))
  refine⟨⟨some (Gk.blk b2),nx.length,nx.length⟩,hN25.cell (n:=4) rfl,?_⟩
  have f20:Fr w20.heap.size (λ_=>False) w20 w25:=
   (((Fr.of_below (X:=λ_=>False) b21).trans (Fr.of_below (b22.mono (by omega)))).trans (f23.mono (by omega) λk h1 h2=>by omega)).trans ((Fr.of_below (b24.mono (by omega))).trans (f25.mono (by omega) λk h1 h2=>by omega))
  have hS18z:=hS18.size
  have hbT18:=hS18.bT
  obtain⟨g,hg⟩:∃g:Nst,g=⟨nx,ml,zO (Yk nx ml),ov,dp⟩:=⟨_,rfl⟩
  have gnx:g.nx=nx:=by rw[hg]
  have gml:g.ml=ml:=by rw[hg]
  have gwx:g.wx=zO (Yk nx ml):=by rw[hg]
  have gov:g.ov=ov:=by rw[hg]
  have gdp:g.dp=dp:=by rw[hg]
  have keep:∀w',Fr w25.heap.size (·=b2) w25 w'->Ne0 w' nb gb ⟨some (Gk.blk b2),nx.length,nx.length⟩ g wb tb ms:=λw' hfr=>by
   have b18':Below w18.heap.size w18 w':=(b20.trans (f20.mono (B':=w18.heap.size) (by omega) (X':=λ_=>False) λk _ h=>h).below).trans (hfr.mono (B':=w18.heap.size) (X':=λ_=>False) (by omega) λk h1 h2=>by omega).below
   have b24':∀k,k<w24.heap.size->k≠nb->k≠b2->w'.heap[k]? =w24.heap[k]?:=λk h1 h2 h3=>(hfr.block k (by omega) h3).trans (ne25 k h2)
   have gB':IsGB w' w21.heap.size wb (zO (Yk nx ml)):=gB23.keep λk h1 h2=>(b24' k (by omega) (by omega) (by omega)).trans (b24.block k h2)
   have blk':∀{b:Nat} {T:TypeId} {cs:List Value},Blk w24 b T cs->T≠165->T≠26->Blk w' b T cs:=λ{b T cs} hB h1 h2=>hB.of_block (b24' b hB.lt (hB.apart hN24 h1) (hB.apart hH24 h2))
   refine⟨gnx▸hx,by rw[gnx,gml];exact hf,by rw[gwx,gnx,ZD,hlw],hN25.of_block (hfr.block nb (by omega) (by omega)),gnx▸(hG.below hS18.b).below b18',gml▸IsC.mbelow m18 b18',gwx▸gB'.isG,?_⟩
   rw[gwx,gov,gdp]
   exact⟨hxw,⟨wb,ob,db,rb,⟨blk' hT.t (by decide) (by decide),blk' hT.o (by decide) (by decide),blk' hT.d (by decide) (by decide),blk' hT.r (by decide) (by decide),hT.ne⟩,gB'.isG⟩,hSt,hDp⟩
  have end':∀w',Fr w25.heap.size (·=b2) w25 w'->(∃hh:List Sl,hh.length=nx.length/\Blk w' b2 26 (hh.map Sl.val)/\∀(i:Nat) (h:i<hh.length),i<nx.length->Own w' 3 1 hh[i] ((g.hd i).map iN))->R (.tuple #[.pointer (some (Gk.blk nb)),.int .i64 0]) w':=λw' hfr ⟨hh,k1,k2,k3⟩=>by
   refine hok w' nb g ?_ ⟨⟨_,hh,wb,tb,ms,keep w' hfr,⟨Blk.isS (f:=Sl.val) k2 rfl k1.symm (Nat.le_refl _) (by show nx.length<=_;omega),by rw[k1];simp[gnx],λi hi hi'=>?_⟩⟩⟩ gnx gml (by rw[gwx,zik])
   ·exact(hS18.b.trans ((b20.mono (by omega)).trans (f20.mono (B':=w.heap.size) (by omega) (X':=λ_=>False) λk _ h=>h).below)).trans (hfr.mono (B':=w.heap.size) (X':=λ_=>False) (by omega) λk h1 h2=>by omega).below
   ·have:=k3 i hi (by omega)
    simp only[List.getElem_map,List.getElem_range]
    exact this.isS
  refine zl.count nx.length (by omega) (λk w'=>Fr w25.heap.size (·=b2) w25 w'/\∃hh:List Sl,hh.length=nx.length/\Blk w' b2 26 (hh.map Sl.val)/\∀(i:Nat) (h:i<hh.length),i<k->Own w' 3 1 hh[i] ((g.hd i).map iN)) ⟨Fr.refl _ _ _,_,by simp,hH25,λi hi hk=>by omega⟩ ?_
  rintro k w26 hk ⟨hfr,hh,k1,k2,k3⟩ next hnext
  refine zi (λhlt=>?_) (λhge=>end' w26 hfr ⟨hh,k1,k2,λi hi hin=>k3 i hi (by dsimp only at hge;omega)⟩)
  have hlt:k<nx.length:=by dsimp only at hlt;omega
  have e26:=(keep w26 hfr).below (Below.refl _ _).drew
  refine⟨_,e26.b.cell (n:=4) rfl,znR e26 λr w27 b27 o27 f27=>⟨r,rfl,?_⟩⟩
  have e27:=e26.below b27
  have b27':Below w26.heap.size w26 w27:=(Below.refl _ _).drew.trans b27
  have k2':=k2.below b27'
  refine⟨e27.b.cell (n:=4) rfl,⟨by omega,by show(k:Int)<(nx.length:Int);omega⟩,zf rfl ⟨k2'.wr (n:=k) (by rw[List.length_map];omega),Nw.gen λw28 hw28=>hnext w28 hlt ⟨?_,hh.set k r,by rw[List.length_set];exact k1,?_,λi hi hik=>?_⟩⟩⟩
  ·rw[hw28]
   exact(hfr.trans (Fr.of_below (b27'.mono hfr.size))).set (.inr (by rw[zn])) _
  ·rw[hw28,List.map_set]
   exact k2'.set k _
  ·have keepO:∀{r':Sl} {xs:List Value},Own w27 3 1 r' xs->Own w28 3 1 r' xs:=λ{r' xs} ho'=>ho'.of_block λa ha=>by rw[hw28];exact zA (zad ho' k2' (by decide) ha) _ _
   by_cases e:i=k
   ·subst e
    simp only[List.getElem_set_self]
    exact keepO o27
   ·simp only[List.getElem_set_ne (show k≠i by omega)]
    exact keepO ((k3 i (by simpa using hi) (by omega)).below b27')
end Go.Proofs
namespace Go.Proofs
open Go.Gk
set_option linter.unusedVariables false
set_option maxRecDepth 100000
def Z7:Ann:=(.q (.q .nil))
def Z3(p0:Sl)(p1:Int)(R:VWP)(w:World):Prop:=cR 154 #[.slice p0.a p0.l p0.c,.int .i64 p1] w λv1 w1=>∃x2:Int,v1=(.int .i64 x2)/\R (.bool (decide (x2≥(0:Int)))) w1
theorem zbi(p0)(p1)(R)(w)(h:Z3 p0 p1 R w):Calls Tryz.prog 116 #[.slice p0.a p0.l p0.c,.int .i64 p1] w (Ret R):=lwC Z7 Tryz.func116 (by kernel_rfl) (by kernel_rfl) h
def YC:Ann:=(.q (.seq none (.q (.one (.loop ⟨[0,1,7],[(8,(.b (.int .i64)))]⟩ (.q (.seq none .c (.seq none (.one (.q (.q (.cond (.q .nil) .nil)))) .nil)))))) (.q .nil)))
def Y4(p0:Sl)(p1:Int)(R:VWP)(w:World):Prop:=zl (S:=Int×Unit) (λs1 w1 n2=>ifB (decide (s1.1<(p0.l:Int))) ((0<=s1.1/\s1.1<(p0.l:Int))/\zc p0.a λa3=>ldI w1 (a3.add s1.1.toNat) .i64 λx4=>ifB (p1==x4) (R (.int .i64 s1.1) w1) (n2 ((IntKind.i64.wrap (s1.1+(1:Int))),()) w1)) (R (.int .i64 (-1:Int)) w1)) (0,()) w
theorem zcP(p0)(p1)(R)(w)(h:Y4 p0 p1 R w):Calls Tryz.prog 154 #[.slice p0.a p0.l p0.c,.int .i64 p1] w (Ret R):=lwC YC Tryz.func154 (by kernel_rfl) (by kernel_rfl) h
def yM:Ann:=(.q (.q .nil))
def yK(p0:Sl)(p1:Int)(R:VWP)(w:World):Prop:=cR 277 #[.slice p0.a p0.l p0.c,.int .u8 p1] w λv1 w1=>∃x2:Int,v1=(.int .i64 x2)/\R (.bool (decide (x2≥(0:Int)))) w1
theorem Yv(p0)(p1)(R)(w)(h:yK p0 p1 R w):Calls Tryz.prog 273 #[.slice p0.a p0.l p0.c,.int .u8 p1] w (Ret R):=lwC yM Tryz.func273 (by kernel_rfl) (by kernel_rfl) h
def Zs:Ann:=(.q (.seq none (.q (.one (.loop ⟨[0,1,7],[(8,(.b (.int .i64)))]⟩ (.q (.seq none .c (.seq none (.one (.q (.q (.cond (.q .nil) .nil)))) .nil)))))) (.q .nil)))
def Zn(p0:Sl)(p1:Int)(R:VWP)(w:World):Prop:=zl (S:=Int×Unit) (λs1 w1 n2=>ifB (decide (s1.1<(p0.l:Int))) ((0<=s1.1/\s1.1<(p0.l:Int))/\zc p0.a λa3=>ldI w1 (a3.add s1.1.toNat) .u8 λx4=>ifB (p1==x4) (R (.int .i64 s1.1) w1) (n2 ((IntKind.i64.wrap (s1.1+(1:Int))),()) w1)) (R (.int .i64 (-1:Int)) w1)) (0,()) w
theorem zam(p0)(p1)(R)(w)(h:Zn p0 p1 R w):Calls Tryz.prog 277 #[.slice p0.a p0.l p0.c,.int .u8 p1] w (Ret R):=lwC Zs Tryz.func277 (by kernel_rfl) (by kernel_rfl) h
end Go.Proofs
