/- FlowLives, part 2; made small by a program. -/
import Derived.Test.YtgkgagmdkgdjdaaGreatProg
import Derived.ScopeJumps
import Derived.Test.YtgkgagmdkgdjdaaGreatPFlowLives1
namespace Go.Proofs
open Go.Gk
set_option linter.unusedVariables false
set_option maxRecDepth 100000
abbrev Z11:Ann:=.q .nil
abbrev Z10:Ann:=.q (.cond Z11 .nil)
abbrev Z1A:Ann:=.q (.cond Z11 Z10)
abbrev Z1c:Ann:=.q (.cond Z11 Z1A)
abbrev Z1C:Ann:=.q (.cond Z11 (.q (.cond Z11 (.q (.cond Z11 (.q (.cond Z11 (.q (.cond Z11 (.q (.cond Z11 (.q (.cond Z11 (.q (.cond Z11 Z1c)))))))))))))))
abbrev Z12:Ann:=.q (.cond Z11 (.q (.cond Z11 (.q (.cond Z11 (.q (.cond Z11 (.q (.cond Z11 (.q (.cond Z11 (.q (.cond Z11 (.q (.cond Z11 (.q (.cond Z11 (.q (.cond Z11 (.q (.cond Z11 (.q (.cond Z11 (.q (.cond Z11 (.q (.cond Z11 (.q (.cond Z11 (.q (.cond Z11 (.q (.cond Z11 (.q (.cond Z11 (.q (.cond Z11 (.q (.cond Z11 Z1C)))))))))))))))))))))))))))))))))))))))
abbrev Z13:Ann:=.q .c
abbrev Z1L:Ann:=.one Z10
abbrev Z14:Ann:=.seq none Z13 (.seq none Z1L .nil)
abbrev Z1h:Ann:=.one Z11
abbrev Z15:Ann:=.q (.seq none .c (.seq none Z1h .nil))
abbrev Z16:Ann:=.q Z11
abbrev Z17:Ann:=.seq none Z10 Z11
abbrev Z1K:Ann:=.one .nil
abbrev Z18:Ann:=.seq none Z13 (.seq none Z1K .nil)
abbrev Z1E:Ann:=.q Z10
abbrev Z1a:Ann:=.one Z1E
abbrev Z1B:Ann:=.seq none Z1a .nil
abbrev Z1U:Ann:=.q (.seq none .c Z1B)
abbrev Z19:Ann:=.q (.seq none Z10 (.seq none (.q (.one (.loop ⟨[0,1,12],[(13,(.b (.int .i64)))]⟩ Z1U))) Z11))
abbrev Z1D:Ann:=.seq (some ⟨[0,1,10,11],[]⟩) Z13 Z1K
abbrev Z1F:Ann:=.q (.cond Z16 .nil)
abbrev Z1G:Ann:=.seq none Z11 .nil
abbrev Z1H:Ann:=.q (.seq none .c (.seq none (.one (.q Z1E)) .nil))
abbrev Z1I:Ann:=.one (.q Z13)
abbrev Z1J:Ann:=.q Z16
abbrev Z1M:Ann:=.q (.q (.seq none (.q (.one (.loop ⟨[1,2,3],[(4,(.b (.int .i64)))]⟩ Z18))) Z16))
abbrev Z1N:Ann:=.q Z17
abbrev Z1O:Ann:=.q (.seq none (.q (.one (.loop ⟨[1,2],[(5,(.b (.int .i64)))]⟩ Z14))) Z11)
abbrev Z1P:Ann:=.seq none Z10 Z17
abbrev Z1Q:Ann:=.q (.seq none (.q (.one Z12)) Z11)
abbrev Z1R:Ann:=.seq none (.q (.one (.loop ⟨[0,1],[(5,(.b (.int .i64)))]⟩ Z14))) Z11
abbrev Z1S:Ann:=.one Z13
abbrev Z1T:Ann:=.one Z1A
abbrev Z1V:Ann:=.seq none Z13 (.seq none (.one (.seq none Z13 .nil)) .nil)
abbrev Z1W:Ann:=.seq none Z10 .nil
abbrev Z1X:Ann:=.seq none Z13 Z1B
abbrev Z1Y:Ann:=.one (.loop ⟨[0,1,11],[(10,(.b (.int .i64)))]⟩ Z1D)
abbrev Z1Z:Ann:=.one (.loop ⟨[0,1,10],[(11,(.b (.int .i64)))]⟩ Z1D)
abbrev Z1i:Ann:=.q Z1J
abbrev Z1b:Ann:=.q (.q (.q (.q (.q (.q (.q (.q Z1i)))))))
abbrev Z1d:Ann:=.q (.seq (some ⟨[1,2],[]⟩) Z10 Z11)
abbrev Z1e:Ann:=.seq (some ⟨[0,1,9,10],[]⟩) Z13 Z1K
abbrev Z1f:Ann:=.seq none Z13 Z1K
abbrev Z1g:Ann:=.seq none Z13 (.seq none Z1S .nil)
def za0:Ann:=(.q (.q (.seq none Z10 (.q (.q (.seq none (.q (.one (.loop ⟨[1,3,6],[(5,(.b .slice)),(8,(.b (.int .i64)))]⟩ (.seq none Z13 (.seq none (.one (.seq (some ⟨[1,3,5,6,8],[(9,(.b .ptr)),(11,(.b .addr))]⟩) .nil (.seq none Z10 (.q (.seq none (.q (.one (.loop ⟨[1,3,5,6,8,9],[(12,(.b .slice)),(13,(.b (.int .i64)))]⟩ Z18))) (.q (.seq none (.q (.one (.loop ⟨[1,3,5,6,8,14],[(15,(.b (.int .i64)))]⟩ (.seq none Z13 (.seq none (.one (.q (.one (.loop ⟨[1,3,5,6,8,14,15],[(16,(.b (.int .i64)))]⟩ Z1X)))) .nil))))) .nil))))))) .nil))))) Z11))))))
def zat(p0:(Int×Int×Sl×Unit))(R:VWP)(w:World):Prop:=Nw (w.alloc (.cells #[zu p0.1,zu p0.2.1,p0.2.2.1.zw] 25)) λw1=>Nw (w1.alloc (.cells #[zi 0,zi 0] 29)) λw2=>da w2 (zB w) λx1 x2 x3=>dh 47 #[.agg #[zu x1,zu x2,x3.zw]] w2 λx5 w3=>de w3 #[zi 0,zi 0] 29 (zi x5.1) (zi x5.2.1) λw6=>ldI w6 (zB w3) .i64 λx6=>ifB (x6 !=0) (db w6.drew (zB w3) λx7 x8=>df w6.drew (zB w1) (zi x7) (zi x8) λw8=>db w8 (zB w1) λx9 x10=>R (.tuple #[.slice none 0 0,.agg #[zi x9,zi x10]]) w8) (da w6 (zB w) λx11 x12 x13=>di 48 #[.agg #[zu x11,zu x12,x13.zw]] w6 λx15 x16 w9=>de w9 #[zi 0,zi 0] 29 (zi x16.1) (zi x16.2.1) λw12=>zk (S:=Sl×Int×Unit) (λs17 w13 n18=>ifB (decide (s17.2.1<(x15.l:Int))) (zl (S:=(Option Addr)×Addr×Unit) (λm19=>da w13.drew (zB w) λx21 x22 x23=>(0<=s17.2.1/\s17.2.1<(x15.l:Int))/\zc x15.a λa24=>dc w13.drew (a24.add (s17.2.1.toNat *5)) λx25 x26 x27 x28 x29=>(dj 49 #[.agg #[zu x21,zu x22,x23.zw],.agg #[zu x25,zi x26,x27.zw,x28.zw,zi x29]] w13.drew λx31 x32 x33 w14=>de w14 #[zi 0,zi 0] 29 (zi x33.1) (zi x33.2.1) λw17=>m19 (x31,(zB w14),()) w17)/\Nw (w13.drew.alloc (.cells #[zi 0,zi 0] 29)) λw18=>w18.cell? ((a24.add (s17.2.1.toNat *5)).add 0)=some (zu x25)/\w18.cell? ((a24.add (s17.2.1.toNat *5)).add 1)=some (zi x26)/\w18.cell? ((a24.add (s17.2.1.toNat *5)).add 2)=some (x27.zw)/\w18.cell? ((a24.add (s17.2.1.toNat *5)).add 3)=some (x28.zw)/\w18.cell? ((a24.add (s17.2.1.toNat *5)).add 4)=some (zi x29)/\w18.cell? ((zB w).add 0)=some (zu x21)/\w18.cell? ((zB w).add 1)=some (zu x22)/\w18.cell? ((zB w).add 2)=some (x23.zw)/\dj 49 #[.agg #[zu x21,zu x22,x23.zw],.agg #[zu x25,zi x26,x27.zw,x28.zw,zi x29]] w18 λx35 x36 x37 w19=>df w19 (blk w13.drew.heap.size) (zi x37.1) (zi x37.2.1) λw21=>m19 (x35,(blk w13.drew.heap.size),()) w21) (λs20 w22=>ldI w22 s20.2.1 .i64 λx38=>ifB (x38 !=0) (db w22.drew s20.2.1 λx39 x40=>df w22.drew (zB w1) (zi x39) (zi x40) λw24=>db w24 (zB w1) λx41 x42=>R (.tuple #[.slice none 0 0,.agg #[zi x41,zi x42]]) w24) (zk (S:=Sl×Int×Unit) (λs43 w25 n44=>(0<=s17.2.1/\s17.2.1<(x15.l:Int))/\zc x15.a λa45=>ldS w25 ((a45.add (s17.2.1.toNat *5)).add 3) λx46=>ifB (decide (s43.2.1<(x46.l:Int))) (dk 50 #[.pointer s20.1,zi s43.2.1] w25 λx48 w26=>Nw (w26.alloc (.cells #[x48.zw] 43)) λw27=>zp Tryz.prog 67 (s43.1.zw) (.slice (some (zB w26)) 1 1) w27 λr49 w28=>n44 (r49,(IntKind.i64.wrap (s43.2.1+(1:Int))),()) w28) (da w25.drew (zB w) λx50 x51 x52=>(0<=s17.2.1/\s17.2.1<(x15.l:Int))/\zc x15.a λa53=>dc w25.drew (a53.add (s17.2.1.toNat *5)) λx54 x55 x56 x57 x58=>Nw (w25.drew.alloc (.cells #[zu 0,zu 0,.slice none 0 0,.slice none 0 0,zi 0,zu 0,zi 0,.slice none 0 0,.slice none 0 0,zi 0,.slice none 0 0] 69)) λw29=>w29.cell? ((a53.add (s17.2.1.toNat *5)).add 0)=some (zu x54)/\w29.cell? ((a53.add (s17.2.1.toNat *5)).add 1)=some (zi x55)/\w29.cell? ((a53.add (s17.2.1.toNat *5)).add 2)=some (x56.zw)/\w29.cell? ((a53.add (s17.2.1.toNat *5)).add 3)=some (x57.zw)/\w29.cell? ((a53.add (s17.2.1.toNat *5)).add 4)=some (zi x58)/\w29.cell? ((zB w).add 0)=some (zu x50)/\w29.cell? ((zB w).add 1)=some (zu x51)/\w29.cell? ((zB w).add 2)=some (x52.zw)/\dg w29 (blk w25.drew.heap.size) (zu x50) (zu x51) (x52.zw) (x15.zw) (zi s17.2.1) (zu x54) (zi x55) (x56.zw) (x57.zw) (zi x58) (s43.1.zw) λw40=>zk (S:=Int×Unit) (λs59 w41 n60=>(0<=s17.2.1/\s17.2.1<(x15.l:Int))/\zc x15.a λa61=>ldS w41 ((a61.add (s17.2.1.toNat *5)).add 3) λx62=>ifB (decide (s59.1<(x62.l:Int))) ((0<=s17.2.1/\s17.2.1<(x15.l:Int))/\zc x15.a λa63=>ldS w41 ((a63.add (s17.2.1.toNat *5)).add 3) λx64=>(0<=s59.1/\s59.1<(x64.l:Int))/\zc x64.a λa65=>ldI w41 ((a65.add (s59.1.toNat *3)).add 1) .i64 λx66=>zk (S:=Int×Unit) (λs67 w42 n68=>(0<=s17.2.1/\s17.2.1<(x15.l:Int))/\zc x15.a λa69=>ldS w42 ((a69.add (s17.2.1.toNat *5)).add 3) λx70=>(0<=s59.1/\s59.1<(x70.l:Int))/\zc x70.a λa71=>ldI w42 ((a71.add (s59.1.toNat *3)).add 2) .i64 λx72=>ifB (decide (s67.1<x72)) (dd w42 (blk w25.drew.heap.size) λx73 x74 x75 x76 x77 x78 x79 x80 x81 x82 x83=>dl 51 #[.agg #[zu x73,zu x74,x75.zw,x76.zw,zi x77,zu x78,zi x79,x80.zw,x81.zw,zi x82,x83.zw],zi s59.1,zi s67.1] w42 λx85 w43=>ifB (x85 !=0) (df w43 (zB w1) (zi x85) (zi s67.1) λw45=>db w45 (zB w1) λx86 x87=>R (.tuple #[.slice none 0 0,.agg #[zi x86,zi x87]]) w45) (n68 ((IntKind.i64.wrap (s67.1+(1:Int))),()) w43)) (n60 ((IntKind.i64.wrap (s59.1+(1:Int))),()) w42)) (x66,()) w41) (dd w41 (blk w25.drew.heap.size) λx88 x89 x90 x91 x92 x93 x94 x95 x96 x97 x98=>Nw (w41.alloc (.cells #[zu x88,zu x89,x90.zw,x91.zw,zi x92,zu x93,zi x94,x95.zw,x96.zw,zi x97,x98.zw] 69)) λw46=>zp Tryz.prog 64 (s17.1.zw) (.slice (some (zB w41)) 1 1) w46 λr99 w47=>n18 (r99,(IntKind.i64.wrap (s17.2.1+(1:Int))),()) w47)) (0,()) w40)) ((Sl.mk none 0 0),0,()) w22))) (df w13 (zB w1) (zi 0) (zi 0) λw49=>db w49 (zB w1) λx100 x101=>R (.tuple #[s17.1.zw,.agg #[zi x100,zi x101]]) w49)) ((Sl.mk none 0 0),0,()) w12)
theorem zd3(p0)(R)(w)(h:zat p0 R w):cC 21 #[.agg #[.int .u32 p0.1,.int .u32 p0.2.1,.slice p0.2.2.1.a p0.2.2.1.l p0.2.2.1.c]] w R:=lwC za0 Tryz.func21 h
def Zq:Ann:=Z1O
def Zm(p0:(Int×Int×Sl×Sl×Int×Int×Int×Sl×Sl×Int×Sl×Unit))(p1:Int)(R:VWP)(w:World):Prop:=Nw (w.alloc (.cells #[zu p0.1,zu p0.2.1,p0.2.2.1.zw,p0.2.2.2.1.zw,zi p0.2.2.2.2.1,zu p0.2.2.2.2.2.1,zi p0.2.2.2.2.2.2.1,p0.2.2.2.2.2.2.2.1.zw,p0.2.2.2.2.2.2.2.2.1.zw,zi p0.2.2.2.2.2.2.2.2.2.1,p0.2.2.2.2.2.2.2.2.2.2.1.zw] 69)) λw1=>zk (S:=Int×Unit) (λs1 w2 n2=>ldS w2 (((zB w).add 5).add 3) λx3=>ifB (decide (s1.1<(x3.l:Int))) (ldS w2 (((zB w).add 5).add 3) λx4=>(0<=s1.1/\s1.1<(x4.l:Int))/\zc x4.a λa5=>ldI w2 (a5.add (s1.1.toNat *3)) .u32 λx6=>ifB (x6==p1) (R (zi s1.1) w2) (n2 ((IntKind.i64.wrap (s1.1+(1:Int))),()) w2)) (R (zi (-1:Int)) w2)) (0,()) w1
theorem zal(p0)(p1)(R)(w)(h:Zm p0 p1 R w):cC 22 #[.agg #[.int .u32 p0.1,.int .u32 p0.2.1,.slice p0.2.2.1.a p0.2.2.1.l p0.2.2.1.c,.slice p0.2.2.2.1.a p0.2.2.2.1.l p0.2.2.2.1.c,.int .i64 p0.2.2.2.2.1,.int .u32 p0.2.2.2.2.2.1,.int .i64 p0.2.2.2.2.2.2.1,.slice p0.2.2.2.2.2.2.2.1.a p0.2.2.2.2.2.2.2.1.l p0.2.2.2.2.2.2.2.1.c,.slice p0.2.2.2.2.2.2.2.2.1.a p0.2.2.2.2.2.2.2.2.1.l p0.2.2.2.2.2.2.2.2.1.c,.int .i64 p0.2.2.2.2.2.2.2.2.2.1,.slice p0.2.2.2.2.2.2.2.2.2.2.1.a p0.2.2.2.2.2.2.2.2.2.2.1.l p0.2.2.2.2.2.2.2.2.2.2.1.c],.int .u32 p1] w R:=lwC Zq Tryz.func22 h
def YC:Ann:=Z1J
def Y5(p0:(Int×Int×Sl×Sl×Int×Int×Int×Sl×Sl×Int×Sl×Unit))(p1:Int)(R:VWP)(w:World):Prop:=Nw (w.alloc (.cells #[zu p0.1,zu p0.2.1,p0.2.2.1.zw,p0.2.2.2.1.zw,zi p0.2.2.2.2.1,zu p0.2.2.2.2.2.1,zi p0.2.2.2.2.2.2.1,p0.2.2.2.2.2.2.2.1.zw,p0.2.2.2.2.2.2.2.2.1.zw,zi p0.2.2.2.2.2.2.2.2.2.1,p0.2.2.2.2.2.2.2.2.2.2.1.zw] 69)) λw1=>dd w1 (zB w) λx1 x2 x3 x4 x5 x6 x7 x8 x9 x10 x11=>dl 52 #[.agg #[zu x1,zu x2,x3.zw,x4.zw,zi x5,zu x6,zi x7,x8.zw,x9.zw,zi x10,x11.zw],zu p1] w1 λx13 w2=>ifB (decide (x13≥(0:Int))) (ldS w2.drew ((zB w).add 3) λx14=>ldI w2.drew ((zB w).add 4) .i64 λx15=>dl 53 #[x14.zw,zi x13] w2.drew λx17 w3=>w3.cell? ((zB w).add 4)=some (zi x15)/\ifB (x17==x15) (ldS w3 ((zB w).add 2) λx18=>(0<=x13/\x13<(x18.l:Int))/\zc x18.a λa19=>ldI w3 (a19.add (x13.toNat *4)) .u16 λx20=>R (.bool (x20 !=248)) w3) (R (.bool false) w3)) (R (.bool false) w2.drew)
theorem zct(p0)(p1)(R)(w)(h:Y5 p0 p1 R w):cC 23 #[.agg #[.int .u32 p0.1,.int .u32 p0.2.1,.slice p0.2.2.1.a p0.2.2.1.l p0.2.2.1.c,.slice p0.2.2.2.1.a p0.2.2.2.1.l p0.2.2.2.1.c,.int .i64 p0.2.2.2.2.1,.int .u32 p0.2.2.2.2.2.1,.int .i64 p0.2.2.2.2.2.2.1,.slice p0.2.2.2.2.2.2.2.1.a p0.2.2.2.2.2.2.2.1.l p0.2.2.2.2.2.2.2.1.c,.slice p0.2.2.2.2.2.2.2.2.1.a p0.2.2.2.2.2.2.2.2.1.l p0.2.2.2.2.2.2.2.2.1.c,.int .i64 p0.2.2.2.2.2.2.2.2.2.1,.slice p0.2.2.2.2.2.2.2.2.2.2.1.a p0.2.2.2.2.2.2.2.2.2.2.1.l p0.2.2.2.2.2.2.2.2.2.2.1.c],.int .u32 p1] w R:=lwC YC Tryz.func23 h
def ZT:Ann:=(.q (.q (.q (.seq none (.q (.one (.loop ⟨[1,2,3,7,8],[(9,(.b (.int .i64)))]⟩ (.seq none Z13 (.seq (some ⟨[1,2,3,7,8,9],[]⟩) Z1a .nil))))) (.seq none (.q (.cond (.seq none (.q (.one (.loop ⟨[1,2,3,8],[(11,(.b (.int .i64)))]⟩ Z14))) Z11) .nil)) (.seq none (.q (.one (.loop ⟨[1,3,7],[(12,(.b (.int .i64)))]⟩ (.seq none Z13 (.seq none (.one (.q (.seq none (.q (.one (.loop ⟨[1,3,7,12],[(13,(.b (.int .i64))),(14,(.b (.int .i64)))]⟩ (.seq none Z13 (.seq (some ⟨[1,3,7,12,14],[(13,(.b (.int .i64)))]⟩) Z1S .nil))))) (.seq none (.q (.one (.loop ⟨[1,3,7,12],[(13,(.b (.int .i64))),(15,(.b (.int .i64)))]⟩ (.seq none Z13 (.seq (some ⟨[1,3,7,12,15],[(13,(.b (.int .i64)))]⟩) Z1S .nil))))) Z10)))) .nil))))) (.seq none (.q (.one (.loop ⟨[3,7],[(16,(.b (.int .i64)))]⟩ Z14))) (.seq none (.q (.one (.loop ⟨[3,7],[(17,(.b (.int .i64)))]⟩ Z1X))) Z11))))))))
def ZO(p0:(Int×Int×Sl×Sl×Int×Int×Int×Sl×Sl×Int×Sl×Unit))(p1:Int)(p2:Int)(R:VWP)(w:World):Prop:=Nw (w.alloc (.cells #[zu p0.1,zu p0.2.1,p0.2.2.1.zw,p0.2.2.2.1.zw,zi p0.2.2.2.2.1,zu p0.2.2.2.2.2.1,zi p0.2.2.2.2.2.2.1,p0.2.2.2.2.2.2.2.1.zw,p0.2.2.2.2.2.2.2.2.1.zw,zi p0.2.2.2.2.2.2.2.2.2.1,p0.2.2.2.2.2.2.2.2.2.2.1.zw] 69)) λw1=>ldS w1 ((zB w).add 2) λx1=>(0<=p2/\p2<(x1.l:Int))/\zc x1.a λa2=>dm w1 (a2.add (p2.toNat *4)) λx3 x4 x5 x6=>dn w1 #[zh 0,zu 0,zu 0,.slice none 0 0] 50 (zh x3) (zu x4) (zu x5) (x6.zw) λw6=>dm w6 (zB w1) λx7 x8 x9 x10=>dk 88 #[.agg #[zh x7,zu x8,zu x9,x10.zw]] w6 λx12 w7=>zk (S:=Int×Unit) (λs13 w8 n14=>ifB (decide (s13.1<(x12.l:Int))) (zl (S:=Unit) (λm15=>ldS w8.drew ((zB w).add 3) λx17=>dd w8.drew (zB w) λx18 x19 x20 x21 x22 x23 x24 x25 x26 x27 x28=>(0<=s13.1/\s13.1<(x12.l:Int))/\zc x12.a λa29=>ldI w8.drew (a29.add s13.1.toNat) .u32 λx30=>dl 52 #[.agg #[zu x18,zu x19,x20.zw,x21.zw,zi x22,zu x23,zi x24,x25.zw,x26.zw,zi x27,x28.zw],zu x30] w8.drew λx32 w9=>w9.cell? ((zB w).add 3)=some (x17.zw)/\dl 53 #[x17.zw,zi x32] w9 λx34 w10=>ifB (decide (x34≥(0:Int))) (ldI w10 ((zB w).add 4) .i64 λx35=>ifB (x34 !=x35) (R (zi 192) w10) (m15 () w10)) (m15 () w10)) (λs16 w11=>n14 ((IntKind.i64.wrap (s13.1+(1:Int))),()) w11)) (ldI w8 (zB w1) .u16 λx36=>ifB (x36 !=245) (zk (S:=Int×Unit) (λs37 w12 n38=>ifB (decide (s37.1<(x12.l:Int))) (dd w12.drew (zB w) λx39 x40 x41 x42 x43 x44 x45 x46 x47 x48 x49=>(0<=s37.1/\s37.1<(x12.l:Int))/\zc x12.a λa50=>ldI w12.drew (a50.add s37.1.toNat) .u32 λx51=>dz 89 #[.agg #[zu x39,zu x40,x41.zw,x42.zw,zi x43,zu x44,zi x45,x46.zw,x47.zw,zi x48,x49.zw],zu x51,zi p1,zi p2] w12.drew λx53 w13=>ifB (!x53) (R (zi 190) w13) (n38 ((IntKind.i64.wrap (s37.1+(1:Int))),()) w13)) (R (zi 0) w12)) (0,()) w8) (zk (S:=Int×Unit) (λs54 w14 n55=>ldS w14 ((zB w).add 10) λx56=>ifB (decide (s54.1<(x56.l:Int))) (zk (S:=Int×Int×Unit) (λs57 w15 n58=>ldS w15 ((zB w).add 10) λx59=>(0<=s54.1/\s54.1<(x59.l:Int))/\zc x59.a λa60=>ldS w15 (a60.add s54.1.toNat) λx61=>ifB (decide (s57.2.1<(x61.l:Int))) (zl (S:=Int×Unit) (λm62=>ldS w15 ((zB w).add 10) λx64=>(0<=s54.1/\s54.1<(x64.l:Int))/\zc x64.a λa65=>ldS w15 (a65.add s54.1.toNat) λx66=>(0<=s57.2.1/\s57.2.1<(x66.l:Int))/\zc x66.a λa67=>ldI w15 (a67.add s57.2.1.toNat) .i64 λx68=>ifB (x68==p1) (m62 (1,()) w15) (m62 (s57.1,()) w15)) (λs63 w16=>n58 (s63.1,(IntKind.i64.wrap (s57.2.1+(1:Int))),()) w16)) (zk (S:=Int×Int×Unit) (λs69 w17 n70=>ldS w17 ((zB w1).add 3) λx71=>ifB (decide (s69.2.1<(x71.l:Int))) (zl (S:=Int×Unit) (λm72=>ldS w17.drew ((zB w1).add 3) λx74=>(0<=s69.2.1/\s69.2.1<(x74.l:Int))/\zc x74.a λa75=>ldI w17.drew ((a75.add (s69.2.1.toNat *3)).add 1) .u32 λx76=>ldS w17.drew (((zB w).add 5).add 3) λx77=>(0<=s54.1/\s54.1<(x77.l:Int))/\zc x77.a λa78=>ldI w17.drew (a78.add (s54.1.toNat *3)) .u32 λx79=>ifB (x76==x79) (m72 ((IntKind.i64.wrap (s69.1-(1:Int))),()) w17.drew) (m72 (s69.1,()) w17.drew)) (λs73 w18=>n70 (s73.1,(IntKind.i64.wrap (s69.2.1+(2:Int))),()) w18)) (ifB (s69.1 !=0) (R (zi 191) w17) (n55 ((IntKind.i64.wrap (s54.1+(1:Int))),()) w17))) (s57.1,1,()) w15)) (0,0,()) w14) (zk (S:=Int×Unit) (λs80 w19 n81=>ldS w19 ((zB w1).add 3) λx82=>ifB (decide (s80.1<(x82.l:Int))) (dd w19.drew (zB w) λx83 x84 x85 x86 x87 x88 x89 x90 x91 x92 x93=>ldS w19.drew ((zB w1).add 3) λx94=>(0<=s80.1/\s80.1<(x94.l:Int))/\zc x94.a λa95=>ldI w19.drew ((a95.add (s80.1.toNat *3)).add 1) .u32 λx96=>dl 22 #[.agg #[zu x83,zu x84,x85.zw,x86.zw,zi x87,zu x88,zi x89,x90.zw,x91.zw,zi x92,x93.zw],zu x96] w19.drew λx98 w20=>ifB (decide (x98<(0:Int))) (R (zi 191) w20) (n81 ((IntKind.i64.wrap (s80.1+(2:Int))),()) w20)) (zk (S:=Int×Unit) (λs99 w21 n100=>ldS w21 ((zB w1).add 3) λx101=>ifB (decide (s99.1<(x101.l:Int))) (dd w21.drew (zB w) λx102 x103 x104 x105 x106 x107 x108 x109 x110 x111 x112=>ldS w21.drew ((zB w1).add 3) λx113=>(0<=(IntKind.i64.wrap (s99.1+(1:Int)))/\(IntKind.i64.wrap (s99.1+(1:Int)))<(x113.l:Int))/\zc x113.a λa114=>ldI w21.drew ((a114.add ((Int.toNat (IntKind.i64.wrap (s99.1+(1:Int))))*3)).add 1) .u32 λx115=>dl 22 #[.agg #[zu x102,zu x103,x104.zw,x105.zw,zi x106,zu x107,zi x108,x109.zw,x110.zw,zi x111,x112.zw],zu x115] w21.drew λx117 w22=>dd w22.drew (zB w) λx118 x119 x120 x121 x122 x123 x124 x125 x126 x127 x128=>ldS w22.drew ((zB w1).add 3) λx129=>(0<=s99.1/\s99.1<(x129.l:Int))/\zc x129.a λa130=>ldI w22.drew ((a130.add (s99.1.toNat *3)).add 1) .u32 λx131=>ldS w22.drew (((zB w).add 5).add 3) λx132=>(0<=x117/\x117<(x132.l:Int))/\zc x132.a λa133=>ldI w22.drew ((a133.add (x117.toNat *3)).add 2) .i64 λx134=>dz 89 #[.agg #[zu x118,zu x119,x120.zw,x121.zw,zi x122,zu x123,zi x124,x125.zw,x126.zw,zi x127,x128.zw],zu x131,zi x117,zi x134] w22.drew λx136 w23=>ifB (!x136) (R (zi 190) w23) (n100 ((IntKind.i64.wrap (s99.1+(2:Int))),()) w23)) (R (zi 0) w21)) (0,()) w19)) (1,()) w14)) (0,()) w8))) (0,()) w7
theorem zbv(p0)(p1)(p2)(R)(w)(h:ZO p0 p1 p2 R w):cC 51 #[.agg #[.int .u32 p0.1,.int .u32 p0.2.1,.slice p0.2.2.1.a p0.2.2.1.l p0.2.2.1.c,.slice p0.2.2.2.1.a p0.2.2.2.1.l p0.2.2.2.1.c,.int .i64 p0.2.2.2.2.1,.int .u32 p0.2.2.2.2.2.1,.int .i64 p0.2.2.2.2.2.2.1,.slice p0.2.2.2.2.2.2.2.1.a p0.2.2.2.2.2.2.2.1.l p0.2.2.2.2.2.2.2.1.c,.slice p0.2.2.2.2.2.2.2.2.1.a p0.2.2.2.2.2.2.2.2.1.l p0.2.2.2.2.2.2.2.2.1.c,.int .i64 p0.2.2.2.2.2.2.2.2.2.1,.slice p0.2.2.2.2.2.2.2.2.2.2.1.a p0.2.2.2.2.2.2.2.2.2.2.1.l p0.2.2.2.2.2.2.2.2.2.2.1.c],.int .i64 p1,.int .i64 p2] w R:=lwC ZT Tryz.func51 h
def ZV:Ann:=Z16
def ZQ(p0:(Int×Int×Sl×Sl×Int×Int×Int×Sl×Sl×Int×Sl×Unit))(p1:Int)(R:VWP)(w:World):Prop:=Nw (w.alloc (.cells #[zu p0.1,zu p0.2.1,p0.2.2.1.zw,p0.2.2.2.1.zw,zi p0.2.2.2.2.1,zu p0.2.2.2.2.2.1,zi p0.2.2.2.2.2.2.1,p0.2.2.2.2.2.2.2.1.zw,p0.2.2.2.2.2.2.2.2.1.zw,zi p0.2.2.2.2.2.2.2.2.2.1,p0.2.2.2.2.2.2.2.2.2.2.1.zw] 69)) λw1=>ldS w1 ((zB w).add 2) λx1=>ldS w1 ((zB w).add 2) λx2=>dl 90 #[x1.zw,zu p1,zi (x2.l:Int)] w1 λx4 w2=>R (zi x4) w2
theorem zbx(p0)(p1)(R)(w)(h:ZQ p0 p1 R w):cC 52 #[.agg #[.int .u32 p0.1,.int .u32 p0.2.1,.slice p0.2.2.1.a p0.2.2.1.l p0.2.2.1.c,.slice p0.2.2.2.1.a p0.2.2.2.1.l p0.2.2.2.1.c,.int .i64 p0.2.2.2.2.1,.int .u32 p0.2.2.2.2.2.1,.int .i64 p0.2.2.2.2.2.2.1,.slice p0.2.2.2.2.2.2.2.1.a p0.2.2.2.2.2.2.2.1.l p0.2.2.2.2.2.2.2.1.c,.slice p0.2.2.2.2.2.2.2.2.1.a p0.2.2.2.2.2.2.2.2.1.l p0.2.2.2.2.2.2.2.2.1.c,.int .i64 p0.2.2.2.2.2.2.2.2.2.1,.slice p0.2.2.2.2.2.2.2.2.2.2.1.a p0.2.2.2.2.2.2.2.2.2.2.1.l p0.2.2.2.2.2.2.2.2.2.2.1.c],.int .u32 p1] w R:=lwC ZV Tryz.func52 h
def YD:Ann:=(.q (.seq none (.q (.one (.loop ⟨[0,1],[(5,(.b (.int .i64)))]⟩ (.seq none Z13 (.seq (some ⟨[0,1,5],[]⟩) Z1L .nil))))) Z11))
def Y6(p0:Sl)(p1:Int)(R:VWP)(w:World):Prop:=zk (S:=Int×Unit) (λs1 w1 n2=>ifB (decide (s1.1<(p0.l:Int))) (zl (S:=Unit) (λm3=>(0<=s1.1/\s1.1<(p0.l:Int))/\zc p0.a λa5=>ldI w1 ((a5.add (s1.1.toNat *5)).add 1) .i64 λx6=>ifB (decide (p1>x6)) ((0<=s1.1/\s1.1<(p0.l:Int))/\zc p0.a λa7=>ldI w1 ((a7.add (s1.1.toNat *5)).add 4) .i64 λx8=>ifB (decide (p1<=x8)) (R (zi s1.1) w1) (m3 () w1)) (m3 () w1)) (λs4 w2=>n2 ((IntKind.i64.wrap (s1.1+(1:Int))),()) w2)) (R (zi (-1:Int)) w1)) (0,()) w
theorem zcu(p0)(p1)(R)(w)(h:Y6 p0 p1 R w):cC 53 #[.slice p0.a p0.l p0.c,.int .i64 p1] w R:=lwC YD Tryz.func53 h
def YB:Ann:=(.q (.seq (some ⟨[1,2,3,4],[]⟩) Z10 (.q (.q Z1P))))
def Y4(p0:(Int×Int×Sl×Sl×Int×Int×Int×Sl×Sl×Int×Sl×Unit))(p1:Int)(p2:Int)(p3:Int)(R:VWP)(w:World):Prop:=Nw (w.alloc (.cells #[zu p0.1,zu p0.2.1,p0.2.2.1.zw,p0.2.2.2.1.zw,zi p0.2.2.2.2.1,zu p0.2.2.2.2.2.1,zi p0.2.2.2.2.2.2.1,p0.2.2.2.2.2.2.2.1.zw,p0.2.2.2.2.2.2.2.2.1.zw,zi p0.2.2.2.2.2.2.2.2.2.1,p0.2.2.2.2.2.2.2.2.2.2.1.zw] 69)) λw1=>zl (S:=Unit) (λm1=>dd w1 (zB w) λx3 x4 x5 x6 x7 x8 x9 x10 x11 x12 x13=>dz 23 #[.agg #[zu x3,zu x4,x5.zw,x6.zw,zi x7,zu x8,zi x9,x10.zw,x11.zw,zi x12,x13.zw],zu p1] w1 λx15 w2=>ifB (!x15) (R (.bool true) w2) (dd w2 (zB w) λx16 x17 x18 x19 x20 x21 x22 x23 x24 x25 x26=>dk 121 #[.agg #[zu x16,zu x17,x18.zw,x19.zw,zi x20,zu x21,zi x22,x23.zw,x24.zw,zi x25,x26.zw],zi (-1:Int)] w2 λx28 w3=>(0<=p2/\p2<(x28.l:Int))/\zc x28.a λa29=>ldB w3 (a29.add p2.toNat) λx30=>ifB (!x30) (R (.bool true) w3) (m1 () w3))) (λs2 w4=>dd w4 (zB w) λx31 x32 x33 x34 x35 x36 x37 x38 x39 x40 x41=>dl 52 #[.agg #[zu x31,zu x32,x33.zw,x34.zw,zi x35,zu x36,zi x37,x38.zw,x39.zw,zi x40,x41.zw],zu p1] w4 λx43 w5=>dd w5 (zB w) λx44 x45 x46 x47 x48 x49 x50 x51 x52 x53 x54=>dl 91 #[.agg #[zu x44,zu x45,x46.zw,x47.zw,zi x48,zu x49,zi x50,x51.zw,x52.zw,zi x53,x54.zw],zi x43] w5 λx56 w6=>ifB (decide (x56<(0:Int))) (R (.bool true) w6) (ifB (x56==p2) (R (.bool (decide (x43<p3))) w6) (dd w6 (zB w) λx57 x58 x59 x60 x61 x62 x63 x64 x65 x66 x67=>dk 121 #[.agg #[zu x57,zu x58,x59.zw,x60.zw,zi x61,zu x62,zi x63,x64.zw,x65.zw,zi x66,x67.zw],zi x56] w6 λx69 w7=>(0<=p2/\p2<(x69.l:Int))/\zc x69.a λa70=>ldB w7 (a70.add p2.toNat) λx71=>R (.bool (!x71)) w7)))
theorem zcs(p0)(p1)(p2)(p3)(R)(w)(h:Y4 p0 p1 p2 p3 R w):cC 89 #[.agg #[.int .u32 p0.1,.int .u32 p0.2.1,.slice p0.2.2.1.a p0.2.2.1.l p0.2.2.1.c,.slice p0.2.2.2.1.a p0.2.2.2.1.l p0.2.2.2.1.c,.int .i64 p0.2.2.2.2.1,.int .u32 p0.2.2.2.2.2.1,.int .i64 p0.2.2.2.2.2.2.1,.slice p0.2.2.2.2.2.2.2.1.a p0.2.2.2.2.2.2.2.1.l p0.2.2.2.2.2.2.2.1.c,.slice p0.2.2.2.2.2.2.2.2.1.a p0.2.2.2.2.2.2.2.2.1.l p0.2.2.2.2.2.2.2.2.1.c,.int .i64 p0.2.2.2.2.2.2.2.2.2.1,.slice p0.2.2.2.2.2.2.2.2.2.2.1.a p0.2.2.2.2.2.2.2.2.2.2.1.l p0.2.2.2.2.2.2.2.2.2.2.1.c],.int .u32 p1,.int .i64 p2,.int .i64 p3] w R:=lwC YB Tryz.func89 h
def ZU:Ann:=(.q (.seq none (.q (.one (.loop ⟨[1,2],[(5,(.b (.int .i64)))]⟩ (.seq none Z13 (.seq (some ⟨[1,2,5],[]⟩) Z1L .nil))))) Z11))
def ZP(p0:(Int×Int×Sl×Sl×Int×Int×Int×Sl×Sl×Int×Sl×Unit))(p1:Int)(R:VWP)(w:World):Prop:=Nw (w.alloc (.cells #[zu p0.1,zu p0.2.1,p0.2.2.1.zw,p0.2.2.2.1.zw,zi p0.2.2.2.2.1,zu p0.2.2.2.2.2.1,zi p0.2.2.2.2.2.2.1,p0.2.2.2.2.2.2.2.1.zw,p0.2.2.2.2.2.2.2.2.1.zw,zi p0.2.2.2.2.2.2.2.2.2.1,p0.2.2.2.2.2.2.2.2.2.2.1.zw] 69)) λw1=>zk (S:=Int×Unit) (λs1 w2 n2=>ldS w2 (((zB w).add 5).add 3) λx3=>ifB (decide (s1.1<(x3.l:Int))) (zl (S:=Unit) (λm4=>ldS w2 (((zB w).add 5).add 3) λx6=>(0<=s1.1/\s1.1<(x6.l:Int))/\zc x6.a λa7=>ldI w2 ((a7.add (s1.1.toNat *3)).add 1) .i64 λx8=>ifB (decide (p1≥x8)) (ldS w2 (((zB w).add 5).add 3) λx9=>(0<=s1.1/\s1.1<(x9.l:Int))/\zc x9.a λa10=>ldI w2 ((a10.add (s1.1.toNat *3)).add 2) .i64 λx11=>ifB (decide (p1<x11)) (R (zi s1.1) w2) (m4 () w2)) (m4 () w2)) (λs5 w3=>n2 ((IntKind.i64.wrap (s1.1+(1:Int))),()) w3)) (R (zi (-1:Int)) w2)) (0,()) w1
theorem zbw(p0)(p1)(R)(w)(h:ZP p0 p1 R w):cC 91 #[.agg #[.int .u32 p0.1,.int .u32 p0.2.1,.slice p0.2.2.1.a p0.2.2.1.l p0.2.2.1.c,.slice p0.2.2.2.1.a p0.2.2.2.1.l p0.2.2.2.1.c,.int .i64 p0.2.2.2.2.1,.int .u32 p0.2.2.2.2.2.1,.int .i64 p0.2.2.2.2.2.2.1,.slice p0.2.2.2.2.2.2.2.1.a p0.2.2.2.2.2.2.2.1.l p0.2.2.2.2.2.2.2.1.c,.slice p0.2.2.2.2.2.2.2.2.1.a p0.2.2.2.2.2.2.2.2.1.l p0.2.2.2.2.2.2.2.2.1.c,.int .i64 p0.2.2.2.2.2.2.2.2.2.1,.slice p0.2.2.2.2.2.2.2.2.2.2.1.a p0.2.2.2.2.2.2.2.2.2.2.1.l p0.2.2.2.2.2.2.2.2.2.2.1.c],.int .i64 p1] w R:=lwC ZU Tryz.func91 h
def Z2:Ann:=(.q (.q (.seq none Z10 (.q (.q (.seq none (.one (.loop ⟨[1,2,5],[(6,(.b .bool))]⟩ (.seq none Z13 (.one (.q (.q (.one (.loop ⟨[1,2,5],[(6,(.b .bool)),(7,(.b (.int .i64)))]⟩ (.seq none Z13 (.seq none (.one (.q (.one (.loop ⟨[1,2,5,7],[(6,(.b .bool)),(8,(.b (.int .i64)))]⟩ (.seq none Z13 (.seq (some ⟨[1,2,5,7,8],[(6,(.b .bool))]⟩) Z1a .nil)))))) .nil)))))))))) Z11))))))
def Z1(p0:(Int×Int×Sl×Sl×Int×Int×Int×Sl×Sl×Int×Sl×Unit))(p1:Int)(R:VWP)(w:World):Prop:=Nw (w.alloc (.cells #[zu p0.1,zu p0.2.1,p0.2.2.1.zw,p0.2.2.2.1.zw,zi p0.2.2.2.2.1,zu p0.2.2.2.2.2.1,zi p0.2.2.2.2.2.2.1,p0.2.2.2.2.2.2.2.1.zw,p0.2.2.2.2.2.2.2.2.1.zw,zi p0.2.2.2.2.2.2.2.2.2.1,p0.2.2.2.2.2.2.2.2.2.2.1.zw] 69)) λw1=>ldS w1 ((zB w).add 10) λx1=>(0<=(x1.l:Int)/\(x1.l:Int)<=(x1.l:Int)/\1*(x1.l:Int)<=281474976710656/\(x1.l:Int)<=9223372036854775807)/\Nw (w1.alloc (.cells (madeCells #[.bool false] (x1.l*1)) 4)) λw2=>ifB (p1==0) (R (.slice (some (zB w1)) x1.l x1.l) w2) ((0<=(0:Int)/\0<(x1.l:Int))/\Wr w2 ((zB w1).add 0)/\Nw (w2.setCell ((zB w1).add 0) (.bool true)) λw3=>zk (S:=Bool×Unit) (λs2 w4 n3=>ifB s2.1 (zk (S:=Bool×Int×Unit) (λs4 w5 n5=>ldS w5 ((zB w).add 10) λx6=>ifB (decide (s4.2.1<(x6.l:Int))) (zk (S:=Bool×Int×Unit) (λs7 w6 n8=>ldS w6 ((zB w).add 10) λx9=>(0<=s4.2.1/\s4.2.1<(x9.l:Int))/\zc x9.a λa10=>ldS w6 (a10.add s4.2.1.toNat) λx11=>ifB (decide (s7.2.1<(x11.l:Int))) (zl (S:=Bool×Unit) (λm12=>ldS w6 ((zB w).add 10) λx14=>(0<=s4.2.1/\s4.2.1<(x14.l:Int))/\zc x14.a λa15=>ldS w6 (a15.add s4.2.1.toNat) λx16=>(0<=s7.2.1/\s7.2.1<(x16.l:Int))/\zc x16.a λa17=>ldI w6 (a17.add s7.2.1.toNat) .i64 λx18=>(0<=s4.2.1/\s4.2.1<(x1.l:Int))/\ldB w6 ((zB w1).add s4.2.1.toNat) λx19=>ifB x19 (ifB (x18 !=p1) ((0<=x18/\x18<(x1.l:Int))/\ldB w6 ((zB w1).add x18.toNat) λx20=>ifB (!x20) ((0<=x18/\x18<(x1.l:Int))/\Wr w6 ((zB w1).add x18.toNat)/\Nw (w6.setCell ((zB w1).add x18.toNat) (.bool true)) λw7=>m12 (true,()) w7) (m12 (s7.1,()) w6)) (m12 (s7.1,()) w6)) (m12 (s7.1,()) w6)) (λs13 w8=>n8 (s13.1,(IntKind.i64.wrap (s7.2.1+(1:Int))),()) w8)) (n5 (s7.1,(IntKind.i64.wrap (s4.2.1+(1:Int))),()) w6)) (s4.1,0,()) w5) (n3 (s4.1,()) w5)) (false,0,()) w4) (R (.slice (some (zB w1)) x1.l x1.l) w4)) (true,()) w3)
theorem za8(p0)(p1)(R)(w)(h:Z1 p0 p1 R w):cC 121 #[.agg #[.int .u32 p0.1,.int .u32 p0.2.1,.slice p0.2.2.1.a p0.2.2.1.l p0.2.2.1.c,.slice p0.2.2.2.1.a p0.2.2.2.1.l p0.2.2.2.1.c,.int .i64 p0.2.2.2.2.1,.int .u32 p0.2.2.2.2.2.1,.int .i64 p0.2.2.2.2.2.2.1,.slice p0.2.2.2.2.2.2.2.1.a p0.2.2.2.2.2.2.2.1.l p0.2.2.2.2.2.2.2.1.c,.slice p0.2.2.2.2.2.2.2.2.1.a p0.2.2.2.2.2.2.2.2.1.l p0.2.2.2.2.2.2.2.2.1.c,.int .i64 p0.2.2.2.2.2.2.2.2.2.1,.slice p0.2.2.2.2.2.2.2.2.2.2.1.a p0.2.2.2.2.2.2.2.2.2.2.1.l p0.2.2.2.2.2.2.2.2.2.2.1.c],.int .i64 p1] w R:=lwC Z2 Tryz.func121 h
set_option linter.unusedVariables false
set_option maxRecDepth 100000
def zhP:Ann:=(.q (.seq none Z1E (.q (.q (.q (.seq none (.q (.one (.loop ⟨[1,3,7,32,33],[(8,(.b .slice)),(34,(.b (.int .i64)))]⟩ (.q (.seq none .c (.seq none (.one (.q (.q (.seq none Z10 (.q (.q (.seq none Z1E .nil))))))) .nil)))))) Z11))))))
def zhG(p0:(Int×Int×Sl×Unit))(R:VWP)(w:World):Prop:=Nw (w.alloc (.cells #[zu p0.1,zu p0.2.1,p0.2.2.1.zw] 25)) λw1=>Nw (w1.alloc (.cells #[zi 0,zi 0] 29)) λw2=>da w2 (zB w) λx1 x2 x3=>dh 32 #[.agg #[zu x1,zu x2,x3.zw]] w2 λx5 w3=>de w3 #[zi 0,zi 0] 29 (zi x5.1) (zi x5.2.1) λw6=>ldI w6 (zB w3) .i64 λx6=>ifB (x6 !=0) (db w6.drew (zB w3) λx7 x8=>df w6.drew (zB w1) (zi x7) (zi x8) λw8=>db w8 (zB w1) λx9 x10=>R (.tuple #[.slice none 0 0,.agg #[zi x9,zi x10]]) w8) (da w6 (zB w) λx11 x12 x13=>di 13 #[.agg #[zu x11,zu x12,x13.zw]] w6 λx15 x16 w9=>de w9 #[zi 0,zi 0] 29 (zi x16.1) (zi x16.2.1) λw12=>da w12 (zB w) λx17 x18 x19=>dq 56 #[.agg #[zu x17,zu x18,x19.zw],x15.zw] w12 λx21 w13=>zk (S:=Sl×Int×Unit) (λs22 w14 n23=>ifB (decide (s22.2.1<(x15.l:Int))) ((0<=s22.2.1/\s22.2.1<(x15.l:Int))/\zc x15.a λa24=>dc w14 (a24.add (s22.2.1.toNat *5)) λx25 x26 x27 x28 x29=>dp w14 #[zu 0,zi 0,.slice none 0 0,.slice none 0 0,zi 0] 46 (zu x25) (zi x26) (x27.zw) (x28.zw) (zi x29) λw20=>da w20 (zB w) λx30 x31 x32=>dc w20 (zB w14) λx33 x34 x35 x36 x37=>dj 14 #[.agg #[zu x30,zu x31,x32.zw],.agg #[zu x33,zi x34,x35.zw,x36.zw,zi x37]] w20 λx39 x40 x41 w21=>de w21 #[zi 0,zi 0] 29 (zi x41.1) (zi x41.2.1) λw24=>ldI w24 (zB w21) .i64 λx42=>ifB (x42 !=0) (db w24.drew (zB w21) λx43 x44=>df w24.drew (zB w1) (zi x43) (zi x44) λw26=>db w26 (zB w1) λx45 x46=>R (.tuple #[.slice none 0 0,.agg #[zi x45,zi x46]]) w26) (dr 57 #[.pointer x39] w24 λx48 x49 w27=>da w27 (zB w) λx50 x51 x52=>dc w27 (zB w14) λx53 x54 x55 x56 x57=>Nw (w27.alloc (.cells #[zu x50,zu x51,x52.zw,zi s22.2.1,zu x53,zi x54,x55.zw,x56.zw,zi x57,.map x21,.pointer x39,.pointer x48] 83)) λw28=>dh 58 #[.pointer (some (zB w27))] w28 λx59 w29=>de w29 #[zi 0,zi 0] 29 (zi x59.1) (zi x59.2.1) λw32=>ldI w32 (zB w29) .i64 λx60=>ifB (x60 !=0) (db w32.drew (zB w29) λx61 x62=>df w32.drew (zB w1) (zi x61) (zi x62) λw34=>db w34 (zB w1) λx63 x64=>R (.tuple #[.slice none 0 0,.agg #[zi x63,zi x64]]) w34) (Nw (w32.alloc (.cells #[.pointer (some (zB w27))] 76)) λw35=>zp Tryz.prog 73 (s22.1.zw) (.slice (some (zB w32)) 1 1) w35 λr65 w36=>n23 (r65,(IntKind.i64.wrap (s22.2.1+(1:Int))),()) w36))) (df w14 (zB w1) (zi 0) (zi 0) λw38=>db w38 (zB w1) λx66 x67=>R (.tuple #[s22.1.zw,.agg #[zi x66,zi x67]]) w38)) ((Sl.mk none 0 0),0,()) w13)
theorem zjc(p0)(R)(w)(h:zhG p0 R w):cC 25 #[.agg #[.int .u32 p0.1,.int .u32 p0.2.1,.slice p0.2.2.1.a p0.2.2.1.l p0.2.2.1.c]] w R:=lwC zhP Tryz.func25 h
def ziM:Ann:=(.q (.q (.seq none (.q (.one (.loop ⟨[2,5,15,16],[(17,(.b (.int .i64)))]⟩ (.q (.seq none .c (.seq none (.one (.q (.seq none (.q (.one (.loop ⟨[2,5,6,7,15,16,17,23,24],[(25,(.b (.int .i64)))]⟩ Z15))) (.q (.one (.loop ⟨[2,5,6,15,16,17,41,42],[(43,(.b (.int .i64)))]⟩ (.q (.seq none .c (.seq none (.one (.q (.q (.q (.one (.loop ⟨[2,5,6,10,11,15,16,17,41,42,43],[(12,(.b (.int .i64)))]⟩ (.seq none Z13 (.seq (some ⟨[2,5,6,10,11,12,15,16,17,41,42,43],[]⟩) Z1I .nil)))))))) .nil))))))))) .nil)))))) Z11)))
def ziB(p0:(Int×Int×Sl×Unit))(p1:Sl)(R:VWP)(w:World):Prop:=Nw (w.alloc (.cells #[zu p0.1,zu p0.2.1,p0.2.2.1.zw] 25)) λw1=>Nw (w1.alloc (.map #[] 0)) λw2=>zk (S:=Int×Unit) (λs1 w3 n2=>ifB (decide (s1.1<(p1.l:Int))) ((0<=s1.1/\s1.1<(p1.l:Int))/\zc p1.a λa3=>dc w3 (a3.add (s1.1.toNat *5)) λx4 x5 x6 x7 x8=>dp w3 #[zu 0,zi 0,.slice none 0 0,.slice none 0 0,zi 0] 46 (zu x4) (zi x5) (x6.zw) (x7.zw) (zi x8) λw9=>ldS w9 ((zB w3).add 2) λx9=>zk (S:=Int×Unit) (λs10 w10 n11=>ifB (decide (s10.1<(x9.l:Int))) ((0<=s10.1/\s10.1<(x9.l:Int))/\zc x9.a λa12=>ldI w10 (a12.add s10.1.toNat) .i64 λx13=>ldS w10 ((zB w).add 2) λx14=>(0<=x13/\x13<(x14.l:Int))/\zc x14.a λa15=>ldI w10 ((a15.add (x13.toNat *4)).add 2) .u32 λx16=>updW Tryz.prog 80 (.map (some w1.heap.size)) (zu x16) (.agg #[zi s1.1,zi (-1:Int),zi x13,.bool false]) w10 λw11=>n11 ((IntKind.i64.wrap (s10.1+(1:Int))),()) w11) (ldS w10 ((zB w3).add 3) λx17=>zk (S:=Int×Unit) (λs18 w12 n19=>ifB (decide (s18.1<(x17.l:Int))) ((0<=s18.1/\s18.1<(x17.l:Int))/\zc x17.a λa20=>ds w12 (a20.add (s18.1.toNat *3)) λx21 x22 x23=>dt w12 #[zu 0,zi 0,zi 0] 42 (zu x21) (zi x22) (zi x23) λw16=>ldI w16 (zB w12) .u32 λx24=>ldI w16 ((zB w12).add 1) .i64 λx25=>updW Tryz.prog 80 (.map (some w1.heap.size)) (zu x24) (.agg #[zi s1.1,zi s18.1,zi x25,.bool true]) w16 λw17=>ldI w17 ((zB w12).add 1) .i64 λx26=>zk (S:=Int×Unit) (λs27 w18 n28=>ldI w18 ((zB w12).add 2) .i64 λx29=>ifB (decide (s27.1<x29)) (zl (S:=Unit) (λm30=>ldS w18 ((zB w).add 2) λx32=>(0<=s27.1/\s27.1<(x32.l:Int))/\zc x32.a λa33=>ldI w18 ((a33.add (s27.1.toNat *4)).add 2) .u32 λx34=>ifB (x34 !=0) (updW Tryz.prog 80 (.map (some w1.heap.size)) (zu x34) (.agg #[zi s1.1,zi s18.1,zi s27.1,.bool false]) w18 λw19=>m30 () w19) (m30 () w18)) (λs31 w20=>n28 ((IntKind.i64.wrap (s27.1+(1:Int))),()) w20)) (n19 ((IntKind.i64.wrap (s18.1+(1:Int))),()) w18)) ((IntKind.i64.wrap (x26+(1:Int))),()) w17) (n2 ((IntKind.i64.wrap (s1.1+(1:Int))),()) w12)) (0,()) w10)) (0,()) w9) (R (.map (some w1.heap.size)) w3)) (0,()) w2
theorem zjN(p0)(p1)(R)(w)(h:ziB p0 p1 R w):cC 56 #[.agg #[.int .u32 p0.1,.int .u32 p0.2.1,.slice p0.2.2.1.a p0.2.2.1.l p0.2.2.1.c],.slice p1.a p1.l p1.c] w R:=lwC ziM Tryz.func56 h
def zei:Ann:=(.q (.q (.seq none (.q (.one (.loop ⟨[2,3,16,17],[(18,(.b (.int .i64)))]⟩ (.q (.seq none .c (.seq none (.one (.q (.q (.one (.loop ⟨[2,3,4,5,16,17,18],[(6,(.b (.int .i64)))]⟩ (.seq none Z13 (.seq none (.one (.q (.one (.loop ⟨[2,3,4,5,6,16,17,18,31,32],[(33,(.b (.int .i64)))]⟩ Z1H)))) .nil))))))) .nil)))))) Z11)))
def zdX(p0:Option Addr)(R:VWP)(w:World):Prop:=Nw (w.alloc (.cells #[zi 0,zi 0] 29)) λw1=>dk 96 #[.pointer p0] w1 λx2 w2=>zc p0 λa3=>ldS w2 ((a3.add 4).add 3) λx4=>zk (S:=Int×Unit) (λs5 w3 n6=>ifB (decide (s5.1<(x4.l:Int))) ((0<=s5.1/\s5.1<(x4.l:Int))/\zc x4.a λa7=>ds w3 (a7.add (s5.1.toNat *3)) λx8 x9 x10=>dt w3 #[zu 0,zi 0,zi 0] 42 (zu x8) (zi x9) (zi x10) λw7=>ldI w7 ((zB w3).add 1) .i64 λx11=>zk (S:=Int×Unit) (λs12 w8 n13=>ldI w8 ((zB w3).add 2) .i64 λx14=>ifB (decide (s12.1<x14)) (zk (S:=Int×Unit) (λs15 w9 n16=>ifB (decide (s15.1<(x2.l:Int))) ((0<=s15.1/\s15.1<(x2.l:Int))/\zc x2.a λa17=>ldR w9 (a17.add s15.1.toNat) λx18=>ZH Tryz.prog Tryz.fs x18 [(zi s5.1),(zi s12.1)] w9 λv19 w10=>∃x20:Int,v19=(zi x20)/\ifB (x20 !=0) (df w10 (zB w) (zi x20) (zi s12.1) λw12=>db w12 (zB w) λx21 x22=>R (.agg #[zi x21,zi x22]) w12) (n16 ((IntKind.i64.wrap (s15.1+(1:Int))),()) w10)) (n13 ((IntKind.i64.wrap (s12.1+(1:Int))),()) w9)) (0,()) w8) (n6 ((IntKind.i64.wrap (s5.1+(1:Int))),()) w8)) (x11,()) w7) (df w3 (zB w) (zi 0) (zi 0) λw14=>db w14 (zB w) λx23 x24=>R (.agg #[zi x23,zi x24]) w14)) (0,()) w2
theorem zg3(p0)(R)(w)(h:zdX p0 R w):cC 58 #[.pointer p0] w R:=lwC zei Tryz.func58 h
def zej:Ann:=Z16
def zdY(p0:Option Addr)(R:VWP)(w:World):Prop:=Nw (w.alloc (.cells #[.func (.func 124) #[.pointer p0] #[],.func (.func 125) #[.pointer p0] #[],.func (.func 126) #[.pointer p0] #[]] 126)) λw1=>R (.slice (some (zB w)) 3 3) w1
theorem zg4(p0)(R)(w)(h:zdY p0 R w):cC 96 #[.pointer p0] w R:=lwC zej Tryz.func96 h
def zgk:Ann:=Z1J
def zfZ(p0:Option Addr)(p1:Int)(R:VWP)(w:World):Prop:=Nw (w.alloc (.cells #[zi 0,zi 0,zi 0,.bool false] 78)) λw1=>zc p0 λa1=>ldM w1 (a1.add 9) λx2=>zhr Tryz.prog 80 (.map x2) (zu p1) [(.int .i64),(.int .i64),(.int .i64),.bool] w1 λ(x3:(Int×Int×Int×Bool×Unit)) (b4:Bool)=>dn w1 #[zi 0,zi 0,zi 0,.bool false] 78 (zi x3.1) (zi x3.2.1) (zi x3.2.2.1) (.bool x3.2.2.2.1) λw6=>du w6.drew (zB w1) λx5 x6 x7 x8=>ifB b4 (ldB w6.drew ((zB w1).add 3) λx9=>ifB (!x9) (ldI w6.drew (zB w1) .i64 λx10=>zc p0 λa11=>ldI w6.drew (a11.add 3) .i64 λx12=>dv w6.drew (zB w) (zi x5) (zi x6) (zi x7) (.bool x8) λw10=>w10.cell? (a11.add 3)=some (zi x12)/\w10.cell? (zB w1)=some (zi x10)/\du w10 (zB w) λx13 x14 x15 x16=>R (.tuple #[.agg #[zi x13,zi x14,zi x15,.bool x16],.bool (x10==x12)]) w10) (dv w6.drew (zB w) (zi x5) (zi x6) (zi x7) (.bool x8) λw14=>du w14 (zB w) λx17 x18 x19 x20=>R (.tuple #[.agg #[zi x17,zi x18,zi x19,.bool x20],.bool false]) w14)) (dv w6.drew (zB w) (zi x5) (zi x6) (zi x7) (.bool x8) λw18=>du w18 (zB w) λx21 x22 x23 x24=>R (.tuple #[.agg #[zi x21,zi x22,zi x23,.bool x24],.bool false]) w18)
theorem zh5(p0)(p1)(R)(w)(h:zfZ p0 p1 R w):cC 101 #[.pointer p0,.int .u32 p1] w R:=lwC zgk Tryz.func101 h
def zhQ:Ann:=(.q (.seq none (.q (.one (.loop ⟨[7,8],[(2,(.b .slice)),(3,(.b .slice)),(9,(.b (.int .i64)))]⟩ (.q (.seq none .c (.seq (some ⟨[7,8,9],[(2,(.b .slice)),(3,(.b .slice))]⟩) Z1I .nil)))))) Z11))
def zhH(p0:(Int×Int×Int×Sl×Unit))(R:VWP)(w:World):Prop:=Nw (w.alloc (.cells #[zh p0.1,zu p0.2.1,zu p0.2.2.1,p0.2.2.2.1.zw] 50)) λw1=>ldS w1 ((zB w).add 3) λx1=>zk (S:=Sl×Sl×Int×Unit) (λs2 w2 n3=>ifB (decide (s2.2.2.1<(x1.l:Int))) (zl (S:=Sl×Sl×Unit) (λm4=>(0<=s2.2.2.1/\s2.2.2.1<(x1.l:Int))/\zc x1.a λa6=>dw w2 (a6.add (s2.2.2.1.toNat *3)) λx7 x8 x9=>Nw (w2.alloc (.cells #[zb 0,zu 0,.string (BM #[])] 136)) λw3=>dx w3 (zB w2) (zb x7) (zu x8) (.string x9) λw6=>ifB ((Int.tmod s2.2.2.1 2)==0) (ldI w6 ((zB w2).add 1) .u32 λx10=>Nw (w6.alloc (.cells #[zu x10] 22)) λw7=>zp Tryz.prog 26 (s2.1.zw) (.slice (some (zB w6)) 1 1) w7 λr11 w8=>m4 (r11,s2.2.1,()) w8) (ldI w6 ((zB w2).add 1) .u32 λx12=>Nw (w6.alloc (.cells #[zu x12] 22)) λw9=>zp Tryz.prog 26 (s2.2.1.zw) (.slice (some (zB w6)) 1 1) w9 λr13 w10=>m4 (s2.1,r13,()) w10)) (λs5 w11=>n3 (s5.1,s5.2.1,(IntKind.i64.wrap (s2.2.2.1+(1:Int))),()) w11)) (R (.tuple #[s2.1.zw,s2.2.1.zw]) w2)) ((Sl.mk none 0 0),(Sl.mk none 0 0),0,()) w1
theorem zjd(p0)(R)(w)(h:zhH p0 R w):cC 102 #[.agg #[.int .u16 p0.1,.int .u32 p0.2.1,.int .u32 p0.2.2.1,.slice p0.2.2.2.1.a p0.2.2.2.1.l p0.2.2.2.1.c]] w R:=lwC zhQ Tryz.func102 h
def zek:Ann:=(.q (.seq none (.q (.one (.loop ⟨[0,19,20],[(21,(.b (.int .i64)))]⟩ (.q (.seq none .c (.seq (some ⟨[0,19,20,21],[]⟩) (.one (.q Z1E)) .nil)))))) Z11))
def zdZ(p0:Option Addr)(p1:Int)(p2:Int)(R:VWP)(w:World):Prop:=zc p0 λa1=>ldS w (a1.add 2) λx2=>(0<=p2/\p2<(x2.l:Int))/\zc x2.a λa3=>dm w (a3.add (p2.toNat *4)) λx4 x5 x6 x7=>dk 69 #[.agg #[zh x4,zu x5,zu x6,x7.zw]] w λx9 w1=>zk (S:=Int×Unit) (λs10 w2 n11=>ifB (decide (s10.1<(x9.l:Int))) (zl (S:=Unit) (λm12=>(0<=s10.1/\s10.1<(x9.l:Int))/\zc x9.a λa14=>ldI w2 (a14.add s10.1.toNat) .u32 λx15=>zc p0 λa16=>ldM w2 (a16.add 9) λx17=>zhr Tryz.prog 80 (.map x17) (zu x15) [(.int .i64),(.int .i64),(.int .i64),.bool] w2 λ(x18:(Int×Int×Int×Bool×Unit)) (b19:Bool)=>dn w2 #[zi 0,zi 0,zi 0,.bool false] 78 (zi x18.1) (zi x18.2.1) (zi x18.2.2.1) (.bool x18.2.2.2.1) λw7=>ifB b19 (ldI w7.drew (zB w2) .i64 λx20=>zc p0 λa21=>ldI w7.drew (a21.add 3) .i64 λx22=>ifB (x20 !=x22) (R (zi 192) w7.drew) (m12 () w7.drew)) (m12 () w7.drew)) (λs13 w8=>n11 ((IntKind.i64.wrap (s10.1+(1:Int))),()) w8)) (R (zi 0) w2)) (0,()) w1
theorem zg5(p0)(p1)(p2)(R)(w)(h:zdZ p0 p1 p2 R w):cC 124 #[.pointer p0,.int .i64 p1,.int .i64 p2] w R:=lwC zek Tryz.func124 h
def zgl:Ann:=(.q (.seq none Z10 (.q (.q (.seq none (.q (.one (.loop ⟨[0,8,39,40],[(9,(.b .slice)),(41,(.b (.int .i64)))]⟩ Z15))) (.q Z1N))))))
def zga(p0:Option Addr)(p1:Int)(p2:Int)(R:VWP)(w:World):Prop:=zc p0 λa1=>ldS w (a1.add 2) λx2=>(0<=p2/\p2<(x2.l:Int))/\zc x2.a λa3=>ldI w (a3.add (p2.toNat *4)) .u16 λx4=>ifB (x4 !=245) (R (zi 0) w) (zc p0 λa5=>ldS w (a5.add 2) λx6=>(0<=p2/\p2<(x6.l:Int))/\zc x6.a λa7=>dm w (a7.add (p2.toNat *4)) λx8 x9 x10 x11=>dy 102 #[.agg #[zh x8,zu x9,zu x10,x11.zw]] w λx13 x14 w1=>zc p0 λa15=>ldP w1 (a15.add 10) λx16=>dk 17 #[.pointer x16,zi p1] w1 λx18 w2=>zk (S:=Sl×Int×Unit) (λs19 w3 n20=>ifB (decide (s19.2.1<(x18.l:Int))) ((0<=s19.2.1/\s19.2.1<(x18.l:Int))/\zc x18.a λa21=>ldI w3 (a21.add s19.2.1.toNat) .i64 λx22=>zc p0 λa23=>ldS w3 ((a23.add 4).add 3) λx24=>(0<=x22/\x22<(x24.l:Int))/\zc x24.a λa25=>ldI w3 (a25.add (x22.toNat *3)) .u32 λx26=>Nw (w3.alloc (.cells #[zu x26] 22)) λw4=>zp Tryz.prog 26 (s19.1.zw) (.slice (some (zB w3)) 1 1) w4 λr27 w5=>n20 (r27,(IntKind.i64.wrap (s19.2.1+(1:Int))),()) w5) (cR 60 #[s19.1.zw] w3 λv28 w6=>v28=(.tuple #[])/\cR 60 #[x14.zw] w6 λv29 w7=>v29=(.tuple #[])/\dz 159 #[s19.1.zw,x14.zw] w7 λx31 w8=>ifB (!x31) (R (zi 191) w8) (R (zi 0) w8))) ((Sl.mk none 0 0),0,()) w2)
theorem zh6(p0)(p1)(p2)(R)(w)(h:zga p0 p1 p2 R w):cC 125 #[.pointer p0,.int .i64 p1,.int .i64 p2] w R:=lwC zgl Tryz.func125 h
def zgm:Ann:=(.q (.q (.seq none (.q (.cond (.seq none (.q (.one (.loop ⟨[0,1,2,27,28],[(29,(.b (.int .i64)))]⟩ Z1U))) Z11) .nil)) (.q (.seq none (.q (.one (.loop ⟨[0,11,45,46],[(47,(.b (.int .i64)))]⟩ Z1H))) Z11)))))
def zgb(p0:Option Addr)(p1:Int)(p2:Int)(R:VWP)(w:World):Prop:=zc p0 λa1=>ldS w (a1.add 2) λx2=>(0<=p2/\p2<(x2.l:Int))/\zc x2.a λa3=>dm w (a3.add (p2.toNat *4)) λx4 x5 x6 x7=>dn w #[zh 0,zu 0,zu 0,.slice none 0 0] 50 (zh x4) (zu x5) (zu x6) (x7.zw) λw5=>ldI w5 (zB w) .u16 λx8=>ifB (x8 !=245) (dm w5 (zB w) λx9 x10 x11 x12=>dk 69 #[.agg #[zh x9,zu x10,zu x11,x12.zw]] w5 λx14 w6=>zk (S:=Int×Unit) (λs15 w7 n16=>ifB (decide (s15.1<(x14.l:Int))) ((0<=s15.1/\s15.1<(x14.l:Int))/\zc x14.a λa17=>ldI w7 (a17.add s15.1.toNat) .u32 λx18=>dz 160 #[.pointer p0,zu x18,zi p1,zi p2] w7 λx20 w8=>ifB (!x20) (R (zi 190) w8) (n16 ((IntKind.i64.wrap (s15.1+(1:Int))),()) w8)) (R (zi 0) w7)) (0,()) w6) (dm w5 (zB w) λx21 x22 x23 x24=>dy 102 #[.agg #[zh x21,zu x22,zu x23,x24.zw]] w5 λx26 x27 w9=>zk (S:=Int×Unit) (λs28 w10 n29=>ifB (decide (s28.1<(x26.l:Int))) ((0<=s28.1/\s28.1<(x26.l:Int))/\zc x26.a λa30=>ldI w10 (a30.add s28.1.toNat) .u32 λx31=>zc p0 λa32=>ldM w10.drew (a32.add 9) λx33=>(0<=s28.1/\s28.1<(x27.l:Int))/\zc x27.a λa34=>ldI w10.drew (a34.add s28.1.toNat) .u32 λx35=>zlG Tryz.prog 80 (.map x33) (zu x35) [(.int .i64),(.int .i64),(.int .i64),.bool] w10.drew λ(x36:(Int×Int×Int×Bool×Unit))=>zc p0 λa37=>ldS w10.drew ((a37.add 4).add 3) λx38=>(0<=x36.2.1/\x36.2.1<(x38.l:Int))/\zc x38.a λa39=>ldI w10.drew ((a39.add (x36.2.1.toNat *3)).add 2) .i64 λx40=>dz 160 #[.pointer p0,zu x31,zi x36.2.1,zi x40] w10.drew λx42 w11=>ifB (!x42) (R (zi 190) w11) (n29 ((IntKind.i64.wrap (s28.1+(1:Int))),()) w11)) (R (zi 0) w10)) (0,()) w9)
theorem zh7(p0)(p1)(p2)(R)(w)(h:zgb p0 p1 p2 R w):cC 126 #[.pointer p0,.int .i64 p1,.int .i64 p2] w R:=lwC zgm Tryz.func126 h
def Zr:Ann:=Z19
def Zn(p0:Sl)(p1:Sl)(R:VWP)(w:World):Prop:=ifB ((p0.l:Int) !=(p1.l:Int)) (R (.bool false) w) (zk (S:=Int×Unit) (λs1 w1 n2=>ifB (decide (s1.1<(p0.l:Int))) ((0<=s1.1/\s1.1<(p0.l:Int))/\zc p0.a λa3=>ldI w1.drew (a3.add s1.1.toNat) .u32 λx4=>(0<=s1.1/\s1.1<(p1.l:Int))/\zc p1.a λa5=>ldI w1.drew (a5.add s1.1.toNat) .u32 λx6=>ifB (x4 !=x6) (R (.bool false) w1.drew) (n2 ((IntKind.i64.wrap (s1.1+(1:Int))),()) w1.drew)) (R (.bool true) w1)) (0,()) w)
theorem zam(p0)(p1)(R)(w)(h:Zn p0 p1 R w):cC 159 #[.slice p0.a p0.l p0.c,.slice p1.a p1.l p1.c] w R:=lwC Zr Tryz.func159 h
def zgj:Ann:=(.q (.q (.seq (some ⟨[0,2,3,9],[]⟩) Z10 Z17)))
def zfY(p0:Option Addr)(p1:Int)(p2:Int)(p3:Int)(R:VWP)(w:World):Prop:=dA 101 #[.pointer p0,zu p1] w λx2 x3 w1=>dn w1 #[zi 0,zi 0,zi 0,.bool false] 78 (zi x2.1) (zi x2.2.1) (zi x2.2.2.1) (.bool x2.2.2.2.1) λw6=>zl (S:=Unit) (λm4=>ifB (!x3) (R (.bool true) w6) (ldI w6 ((zB w1).add 1) .i64 λx6=>ifB (decide (x6<(0:Int))) (R (.bool true) w6) (zc p0 λa7=>ldP w6 (a7.add 10) λx8=>dz 16 #[.pointer x8,zi p2] w6 λx10 w7=>ifB (!x10) (R (.bool true) w7) (m4 () w7)))) (λs5 w8=>ldI w8 ((zB w1).add 1) .i64 λx11=>ifB (x11==p2) (ldI w8 ((zB w1).add 2) .i64 λx12=>R (.bool (decide (x12<p3))) w8) (zc p0 λa13=>ldP w8.drew (a13.add 11) λx14=>ldI w8.drew ((zB w1).add 1) .i64 λx15=>dz 183 #[.pointer x14,zi x15,zi p2] w8.drew λx17 w9=>R (.bool x17) w9))
theorem zh4(p0)(p1)(p2)(p3)(R)(w)(h:zfY p0 p1 p2 p3 R w):cC 160 #[.pointer p0,.int .u32 p1,.int .i64 p2,.int .i64 p3] w R:=lwC zgj Tryz.func160 h
set_option linter.unusedVariables false
set_option maxRecDepth 100000
def zkt:Ann:=(.q (.seq none Z1E (.q (.seq none Z1T (.q (.seq none (.q (.one (.loop ⟨[2,3,6,10,51,52],[(53,(.b (.int .i64)))]⟩ Z15))) (.q (.q (.seq none (.q (.one (.loop ⟨[2,6,10,65,66],[(13,(.b .slice)),(14,(.b .slice)),(67,(.b (.int .i64)))]⟩ (.q (.seq none .c (.seq none (.one (.q (.q (.seq (some ⟨[2,6,10,13,14,16,17,65,66,67],[(18,(.b .ptr)),(19,(.b .bool))]⟩) .nil (.seq none Z10 Z1N))))) .nil)))))) Z16)))))))))
def zkp(p0:(Int×Int×Sl×Unit))(p1:(Int×Int×Sl×Sl×Int×Unit))(R:VWP)(w:World):Prop:=Nw (w.alloc (.cells #[zu p0.1,zu p0.2.1,p0.2.2.1.zw] 25)) λw1=>Nw (w1.alloc (.cells #[zu p1.1,zi p1.2.1,p1.2.2.1.zw,p1.2.2.2.1.zw,zi p1.2.2.2.2.1] 46)) λw2=>Nw (w2.alloc (.cells #[zi 0,zi 0] 29)) λw3=>da w3 (zB w) λx1 x2 x3=>dh 32 #[.agg #[zu x1,zu x2,x3.zw]] w3 λx5 w4=>de w4 #[zi 0,zi 0] 29 (zi x5.1) (zi x5.2.1) λw7=>ldI w7 (zB w4) .i64 λx6=>ifB (x6 !=0) (db w7.drew (zB w4) λx7 x8=>df w7.drew (zB w2) (zi x7) (zi x8) λw9=>db w9 (zB w2) λx9 x10=>R (.tuple #[.pointer none,.slice none 0 0,.agg #[zi x9,zi x10]]) w9) (da w7 (zB w) λx11 x12 x13=>di 13 #[.agg #[zu x11,zu x12,x13.zw]] w7 λx15 x16 w10=>de w10 #[zi 0,zi 0] 29 (zi x16.1) (zi x16.2.1) λw13=>dz 33 #[x15.zw,.func (.func 34) #[] #[.pointer (some (zB w1))]] w13 λx18 w14=>ifB (!x18) (df w14 (zB w2) (zi 2) (zi 0) λw16=>db w16 (zB w2) λx19 x20=>R (.tuple #[.pointer none,.slice none 0 0,.agg #[zi x19,zi x20]]) w16) (ldS w14 ((zB w1).add 3) λx21=>ifB (decide ((x21.l:Int)>4096)) (ldI w14.drew ((zB w1).add 1) .i64 λx22=>df w14.drew (zB w2) (zi 4) (zi x22) λw18=>db w18 (zB w2) λx23 x24=>R (.tuple #[.pointer none,.slice none 0 0,.agg #[zi x23,zi x24]]) w18) (Nw (w14.alloc (.map #[] 0)) λw19=>ldS w19 ((zB w1).add 3) λx25=>(0<=(1:Int)/\1<=(x25.l:Int)/\(x25.l:Int)<=(x25.c:Int))/\zk (S:=Int×Unit) (λs26 w20 n27=>ifB (decide (s26.1<(((x25.l-1):Nat):Int))) ((0<=s26.1/\s26.1<(((x25.l-1):Nat):Int))/\zc (if x25.c=1 then x25.a else Option.map (λa=>a.add (1*3)) x25.a) λa28=>ds w20 (a28.add (s26.1.toNat *3)) λx29 x30 x31=>dt w20 #[zu 0,zi 0,zi 0] 42 (zu x29) (zi x30) (zi x31) λw24=>ldI w24 (zB w20) .u32 λx32=>updW Tryz.prog 104 (.map (some w14.heap.size)) (zu x32) (zi (IntKind.i64.wrap (s26.1+(1:Int)))) w24 λw25=>n27 ((IntKind.i64.wrap (s26.1+(1:Int))),()) w25) (ldS w20 ((zB w1).add 3) λx33=>zk (S:=Sl×Sl×Int×Unit) (λs34 w26 n35=>ifB (decide (s34.2.2.1<(x33.l:Int))) ((0<=s34.2.2.1/\s34.2.2.1<(x33.l:Int))/\zc x33.a λa36=>ds w26 (a36.add (s34.2.2.1.toNat *3)) λx37 x38 x39=>dt w26 #[zu 0,zi 0,zi 0] 42 (zu x37) (zi x38) (zi x39) λw30=>ldS w30 ((zB w).add 2) λx40=>ldI w30 ((zB w26).add 2) .i64 λx41=>(0<=(IntKind.i64.wrap (x41-(1:Int)))/\(IntKind.i64.wrap (x41-(1:Int)))<(x40.l:Int))/\zc x40.a λa42=>dm w30 (a42.add ((Int.toNat (IntKind.i64.wrap (x41-(1:Int))))*4)) λx43 x44 x45 x46=>dn w30 #[zh 0,zu 0,zu 0,.slice none 0 0] 50 (zh x43) (zu x44) (zu x45) (x46.zw) λw35=>zl (S:=(Option Addr)×Bool×Unit) (λm47=>ldS w35.drew ((zB w).add 2) λx49=>ldI w35.drew ((zB w26).add 2) .i64 λx50=>(0<=(IntKind.i64.wrap (x50-(2:Int)))/\(IntKind.i64.wrap (x50-(2:Int)))<(x49.l:Int))/\zc x49.a λa51=>dm w35.drew (a51.add ((Int.toNat (IntKind.i64.wrap (x50-(2:Int))))*4)) λx52 x53 x54 x55=>dm w35.drew (zB w30) λx56 x57 x58 x59=>(dC 36 #[.map (some w14.heap.size),.agg #[zh x52,zu x53,zu x54,x55.zw],.agg #[zh x56,zu x57,zu x58,x59.zw]] w35.drew λx61 x62 w36=>dt w36 #[zb 0,zi 0,zi 0] 106 (zb x61.1) (zi x61.2.1) (zi x61.2.2.1) λw40=>m47 ((some (zB w36)),x62,()) w40)/\Nw (w35.drew.alloc (.cells #[zb 0,zi 0,zi 0] 106)) λw41=>w41.cell? ((zB w30).add 0)=some (zh x56)/\w41.cell? ((zB w30).add 1)=some (zu x57)/\w41.cell? ((zB w30).add 2)=some (zu x58)/\w41.cell? ((zB w30).add 3)=some (x59.zw)/\w41.cell? ((a51.add ((Int.toNat (IntKind.i64.wrap (x50-(2:Int))))*4)).add 0)=some (zh x52)/\w41.cell? ((a51.add ((Int.toNat (IntKind.i64.wrap (x50-(2:Int))))*4)).add 1)=some (zu x53)/\w41.cell? ((a51.add ((Int.toNat (IntKind.i64.wrap (x50-(2:Int))))*4)).add 2)=some (zu x54)/\w41.cell? ((a51.add ((Int.toNat (IntKind.i64.wrap (x50-(2:Int))))*4)).add 3)=some (x55.zw)/\w41.cell? ((zB w26).add 2)=some (zi x50)/\w41.cell? ((zB w).add 2)=some (x49.zw)/\dC 36 #[.map (some w14.heap.size),.agg #[zh x52,zu x53,zu x54,x55.zw],.agg #[zh x56,zu x57,zu x58,x59.zw]] w41 λx64 x65 w42=>dx w42 (blk w35.drew.heap.size) (zb x64.1) (zi x64.2.1) (zi x64.2.2.1) λw45=>m47 ((some (blk w35.drew.heap.size)),x65,()) w45) (λs48 w46=>ifB (!s48.2.1) (ldI w46.drew ((zB w26).add 2) .i64 λx66=>df w46.drew (zB w2) (zi 140) (zi (IntKind.i64.wrap (x66-(2:Int)))) λw48=>db w48 (zB w2) λx67 x68=>R (.tuple #[.pointer none,.slice none 0 0,.agg #[zi x67,zi x68]]) w48) (dm w46 (zB w30) λx69 x70 x71 x72=>dk 38 #[.agg #[zh x69,zu x70,zu x71,x72.zw]] w46 λx74 w49=>dD 37 #[.map (some w14.heap.size),x74.zw] w49 λx76 x77 w50=>ifB (!x77) (ldI w50.drew ((zB w26).add 2) .i64 λx78=>df w50.drew (zB w2) (zi 140) (zi (IntKind.i64.wrap (x78-(1:Int)))) λw52=>db w52 (zB w2) λx79 x80=>R (.tuple #[.pointer none,.slice none 0 0,.agg #[zi x79,zi x80]]) w52) (zc s48.1 λa81=>dB w50 a81 λx82 x83 x84=>Nw (w50.alloc (.cells #[zb x82,zi x83,zi x84] 106)) λw53=>zp Tryz.prog 52 (s34.2.1.zw) (.slice (some (zB w50)) 1 1) w53 λr85 w54=>Nw (w54.alloc (.cells #[x76.zw] 43)) λw55=>zp Tryz.prog 67 (s34.1.zw) (.slice (some (zB w54)) 1 1) w55 λr86 w56=>n35 (r86,r85,(IntKind.i64.wrap (s34.2.2.1+(1:Int))),()) w56)))) (dr 39 #[s34.1.zw] w26 λx88 x89 w57=>df w57 (zB w2) (zi 0) (zi 0) λw59=>db w59 (zB w2) λx90 x91=>R (.tuple #[.pointer x88,s34.2.1.zw,.agg #[zi x90,zi x91]]) w59)) ((Sl.mk none 0 0),(Sl.mk none 0 0),0,()) w20)) (0,()) w19)))
theorem zkO(p0)(p1)(R)(w)(h:zkp p0 p1 R w):cC 14 #[.agg #[.int .u32 p0.1,.int .u32 p0.2.1,.slice p0.2.2.1.a p0.2.2.1.l p0.2.2.1.c],.agg #[.int .u32 p1.1,.int .i64 p1.2.1,.slice p1.2.2.1.a p1.2.2.1.l p1.2.2.1.c,.slice p1.2.2.2.1.a p1.2.2.2.1.l p1.2.2.2.1.c,.int .i64 p1.2.2.2.2.1]] w R:=lwC zkt Tryz.func14 h
def yo:Ann:=Z16
def ym(p0:Sl)(p1:Value)(R:VWP)(w:World):Prop:=dl 70 #[p0.zw,p1] w λx2 w1=>R (.bool (decide (x2≥(0:Int)))) w1
theorem Zk(p0)(p1)(R)(w)(h:ym p0 p1 R w):cC 33 #[.slice p0.a p0.l p0.c,p1] w R:=lwC yo Tryz.func33 h
def zhS:Ann:=Z16
def zhJ(p0:(Int×Int×Sl×Sl×Int×Unit))(c0:Addr)(R:VWP)(w:World):Prop:=Nw (w.alloc (.cells #[zu p0.1,zi p0.2.1,p0.2.2.1.zw,p0.2.2.2.1.zw,zi p0.2.2.2.2.1] 46)) λw1=>dc w1 (zB w) λx1 x2 x3 x4 x5=>dc w1 c0 λx6 x7 x8 x9 x10=>dz 35 #[.agg #[zu x1,zi x2,x3.zw,x4.zw,zi x5],.agg #[zu x6,zi x7,x8.zw,x9.zw,zi x10]] w1 λx12 w2=>R (.bool x12) w2
theorem zjh(p0)(c0)(R)(w)(h:zhJ p0 c0 R w):cC 34 #[.agg #[.int .u32 p0.1,.int .i64 p0.2.1,.slice p0.2.2.1.a p0.2.2.1.l p0.2.2.1.c,.slice p0.2.2.2.1.a p0.2.2.2.1.l p0.2.2.2.1.c,.int .i64 p0.2.2.2.2.1],.pointer (some c0)] w R:=lwC zhS Tryz.func34 h
def ziP:Ann:=Z16
def ziE(p0:(Int×Int×Sl×Sl×Int×Unit))(p1:(Int×Int×Sl×Sl×Int×Unit))(R:VWP)(w:World):Prop:=Nw (w.alloc (.cells #[zu p0.1,zi p0.2.1,p0.2.2.1.zw,p0.2.2.2.1.zw,zi p0.2.2.2.2.1] 46)) λw1=>Nw (w1.alloc (.cells #[zu p1.1,zi p1.2.1,p1.2.2.1.zw,p1.2.2.2.1.zw,zi p1.2.2.2.2.1] 46)) λw2=>ldI w2 (zB w) .u32 λx1=>ldI w2 (zB w1) .u32 λx2=>ifB (x1==x2) (ldI w2 ((zB w).add 1) .i64 λx3=>ldI w2 ((zB w1).add 1) .i64 λx4=>ifB (x3==x4) (ldI w2 ((zB w).add 4) .i64 λx5=>ldI w2 ((zB w1).add 4) .i64 λx6=>ifB (x5==x6) (ldS w2 ((zB w).add 2) λx7=>ldS w2 ((zB w1).add 2) λx8=>dz 71 #[x7.zw,x8.zw] w2 λx10 w3=>ifB x10 (ldS w3 ((zB w).add 3) λx11=>ldS w3 ((zB w1).add 3) λx12=>dz 72 #[x11.zw,x12.zw] w3 λx14 w4=>R (.bool x14) w4) (R (.bool false) w3)) (R (.bool false) w2)) (R (.bool false) w2)) (R (.bool false) w2)
theorem zjU(p0)(p1)(R)(w)(h:ziE p0 p1 R w):cC 35 #[.agg #[.int .u32 p0.1,.int .i64 p0.2.1,.slice p0.2.2.1.a p0.2.2.1.l p0.2.2.1.c,.slice p0.2.2.2.1.a p0.2.2.2.1.l p0.2.2.2.1.c,.int .i64 p0.2.2.2.2.1],.agg #[.int .u32 p1.1,.int .i64 p1.2.1,.slice p1.2.2.1.a p1.2.2.1.l p1.2.2.1.c,.slice p1.2.2.2.1.a p1.2.2.2.1.l p1.2.2.2.1.c,.int .i64 p1.2.2.2.2.1]] w R:=lwC ziP Tryz.func35 h
def zbN:Ann:=(.q (.q (.seq none (.q (.one (.q (.cond (.q (.seq none Z10 (.q (.seq (some ⟨[6,9],[(11,(.b (.int .u8)))]⟩) Z13 Z11)))) (.q (.cond Z1N .nil)))))) Z11)))
def zb8(p0:Option Nat)(p1:(Int×Int×Int×Sl×Unit))(p2:(Int×Int×Int×Sl×Unit))(R:VWP)(w:World):Prop:=Nw (w.alloc (.cells #[zh p1.1,zu p1.2.1,zu p1.2.2.1,p1.2.2.2.1.zw] 50)) λw1=>Nw (w1.alloc (.cells #[zh p2.1,zu p2.2.1,zu p2.2.2.1,p2.2.2.2.1.zw] 50)) λw2=>Nw (w2.alloc (.cells #[zb 0,zi 0,zi 0] 106)) λw3=>dt w3 #[zb 0,zi 0,zi 0] 106 (zb 0) (zi (-1:Int)) (zi (-1:Int)) λw7=>ldI w7 (zB w) .u16 λx1=>ifB (x1==247) (ldS w7 ((zB w).add 3) λx2=>(0<=(0:Int)/\0<(x2.l:Int))/\zc x2.a λa3=>ldI w7 ((a3.add (0*3)).add 1) .u32 λx4=>Nw (w7.alloc (.cells #[zu x4] 22)) λw8=>dD 37 #[.map p0,.slice (some (zB w7)) 1 1] w8 λx6 x7 w9=>ifB (!x7) (dB w9 (zB w3) λx8 x9 x10=>dx w9 (zB w2) (zb x8) (zi x9) (zi x10) λw12=>dB w12 (zB w2) λx11 x12 x13=>R (.tuple #[.agg #[zb x11,zi x12,zi x13],.bool false]) w12) (zl (S:=Int×Unit) (λm14=>ldI w9 (zB w1) .u16 λx16=>ifB (x16==251) (m14 (3,()) w9) (m14 (1,()) w9)) (λs15 w13=>(0<=(0:Int)/\0<(x6.l:Int))/\zc x6.a λa17=>ldI w13 (a17.add 0) .i64 λx18=>dx w13 (zB w2) (zb s15.1) (zi x18) (zi (-1:Int)) λw16=>dB w16 (zB w2) λx19 x20 x21=>R (.tuple #[.agg #[zb x19,zi x20,zi x21],.bool true]) w16))) (ifB (x1==246) (ldS w7.drew ((zB w).add 3) λx22=>(0<=(0:Int)/\0<(x22.l:Int))/\zc x22.a λa23=>ldI w7.drew ((a23.add (0*3)).add 1) .u32 λx24=>ldS w7.drew ((zB w).add 3) λx25=>(0<=(1:Int)/\1<(x25.l:Int))/\zc x25.a λa26=>ldI w7.drew ((a26.add (1*3)).add 1) .u32 λx27=>Nw (w7.drew.alloc (.cells #[zu x24,zu x27] 22)) λw17=>dD 37 #[.map p0,.slice (some (blk w7.drew.heap.size)) 2 2] w17 λx29 x30 w18=>ifB (!x30) (dB w18 (zB w3) λx31 x32 x33=>dx w18 (zB w2) (zb x31) (zi x32) (zi x33) λw21=>dB w21 (zB w2) λx34 x35 x36=>R (.tuple #[.agg #[zb x34,zi x35,zi x36],.bool false]) w21) ((0<=(0:Int)/\0<(x29.l:Int))/\zc x29.a λa37=>ldI w18.drew (a37.add 0) .i64 λx38=>(0<=(1:Int)/\1<(x29.l:Int))/\zc x29.a λa39=>ldI w18.drew (a39.add 1) .i64 λx40=>dx w18.drew (zB w2) (zb 2) (zi x38) (zi x40) λw24=>dB w24 (zB w2) λx41 x42 x43=>R (.tuple #[.agg #[zb x41,zi x42,zi x43],.bool true]) w24)) (dB w7 (zB w3) λx44 x45 x46=>dx w7 (zB w2) (zb x44) (zi x45) (zi x46) λw27=>dB w27 (zB w2) λx47 x48 x49=>R (.tuple #[.agg #[zb x47,zi x48,zi x49],.bool true]) w27))
theorem ze1(p0)(p1)(p2)(R)(w)(h:zb8 p0 p1 p2 R w):cC 36 #[.map p0,.agg #[.int .u16 p1.1,.int .u32 p1.2.1,.int .u32 p1.2.2.1,.slice p1.2.2.2.1.a p1.2.2.2.1.l p1.2.2.2.1.c],.agg #[.int .u16 p2.1,.int .u32 p2.2.1,.int .u32 p2.2.2.1,.slice p2.2.2.2.1.a p2.2.2.2.1.l p2.2.2.2.1.c]] w R:=lwC zbN Tryz.func36 h
def zdq:Ann:=(.q (.q (.seq none (.q (.one (.loop ⟨[0,11,12],[(6,(.b .slice)),(13,(.b (.int .i64)))]⟩ (.q (.seq none .c (.seq none (.one (.q (.q Z1W))) .nil)))))) Z11)))
def zdh(p0:Option Nat)(p1:Sl)(R:VWP)(w:World):Prop:=zk (S:=Sl×Int×Unit) (λs1 w1 n2=>ifB (decide (s1.2.1<(p1.l:Int))) ((0<=s1.2.1/\s1.2.1<(p1.l:Int))/\zc p1.a λa3=>ldI w1 (a3.add s1.2.1.toNat) .u32 λx4=>zn5 Tryz.prog 104 (.map p0) (zu x4) (BK.int .i64) w1 λ(x5:Int) (b6:Bool)=>ifB (!b6) (R (.tuple #[.slice none 0 0,.bool false]) w1) (Nw (w1.alloc (.cells #[zi x5] 3)) λw2=>zp Tryz.prog 43 (s1.1.zw) (.slice (some (zB w1)) 1 1) w2 λr7 w3=>n2 (r7,(IntKind.i64.wrap (s1.2.1+(1:Int))),()) w3)) (R (.tuple #[s1.1.zw,.bool true]) w1)) ((Sl.mk none 0 0),0,()) w
theorem zfA(p0)(p1)(R)(w)(h:zdh p0 p1 R w):cC 37 #[.map p0,.slice p1.a p1.l p1.c] w R:=lwC zdq Tryz.func37 h
def y5:Ann:=(.q (.seq none (.q (.one (.loop ⟨[0,1,7],[(8,(.b (.int .i64)))]⟩ Z1U))) Z11))
def yy(p0:Sl)(p1:Value)(R:VWP)(w:World):Prop:=zk (S:=Int×Unit) (λs1 w1 n2=>ifB (decide (s1.1<(p0.l:Int))) ((0<=s1.1/\s1.1<(p0.l:Int))/\zc p0.a λa3=>dc w1 (a3.add (s1.1.toNat *5)) λx4 x5 x6 x7 x8=>ZH Tryz.prog Tryz.fs p1 [(.agg #[zu x4,zi x5,x6.zw,x7.zw,zi x8])] w1 λv9 w2=>∃x10:Bool,v9=(.bool x10)/\ifB x10 (R (zi s1.1) w2) (n2 ((IntKind.i64.wrap (s1.1+(1:Int))),()) w2)) (R (zi (-1:Int)) w1)) (0,()) w
theorem Z5(p0)(p1)(R)(w)(h:yy p0 p1 R w):cC 70 #[.slice p0.a p0.l p0.c,p1] w R:=lwC y5 Tryz.func70 h
def zab:Ann:=Z19
def YX(p0:Sl)(p1:Sl)(R:VWP)(w:World):Prop:=ifB ((p0.l:Int) !=(p1.l:Int)) (R (.bool false) w) (zk (S:=Int×Unit) (λs1 w1 n2=>ifB (decide (s1.1<(p0.l:Int))) ((0<=s1.1/\s1.1<(p0.l:Int))/\zc p0.a λa3=>ldI w1.drew (a3.add s1.1.toNat) .i64 λx4=>(0<=s1.1/\s1.1<(p1.l:Int))/\zc p1.a λa5=>ldI w1.drew (a5.add s1.1.toNat) .i64 λx6=>ifB (x4 !=x6) (R (.bool false) w1.drew) (n2 ((IntKind.i64.wrap (s1.1+(1:Int))),()) w1.drew)) (R (.bool true) w1)) (0,()) w)
theorem zcU(p0)(p1)(R)(w)(h:YX p0 p1 R w):cC 71 #[.slice p0.a p0.l p0.c,.slice p1.a p1.l p1.c] w R:=lwC zab Tryz.func71 h
def yF:Ann:=Z19
def yE(p0:Sl)(p1:Sl)(R:VWP)(w:World):Prop:=ifB ((p0.l:Int) !=(p1.l:Int)) (R (.bool false) w) (zk (S:=Int×Unit) (λs1 w1 n2=>ifB (decide (s1.1<(p0.l:Int))) ((0<=s1.1/\s1.1<(p0.l:Int))/\zc p0.a λa3=>ds w1.drew (a3.add (s1.1.toNat *3)) λx4 x5 x6=>(0<=s1.1/\s1.1<(p1.l:Int))/\zc p1.a λa7=>ds w1.drew (a7.add (s1.1.toNat *3)) λx8 x9 x10=>ifB (!(x4==x8&&(x5==x9&&(x6==x10&&true)))) (R (.bool false) w1.drew) (n2 ((IntKind.i64.wrap (s1.1+(1:Int))),()) w1.drew)) (R (.bool true) w1)) (0,()) w)
theorem ZK(p0)(p1)(R)(w)(h:yE p0 p1 R w):cC 72 #[.slice p0.a p0.l p0.c,.slice p1.a p1.l p1.c] w R:=lwC yF Tryz.func72 h
end Go.Proofs
namespace Go.Gk
open Go
def zes(l:Nat):Code->Bool
 | .label l'=>Nat.beq l' l
 |_=>false
def zfN(l:Nat):Code->Option Code
 | .seq a b=>match zes l a with
  |true=>some b
  |false=>match findLabel a l with
   |none=>zfN l b
   |some _=>none
 |_=>none
theorem zjj{l:Nat}{a:Code}(h:zes l a=true):a =.label l:=by
 cases a<;>simp only[zes]at h<;>first |cases h |skip
 rename_i l'
 have:=Nat.eq_of_beq_eq_true h
 rw[this]
theorem zkE{l:Nat}:∀{c B:Code},zfN l c=some B->findLabel c l=some (.seq .skip B)
 | .seq a b,B,h=>by
  simp only[zfN]at h
  split at h
  ·rename_i hl
   cases h
   rw[zjj hl]
   simp[findLabel]
  ·split at h
   ·rename_i hf
    simp only[findLabel,hf]
    exact zkE h
   ·cases h
 | .skip,_,h | .label _,_,h | .ret,_,h | .exit _,_,h | .goto _,_,h=>by cases h
 | .region ..,_,h | .cond ..,_,h | .block ..,_,h | .loop ..,_,h | .scope ..,_,h=>by cases h
 | .rangeFunc ..,_,h=>by cases h
def ztC(l:Nat)(next:Env->World->Prop)(K:Exit->Env->World->Prop):Exit->Env->World->Prop
 | .goto l',e,w=>match Nat.beq l' l with
  |true=>next e w
  |false=>False
 |x,e,w=>K x e w
def lwA(P:Program)(fs:List Nat)(l:Nat):Code->Ann->Env->World->(Exit->Env->World->Prop)->Prop
 | .seq a b,.seq none aa ab,e,w,K=>match zes l a with
  |true=>False
  |false=>lw P fs a aa e w (seqK (λe w=>lwA P fs l b ab e w K) K)
 | .seq a b,.seq (some j) aa ab,e,w,K=>match zes l a with
  |true=>False
  |false=>match zfG j.keep (wr a) with
   |true=>zl (λM=>lw P fs a aa e w (seqK (λe w=>match zfb j.sg e with |some s=>M s w |none=>False) K))
     (λs w=>lwA P fs l b ab (zah j.sg s (zcg j.keep e)) w K)
   |false=>False
 | .seq a b,.loop j ab,e,w,K=>match zes l a with
  |true=>match zfG j.keep (wr b) with
   |true=>match zfb j.sg e with
    |some s=>zk (λs w next=>lw P fs b ab (zah j.sg s (zcg j.keep e)) w (ztC l (λe w=>match zfb j.sg e with |some s=>next s w |none=>False) K)) s w
    |none=>False
   |false=>False
  |false=>False
 |_,_,_,_,_=>False
def zsp(P:Program)(fs:List Nat)(l:Nat)(fn:Func)(an:Ann)(args:List Value)(w:World)(R:VWP):Prop:=
 match fn.body with
 |some (.seq r (.scope c))=>match an with
  | .seq none ar (.one ac)=>match zfN l c with
   |some _=>lw P fs r ar (zhX args 0) w (seqK (λe w=>lwA P fs l c ac e w (zlT (retK P fn.results.toList R))) (zlT (retK P fn.results.toList R)))
   |none=>False
  |_=>False
 |_=>False
section
variable {P:Program}
def JB(P:Program)(l:Nat)(B:Code)(Q:Exit->Act->World->Prop):Nat->Act->World->Prop
 | 0,_,_=>False
 |n+1,a,w=>(Code.seq .skip B).wp P (Exit.jump l (JB P l B Q n) Q) a w
theorem zuj{p:Nat->Prop}:∀n,p n->∃n,p n/\∀m,p m->n<=m:=by
 intro n
 induction n using Nat.strongRecOn with
 |_ n ih=>
  intro h
  by_cases hm:∃m,m<n/\p m
  ·obtain⟨m,h1,h2⟩:=hm
   exact ih m h1 h2
  ·exact⟨n,h,λm hp=>Nat.le_of_not_lt λhlt=>hm ⟨m,hlt,hp⟩⟩
theorem zrc{l:Nat}{J J':Act->World->Prop}{Q Q':Exit->Act->World->Prop}(hJ:∀a w,J a w->J' a w)(hQ:∀x a w,Q x a w->Q' x a w):∀x a w,Exit.jump l J Q x a w->Exit.jump l J' Q' x a w:=by
 intro x a w h
 cases x with
 |goto l'=>exact⟨h.1,hJ _ _ h.2⟩
 |_=>exact hQ _ _ _ h
theorem zpu{c B:Code}{l:Nat}{Q:Exit->Act->World->Prop}{a:Act}{w:World}(hf:findLabel c l=some (.seq .skip B))
  (first:c.wp P (Exit.jump l (λa w=>∃n,JB P l B Q n a w) Q) a w):(Code.scope c).wp P Q a w:=by
 have hl:∀(a:Act) (w:World),(∃n,JB P l B Q n a w)->∃n,JB P l B Q n a w/\∀m,JB P l B Q m a w->n<=m:=λa w ⟨n,h⟩=>zuj n h
 classical
 refine wp_scope_jumps l (λa w=>∃n,JB P l B Q n a w) (λa w=>if h:∃n,JB P l B Q n a w then Classical.choose (hl a w h) else 0) hf first ?_
 intro a w hJ
 have hs:=Classical.choose_spec (hl a w hJ)
 simp only[dif_pos hJ]
 generalize Classical.choose (hl a w hJ)=n at hs
 cases n with
 |zero=>exact hs.1.elim
 |succ k=>
  refine Code.wp_mono (zrc ?_ λ_ _ _ h=>h) hs.1
  intro a' w' h'
  have hJ':∃n,JB P l B Q n a' w':=⟨k,h'⟩
  refine⟨hJ',?_⟩
  rw[dif_pos hJ']
  have:=(Classical.choose_spec (hl a' w' hJ')).2 k h'
  omega
theorem zqA{fs:List Nat}(hfs:zaG P fs)(hm:P.follows .mixedOrders=true){n:Nat}{c:Code}{an:Ann}{e:Env}{w:World}{K:Exit->Env->World->Prop}{a:Act}
  (hd:∀d,d∈wr c->d<n) (hr:Rep [] n a e) (h:lw P fs c an e w K):c.wp P (CQ [] n (wr c) a K) a w:=
 (wpIn_wide (n:=0)).1 (Code.wpIn_mono (F:=Wf none) (λ_ _ _ h=>h) (zfq (ro:=none) hfs hm c an e w K a hd hr h))
theorem zrm{fs:List Nat}(hfs:zaG P fs)(hm:P.follows .mixedOrders=true){n l:Nat}{ws:List Nat}{a0:Act}{K:Exit->Env->World->Prop}{B:Code}(hK:∀l e w,¬K (.goto l) e w) :
  ∀(c:Code) (an:Ann) (e:Env) (w:World) (a:Act),zfN l c=some B->(∀d,d∈wr c->d<n)->(∀d,d∈wr c->d∈ws)->Rep [] n a e->Same ws a0 a->lwA P fs l c an e w K->
   c.wp P (Exit.jump l (λa w=>∃k,JB P l B (CQ [] n ws a0 K) k a w) (CQ [] n ws a0 K)) a w:=by
 intro c
 induction c with
 |seq x y ihx ihy=>
  intro an e w a hB hd hw hr hs h
  have hdx:∀d,d∈wr x->d<n:=λd hh=>hd d (List.mem_append_left _ hh)
  have hdy:∀d,d∈wr y->d<n:=λd hh=>hd d (List.mem_append_right _ hh)
  have hwx:∀d,d∈wr x->d∈ws:=λd hh=>hw d (List.mem_append_left _ hh)
  have hwy:∀d,d∈wr y->d∈ws:=λd hh=>hw d (List.mem_append_right _ hh)
  cases an with
  |seq j aa ab=>
   have hnl:zes l x=false->zfN l y=some B:=by
    intro hx
    simp only[zfN,hx]at hB
    split at hB
    ·exact hB
    ·cases hB
   have hB':zfN l y=some B:=by
    refine hnl ?_
    cases hx:zes l x with
    |false=>rfl
    |true=>
     exfalso
     cases j<;>simp only[lwA,hx]at h
   cases j with
   |none=>
    simp only[lwA]at h
    split at h
    ·exact h.elim
    refine wp_seq (Code.wp_mono ?_ (zqA hfs hm hdx hr h))
    rintro z a' w' ⟨e',hr',hs',h'⟩
    have hs2:=hs.trans (hs'.mono hwx)
    cases z with
    |normal=>exact ihy ab e' w' a' hB' hdy hwy hr' hs2 h'
    |goto l'=>exact(hK _ _ _ h').elim
    |_=>exact⟨e',hr',hs2,h'⟩
   |some j=>
    simp only[lwA]at h
    split at h
    ·exact h.elim
    split at h
    ·rename_i hk
     obtain⟨M,h1,h2⟩:=h
     refine wp_seq (Code.wp_mono ?_ (zqA hfs hm hdx hr h1))
     rintro z a' w' ⟨e',hr',hs',h'⟩
     have hs2:=hs.trans (hs'.mono hwx)
     cases z with
     |normal=>
      simp only[seqK]at h'
      split at h'
      ·rename_i s hg
       exact ihy ab _ w' a' hB' hdy hwy (Zg hr' hg (hr.keep hs' hr'.1 hr'.2.1 hk)) hs2 (h2 s w' h')
      ·exact h'.elim
     |goto l'=>exact(hK _ _ _ h').elim
     |_=>exact⟨e',hr',hs2,h'⟩
    ·exact h.elim
  |loop j ab=>
   simp only[lwA]at h
   split at h
   ·rename_i hx
    have hB':y=B:=by
     simp only[zfN,hx]at hB
     exact Option.some.inj hB
    subst hB'
    split at h
    ·rename_i hk
     split at h
     ·rename_i s hg
      obtain⟨I,μ,h0,hround⟩:=h
      rw[zjj hx]
      have pass:∀(J:Act->World->Prop) s w' a',I s w'->Rep [] n a' (zah j.sg s (zcg j.keep e))->Same ws a0 a'->Same (wr y) a a'->
        (∀s2 w2 a2,I s2 w2->μ s2 w2<μ s w'->Rep [] n a2 (zah j.sg s2 (zcg j.keep e))->Same ws a0 a2->Same (wr y) a a2->J a2 w2)->y.wp P (Exit.jump l J (CQ [] n ws a0 K)) a' w':=by
       intro J s w' a' hI hr' hs' hsy hJ
       refine Code.wp_mono ?_ (zqA hfs hm hdy hr' (hround s w' hI))
       rintro z a2 w2 ⟨e2,hr2,hs2,h2⟩
       have hs3:=hs'.trans (hs2.mono hwy)
       cases z with
       |goto l'=>
        simp only[ztC]at h2
        split at h2
        ·rename_i hl
         split at h2
         ·rename_i s2 hg2
          exact⟨Nat.eq_of_beq_eq_true hl,hJ s2 w2 a2 h2.1 h2.2 (Zg hr2 hg2 (hr.keep (hsy.trans hs2) hr2.1 hr2.2.1 hk)) hs3 (hsy.trans hs2)⟩
         ·exact h2.elim
        ·exact h2.elim
       |_=>exact⟨e2,hr2,hs3,h2⟩
      have key:∀k s w' a',μ s w'<k->I s w'->Rep [] n a' (zah j.sg s (zcg j.keep e))->Same ws a0 a'->Same (wr y) a a'->JB P l y (CQ [] n ws a0 K) k a' w':=by
       intro k
       induction k with
       |zero=>intro s w' a' hlt;omega
       |succ k ih=>
        intro s w' a' hlt hI hr' hs' hsy
        refine wp_seq (wp_skip ?_)
        exact pass _ s w' a' hI hr' hs' hsy λs2 w2 a2 i1 i2 i3 i4 i5=>ih s2 w2 a2 (by omega) i1 i3 i4 i5
      refine wp_seq (wp_label ?_)
      exact pass _ s w a h0 (Zg hr hg (hr.keep (Same.refl _ _) hr.1 hr.2.1 hk)) hs (Same.refl _ _) λs2 w2 a2 i1 i2 i3 i4 i5=>⟨_,key (μ s2 w2+1) s2 w2 a2 (by omega) i1 i3 i4 i5⟩
     ·exact h.elim
    ·exact h.elim
   ·exact h.elim
  |_=>exact h.elim
 |_=>intro an e w a hB;cases hB
theorem zrn{l:Nat}{fs:List Nat}(hfs:zaG P fs)(hm:P.follows .mixedOrders=true){f:Nat}{fn:Func}{an:Ann}{args:List Value}{w:World}{R:VWP}
  (hf:P.funcs[f]? =some fn) (hn:(match fn.body with |some c=>znu fn.ntmps c |none=>false)=true) (hz:Nat.ble args.length fn.ntmps=true) (h:zsp P fs l fn an args w R) :
  Calls P f args.toArray w (Ret R):=by
 unfold zsp at h
 split at h
 ·rename_i r c hb
  split at h
  ·rename_i ar ac
   split at h
   ·rename_i B hB
    rw[hb]at hn
    simp only at hn
    have hz':=Nat.le_of_ble_eq_true hz
    have hdst:∀d,d∈wr (.seq r (.scope c))->d<fn.ntmps:=λd hd=>by simp only[znu,List.all_eq_true]at hn;exact Nat.le_of_ble_eq_true (hn d hd)
    refine calls_of_wp hf hb ?_
    have hr:Rep [] fn.ntmps {tmps:=args.toArray++Array.replicate (fn.ntmps-args.toArray.size) undef,defers:=[]} (zhX args 0):=by
     refine⟨by simp;omega,rfl,λt v ht=>?_⟩
     obtain⟨_,h2⟩:=zfy _ _ _ _ ht
     rw[Nat.sub_zero]at h2
     have hlt:t<args.length:=by
      rcases Nat.lt_or_ge t args.length with h |h
      ·exact h
      ·rw[List.getElem?_eq_none h]at h2;cases h2
     have:args[t]=v:=by rw[List.getElem?_eq_getElem hlt]at h2;exact Option.some.inj h2
     have hlt2:t<args.length+(fn.ntmps-args.length):=by omega
     simp[hlt,hlt2,this]
    have fin:∀x a w' e',Rep [] fn.ntmps a e'->zlT (retK P fn.results.toList R) x e' w'->retK P fn.results.toList R x e' w':=by
     intro x a w' e' _ h
     cases x with
     |goto=>exact h.elim
     |_=>exact h
    refine wp_seq (Code.wp_mono ?_ (zqA hfs hm (λd hd=>hdst d (List.mem_append_left _ hd)) hr h))
    rintro x a w' ⟨e',hr',_,h'⟩
    cases x with
    |normal=>
     refine Code.wp_mono ?_ (zpu (zkE hB) (zrm hfs hm (ws:=wr c) (a0:=a) (K:=zlT (retK P fn.results.toList R)) (λ_ _ _ h=>h) c ac e' w' a hB (λd hd=>hdst d (List.mem_append_right _ hd)) (λ_ hd=>hd) hr' (Same.refl _ _) h'))
     rintro x a w' ⟨e',hr',_,h'⟩
     have h':=fin _ _ _ _ hr' h'
     cases x with
     |normal=>exact⟨hr'.2.1,zaj hr' h'⟩
     |ret=>exact⟨hr'.2.1,zaj hr' h'⟩
     |_=>exact h'.elim
    |ret=>exact⟨hr'.2.1,zaj hr' h'⟩
    |_=>exact h'.elim
   ·exact h.elim
  ·exact h.elim
 ·exact h.elim
end
end Go.Gk
namespace Go.Proofs
open Go.Gk
set_option linter.unusedVariables false
set_option maxRecDepth 100000
def ziR:Ann:=(.q Z1N)
def ziG(p0:(Int×Int×Sl×Unit))(R:VWP)(w:World):Prop:=Nw (w.alloc (.cells #[zu p0.1,zu p0.2.1,p0.2.2.1.zw] 25)) λw1=>Nw (w1.alloc (.cells #[zi 0,zi 0] 29)) λw2=>da w2 (zB w) λx1 x2 x3=>dE 31 #[.agg #[zu x1,zu x2,x3.zw]] w2 λx5 x6 w3=>de w3 #[zi 0,zi 0] 29 (zi x6.1) (zi x6.2.1) λw6=>ifB (Option.isNone x5) (db w6.drew (zB w3) λx7 x8=>df w6.drew (zB w1) (zi x7) (zi x8) λw8=>db w8 (zB w1) λx9 x10=>R (.tuple #[.slice none 0 0,.agg #[zi x9,zi x10]]) w8) (zc x5 λa11=>ldS w6.drew (a11.add 22) λx12=>db w6.drew (zB w3) λx13 x14=>df w6.drew (zB w1) (zi x13) (zi x14) λw10=>db w10 (zB w1) λx15 x16=>R (.tuple #[x12.zw,.agg #[zi x15,zi x16]]) w10)
theorem zjY(p0)(R)(w)(h:ziG p0 R w):cC 13 #[.agg #[.int .u32 p0.1,.int .u32 p0.2.1,.slice p0.2.2.1.a p0.2.2.1.l p0.2.2.1.c]] w R:=lwC ziR Tryz.func13 h
def zhW:Ann:=(.q (.seq none Z1E (.q (.seq none Z1T Z11))))
def zhN(p0:(Int×Int×Sl×Unit))(R:VWP)(w:World):Prop:=Nw (w.alloc (.cells #[zu p0.1,zu p0.2.1,p0.2.2.1.zw] 25)) λw1=>Nw (w1.alloc (.cells #[zi 0,zi 0] 29)) λw2=>da w2 (zB w) λx1 x2 x3=>dh 43 #[.agg #[zu x1,zu x2,x3.zw]] w2 λx5 w3=>de w3 #[zi 0,zi 0] 29 (zi x5.1) (zi x5.2.1) λw6=>ldI w6 (zB w3) .i64 λx6=>ifB (x6 !=0) (db w6.drew (zB w3) λx7 x8=>df w6.drew (zB w1) (zi x7) (zi x8) λw8=>db w8 (zB w1) λx9 x10=>R (.tuple #[.pointer none,.agg #[zi x9,zi x10]]) w8) (ldS w6 ((zB w).add 2) λx11=>Nw (w6.alloc (.cells (List.toArray ([(x11.zw)]++List.replicate 21 (zi 0)++[(.slice none 0 0)])) 100)) λw9=>dz 66 #[.pointer (some (zB w6))] w9 λx13 w10=>ifB x13 (df w10 (zB w1) (zi 0) (zi 0) λw12=>db w12 (zB w1) λx14 x15=>R (.tuple #[.pointer (some (zB w6)),.agg #[zi x14,zi x15]]) w12) (ldI w10.drew ((zB w6).add 1) .i64 λx16=>ldS w10.drew ((zB w).add 2) λx17=>ifB (decide (x16<(x17.l:Int))) (ldI w10.drew.drew ((zB w6).add 1) .i64 λx18=>df w10.drew.drew (zB w1) (zi 50) (zi x18) λw14=>db w14 (zB w1) λx19 x20=>R (.tuple #[.pointer none,.agg #[zi x19,zi x20]]) w14) (ldI w10.drew.drew ((zB w6).add 1) .i64 λx21=>df w10.drew.drew (zB w1) (zi 51) (zi x21) λw16=>db w16 (zB w1) λx22 x23=>R (.tuple #[.pointer none,.agg #[zi x22,zi x23]]) w16)))
theorem zjp(p0)(R)(w)(h:zhN p0 R w):cC 31 #[.agg #[.int .u32 p0.1,.int .u32 p0.2.1,.slice p0.2.2.1.a p0.2.2.1.l p0.2.2.1.c]] w R:=lwC zhW Tryz.func31 h
def zcG:Ann:=(.q (.one (.seq none Z10 (.q (.q (.loop ⟨[0],[]⟩ (.seq none Z10 (.seq none Z10 (.q (.q (.q (.q (.seq none (.one (.loop ⟨[0,3],[]⟩ (.seq none Z13 (.one Z1W)))) (.seq (some ⟨[0,3],[]⟩) Z10 Z1J))))))))))))))
def zc4(p0:Option Addr)(R:VWP)(w:World):Prop:=dz 103 #[.pointer p0] w λx2 w1=>ifB (!x2) (R (.bool false) w1) (zc p0 λa3=>ldI w1.drew (a3.add 1) .i64 λx4=>zc p0 λa5=>ldS w1.drew a5 λx6=>zc p0 λa7=>(0<=(8:Int)/\(8:Int)<10)/\Wr w1.drew ((a7.add 2).add (8*2))/\Nw (w1.drew.setCell ((a7.add 2).add (8*2)) (zi x4)) λw2=>Wr w2 (((a7.add 2).add (8*2)).add 1)/\Nw (w2.setCell (((a7.add 2).add (8*2)).add 1) (zi (x6.l:Int))) λw3=>zc p0 λa8=>ldS w3.drew a8 λx9=>zc p0 λa10=>ldS w3.drew a10 λx11=>zc p0 λa12=>(0<=(9:Int)/\(9:Int)<10)/\Wr w3.drew ((a12.add 2).add (9*2))/\Nw (w3.drew.setCell ((a12.add 2).add (9*2)) (zi (x9.l:Int))) λw4=>Wr w4 (((a12.add 2).add (9*2)).add 1)/\Nw (w4.setCell (((a12.add 2).add (9*2)).add 1) (zi (x11.l:Int))) λw5=>zk (S:=Unit) (λs13 w6 n14=>dl 104 #[.pointer p0] w6 λx16 w7=>ifB (decide (x16<(0:Int))) (R (.bool true) w7) (dl 104 #[.pointer p0] w7 λx18 w8=>ifB (x18 !=1) (R (.bool false) w8) (zc p0 λa19=>ldS w8.drew a19 λx20=>zc p0 λa21=>ldI w8.drew (a21.add 1) .i64 λx22=>(0<=x22/\x22<(x20.l:Int))/\zc x20.a λa23=>ldI w8.drew ((a23.add (x22.toNat *4)).add 2) .u32 λx24=>zc p0 λa25=>ldI w8.drew (a25.add 1) .i64 λx26=>Nw (w8.drew.alloc (.cells #[zu 0,zi 0,.slice none 0 0,.slice none 0 0,zi 0] 46)) λw9=>w9.cell? (a25.add 1)=some (zi x26)/\w9.cell? ((a23.add (x22.toNat *4)).add 2)=some (zu x24)/\w9.cell? (a21.add 1)=some (zi x22)/\w9.cell? a19=some (x20.zw)/\dF w9 (blk w8.drew.heap.size) (zu x24) (zi x26) (.slice none 0 0) (.slice none 0 0) (zi 0) λw14=>zc p0 λa27=>ldI w14 (a27.add 1) .i64 λx28=>zc p0 λa29=>Wr w14 (a29.add 1)/\Nw (w14.setCell (a29.add 1) (zi (IntKind.i64.wrap (x28+(1:Int))))) λw15=>dk 105 #[.pointer p0,zi 2] w15 λx31 w16=>Wr w16 ((blk w8.drew.heap.size).add 2)/\Nw (w16.setCell ((blk w8.drew.heap.size).add 2) (x31.zw)) λw17=>zk (S:=Unit) (λs32 w18 n33=>dl 104 #[.pointer p0] w18 λx35 w19=>ifB (x35==3) (dz 106 #[.pointer p0,.pointer (some (blk w8.drew.heap.size))] w19 λx37 w20=>ifB (!x37) (R (.bool false) w20) (n33 () w20)) (zl (S:=Unit) (λm38=>ldS w19 ((blk w8.drew.heap.size).add 3) λx40=>ifB ((x40.l:Int)==0) (R (.bool false) w19) (dl 104 #[.pointer p0] w19 λx42 w21=>ifB (x42 !=8) (R (.bool false) w21) (m38 () w21))) (λs39 w22=>zc p0 λa43=>ldI w22 (a43.add 1) .i64 λx44=>Wr w22 ((blk w8.drew.heap.size).add 4)/\Nw (w22.setCell ((blk w8.drew.heap.size).add 4) (zi x44)) λw23=>zc p0 λa45=>ldI w23 (a45.add 1) .i64 λx46=>zc p0 λa47=>Wr w23 (a47.add 1)/\Nw (w23.setCell (a47.add 1) (zi (IntKind.i64.wrap (x46+(1:Int))))) λw24=>zc p0 λa48=>ldS w24.drew (a48.add 22) λx49=>dc w24.drew (blk w8.drew.heap.size) λx50 x51 x52 x53 x54=>Nw (w24.drew.alloc (.cells #[zu x50,zi x51,x52.zw,x53.zw,zi x54] 46)) λw25=>w25.cell? (a48.add 22)=some (x49.zw)/\zp Tryz.prog 38 (x49.zw) (.slice (some (blk w24.drew.heap.size)) 1 1) w25 λr55 w26=>zc p0 λa56=>Wr w26 (a56.add 22)/\Nw (w26.setCell (a56.add 22) (r55.zw)) λw27=>n14 () w27))) () w17))) () w5)
theorem zfk(p0:Option Addr)(R:VWP)(w:World)(h:zc4 p0 R w):Calls Tryz.prog 66 #[.pointer p0] w (Ret R):=zrn (l:=0) (fs:=Tryz.fs) (an:=zcG) (args:=[(.pointer p0)]) Tryz.fsOK Tryz.mixed Tryz.func66 (by kernel_rfl) (by kernel_rfl) (Eq.mpr (by kernel_rfl:zsp Tryz.prog Tryz.fs 0 Tryz.f66 zcG [(.pointer p0)] w R=zc4 p0 R w) h)
def zgJ:Ann:=(.q Z1N)
def zgE(p0:(Int×Int×Sl×Unit))(R:VWP)(w:World):Prop:=Nw (w.alloc (.cells #[zu p0.1,zu p0.2.1,p0.2.2.1.zw] 25)) λw1=>Nw (w1.alloc (.cells (List.toArray (List.replicate 20 (zi 0))) 98)) λw2=>Nw (w2.alloc (.cells #[zi 0,zi 0] 29)) λw3=>da w3 (zB w) λx1 x2 x3=>dE 31 #[.agg #[zu x1,zu x2,x3.zw]] w3 λx5 x6 w4=>de w4 #[zi 0,zi 0] 29 (zi x6.1) (zi x6.2.1) λw7=>ifB (Option.isNone x5) (db w7.drew (zB w4) λx7 x8=>dH w7.drew (zB w1) (zi 0) (zi 0) (zi 0) (zi 0) (zi 0) (zi 0) (zi 0) (zi 0) (zi 0) (zi 0) (zi 0) (zi 0) (zi 0) (zi 0) (zi 0) (zi 0) (zi 0) (zi 0) (zi 0) (zi 0) λw27=>w27.cell? ((zB w4).add 0)=some (zi x7)/\w27.cell? ((zB w4).add 1)=some (zi x8)/\df w27 (zB w2) (zi x7) (zi x8) λw29=>dG w29 (zB w1) λx9 x10 x11 x12 x13 x14 x15 x16 x17 x18 x19 x20 x21 x22 x23 x24 x25 x26 x27 x28=>db w29 (zB w2) λx29 x30=>R (.tuple #[.agg #[zi x9,zi x10,zi x11,zi x12,zi x13,zi x14,zi x15,zi x16,zi x17,zi x18,zi x19,zi x20,zi x21,zi x22,zi x23,zi x24,zi x25,zi x26,zi x27,zi x28],.agg #[zi x29,zi x30]]) w29) (zc x5 λa31=>dG w7.drew (a31.add 2) λx32 x33 x34 x35 x36 x37 x38 x39 x40 x41 x42 x43 x44 x45 x46 x47 x48 x49 x50 x51=>db w7.drew (zB w4) λx52 x53=>dH w7.drew (zB w1) (zi x32) (zi x33) (zi x34) (zi x35) (zi x36) (zi x37) (zi x38) (zi x39) (zi x40) (zi x41) (zi x42) (zi x43) (zi x44) (zi x45) (zi x46) (zi x47) (zi x48) (zi x49) (zi x50) (zi x51) λw49=>w49.cell? ((zB w4).add 0)=some (zi x52)/\w49.cell? ((zB w4).add 1)=some (zi x53)/\df w49 (zB w2) (zi x52) (zi x53) λw51=>dG w51 (zB w1) λx54 x55 x56 x57 x58 x59 x60 x61 x62 x63 x64 x65 x66 x67 x68 x69 x70 x71 x72 x73=>db w51 (zB w2) λx74 x75=>R (.tuple #[.agg #[zi x54,zi x55,zi x56,zi x57,zi x58,zi x59,zi x60,zi x61,zi x62,zi x63,zi x64,zi x65,zi x66,zi x67,zi x68,zi x69,zi x70,zi x71,zi x72,zi x73],.agg #[zi x74,zi x75]]) w51)
theorem ziy(p0)(R)(w)(h:zgE p0 R w):cC 67 #[.agg #[.int .u32 p0.1,.int .u32 p0.2.1,.slice p0.2.2.1.a p0.2.2.1.l p0.2.2.1.c]] w R:=lwC zgJ Tryz.func67 h
def zbe:Ann:=(.q (.q (.seq none Z10 (.q (.q (.seq none (.q (.one (.loop ⟨[2,4],[(5,(.b (.int .i64))),(6,(.b (.int .i64)))]⟩ (.seq none Z13 (.seq (some ⟨[2,4,6],[(5,(.b (.int .i64)))]⟩) (.one (.seq none Z10 Z13)) .nil))))) (.seq (some ⟨[2],[]⟩) Z10 Z11)))))))
def zaN(p0:(Int×Int×Sl×Unit))(R:VWP)(w:World):Prop:=Nw (w.alloc (.cells #[zu p0.1,zu p0.2.1,p0.2.2.1.zw] 25)) λw1=>Nw (w1.alloc (.cells #[zi 0,zi 0] 29)) λw2=>da w2 (zB w) λx1 x2 x3=>dh 115 #[.agg #[zu x1,zu x2,x3.zw]] w2 λx5 w3=>de w3 #[zi 0,zi 0] 29 (zi x5.1) (zi x5.2.1) λw6=>ldI w6 (zB w3) .i64 λx6=>ifB (x6 !=0) (db w6 (zB w3) λx7 x8=>df w6 (zB w1) (zi x7) (zi x8) λw8=>db w8 (zB w1) λx9 x10=>R (.agg #[zi x9,zi x10]) w8) (ldS w6 ((zB w).add 2) λx11=>zk (S:=Int×Int×Unit) (λs12 w9 n13=>ifB (decide (s12.2.1<(x11.l:Int))) (zl (S:=Int×Unit) (λm14=>dz 116 #[x11.zw,zi s12.2.1] w9 λx17 w10=>ifB (!x17) (df w10 (zB w1) (zi 50) (zi s12.2.1) λw12=>db w12 (zB w1) λx18 x19=>R (.agg #[zi x18,zi x19]) w12) ((0<=s12.2.1/\s12.2.1<(x11.l:Int))/\zc x11.a λa20=>dm w10 (a20.add (s12.2.1.toNat *4)) λx21 x22 x23 x24=>dl 117 #[.agg #[zh x21,zu x22,zu x23,x24.zw]] w10 λx26 w13=>ifB (x26==1) (m14 ((IntKind.i64.wrap (s12.1+(1:Int))),()) w13) (m14 (s12.1,()) w13))) (λs15 w14=>n13 (s15.1,(IntKind.i64.wrap (s12.2.1+(1:Int))),()) w14)) (zl (S:=Unit) (λm27=>ifB (s12.1==0) (df w9 (zB w1) (zi 51) (zi (x11.l:Int)) λw16=>db w16 (zB w1) λx29 x30=>R (.agg #[zi x29,zi x30]) w16) ((0<=(IntKind.i64.wrap ((x11.l:Int)-1))/\(IntKind.i64.wrap ((x11.l:Int)-1))<(x11.l:Int))/\zc x11.a λa31=>dm w9 (a31.add ((Int.toNat (IntKind.i64.wrap ((x11.l:Int)-1)))*4)) λx32 x33 x34 x35=>dl 117 #[.agg #[zh x32,zu x33,zu x34,x35.zw]] w9 λx37 w17=>ifB (x37==8) ((0<=(IntKind.i64.wrap ((x11.l:Int)-1))/\(IntKind.i64.wrap ((x11.l:Int)-1))<(x11.l:Int))/\zc x11.a λa38=>ldI w17 (a38.add ((Int.toNat (IntKind.i64.wrap ((x11.l:Int)-1)))*4)) .u16 λx39=>ifB (x39 !=56) (df w17 (zB w1) (zi 51) (zi (x11.l:Int)) λw19=>db w19 (zB w1) λx40 x41=>R (.agg #[zi x40,zi x41]) w19) (m27 () w17)) (m27 () w17))) (λs28 w20=>df w20 (zB w1) (zi 0) (zi 0) λw22=>db w22 (zB w1) λx42 x43=>R (.agg #[zi x42,zi x43]) w22))) (0,0,()) w6)
theorem zdK(p0)(R)(w)(h:zaN p0 R w):cC 79 #[.agg #[.int .u32 p0.1,.int .u32 p0.2.1,.slice p0.2.2.1.a p0.2.2.1.l p0.2.2.1.c]] w R:=lwC zbe Tryz.func79 h
def zbV:Ann:=Z16
def zbG(p0:Int)(R:VWP)(w:World):Prop:=ifB (p0==249) (R (.bool true) w) (ifB (p0==250) (R (.bool true) w) (ifB (p0==251) (R (.bool true) w) (ifB (p0==252) (R (.bool true) w) (ifB (p0==253) (R (.bool true) w) (ifB (p0==254) (R (.bool true) w) (R (.bool (p0==255)) w))))))
theorem ze9(p0)(R)(w)(h:zbG p0 R w):cC 81 #[.int .u16 p0] w R:=lwC zbV Tryz.func81 h
def zcI:Ann:=(.q (.seq none (.q (.one (.loop ⟨[0],[(5,(.b (.int .u8)))]⟩ (.q (.seq none .c (.seq (some ⟨[0,5],[]⟩) (.one (.q (.q (.seq (some ⟨[0,3,4,5],[]⟩) (.one (.loop ⟨[0,3,4,5],[]⟩ (.seq (some ⟨[0,3,4,5],[]⟩) Z13 Z1I))) Z1E)))) .nil)))))) Z11))
def zc6(p0:Option Addr)(R:VWP)(w:World):Prop:=zk (S:=Int×Unit) (λs1 w1 n2=>ifB (decide (s1.1<(8:Int))) (zl (S:=Unit) (λm3=>zc p0 λa5=>ldI w1 (a5.add 1) .i64 λx6=>zl (S:=Unit) (λm7=>zk (S:=Unit) (λs9 w2 n10=>zl (S:=Unit) (λm11=>dl 104 #[.pointer p0] w2.drew λx14 w3=>ifB (x14==9) (zc p0 λa15=>ldS w3 a15 λx16=>zc p0 λa17=>ldI w3 (a17.add 1) .i64 λx18=>(0<=x18/\x18<(x16.l:Int))/\zc x16.a λa19=>dm w3 (a19.add (x18.toNat *4)) λx20 x21 x22 x23=>dI 138 #[.agg #[zh x20,zu x21,zu x22,x23.zw]] w3 λx25 w4=>ifB (x25==s1.1) (m11 () w4) (m7 () w4)) (m7 () w3)) (λs12 w5=>zc p0 λa26=>ldI w5 (a26.add 1) .i64 λx27=>zc p0 λa28=>Wr w5 (a28.add 1)/\Nw (w5.setCell (a28.add 1) (zi (IntKind.i64.wrap (x27+(1:Int))))) λw6=>ifB (s1.1==1) (m7 () w6) (n10 () w6))) () w1) (λs8 w7=>zc p0 λa29=>ldI w7.drew (a29.add 1) .i64 λx30=>zc p0 λa31=>(0<=s1.1/\s1.1<(10:Int))/\Wr w7.drew ((a31.add 2).add (s1.1.toNat *2))/\Nw (w7.drew.setCell ((a31.add 2).add (s1.1.toNat *2)) (zi x6)) λw8=>Wr w8 (((a31.add 2).add (s1.1.toNat *2)).add 1)/\Nw (w8.setCell (((a31.add 2).add (s1.1.toNat *2)).add 1) (zi x30)) λw9=>ifB (s1.1==1) (zc p0 λa32=>ldI w9 (a32.add 1) .i64 λx33=>ifB (x33==x6) (R (.bool false) w9) (m3 () w9)) (m3 () w9))) (λs4 w10=>n2 ((IntKind.u8.wrap (s1.1+(1:Int))),()) w10)) (R (.bool true) w1)) (0,()) w
theorem zfm(p0)(R)(w)(h:zc6 p0 R w):cC 103 #[.pointer p0] w R:=lwC zcI Tryz.func103 h
def zbY:Ann:=Z1N
def zbJ(p0:Option Addr)(R:VWP)(w:World):Prop:=zc p0 λa1=>ldI w.drew (a1.add 1) .i64 λx2=>zc p0 λa3=>ldS w.drew a3 λx4=>ifB (x2==(x4.l:Int)) (R (zi (-1:Int)) w.drew) (zc p0 λa5=>ldS w.drew.drew a5 λx6=>zc p0 λa7=>ldI w.drew.drew (a7.add 1) .i64 λx8=>(0<=x8/\x8<(x6.l:Int))/\zc x6.a λa9=>dm w.drew.drew (a9.add (x8.toNat *4)) λx10 x11 x12 x13=>dl 139 #[.agg #[zh x10,zu x11,zu x12,x13.zw]] w.drew.drew λx15 w1=>R (zi x15) w1)
theorem zeC(p0)(R)(w)(h:zbJ p0 R w):cC 104 #[.pointer p0] w R:=lwC zbY Tryz.func104 h
def zcH:Ann:=(.q (.q (.seq none (.one (.loop ⟨[0,1],[(5,(.b .slice))]⟩ (.seq none Z13 Z1h))) Z11)))
def zc5(p0:Option Addr)(p1:Int)(R:VWP)(w:World):Prop:=zk (S:=Sl×Unit) (λs1 w1 n2=>dl 104 #[.pointer p0] w1 λx4 w2=>ifB (x4==p1) (zc p0 λa5=>ldI w2 (a5.add 1) .i64 λx6=>Nw (w2.alloc (.cells #[zi x6] 3)) λw3=>zp Tryz.prog 43 (s1.1.zw) (.slice (some (zB w2)) 1 1) w3 λr7 w4=>zc p0 λa8=>ldI w4 (a8.add 1) .i64 λx9=>zc p0 λa10=>Wr w4 (a10.add 1)/\Nw (w4.setCell (a10.add 1) (zi (IntKind.i64.wrap (x9+(1:Int))))) λw5=>n2 (r7,()) w5) (R (s1.1.zw) w2)) ((Sl.mk none 0 0),()) w
theorem zfl(p0)(p1)(R)(w)(h:zc5 p0 p1 R w):cC 105 #[.pointer p0,.int .i64 p1] w R:=lwC zcH Tryz.func105 h
def zbn:Ann:=(.q (.q (.q (.seq (some ⟨[0,1,5],[]⟩) Z13 (.q (.seq none (.q (.one (.seq (some ⟨[0,1,5],[]⟩) (.one (.seq none (.one (.seq none (.seq none Z13 Z13) .nil)) Z1E)) (.seq none Z1i .nil)))) Z11))))))
def zaW(p0:Option Addr)(p1:Option Addr)(R:VWP)(w:World):Prop:=zc p0 λa1=>ldS w.drew a1 λx2=>zc p0 λa3=>ldI w.drew (a3.add 1) .i64 λx4=>(0<=x4/\x4<(x2.l:Int))/\zc x2.a λa5=>ldI w.drew ((a5.add (x4.toNat *4)).add 2) .u32 λx6=>zc p0 λa7=>ldI w.drew (a7.add 1) .i64 λx8=>Nw (w.drew.alloc (.cells #[zu 0,zi 0,zi 0] 42)) λw1=>w1.cell? (a7.add 1)=some (zi x8)/\w1.cell? ((a5.add (x4.toNat *4)).add 2)=some (zu x6)/\w1.cell? (a3.add 1)=some (zi x4)/\w1.cell? a1=some (x2.zw)/\dx w1 (blk w.drew.heap.size) (zu x6) (zi x8) (zi 0) λw4=>zc p0 λa9=>ldI w4 (a9.add 1) .i64 λx10=>zc p0 λa11=>Wr w4 (a11.add 1)/\Nw (w4.setCell (a11.add 1) (zi (IntKind.i64.wrap (x10+(1:Int))))) λw5=>zl (S:=Unit) (λm12=>zc p1 λa14=>ldS w5 (a14.add 3) λx15=>ifB ((x15.l:Int)==0) (dk 105 #[.pointer p0,zi 5] w5 λx17 w6=>m12 () w6) (dk 105 #[.pointer p0,zi 4] w5 λx19 w7=>m12 () w7)) (λs13 w8=>dk 105 #[.pointer p0,zi 0] w8 λx21 w9=>dl 104 #[.pointer p0] w9 λx23 w10=>zl (S:=Unit) (λm24=>ifB (x23==6) (zc p0 λa26=>ldI w10 (a26.add 1) .i64 λx27=>zc p0 λa28=>Wr w10 (a28.add 1)/\Nw (w10.setCell (a28.add 1) (zi (IntKind.i64.wrap (x27+(1:Int))))) λw11=>dl 104 #[.pointer p0] w11.drew λx30 w12=>ifB (x30 !=7) (R (.bool false) w12) (zc p0 λa31=>ldS w12 a31 λx32=>zc p0 λa33=>ldI w12 (a33.add 1) .i64 λx34=>(0<=(IntKind.i64.wrap (x34-(1:Int)))/\(IntKind.i64.wrap (x34-(1:Int)))<(x32.l:Int))/\zc x32.a λa35=>ldI w12 (a35.add ((Int.toNat (IntKind.i64.wrap (x34-(1:Int))))*4)) .u16 λx36=>zc p0 λa37=>ldS w12 a37 λx38=>zc p0 λa39=>ldI w12 (a39.add 1) .i64 λx40=>(0<=x40/\x40<(x38.l:Int))/\zc x38.a λa41=>ldI w12 (a41.add (x40.toNat *4)) .u16 λx42=>dz 140 #[zh x36,zh x42] w12 λx44 w13=>ifB (!x44) (R (.bool false) w13) (m24 () w13))) (ifB (x23==7) (m24 () w10) (R (.bool false) w10))) (λs25 w14=>zc p0 λa45=>ldI w14 (a45.add 1) .i64 λx46=>zc p0 λa47=>Wr w14 (a47.add 1)/\Nw (w14.setCell (a47.add 1) (zi (IntKind.i64.wrap (x46+(1:Int))))) λw15=>zc p0 λa48=>ldI w15 (a48.add 1) .i64 λx49=>Wr w15 ((blk w.drew.heap.size).add 2)/\Nw (w15.setCell ((blk w.drew.heap.size).add 2) (zi x49)) λw16=>zc p1 λa50=>ldS w16.drew (a50.add 3) λx51=>ds w16.drew (blk w.drew.heap.size) λx52 x53 x54=>Nw (w16.drew.alloc (.cells #[zu x52,zi x53,zi x54] 42)) λw17=>w17.cell? (a50.add 3)=some (x51.zw)/\zp Tryz.prog 44 (x51.zw) (.slice (some (blk w16.drew.heap.size)) 1 1) w17 λr55 w18=>zc p1 λa56=>Wr w18 (a56.add 3)/\Nw (w18.setCell (a56.add 3) (r55.zw)) λw19=>R (.bool true) w19))
theorem zdS(p0)(p1)(R)(w)(h:zaW p0 p1 R w):cC 106 #[.pointer p0,.pointer p1] w R:=lwC zbn Tryz.func106 h
def zcE:Ann:=(.q (.q (.q (.seq none (.q (.one (.loop ⟨[0,1,5],[(6,(.b (.int .i64))),(7,(.b (.int .i64)))]⟩ (.seq none Z13 (.seq (some ⟨[0,1,5,7],[(6,(.b (.int .i64)))]⟩) (.one (.seq none Z10 Z13)) .nil))))) (.seq none Z10 (.seq (some ⟨[0,1,5],[]⟩) Z10 (.seq none Z10 (.q (.q (.seq (some ⟨[0,1,8],[(9,(.b (.int .u16)))]⟩) Z13 (.seq none Z10 (.seq none Z10 (.seq none Z10 (.seq none Z10 (.seq (some ⟨[0,1,8,9],[]⟩) Z10 (.seq none Z10 (.seq none Z10 Z1P)))))))))))))))))
def zc2(p0:Sl)(p1:Int)(R:VWP)(w:World):Prop:=(0<=p1/\p1<(p0.l:Int))/\zc p0.a λa1=>dm w (a1.add (p1.toNat *4)) λx2 x3 x4 x5=>dl 117 #[.agg #[zh x2,zu x3,zu x4,x5.zw]] w λx7 w1=>zk (S:=Int×Int×Unit) (λs8 w2 n9=>ifB (decide (s8.2.1<p1)) (zl (S:=Int×Unit) (λm10=>(0<=s8.2.1/\s8.2.1<(p0.l:Int))/\zc p0.a λa12=>dm w2 (a12.add (s8.2.1.toNat *4)) λx13 x14 x15 x16=>dl 117 #[.agg #[zh x13,zu x14,zu x15,x16.zw]] w2 λx18 w3=>ifB (decide (x18>x7)) (R (.bool false) w3) ((0<=s8.2.1/\s8.2.1<(p0.l:Int))/\zc p0.a λa19=>dm w3 (a19.add (s8.2.1.toNat *4)) λx20 x21 x22 x23=>dl 117 #[.agg #[zh x20,zu x21,zu x22,x23.zw]] w3 λx25 w4=>ifB (x25==1) (m10 ((IntKind.i64.wrap (s8.1+(1:Int))),()) w4) (m10 (s8.1,()) w4))) (λs11 w5=>n9 (s11.1,(IntKind.i64.wrap (s8.2.1+(1:Int))),()) w5)) (ifB (x7==1) (R (.bool (s8.1==0)) w2) (zl (S:=Unit) (λm26=>ifB (decide (x7>(1:Int))) (ifB (s8.1==0) (R (.bool false) w2) (m26 () w2)) (m26 () w2)) (λs27 w6=>ifB (decide (x7<(8:Int))) (R (.bool true) w6) ((0<=p1/\p1<(p0.l:Int))/\zc p0.a λa28=>ldI w6 (a28.add (p1.toNat *4)) .u16 λx29=>zl (S:=Int×Unit) (λm30=>ifB (decide (p1>(0:Int))) ((0<=(IntKind.i64.wrap (p1-(1:Int)))/\(IntKind.i64.wrap (p1-(1:Int)))<(p0.l:Int))/\zc p0.a λa32=>dm w6 (a32.add ((Int.toNat (IntKind.i64.wrap (p1-(1:Int))))*4)) λx33 x34 x35 x36=>dl 117 #[.agg #[zh x33,zu x34,zu x35,x36.zw]] w6 λx38 w7=>ifB (x38==8) ((0<=(IntKind.i64.wrap (p1-(1:Int)))/\(IntKind.i64.wrap (p1-(1:Int)))<(p0.l:Int))/\zc p0.a λa39=>ldI w7 (a39.add ((Int.toNat (IntKind.i64.wrap (p1-(1:Int))))*4)) .u16 λx40=>m30 (x40,()) w7) (m30 (0,()) w7)) (m30 (0,()) w6)) (λs31 w8=>ifB (x29==54) (ifB (s31.1==0) (R (.bool true) w8) (R (.bool (s31.1==56)) w8)) (ifB (x29==55) (ifB (s31.1==54) (R (.bool true) w8) (R (.bool (s31.1==55)) w8)) (ifB (x29==248) (ifB (s31.1==54) (R (.bool true) w8) (ifB (s31.1==55) (R (.bool true) w8) (dz 81 #[zh s31.1] w8 λx42 w9=>R (.bool x42) w9))) (ifB (x29==56) (dz 81 #[zh s31.1] w8 λx44 w10=>R (.bool x44) w10) (zl (S:=Unit) (λm45=>ifB (s31.1==0) (R (.bool false) w8) (ifB (s31.1==54) (R (.bool false) w8) (ifB (s31.1==55) (R (.bool false) w8) (ifB (s31.1==56) (R (.bool false) w8) (dz 81 #[zh s31.1] w8 λx48 w11=>ifB x48 (R (.bool false) w11) (m45 () w11)))))) (λs46 w12=>ifB (x29==245) (ifB (s31.1==248) (dz 154 #[p0.zw,zi (IntKind.i64.wrap (p1-(1:Int)))] w12 λx50 w13=>R (.bool (!x50)) w13) (ifB (s31.1==245) (dz 154 #[p0.zw,zi (IntKind.i64.wrap (p1-(1:Int)))] w12 λx52 w14=>R (.bool (!x52)) w14) (R (.bool false) w12))) (ifB (x29==59) (ifB (s31.1==248) (dz 154 #[p0.zw,zi (IntKind.i64.wrap (p1-(1:Int)))] w12 λx54 w15=>R (.bool x54) w15) (ifB (s31.1==59) (dz 154 #[p0.zw,zi (IntKind.i64.wrap (p1-(1:Int)))] w12 λx56 w16=>R (.bool x56) w16) (R (.bool false) w12))) (ifB (s31.1==246) (ifB (x29==249) (R (.bool true) w12) (R (.bool (x29==250)) w12)) (ifB (s31.1==247) (ifB (x29==250) (R (.bool true) w12) (R (.bool (x29==251)) w12)) (R (.bool true) w12))))))))))))))) (0,0,()) w1
theorem zfh(p0)(p1)(R)(w)(h:zc2 p0 p1 R w):cC 116 #[.slice p0.a p0.l p0.c,.int .i64 p1] w R:=lwC zcE Tryz.func116 h
def zbW:Ann:=(.q (.seq (some ⟨[1],[]⟩) Z10 Z16))
def zbH(p0:(Int×Int×Int×Sl×Unit))(R:VWP)(w:World):Prop:=Nw (w.alloc (.cells #[zh p0.1,zu p0.2.1,zu p0.2.2.1,p0.2.2.2.1.zw] 50)) λw1=>zl (S:=Unit) (λm1=>ldI w1 (zB w) .u16 λx3=>ifB (x3==59) (ldS w1 ((zB w).add 3) λx4=>ifB (decide ((x4.l:Int)>0)) (ldS w1 ((zB w).add 3) λx5=>(0<=(0:Int)/\0<(x5.l:Int))/\zc x5.a λa6=>ldI w1 ((a6.add (0*3)).add 1) .u32 λx7=>ifB (x7==7) (R (zi 8) w1) (m1 () w1)) (m1 () w1)) (m1 () w1)) (λs2 w2=>ldI w2 (zB w) .u16 λx8=>dK 152 #[zh x8] w2 λx10 x11 w3=>Nw (w3.alloc (.cells #[zh 0,.string (BM #[]),.bool false,.bool false,.string (BM #[]),.string (BM #[]),zi 0,zb 0] 187)) λw4=>dJ w4 (zB w3) (zh x10.1) (.string x10.2.1) (.bool x10.2.2.1) (.bool x10.2.2.2.1) (.string x10.2.2.2.2.1) (.string x10.2.2.2.2.2.1) (zi x10.2.2.2.2.2.2.1) (zb x10.2.2.2.2.2.2.2.1) λw12=>ldI w12 ((zB w3).add 7) .u8 λx12=>R (zi (IntKind.i64.wrap x12)) w12)
theorem zeA(p0)(R)(w)(h:zbH p0 R w):cC 117 #[.agg #[.int .u16 p0.1,.int .u32 p0.2.1,.int .u32 p0.2.2.1,.slice p0.2.2.2.1.a p0.2.2.2.1.l p0.2.2.2.1.c]] w R:=lwC zbW Tryz.func117 h
def zhV:Ann:=(.q (.seq none Z10 Z16))
def zhM(p0:(Int×Int×Int×Sl×Unit))(R:VWP)(w:World):Prop:=Nw (w.alloc (.cells #[zh p0.1,zu p0.2.1,zu p0.2.2.1,p0.2.2.2.1.zw] 50)) λw1=>dm w1 (zB w) λx1 x2 x3 x4=>dz 167 #[.agg #[zh x1,zu x2,zu x3,x4.zw]] w1 λx6 w2=>ifB x6 (R (zb 8) w2) (ldI w2 (zB w) .u16 λx7=>dK 108 #[zh x7] w2 λx9 x10 w3=>Nw (w3.alloc (.cells #[zh 0,.string (BM #[]),.bool false,.bool false,.string (BM #[]),.string (BM #[]),zi 0,zb 0] 187)) λw4=>dJ w4 (zB w3) (zh x9.1) (.string x9.2.1) (.bool x9.2.2.1) (.bool x9.2.2.2.1) (.string x9.2.2.2.2.1) (.string x9.2.2.2.2.2.1) (zi x9.2.2.2.2.2.2.1) (zb x9.2.2.2.2.2.2.2.1) λw12=>ldI w12 ((zB w3).add 7) .u8 λx11=>R (zb x11) w12)
theorem zjo(p0)(R)(w)(h:zhM p0 R w):cC 138 #[.agg #[.int .u16 p0.1,.int .u32 p0.2.1,.int .u32 p0.2.2.1,.slice p0.2.2.2.1.a p0.2.2.2.1.l p0.2.2.2.1.c]] w R:=lwC zhV Tryz.func138 h
def zhU:Ann:=(.q (.seq none Z10 (.seq none (.q (.one (.seq none (.one (.one (.seq none (.one (.seq none (.one (.seq none (.one (.seq none (.one (.seq none (.one (.seq none (.one (.seq none (.seq none Z13 (.seq none Z13 (.seq none Z13 (.seq none Z13 (.seq none Z13 (.seq none Z13 (.seq none Z13 Z13))))))) .nil)) Z1G)) Z1G)) Z1G)) Z1G)) Z1G)) Z1G))) Z1G))) Z17)))
def zhL(p0:(Int×Int×Int×Sl×Unit))(R:VWP)(w:World):Prop:=Nw (w.alloc (.cells #[zh p0.1,zu p0.2.1,zu p0.2.2.1,p0.2.2.2.1.zw] 50)) λw1=>dm w1 (zB w) λx1 x2 x3 x4=>dI 138 #[.agg #[zh x1,zu x2,zu x3,x4.zw]] w1 λx6 w2=>ifB (x6 !=8) (R (zi 9) w2) (ldI w2 (zB w) .u16 λx7=>ifB (x7==54) (R (zi 1) w2) (ifB (x7==55) (R (zi 2) w2) (ifB (x7==56) (R (zi 8) w2) (ifB (x7==248) (R (zi 3) w2) (ifB (x7==245) (R (zi 4) w2) (ifB (x7==59) (R (zi 5) w2) (ifB (x7==246) (R (zi 6) w2) (ifB (x7==247) (R (zi 6) w2) (ldI w2 (zB w) .u16 λx8=>dz 168 #[zh x8] w2 λx10 w3=>ifB x10 (R (zi 7) w3) (R (zi 0) w3))))))))))
theorem zjn(p0)(R)(w)(h:zhL p0 R w):cC 139 #[.agg #[.int .u16 p0.1,.int .u32 p0.2.1,.int .u32 p0.2.2.1,.slice p0.2.2.2.1.a p0.2.2.2.1.l p0.2.2.2.1.c]] w R:=lwC zhU Tryz.func139 h
def ziS:Ann:=(.q (.seq none (.q (.one Z1c)) Z11))
def ziH(p0:Int)(p1:Int)(R:VWP)(w:World):Prop:=ifB (p1==251) (R (.bool (p0==247)) w) (ifB (p1==249) (R (.bool (p0==246)) w) (ifB (p1==250) (R (.bool true) w) (R (.bool false) w)))
theorem zjZ(p0)(p1)(R)(w)(h:ziH p0 p1 R w):cC 140 #[.int .u16 p0,.int .u16 p1] w R:=lwC ziS Tryz.func140 h
def zbf:Ann:=(.q (.q (.seq none (.one (.loop ⟨[0],[(5,(.b (.int .i64)))]⟩ Z1f)) Z11)))
def zaO(p0:Sl)(p1:Int)(R:VWP)(w:World):Prop:=zk (S:=Int×Unit) (λs1 w1 n2=>(0<=s1.1/\s1.1<(p0.l:Int))/\zc p0.a λa3=>ldI w1 (a3.add (s1.1.toNat *4)) .u16 λx4=>ifB (x4 !=248) (n2 ((IntKind.i64.wrap (s1.1-(1:Int))),()) w1) ((0<=(IntKind.i64.wrap (s1.1-(1:Int)))/\(IntKind.i64.wrap (s1.1-(1:Int)))<(p0.l:Int))/\zc p0.a λa5=>ldI w1 (a5.add ((Int.toNat (IntKind.i64.wrap (s1.1-(1:Int))))*4)) .u16 λx6=>ifB (x6==54) (R (.bool true) w1) ((0<=(IntKind.i64.wrap (s1.1-(1:Int)))/\(IntKind.i64.wrap (s1.1-(1:Int)))<(p0.l:Int))/\zc p0.a λa7=>ldI w1 (a7.add ((Int.toNat (IntKind.i64.wrap (s1.1-(1:Int))))*4)) .u16 λx8=>R (.bool (x8==55)) w1))) (p1,()) w
theorem zdL(p0)(p1)(R)(w)(h:zaO p0 p1 R w):cC 154 #[.slice p0.a p0.l p0.c,.int .i64 p1] w R:=lwC zbf Tryz.func154 h
def zen:Ann:=Z16
def zec(p0:(Int×Int×Int×Sl×Unit))(R:VWP)(w:World):Prop:=Nw (w.alloc (.cells #[zh p0.1,zu p0.2.1,zu p0.2.2.1,p0.2.2.2.1.zw] 50)) λw1=>ldI w1 (zB w) .u16 λx1=>ifB (x1==59) (ldS w1 ((zB w).add 3) λx2=>ifB (decide ((x2.l:Int)>0)) (ldS w1 ((zB w).add 3) λx3=>(0<=(0:Int)/\0<(x3.l:Int))/\zc x3.a λa4=>ldI w1 ((a4.add (0*3)).add 1) .u32 λx5=>R (.bool (x5==7)) w1) (R (.bool false) w1)) (R (.bool false) w1)
theorem zg7(p0)(R)(w)(h:zec p0 R w):cC 167 #[.agg #[.int .u16 p0.1,.int .u32 p0.2.1,.int .u32 p0.2.2.1,.slice p0.2.2.2.1.a p0.2.2.2.1.l p0.2.2.2.1.c]] w R:=lwC zen Tryz.func167 h
def zhT:Ann:=Z16
def zhK(p0:Int)(R:VWP)(w:World):Prop:=ifB (decide (p0≥(249:Int))) (R (.bool (decide (p0<=(255:Int)))) w) (R (.bool false) w)
theorem zjm(p0)(R)(w)(h:zhK p0 R w):cC 168 #[.int .u16 p0] w R:=lwC zhT Tryz.func168 h
end Go.Proofs
