/- FaceRenamed, part 2; made small by a program. -/
import Derived.Test.YtnpdnjmpmeikiaaGreatDoorProg
import Derived.Laws.Strings
import Derived.Test.YtnpdnjmpmeikiaaGreatDoorPFaceRenamed1
set_option linter.unusedVariables false
namespace Go.Proofs
open Go.Gk Go.RowKit Go.ChangeShapes Go.WideShapes Go.Deep
namespace Jn
section
variable {H:Type} {enc:TypeId×Value->H}
set_option maxRecDepth 100000 in
theorem zpM{W:World}{fuel:Nat}{cs:List Value}{d:DataW H}{p:List MemPlace}(hf:DataW.trod enc Tryz.prog W 0 (λ_=>true) true fuel 44 cs=some (d,p))
  (hz:∀n∈d.weights Tryz.prog 44,n<=reachBytes) :
  ∃(q:PI) (t:Sl),cs=inV (mkIn q t)/\IsAg W t q.2.2.2/\24*q.2.2.2.length<=140737488351232/\(∀x∈q.2.2.2,x.2.2.size<=9223372036854775807)/\
   ((0<=q.2.1/\q.2.1<=4294967295)/\(0<=q.2.2.1/\q.2.2.1<=4294967295)/\∀x∈q.2.2.2,0<=x.2.1/\x.2.1<=4294967295):=by
 obtain⟨xs,n,_,hx,hl,hlen,hff⟩:=DataW.trod_struct Tryz.underlying44 hf
 have hsz:Tryz.prog.cellsOf 44=4:=by kernel_rfl
 have c0:Tryz.prog.cellsOf 41=1:=by kernel_rfl
 have c1:Tryz.prog.cellsOf 22=1:=by kernel_rfl
 have c3:Tryz.prog.cellsOf 42=1:=by kernel_rfl
 rw[hsz]at hl
 match xs,hlen,cs,hl with
 | [y0,y1,y2,y3],_,[u0,u1,u2,u3],_=>
  have f0:=hff 0 _ rfl
  have f1:=hff 1 _ rfl
  have f2:=hff 2 _ rfl
  have f3:=hff 3 _ rfl
  simp only[List.getElem?_cons_zero,List.getElem?_cons_succ]at f0 f1 f2 f3
  have f0':DataW.trod enc Tryz.prog W 0 (λ_=>true) true n 41 [u0]=some y0:=by simpa[c0] using f0
  have f1':DataW.trod enc Tryz.prog W 0 (λ_=>true) true n 22 [u1]=some y1:=by simpa[c1] using f1
  have f2':DataW.trod enc Tryz.prog W 0 (λ_=>true) true n 22 [u2]=some y2:=by simpa[c1] using f2
  have f3':DataW.trod enc Tryz.prog W 0 (λ_=>true) true n 42 [u3]=some y3:=by simpa[c3] using f3
  obtain⟨a,ha,_⟩:=uI Tryz.underlying41 f0'
  obtain⟨b,hb,b0,b1⟩:=uI Tryz.underlying22 f1'
  obtain⟨c,hc,c0',c1'⟩:=uI Tryz.underlying22 f2'
  simp only[Prod.mk.injEq]at hx
  obtain⟨rfl,_⟩:=hx
  obtain⟨s,l,h1,h2,h3,h4⟩:=zpL (d:=y3.1) (p:=y3.2) f3' (λm hm=>hz m (by
   simp only[DataW.weights,Tryz.underlying44]
   exact DataW.weights_mem_each (j:=3) (t:=42) rfl rfl m hm))
  rw[show IntKind.u32.min=0 by decide +kernel]at b0 c0'
  rw[show IntKind.u32.max=4294967295 by decide +kernel]at b1 c1'
  refine⟨(a,b,c,l),s,?_,h2,h3,λx hx=>(h4 x hx).2.2,⟨b0,b1⟩,⟨c0',c1'⟩,λx hx=>(h4 x hx).2.1⟩
  simp only[List.cons.injEq,and_true]at ha hb hc h1
  rw[ha,hb,hc,h1]
set_option maxRecDepth 100000 in
theorem zoG{W:World}{fuel0:Nat}{cs:List Value}{d:DataW H}{p:List MemPlace}(hf:DataW.trod enc Tryz.prog W 0 (λ_=>true) true fuel0 23 cs=some (d,p))
  (hz:∀n∈d.weights Tryz.prog 23,n<=reachBytes) :
  ∃(s:Sl) (pl:List PI),cs=[.slice s.a s.l s.c]/\IsPl W s pl/\PlOk pl:=by
 have b40:Tryz.prog.bytesOf 44=40:=by kernel_rfl
 have c4:Tryz.prog.cellsOf 44=4:=by kernel_rfl
 have hr:reachBytes=140737488351232:=by decide +kernel
 have hm63:maxLen=9223372036854775807:=by decide +kernel
 rcases open_slice Tryz.underlying23 hf with⟨hcs0,hx⟩ | ⟨a,len,cap,m,n,D,Pl,hcs0,_,hl,hm,hmm,hx,hrows⟩
 ·exact⟨⟨none,0,0⟩,[],hcs0,⟨rfl,Nat.le_refl _,Nat.zero_le _,λ_=>rfl,λa ha=>by cases ha⟩,⟨by simp,by simp,by simp,by simp⟩⟩
 ·simp only[Prod.mk.injEq]at hx
  obtain⟨rfl,_⟩:=hx
  have hmm:m=cap:=by simpa using hmm
  subst hmm
  have hw:=hz (((List.range len).map D).length*40+((List.range (m-len)).map λj=>D (len+j)).length*40)
    (by simp only[DataW.weights,Tryz.underlying23,b40,<-Nat.add_mul];exact List.mem_cons_self)
  have each:∀i,i<len->∃q:PI,(24*q.2.2.2.length<=140737488351232/\(∀x∈q.2.2.2,x.2.2.size<=9223372036854775807)/\
    ((0<=q.2.1/\q.2.1<=4294967295)/\(0<=q.2.2.1/\q.2.2.1<=4294967295)/\∀x∈q.2.2.2,0<=x.2.1/\x.2.1<=4294967295))/\∃t:Sl,(∀j,j<4->W.cell? (a.add (i*4+j))=(inV (mkIn q t))[j]?)/\IsAg W t q.2.2.2:=by
   intro i hi
   obtain⟨cs',h1,h2⟩:=hrows i (by omega)
   rw[c4]at h1
   obtain⟨_,hlen,hcell⟩:=World.cells?_some h1
   have hmem:D i∈(List.range len).map D:=List.mem_map.2 ⟨i,List.mem_range.2 hi,rfl⟩
   obtain⟨q,t,e,g1,g2,g3,g4⟩:=zpM h2 (λn hn=>hz n (by
    simp only[DataW.weights,Tryz.underlying23]
    exact List.mem_cons_of_mem _ (List.mem_append.2 (.inl (zkd hn hmem)))))
   subst e
   refine⟨q,⟨g2,g3,g4⟩,t,λj hj=>?_,g1⟩
   have:=hcell j hj
   rw[zn]at this
   exact this
  obtain⟨q,hq⟩:=choose_lt each
  refine⟨⟨some a,len,m⟩,(List.range len).map q,hcs0,⟨by simp,hl,by rw[<-hm63];exact hm,(λh=>by cases h),?_⟩,?_,?_,?_,?_⟩
  ·intro a' ha i hi
   cases ha
   have hi':i<len:=by simpa using hi
   obtain⟨t,h1,h2⟩:=(hq i hi').2
   simp only[List.getElem_map,List.getElem_range]
   exact⟨t,h1,h2⟩
  ·simp only[List.length_map,List.length_range]at hw⊢
   omega
  ·intro x hx
   obtain⟨i,hi,rfl⟩:=List.mem_map.1 hx
   exact(hq i (List.mem_range.1 hi)).1.1
  ·intro x hx
   obtain⟨i,hi,rfl⟩:=List.mem_map.1 hx
   exact(hq i (List.mem_range.1 hi)).1.2.1
  ·intro x hx
   obtain⟨i,hi,rfl⟩:=List.mem_map.1 hx
   exact(hq i (List.mem_range.1 hi)).1.2.2
set_option maxRecDepth 100000 in
theorem open_module{W:World}{base:Nat}{v:Value}{d:DataW H}{p:List MemPlace}(hv:Value.okWide Tryz.prog W .any base 25 v)(h0:DataW.Trod enc Tryz.prog W 0 (λ_=>true) true 25 v d p)
  (hz:∀n∈d.weights Tryz.prog 25,n<=reachBytes) :
  ∃(x:Mo) (pl:List PI),v=moA x/\IsPl W x.2.2.1 pl/\PlOk pl/\(0<=x.2.1/\x.2.1<=4294967295):=by
 obtain⟨cs,rfl,hcs⟩:=okWide_struct Tryz.underlying25 hv
 obtain⟨fuel,hf⟩:=h0
 obtain⟨y0,y1,y2,n,hx,hl,f0,f1,f2⟩:=trod_struct3 Tryz.underlying25 hf
 have hsz:Tryz.prog.cellsOf 25=3:=by kernel_rfl
 have c1:Tryz.prog.cellsOf 22=1:=by kernel_rfl
 have c3:Tryz.prog.cellsOf 23=1:=by kernel_rfl
 rw[hsz]at hcs
 obtain⟨u0,u1,u2,hu⟩:∃u0 u1 u2,cs.toList=[u0,u1,u2]:=by
  have hl3:cs.toList.length=3:=by simpa using hcs
  match cs.toList,hl3 with
  | [u0,u1,u2],_=>exact⟨u0,u1,u2,rfl⟩
 have hce:(Value.agg cs).cells.toList=[u0,u1,u2]:=by simpa[Value.cells] using hu
 rw[hce]at f0 f1 f2
 have f0':DataW.trod enc Tryz.prog W 0 (λ_=>true) true n 22 [u0]=some y0:=by simpa[c1] using f0
 have f1':DataW.trod enc Tryz.prog W 0 (λ_=>true) true n 22 [u1]=some y1:=by simpa[c1] using f1
 have f2':DataW.trod enc Tryz.prog W 0 (λ_=>true) true n 23 [u2]=some y2:=by simpa[c3] using f2
 obtain⟨a,ha,_⟩:=uI Tryz.underlying22 f0'
 obtain⟨b,hb,b0,b1⟩:=uI Tryz.underlying22 f1'
 simp only[Prod.mk.injEq]at hx
 obtain⟨rfl,_⟩:=hx
 obtain⟨s,pl,h1,h2,h3⟩:=zoG (d:=y2.1) (p:=y2.2) f2' (λm hm=>hz m (by
  simp only[DataW.weights,Tryz.underlying25]
  exact DataW.weights_mem_each (j:=2) (t:=23) rfl rfl m hm))
 rw[show IntKind.u32.min=0 by decide +kernel]at b0
 rw[show IntKind.u32.max=4294967295 by decide +kernel]at b1
 refine⟨(a,b,s,()),pl,?_,h2,h3,b0,b1⟩
 have:cs=cs.toList.toArray:=by simp
 rw[this,hu]
 simp only[List.cons.injEq,and_true]at ha hb h1
 rw[ha,hb,h1]
end
end Jn
end Go.Proofs
namespace Go.Proofs
open Go.Gk Go.RowKit Go.ChangeShapes Go.WideShapes Go.Deep
namespace Jn
end Jn
end Go.Proofs
namespace Go.Proofs
open Go.Gk
set_option linter.unusedVariables false
set_option maxRecDepth 100000
def zfI:Ann:=(.q (.seq none (.q (.q (.cond (.q .nil) .nil))) (.q (.seq none (.q (.one (.loop ⟨[1,2,3,5,18,19],[(20,(.b (.int .i64)))]⟩ (.q (.seq none .c (.seq (some ⟨[1,2,3,5,18,19,20],[]⟩) (.one (.q (.q .c))) .nil)))))) (.q (.q (.q .nil)))))))
def zf7(p0:(Int×Int×Sl×Unit))(R:VWP)(w:World):Prop:=Nw (w.alloc (.cells #[zu p0.1,zu p0.2.1,p0.2.2.1.zw] 25)) λw1=>Nw (w1.alloc (.cells #[zu 0,zu 0,.slice none 0 0] 25)) λw2=>Nw (w2.alloc (.cells #[zi 0,zi 0] 29)) λw3=>da w3 (zB w) λx1 x2 x3=>dh 40 #[.agg #[zu x1,zu x2,x3.zw]] w3 λx5 w4=>dd w4 #[zi 0,zi 0] 29 (zi x5.1) (zi x5.2.1) λw7=>ldI w7 (zB w4) .i64 λx6=>ifB (x6 !=0) (db w7.drew (zB w4) λx7 x8=>de w7.drew (zB w1) (zu 0) (zu 0) (.slice none 0 0) λw10=>w10.cell? ((zB w4).add 0)=some (zi x7)/\w10.cell? ((zB w4).add 1)=some (zi x8)/\df w10 (zB w2) (zi x7) (zi x8) λw12=>da w12 (zB w1) λx9 x10 x11=>db w12 (zB w2) λx12 x13=>R (.tuple #[.agg #[zu x9,zu x10,x11.zw],.agg #[zi x12,zi x13]]) w12) (Nw (w7.alloc (.map #[] 0)) λw13=>updW Tryz.prog 116 (.map (some w7.heap.size)) (zu 0) (zu 0) w13 λw14=>Nw (w14.alloc (.cells #[.map none] 116)) λw15=>Wr w15 (zB w14)/\Nw (w15.setCell (zB w14) (.map (some w7.heap.size))) λw16=>ldS w16 ((zB w).add 2) λx14=>zm (S:=Int×Unit) (λs15 w17 n16=>ifB (decide (s15.1<(x14.l:Int))) (zo (S:=Unit) (λm17=>(0<=s15.1/\s15.1<(x14.l:Int))/\zc x14.a λa19=>dc w17 (a19.add (s15.1.toNat *4)) λx20 x21 x22 x23=>dg w17 #[zh 0,zu 0,zu 0,.slice none 0 0] 44 (zh x20) (zu x21) (zu x22) (x23.zw) λw22=>ldI w22 ((zB w17).add 2) .u32 λx24=>ifB (x24 !=0) (ldM w22 (zB w14) λx25=>ldI w22 ((zB w17).add 2) .u32 λx26=>ldM w22 (zB w14) λx27=>lenW Tryz.prog 116 (.map x27) w22 λx28=>updW Tryz.prog 116 (.map x25) (zu x26) (zu (IntKind.u32.wrap x28)) w22 λw23=>m17 () w23) (m17 () w22)) (λs18 w24=>n16 ((IntKind.i64.wrap (s15.1+(1:Int))),()) w24)) (da w17 (zB w) λx29 x30 x31=>di 51 #[.agg #[zu x29,zu x30,x31.zw],.func (.func 52) #[] #[.pointer (some (zB w14))]] w17 λx33 w25=>de w25 (zB w) (zu x33.1) (zu x33.2.1) (x33.2.2.1.zw) λw28=>ldM w28 (zB w14) λx34=>lenW Tryz.prog 116 (.map x34) w28 λx35=>Wr w28 ((zB w).add 1)/\Nw (w28.setCell ((zB w).add 1) (zu (IntKind.u32.wrap x35))) λw29=>da w29 (zB w) λx36 x37 x38=>de w29 (zB w1) (zu x36) (zu x37) (x38.zw) λw32=>df w32 (zB w2) (zi 0) (zi 0) λw34=>da w34 (zB w1) λx39 x40 x41=>db w34 (zB w2) λx42 x43=>R (.tuple #[.agg #[zu x39,zu x40,x41.zw],.agg #[zi x42,zi x43]]) w34)) (0,()) w16)
theorem zh7(p0)(R)(w)(h:zf7 p0 R w):Calls Tryz.prog 25 #[.agg #[.int .u32 p0.1,.int .u32 p0.2.1,.slice p0.2.2.1.a p0.2.2.1.l p0.2.2.1.c]] w (Ret R):=lwC zfI Tryz.func25 (by kernel_rfl) (by kernel_rfl) h
def zjI:Ann:=(.q (.one (.q (.seq none (.q (.cond (.q .nil) .nil)) (.q (.q (.q (.seq none (.q (.one (.loop ⟨[2,5,6,29,30],[(31,(.b (.int .i64)))]⟩ (.q (.seq none .c (.seq (some ⟨[2,5,6,29,30,31],[]⟩) (.one (.q (.seq (some ⟨[2,5,6,7,8,29,30,31],[]⟩) (.q (.cond (.q .nil) .nil)) (.q (.seq none (.q (.one (.loop ⟨[2,5,6,7,29,30,31,50,51],[(9,(.b .bool)),(52,(.b (.int .i64)))]⟩ (.q (.seq none .c (.seq (some ⟨[2,5,6,7,29,30,31,50,51,52],[(9,(.b .bool))]⟩) (.one (.q (.q (.seq none (.q (.cond (.q .nil) .nil)) .nil)))) .nil)))))) (.seq (some ⟨[2,7],[]⟩) (.q .c) (.q .nil))))))) .nil)))))) (.q .nil)))))))))
def zjE(p0:(Int×Int×Sl×Unit))(R:VWP)(w:World):Prop:=Nw (w.alloc (.cells #[zu p0.1,zu p0.2.1,p0.2.2.1.zw] 25)) λw1=>Nw (w1.alloc (.cells #[zi 0,zi 0] 29)) λw2=>da w2 (zB w) λx1 x2 x3=>dk 35 #[.agg #[zu x1,zu x2,x3.zw]] w2 λx5 x6 w3=>Nw (w3.alloc (.cells (List.toArray (List.replicate 20 (zi 0))) 82)) λw4=>Nw (w4.alloc (.cells #[zi 0,zi 0] 29)) λw5=>dj w5 (zB w3) (zi x5.1) (zi x5.2.1) (zi x5.2.2.1) (zi x5.2.2.2.1) (zi x5.2.2.2.2.1) (zi x5.2.2.2.2.2.1) (zi x5.2.2.2.2.2.2.1) (zi x5.2.2.2.2.2.2.2.1) (zi x5.2.2.2.2.2.2.2.2.1) (zi x5.2.2.2.2.2.2.2.2.2.1) (zi x5.2.2.2.2.2.2.2.2.2.2.1) (zi x5.2.2.2.2.2.2.2.2.2.2.2.1) (zi x5.2.2.2.2.2.2.2.2.2.2.2.2.1) (zi x5.2.2.2.2.2.2.2.2.2.2.2.2.2.1) (zi x5.2.2.2.2.2.2.2.2.2.2.2.2.2.2.1) (zi x5.2.2.2.2.2.2.2.2.2.2.2.2.2.2.2.1) (zi x5.2.2.2.2.2.2.2.2.2.2.2.2.2.2.2.2.1) (zi x5.2.2.2.2.2.2.2.2.2.2.2.2.2.2.2.2.2.1) (zi x5.2.2.2.2.2.2.2.2.2.2.2.2.2.2.2.2.2.2.1) (zi x5.2.2.2.2.2.2.2.2.2.2.2.2.2.2.2.2.2.2.2.1) λw25=>df w25 (zB w4) (zi x6.1) (zi x6.2.1) λw27=>ldI w27 (zB w4) .i64 λx7=>ifB (x7 !=0) (db w27 (zB w4) λx8 x9=>df w27 (zB w1) (zi x8) (zi x9) λw29=>db w29 (zB w1) λx10 x11=>R (.agg #[zi x10,zi x11]) w29) (ldS w27 ((zB w).add 2) λx12=>dl 72 #[x12.zw] w27 λx14 w30=>(0<=(7:Int)/\(7:Int)<10)/\db w30 ((zB w3).add (7*2)) λx15 x16=>dd w30 #[zi 0,zi 0] 81 (zi x15) (zi x16) λw33=>ldS w33 ((zB w).add 2) λx17=>zm (S:=Int×Unit) (λs18 w34 n19=>ifB (decide (s18.1<(x17.l:Int))) (zo (S:=Unit) (λm20=>(0<=s18.1/\s18.1<(x17.l:Int))/\zc x17.a λa22=>dc w34 (a22.add (s18.1.toNat *4)) λx23 x24 x25 x26=>dg w34 #[zh 0,zu 0,zu 0,.slice none 0 0] 44 (zh x23) (zu x24) (zu x25) (x26.zw) λw39=>zo (S:=Unit) (λm27=>ldI w39 ((zB w34).add 2) .u32 λx29=>ifB (x29 !=0) (ldI w39 ((zB w34).add 2) .u32 λx30=>YT Tryz.prog 98 (.map x14) (zu x30) (BK.int .i64) w39 λ(x31:Int)=>ifB (decide (x31<s18.1)) (df w39 (zB w1) (zi 90) (zi s18.1) λw41=>db w41 (zB w1) λx32 x33=>R (.agg #[zi x32,zi x33]) w41) (m27 () w39)) (m27 () w39)) (λs28 w42=>dc w42 (zB w34) λx34 x35 x36 x37=>dm 73 #[.agg #[zh x34,zu x35,zu x36,x37.zw]] w42 λx39 w43=>zm (S:=Bool×Int×Unit) (λs40 w44 n41=>ifB (decide (s40.2.1<(x39.l:Int))) (zo (S:=Bool×Unit) (λm42=>(0<=s40.2.1/\s40.2.1<(x39.l:Int))/\zc x39.a λa44=>ldI w44 (a44.add s40.2.1.toNat) .u32 λx45=>lookOk Tryz.prog 98 (.map x14) (zu x45) (BK.int .i64) w44 λ(x46:Int) (b47:Bool)=>ifB (!b47) (df w44 (zB w1) (zi 91) (zi s18.1) λw46=>db w46 (zB w1) λx48 x49=>R (.agg #[zi x48,zi x49]) w46) (ifB s40.1 (m42 (true,()) w44) (m42 ((decide (x46≥s18.1)),()) w44))) (λs43 w47=>n41 (s43.1,(IntKind.i64.wrap (s40.2.1+(1:Int))),()) w47)) (zo (S:=Unit) (λm50=>ifB (!s40.1) (m20 () w44) (ldI w44 (zB w30) .i64 λx52=>ifB (decide (s18.1<x52)) (m20 () w44) (ldI w44 ((zB w30).add 1) .i64 λx53=>ifB (decide (s18.1≥x53)) (m20 () w44) (m50 () w44)))) (λs51 w48=>df w48 (zB w1) (zi 92) (zi s18.1) λw50=>db w50 (zB w1) λx54 x55=>R (.agg #[zi x54,zi x55]) w50))) (false,0,()) w43)) (λs21 w51=>n19 ((IntKind.i64.wrap (s18.1+(1:Int))),()) w51)) (df w34 (zB w1) (zi 0) (zi 0) λw53=>db w53 (zB w1) λx56 x57=>R (.agg #[zi x56,zi x57]) w53)) (0,()) w33)
theorem zkj(p0)(R)(w)(h:zjE p0 R w):Calls Tryz.prog 40 #[.agg #[.int .u32 p0.1,.int .u32 p0.2.1,.slice p0.2.2.1.a p0.2.2.1.l p0.2.2.1.c]] w (Ret R):=lwC zjI Tryz.func40 (by kernel_rfl) (by kernel_rfl) h
def zik:Ann:=(.q (.q (.seq none (.q (.one (.loop ⟨[1,2,4,15,16],[(5,(.b .slice)),(17,(.b (.int .i64)))]⟩ (.q (.seq none .c (.seq none (.one (.q (.q (.seq none (.q (.one (.loop ⟨[1,2,4,5,7,15,16,17,36,37],[(38,(.b (.int .i64)))]⟩ (.q (.seq none .c (.seq (some ⟨[1,2,4,5,7,15,16,17,36,37,38],[]⟩) (.one (.q (.q .c))) .nil)))))) .nil)))) .nil)))))) (.q (.q .nil)))))
def zhX(p0:(Int×Int×Sl×Unit))(p1:Value)(R:VWP)(w:World):Prop:=Nw (w.alloc (.cells #[zu p0.1,zu p0.2.1,p0.2.2.1.zw] 25)) λw1=>Nw (w1.alloc (.cells #[zu 0,zu 0,.slice none 0 0] 25)) λw2=>ldS w2 ((zB w).add 2) λx1=>(0<=(0:Int)/\0<=(x1.l:Int)/\40*(x1.l:Int)<=281474976710656/\(x1.l:Int)<=9223372036854775807)/\Nw (w2.alloc (.cells (madeCells #[zh 0,zu 0,zu 0,.slice none 0 0] (x1.l*4)) 44)) λw3=>ldS w3 ((zB w).add 2) λx2=>zm (S:=Sl×Int×Unit) (λs3 w4 n4=>ifB (decide (s3.2.1<(x2.l:Int))) ((0<=s3.2.1/\s3.2.1<(x2.l:Int))/\zc x2.a λa5=>dc w4 (a5.add (s3.2.1.toNat *4)) λx6 x7 x8 x9=>dg w4 #[zh 0,zu 0,zu 0,.slice none 0 0] 44 (zh x6) (zu x7) (zu x8) (x9.zw) λw9=>ldI w9.drew ((zB w4).add 1) .u32 λx10=>ldI w9.drew ((zB w4).add 2) .u32 λx11=>ldS w9.drew ((zB w4).add 3) λx12=>zJ Tryz.prog Tryz.fs p1 [(zu x10)] w9.drew λv13 w10=>∃x14:Int,v13=(zu x14)/\w10.cell? ((zB w4).add 3)=some (x12.zw)/\w10.cell? ((zB w4).add 2)=some (zu x11)/\zJ Tryz.prog Tryz.fs p1 [(zu x11)] w10 λv15 w11=>∃x16:Int,v15=(zu x16)/\w11.cell? ((zB w4).add 3)=some (x12.zw)/\dm 81 #[x12.zw] w11 λx18 w12=>Wr w12 ((zB w4).add 1)/\Nw (w12.setCell ((zB w4).add 1) (zu x14)) λw13=>Wr w13 ((zB w4).add 2)/\Nw (w13.setCell ((zB w4).add 2) (zu x16)) λw14=>Wr w14 ((zB w4).add 3)/\Nw (w14.setCell ((zB w4).add 3) (x18.zw)) λw15=>ldS w15 ((zB w4).add 3) λx19=>zm (S:=Int×Unit) (λs20 w16 n21=>ifB (decide (s20.1<(x19.l:Int))) (zo (S:=Unit) (λm22=>(0<=s20.1/\s20.1<(x19.l:Int))/\zc x19.a λa24=>dn w16 (a24.add (s20.1.toNat *3)) λx25 x26 x27=>Nw (w16.alloc (.cells #[zb 0,zu 0,.string (BM #[])] 123)) λw17=>de w17 (zB w16) (zb x25) (zu x26) (.string x27) λw20=>ldI w20 (zB w16) .u8 λx28=>ifB (x28==1) (ldS w20.drew ((zB w4).add 3) λx29=>ldI w20.drew ((zB w16).add 1) .u32 λx30=>zJ Tryz.prog Tryz.fs p1 [(zu x30)] w20.drew λv31 w21=>∃x32:Int,v31=(zu x32)/\w21.cell? ((zB w4).add 3)=some (x29.zw)/\(0<=s20.1/\s20.1<(x29.l:Int))/\zc x29.a λa33=>Wr w21 ((a33.add (s20.1.toNat *3)).add 1)/\Nw (w21.setCell ((a33.add (s20.1.toNat *3)).add 1) (zu x32)) λw22=>m22 () w22) (m22 () w20)) (λs23 w23=>n21 ((IntKind.i64.wrap (s20.1+(1:Int))),()) w23)) (dc w16 (zB w4) λx34 x35 x36 x37=>Nw (w16.alloc (.cells #[zh x34,zu x35,zu x36,x37.zw] 44)) λw24=>zz Tryz.prog 23 (s3.1.zw) (.slice (some (zB w16)) 1 1) w24 λr38 w25=>n4 (r38,(IntKind.i64.wrap (s3.2.1+(1:Int))),()) w25)) (0,()) w15) (Wr w4 ((zB w).add 2)/\Nw (w4.setCell ((zB w).add 2) (s3.1.zw)) λw26=>da w26 (zB w) λx39 x40 x41=>de w26 (zB w1) (zu x39) (zu x40) (x41.zw) λw29=>da w29 (zB w1) λx42 x43 x44=>R (.agg #[zu x42,zu x43,x44.zw]) w29)) ((Sl.mk (some (zB w2)) 0 x1.l),0,()) w3
theorem zjx(p0)(p1)(R)(w)(h:zhX p0 p1 R w):Calls Tryz.prog 51 #[.agg #[.int .u32 p0.1,.int .u32 p0.2.1,.slice p0.2.2.1.a p0.2.2.1.l p0.2.2.1.c],p1] w (Ret R):=lwC zik Tryz.func51 (by kernel_rfl) (by kernel_rfl) h
def zdX:Ann:=(.q (.q .nil))
def zdN(p0:Int)(c0:Addr)(R:VWP)(w:World):Prop:=ldM w c0 λx1=>YT Tryz.prog 116 (.map x1) (zu p0) (BK.int .u32) w λ(x2:Int)=>R (zu x2) w
theorem zga(p0)(c0)(R)(w)(h:zdN p0 c0 R w):Calls Tryz.prog 52 #[.int .u32 p0,.pointer (some c0)] w (Ret R):=lwC zdX Tryz.func52 (by kernel_rfl) (by kernel_rfl) h
def Zb:Ann:=(.q (.seq none (.q (.cond (.q .nil) .nil)) (.q .nil)))
def yY(p0:Sl)(R:VWP)(w:World):Prop:=ifB (Option.isNone p0.a) (R (.slice none 0 0) w) (Nw (w.alloc (.cells #[] 123)) λw1=>zz Tryz.prog 42 (.slice (some (zB w)) 0 0) (p0.zw) w1 λr1 w2=>R (r1.zw) w2)
theorem Yf(p0)(R)(w)(h:yY p0 R w):Calls Tryz.prog 81 #[.slice p0.a p0.l p0.c] w (Ret R):=lwC Zb Tryz.func81 (by kernel_rfl) (by kernel_rfl) h
end Go.Proofs
namespace Go.Proofs
open Go.Gk
set_option linter.unusedVariables false
set_option maxRecDepth 100000
def zij:Ann:=(.q (.q (.seq none (.q (.one (.loop ⟨[],[(9,(.b (.int .i64))),(10,(.agg [(.int .u16),(.int .u32),(.int .u32),.slice]))]⟩ (.seq none (.q .nil) (.one (.q .c)))))) (.q .nil))))
def zhW(p0:Sl)(R:VWP)(w:World):Prop:=Nw (w.alloc (.map #[] 0)) λw1=>Nw (w1.alloc (.cells #[.map none] 98)) λw2=>Wr w2 (zB w1)/\Nw (w2.setCell (zB w1) (.map (some w.heap.size))) λw3=>dz 108 #[p0.zw] w3 λx2 w4=>zmA Tryz.prog Tryz.fs x2 w4 (T:=Int×(Int×Int×Int×Sl×Unit)×Unit) (λs3=>[(zi s3.1),(.agg #[zh s3.2.1.1,zu s3.2.1.2.1,zu s3.2.1.2.2.1,s3.2.1.2.2.2.1.zw])]) (λmk4 l5 s3 w5 S6=>dg w5 #[zh 0,zu 0,zu 0,.slice none 0 0] 44 (zh s3.2.1.1) (zu s3.2.1.2.1) (zu s3.2.1.2.2.1) (s3.2.1.2.2.2.1.zw) λw10=>w10.heap[l5]? =some (mk4 .ready none)/\Nw (w10.putObj l5 (mk4 .busy none)) λw11=>ldI w11 ((zB w5).add 2) .u32 λx8=>ifB (x8 !=0) (ldM w11 (zB w1) λx9=>ldI w11 ((zB w5).add 2) .u32 λx10=>updW Tryz.prog 98 (.map x9) (zu x10) (zi s3.1) w11 λw12=>w12.heap[l5]? =some (mk4 .busy none)/\S6 (.bool true) (w12.putObj l5 (mk4 .ready none))) (w11.heap[l5]? =some (mk4 .busy none)/\S6 (.bool true) (w11.putObj l5 (mk4 .ready none)))) (λmk4 l5 d7 w13=>Yd mk4 l5 .ready none w13 λw14=>ldM w14 (zB w1) λx11=>ze9 (d7::[]) w14 λw15=>R (.map x11) w15)
theorem zjw(p0:Sl)(R:VWP)(w:World)(h:zhW p0 R w):Calls Tryz.prog 72 #[.slice p0.a p0.l p0.c] w (Ret R):=zmp (fs:=Tryz.fs) (an:=zij) (args:=[(.slice p0.a p0.l p0.c)]) Tryz.fsOK Tryz.mixed Tryz.func72 (by kernel_rfl) (by kernel_rfl) (Eq.mpr (by kernel_rfl:zqM Tryz.prog Tryz.fs Tryz.f72 zij [(.slice p0.a p0.l p0.c)] w R=zhW p0 R w) h)
def yB:Ann:=(.q (.q .nil))
def y9(p0:Sl)(R:VWP)(w:World):Prop:=Nw (w.alloc (.cells #[p0.zw] 23)) λw1=>R (.func (.func 137) #[] #[.pointer (some (zB w))]) w1
theorem Z2(p0)(R)(w)(h:y9 p0 R w):Calls Tryz.prog 108 #[.slice p0.a p0.l p0.c] w (Ret R):=lwC yB Tryz.func108 (by kernel_rfl) (by kernel_rfl) h
def yo:Ann:=(.q (.one (.loop ⟨[0,1],[(3,(.b (.int .i64)))]⟩ (.seq none (.q .c) (.seq none (.one (.q .c)) .nil)))))
def yn(p0:Value)(c0:Addr)(R:VWP)(w:World):Prop:=ldS w c0 λx1=>zm (S:=Int×Unit) (λs2 w1 n3=>ifB (decide (s2.1≥(0:Int))) (ldS w1 c0 λx4=>(0<=s2.1/\s2.1<(x4.l:Int))/\zc x4.a λa5=>dc w1 (a5.add (s2.1.toNat *4)) λx6 x7 x8 x9=>zJ Tryz.prog Tryz.fs p0 [(zi s2.1),(.agg #[zh x6,zu x7,zu x8,x9.zw])] w1 λv10 w2=>∃x11:Bool,v10=(.bool x11)/\ifB (!x11) (R (.tuple #[]) w2) (n3 ((IntKind.i64.wrap (s2.1-(1:Int))),()) w2)) (R (.tuple #[]) w1)) ((IntKind.i64.wrap ((x1.l:Int)-1)),()) w
theorem Zp(p0)(c0)(R)(w)(h:yn p0 c0 R w):Calls Tryz.prog 137 #[p0,.pointer (some c0)] w (Ret R):=lwC yo Tryz.func137 (by kernel_rfl) (by kernel_rfl) h
end Go.Proofs
namespace Go.Proofs
open Go.Gk
set_option linter.unusedVariables false
set_option maxRecDepth 100000
end Go.Proofs
namespace Go.Proofs
open Go.Gk
set_option linter.unusedVariables false
set_option maxRecDepth 100000
def Ya:Ann:=(.q (.q (.seq none (.q (.one (.loop ⟨[1,2,3],[(4,(.b (.int .i64)))]⟩ (.seq none (.q .c) (.seq none (.one .nil) .nil))))) (.q (.q .nil)))))
def ZX(p0:(Int×Int×Sl×Unit))(R:VWP)(w:World):Prop:=Nw (w.alloc (.cells #[zu p0.1,zu p0.2.1,p0.2.2.1.zw] 25)) λw1=>Nw (w1.alloc (.cells #[zu 0,zu 0,.slice none 0 0] 25)) λw2=>ldS w2 ((zB w).add 2) λx1=>(0<=(x1.l:Int)/\(x1.l:Int)<=(x1.l:Int)/\40*(x1.l:Int)<=281474976710656/\(x1.l:Int)<=9223372036854775807)/\Nw (w2.alloc (.cells (madeCells #[zh 0,zu 0,zu 0,.slice none 0 0] (x1.l*4)) 44)) λw3=>zm (S:=Int×Unit) (λs2 w4 n3=>ldS w4 ((zB w).add 2) λx4=>ifB (decide (s2.1<(x4.l:Int))) (ldS w4 ((zB w).add 2) λx5=>(0<=s2.1/\s2.1<(x5.l:Int))/\zc x5.a λa6=>dc w4 (a6.add (s2.1.toNat *4)) λx7 x8 x9 x10=>dp 33 #[.agg #[zh x7,zu x8,zu x9,x10.zw]] w4 λx12 w5=>(0<=s2.1/\s2.1<(x1.l:Int))/\Wr w5 ((zB w2).add (s2.1.toNat *4))/\Nw (w5.setCell ((zB w2).add (s2.1.toNat *4)) (zh x12.1)) λw6=>Wr w6 (((zB w2).add (s2.1.toNat *4)).add 1)/\Nw (w6.setCell (((zB w2).add (s2.1.toNat *4)).add 1) (zu x12.2.1)) λw7=>Wr w7 (((zB w2).add (s2.1.toNat *4)).add 2)/\Nw (w7.setCell (((zB w2).add (s2.1.toNat *4)).add 2) (zu x12.2.2.1)) λw8=>Wr w8 (((zB w2).add (s2.1.toNat *4)).add 3)/\Nw (w8.setCell (((zB w2).add (s2.1.toNat *4)).add 3) (x12.2.2.2.1.zw)) λw9=>n3 ((IntKind.i64.wrap (s2.1+(1:Int))),()) w9) (Wr w4 ((zB w).add 2)/\Nw (w4.setCell ((zB w).add 2) (.slice (some (zB w2)) x1.l x1.l)) λw10=>da w10 (zB w) λx13 x14 x15=>de w10 (zB w1) (zu x13) (zu x14) (x15.zw) λw13=>da w13 (zB w1) λx16 x17 x18=>R (.agg #[zu x16,zu x17,x18.zw]) w13)) (0,()) w3
theorem zbu(p0)(R)(w)(h:ZX p0 R w):Calls Tryz.prog 9 #[.agg #[.int .u32 p0.1,.int .u32 p0.2.1,.slice p0.2.2.1.a p0.2.2.1.l p0.2.2.1.c]] w (Ret R):=lwC Ya Tryz.func9 (by kernel_rfl) (by kernel_rfl) h
def yT:Ann:=(.q (.q .nil))
def yR(p0:Sl)(p1:Int)(R:VWP)(w:World):Prop:=dq 153 #[p0.zw,zu p1] w λx2 w1=>R (.bool (decide (x2≥(0:Int)))) w1
theorem ZV(p0)(p1)(R)(w)(h:yR p0 p1 R w):Calls Tryz.prog 114 #[.slice p0.a p0.l p0.c,.int .u32 p1] w (Ret R):=lwC yT Tryz.func114 (by kernel_rfl) (by kernel_rfl) h
def Zr:Ann:=(.q (.seq none (.q (.one (.loop ⟨[0,1,7],[(8,(.b (.int .i64)))]⟩ (.q (.seq none .c (.seq none (.one (.q (.q (.cond (.q .nil) .nil)))) .nil)))))) (.q .nil)))
def Zq(p0:Sl)(p1:Int)(R:VWP)(w:World):Prop:=zm (S:=Int×Unit) (λs1 w1 n2=>ifB (decide (s1.1<(p0.l:Int))) ((0<=s1.1/\s1.1<(p0.l:Int))/\zc p0.a λa3=>ldI w1 (a3.add s1.1.toNat) .u32 λx4=>ifB (p1==x4) (R (zi s1.1) w1) (n2 ((IntKind.i64.wrap (s1.1+(1:Int))),()) w1)) (R (zi (-1:Int)) w1)) (0,()) w
theorem YB(p0)(p1)(R)(w)(h:Zq p0 p1 R w):Calls Tryz.prog 153 #[.slice p0.a p0.l p0.c,.int .u32 p1] w (Ret R):=lwC Zr Tryz.func153 (by kernel_rfl) (by kernel_rfl) h
end Go.Proofs
namespace Go.Proofs
open Go.Gk
set_option linter.unusedVariables false
set_option maxRecDepth 100000
def zk6:Ann:=(.q (.q (.seq (some ⟨[1],[(3,(.b .slice))]⟩) (.q .c) (.seq none (.q (.one (.loop ⟨[15,16],[(3,(.b .slice)),(17,(.b (.int .i64)))]⟩ (.q (.seq none .c (.seq (some ⟨[15,16,17],[(3,(.b .slice))]⟩) (.one (.q (.q .c))) .nil)))))) (.q .nil)))))
def zk2(p0:(Int×Int×Int×Sl×Unit))(R:VWP)(w:World):Prop:=Nw (w.alloc (.cells #[zh p0.1,zu p0.2.1,zu p0.2.2.1,p0.2.2.2.1.zw] 44)) λw1=>zo (S:=Sl×Unit) (λm1=>ldI w1 ((zB w).add 1) .u32 λx3=>ifB (x3 !=0) (ldI w1 ((zB w).add 1) .u32 λx4=>Nw (w1.alloc (.cells #[zu x4] 22)) λw2=>zz Tryz.prog 56 (.slice none 0 0) (.slice (some (zB w1)) 1 1) w2 λr5 w3=>m1 (r5,()) w3) (m1 ((Sl.mk none 0 0),()) w1)) (λs2 w4=>ldS w4 ((zB w).add 3) λx6=>zm (S:=Sl×Int×Unit) (λs7 w5 n8=>ifB (decide (s7.2.1<(x6.l:Int))) (zo (S:=Sl×Unit) (λm9=>(0<=s7.2.1/\s7.2.1<(x6.l:Int))/\zc x6.a λa11=>dn w5 (a11.add (s7.2.1.toNat *3)) λx12 x13 x14=>Nw (w5.alloc (.cells #[zb 0,zu 0,.string (BM #[])] 123)) λw6=>de w6 (zB w5) (zb x12) (zu x13) (.string x14) λw9=>ldI w9 (zB w5) .u8 λx15=>ifB (x15==1) (ldI w9 ((zB w5).add 1) .u32 λx16=>Nw (w9.alloc (.cells #[zu x16] 22)) λw10=>zz Tryz.prog 56 (s7.1.zw) (.slice (some (zB w9)) 1 1) w10 λr17 w11=>m9 (r17,()) w11) (m9 (s7.1,()) w9)) (λs10 w12=>n8 (s10.1,(IntKind.i64.wrap (s7.2.1+(1:Int))),()) w12)) (R (s7.1.zw) w5)) (s2.1,0,()) w4)
theorem zkG(p0)(R)(w)(h:zk2 p0 R w):Calls Tryz.prog 73 #[.agg #[.int .u16 p0.1,.int .u32 p0.2.1,.int .u32 p0.2.2.1,.slice p0.2.2.2.1.a p0.2.2.2.1.l p0.2.2.2.1.c]] w (Ret R):=lwC zk6 Tryz.func73 (by kernel_rfl) (by kernel_rfl) h
def zic:Ann:=(.q (.q (.q .nil)))
def zhP(p0:(Int×Int×Sl×Unit))(R:VWP)(w:World):Prop:=Nw (w.alloc (.cells #[zu p0.1,zu p0.2.1,p0.2.2.1.zw] 25)) λw1=>Nw (w1.alloc (.cells #[zi 0,zi 0] 29)) λw2=>da w2 (zB w) λx1 x2 x3=>dr 131 #[.agg #[zu x1,zu x2,x3.zw]] w2 λx5 x6 w3=>dd w3 #[zi 0,zi 0] 29 (zi x6.1) (zi x6.2.1) λw6=>db w6 (zB w3) λx7 x8=>df w6 (zB w1) (zi x7) (zi x8) λw8=>db w8 (zB w1) λx9 x10=>R (.agg #[zi x9,zi x10]) w8
theorem zji(p0)(R)(w)(h:zhP p0 R w):Calls Tryz.prog 100 #[.agg #[.int .u32 p0.1,.int .u32 p0.2.1,.slice p0.2.2.1.a p0.2.2.1.l p0.2.2.1.c]] w (Ret R):=lwC zic Tryz.func100 (by kernel_rfl) (by kernel_rfl) h
def zjH:Ann:=(.q (.seq (some ⟨[1,3],[]⟩) (.q (.cond (.q .nil) .nil)) (.q (.q (.q (.seq none (.q (.one (.loop ⟨[1,3,27,28],[(4,(.b (.int .i64))),(6,(.b .slice)),(29,(.b (.int .i64)))]⟩ (.q (.seq none .c (.seq none (.one (.q (.q (.q (.seq none (.one (.q (.cond (.q .nil) (.q (.cond (.q .nil) .nil))))) .nil))))) .nil)))))) (.q .nil)))))))
def zjD(p0:(Int×Int×Sl×Unit))(R:VWP)(w:World):Prop:=Nw (w.alloc (.cells #[zu p0.1,zu p0.2.1,p0.2.2.1.zw] 25)) λw1=>Nw (w1.alloc (.cells #[zi 0,zi 0] 29)) λw2=>zo (S:=Unit) (λm1=>ldI w2 ((zB w).add 1) .u32 λx3=>ifB (x3==0) (df w2 (zB w1) (zi 24) (zi 0) λw4=>db w4 (zB w1) λx4 x5=>R (.tuple #[.slice none 0 0,.agg #[zi x4,zi x5]]) w4) (ldI w2 ((zB w).add 1) .u32 λx6=>ifB (decide (x6>(65536:Int))) (df w2 (zB w1) (zi 24) (zi 0) λw6=>db w6 (zB w1) λx7 x8=>R (.tuple #[.slice none 0 0,.agg #[zi x7,zi x8]]) w6) (m1 () w2))) (λs2 w7=>dt 161 #[.slice none 0 0] w7 λx10 x11 w8=>ldS w8 ((zB w).add 2) λx12=>zm (S:=Int×Sl×Int×Unit) (λs13 w9 n14=>ifB (decide (s13.2.2.1<(x12.l:Int))) ((0<=s13.2.2.1/\s13.2.2.1<(x12.l:Int))/\zc x12.a λa15=>dc w9 (a15.add (s13.2.2.1.toNat *4)) λx16 x17 x18 x19=>dg w9 #[zh 0,zu 0,zu 0,.slice none 0 0] 44 (zh x16) (zu x17) (zu x18) (x19.zw) λw14=>dc w14 (zB w9) λx20 x21 x22 x23=>ldI w14 ((zB w).add 1) .u32 λx24=>du 162 #[.agg #[zh x20,zu x21,zu x22,x23.zw],zu x24] w14 λx26 x27 w15=>dd w15 #[zh 0,.slice none 0 0] 251 (zh x26.1) (x26.2.1.zw) λw18=>ldS w18 ((zB w15).add 1) λx28=>ifB (x27 !=0) (df w18 (zB w1) (zi x27) (zi s13.2.2.1) λw20=>db w20 (zB w1) λx29 x30=>R (.tuple #[.slice none 0 0,.agg #[zi x29,zi x30]]) w20) (ifB (decide ((IntKind.i64.wrap (s13.1-(IntKind.i64.wrap (1+(x28.l:Int)))))<0)) (df w18 (zB w1) (zi 4) (zi s13.2.2.1) λw22=>db w22 (zB w1) λx31 x32=>R (.tuple #[.slice none 0 0,.agg #[zi x31,zi x32]]) w22) (ds w18 (zB w15) λx33 x34=>Nw (w18.alloc (.cells #[zh x33,x34.zw] 251)) λw23=>zz Tryz.prog 211 (s13.2.1.zw) (.slice (some (zB w18)) 1 1) w23 λr35 w24=>n14 ((IntKind.i64.wrap (s13.1-(IntKind.i64.wrap (1+(x28.l:Int))))),r35,(IntKind.i64.wrap (s13.2.2.1+(1:Int))),()) w24))) (df w9 (zB w1) (zi 0) (zi 0) λw26=>db w26 (zB w1) λx36 x37=>R (.tuple #[s13.2.1.zw,.agg #[zi x36,zi x37]]) w26)) ((IntKind.i64.wrap (1048576-x10)),(Sl.mk none 0 0),0,()) w8)
theorem zkh(p0)(R)(w)(h:zjD p0 R w):Calls Tryz.prog 131 #[.agg #[.int .u32 p0.1,.int .u32 p0.2.1,.slice p0.2.2.1.a p0.2.2.1.l p0.2.2.1.c]] w (Ret R):=lwC zjH Tryz.func131 (by kernel_rfl) (by kernel_rfl) h
def zih:Ann:=(.q (.q (.q .nil)))
def zhU(p0:Sl)(R:VWP)(w:World):Prop:=dv 178 #[p0.zw] w λx2 x3 w1=>dd w1 #[zi 0,zi 0] 29 (zi x3.1) (zi x3.2.1) λw4=>ldI w4.drew (zB w1) .i64 λx4=>R (.tuple #[zi x2,zi x4]) w4.drew
theorem zjt(p0)(R)(w)(h:zhU p0 R w):Calls Tryz.prog 161 #[.slice p0.a p0.l p0.c] w (Ret R):=lwC zih Tryz.func161 (by kernel_rfl) (by kernel_rfl) h
def zk7:Ann:=(.q (.q (.seq none (.q (.cond (.q .nil) .nil)) (.q (.q (.seq (some ⟨[2,4,6,8],[(9,(.b (.int .i64)))]⟩) (.q .c) (.q (.seq none (.q (.one (.loop ⟨[2,4,6,8,10,43,44],[(9,(.b (.int .i64))),(45,(.b (.int .i64)))]⟩ (.q (.seq none .c (.seq (some ⟨[2,4,6,8,10,43,44,45],[(9,(.b (.int .i64)))]⟩) (.one (.q (.q .c))) .nil)))))) (.seq (some ⟨[2,4,8],[(9,(.b (.int .i64)))]⟩) (.q .c) (.seq (some ⟨[2,4,8],[(9,(.b (.int .i64)))]⟩) (.q .c) (.seq none (.q (.cond (.q .nil) .nil)) (.q .nil))))))))))))
def zk3(p0:(Int×Int×Int×Sl×Unit))(p1:Int)(R:VWP)(w:World):Prop:=Nw (w.alloc (.cells #[zh p0.1,zu p0.2.1,zu p0.2.2.1,p0.2.2.2.1.zw] 44)) λw1=>Nw (w1.alloc (.cells #[zh 0,.slice none 0 0] 251)) λw2=>ldI w2 (zB w) .u16 λx1=>dy 179 #[zh x1] w2 λx3 x4 w3=>Nw (w3.alloc (.cells #[zh 0,.string (BM #[]),.bool false,.bool false,.string (BM #[]),.string (BM #[]),zi 0,zb 0] 274)) λw4=>dx w4 (zB w3) (zh x3.1) (.string x3.2.1) (.bool x3.2.2.1) (.bool x3.2.2.2.1) (.string x3.2.2.2.2.1) (.string x3.2.2.2.2.2.1) (zi x3.2.2.2.2.2.2.1) (zb x3.2.2.2.2.2.2.2.1) λw12=>ifB (!x4) (df w12 (zB w1) (zh 0) (.slice none 0 0) λw14=>ds w14 (zB w1) λx5 x6=>R (.tuple #[.agg #[zh x5,x6.zw],zi 30]) w14) (dw w12 (zB w3) λx7 x8 x9 x10 x11 x12 x13 x14=>Nw (w12.alloc (.cells #[zh x7,.string x8,.bool x9,.bool x10,.string x11,.string x12,zi x13,zb x14,zu p1,.slice none 0 0,zi 0] 279)) λw15=>ldB w15 ((zB w3).add 2) λx15=>ldI w15 ((zB w).add 1) .u32 λx16=>dq 180 #[.pointer (some (zB w12)),.bool x15,zu x16,zi 40] w15 λx18 w16=>zo (S:=Int×Unit) (λm19=>ifB (x18==0) (ldB w16 ((zB w3).add 3) λx21=>ldI w16 ((zB w).add 2) .u32 λx22=>dq 180 #[.pointer (some (zB w12)),.bool x21,zu x22,zi 41] w16 λx24 w17=>m19 (x24,()) w17) (m19 (x18,()) w16)) (λs20 w18=>ldS w18 ((zB w).add 3) λx25=>zm (S:=Int×Int×Unit) (λs26 w19 n27=>ifB (decide (s26.2.1<(x25.l:Int))) (zo (S:=Int×Unit) (λm28=>(0<=s26.2.1/\s26.2.1<(x25.l:Int))/\zc x25.a λa30=>dn w19 (a30.add (s26.2.1.toNat *3)) λx31 x32 x33=>Nw (w19.alloc (.cells #[zb 0,zu 0,.string (BM #[])] 123)) λw20=>de w20 (zB w19) (zb x31) (zu x32) (.string x33) λw23=>ifB (s26.1==0) (dn w23 (zB w19) λx34 x35 x36=>dq 181 #[.pointer (some (zB w12)),zi s26.2.1,.agg #[zb x34,zu x35,.string x36]] w23 λx38 w24=>m28 (x38,()) w24) (m28 (s26.1,()) w23)) (λs29 w25=>n27 (s29.1,(IntKind.i64.wrap (s26.2.1+(1:Int))),()) w25)) (zo (S:=Int×Unit) (λm39=>ifB (s26.1==0) (dw w19 (zB w3) λx41 x42 x43 x44 x45 x46 x47 x48=>ldS w19 ((zB w).add 3) λx49=>dq 182 #[.agg #[zh x41,.string x42,.bool x43,.bool x44,.string x45,.string x46,zi x47,zb x48],x49.zw] w19 λx51 w26=>m39 (x51,()) w26) (m39 (s26.1,()) w19)) (λs40 w27=>zo (S:=Int×Unit) (λm52=>ifB (s40.1==0) (ldI w27 ((zB w12).add 10) .i64 λx54=>ifB (decide (x54≥(65535:Int))) (m52 (25,()) w27) (m52 (s40.1,()) w27)) (m52 (s40.1,()) w27)) (λs53 w28=>ifB (s53.1 !=0) (df w28 (zB w1) (zh 0) (.slice none 0 0) λw30=>ds w30 (zB w1) λx55 x56=>R (.tuple #[.agg #[zh x55,x56.zw],zi s53.1]) w30) (ldI w28.drew (zB w) .u16 λx57=>ldS w28.drew ((zB w12).add 9) λx58=>df w28.drew (zB w1) (zh x57) (x58.zw) λw32=>ds w32 (zB w1) λx59 x60=>R (.tuple #[.agg #[zh x59,x60.zw],zi 0]) w32))))) (s20.1,0,()) w18))
theorem zkH(p0)(p1)(R)(w)(h:zk3 p0 p1 R w):Calls Tryz.prog 162 #[.agg #[.int .u16 p0.1,.int .u32 p0.2.1,.int .u32 p0.2.2.1,.slice p0.2.2.2.1.a p0.2.2.2.1.l p0.2.2.2.1.c],.int .u32 p1] w (Ret R):=lwC zk7 Tryz.func162 (by kernel_rfl) (by kernel_rfl) h
def zfg:Ann:=(.q (.q (.seq none (.q (.one (.loop ⟨[3,7,8],[(4,(.b (.int .i64))),(9,(.b (.int .i64)))]⟩ (.q (.seq none .c (.seq none (.one (.q (.q (.one (.q (.cond (.q .nil) (.q (.cond (.q .nil) .nil)))))))) .nil)))))) (.q .nil))))
def zfb(p0:Sl)(R:VWP)(w:World):Prop:=Nw (w.alloc (.cells #[zi 0,zi 0] 29)) λw1=>zm (S:=Int×Int×Unit) (λs1 w2 n2=>ifB (decide (s1.2.1<(p0.l:Int))) ((0<=s1.2.1/\s1.2.1<(p0.l:Int))/\zc p0.a λa3=>ds w2 (a3.add (s1.2.1.toNat *2)) λx4 x5=>dd w2 #[zh 0,.slice none 0 0] 251 (zh x4) (x5.zw) λw5=>ldS w5 ((zB w2).add 1) λx6=>ldS w5 ((zB w2).add 1) λx7=>ifB (decide ((x7.l:Int)≥65535)) (df w5 (zB w) (zi 25) (zi s1.2.1) λw7=>db w7 (zB w) λx8 x9=>R (.tuple #[zi 0,.agg #[zi x8,zi x9]]) w7) (ifB (decide ((IntKind.i64.wrap (s1.1+(IntKind.i64.wrap (1+(x6.l:Int)))))>1048576)) (df w5 (zB w) (zi 4) (zi s1.2.1) λw9=>db w9 (zB w) λx10 x11=>R (.tuple #[zi 0,.agg #[zi x10,zi x11]]) w9) (n2 ((IntKind.i64.wrap (s1.1+(IntKind.i64.wrap (1+(x6.l:Int))))),(IntKind.i64.wrap (s1.2.1+(1:Int))),()) w5))) (df w2 (zB w) (zi 0) (zi 0) λw11=>db w11 (zB w) λx12 x13=>R (.tuple #[zi s1.1,.agg #[zi x12,zi x13]]) w11)) (5,0,()) w1
theorem zgK(p0)(R)(w)(h:zfb p0 R w):Calls Tryz.prog 178 #[.slice p0.a p0.l p0.c] w (Ret R):=lwC zfg Tryz.func178 (by kernel_rfl) (by kernel_rfl) h
def zc2:Ann:=(.q (.seq none (.one (.q (.cond (.q .nil) (.q (.cond (.q .nil) .nil))))) (.q (.q .nil))))
def zcu(p0:Option Addr)(p1:Bool)(p2:Int)(p3:Int)(R:VWP)(w:World):Prop:=ifB (!(p1==(p2 !=0))) (R (zi p3) w) (ifB (!p1) (R (zi 0) w) (cR 192 #[.pointer p0,zu p2] w λv1 w1=>v1=(.tuple #[])/\zc p0 λa2=>ldI w1 (a2.add 8) .u32 λx3=>dq 193 #[zu p2,zu x3] w1 λx5 w2=>R (zi x5) w2))
theorem zeA(p0)(p1)(p2)(p3)(R)(w)(h:zcu p0 p1 p2 p3 R w):Calls Tryz.prog 180 #[.pointer p0,.bool p1,.int .u32 p2,.int .i64 p3] w (Ret R):=lwC zc2 Tryz.func180 (by kernel_rfl) (by kernel_rfl) h
def zdn:Ann:=(.q (.q (.q (.seq (some ⟨[0,5,7],[]⟩) (.one (.q (.cond (.q .nil) (.q (.cond (.q .nil) .nil))))) (.q (.seq none (.q (.one (.q (.cond (.q .nil) (.q (.cond (.q .nil) .nil)))))) (.q .nil)))))))
def zdf(p0:Option Addr)(p1:Int)(p2:(Int×Int×ByteArray×Unit))(R:VWP)(w:World):Prop:=Nw (w.alloc (.cells #[zb p2.1,zu p2.2.1,.string p2.2.2.1] 123)) λw1=>zc p0 λa1=>ldI w1 a1 .u16 λx2=>dA 194 #[zh x2,zi p1] w1 λx4 w2=>ldI w2 (zB w) .u8 λx5=>zo (S:=Unit) (λm6=>ifB (x4==0) (R (zi 42) w2.drew) (ldI w2.drew (zB w) .u8 λx8=>dA 195 #[zb x4] w2.drew λx10 w3=>w3.cell? (zB w)=some (zb x8)/\ifB (x8 !=x10) (R (zi 42) w3) (ifB (x5==3) (ldI w3 ((zB w).add 1) .u32 λx11=>ifB (x11 !=0) (R (zi 42) w3) (ifB (!(x5==3)) (zy w3 ((zB w).add 2) λx12=>ifB (!(x12.toList==(BM #[]).toList)) (R (zi 42) w3) (ifB (x5==3) (zy w3 ((zB w).add 2) λx13=>dq 196 #[.pointer p0,.string x13] w3 λx15 w4=>R (zi x15) w4) (m6 () w3))) (ifB (x5==3) (zy w3 ((zB w).add 2) λx16=>dq 196 #[.pointer p0,.string x16] w3 λx18 w5=>R (zi x18) w5) (m6 () w3)))) (ifB (!(x5==3)) (zy w3 ((zB w).add 2) λx19=>ifB (!(x19.toList==(BM #[]).toList)) (R (zi 42) w3) (ifB (x5==3) (zy w3 ((zB w).add 2) λx20=>dq 196 #[.pointer p0,.string x20] w3 λx22 w6=>R (zi x22) w6) (m6 () w3))) (ifB (x5==3) (zy w3 ((zB w).add 2) λx23=>dq 196 #[.pointer p0,.string x23] w3 λx25 w7=>R (zi x25) w7) (m6 () w3)))))) (λs7 w8=>ldI w8 ((zB w).add 1) .u32 λx26=>cR 192 #[.pointer p0,zu x26] w8 λv27 w9=>v27=(.tuple #[])/\ldI w9 (zB w) .u8 λx28=>ifB (x28==1) (ldI w9.drew ((zB w).add 1) .u32 λx29=>zc p0 λa30=>ldI w9.drew (a30.add 8) .u32 λx31=>dq 193 #[zu x29,zu x31] w9.drew λx33 w10=>R (zi x33) w10) (ifB (x28==4) (ldI w9 ((zB w).add 1) .u32 λx34=>dq 197 #[zb x4,zu x34] w9 λx36 w11=>R (zi x36) w11) (R (zi 0) w9)))
theorem zfq(p0)(p1)(p2)(R)(w)(h:zdf p0 p1 p2 R w):Calls Tryz.prog 181 #[.pointer p0,.int .i64 p1,.agg #[.int .u8 p2.1,.int .u32 p2.2.1,.string p2.2.2.1]] w (Ret R):=lwC zdn Tryz.func181 (by kernel_rfl) (by kernel_rfl) h
def zie:Ann:=(.q (.q (.seq none (.q (.one (.loop ⟨[2,10,11],[(5,(.b .slice)),(12,(.b (.int .i64)))]⟩ (.q (.seq none .c (.seq none (.one (.q .nil)) .nil)))))) (.seq none (.q (.q (.cond (.q .nil) .nil))) (.q .nil)))))
def zhR(p0:(Int×ByteArray×Bool×Bool×ByteArray×ByteArray×Int×Int×Unit))(p1:Sl)(R:VWP)(w:World):Prop:=Nw (w.alloc (.cells #[zh p0.1,.string p0.2.1,.bool p0.2.2.1,.bool p0.2.2.2.1,.string p0.2.2.2.2.1,.string p0.2.2.2.2.2.1,zi p0.2.2.2.2.2.2.1,zb p0.2.2.2.2.2.2.2.1] 274)) λw1=>zm (S:=Sl×Int×Unit) (λs1 w2 n2=>ifB (decide (s1.2.1<(p1.l:Int))) ((0<=s1.2.1/\s1.2.1<(p1.l:Int))/\zc p1.a λa3=>dn w2 (a3.add (s1.2.1.toNat *3)) λx4 x5 x6=>Nw (w2.alloc (.cells #[zb 0,zu 0,.string (BM #[])] 123)) λw3=>de w3 (zB w2) (zb x4) (zu x5) (.string x6) λw6=>ldI w6 (zB w2) .u8 λx7=>Nw (w6.alloc (.cells #[zb x7] 5)) λw7=>zz Tryz.prog 217 (s1.1.zw) (.slice (some (zB w6)) 1 1) w7 λr8 w8=>n2 (r8,(IntKind.i64.wrap (s1.2.1+(1:Int))),()) w8) (ldI w2 (zB w) .u16 λx9=>dB 198 #[zh x9,s1.1.zw] w2 λx11 x12 w9=>ifB (!x12) (R (zi 42) w9) (R (zi 0) w9))) ((Sl.mk none 0 0),0,()) w1
theorem zjk(p0)(p1)(R)(w)(h:zhR p0 p1 R w):Calls Tryz.prog 182 #[.agg #[.int .u16 p0.1,.string p0.2.1,.bool p0.2.2.1,.bool p0.2.2.2.1,.string p0.2.2.2.2.1,.string p0.2.2.2.2.2.1,.int .i64 p0.2.2.2.2.2.2.1,.int .u8 p0.2.2.2.2.2.2.2.1],.slice p1.a p1.l p1.c] w (Ret R):=lwC zie Tryz.func182 (by kernel_rfl) (by kernel_rfl) h
def zdo:Ann:=(.q .nil)
def zdg(p0:Option Addr)(p1:Int)(R:VWP)(w:World):Prop:=zc p0 λa1=>ldS w (a1.add 9) λx2=>Nw (w.alloc (.cells #[zu p1] 22)) λw1=>zz Tryz.prog 56 (x2.zw) (.slice (some (zB w)) 1 1) w1 λr3 w2=>zc p0 λa4=>Wr w2 (a4.add 9)/\Nw (w2.setCell (a4.add 9) (r3.zw)) λw3=>zc p0 λa5=>ldI w3 (a5.add 10) .i64 λx6=>zc p0 λa7=>Wr w3 (a7.add 10)/\Nw (w3.setCell (a7.add 10) (zi (IntKind.i64.wrap (x6+(1:Int))))) λw4=>R (.tuple #[]) w4
theorem zfr(p0)(p1)(R)(w)(h:zdg p0 p1 R w):Calls Tryz.prog 192 #[.pointer p0,.int .u32 p1] w (Ret R):=lwC zdo Tryz.func192 (by kernel_rfl) (by kernel_rfl) h
def zlQ:Ann:=(.q (.seq none (.q (.cond (.q .nil) .nil)) (.q .nil)))
def zlN(p0:Int)(p1:Int)(R:VWP)(w:World):Prop:=ifB (p0==0) (R (zi 43) w) (ifB (decide (p0≥p1)) (R (zi 43) w) (R (zi 0) w))
theorem zl9(p0)(p1)(R)(w)(h:zlN p0 p1 R w):Calls Tryz.prog 193 #[.int .u32 p0,.int .u32 p1] w (Ret R):=lwC zlQ Tryz.func193 (by kernel_rfl) (by kernel_rfl) h
def zc3:Ann:=(.q (.seq none (.q (.cond (.q .nil) .nil)) (.q (.seq none (.q (.cond (.q (.q .nil)) .nil)) (.q (.q (.q .nil)))))))
def zcv(p0:Option Addr)(p1:ByteArray)(R:VWP)(w:World):Prop:=dq 206 #[.string p1,zb 0] w λx2 w1=>ifB (decide (x2≥(0:Int))) (R (zi 13) w1) (dC 207 #[.string p1] w1 λx4 x5 w2=>ifB (x5 !=0) (zc p0 λa6=>ldI w2.drew (a6.add 10) .i64 λx7=>dq 208 #[.string p1] w2.drew λx9 w3=>w3.cell? (a6.add 10)=some (zi x7)/\zc p0 λa10=>Wr w3 (a10.add 10)/\Nw (w3.setCell (a10.add 10) (zi (IntKind.i64.wrap (x7+x9)))) λw4=>R (zi 0) w4) (zc p0 λa11=>ldS w2 (a11.add 9) λx12=>zz Tryz.prog 56 (x12.zw) (x4.zw) w2 λr13 w5=>zc p0 λa14=>Wr w5 (a14.add 9)/\Nw (w5.setCell (a14.add 9) (r13.zw)) λw6=>zc p0 λa15=>ldI w6 (a15.add 10) .i64 λx16=>zc p0 λa17=>Wr w6 (a17.add 10)/\Nw (w6.setCell (a17.add 10) (zi (IntKind.i64.wrap (x16+(x4.l:Int))))) λw7=>R (zi 0) w7))
theorem zeB(p0)(p1)(R)(w)(h:zcv p0 p1 R w):Calls Tryz.prog 196 #[.pointer p0,.string p1] w (Ret R):=lwC zc3 Tryz.func196 (by kernel_rfl) (by kernel_rfl) h
def zid:Ann:=(.q (.seq none (.q (.q (.cond (.q .nil) .nil))) (.q .nil)))
def zhQ(p0:Int)(p1:Int)(R:VWP)(w:World):Prop:=dD 209 #[zb p0,zu p1] w λx2 x3 w1=>ifB (!x3) (R (zi 31) w1) (R (zi 0) w1)
theorem zjj(p0)(p1)(R)(w)(h:zhQ p0 p1 R w):Calls Tryz.prog 197 #[.int .u8 p0,.int .u32 p1] w (Ret R):=lwC zid Tryz.func197 (by kernel_rfl) (by kernel_rfl) h
def zbR:Ann:=(.q (.q .nil))
def zb8(p0:ByteArray)(p1:Int)(R:VWP)(w:World):Prop:=dq 212 #[.string p0,zb p1] w λx2 w1=>R (zi x2) w1
theorem zey(p0)(p1)(R)(w)(h:zb8 p0 p1 R w):Calls Tryz.prog 206 #[.string p0,.int .u8 p1] w (Ret R):=lwC zbR Tryz.func206 (by kernel_rfl) (by kernel_rfl) h
def zfK:Ann:=(.q (.seq none (.q (.one (.loop ⟨[0,8],[(9,(.b (.int .i64)))]⟩ (.q (.seq none .c (.seq none (.one (.q (.q (.cond (.q .nil) .nil)))) .nil)))))) (.seq none (.q (.cond (.q .nil) .nil)) (.q (.seq none (.q (.one (.loop ⟨[0,5,24],[(25,(.b (.int .i64)))]⟩ (.q (.seq none .c (.seq none (.one (.q .nil)) .nil)))))) (.q .nil))))))
def zf9(p0:ByteArray)(R:VWP)(w:World):Prop:=zm (S:=Int×Unit) (λs1 w1 n2=>ifB (decide (s1.1<(p0.size:Int))) ((0<=s1.1/\s1.1<(p0.size:Int))/\ifB ((zdu p0 s1.1)==0) (R (.tuple #[.slice none 0 0,zi 13]) w1) (n2 ((IntKind.i64.wrap (s1.1+(1:Int))),()) w1)) (dq 208 #[.string p0] w1 λx4 w2=>ifB (decide (x4>(65535:Int))) (R (.tuple #[.slice none 0 0,zi 4]) w2) (dq 208 #[.string p0] w2 λx6 w3=>(0<=x6/\x6<=x6/\4*x6<=281474976710656/\x6<=9223372036854775807)/\Nw (w3.alloc (.cells (madeCells #[zu 0] (x6.toNat *1)) 22)) λw4=>zm (S:=Int×Unit) (λs7 w5 n8=>ifB (decide (s7.1<(p0.size:Int))) ((0<=(IntKind.i64.wrap (Int.tdiv s7.1 4))/\(IntKind.i64.wrap (Int.tdiv s7.1 4))<(x6.toNat:Int))/\ldI w5.drew ((zB w3).add (Int.toNat (IntKind.i64.wrap (Int.tdiv s7.1 4)))) .u32 λx9=>(0<=s7.1/\s7.1<(p0.size:Int))/\ifB (decide ((IntKind.i64.wrap (8*(Int.tmod s7.1 4)))<0)) (False) ((0<=(IntKind.i64.wrap (Int.tdiv s7.1 4))/\(IntKind.i64.wrap (Int.tdiv s7.1 4))<(x6.toNat:Int))/\Wr w5.drew ((zB w3).add (Int.toNat (IntKind.i64.wrap (Int.tdiv s7.1 4))))/\Nw (w5.drew.setCell ((zB w3).add (Int.toNat (IntKind.i64.wrap (Int.tdiv s7.1 4)))) (zu (IntKind.u32.wrap (BitVec.toNat (BitVec.ofInt (IntKind.bits .u32) x9 ||| BitVec.ofInt (IntKind.bits .u32) (IntKind.u32.wrap ((IntKind.u32.wrap (zdu p0 s7.1))*2 ^ (min (Int.toNat (IntKind.i64.wrap (8*(Int.tmod s7.1 4)))) (IntKind.bits .u32))))):Int)))) λw6=>n8 ((IntKind.i64.wrap (s7.1+(1:Int))),()) w6)) (R (.tuple #[.slice (some (zB w3)) x6.toNat x6.toNat,zi 0]) w5)) (0,()) w4))) (0,()) w
theorem zhM(p0)(R)(w)(h:zf9 p0 R w):Calls Tryz.prog 207 #[.string p0] w (Ret R):=lwC zfK Tryz.func207 (by kernel_rfl) (by kernel_rfl) h
def zin:Ann:=(.q (.q .nil))
def zia(p0:ByteArray)(R:VWP)(w:World):Prop:=R (zi (IntKind.i64.wrap ((IntKind.i64.wrap (Int.tdiv (p0.size:Int) 4))+1))) w
theorem zjB(p0)(R)(w)(h:zia p0 R w):Calls Tryz.prog 208 #[.string p0] w (Ret R):=lwC zin Tryz.func208 (by kernel_rfl) (by kernel_rfl) h
def yS:Ann:=(.q (.q .nil))
def yQ(p0:ByteArray)(p1:Int)(R:VWP)(w:World):Prop:=extR Tryz.prog 214 #[.string p0,zb p1] w λv1 w1=>∃x2:Int,v1=(zi x2)/\R (zi x2) w1
theorem ZU(p0)(p1)(R)(w)(h:yQ p0 p1 R w):Calls Tryz.prog 212 #[.string p0,.int .u8 p1] w (Ret R):=lwC yS Tryz.func212 (by kernel_rfl) (by kernel_rfl) h
end Go.Proofs
namespace Go.Proofs
open Go.Gk
set_option linter.unusedVariables false
set_option maxRecDepth 100000
end Go.Proofs
namespace Go.Proofs
open Go.Gk
set_option linter.unusedVariables false
set_option maxRecDepth 100000
def zii:Ann:=(.q (.q (.seq none (.q (.cond (.q .nil) .nil)) (.q (.q (.seq none (.q (.one (.loop ⟨[2,5,6,30],[]⟩ (.q (.seq none .c (.one (.q (.seq (some ⟨[2,5,6,8,30],[]⟩) .nil .nil)))))))) (.seq (some ⟨[2,6],[]⟩) (.q .c) (.q .nil))))))))
def zhV(p0:Int)(R:VWP)(w:World):Prop:=Nw (w.alloc (.cells #[zh 0,.string (BM #[]),.bool false,.bool false,.string (BM #[]),.string (BM #[]),zi 0,zb 0] 274)) λw1=>dF 190 #[zh p0] w1 λx2 w2=>ifB (x2.toList==(BM #[]).toList) (dx w2 (zB w) (zh 0) (.string (BM #[])) (.bool false) (.bool false) (.string (BM #[])) (.string (BM #[])) (zi 0) (zb 0) λw10=>dw w10 (zB w) λx3 x4 x5 x6 x7 x8 x9 x10=>R (.tuple #[.agg #[zh x3,.string x4,.bool x5,.bool x6,.string x7,.string x8,zi x9,zb x10],.bool false]) w10) (dG 191 #[.string x2] w2 λx12 w11=>Nw (w11.alloc (.cells #[.string (BM #[]),.string (BM #[]),.string (BM #[]),.string (BM #[]),.string (BM #[]),.string (BM #[])] 291)) λw12=>dE w12 (zB w11) (.string x12.1) (.string x12.2.1) (.string x12.2.2.1) (.string x12.2.2.2.1) (.string x12.2.2.2.2.1) (.string x12.2.2.2.2.2.1) λw18=>(0<=(0:Int)/\(0:Int)<6)/\zy w18.drew ((zB w11).add 0) λx13=>(0<=(2:Int)/\(2:Int)<6)/\zy w18.drew ((zB w11).add 2) λx14=>(0<=(3:Int)/\(3:Int)<6)/\zy w18.drew ((zB w11).add 3) λx15=>(0<=(5:Int)/\(5:Int)<6)/\zy w18.drew ((zB w11).add 5) λx16=>(0<=(0:Int)/\0<(x16.size:Int))/\Nw (w18.drew.alloc (.cells #[zh 0,.string (BM #[]),.bool false,.bool false,.string (BM #[]),.string (BM #[]),zi 0,zb 0] 274)) λw19=>w19.cell? ((zB w11).add 5)=some (.string x16)/\w19.cell? ((zB w11).add 3)=some (.string x15)/\w19.cell? ((zB w11).add 2)=some (.string x14)/\w19.cell? ((zB w11).add 0)=some (.string x13)/\dx w19 (blk w18.drew.heap.size) (zh p0) (.string x13) (.bool false) (.bool false) (.string x14) (.string x15) (zi 0) (zb (IntKind.u8.wrap ((zdu x16 0)-48))) λw27=>(0<=(1:Int)/\(1:Int)<6)/\zy w27 ((zB w11).add 1) λx17=>Nw (w27.alloc (.stringIter x17 0)) λw28=>zm (S:=Unit) (λs18 w29 n19=>zo8 w27.heap.size w29 (λi20 c21 w30=>zo (S:=Unit) (λm22=>ldB w30 ((blk w18.drew.heap.size).add 2) λx24=>ifB x24 (Wr w30 ((blk w18.drew.heap.size).add 2)/\Nw (w30.setCell ((blk w18.drew.heap.size).add 2) (.bool true)) λw31=>m22 () w31) (Wr w30 ((blk w18.drew.heap.size).add 2)/\Nw (w30.setCell ((blk w18.drew.heap.size).add 2) (.bool (c21==84))) λw32=>m22 () w32)) (λs23 w33=>ldB w33 ((blk w18.drew.heap.size).add 3) λx25=>ifB x25 (Wr w33 ((blk w18.drew.heap.size).add 3)/\Nw (w33.setCell ((blk w18.drew.heap.size).add 3) (.bool true)) λw34=>n19 () w34) (Wr w33 ((blk w18.drew.heap.size).add 3)/\Nw (w33.setCell ((blk w18.drew.heap.size).add 3) (.bool (c21==82))) λw35=>n19 () w35))) (zo (S:=Unit) (λm26=>(0<=(4:Int)/\(4:Int)<6)/\zy w29 ((zB w11).add 4) λx28=>ifB (!(x28.toList==(BM #[]).toList)) ((0<=(4:Int)/\(4:Int)<6)/\zy w29 ((zB w11).add 4) λx29=>(0<=(0:Int)/\0<(x29.size:Int))/\Wr w29 ((blk w18.drew.heap.size).add 6)/\Nw (w29.setCell ((blk w18.drew.heap.size).add 6) (zi (IntKind.i64.wrap (IntKind.u8.wrap ((zdu x29 0)-48))))) λw36=>m26 () w36) (m26 () w29)) (λs27 w37=>dw w37 (blk w18.drew.heap.size) λx30 x31 x32 x33 x34 x35 x36 x37=>dx w37 (zB w) (zh x30) (.string x31) (.bool x32) (.bool x33) (.string x34) (.string x35) (zi x36) (zb x37) λw45=>dw w45 (zB w) λx38 x39 x40 x41 x42 x43 x44 x45=>R (.tuple #[.agg #[zh x38,.string x39,.bool x40,.bool x41,.string x42,.string x43,zi x44,zb x45],.bool true]) w45))) () w28)
theorem zjv(p0)(R)(w)(h:zhV p0 R w):Calls Tryz.prog 179 #[.int .u16 p0] w (Ret R):=lwC zii Tryz.func179 (by kernel_rfl) (by kernel_rfl) h
def zgZ:Ann:=(.q (.seq none (.one (.q (.cond (.q .nil) (.q (.cond (.q .nil) .nil))))) (.q .nil)))
def zgR(p0:Int)(R:VWP)(w:World):Prop:=ifB (decide (p0<=(71:Int))) (dF 201 #[zh p0] w λx2 w1=>R (.string x2) w1) (ifB (decide (p0<=(171:Int))) (dF 202 #[zh p0] w λx4 w2=>R (.string x4) w2) (dF 203 #[zh p0] w λx6 w3=>R (.string x6) w3))
theorem zi8(p0)(R)(w)(h:zgR p0 R w):Calls Tryz.prog 190 #[.int .u16 p0] w (Ret R):=lwC zgZ Tryz.func190 (by kernel_rfl) (by kernel_rfl) h
def zdU:Ann:=(.q (.q (.q (.seq none (.q (.one (.loop ⟨[2,3,8],[(4,(.b (.int .i64)))]⟩ (.q (.seq none .c (.one (.q (.q .c)))))))) (.q .nil)))))
def zdL(p0:ByteArray)(R:VWP)(w:World):Prop:=Nw (w.alloc (.cells #[.string (BM #[]),.string (BM #[]),.string (BM #[]),.string (BM #[]),.string (BM #[]),.string (BM #[])] 291)) λw1=>Nw (w1.alloc (.cells #[.string (BM #[]),.string (BM #[]),.string (BM #[]),.string (BM #[]),.string (BM #[]),.string (BM #[])] 291)) λw2=>Nw (w2.alloc (.stringIter p0 0)) λw3=>zm (S:=Int×Unit) (λs1 w4 n2=>zo8 w2.heap.size w4 (λi3 c4 w5=>ifB (c4==32) (n2 ((IntKind.i64.wrap (s1.1+(1:Int))),()) w5) ((0<=s1.1/\s1.1<(6:Int))/\zy w5 ((zB w1).add s1.1.toNat) λx5=>zco x5 (Utf8.encode c4)/\(0<=s1.1/\s1.1<(6:Int))/\Wr w5 ((zB w1).add s1.1.toNat)/\Nw (w5.setCell ((zB w1).add s1.1.toNat) (.string (x5++(Utf8.encode c4)))) λw6=>n2 (s1.1,()) w6)) (dH w4 (zB w1) λx6 x7 x8 x9 x10 x11=>dE w4 (zB w) (.string x6) (.string x7) (.string x8) (.string x9) (.string x10) (.string x11) λw12=>dH w12 (zB w) λx12 x13 x14 x15 x16 x17=>R (.agg #[.string x12,.string x13,.string x14,.string x15,.string x16,.string x17]) w12)) (0,()) w3
theorem zfX(p0)(R)(w)(h:zdL p0 R w):Calls Tryz.prog 191 #[.string p0] w (Ret R):=lwC zdU Tryz.func191 (by kernel_rfl) (by kernel_rfl) h
def zdT:Ann:=(.q (.q (.q .nil)))
def zdK(p0:Int)(p1:Int)(R:VWP)(w:World):Prop:=dy 179 #[zh p0] w λx2 x3 w1=>Nw (w1.alloc (.cells #[zh 0,.string (BM #[]),.bool false,.bool false,.string (BM #[]),.string (BM #[]),zi 0,zb 0] 274)) λw2=>dx w2 (zB w1) (zh x2.1) (.string x2.2.1) (.bool x2.2.2.1) (.bool x2.2.2.2.1) (.string x2.2.2.2.2.1) (.string x2.2.2.2.2.2.1) (zi x2.2.2.2.2.2.2.1) (zb x2.2.2.2.2.2.2.2.1) λw10=>dw w10 (zB w1) λx4 x5 x6 x7 x8 x9 x10 x11=>dA 204 #[.agg #[zh x4,.string x5,.bool x6,.bool x7,.string x8,.string x9,zi x10,zb x11],zi p1] w10 λx13 w11=>R (zb x13) w11
theorem zfW(p0)(p1)(R)(w)(h:zdK p0 p1 R w):Calls Tryz.prog 194 #[.int .u16 p0,.int .i64 p1] w (Ret R):=lwC zdT Tryz.func194 (by kernel_rfl) (by kernel_rfl) h
def zfH:Ann:=(.q (.seq none (.q (.one (.q (.cond (.q .nil) (.q (.cond (.q .nil) (.q (.cond (.q .nil) .nil)))))))) (.seq none (.q (.cond (.q .nil) .nil)) (.q .nil))))
def zf6(p0:Int)(R:VWP)(w:World):Prop:=ifB (p0==105) (R (zb 1) w) (ifB (p0==110) (R (zb 2) w) (ifB (p0==115) (R (zb 3) w) (dF 205 #[zb p0] w λx2 w1=>ifB (!(x2.toList==(BM #[]).toList)) (R (zb 4) w1) (R (zb 0) w1))))
theorem zh6(p0)(R)(w)(h:zf6 p0 R w):Calls Tryz.prog 195 #[.int .u8 p0] w (Ret R):=lwC zfH Tryz.func195 (by kernel_rfl) (by kernel_rfl) h
def zfG:Ann:=(.q (.q (.seq none (.q (.cond (.q .nil) .nil)) (.q (.seq none (.q (.one (.loop ⟨[1,8,21,22],[(23,(.b (.int .i64)))]⟩ (.q (.seq none .c (.seq (some ⟨[1,8,21,22,23],[]⟩) (.one (.q (.q (.cond (.q .nil) .nil)))) .nil)))))) (.q (.seq none (.q (.cond (.q .nil) .nil)) (.q .nil))))))))
def zf5(p0:Int)(p1:Sl)(R:VWP)(w:World):Prop:=dy 179 #[zh p0] w λx2 x3 w1=>Nw (w1.alloc (.cells #[zh 0,.string (BM #[]),.bool false,.bool false,.string (BM #[]),.string (BM #[]),zi 0,zb 0] 274)) λw2=>dx w2 (zB w1) (zh x2.1) (.string x2.2.1) (.bool x2.2.2.1) (.bool x2.2.2.2.1) (.string x2.2.2.2.2.1) (.string x2.2.2.2.2.2.1) (zi x2.2.2.2.2.2.2.1) (zb x2.2.2.2.2.2.2.2.1) λw10=>ifB (!x3) (R (.tuple #[zi 0,.bool false]) w10) (dw w10 (zB w1) λx4 x5 x6 x7 x8 x9 x10 x11=>Nw (w10.alloc (.cells #[zh 0,.string (BM #[]),.bool false,.bool false,.string (BM #[]),.string (BM #[]),zi 0,zb 0] 301)) λw11=>dx w11 (zB w10) (zh x4) (.string x5) (.bool x6) (.bool x7) (.string x8) (.string x9) (zi x10) (zb x11) λw19=>zm (S:=Int×Unit) (λs12 w20 n13=>ifB (decide (s12.1<(p1.l:Int))) (zo (S:=Unit) (λm14=>(0<=s12.1/\s12.1<(p1.l:Int))/\zc p1.a λa16=>ldI w20 (a16.add s12.1.toNat) .u8 λx17=>ifB (x17==0) (R (.tuple #[zi s12.1,.bool false]) w20) (dw w20 (zB w10) λx18 x19 x20 x21 x22 x23 x24 x25=>dA 204 #[.agg #[zh x18,.string x19,.bool x20,.bool x21,.string x22,.string x23,zi x24,zb x25],zi s12.1] w20 λx27 w21=>dA 195 #[zb x27] w21 λx29 w22=>ifB (x29 !=x17) (R (.tuple #[zi s12.1,.bool false]) w22) (m14 () w22))) (λs15 w23=>n13 ((IntKind.i64.wrap (s12.1+(1:Int))),()) w23)) (zy w20 ((zB w10).add 4) λx30=>ifB (decide ((IntKind.i64.wrap ((p1.l:Int)-(x30.size:Int)))<0)) (R (.tuple #[zi (p1.l:Int),.bool false]) w20) (zy w20 ((zB w10).add 5) λx31=>ifB (!(x31.toList==(BM #[]).toList)) (zy w20 ((zB w10).add 5) λx32=>ifB (decide ((x32.size:Int)=0)) (False) (ifB ((Int.tmod (IntKind.i64.wrap ((p1.l:Int)-(x30.size:Int))) (x32.size:Int)) !=0) (R (.tuple #[zi (p1.l:Int),.bool false]) w20) (R (.tuple #[zi 0,.bool true]) w20))) (R (.tuple #[zi 0,.bool true]) w20)))) (0,()) w19)
theorem zh5(p0)(p1)(R)(w)(h:zf5 p0 p1 R w):Calls Tryz.prog 198 #[.int .u16 p0,.slice p1.a p1.l p1.c] w (Ret R):=lwC zfG Tryz.func198 (by kernel_rfl) (by kernel_rfl) h
def zfi:Ann:=(.q (.seq none (.q (.one (.q (.cond (.q .nil) (.q (.cond (.q .nil) (.q (.cond (.q .nil) (.q (.cond (.q .nil) (.q (.cond (.q .nil) (.q (.cond (.q .nil) (.q (.cond (.q .nil) (.q (.cond (.q .nil) (.q (.cond (.q .nil) (.q (.cond (.q .nil) (.q (.cond (.q .nil) (.q (.cond (.q .nil) (.q (.cond (.q .nil) (.q (.cond (.q .nil) (.q (.cond (.q .nil) (.q (.cond (.q .nil) (.q (.cond (.q .nil) (.q (.cond (.q .nil) (.q (.cond (.q .nil) (.q (.cond (.q .nil) (.q (.cond (.q .nil) (.q (.cond (.q .nil) (.q (.cond (.q .nil) (.q (.cond (.q .nil) (.q (.cond (.q .nil) (.q (.cond (.q .nil) (.q (.cond (.q .nil) (.q (.cond (.q .nil) (.q (.cond (.q .nil) (.q (.cond (.q .nil) (.q (.cond (.q .nil) .nil)))))))))))))))))))))))))))))))))))))))))))))))))))))))))))))))) (.q .nil)))
def zbq(p0:Int)(R:VWP)(w:World):Prop:=ifB (p0==1) (R (.string (BM #[79,112,85,110,100,101,102,32,84,82,32,32,32,32,55])) w) (ifB (p0==3) (R (.string (BM #[79,112,83,111,117,114,99,101,32,32,108,110,32,32,32,52])) w) (ifB (p0==5) (R (.string (BM #[79,112,78,97,109,101,32,32,105,115,32,32,32,53])) w) (ifB (p0==6) (R (.string (BM #[79,112,77,101,109,98,101,114,78,97,109,101,32,32,105,110,115,32,32,32,53])) w) (ifB (p0==7) (R (.string (BM #[79,112,83,116,114,105,110,103,32,82,32,115,32,32,32,52])) w) (ifB (p0==14) (R (.string (BM #[79,112,77,101,109,111,114,121,77,111,100,101,108,32,32,97,109,32,32,32,49])) w) (ifB (p0==15) (R (.string (BM #[79,112,69,110,116,114,121,80,111,105,110,116,32,32,101,105,115,32,105,32,32,50])) w) (ifB (p0==16) (R (.string (BM #[79,112,69,120,101,99,117,116,105,111,110,77,111,100,101,32,32,105,120,32,32,32,51])) w) (ifB (p0==17) (R (.string (BM #[79,112,67,97,112,97,98,105,108,105,116,121,32,32,107,32,32,32,48])) w) (ifB (p0==19) (R (.string (BM #[79,112,84,121,112,101,86,111,105,100,32,82,32,32,32,32,55])) w) (ifB (p0==20) (R (.string (BM #[79,112,84,121,112,101,66,111,111,108,32,82,32,32,32,32,55])) w) (ifB (p0==21) (R (.string (BM #[79,112,84,121,112,101,73,110,116,32,82,32,110,110,32,32,32,55])) w) (ifB (p0==23) (R (.string (BM #[79,112,84,121,112,101,86,101,99,116,111,114,32,82,32,105,110,32,32,32,55])) w) (ifB (p0==28) (R (.string (BM #[79,112,84,121,112,101,65,114,114,97,121,32,82,32,105,105,32,32,32,55])) w) (ifB (p0==30) (R (.string (BM #[79,112,84,121,112,101,83,116,114,117,99,116,32,82,32,32,105,32,32,55])) w) (ifB (p0==32) (R (.string (BM #[79,112,84,121,112,101,80,111,105,110,116,101,114,32,82,32,99,105,32,32,32,55])) w) (ifB (p0==33) (R (.string (BM #[79,112,84,121,112,101,70,117,110,99,116,105,111,110,32,82,32,105,32,105,32,32,55])) w) (ifB (p0==41) (R (.string (BM #[79,112,67,111,110,115,116,97,110,116,84,114,117,101,32,84,82,32,32,32,32,55])) w) (ifB (p0==42) (R (.string (BM #[79,112,67,111,110,115,116,97,110,116,70,97,108,115,101,32,84,82,32,32,32,32,55])) w) (ifB (p0==43) (R (.string (BM #[79,112,67,111,110,115,116,97,110,116,32,84,82,32,110,32,32,32,55])) w) (ifB (p0==44) (R (.string (BM #[79,112,67,111,110,115,116,97,110,116,67,111,109,112,111,115,105,116,101,32,84,82,32,32,105,32,32,55])) w) (ifB (p0==46) (R (.string (BM #[79,112,67,111,110,115,116,97,110,116,78,117,108,108,32,84,82,32,32,32,32,55])) w) (ifB (p0==54) (R (.string (BM #[79,112,70,117,110,99,116,105,111,110,32,84,82,32,102,105,32,32,32,56])) w) (ifB (p0==55) (R (.string (BM #[79,112,70,117,110,99,116,105,111,110,80,97,114,97,109,101,116,101,114,32,84,82,32,32,32,32,56])) w) (ifB (p0==56) (R (.string (BM #[79,112,70,117,110,99,116,105,111,110,69,110,100,32,32,32,32,32,56])) w) (ifB (p0==57) (R (.string (BM #[79,112,70,117,110,99,116,105,111,110,67,97,108,108,32,84,82,32,105,32,105,32,32,56])) w) (ifB (p0==59) (R (.string (BM #[79,112,86,97,114,105,97,98,108,101,32,84,82,32,99,32,105,32,49,32,55])) w) (ifB (p0==61) (R (.string (BM #[79,112,76,111,97,100,32,84,82,32,105,32,32,32,56])) w) (ifB (p0==62) (R (.string (BM #[79,112,83,116,111,114,101,32,32,105,105,32,32,32,56])) w) (ifB (p0==65) (R (.string (BM #[79,112,65,99,99,101,115,115,67,104,97,105,110,32,84,82,32,105,32,105,32,32,56])) w) (ifB (p0==71) (R (.string (BM #[79,112,68,101,99,111,114,97,116,101,32,32,105,100,32,110,32,32,54])) w) (R (.string (BM #[])) w)))))))))))))))))))))))))))))))
theorem zgM(p0)(R)(w)(h:zbq p0 R w):Calls Tryz.prog 201 #[.int .u16 p0] w (Ret R):=lwC zfi Tryz.func201 (by kernel_rfl) (by kernel_rfl) h
def zdW:Ann:=(.q (.seq none (.q (.one (.q (.cond (.q .nil) (.q (.cond (.q .nil) (.q (.cond (.q .nil) (.q (.cond (.q .nil) (.q (.cond (.q .nil) (.q (.cond (.q .nil) (.q (.cond (.q .nil) (.q (.cond (.q .nil) (.q (.cond (.q .nil) (.q (.cond (.q .nil) (.q (.cond (.q .nil) (.q (.cond (.q .nil) (.q (.cond (.q .nil) (.q (.cond (.q .nil) (.q (.cond (.q .nil) (.q (.cond (.q .nil) (.q (.cond (.q .nil) (.q (.cond (.q .nil) (.q (.cond (.q .nil) (.q (.cond (.q .nil) (.q (.cond (.q .nil) (.q (.cond (.q .nil) (.q (.cond (.q .nil) (.q (.cond (.q .nil) (.q (.cond (.q .nil) (.q (.cond (.q .nil) (.q (.cond (.q .nil) (.q (.cond (.q .nil) (.q (.cond (.q .nil) (.q (.cond (.q .nil) (.q (.cond (.q .nil) .nil)))))))))))))))))))))))))))))))))))))))))))))))))))))))))))))))) (.q .nil)))
def zay(p0:Int)(R:VWP)(w:World):Prop:=ifB (p0==77) (R (.string (BM #[79,112,86,101,99,116,111,114,69,120,116,114,97,99,116,68,121,110,97,109,105,99,32,84,82,32,105,105,32,32,32,56])) w) (ifB (p0==78) (R (.string (BM #[79,112,86,101,99,116,111,114,73,110,115,101,114,116,68,121,110,97,109,105,99,32,84,82,32,105,105,105,32,32,32,56])) w) (ifB (p0==79) (R (.string (BM #[79,112,86,101,99,116,111,114,83,104,117,102,102,108,101,32,84,82,32,105,105,32,110,32,32,56])) w) (ifB (p0==80) (R (.string (BM #[79,112,67,111,109,112,111,115,105,116,101,67,111,110,115,116,114,117,99,116,32,84,82,32,32,105,32,32,56])) w) (ifB (p0==81) (R (.string (BM #[79,112,67,111,109,112,111,115,105,116,101,69,120,116,114,97,99,116,32,84,82,32,105,32,110,32,32,56])) w) (ifB (p0==82) (R (.string (BM #[79,112,67,111,109,112,111,115,105,116,101,73,110,115,101,114,116,32,84,82,32,105,105,32,110,32,32,56])) w) (ifB (p0==83) (R (.string (BM #[79,112,67,111,112,121,79,98,106,101,99,116,32,84,82,32,105,32,32,32,56])) w) (ifB (p0==124) (R (.string (BM #[79,112,66,105,116,99,97,115,116,32,84,82,32,105,32,32,32,56])) w) (ifB (p0==126) (R (.string (BM #[79,112,83,78,101,103,97,116,101,32,84,82,32,105,32,32,32,56])) w) (ifB (p0==128) (R (.string (BM #[79,112,73,65,100,100,32,84,82,32,105,105,32,32,32,56])) w) (ifB (p0==130) (R (.string (BM #[79,112,73,83,117,98,32,84,82,32,105,105,32,32,32,56])) w) (ifB (p0==132) (R (.string (BM #[79,112,73,77,117,108,32,84,82,32,105,105,32,32,32,56])) w) (ifB (p0==134) (R (.string (BM #[79,112,85,68,105,118,32,84,82,32,105,105,32,32,32,56])) w) (ifB (p0==135) (R (.string (BM #[79,112,83,68,105,118,32,84,82,32,105,105,32,32,32,56])) w) (ifB (p0==137) (R (.string (BM #[79,112,85,77,111,100,32,84,82,32,105,105,32,32,32,56])) w) (ifB (p0==138) (R (.string (BM #[79,112,83,82,101,109,32,84,82,32,105,105,32,32,32,56])) w) (ifB (p0==139) (R (.string (BM #[79,112,83,77,111,100,32,84,82,32,105,105,32,32,32,56])) w) (ifB (p0==149) (R (.string (BM #[79,112,73,65,100,100,67,97,114,114,121,32,84,82,32,105,105,32,32,32,56])) w) (ifB (p0==150) (R (.string (BM #[79,112,73,83,117,98,66,111,114,114,111,119,32,84,82,32,105,105,32,32,32,56])) w) (ifB (p0==151) (R (.string (BM #[79,112,85,77,117,108,69,120,116,101,110,100,101,100,32,84,82,32,105,105,32,32,32,56])) w) (ifB (p0==152) (R (.string (BM #[79,112,83,77,117,108,69,120,116,101,110,100,101,100,32,84,82,32,105,105,32,32,32,56])) w) (ifB (p0==154) (R (.string (BM #[79,112,65,110,121,32,84,82,32,105,32,32,32,56])) w) (ifB (p0==155) (R (.string (BM #[79,112,65,108,108,32,84,82,32,105,32,32,32,56])) w) (ifB (p0==164) (R (.string (BM #[79,112,76,111,103,105,99,97,108,69,113,117,97,108,32,84,82,32,105,105,32,32,32,56])) w) (ifB (p0==165) (R (.string (BM #[79,112,76,111,103,105,99,97,108,78,111,116,69,113,117,97,108,32,84,82,32,105,105,32,32,32,56])) w) (ifB (p0==166) (R (.string (BM #[79,112,76,111,103,105,99,97,108,79,114,32,84,82,32,105,105,32,32,32,56])) w) (ifB (p0==167) (R (.string (BM #[79,112,76,111,103,105,99,97,108,65,110,100,32,84,82,32,105,105,32,32,32,56])) w) (ifB (p0==168) (R (.string (BM #[79,112,76,111,103,105,99,97,108,78,111,116,32,84,82,32,105,32,32,32,56])) w) (ifB (p0==169) (R (.string (BM #[79,112,83,101,108,101,99,116,32,84,82,32,105,105,105,32,32,32,56])) w) (ifB (p0==170) (R (.string (BM #[79,112,73,69,113,117,97,108,32,84,82,32,105,105,32,32,32,56])) w) (ifB (p0==171) (R (.string (BM #[79,112,73,78,111,116,69,113,117,97,108,32,84,82,32,105,105,32,32,32,56])) w) (R (.string (BM #[])) w)))))))))))))))))))))))))))))))
theorem zfZ(p0)(R)(w)(h:zay p0 R w):Calls Tryz.prog 202 #[.int .u16 p0] w (Ret R):=lwC zdW Tryz.func202 (by kernel_rfl) (by kernel_rfl) h
def zfk:Ann:=(.q (.seq none (.q (.one (.q (.cond (.q .nil) (.q (.cond (.q .nil) (.q (.cond (.q .nil) (.q (.cond (.q .nil) (.q (.cond (.q .nil) (.q (.cond (.q .nil) (.q (.cond (.q .nil) (.q (.cond (.q .nil) (.q (.cond (.q .nil) (.q (.cond (.q .nil) (.q (.cond (.q .nil) (.q (.cond (.q .nil) (.q (.cond (.q .nil) (.q (.cond (.q .nil) (.q (.cond (.q .nil) (.q (.cond (.q .nil) (.q (.cond (.q .nil) (.q (.cond (.q .nil) (.q (.cond (.q .nil) (.q (.cond (.q .nil) (.q (.cond (.q .nil) (.q (.cond (.q .nil) (.q (.cond (.q .nil) (.q (.cond (.q .nil) (.q (.cond (.q .nil) (.q (.cond (.q .nil) (.q (.cond (.q .nil) (.q (.cond (.q .nil) (.q (.cond (.q .nil) (.q (.cond (.q .nil) (.q (.cond (.q .nil) .nil)))))))))))))))))))))))))))))))))))))))))))))))))))))))))))))))) (.q .nil)))
def zbs(p0:Int)(R:VWP)(w:World):Prop:=ifB (p0==172) (R (.string (BM #[79,112,85,71,114,101,97,116,101,114,84,104,97,110,32,84,82,32,105,105,32,32,32,56])) w) (ifB (p0==173) (R (.string (BM #[79,112,83,71,114,101,97,116,101,114,84,104,97,110,32,84,82,32,105,105,32,32,32,56])) w) (ifB (p0==174) (R (.string (BM #[79,112,85,71,114,101,97,116,101,114,84,104,97,110,69,113,117,97,108,32,84,82,32,105,105,32,32,32,56])) w) (ifB (p0==175) (R (.string (BM #[79,112,83,71,114,101,97,116,101,114,84,104,97,110,69,113,117,97,108,32,84,82,32,105,105,32,32,32,56])) w) (ifB (p0==176) (R (.string (BM #[79,112,85,76,101,115,115,84,104,97,110,32,84,82,32,105,105,32,32,32,56])) w) (ifB (p0==177) (R (.string (BM #[79,112,83,76,101,115,115,84,104,97,110,32,84,82,32,105,105,32,32,32,56])) w) (ifB (p0==178) (R (.string (BM #[79,112,85,76,101,115,115,84,104,97,110,69,113,117,97,108,32,84,82,32,105,105,32,32,32,56])) w) (ifB (p0==179) (R (.string (BM #[79,112,83,76,101,115,115,84,104,97,110,69,113,117,97,108,32,84,82,32,105,105,32,32,32,56])) w) (ifB (p0==194) (R (.string (BM #[79,112,83,104,105,102,116,82,105,103,104,116,76,111,103,105,99,97,108,32,84,82,32,105,105,32,32,32,56])) w) (ifB (p0==195) (R (.string (BM #[79,112,83,104,105,102,116,82,105,103,104,116,65,114,105,116,104,109,101,116,105,99,32,84,82,32,105,105,32,32,32,56])) w) (ifB (p0==196) (R (.string (BM #[79,112,83,104,105,102,116,76,101,102,116,76,111,103,105,99,97,108,32,84,82,32,105,105,32,32,32,56])) w) (ifB (p0==197) (R (.string (BM #[79,112,66,105,116,119,105,115,101,79,114,32,84,82,32,105,105,32,32,32,56])) w) (ifB (p0==198) (R (.string (BM #[79,112,66,105,116,119,105,115,101,88,111,114,32,84,82,32,105,105,32,32,32,56])) w) (ifB (p0==199) (R (.string (BM #[79,112,66,105,116,119,105,115,101,65,110,100,32,84,82,32,105,105,32,32,32,56])) w) (ifB (p0==200) (R (.string (BM #[79,112,78,111,116,32,84,82,32,105,32,32,32,56])) w) (ifB (p0==201) (R (.string (BM #[79,112,66,105,116,70,105,101,108,100,73,110,115,101,114,116,32,84,82,32,105,105,105,105,32,32,32,56])) w) (ifB (p0==202) (R (.string (BM #[79,112,66,105,116,70,105,101,108,100,83,69,120,116,114,97,99,116,32,84,82,32,105,105,105,32,32,32,56])) w) (ifB (p0==203) (R (.string (BM #[79,112,66,105,116,70,105,101,108,100,85,69,120,116,114,97,99,116,32,84,82,32,105,105,105,32,32,32,56])) w) (ifB (p0==204) (R (.string (BM #[79,112,66,105,116,82,101,118,101,114,115,101,32,84,82,32,105,32,32,32,56])) w) (ifB (p0==205) (R (.string (BM #[79,112,66,105,116,67,111,117,110,116,32,84,82,32,105,32,32,32,56])) w) (ifB (p0==245) (R (.string (BM #[79,112,80,104,105,32,84,82,32,32,105,105,32,32,56])) w) (ifB (p0==246) (R (.string (BM #[79,112,76,111,111,112,77,101,114,103,101,32,32,105,105,103,32,32,32,56])) w) (ifB (p0==247) (R (.string (BM #[79,112,83,101,108,101,99,116,105,111,110,77,101,114,103,101,32,32,105,104,32,32,32,56])) w) (ifB (p0==248) (R (.string (BM #[79,112,76,97,98,101,108,32,82,32,32,32,32,56])) w) (ifB (p0==249) (R (.string (BM #[79,112,66,114,97,110,99,104,32,32,105,32,32,32,56])) w) (ifB (p0==250) (R (.string (BM #[79,112,66,114,97,110,99,104,67,111,110,100,105,116,105,111,110,97,108,32,32,105,105,105,32,32,32,56])) w) (ifB (p0==251) (R (.string (BM #[79,112,83,119,105,116,99,104,32,32,105,105,32,110,105,32,32,56])) w) (ifB (p0==252) (R (.string (BM #[79,112,75,105,108,108,32,32,32,32,32,56])) w) (ifB (p0==253) (R (.string (BM #[79,112,82,101,116,117,114,110,32,32,32,32,32,56])) w) (ifB (p0==254) (R (.string (BM #[79,112,82,101,116,117,114,110,86,97,108,117,101,32,32,105,32,32,32,56])) w) (ifB (p0==255) (R (.string (BM #[79,112,85,110,114,101,97,99,104,97,98,108,101,32,32,32,32,32,56])) w) (R (.string (BM #[])) w)))))))))))))))))))))))))))))))
theorem zgN(p0)(R)(w)(h:zbs p0 R w):Calls Tryz.prog 203 #[.int .u16 p0] w (Ret R):=lwC zfk Tryz.func203 (by kernel_rfl) (by kernel_rfl) h
def zar:Ann:=(.q (.seq none (.q (.cond (.q .nil) .nil)) (.seq none (.q (.one (.loop ⟨[1,14,15],[(16,(.b (.int .i64)))]⟩ (.q (.seq none .c (.seq none (.one (.q (.q (.q (.cond (.q .nil) .nil))))) .nil)))))) (.q .nil))))
def zah(p0:(Int×ByteArray×Bool×Bool×ByteArray×ByteArray×Int×Int×Unit))(p1:Int)(R:VWP)(w:World):Prop:=Nw (w.alloc (.cells #[zh p0.1,.string p0.2.1,.bool p0.2.2.1,.bool p0.2.2.2.1,.string p0.2.2.2.2.1,.string p0.2.2.2.2.2.1,zi p0.2.2.2.2.2.2.1,zb p0.2.2.2.2.2.2.2.1] 301)) λw1=>ifB (decide (p1<(0:Int))) (R (zb 0) w1) (dw w1 (zB w) λx1 x2 x3 x4 x5 x6 x7 x8=>dw w1 (zB w) λx9 x10 x11 x12 x13 x14 x15 x16=>Nw (w1.alloc (.cells #[.func (.func 210) #[.agg #[zh x1,.string x2,.bool x3,.bool x4,.string x5,.string x6,zi x7,zb x8]] #[],.func (.func 211) #[.agg #[zh x9,.string x10,.bool x11,.bool x12,.string x13,.string x14,zi x15,zb x16]] #[]] 302)) λw2=>zm (S:=Int×Unit) (λs17 w3 n18=>ifB (decide (s17.1<(2:Int))) ((0<=s17.1/\s17.1<(2:Int))/\ldR w3 ((zB w1).add s17.1.toNat) λx19=>zJ Tryz.prog Tryz.fs x19 [(zi p1)] w3 λv20 w4=>∃x21:Int,v20=(zb x21)/\ifB (x21 !=0) (R (zb x21) w4) (n18 ((IntKind.i64.wrap (s17.1+(1:Int))),()) w4)) (R (zb 0) w3)) (0,()) w2)
theorem zcX(p0)(p1)(R)(w)(h:zah p0 p1 R w):Calls Tryz.prog 204 #[.agg #[.int .u16 p0.1,.string p0.2.1,.bool p0.2.2.1,.bool p0.2.2.2.1,.string p0.2.2.2.2.1,.string p0.2.2.2.2.2.1,.int .i64 p0.2.2.2.2.2.2.1,.int .u8 p0.2.2.2.2.2.2.2.1],.int .i64 p1] w (Ret R):=lwC zar Tryz.func204 (by kernel_rfl) (by kernel_rfl) h
def zfj:Ann:=(.q (.seq none (.q (.one (.q (.cond (.q .nil) (.q (.cond (.q .nil) (.q (.cond (.q .nil) (.q (.cond (.q .nil) (.q (.cond (.q .nil) (.q (.cond (.q .nil) (.q (.cond (.q .nil) (.q (.cond (.q .nil) (.q (.cond (.q .nil) (.q (.cond (.q .nil) (.q (.cond (.q .nil) .nil)))))))))))))))))))))))) (.q .nil)))
def zbr(p0:Int)(R:VWP)(w:World):Prop:=ifB (p0==107) (R (.string (BM #[48,32,77,97,116,114,105,120,32,49,32,83,104,97,100,101,114,32])) w) (ifB (p0==97) (R (.string (BM #[48,32,76,111,103,105,99,97,108,32])) w) (ifB (p0==109) (R (.string (BM #[48,32,83,105,109,112,108,101,32,49,32,71,76,83,76,52,53,48,32])) w) (ifB (p0==101) (R (.string (BM #[48,32,86,101,114,116,101,120,32,52,32,70,114,97,103,109,101,110,116,32])) w) (ifB (p0==120) (R (.string (BM #[55,32,79,114,105,103,105,110,85,112,112,101,114,76,101,102,116,32])) w) (ifB (p0==108) (R (.string (BM #[48,32,85,110,107,110,111,119,110,32,49,32,69,83,83,76,32,50,32,71,76,83,76,32])) w) (ifB (p0==99) (R (.string (BM #[49,32,73,110,112,117,116,32,51,32,79,117,116,112,117,116,32,54,32,80,114,105,118,97,116,101,32,55,32,70,117,110,99,116,105,111,110,32])) w) (ifB (p0==100) (R (.string (BM #[48,32,82,101,108,97,120,101,100,80,114,101,99,105,115,105,111,110,32,49,49,32,66,117,105,108,116,73,110,32,49,52,32,70,108,97,116,32,51,48,32,76,111,99,97,116,105,111,110,32])) w) (ifB (p0==102) (R (.string (BM #[48,32,78,111,110,101,32,49,32,73,110,108,105,110,101,32,50,32,68,111,110,116,73,110,108,105,110,101,32,52,32,80,117,114,101,32,56,32,67,111,110,115,116,32])) w) (ifB (p0==104) (R (.string (BM #[48,32,78,111,110,101,32,49,32,70,108,97,116,116,101,110,32,50,32,68,111,110,116,70,108,97,116,116,101,110,32])) w) (ifB (p0==103) (R (.string (BM #[48,32,78,111,110,101,32,49,32,85,110,114,111,108,108,32,50,32,68,111,110,116,85,110,114,111,108,108,32])) w) (R (.string (BM #[])) w)))))))))))
theorem zbY(p0)(R)(w)(h:zbr p0 R w):Calls Tryz.prog 205 #[.int .u8 p0] w (Ret R):=lwC zfj Tryz.func205 (by kernel_rfl) (by kernel_rfl) h
def zfF:Ann:=(.q (.seq none (.q (.one (.loop ⟨[],[(10,(.b (.int .u32))),(11,(.b .str))]⟩ (.seq none (.q .nil) (.one (.q (.cond (.q .nil) .nil))))))) (.q .nil)))
def zf4(p0:Int)(p1:Int)(R:VWP)(w:World):Prop:=Nw (w.alloc (.cells #[zu p1] 22)) λw1=>Nw (w1.alloc (.cells #[.string (BM #[])] 9)) λw2=>Nw (w2.alloc (.cells #[.bool false] 4)) λw3=>dz 213 #[zb p0] w3 λx2 w4=>zmA Tryz.prog Tryz.fs x2 w4 (T:=Int×ByteArray×Unit) (λs3=>[(zu s3.1),(.string s3.2.1)]) (λmk4 l5 s3 w5 S6=>w5.heap[l5]? =some (mk4 .ready none)/\Nw (w5.putObj l5 (mk4 .busy none)) λw6=>ldI w6 (zB w) .u32 λx8=>ifB (s3.1==x8) (Wr w6 (zB w1)/\Nw (w6.setCell (zB w1) (.string s3.2.1)) λw7=>Wr w7 (zB w2)/\Nw (w7.setCell (zB w2) (.bool true)) λw8=>w8.heap[l5]? =some (mk4 .busy none)/\S6 (.bool false) (w8.putObj l5 (mk4 .done (some .ret)))) (w6.heap[l5]? =some (mk4 .busy none)/\S6 (.bool true) (w6.putObj l5 (mk4 .ready none)))) (λmk4 l5 d7 w9=>(Yd mk4 l5 .ready none w9 λw10=>Wr w10 (zB w1)/\Nw (w10.setCell (zB w1) (.string (BM #[]))) λw11=>Wr w11 (zB w2)/\Nw (w11.setCell (zB w2) (.bool false)) λw12=>ze9 (d7::[]) w12 λw13=>zy w13 (zB w1) λx9=>ldB w13 (zB w2) λx10=>R (.tuple #[.string x9,.bool x10]) w13)\/(Yd mk4 l5 .done (some .ret) w9 λw14=>ze9 (d7::[]) w14 λw15=>zy w15 (zB w1) λx11=>ldB w15 (zB w2) λx12=>R (.tuple #[.string x11,.bool x12]) w15))
theorem zh4(p0:Int)(p1:Int)(R:VWP)(w:World)(h:zf4 p0 p1 R w):Calls Tryz.prog 209 #[.int .u8 p0,.int .u32 p1] w (Ret R):=zmp (fs:=Tryz.fs) (an:=zfF) (args:=[(.int .u8 p0),(.int .u32 p1)]) Tryz.fsOK Tryz.mixed Tryz.func209 (by kernel_rfl) (by kernel_rfl) (Eq.mpr (by kernel_rfl:zqM Tryz.prog Tryz.fs Tryz.f209 zfF [(.int .u8 p0),(.int .u32 p1)] w R=zf4 p0 p1 R w) h)
def zaU:Ann:=(.q (.seq (some ⟨[1,2],[]⟩) (.q (.cond (.q .nil) .nil)) (.q .nil)))
def zaH(p0:(Int×ByteArray×Bool×Bool×ByteArray×ByteArray×Int×Int×Unit))(p1:Int)(R:VWP)(w:World):Prop:=Nw (w.alloc (.cells #[zh p0.1,.string p0.2.1,.bool p0.2.2.1,.bool p0.2.2.2.1,.string p0.2.2.2.2.1,.string p0.2.2.2.2.2.1,zi p0.2.2.2.2.2.2.1,zb p0.2.2.2.2.2.2.2.1] 301)) λw1=>zo (S:=Unit) (λm1=>ifB (decide (p1<(0:Int))) (R (zb 0) w1) (zy w1 ((zB w).add 4) λx3=>ifB (decide (p1≥(x3.size:Int))) (R (zb 0) w1) (m1 () w1))) (λs2 w2=>zy w2 ((zB w).add 4) λx4=>(0<=p1/\p1<(x4.size:Int))/\R (zb (zdu x4 p1)) w2)
theorem zdB(p0)(p1)(R)(w)(h:zaH p0 p1 R w):Calls Tryz.prog 210 #[.agg #[.int .u16 p0.1,.string p0.2.1,.bool p0.2.2.1,.bool p0.2.2.2.1,.string p0.2.2.2.2.1,.string p0.2.2.2.2.2.1,.int .i64 p0.2.2.2.2.2.2.1,.int .u8 p0.2.2.2.2.2.2.2.1],.int .i64 p1] w (Ret R):=lwC zaU Tryz.func210 (by kernel_rfl) (by kernel_rfl) h
def zbN:Ann:=(.q (.q (.seq (some ⟨[1,2],[]⟩) (.q (.cond (.q .nil) .nil)) (.q .nil))))
def zb4(p0:(Int×ByteArray×Bool×Bool×ByteArray×ByteArray×Int×Int×Unit))(p1:Int)(R:VWP)(w:World):Prop:=Nw (w.alloc (.cells #[zh p0.1,.string p0.2.1,.bool p0.2.2.1,.bool p0.2.2.2.1,.string p0.2.2.2.2.1,.string p0.2.2.2.2.2.1,zi p0.2.2.2.2.2.2.1,zb p0.2.2.2.2.2.2.2.1] 301)) λw1=>zy w1 ((zB w).add 4) λx1=>zo (S:=Unit) (λm2=>ifB (decide ((IntKind.i64.wrap (p1-(x1.size:Int)))<0)) (R (zb 0) w1) (zy w1 ((zB w).add 5) λx4=>ifB (x4.toList==(BM #[]).toList) (R (zb 0) w1) (ldI w1 ((zB w).add 6) .i64 λx5=>ifB (decide (x5>(0:Int))) (ldI w1 ((zB w).add 6) .i64 λx6=>zy w1 ((zB w).add 5) λx7=>ifB (decide ((IntKind.i64.wrap (p1-(x1.size:Int)))≥(IntKind.i64.wrap (x6*(x7.size:Int))))) (R (zb 0) w1) (m2 () w1)) (m2 () w1)))) (λs3 w2=>zy w2.drew ((zB w).add 5) λx8=>zy w2.drew ((zB w).add 5) λx9=>ifB (decide ((x9.size:Int)=0)) (False) ((0<=(Int.tmod (IntKind.i64.wrap (p1-(x1.size:Int))) (x9.size:Int))/\(Int.tmod (IntKind.i64.wrap (p1-(x1.size:Int))) (x9.size:Int))<(x8.size:Int))/\R (zb (zdu x8 (Int.tmod (IntKind.i64.wrap (p1-(x1.size:Int))) (x9.size:Int)))) w2.drew))
theorem zen(p0)(p1)(R)(w)(h:zb4 p0 p1 R w):Calls Tryz.prog 211 #[.agg #[.int .u16 p0.1,.string p0.2.1,.bool p0.2.2.1,.bool p0.2.2.2.1,.string p0.2.2.2.2.1,.string p0.2.2.2.2.2.1,.int .i64 p0.2.2.2.2.2.2.1,.int .u8 p0.2.2.2.2.2.2.2.1],.int .i64 p1] w (Ret R):=lwC zbN Tryz.func211 (by kernel_rfl) (by kernel_rfl) h
def zfh:Ann:=(.q (.q .nil))
def zfc(p0:Int)(R:VWP)(w:World):Prop:=Nw (w.alloc (.cells #[zb p0] 5)) λw1=>R (.func (.func 215) #[] #[.pointer (some (zB w))]) w1
theorem zgL(p0)(R)(w)(h:zfc p0 R w):Calls Tryz.prog 213 #[.int .u8 p0] w (Ret R):=lwC zfh Tryz.func213 (by kernel_rfl) (by kernel_rfl) h
def zdq:Ann:=(.q (.q (.q (.q (.one (.loop ⟨[0,11],[(3,(.b (.int .u32))),(5,(.b .str)),(6,(.b .bool))]⟩ (.q (.seq none .c (.one (.q (.seq (some ⟨[0,6,11],[(3,(.b (.int .u32)))]⟩) (.one (.q (.cond (.q .nil) (.q (.cond .nil (.q (.q .c))))))) (.q .nil))))))))))))
def zdi(p0:Value)(c0:Addr)(R:VWP)(w:World):Prop:=ldI w c0 .u8 λx1=>dF 205 #[zb x1] w λx3 w1=>Nw (w1.alloc (.stringIter x3 0)) λw2=>zm (S:=Int×ByteArray×Bool×Unit) (λs4 w3 n5=>zo8 w1.heap.size w3 (λi6 c7 w4=>zo (S:=Int×Unit) (λm8=>ifB (c7 !=32) (zco s4.2.1 (Utf8.encode c7)/\n5 (s4.1,(s4.2.1++(Utf8.encode c7)),s4.2.2.1,()) w4) (ifB (!s4.2.2.1) (dI 216 #[.string s4.2.1] w4 λx11 w5=>m8 (x11,()) w5) (zJ Tryz.prog Tryz.fs p0 [(zu s4.1),(.string s4.2.1)] w4 λv12 w6=>∃x13:Bool,v12=(.bool x13)/\ifB (!x13) (R (.tuple #[]) w6) (m8 (s4.1,()) w6)))) (λs9 w7=>n5 (s9.1,(BM #[]),(!s4.2.2.1),()) w7)) (R (.tuple #[]) w3)) (0,(BM #[]),false,()) w2
theorem zft(p0)(c0)(R)(w)(h:zdi p0 c0 R w):Calls Tryz.prog 215 #[p0,.pointer (some c0)] w (Ret R):=lwC zdq Tryz.func215 (by kernel_rfl) (by kernel_rfl) h
def zdV:Ann:=(.q (.q (.seq none (.q (.one (.loop ⟨[7],[(3,(.b (.int .u32)))]⟩ (.q (.seq none .c (.one (.q .nil))))))) (.q .nil))))
def zdM(p0:ByteArray)(R:VWP)(w:World):Prop:=Nw (w.alloc (.stringIter p0 0)) λw1=>zm (S:=Int×Unit) (λs1 w2 n2=>zo8 w.heap.size w2 (λi3 c4 w3=>n2 ((IntKind.u32.wrap ((IntKind.u32.wrap (10*s1.1))+(IntKind.u32.wrap (IntKind.i32.wrap (c4-(48:Int)))))),()) w3) (R (zu s1.1) w2)) (0,()) w1
theorem zfY(p0)(R)(w)(h:zdM p0 R w):Calls Tryz.prog 216 #[.string p0] w (Ret R):=lwC zdV Tryz.func216 (by kernel_rfl) (by kernel_rfl) h
end Go.Proofs
namespace Go.Gm
open Go.Gk
abbrev Bs:=List UInt8
def bs(l:Bs):ByteArray:=⟨l.toArray⟩
theorem zlS(a b:Bs):bs a++bs b=bs (a++b):=by
 apply ByteArray.ext
 simp[bs,ByteArray.data_append]
theorem yp(a:Bs):(bs a).size=a.length:=by simp[bs,ByteArray.size]
theorem zmH(a:Bs)(k:Nat):zdu (bs a) (k:Int)=((a.getD k 0).toNat:Int):=by
 unfold zdu bs
 rw[Int.toNat_natCast]
 simp[Array.getD_eq_getD_getElem?]
theorem Yo{a:Bs}:((bs a).toList==(BM #[]).toList)=a.isEmpty:=by
 rw[ByteArray.toList_eq,ByteArray.toList_eq]
 cases a with
 |nil=>rfl
 |cons x r=>rfl
theorem zp{α:Type}{l:List α}{i:Nat}{d:α}(h:i<l.length):l.getD i d=l[i]:=by simp[List.getD,h]
def look{α:Type}:List (Int×α)->Int->Option α
 | [],_=>none
 |p::r,n=>if n=p.1 then some p.2 else look r n
def zlW{α:Type}:List (Int×α)->Int->(α->Prop)->Prop->Prop
 | [],_,_,d=>d
 |p::r,n,f,d=>ifB (n==p.1) (f p.2) (zlW r n f d)
theorem zea{α:Type}{n:Int}{f:α->Prop}{d:Prop}:∀{tab:List (Int×α)},(∀x,look tab n=some x->f x)->(look tab n=none->d)->zlW tab n f d
 | [],_,h2=>h2 rfl
 |p::r,h1,h2=>zl (λe=>h1 p.2 (by simp[look,e])) (λe=>zea (λx hx=>h1 x (by simp[look,e,hx])) (λhx=>h2 (by simp[look,e,hx])))
theorem ZD{α:Type}(n:Int):∀a b:List (Int×α),look (a++b) n=(look a n).or (look b n)
 | [],b=>by simp[look]
 |p::r,b=>by
  simp only[List.cons_append,look]
  split
  ·rfl
  ·exact ZD n r b
theorem ZE{α:Type}{n:Int}{x:α}:∀{a:List (Int×α)},look a n=some x->(n,x)∈a
 |p::r,h=>by
  simp only[look]at h
  split at h
  ·rename_i e
   cases h
   subst e
   exact List.mem_cons_self
  ·exact List.mem_cons_of_mem _ (ZE h)
theorem za3{α:Type}{n:Int}:∀{a:List (Int×α)},(∀p∈a,p.1≠n)->look a n=none
 | [],_=>rfl
 |p::r,h=>by
  rw[look,if_neg λe=>h p List.mem_cons_self e.symm]
  exact za3 λq hq=>h q (List.mem_cons_of_mem _ hq)
theorem zoy{α β:Type}(g:α->β)(n:Int):∀a:List (Int×α),look (a.map λp=>(p.1,g p.2)) n=(look a n).map g
 | []=>rfl
 |p::r=>by
  simp only[List.map_cons,look]
  split
  ·rfl
  ·exact zoy g n r
abbrev Fl:=Bs×Bool×Bool×Bs×Bs×Nat×Nat
def tabA:List (Int×Bs):=
 [(1,[79,112,85,110,100,101,102,32,84,82,32,32,32,32,55]),
  (3,[79,112,83,111,117,114,99,101,32,32,108,110,32,32,32,52]),
  (5,[79,112,78,97,109,101,32,32,105,115,32,32,32,53]),
  (6,[79,112,77,101,109,98,101,114,78,97,109,101,32,32,105,110,115,32,32,32,53]),
  (7,[79,112,83,116,114,105,110,103,32,82,32,115,32,32,32,52]),
  (14,[79,112,77,101,109,111,114,121,77,111,100,101,108,32,32,97,109,32,32,32,49]),
  (15,[79,112,69,110,116,114,121,80,111,105,110,116,32,32,101,105,115,32,105,32,32,50]),
  (16,[79,112,69,120,101,99,117,116,105,111,110,77,111,100,101,32,32,105,120,32,32,32,51]),
  (17,[79,112,67,97,112,97,98,105,108,105,116,121,32,32,107,32,32,32,48]),
  (19,[79,112,84,121,112,101,86,111,105,100,32,82,32,32,32,32,55]),
  (20,[79,112,84,121,112,101,66,111,111,108,32,82,32,32,32,32,55]),
  (21,[79,112,84,121,112,101,73,110,116,32,82,32,110,110,32,32,32,55]),
  (23,[79,112,84,121,112,101,86,101,99,116,111,114,32,82,32,105,110,32,32,32,55]),
  (28,[79,112,84,121,112,101,65,114,114,97,121,32,82,32,105,105,32,32,32,55]),
  (30,[79,112,84,121,112,101,83,116,114,117,99,116,32,82,32,32,105,32,32,55]),
  (32,[79,112,84,121,112,101,80,111,105,110,116,101,114,32,82,32,99,105,32,32,32,55]),
  (33,[79,112,84,121,112,101,70,117,110,99,116,105,111,110,32,82,32,105,32,105,32,32,55]),
  (41,[79,112,67,111,110,115,116,97,110,116,84,114,117,101,32,84,82,32,32,32,32,55]),
  (42,[79,112,67,111,110,115,116,97,110,116,70,97,108,115,101,32,84,82,32,32,32,32,55]),
  (43,[79,112,67,111,110,115,116,97,110,116,32,84,82,32,110,32,32,32,55]),
  (44,[79,112,67,111,110,115,116,97,110,116,67,111,109,112,111,115,105,116,101,32,84,82,32,32,105,32,32,55]),
  (46,[79,112,67,111,110,115,116,97,110,116,78,117,108,108,32,84,82,32,32,32,32,55]),
  (54,[79,112,70,117,110,99,116,105,111,110,32,84,82,32,102,105,32,32,32,56]),
  (55,[79,112,70,117,110,99,116,105,111,110,80,97,114,97,109,101,116,101,114,32,84,82,32,32,32,32,56]),
  (56,[79,112,70,117,110,99,116,105,111,110,69,110,100,32,32,32,32,32,56]),
  (57,[79,112,70,117,110,99,116,105,111,110,67,97,108,108,32,84,82,32,105,32,105,32,32,56]),
  (59,[79,112,86,97,114,105,97,98,108,101,32,84,82,32,99,32,105,32,49,32,55]),
  (61,[79,112,76,111,97,100,32,84,82,32,105,32,32,32,56]),
  (62,[79,112,83,116,111,114,101,32,32,105,105,32,32,32,56]),
  (65,[79,112,65,99,99,101,115,115,67,104,97,105,110,32,84,82,32,105,32,105,32,32,56]),
  (71,[79,112,68,101,99,111,114,97,116,101,32,32,105,100,32,110,32,32,54])]
def tabB:List (Int×Bs):=
 [(77,[79,112,86,101,99,116,111,114,69,120,116,114,97,99,116,68,121,110,97,109,105,99,32,84,82,32,105,105,32,32,32,56]),
  (78,[79,112,86,101,99,116,111,114,73,110,115,101,114,116,68,121,110,97,109,105,99,32,84,82,32,105,105,105,32,32,32,56]),
  (79,[79,112,86,101,99,116,111,114,83,104,117,102,102,108,101,32,84,82,32,105,105,32,110,32,32,56]),
  (80,[79,112,67,111,109,112,111,115,105,116,101,67,111,110,115,116,114,117,99,116,32,84,82,32,32,105,32,32,56]),
  (81,[79,112,67,111,109,112,111,115,105,116,101,69,120,116,114,97,99,116,32,84,82,32,105,32,110,32,32,56]),
  (82,[79,112,67,111,109,112,111,115,105,116,101,73,110,115,101,114,116,32,84,82,32,105,105,32,110,32,32,56]),
  (83,[79,112,67,111,112,121,79,98,106,101,99,116,32,84,82,32,105,32,32,32,56]),
  (124,[79,112,66,105,116,99,97,115,116,32,84,82,32,105,32,32,32,56]),
  (126,[79,112,83,78,101,103,97,116,101,32,84,82,32,105,32,32,32,56]),
  (128,[79,112,73,65,100,100,32,84,82,32,105,105,32,32,32,56]),
  (130,[79,112,73,83,117,98,32,84,82,32,105,105,32,32,32,56]),
  (132,[79,112,73,77,117,108,32,84,82,32,105,105,32,32,32,56]),
  (134,[79,112,85,68,105,118,32,84,82,32,105,105,32,32,32,56]),
  (135,[79,112,83,68,105,118,32,84,82,32,105,105,32,32,32,56]),
  (137,[79,112,85,77,111,100,32,84,82,32,105,105,32,32,32,56]),
  (138,[79,112,83,82,101,109,32,84,82,32,105,105,32,32,32,56]),
  (139,[79,112,83,77,111,100,32,84,82,32,105,105,32,32,32,56]),
  (149,[79,112,73,65,100,100,67,97,114,114,121,32,84,82,32,105,105,32,32,32,56]),
  (150,[79,112,73,83,117,98,66,111,114,114,111,119,32,84,82,32,105,105,32,32,32,56]),
  (151,[79,112,85,77,117,108,69,120,116,101,110,100,101,100,32,84,82,32,105,105,32,32,32,56]),
  (152,[79,112,83,77,117,108,69,120,116,101,110,100,101,100,32,84,82,32,105,105,32,32,32,56]),
  (154,[79,112,65,110,121,32,84,82,32,105,32,32,32,56]),
  (155,[79,112,65,108,108,32,84,82,32,105,32,32,32,56]),
  (164,[79,112,76,111,103,105,99,97,108,69,113,117,97,108,32,84,82,32,105,105,32,32,32,56]),
  (165,[79,112,76,111,103,105,99,97,108,78,111,116,69,113,117,97,108,32,84,82,32,105,105,32,32,32,56]),
  (166,[79,112,76,111,103,105,99,97,108,79,114,32,84,82,32,105,105,32,32,32,56]),
  (167,[79,112,76,111,103,105,99,97,108,65,110,100,32,84,82,32,105,105,32,32,32,56]),
  (168,[79,112,76,111,103,105,99,97,108,78,111,116,32,84,82,32,105,32,32,32,56]),
  (169,[79,112,83,101,108,101,99,116,32,84,82,32,105,105,105,32,32,32,56]),
  (170,[79,112,73,69,113,117,97,108,32,84,82,32,105,105,32,32,32,56]),
  (171,[79,112,73,78,111,116,69,113,117,97,108,32,84,82,32,105,105,32,32,32,56])]
def tabC:List (Int×Bs):=
 [(172,[79,112,85,71,114,101,97,116,101,114,84,104,97,110,32,84,82,32,105,105,32,32,32,56]),
  (173,[79,112,83,71,114,101,97,116,101,114,84,104,97,110,32,84,82,32,105,105,32,32,32,56]),
  (174,[79,112,85,71,114,101,97,116,101,114,84,104,97,110,69,113,117,97,108,32,84,82,32,105,105,32,32,32,56]),
  (175,[79,112,83,71,114,101,97,116,101,114,84,104,97,110,69,113,117,97,108,32,84,82,32,105,105,32,32,32,56]),
  (176,[79,112,85,76,101,115,115,84,104,97,110,32,84,82,32,105,105,32,32,32,56]),
  (177,[79,112,83,76,101,115,115,84,104,97,110,32,84,82,32,105,105,32,32,32,56]),
  (178,[79,112,85,76,101,115,115,84,104,97,110,69,113,117,97,108,32,84,82,32,105,105,32,32,32,56]),
  (179,[79,112,83,76,101,115,115,84,104,97,110,69,113,117,97,108,32,84,82,32,105,105,32,32,32,56]),
  (194,[79,112,83,104,105,102,116,82,105,103,104,116,76,111,103,105,99,97,108,32,84,82,32,105,105,32,32,32,56]),
  (195,[79,112,83,104,105,102,116,82,105,103,104,116,65,114,105,116,104,109,101,116,105,99,32,84,82,32,105,105,32,32,32,56]),
  (196,[79,112,83,104,105,102,116,76,101,102,116,76,111,103,105,99,97,108,32,84,82,32,105,105,32,32,32,56]),
  (197,[79,112,66,105,116,119,105,115,101,79,114,32,84,82,32,105,105,32,32,32,56]),
  (198,[79,112,66,105,116,119,105,115,101,88,111,114,32,84,82,32,105,105,32,32,32,56]),
  (199,[79,112,66,105,116,119,105,115,101,65,110,100,32,84,82,32,105,105,32,32,32,56]),
  (200,[79,112,78,111,116,32,84,82,32,105,32,32,32,56]),
  (201,[79,112,66,105,116,70,105,101,108,100,73,110,115,101,114,116,32,84,82,32,105,105,105,105,32,32,32,56]),
  (202,[79,112,66,105,116,70,105,101,108,100,83,69,120,116,114,97,99,116,32,84,82,32,105,105,105,32,32,32,56]),
  (203,[79,112,66,105,116,70,105,101,108,100,85,69,120,116,114,97,99,116,32,84,82,32,105,105,105,32,32,32,56]),
  (204,[79,112,66,105,116,82,101,118,101,114,115,101,32,84,82,32,105,32,32,32,56]),
  (205,[79,112,66,105,116,67,111,117,110,116,32,84,82,32,105,32,32,32,56]),
  (245,[79,112,80,104,105,32,84,82,32,32,105,105,32,32,56]),
  (246,[79,112,76,111,111,112,77,101,114,103,101,32,32,105,105,103,32,32,32,56]),
  (247,[79,112,83,101,108,101,99,116,105,111,110,77,101,114,103,101,32,32,105,104,32,32,32,56]),
  (248,[79,112,76,97,98,101,108,32,82,32,32,32,32,56]),
  (249,[79,112,66,114,97,110,99,104,32,32,105,32,32,32,56]),
  (250,[79,112,66,114,97,110,99,104,67,111,110,100,105,116,105,111,110,97,108,32,32,105,105,105,32,32,32,56]),
  (251,[79,112,83,119,105,116,99,104,32,32,105,105,32,110,105,32,32,56]),
  (252,[79,112,75,105,108,108,32,32,32,32,32,56]),
  (253,[79,112,82,101,116,117,114,110,32,32,32,32,32,56]),
  (254,[79,112,82,101,116,117,114,110,86,97,108,117,101,32,32,105,32,32,32,56]),
  (255,[79,112,85,110,114,101,97,99,104,97,98,108,101,32,32,32,32,32,56])]
def tabN:List (Int×Bs):=
 [(107,[48,32,77,97,116,114,105,120,32,49,32,83,104,97,100,101,114,32]),
  (97,[48,32,76,111,103,105,99,97,108,32]),
  (109,[48,32,83,105,109,112,108,101,32,49,32,71,76,83,76,52,53,48,32]),
  (101,[48,32,86,101,114,116,101,120,32,52,32,70,114,97,103,109,101,110,116,32]),
  (120,[55,32,79,114,105,103,105,110,85,112,112,101,114,76,101,102,116,32]),
  (108,[48,32,85,110,107,110,111,119,110,32,49,32,69,83,83,76,32,50,32,71,76,83,76,32]),
  (99,[49,32,73,110,112,117,116,32,51,32,79,117,116,112,117,116,32,54,32,80,114,105,118,97,116,101,32,55,32,70,117,110,99,116,105,111,110,32]),
  (100,[48,32,82,101,108,97,120,101,100,80,114,101,99,105,115,105,111,110,32,49,49,32,66,117,105,108,116,73,110,32,49,52,32,70,108,97,116,32,51,48,32,76,111,99,97,116,105,111,110,32]),
  (102,[48,32,78,111,110,101,32,49,32,73,110,108,105,110,101,32,50,32,68,111,110,116,73,110,108,105,110,101,32,52,32,80,117,114,101,32,56,32,67,111,110,115,116,32]),
  (104,[48,32,78,111,110,101,32,49,32,70,108,97,116,116,101,110,32,50,32,68,111,110,116,70,108,97,116,116,101,110,32]),
  (103,[48,32,78,111,110,101,32,49,32,85,110,114,111,108,108,32,50,32,68,111,110,116,85,110,114,111,108,108,32])]
def tabR:List (Int×Fl):=
 [(1,[79,112,85,110,100,101,102],true,true,[],[],0,7),
  (3,[79,112,83,111,117,114,99,101],false,false,[108,110],[],0,4),
  (5,[79,112,78,97,109,101],false,false,[105,115],[],0,5),
  (6,[79,112,77,101,109,98,101,114,78,97,109,101],false,false,[105,110,115],[],0,5),
  (7,[79,112,83,116,114,105,110,103],false,true,[115],[],0,4),
  (14,[79,112,77,101,109,111,114,121,77,111,100,101,108],false,false,[97,109],[],0,1),
  (15,[79,112,69,110,116,114,121,80,111,105,110,116],false,false,[101,105,115],[105],0,2),
  (16,[79,112,69,120,101,99,117,116,105,111,110,77,111,100,101],false,false,[105,120],[],0,3),
  (17,[79,112,67,97,112,97,98,105,108,105,116,121],false,false,[107],[],0,0),
  (19,[79,112,84,121,112,101,86,111,105,100],false,true,[],[],0,7),
  (20,[79,112,84,121,112,101,66,111,111,108],false,true,[],[],0,7),
  (21,[79,112,84,121,112,101,73,110,116],false,true,[110,110],[],0,7),
  (23,[79,112,84,121,112,101,86,101,99,116,111,114],false,true,[105,110],[],0,7),
  (28,[79,112,84,121,112,101,65,114,114,97,121],false,true,[105,105],[],0,7),
  (30,[79,112,84,121,112,101,83,116,114,117,99,116],false,true,[],[105],0,7),
  (32,[79,112,84,121,112,101,80,111,105,110,116,101,114],false,true,[99,105],[],0,7),
  (33,[79,112,84,121,112,101,70,117,110,99,116,105,111,110],false,true,[105],[105],0,7),
  (41,[79,112,67,111,110,115,116,97,110,116,84,114,117,101],true,true,[],[],0,7),
  (42,[79,112,67,111,110,115,116,97,110,116,70,97,108,115,101],true,true,[],[],0,7),
  (43,[79,112,67,111,110,115,116,97,110,116],true,true,[110],[],0,7),
  (44,[79,112,67,111,110,115,116,97,110,116,67,111,109,112,111,115,105,116,101],true,true,[],[105],0,7),
  (46,[79,112,67,111,110,115,116,97,110,116,78,117,108,108],true,true,[],[],0,7),
  (54,[79,112,70,117,110,99,116,105,111,110],true,true,[102,105],[],0,8),
  (55,[79,112,70,117,110,99,116,105,111,110,80,97,114,97,109,101,116,101,114],true,true,[],[],0,8),
  (56,[79,112,70,117,110,99,116,105,111,110,69,110,100],false,false,[],[],0,8),
  (57,[79,112,70,117,110,99,116,105,111,110,67,97,108,108],true,true,[105],[105],0,8),
  (59,[79,112,86,97,114,105,97,98,108,101],true,true,[99],[105],1,7),
  (61,[79,112,76,111,97,100],true,true,[105],[],0,8),
  (62,[79,112,83,116,111,114,101],false,false,[105,105],[],0,8),
  (65,[79,112,65,99,99,101,115,115,67,104,97,105,110],true,true,[105],[105],0,8),
  (71,[79,112,68,101,99,111,114,97,116,101],false,false,[105,100],[110],0,6),
  (77,[79,112,86,101,99,116,111,114,69,120,116,114,97,99,116,68,121,110,97,109,105,99],true,true,[105,105],[],0,8),
  (78,[79,112,86,101,99,116,111,114,73,110,115,101,114,116,68,121,110,97,109,105,99],true,true,[105,105,105],[],0,8),
  (79,[79,112,86,101,99,116,111,114,83,104,117,102,102,108,101],true,true,[105,105],[110],0,8),
  (80,[79,112,67,111,109,112,111,115,105,116,101,67,111,110,115,116,114,117,99,116],true,true,[],[105],0,8),
  (81,[79,112,67,111,109,112,111,115,105,116,101,69,120,116,114,97,99,116],true,true,[105],[110],0,8),
  (82,[79,112,67,111,109,112,111,115,105,116,101,73,110,115,101,114,116],true,true,[105,105],[110],0,8),
  (83,[79,112,67,111,112,121,79,98,106,101,99,116],true,true,[105],[],0,8),
  (124,[79,112,66,105,116,99,97,115,116],true,true,[105],[],0,8),
  (126,[79,112,83,78,101,103,97,116,101],true,true,[105],[],0,8),
  (128,[79,112,73,65,100,100],true,true,[105,105],[],0,8),
  (130,[79,112,73,83,117,98],true,true,[105,105],[],0,8),
  (132,[79,112,73,77,117,108],true,true,[105,105],[],0,8),
  (134,[79,112,85,68,105,118],true,true,[105,105],[],0,8),
  (135,[79,112,83,68,105,118],true,true,[105,105],[],0,8),
  (137,[79,112,85,77,111,100],true,true,[105,105],[],0,8),
  (138,[79,112,83,82,101,109],true,true,[105,105],[],0,8),
  (139,[79,112,83,77,111,100],true,true,[105,105],[],0,8),
  (149,[79,112,73,65,100,100,67,97,114,114,121],true,true,[105,105],[],0,8),
  (150,[79,112,73,83,117,98,66,111,114,114,111,119],true,true,[105,105],[],0,8),
  (151,[79,112,85,77,117,108,69,120,116,101,110,100,101,100],true,true,[105,105],[],0,8),
  (152,[79,112,83,77,117,108,69,120,116,101,110,100,101,100],true,true,[105,105],[],0,8),
  (154,[79,112,65,110,121],true,true,[105],[],0,8),
  (155,[79,112,65,108,108],true,true,[105],[],0,8),
  (164,[79,112,76,111,103,105,99,97,108,69,113,117,97,108],true,true,[105,105],[],0,8),
  (165,[79,112,76,111,103,105,99,97,108,78,111,116,69,113,117,97,108],true,true,[105,105],[],0,8),
  (166,[79,112,76,111,103,105,99,97,108,79,114],true,true,[105,105],[],0,8),
  (167,[79,112,76,111,103,105,99,97,108,65,110,100],true,true,[105,105],[],0,8),
  (168,[79,112,76,111,103,105,99,97,108,78,111,116],true,true,[105],[],0,8),
  (169,[79,112,83,101,108,101,99,116],true,true,[105,105,105],[],0,8),
  (170,[79,112,73,69,113,117,97,108],true,true,[105,105],[],0,8),
  (171,[79,112,73,78,111,116,69,113,117,97,108],true,true,[105,105],[],0,8),
  (172,[79,112,85,71,114,101,97,116,101,114,84,104,97,110],true,true,[105,105],[],0,8),
  (173,[79,112,83,71,114,101,97,116,101,114,84,104,97,110],true,true,[105,105],[],0,8),
  (174,[79,112,85,71,114,101,97,116,101,114,84,104,97,110,69,113,117,97,108],true,true,[105,105],[],0,8),
  (175,[79,112,83,71,114,101,97,116,101,114,84,104,97,110,69,113,117,97,108],true,true,[105,105],[],0,8),
  (176,[79,112,85,76,101,115,115,84,104,97,110],true,true,[105,105],[],0,8),
  (177,[79,112,83,76,101,115,115,84,104,97,110],true,true,[105,105],[],0,8),
  (178,[79,112,85,76,101,115,115,84,104,97,110,69,113,117,97,108],true,true,[105,105],[],0,8),
  (179,[79,112,83,76,101,115,115,84,104,97,110,69,113,117,97,108],true,true,[105,105],[],0,8),
  (194,[79,112,83,104,105,102,116,82,105,103,104,116,76,111,103,105,99,97,108],true,true,[105,105],[],0,8),
  (195,[79,112,83,104,105,102,116,82,105,103,104,116,65,114,105,116,104,109,101,116,105,99],true,true,[105,105],[],0,8),
  (196,[79,112,83,104,105,102,116,76,101,102,116,76,111,103,105,99,97,108],true,true,[105,105],[],0,8),
  (197,[79,112,66,105,116,119,105,115,101,79,114],true,true,[105,105],[],0,8),
  (198,[79,112,66,105,116,119,105,115,101,88,111,114],true,true,[105,105],[],0,8),
  (199,[79,112,66,105,116,119,105,115,101,65,110,100],true,true,[105,105],[],0,8),
  (200,[79,112,78,111,116],true,true,[105],[],0,8),
  (201,[79,112,66,105,116,70,105,101,108,100,73,110,115,101,114,116],true,true,[105,105,105,105],[],0,8),
  (202,[79,112,66,105,116,70,105,101,108,100,83,69,120,116,114,97,99,116],true,true,[105,105,105],[],0,8),
  (203,[79,112,66,105,116,70,105,101,108,100,85,69,120,116,114,97,99,116],true,true,[105,105,105],[],0,8),
  (204,[79,112,66,105,116,82,101,118,101,114,115,101],true,true,[105],[],0,8),
  (205,[79,112,66,105,116,67,111,117,110,116],true,true,[105],[],0,8),
  (245,[79,112,80,104,105],true,true,[],[105,105],0,8),
  (246,[79,112,76,111,111,112,77,101,114,103,101],false,false,[105,105,103],[],0,8),
  (247,[79,112,83,101,108,101,99,116,105,111,110,77,101,114,103,101],false,false,[105,104],[],0,8),
  (248,[79,112,76,97,98,101,108],false,true,[],[],0,8),
  (249,[79,112,66,114,97,110,99,104],false,false,[105],[],0,8),
  (250,[79,112,66,114,97,110,99,104,67,111,110,100,105,116,105,111,110,97,108],false,false,[105,105,105],[],0,8),
  (251,[79,112,83,119,105,116,99,104],false,false,[105,105],[110,105],0,8),
  (252,[79,112,75,105,108,108],false,false,[],[],0,8),
  (253,[79,112,82,101,116,117,114,110],false,false,[],[],0,8),
  (254,[79,112,82,101,116,117,114,110,86,97,108,117,101],false,false,[105],[],0,8),
  (255,[79,112,85,110,114,101,97,99,104,97,98,108,101],false,false,[],[],0,8)]
def tabM:List (Int×Int×Bs):=
 [(107,0,[77,97,116,114,105,120]),
  (107,1,[83,104,97,100,101,114]),
  (97,0,[76,111,103,105,99,97,108]),
  (109,0,[83,105,109,112,108,101]),
  (109,1,[71,76,83,76,52,53,48]),
  (101,0,[86,101,114,116,101,120]),
  (101,4,[70,114,97,103,109,101,110,116]),
  (120,7,[79,114,105,103,105,110,85,112,112,101,114,76,101,102,116]),
  (108,0,[85,110,107,110,111,119,110]),
  (108,1,[69,83,83,76]),
  (108,2,[71,76,83,76]),
  (99,1,[73,110,112,117,116]),
  (99,3,[79,117,116,112,117,116]),
  (99,6,[80,114,105,118,97,116,101]),
  (99,7,[70,117,110,99,116,105,111,110]),
  (100,0,[82,101,108,97,120,101,100,80,114,101,99,105,115,105,111,110]),
  (100,11,[66,117,105,108,116,73,110]),
  (100,14,[70,108,97,116]),
  (100,30,[76,111,99,97,116,105,111,110]),
  (102,0,[78,111,110,101]),
  (102,1,[73,110,108,105,110,101]),
  (102,2,[68,111,110,116,73,110,108,105,110,101]),
  (102,4,[80,117,114,101]),
  (102,8,[67,111,110,115,116]),
  (104,0,[78,111,110,101]),
  (104,1,[70,108,97,116,116,101,110]),
  (104,2,[68,111,110,116,70,108,97,116,116,101,110]),
  (103,0,[78,111,110,101]),
  (103,1,[85,110,114,111,108,108]),
  (103,2,[68,111,110,116,85,110,114,111,108,108])]
def fldS(st:Nat×List Bs)(c:UInt8):Nat×List Bs:=if c=32 then(st.1+1,st.2) else(st.1,st.2.modify st.1 (·++[c]))
def fldG(s:Bs):Nat×List Bs:=s.foldl fldS (0,[[],[],[],[],[],[]])
def fld(s:Bs)(k:Nat):Bs:=(fldG s).2.getD k []
def zjT(s:Bs):Fl:=
 (fld s 0,(fld s 1).contains 84,(fld s 1).contains 82,fld s 2,fld s 3,(match fld s 4 with | []=>0 |c::_=>c.toNat-48),(match fld s 5 with | []=>0 |c::_=>c.toNat-48))
def zoE(s:Bs):Bool:=
 s.all (·<128)&&(fld s 1).all (·<128)&&decide (s.count 32<=5)&&decide (s.length<=100)&&!s.isEmpty&&(match fld s 5 with | []=>false |c::_=>decide (48<=c.toNat)) &&
  (match fld s 4 with | []=>true |c::_=>decide (48<=c.toNat))
def zj8:List (Int×Bs):=tabA++(tabB++tabC)
theorem zuH:zj8.all (λp=>zoE p.2)=true:=by decide +kernel
theorem zsc:(zj8.map λp=>(p.1,zjT p.2))=tabR:=by kernel_rfl
theorem keyA:tabA.all (λp=>decide (p.1<=71))=true:=by decide +kernel
theorem keyB:tabB.all (λp=>decide (71<p.1)&&decide (p.1<=171))=true:=by decide +kernel
theorem keyC:tabC.all (λp=>decide (171<p.1))=true:=by decide +kernel
def rowP(op:Int):Option Bs:=look zj8 op
theorem zvE{op:Int}(h:op<=71):look tabA op=rowP op:=by
 unfold rowP zj8
 rw[ZD,ZD,za3 (a:=tabB),za3 (a:=tabC),Option.or_none,Option.or_none]
 ·intro p hp;have:=List.all_eq_true.1 keyC p hp;simp at this;omega
 ·intro p hp;have:=List.all_eq_true.1 keyB p hp;simp at this;omega
theorem zvF{op:Int}(h:¬op<=71)(h':op<=171):look tabB op=rowP op:=by
 unfold rowP zj8
 rw[ZD,ZD,za3 (a:=tabA),za3 (a:=tabC),Option.or_none,Option.none_or]
 ·intro p hp;have:=List.all_eq_true.1 keyC p hp;simp at this;omega
 ·intro p hp;have:=List.all_eq_true.1 keyA p hp;simp at this;omega
theorem zvG{op:Int}(h:¬op<=71)(h':¬op<=171):look tabC op=rowP op:=by
 unfold rowP zj8
 rw[ZD,ZD,za3 (a:=tabA),za3 (a:=tabB),Option.none_or,Option.none_or]
 ·intro p hp;have:=List.all_eq_true.1 keyB p hp;simp at this;omega
 ·intro p hp;have:=List.all_eq_true.1 keyA p hp;simp at this;omega
theorem zuG{op:Int}{s:Bs}(h:rowP op=some s):zoE s=true:=List.all_eq_true.1 zuH _ (ZE h)
def frm(op:Int):Option Fl:=look tabR op
theorem zu3(op:Int):frm op=(rowP op).map zjT:=by
 unfold frm rowP
 rw[<-zoy,zsc]
theorem zok(s:Bs):(fldG s).2.length=6:=by
 suffices h:∀(l:Bs) (st:Nat×List Bs),(l.foldl fldS st).2.length=st.2.length from h s _
 intro l
 induction l with
 |nil=>intro st;rfl
 |cons c l ih=>
  intro st
  rw[List.foldl_cons,ih]
  unfold fldS
  split<;>simp
theorem zuz(s:Bs):(fldG s).1=s.count 32:=by
 suffices h:∀(l:Bs) (st:Nat×List Bs),(l.foldl fldS st).1=st.1+l.count 32 from(h s _).trans (Nat.zero_add _)
 intro l
 induction l with
 |nil=>intro st;simp
 |cons c l ih=>
  intro st
  rw[List.foldl_cons,ih]
  unfold fldS
  split
  ·rename_i e;subst e;simp;omega
  ·rename_i e;rw[List.count_cons_of_ne e]
theorem zr5(s:Bs):∀x∈(fldG s).2,x.length<=s.length:=by
 suffices h:∀(l:Bs) (st:Nat×List Bs) (n:Nat),(∀x∈st.2,x.length<=n)->∀x∈(l.foldl fldS st).2,x.length<=n+l.length by
  intro x hx
  have:=h s (0,[[],[],[],[],[],[]]) 0 (by simp) x hx
  omega
 intro l
 induction l with
 |nil=>intro st n h x hx;exact h x hx
 |cons c l ih=>
  intro st n h x hx
  have:=ih (fldS st c) (n+1) (λy hy=>by
   unfold fldS at hy
   split at hy
   ·have:=h y hy;omega
   ·obtain⟨i,hi,e⟩:=List.mem_iff_getElem.1 hy
    rw[List.getElem_modify]at e
    rw[List.length_modify]at hi
    split at e
    ·rw[<-e]
     have:=h _ (List.getElem_mem hi)
     simp
     omega
    ·rw[<-e]
     have:=h _ (List.getElem_mem hi)
     omega) x hx
  simp only[List.length_cons]
  omega
theorem zg5(s:Bs)(c:UInt8):fldG (s++[c])=fldS (fldG s) c:=by simp[fldG,List.foldl_append]
abbrev Fl.fixed(f:Fl):Bs:=f.2.2.2.1
abbrev Fl.rest(f:Fl):Bs:=f.2.2.2.2.1
abbrev Fl.most(f:Fl):Nat:=f.2.2.2.2.2.1
def zer(f:Fl):Bool:=f.fixed.all (λc=>c !=0)&&f.rest.all (λc=>c !=0)&&decide (f.fixed.length<=100)&&decide (f.rest.length<=100)&&decide (f.most<=100)
theorem zpB:tabR.all (λp=>zer p.2)=true:=by decide +kernel
def letP(f:Fl)(k:Nat):Nat:=
 if k<f.fixed.length then(f.fixed.getD k 0).toNat
 else if f.rest.length=0 then 0
 else if 0<f.most/\f.most*f.rest.length<=k-f.fixed.length then 0
 else(f.rest.getD ((k-f.fixed.length) % f.rest.length) 0).toNat
def yJ(c:Int):Int:=
 if c=105 then 1 else if c=110 then 2 else if c=115 then 3 else if (look tabN c).isSome then 4 else 0
theorem ztx:tabN.all (λp=>!p.2.isEmpty)=true:=by decide +kernel
theorem zo7:tabM.all (λp=>(look tabN p.1).isSome)=true:=by decide +kernel
theorem zth:tabR.all (λp=>p.2.fixed.all (λc=>decide (yJ c.toNat≠0))&&p.2.rest.all (λc=>decide (yJ c.toNat≠0)))=true:=by decide +kernel
theorem zol{op:Int}{f:Fl}(h:frm op=some f):zer f=true:=List.all_eq_true.1 zpB _ (ZE h)
theorem zrH{op:Int}{f:Fl}(h:frm op=some f){k:Nat}(hk:letP f k≠0):yJ (letP f k)≠0:=by
 have h2:=List.all_eq_true.1 zth _ (ZE h)
 rw[Bool.and_eq_true]at h2
 have h3:=List.all_eq_true.1 h2.1
 have h4:=List.all_eq_true.1 h2.2
 unfold letP at hk⊢
 split
 ·rename_i hlt
  rw[zp hlt]
  exact of_decide_eq_true (h3 _ (List.getElem_mem hlt))
 ·rename_i hlt
  rw[if_neg hlt]at hk
  split
  ·rename_i e;rw[if_pos e]at hk;exact absurd rfl hk
  ·rename_i e
   rw[if_neg e]at hk
   split
   ·rename_i e2;rw[if_pos e2]at hk;exact absurd rfl hk
   ·have:(k-f.fixed.length) % f.rest.length<f.rest.length:=Nat.mod_lt _ (by omega)
    rw[zp this]
    exact of_decide_eq_true (h4 _ (List.getElem_mem this))
def bad(f:Fl)(ks:List Int)(k:Nat):Bool:=ks.getD k 0==0||yJ (letP f k) !=ks.getD k 0
def zcT(f:Fl)(n:Nat):Bool:=decide (n<f.fixed.length)||(decide (f.rest.length≠0)&&decide ((n-f.fixed.length) % f.rest.length≠0))
def fitF(f:Fl)(ks:List Int):Nat×Bool:=match (List.range ks.length).find? (bad f ks) with
 |some k=>(k,false)
 |none=>if zcT f ks.length then(ks.length,false) else(0,true)
def fitP(op:Int)(ks:List Int):Nat×Bool:=match frm op with
 |none=>(0,false)
 |some f=>fitF f ks
theorem zr3{op:Int}{ks:List Int}(h:frm op=none):fitP op ks=(0,false):=by unfold fitP;rw[h]
theorem zmc{op:Int}{ks:List Int}{f:Fl}(h:frm op=some f):fitP op ks=fitF f ks:=by unfold fitP;rw[h]
theorem zcK{p:Nat->Bool}{n k:Nat}(hk:k<n)(hp:p k=true)(h:∀j,j<k->p j=false):(List.range n).find? p=some k:=by
 rw[List.find?_range_eq_some]
 exact⟨hp,by simpa using hk,λj hj=>by simp[h j hj]⟩
theorem zqB{f:Fl}{ks:List Int}{k:Nat}(hk:k<ks.length)(hp:bad f ks k=true)(h:∀j,j<k->bad f ks j=false):fitF f ks=(k,false):=by
 unfold fitF
 rw[zcK hk hp h]
theorem zoh{f:Fl}{ks:List Int}(h:∀j,j<ks.length->bad f ks j=false):fitF f ks=if zcT f ks.length then(ks.length,false) else(0,true):=by
 unfold fitF
 have:(List.range ks.length).find? (bad f ks)=none:=by
  rw[List.find?_eq_none]
  intro j hj
  rw[h j (List.mem_range.1 hj)]
  simp
 rw[this]
end Go.Gm
namespace Go.Proofs
open Go.Gk Go.RowKit Go.Gm
theorem zce{s:Bs}{k:Nat}(hk:k<s.length)(h:s[k]<128):Utf8.decode (bs s) k=(s[k].toNat,1):=by
 have e:((bs s).get! (k+0)).toNat=s[k].toNat:=by
  have:(bs s).get! (k+0)=s[k]:=by
   show(s.toArray)[k+0]! =s[k]
   simp[hk]
  rw[this]
 have h':s[k].toNat<128:=h
 unfold Utf8.decode
 simp only[e]
 rw[if_pos h']
theorem zeD{c:UInt8}(h:c<128):Utf8.encode (c.toNat:Int)=bs [c]:=by
 have h':c.toNat<128:=h
 have hv:Utf8.valid (c.toNat:Int)=true:=by
  unfold Utf8.valid
  have:(decide (0<=(c.toNat:Int))&&decide ((c.toNat:Int)<0xD800))=true:=by simp;omega
  rw[this];rfl
 unfold Utf8.encode
 simp only[hv,if_true,Int.toNat_natCast]
 rw[if_pos (by omega)]
 show _=bs [c]
 unfold bs
 simp
theorem zcl{w:World}{r:Nat}{s:ByteArray}{p:Nat}(h:r<w.heap.size):(YX w r s p).heap[r]? =some (.stringIter s p):=by
 simp[YX,h]
theorem zpG{α β:Type}(f:α->β)(g:α->α)(l:List α){i:Nat}(h:i<l.length):(l.map f).set i (f (g l[i]))=(l.modify i g).map f:=by
 apply List.ext_getElem
 ·simp
 ·intro j h1 h2
  simp only[List.getElem_set,List.getElem_map,List.getElem_modify]
  split
  ·rename_i e;subst e;rfl
  ·rfl
abbrev six(l:List Bs):List Value:=l.map λx=>.string (bs x)
theorem zoF{s:Bs}(h:zoE s=true):(∀c∈s,c<128)/\(∀c∈fld s 1,c<128)/\s.count 32<=5/\s.length<=100/\s≠[]/\(∃c r,fld s 5=c::r/\48<=c.toNat)/\(∀c r,fld s 4=c::r->48<=c.toNat):=by
 unfold zoE at h
 simp only[Bool.and_eq_true,decide_eq_true_eq,List.all_eq_true,Bool.not_eq_true',List.isEmpty_eq_false_iff]at h
 obtain⟨⟨⟨⟨⟨⟨h1,h1'⟩,h2⟩,h3⟩,h4⟩,h5⟩,h6⟩:=h
 refine⟨h1,h1',h2,h3,h4,?_,?_⟩
 ·cases e:fld s 5 with
  |nil=>rw[e]at h5;cases h5
  |cons c r=>rw[e]at h5;exact⟨c,r,rfl,of_decide_eq_true h5⟩
 ·intro c r e
  rw[e]at h6
  exact of_decide_eq_true h6
theorem zoe{s:Bs}(hs:zoE s=true){w:World}{R:VWP}
  (hR:∀w',Below w.heap.size w w'->R (.agg #[.string (bs (fld s 0)),.string (bs (fld s 1)),.string (bs (fld s 2)),.string (bs (fld s 3)),.string (bs (fld s 4)),.string (bs (fld s 5))]) w') :
  cR 191 #[.string (bs s)] w R:=by
 obtain⟨h128,-,h5,hlen,-⟩:=zoF hs
 refine za.of (zfX (bs s) R w ?_) λ_ _ h=>h
 refine Nw.gen λw1 e1=>Nw.gen λw2 e2=>Nw.gen λw3 e3=>?_
 have hA1:Blk w1 w.heap.size 291 (six [[],[],[],[],[],[]]):=by rw[e1];exact Blk.new w _ _
 have z1:w1.heap.size=w.heap.size+1:=by rw[e1];simp
 have b1:Below w.heap.size w w1:=by rw[e1];exact(Below.refl _ _).alloc (Nat.le_refl _) _
 have hA2:Blk w2 w.heap.size 291 (six [[],[],[],[],[],[]]):=by rw[e2];exact hA1.alloc _
 have hB2:Blk w2 w1.heap.size 291 (six [[],[],[],[],[],[]]):=by rw[e2];exact Blk.new w1 _ _
 have z2:w2.heap.size=w.heap.size+2:=by rw[e2];simp[z1]
 have b2:Below w.heap.size w w2:=by rw[e2];exact b1.alloc (by omega) _
 have hA3:Blk w3 w.heap.size 291 (six [[],[],[],[],[],[]]):=by rw[e3];exact hA2.alloc _
 have hB3:Blk w3 w1.heap.size 291 (six [[],[],[],[],[],[]]):=by rw[e3];exact hB2.alloc _
 have hI3:w3.heap[w2.heap.size]? =some (.stringIter (bs s) 0):=by
  rw[e3]
  show(w2.heap.push _)[w2.heap.size]? =_
  simp
 have z3:w3.heap.size=w.heap.size+3:=by rw[e3];simp[z2]
 have b3:Below w.heap.size w w3:=by rw[e3];exact b2.alloc (by omega) _
 clear e1 e2 e3 hA1 hA2 hB2
 refine zm.ghost (λj st w'=>∃k,k<=s.length/\j=s.length-k/\st=(((fldG (s.take k)).1:Int),())/\w'.heap.size=w.heap.size+3/\Below w.heap.size w w'/\w'.heap[w2.heap.size]? =some (.stringIter (bs s) k)/\
  Blk w' w.heap.size 291 (six [[],[],[],[],[],[]])/\Blk w' w1.heap.size 291 (six (fldG (s.take k)).2)) s.length ⟨0,Nat.zero_le _,rfl,rfl,z3,b3,hI3,hA3,hB3⟩ ?_
 rintro _ _ w4 ⟨k,hk,rfl,rfl,hz,hb,hI,hA,hB⟩ next hnext
 have hat:(fldG (s.take k)).1<=5:=by
  rw[zuz]
  exact Nat.le_trans ((List.take_sublist k s).count_le _) h5
 refine⟨bs s,k,hI,λhlt=>?_,λhge=>?_⟩
 ·rw[yp]at hlt
  have hc128:=h128 _ (List.getElem_mem hlt)
  rw[zce hlt hc128]
  dsimp only
  have hc:=Chg.iter w2.heap.size w4 (bs s) (k+1)
  have hI5:=zcl (w:=w4) (s:=bs s) (p:=k+1) (r:=w2.heap.size) (by omega)
  generalize YX w4 w2.heap.size (bs s) (k+1)=w5 at hc hI5
  have hA5:=hc.blk hA (by omega)
  have hB5:=hc.blk hB (by omega)
  have hb5:=hc.below hb (by omega)
  have hz5:=hc.size.trans hz
  have htk:s.take (k+1)=s.take k++[s[k]]:=List.take_succ_eq_append_getElem hlt
  refine zl (λe=>?_) (λe=>?_)
  ·have e:s[k]=32:=by
    apply UInt8.toNat.inj
    have:(s[k].toNat:Int)=32:=e
    show s[k].toNat=32
    omega
   rw[zE (by omega)]
   refine hnext (s.length-(k+1)) _ _ (by omega) ⟨k+1,hlt,rfl,?_,hz5,hb5,hI5,hA5,?_⟩
   ·rw[htk,zg5,fldS,if_pos e]
   ·rw[htk,zg5,fldS,if_pos e];exact hB5
  ·have e:s[k]≠32:=by
    intro h
    apply e
    rw[h]
    rfl
   have h6:=zok (s.take k)
   have hlt6:(fldG (s.take k)).1<(fldG (s.take k)).2.length:=by omega
   refine⟨⟨by omega,by omega⟩,?_⟩
   rw[Int.toNat_natCast]
   refine hB5.rT (x:=bs (fldG (s.take k)).2[(fldG (s.take k)).1]) (by simp[six,hlt6]) ⟨?_,⟨by omega,by omega⟩,hB5.wr (by simpa[six] using hlt6),?_⟩
   ·rw[zeD hc128]
    unfold zco
    rw[yp,yp]
    have:=zr5 (s.take k) _ (List.getElem_mem hlt6)
    rw[List.length_take]at this
    simp only[List.length_singleton]
    omega
   ·rw[zeD hc128,zlS]
    refine hnext (s.length-(k+1)) _ _ (by omega) ⟨k+1,hlt,rfl,?_,?_,?_,?_,?_,?_⟩
    ·rw[htk,zg5,fldS,if_neg e]
    ·simpa[World.setCell] using hz5
    ·exact(Chg.set _ _ _ _).below hb5 (by omega)
    ·rw[(Chg.set _ _ _ _).block _ (by omega)];exact hI5
    ·exact(Chg.set _ _ _ _).blk hA5 (by omega)
    ·have:=hB5.set (fldG (s.take k)).1 (.string (bs ((fldG (s.take k)).2[(fldG (s.take k)).1]++[s[k]])))
     rw[htk,zg5,fldS,if_neg e]
     have e3:=zpG (λx=>Value.string (bs x)) (·++[s[k]]) (fldG (s.take k)).2 hlt6
     show Blk _ _ _ (((fldG (s.take k)).2.modify (fldG (s.take k)).1 (·++[s[k]])).map λx=>Value.string (bs x))
     rw[<-e3]
     exact this
 ·rw[yp]at hge
  have:k=s.length:=by omega
  subst this
  rw[List.take_length]at hB
  have hR':∀w',Below w.heap.size w w'->R (.agg #[.string (bs ((fldG s).2.getD 0 [])),.string (bs ((fldG s).2.getD 1 [])),.string (bs ((fldG s).2.getD 2 [])),.string (bs ((fldG s).2.getD 3 [])),.string (bs ((fldG s).2.getD 4 [])),.string (bs ((fldG s).2.getD 5 []))]) w':=hR
  have h6:=zok s
  generalize (fldG s).2=l at hB h6 hR'
  match l,h6 with
  | [a0,a1,a2,a3,a4,a5],_=>
   refine hB.rT (n:=0) rfl (hB.rT (n:=1) rfl (hB.rT (n:=2) rfl (hB.rT (n:=3) rfl (hB.rT (n:=4) rfl (hB.rT (n:=5) rfl ?_)))))
   refine ZL (vs:=six [a0,a1,a2,a3,a4,a5]) hA rfl λw' h1 h2=>?_
   refine h1.rT (n:=0) rfl (h1.rT (n:=1) rfl (h1.rT (n:=2) rfl (h1.rT (n:=3) rfl (h1.rT (n:=4) rfl (h1.rT (n:=5) rfl ?_)))))
   exact hR' w' (h2.below hb (Nat.le_refl _))
abbrev rowT(op:Int):Bs:=(rowP op).getD []
theorem zuy(op:Int)(R:VWP)(w:World):zbq op R w=zlW tabA op (λs=>R (.string (bs s)) w) (R (.string (bs [])) w):=by kernel_rfl
theorem ztG(op:Int)(R:VWP)(w:World):zay op R w=zlW tabB op (λs=>R (.string (bs s)) w) (R (.string (bs [])) w):=by kernel_rfl
theorem zvb(op:Int)(R:VWP)(w:World):zbs op R w=zlW tabC op (λs=>R (.string (bs s)) w) (R (.string (bs [])) w):=by kernel_rfl
theorem ztE{op:Int}{w:World}{R:VWP}(hR:R (.string (bs (rowT op))) w):cR 190 #[.int .u16 op] w R:=by
 refine za.of (zi8 op R w ?_) λ_ _ h=>h
 unfold rowT at hR
 refine zj (λh=>?_) (λh=>zj (λh'=>?_) (λh'=>?_))
 ·rw[<-zvE h]at hR
  refine za.of (zgM op _ w ?_) λ_ _ h=>h
  rw[zuy]
  exact zea (λx hx=>⟨_,rfl,by rw[hx]at hR;exact hR⟩) (λhx=>⟨_,rfl,by rw[hx]at hR;exact hR⟩)
 ·rw[<-zvF h h']at hR
  refine za.of (zfZ op _ w ?_) λ_ _ h=>h
  rw[ztG]
  exact zea (λx hx=>⟨_,rfl,by rw[hx]at hR;exact hR⟩) (λhx=>⟨_,rfl,by rw[hx]at hR;exact hR⟩)
 ·rw[<-zvG h h']at hR
  refine za.of (zgN op _ w ?_) λ_ _ h=>h
  rw[zvb]
  exact zea (λx hx=>⟨_,rfl,by rw[hx]at hR;exact hR⟩) (λhx=>⟨_,rfl,by rw[hx]at hR;exact hR⟩)
abbrev Fm:=Int×ByteArray×Bool×Bool×ByteArray×ByteArray×Int×Int×Unit
abbrev fmV(f:Fm):List Value:=[.int .u16 f.1,.string f.2.1,.bool f.2.2.1,.bool f.2.2.2.1,.string f.2.2.2.2.1,.string f.2.2.2.2.2.1,.int .i64 f.2.2.2.2.2.2.1,.int .u8 f.2.2.2.2.2.2.2.1]
abbrev fmA(f:Fm):Value:=.agg #[.int .u16 f.1,.string f.2.1,.bool f.2.2.1,.bool f.2.2.2.1,.string f.2.2.2.2.1,.string f.2.2.2.2.2.1,.int .i64 f.2.2.2.2.2.2.1,.int .u8 f.2.2.2.2.2.2.2.1]
def fmO(op:Int):Option Fl->Fm
 |none=>(0,bs [],false,false,bs [],bs [],0,0,())
 |some f=>(op,bs f.1,f.2.1,f.2.2.1,bs f.fixed,bs f.rest,(f.most:Int),(f.2.2.2.2.2.2:Int),())
theorem Fm.load{w:World}{b:Nat}{T:TypeId}{f:Fm}(h:Blk w b T (fmV f)){φ:Int->ByteArray->Bool->Bool->ByteArray->ByteArray->Int->Int->Prop}
  (hφ:φ f.1 f.2.1 f.2.2.1 f.2.2.2.1 f.2.2.2.2.1 f.2.2.2.2.2.1 f.2.2.2.2.2.2.1 f.2.2.2.2.2.2.2.1) :
  ldI w ((blk b).add 0) .u16 λx1=>zy w ((blk b).add 1) λx2=>ldB w ((blk b).add 2) λx3=>ldB w ((blk b).add 3) λx4=>zy w ((blk b).add 4) λx5=>zy w ((blk b).add 5) λx6=>
   ldI w ((blk b).add 6) .i64 λx7=>ldI w ((blk b).add 7) .u8 λx8=>φ x1 x2 x3 x4 x5 x6 x7 x8:=
 h.rI (n:=0) rfl (h.rT (n:=1) rfl (h.rB (n:=2) rfl (h.rB (n:=3) rfl (h.rT (n:=4) rfl (h.rT (n:=5) rfl (h.rI (n:=6) rfl (h.rI (n:=7) rfl hφ)))))))
theorem znE{c:UInt8}{r:Bs}(h:48<=c.toNat):IntKind.u8.wrap (zdu (bs (c::r)) 0-48)=((c.toNat-48:Nat):Int):=by
 have e:zdu (bs (c::r)) 0=(c.toNat:Int):=zmH (c::r) 0
 have:=c.toNat_lt
 rw[e,IntKind.wrap_u8]
 omega
theorem zi7{op:Int}{w:World}{R:VWP}(hR:∀w',Below w.heap.size w w'->R (.tuple #[fmA (fmO op (frm op)),.bool (frm op).isSome]) w') :
  cR 179 #[.int .u16 op] w R:=by
 refine za.of (zjv op R w ?_) λ_ _ h=>h
 refine Nw.gen λw1 e1=>?_
 have hA1:Blk w1 w.heap.size 274 (fmV (fmO op none)):=by rw[e1];exact Blk.new w _ _
 have z1:w1.heap.size=w.heap.size+1:=by rw[e1];simp
 have b1:Below w.heap.size w w1:=by rw[e1];exact(Below.refl _ _).alloc (Nat.le_refl _) _
 clear e1
 refine ztE ⟨_,rfl,?_⟩
 dsimp only[zB,Go.Gk.Sl.zw,zi,zu,zb,zh];rw[Yo]
 rw[zu3]at hR
 cases hrow:rowP op with
 |none=>
  rw[hrow]at hR
  refine zR (by unfold rowT;rw[hrow];rfl) ?_
  refine ZL (vs:=fmV (fmO op none)) hA1 rfl λw2 h1 h2=>?_
  exact Fm.load h1 (hR w2 (h2.below b1 (Nat.le_refl _)))
 |some s=>
  rw[hrow]at hR
  have hok:=zuG hrow
  obtain⟨h128,h128',h5,hlen,hne,⟨c5,r5,e5,g5⟩,g4⟩:=zoF hok
  have ert:rowT op=s:=by unfold rowT;rw[hrow];rfl
  rw[ert]
  refine zK (by simpa using hne) ?_
  refine zoe hok λw2 b2=>?_
  have hA2:=hA1.below b2
  have b2':Below w.heap.size w w2:=b1.trans (b2.mono (by omega))
  have z2:w.heap.size<w2.heap.size:=by have:=b2.size;omega
  refine⟨(bs (fld s 0),bs (fld s 1),bs (fld s 2),bs (fld s 3),bs (fld s 4),bs (fld s 5),()),rfl,?_⟩
  refine zfL (T:=291) (vs:=six [fld s 0,fld s 1,fld s 2,fld s 3,fld s 4,fld s 5]) rfl λw3 hB b3 z3=>?_
  have hA3:=hA2.below b3
  have b3':Below w.heap.size w w3:=b2'.trans (b3.mono (by omega))
  refine⟨⟨by decide,by decide⟩,hB.drew.rT (n:=0) rfl ⟨⟨by decide,by decide⟩,hB.drew.rT (n:=2) rfl ⟨⟨by decide,by decide⟩,hB.drew.rT (n:=3) rfl ⟨⟨by decide,by decide⟩,hB.drew.rT (n:=5) rfl ⟨⟨by decide,?_⟩,?_⟩⟩⟩⟩⟩
  ·rw[yp,e5];simp
  refine Nw.gen λw4 e4=>?_
  have hC4:Blk w4 w3.drew.heap.size 274 (fmV (fmO op none)):=by rw[e4];exact Blk.new w3.drew _ _
  have hB4:Blk w4 w2.heap.size 291 (six [fld s 0,fld s 1,fld s 2,fld s 3,fld s 4,fld s 5]):=by rw[e4];exact hB.drew.alloc _
  have hA4:Blk w4 w.heap.size 274 (fmV (fmO op none)):=by rw[e4];exact hA3.drew.alloc _
  have b4:Below w.heap.size w w4:=by rw[e4];exact b3'.drew.alloc (by show w.heap.size<=w3.heap.size;omega) _
  have z4:w4.heap.size=w3.heap.size+1:=by rw[e4];simp
  clear e4
  refine⟨hB4.cell (n:=5) rfl,hB4.cell (n:=3) rfl,hB4.cell (n:=2) rfl,hB4.cell (n:=0) rfl,?_⟩
  have zd:w3.drew.heap.size=w3.heap.size:=rfl
  generalize w3.drew.heap.size=n4 at zd hC4
  rw[e5,znE g5]
  refine ZL (vs:=[.int .u16 op,.string (bs (fld s 0)),.bool false,.bool false,.string (bs (fld s 2)),.string (bs (fld s 3)),.int .i64 0,.int .u8 ((c5.toNat-48:Nat):Int)]) hC4 rfl λw5 hC5 c5'=>?_
  have hB5:=c5'.blk hB4 (by omega)
  have hA5:=c5'.blk hA4 (by omega)
  have b5:=c5'.below b4 (by omega)
  have z5:=c5'.size
  refine⟨⟨by decide,by decide⟩,hB5.rT (n:=1) rfl ?_⟩
  refine Nw.gen λw6 e6=>?_
  have hI6:w6.heap[w5.heap.size]? =some (.stringIter (bs (fld s 1)) 0):=by
   rw[e6]
   show(w5.heap.push _)[w5.heap.size]? =_
   simp
  have hC6:=hC5.alloc (.stringIter (bs (fld s 1)) 0)
  have hB6:=hB5.alloc (.stringIter (bs (fld s 1)) 0)
  have hA6:=hA5.alloc (.stringIter (bs (fld s 1)) 0)
  have z6:w6.heap.size=w5.heap.size+1:=by rw[e6];simp
  have b6:Below w.heap.size w w6:=by rw[e6];exact b5.alloc (by omega) _
  rw[<-e6]at hC6 hB6 hA6
  clear e6
  refine zm.ghost (λj (_:Unit) w'=>∃k,k<=(fld s 1).length/\j=(fld s 1).length-k/\w'.heap.size=w6.heap.size/\Below w.heap.size w w'/\w'.heap[w5.heap.size]? =some (.stringIter (bs (fld s 1)) k)/\
   Blk w' w.heap.size 274 (fmV (fmO op none))/\Blk w' w2.heap.size 291 (six [fld s 0,fld s 1,fld s 2,fld s 3,fld s 4,fld s 5])/\
   Blk w' n4 274 [.int .u16 op,.string (bs (fld s 0)),.bool (((fld s 1).take k).contains 84),.bool (((fld s 1).take k).contains 82),.string (bs (fld s 2)),.string (bs (fld s 3)),.int .i64 0,.int .u8 ((c5.toNat-48:Nat):Int)])
   (fld s 1).length ⟨0,Nat.zero_le _,rfl,rfl,b6,hI6,hA6,hB6,hC6⟩ ?_
  rintro _ _ w7 ⟨k,hk,rfl,hz,hb,hI,hA,hB',hC⟩ next hnext
  refine⟨bs (fld s 1),k,hI,λhlt=>?_,λhge=>?_⟩
  ·rw[yp]at hlt
   have hc128:=h128' _ (List.getElem_mem hlt)
   rw[zce hlt hc128]
   dsimp only
   have hc:=Chg.iter w5.heap.size w7 (bs (fld s 1)) (k+1)
   have hI8:=zcl (w:=w7) (s:=bs (fld s 1)) (p:=k+1) (r:=w5.heap.size) (by omega)
   generalize YX w7 w5.heap.size (bs (fld s 1)) (k+1)=w8 at hc hI8
   have hA8:=hc.blk hA (by omega)
   have hB8:=hc.blk hB' (by omega)
   have hC8:=hc.blk hC (by omega)
   have hb8:=hc.below hb (by omega)
   have hz8:=hc.size.trans hz
   have htk:(fld s 1).take (k+1)=(fld s 1).take k++[(fld s 1)[k]]:=List.take_succ_eq_append_getElem hlt
   have hcon:∀(d:UInt8),((fld s 1).take (k+1)).contains d=(((fld s 1).take k).contains d||(((fld s 1)[k].toNat:Int)==((d.toNat:Nat):Int))):=by
    intro d
    rw[htk,List.contains_append]
    congr 1
    simp only[List.contains_cons,List.contains_nil,Bool.or_false]
    by_cases e:(fld s 1)[k]=d
    ·rw[e];simp
    ·have e1:(d==(fld s 1)[k])=false:=beq_eq_false_iff_ne.2 λh=>e h.symm
     have e2:(((fld s 1)[k].toNat:Int)==((d.toNat:Nat):Int))=false:=beq_eq_false_iff_ne.2 λh=>e (UInt8.toNat.inj (by omega))
     rw[e1,e2]
   refine zo.cut (λ_ w9=>Chg n4 w8 w9/\Blk w9 n4 274 [.int .u16 op,.string (bs (fld s 0)),.bool (((fld s 1).take (k+1)).contains 84),.bool (((fld s 1).take k).contains 82),.string (bs (fld s 2)),.string (bs (fld s 3)),.int .i64 0,.int .u8 ((c5.toNat-48:Nat):Int)]) ?_ ?_
   ·refine hC8.rB (n:=2) rfl (zA (λht=>?_) (λht=>?_))
    ·refine⟨hC8.wr (n:=2) (by simp),Chg.set _ _ _ _,?_⟩
     have:=hC8.set 2 (.bool true)
     rw[hcon 84,ht]
     exact this
    ·refine⟨hC8.wr (n:=2) (by simp),Chg.set _ _ _ _,?_⟩
     have:=hC8.set 2 (.bool (((fld s 1)[k].toNat:Int)==84))
     rw[hcon 84,ht,Bool.false_or]
     exact this
   ·rintro _ w9 ⟨c9,hC9⟩
    have fin:∀w10,Chg n4 w9 w10->Blk w10 n4 274 [.int .u16 op,.string (bs (fld s 0)),.bool (((fld s 1).take (k+1)).contains 84),.bool (((fld s 1).take (k+1)).contains 82),.string (bs (fld s 2)),.string (bs (fld s 3)),.int .i64 0,.int .u8 ((c5.toNat-48:Nat):Int)]->next () w10:=by
     intro w10 c10 hC10
     have cc:=c9.trans c10
     refine hnext ((fld s 1).length-(k+1)) _ _ (by omega) ⟨k+1,hlt,rfl,cc.size.trans hz8,cc.below hb8 (by omega),?_,cc.blk hA8 (by omega),cc.blk hB8 (by omega),hC10⟩
     rw[cc.block _ (by omega)]
     exact hI8
    refine hC9.rB (n:=3) rfl (zA (λht=>?_) (λht=>?_))
    ·refine⟨hC9.wr (n:=3) (by simp),fin _ (Chg.set _ _ _ _) ?_⟩
     have:=hC9.set 3 (.bool true)
     rw[hcon 82,ht]
     exact this
    ·refine⟨hC9.wr (n:=3) (by simp),fin _ (Chg.set _ _ _ _) ?_⟩
     have:=hC9.set 3 (.bool (((fld s 1)[k].toNat:Int)==82))
     rw[hcon 82,ht,Bool.false_or]
     exact this
  ·rw[yp]at hge
   have hk:k=(fld s 1).length:=by omega
   subst hk
   rw[List.take_length]at hC
   refine zo.cut (λ_ w9=>Chg n4 w7 w9/\Blk w9 n4 274 (fmV (fmO op (some (zjT s))))) ?_ ?_
   ·refine⟨⟨by decide,by decide⟩,hB'.rT (n:=4) rfl ?_⟩
    rw[Yo]
    cases e4:fld s 4 with
    |nil=>
     refine zK rfl ⟨Chg.refl _ _,?_⟩
     have ep:zjT s=(fld s 0,(fld s 1).contains 84,(fld s 1).contains 82,fld s 2,fld s 3,0,c5.toNat-48):=by
      unfold zjT
      rw[e4,e5]
     rw[ep]
     exact hC
    |cons c4 r4=>
     have g:=g4 _ _ e4
     refine zR rfl ⟨⟨by decide,by decide⟩,?_⟩
     rw[e4]at hB'
     refine hB'.rT (n:=4) rfl ⟨⟨by decide,by rw[yp];simp⟩,hC.wr (n:=6) (by simp),Chg.set _ _ _ _,?_⟩
     rw[znE g,zq (by omega) (by have:=c4.toNat_lt;omega)]
     have ep:zjT s=(fld s 0,(fld s 1).contains 84,(fld s 1).contains 82,fld s 2,fld s 3,c4.toNat-48,c5.toNat-48):=by
      unfold zjT
      rw[e4,e5]
     rw[ep]
     exact hC.set 6 (.int .i64 ((c4.toNat-48:Nat):Int))
   ·rintro _ w9 ⟨c9,hC9⟩
    refine Fm.load hC9 ?_
    refine ZL (vs:=fmV (fmO op (some (zjT s)))) (c9.blk hA (by omega)) rfl λw10 h1 h2=>?_
    exact Fm.load h1 (hR w10 (h2.below (c9.below hb (by omega)) (Nat.le_refl _)))
end Go.Proofs
namespace Go.Proofs
open Go.Gk Go.RowKit Go.Gm
def fl0:Fl:=([],false,false,[],[],0,0)
def flOf(op:Int):Fl:=(frm op).getD fl0
theorem zqC(op:Int):zer (flOf op)=true:=by
 unfold flOf
 cases h:frm op with
 |none=>decide +kernel
 |some f=>exact zol h
structure FmIs (f:Fm) (g:Fl):Prop where
 fixed:f.2.2.2.2.1=bs g.fixed
 rest:f.2.2.2.2.2.1=bs g.rest
 most:f.2.2.2.2.2.2.1=(g.most:Int)
theorem fmIs(op:Int):FmIs (fmO op (frm op)) (flOf op):=by
 unfold flOf
 cases h:frm op with
 |none=>exact⟨rfl,rfl,rfl⟩
 |some f=>exact⟨rfl,rfl,rfl⟩
structure LOk (g:Fl):Prop where
 fixed:∀c∈g.fixed,c≠0
 rest:∀c∈g.rest,c≠0
 fl:g.fixed.length<=100
 rl:g.rest.length<=100
 ml:g.most<=100
theorem lOk{g:Fl}(h:zer g=true):LOk g:=by
 unfold zer at h
 simp only[Bool.and_eq_true,List.all_eq_true,bne_iff_ne,decide_eq_true_eq]at h
 obtain⟨⟨⟨⟨h1,h2⟩,h3⟩,h4⟩,h5⟩:=h
 exact⟨h1,h2,h3,h4,h5⟩
def fixP(g:Fl)(k:Nat):Nat:=if k<g.fixed.length then(g.fixed.getD k 0).toNat else 0
def zjV(g:Fl)(k:Nat):Nat:=
 if k<g.fixed.length then 0 else if g.rest.length=0 then 0 else if 0<g.most/\g.most*g.rest.length<=k-g.fixed.length then 0
 else(g.rest.getD ((k-g.fixed.length) % g.rest.length) 0).toNat
theorem ztn{g:Fl}{k:Nat}(h:fixP g k≠0):letP g k=fixP g k:=by
 unfold fixP at h⊢
 unfold letP
 split
 ·rfl
 ·rename_i h1;rw[if_neg h1]at h;exact absurd rfl h
theorem zmm{g:Fl}(hg:LOk g){k:Nat}(h:fixP g k=0):letP g k=zjV g k:=by
 unfold fixP at h
 unfold zjV letP
 split at h
 ·rename_i h1
  rw[zp h1]at h
  exact absurd (UInt8.toNat.inj (b:=0) h) (hg.fixed _ (List.getElem_mem h1))
 ·rename_i h1
  rw[if_neg h1,if_neg h1]
section
variable {f:Fm} {g:Fl} {w:World} {R:VWP}
theorem zp4(hf:FmIs f g){i:Nat}(hR:∀w',Below w.heap.size w w'->R (.int .u8 (fixP g i:Int)) w') :
  cR 210 #[fmA f,.int .i64 (i:Int)] w R:=by
 refine za.of (zdB f i R w ?_) λ_ _ h=>h
 refine zk λw1 hB b1 z1=>?_
 have hB:Blk w1 w.heap.size 301 (fmV f):=hB
 have hf4:=hf.fixed
 refine zo.cut (λ_ w'=>w'=w1/\i<g.fixed.length) ?_ ?_
 ·refine zj (λh=>absurd h (by omega)) (λ_=>?_)
  refine hB.rT (n:=4) rfl ?_
  rw[hf4,yp]
  refine zj (λh=>?_) (λh=>⟨rfl,by omega⟩)
  have:=hR w1 b1
  rwa[fixP,if_neg (by omega)]at this
 ·rintro _ w' ⟨rfl,hlt⟩
  refine hB.rT (n:=4) rfl ?_
  rw[hf4,yp,zmH]
  refine⟨⟨by omega,by omega⟩,?_⟩
  have:=hR w' b1
  rwa[fixP,if_pos hlt]at this
theorem zrU(hf:FmIs f g)(hg:LOk g){i:Nat}(hi:i<=9223372036854775807)(hR:∀w',Below w.heap.size w w'->R (.int .u8 (zjV g i:Int)) w') :
  cR 211 #[fmA f,.int .i64 (i:Int)] w R:=by
 refine za.of (zen f i R w ?_) λ_ _ h=>h
 refine zk λw1 hB b1 z1=>?_
 have hB:Blk w1 w.heap.size 301 (fmV f):=hB
 have h1:=hg.fl
 have h2:=hg.rl
 have h3:=hg.ml
 refine hB.rT (n:=4) rfl ?_
 have hf4:=hf.fixed
 have hf5:=hf.rest
 have hf6:=hf.most
 rw[hf4,yp,zq (by omega) (by omega)]
 have hmul:g.most*g.rest.length<=10000:=Nat.le_trans (Nat.mul_le_mul h3 h2) (by omega)
 refine zo.cut (λ_ w'=>w'=w1/\g.fixed.length<=i/\g.rest.length≠0/\¬(0<g.most/\g.most*g.rest.length<=i-g.fixed.length)) ?_ ?_
 ·refine zj (λh=>?_) (λh=>?_)
  ·have:=hR w1 b1
   rwa[zjV,if_pos (by omega)]at this
  ·have hge:¬i<g.fixed.length:=by omega
   refine hB.rT (n:=5) rfl ?_
   rw[hf5,Yo]
   refine zA (λe=>?_) (λe=>?_)
   ·have:=hR w1 b1
    rwa[zjV,if_neg hge,if_pos (by rw[List.isEmpty_iff]at e;rw[e];rfl)]at this
   ·have hne:g.rest.length≠0:=by
     intro h
     rw[List.eq_nil_of_length_eq_zero h]at e
     cases e
    refine hB.rI (n:=6) rfl ?_
    rw[hf6]
    refine zj (λhm=>?_) (λhm=>⟨rfl,by omega,hne,by omega⟩)
    refine hB.rI (n:=6) rfl (hB.rT (n:=5) rfl ?_)
    rw[hf6,hf5,yp,<-Int.natCast_mul,zq (by omega) (by omega)]
    refine zj (λhc=>?_) (λhc=>⟨rfl,by omega,hne,by omega⟩)
    have:=hR w1 b1
    rwa[zjV,if_neg hge,if_neg hne,if_pos ⟨by omega,by omega⟩]at this
 ·rintro _ w' ⟨rfl,hge,hne,hno⟩
  refine hB.drew.rT (n:=5) rfl (hB.drew.rT (n:=5) rfl ?_)
  rw[hf5,yp]
  refine zj (λh=>absurd h (by omega)) (λ_=>?_)
  have e:Int.tmod ((i:Int)-(g.fixed.length:Int)) (g.rest.length:Int)=(((i-g.fixed.length) % g.rest.length:Nat):Int):=by
   rw[show(i:Int)-(g.fixed.length:Int)=((i-g.fixed.length:Nat):Int) by omega]
   exact Int.ofNat_tmod _ _ |>.symm
  have hlt:(i-g.fixed.length) % g.rest.length<g.rest.length:=Nat.mod_lt _ (by omega)
  rw[e,zmH]
  refine⟨⟨by omega,by omega⟩,?_⟩
  have:=hR w'.drew b1.drew
  rwa[zjV,if_neg (by omega),if_neg hne,if_neg hno]at this
theorem zjQ(hf:FmIs f g)(hg:LOk g){i:Nat}(hi:i<=9223372036854775807)(hR:∀w',Below w.heap.size w w'->R (.int .u8 (letP g i:Int)) w') :
  cR 204 #[fmA f,.int .i64 (i:Int)] w R:=by
 refine za.of (zcX f i R w ?_) λ_ _ h=>h
 refine zk λw1 hB b1 z1=>?_
 have hB:Blk w1 w.heap.size 301 (fmV f):=hB
 refine zj (λh=>absurd h (by omega)) (λ_=>?_)
 refine Fm.load hB (Fm.load hB ?_)
 refine zk λw2 hF b2 z2=>?_
 have b2':=b1.on b2
 refine zm.count 2 (by omega) (λk w'=>Below w.heap.size w w'/\Below w2.heap.size w2 w'/\(0<k->fixP g i=0)/\(1<k->zjV g i=0)) ⟨b2',Below.refl _ _,λh=>by omega,λh=>by omega⟩ ?_
 rintro k w3 hk ⟨hb,hb2,hk1,hk2⟩ next hnext
 have hF3:=hF.below hb2
 have z3:=hb.size
 refine zj (λh=>?_) (λh=>?_)
 ·refine⟨⟨by omega,by omega⟩,?_⟩
  match k,h,hk1,hk2,hnext with
  | 0,_,_,_,hnext=>
   refine⟨_,hF3.cell (n:=0) rfl,?_⟩
   show cR 210 #[fmA f,.int .i64 (i:Int)] w3 _
   refine zp4 hf λw4 b4=>⟨_,rfl,?_⟩
   refine zC (λe=>?_) (λe=>?_)
   ·have:=hR w4 (hb.on b4)
    rwa[ztn (by omega)]at this
   ·exact hnext w4 (by omega) ⟨hb.on b4,hb2.on b4,λ_=>by omega,λh=>by omega⟩
  | 1,_,hk1,_,hnext=>
   refine⟨_,hF3.cell (n:=1) rfl,?_⟩
   show cR 211 #[fmA f,.int .i64 (i:Int)] w3 _
   refine zrU hf hg hi λw4 b4=>⟨_,rfl,?_⟩
   have hf0:=hk1 (by omega)
   refine zC (λe=>?_) (λe=>?_)
   ·have:=hR w4 (hb.on b4)
    rwa[zmm hg hf0]at this
   ·exact hnext w4 (by omega) ⟨hb.on b4,hb2.on b4,λ_=>hf0,λ_=>by omega⟩
  |k+2,h,_,_,_=>dsimp only at h;omega
 ·have hk:1<k:=by dsimp only at h;omega
  have:=hR w3 hb
  rwa[zmm hg (hk1 (by omega)),hk2 hk]at this
end
theorem zqP(c:Int)(R:VWP)(w:World):zbr c R w=zlW tabN c (λs=>R (.string (bs s)) w) (R (.string (bs [])) w):=by kernel_rfl
theorem zlM{c:Int}{w:World}{R:VWP}(hR:R (.int .u8 (yJ c)) w):cR 195 #[.int .u8 c] w R:=by
 refine za.of (zh6 c R w ?_) λ_ _ h=>h
 unfold yJ at hR
 refine zl (λe=>by rwa[if_pos e]at hR) (λe=>?_)
 rw[if_neg e]at hR
 refine zl (λe=>by rwa[if_pos e]at hR) (λe=>?_)
 rw[if_neg e]at hR
 refine zl (λe=>by rwa[if_pos e]at hR) (λe=>?_)
 rw[if_neg e]at hR
 refine za.of (zbY c _ w ?_) λ_ _ h=>h
 rw[zqP]
 refine zea (λs hs=>⟨_,rfl,?_⟩) (λhs=>⟨_,rfl,?_⟩)
 ·dsimp only[zB,Go.Gk.Sl.zw,zi,zu,zb,zh];rw[Yo]
  have:=List.all_eq_true.1 ztx _ (ZE hs)
  rw[hs]at hR
  exact zR this hR
 ·dsimp only[zB,Go.Gk.Sl.zw,zi,zu,zb,zh];rw[Yo]
  rw[hs]at hR
  exact zK rfl hR
theorem zrj{op:Int}{s:Sl}{ks:List Int}{w:World}{R:VWP}(hs:IsS (Value.int .u8) w s ks)
  (hR:∀w',Below w.heap.size w w'->R (.tuple #[.int .i64 ((fitP op ks).1:Int),.bool (fitP op ks).2]) w') :
  cR 198 #[.int .u16 op,.slice s.a s.l s.c] w R:=by
 refine za.of (zh5 op s R w ?_) λ_ _ h=>h
 have hg:=lOk (zqC op)
 have hlen:=hs.len
 have hmax:=hs.bound
 refine zi7 λw1 b1=>⟨fmO op (frm op),(frm op).isSome,rfl,?_⟩
 refine zfL (T:=274) (vs:=fmV (fmO op (frm op))) rfl λw2 hB b2 z2=>?_
 refine zA (λhn=>?_) (λhn=>?_)
 ·have hfr:frm op=none:=by
   cases h:frm op with
   |none=>rfl
   |some g=>rw[h]at hn;cases hn
  rw[zr3 hfr]at hR
  exact hR w2 (b1.on b2)
 ·obtain⟨g,hfr⟩:∃g,frm op=some g:=by
   cases h:frm op with
   |none=>rw[h]at hn;cases hn
   |some g=>exact⟨g,rfl⟩
  rw[zmc hfr]at hR
  have efl:flOf op=g:=by unfold flOf;rw[hfr];rfl
  have hfm:=fmIs op
  rw[efl]at hfm hg
  generalize fmO op (frm op)=fm at hB hfm
  refine Fm.load hB ?_
  refine box8 rfl λw3 hC b3 z3=>?_
  have hC:Blk w3 w2.heap.size 301 (fmV fm):=hC
  have b3':=(b1.on b2).on b3
  refine zm.count s.l (by omega) (λk w'=>Below w.heap.size w w'/\Below w3.heap.size w3 w'/\∀j,j<k->bad g ks j=false) ⟨b3',Below.refl _ _,λj hj=>by omega⟩ ?_
  rintro k w4 hk ⟨hb,hb3,hj⟩ next hnext
  have hC4:=hC.below hb3
  have hs4:=hs.below hb
  refine zj (λh=>?_) (λh=>?_)
  ·have hlt:k<ks.length:=by dsimp only at h;omega
   have hbadE:bad g ks k=(ks[k]==0||yJ (letP g k) !=ks[k]):=by unfold bad;rw[zp hlt]
   refine zo.cut (λ_ w'=>Below w4.heap.size w4 w'/\bad g ks k=false) ?_ ?_
   ·refine hs4.addr hlt λa _ hc=>⟨_,hc,?_⟩
    refine zl (λe=>?_) (λe=>?_)
    ·have:=hR w4 hb
     rwa[zqB hlt (by rw[hbadE,e];rfl) hj]at this
    ·refine Fm.load hC4 ?_
     refine zjQ hfm hg (by omega) λw5 b5=>⟨_,rfl,?_⟩
     refine zlM ⟨_,rfl,?_⟩
     refine zC (λe2=>?_) (λe2=>?_)
     ·have:=hR w5 (hb.on b5)
      rwa[zqB hlt (by rw[hbadE,bne_iff_ne.2 e2,Bool.or_true]) hj]at this
     ·refine⟨b5,?_⟩
      rw[hbadE,e2]
      simpa using e
   ·rintro _ w5 ⟨b5,hbk⟩
    refine hnext w5 (by omega) ⟨hb.on b5,hb3.on b5,λj hj'=>?_⟩
    by_cases e:j=k
    ·subst e;exact hbk
    ·exact hj j (by omega)
  ·have hk:k=ks.length:=by dsimp only at h;omega
   subst hk
   have hfit:=zoh hj
   have hR':=hR w4 hb
   rw[show fitF g ks=_ from hfit]at hR'
   have h1:=hg.fl
   refine hC4.rT (n:=4) rfl ?_
   rw[hfm.fixed,yp,zq (by omega) (by omega),hlen]
   refine zj (λhn=>?_) (λhn=>?_)
   ·rwa[if_pos (by unfold zcT;rw[decide_eq_true (by omega),Bool.true_or])]at hR'
   ·have hge:¬ks.length<g.fixed.length:=by omega
    refine hC4.rT (n:=5) rfl ?_
    rw[hfm.rest,Yo]
    refine zA (λe=>?_) (λe=>?_)
    ·have hne:g.rest.length≠0:=by
      intro h
      rw[List.eq_nil_of_length_eq_zero h]at e
      cases e
     refine hC4.rT (n:=5) rfl ?_
     rw[hfm.rest,yp]
     refine zj (λh=>absurd h (by omega)) (λ_=>?_)
     have e3:Int.tmod ((ks.length:Int)-(g.fixed.length:Int)) (g.rest.length:Int)=(((ks.length-g.fixed.length) % g.rest.length:Nat):Int):=by
      rw[show(ks.length:Int)-(g.fixed.length:Int)=((ks.length-g.fixed.length:Nat):Int) by omega]
      exact Int.ofNat_tmod _ _ |>.symm
     rw[e3]
     refine zC (λe4=>?_) (λe4=>?_)
     ·rwa[if_pos (by unfold zcT;rw[decide_eq_false hge,decide_eq_true hne,decide_eq_true (by omega)];rfl)]at hR'
     ·rwa[if_neg (by unfold zcT;rw[decide_eq_false hge,decide_eq_true hne,decide_eq_false (by omega)];decide)]at hR'
    ·have hz:g.rest.length=0:=by
      have:g.rest.isEmpty=true:=by simpa using e
      rw[List.isEmpty_iff]at this
      rw[this]
      rfl
     rwa[if_neg (by unfold zcT;rw[decide_eq_false hge,decide_eq_false (show ¬g.rest.length≠0 by omega),Bool.false_and];decide)]at hR'
end Go.Proofs
namespace Go.Proofs
open Go.Gk Go.RowKit Go.Gm
end Go.Proofs
