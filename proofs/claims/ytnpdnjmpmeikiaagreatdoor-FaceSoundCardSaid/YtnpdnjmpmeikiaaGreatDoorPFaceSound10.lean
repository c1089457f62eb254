/- FaceSound, part 10; made small by a program. -/
import Derived.Test.YtnpdnjmpmeikiaaGreatDoorProg
import Derived.Test.YtnpdnjmpmeikiaaGreatDoorPFaceSound9
set_option linter.unusedVariables false
namespace Go.Proofs
open Go.Gk Go.RowKit Go.Gm
abbrev agA(a:Ag):Value:=.agg #[.int .u8 a.1,.int .u32 a.2.1,.string a.2.2]
def Arg1(f:Nat)(n:Int)(a:Ag):Prop:=∀(w:World) (R:VWP),(∀w',Below w.heap.size w w'->R (agA a) w')->cR f #[.int .u32 n] w R
theorem zid(n:Int):Arg1 68 n (4,n,bs []):=λw R hR=>by
 refine za.of (ze8 n R w ?_) λ_ _ h=>h
 refine box3 rfl λw4 h4 b4 z4=>?_
 exact h4.rI (n:=0) (x:=4) rfl (h4.rI (n:=1) (x:=n) rfl (h4.rT (n:=2) (x:=bs []) rfl (hR w4 b4)))
theorem fId(n:Int):Arg1 69 n (1,n,bs []):=λw R hR=>by
 refine za.of (zfL n R w ?_) λ_ _ h=>h
 refine box3 rfl λw4 h4 b4 z4=>?_
 exact h4.rI (n:=0) (x:=1) rfl (h4.rI (n:=1) (x:=n) rfl (h4.rT (n:=2) (x:=bs []) rfl (hR w4 b4)))
theorem fNum(n:Int):Arg1 71 n (2,n,bs []):=λw R hR=>by
 refine za.of (zd3 n R w ?_) λ_ _ h=>h
 refine box3 rfl λw4 h4 b4 z4=>?_
 exact h4.rI (n:=0) (x:=2) rfl (h4.rI (n:=1) (x:=n) rfl (h4.rT (n:=2) (x:=bs []) rfl (hR w4 b4)))
section
variable {w:World} {R:VWP}
theorem zvt{s:ByteArray}(hR:∀w',Below w.heap.size w w'->R (agA (3,0,s)) w'):cR 70 #[.string s] w R:=by
 refine za.of (ze9 s R w ?_) λ_ _ h=>h
 refine box3 rfl λw4 h4 b4 z4=>?_
 exact h4.rI (n:=0) (x:=3) rfl (h4.rI (n:=1) (x:=0) rfl (h4.rT (n:=2) (x:=s) rfl (hR w4 b4)))
theorem zqn{a b:Ag}(hR:∀w' c,w.heap.size<=c->Blk w' c 123 (flat agV [a,b])->Below w.heap.size w w'->R (.slice (some (blk c)) 2 2) w'):cR 67 #[agA a,agA b] w R:=by
 refine za.of (zd4 (a.1,a.2.1,a.2.2,()) (b.1,b.2.1,b.2.2,()) R w ?_) λ_ _ h=>h
 refine zm λw1 hA1 b1 z1=>zm λw2 hB2 b2 z2=>?_
 have hA1:Blk w1 w.heap.size 123 (agV a):=hA1
 have hB2:Blk w2 w1.heap.size 123 (agV b):=hB2
 refine⟨by decide,zm λw3 hC3 b3 z3=>?_⟩
 have hC3:Blk w3 w2.heap.size 123 [.int .u8 0,.int .u32 0,.string ⟨#[]⟩,.int .u8 0,.int .u32 0,.string ⟨#[]⟩]:=by
  have e:(madeCells #[(.int .u8 (0:Int)),(.int .u32 (0:Int)),(.string (BM #[]))] (2*3)).toList=[.int .u8 0,.int .u32 0,.string ⟨#[]⟩,.int .u8 0,.int .u32 0,.string ⟨#[]⟩]:=by kernel_rfl
  rw[e]at hC3
  exact hC3
 have hA3:=(hA1.below b2).below b3
 have hB3:=hB2.below b3
 have s1:=b1.size
 refine hA3.rI (n:=0) (x:=a.1) rfl (hA3.rI (n:=1) (x:=a.2.1) rfl (hA3.rT (n:=2) (x:=a.2.2) rfl ⟨by decide,?_⟩))
 have step:∀{w':World} {cs:List Value} {i:Nat} {x y z:Value} {K:World->Prop},Blk w' w2.heap.size 123 cs->i+2<cs.length->
   (∀w'',Blk w'' w2.heap.size 123 (((cs.set i x).set (i+1) y).set (i+2) z)->Chg w2.heap.size w' w''->K w'')->
   Wr w' ((blk w2.heap.size).add i)/\Nw (w'.setCell ((blk w2.heap.size).add i) x) λu1=>Wr u1 (((blk w2.heap.size).add i).add 1)/\Nw (u1.setCell (((blk w2.heap.size).add i).add 1) y) λu2=>Wr u2 (((blk w2.heap.size).add i).add 2)/\Nw (u2.setCell (((blk w2.heap.size).add i).add 2) z) K:=λ{w' cs i x y z K} hB hi hK=>by
  rw[zo,zo]
  refine⟨hB.wr (by omega),Nw.mk ?_⟩
  have h1:=hB.set i x
  refine⟨h1.wr (by rw[List.length_set];omega),Nw.mk ?_⟩
  have h2:=h1.set (i+1) y
  refine⟨h2.wr (by rw[List.length_set,List.length_set];omega),Nw.mk ?_⟩
  exact hK _ (h2.set (i+2) z) (((Chg.set _ _ _ _).trans (Chg.set _ _ _ _)).trans (Chg.set _ _ _ _))
 refine step hC3 (by show 0*3+2<6;decide) λw6 hC6 c6=>?_
 have hB6:=c6.blk hB3 (by omega)
 refine hB6.rI (n:=0) (x:=b.1) rfl (hB6.rI (n:=1) (x:=b.2.1) rfl (hB6.rT (n:=2) (x:=b.2.2) rfl ⟨by decide,?_⟩))
 refine step hC6 (by show 1*3+2<6;decide) λw9 hC9 c9=>?_
 have b12:=b1.on b2
 exact hR w9 w2.heap.size (by omega) hC9 (c9.below (c6.below (b12.on b3) (by omega)) (by omega))
end
structure Sm (w0 w:World) (mb:Nat) (s:Sl) (pl:List PI):Prop where
 below:Below w0.heap.size w0 w
 box:Blk w mb 25 (moV (0,20,s,()))
 lo:w0.heap.size<=mb
 own:zai w w0.heap.size s pl
section
variable {w0 w w':World} {mb:Nat} {s t:Sl} {pl:List PI} {p:PI}
theorem Sm.on(h:Sm w0 w mb s pl)(hb:Below w.heap.size w w'):Sm w0 w' mb s pl:=⟨h.below.on hb,h.box.below hb,h.lo,h.own.below hb⟩
theorem Sm.push(h:Sm w0 w mb s pl)(ht:Own w 123 3 t (flat agV p.2.2.2))(hF:zJ w0.heap.size t){b:Nat}(hB:Blk w b 44 (inV (mkIn p t)))(hl:pl.length<=100){K:World->Prop}
  (hK:∀r w',Sm w0 w' mb r (pl++[p])->K w'):zz Tryz.prog 23 (.slice s.a s.l s.c) (.slice (some (blk b)) 1 1) w λr w1=>Wr w1 ((blk mb).add 2)/\Nw (w1.setCell ((blk mb).add 2) (.slice r.a r.l r.c)) K:=by
 refine h.own.push h.below ht hF hB (by omega) λr w1 hO hb hs hk=>?_
 have hM:=h.box.of_block (hk mb _ _ h.box (by decide))
 refine⟨hM.wr (n:=2) (by show 2<3;decide),Nw.mk (hK r _ ⟨?_,hM.set 2 _,h.lo,?_⟩)⟩
 ·exact(Chg.set mb 2 w1 _).below hb h.lo
 ·exact hO.chgT hM (by decide) (by decide) (Chg.set mb 2 w1 _)
theorem Sm.two{f1 f2:Nat}{n1 n2:Int}{a1 a2:Ag}(h1:Arg1 f1 n1 a1)(h2:Arg1 f2 n2 a2)(h:Sm w0 w mb s pl)(hl:pl.length<=100){op ty re:Int}{K:World->Prop}(hK:∀r w',Sm w0 w' mb r (pl++[(op,ty,re,[a1,a2])])->K w') :
  ldS w.drew ((blk mb).add 2) λx1=>cR f1 #[.int .u32 n1] w.drew λv2 w6=>∃x3:(Int×Int×ByteArray×Unit),v2=(.agg #[(.int .u8 x3.1),(.int .u32 x3.2.1),(.string x3.2.2.1)])/\w6.cell? ((blk mb).add 2)=some (.slice x1.a x1.l x1.c)/\
   cR f2 #[.int .u32 n2] w6 λv4 w7=>∃x5:(Int×Int×ByteArray×Unit),v4=(.agg #[(.int .u8 x5.1),(.int .u32 x5.2.1),(.string x5.2.2.1)])/\w7.cell? ((blk mb).add 2)=some (.slice x1.a x1.l x1.c)/\
   cR 67 #[(.agg #[(.int .u8 x3.1),(.int .u32 x3.2.1),(.string x3.2.2.1)]),(.agg #[(.int .u8 x5.1),(.int .u32 x5.2.1),(.string x5.2.2.1)])] w7 λv6 w8=>∃x7:Sl,v6=(.slice x7.a x7.l x7.c)/\w8.cell? ((blk mb).add 2)=some (.slice x1.a x1.l x1.c)/\
   Nw (w8.alloc (.cells #[(.int .u16 op),(.int .u32 ty),(.int .u32 re),(.slice x7.a x7.l x7.c)] 44)) λw9=>w9.cell? ((blk mb).add 2)=some (.slice x1.a x1.l x1.c)/\
   zz Tryz.prog 23 (.slice x1.a x1.l x1.c) (.slice (some (blk w8.heap.size)) 1 1) w9 λr8 w10=>Wr w10 ((blk mb).add 2)/\Nw (w10.setCell ((blk mb).add 2) (.slice r8.a r8.l r8.c)) K:=by
 have bd:Below w.heap.size w w.drew:=(Below.refl _ _).drew
 have hM:=h.box.drew
 refine hM.rS (n:=2) (x:=s) rfl (h1 _ _ λw6 b6=>⟨(a1.1,a1.2.1,a1.2.2,()),rfl,(hM.below b6).cell (n:=2) rfl,h2 _ _ λw7 b7=>⟨(a2.1,a2.2.1,a2.2.2,()),rfl,((hM.below b6).below b7).cell (n:=2) rfl,?_⟩⟩)
 refine zqn (a:=a1) (b:=a2) λw8 c hc hC b8=>⟨⟨some (blk c),2,2⟩,rfl,(((hM.below b6).below b7).below b8).cell (n:=2) rfl,zm λw9 hI b9 z9=>⟨((((hM.below b6).below b7).below b8).below b9).cell (n:=2) rfl,?_⟩⟩
 have b09:=(((bd.on b6).on b7).on b8).on b9
 have s6:=b6.size
 have s7:=b7.size
 have hs:=h.below.size
 have hd:w.drew.heap.size=w.heap.size:=rfl
 refine(h.on b09).push (p:=(op,ty,re,[a1,a2])) (t:=⟨some (blk c),2,2⟩) ⟨rfl,.inr ⟨c,_,rfl,hC.below b9,Nat.le_refl _,(by show 2<=9223372036854775807;decide),rfl,rfl⟩⟩ (λa ha=>?_) hI hl hK
 cases ha
 show w0.heap.size<=c
 omega
theorem Sm.one{f1 f2:Nat}{n1 n2:Int}{a1 a2:Ag}(h1:Arg1 f1 n1 a1)(h2:Arg1 f2 n2 a2)(h:Sm w0 w mb s pl)(hl:pl.length<=100){op ty re:Int}{K:World->Prop}(hK:∀r w',Sm w0 w' mb r (pl++[(op,ty,re,[a1])])->K w') :
  ldS w.drew ((blk mb).add 2) λx1=>cR f1 #[.int .u32 n1] w.drew λv2 w6=>∃x3:(Int×Int×ByteArray×Unit),v2=(.agg #[(.int .u8 x3.1),(.int .u32 x3.2.1),(.string x3.2.2.1)])/\w6.cell? ((blk mb).add 2)=some (.slice x1.a x1.l x1.c)/\
   cR f2 #[.int .u32 n2] w6 λv4 w7=>∃x5:(Int×Int×ByteArray×Unit),v4=(.agg #[(.int .u8 x5.1),(.int .u32 x5.2.1),(.string x5.2.2.1)])/\w7.cell? ((blk mb).add 2)=some (.slice x1.a x1.l x1.c)/\
   cR 67 #[(.agg #[(.int .u8 x3.1),(.int .u32 x3.2.1),(.string x3.2.2.1)]),(.agg #[(.int .u8 x5.1),(.int .u32 x5.2.1),(.string x5.2.2.1)])] w7 λv6 w8=>∃x7:Sl,v6=(.slice x7.a x7.l x7.c)/\w8.cell? ((blk mb).add 2)=some (.slice x1.a x1.l x1.c)/\
   (0<=(0:Int)/\(0:Int)<=(1:Int)/\(1:Int)<=(x7.c:Int))/\
   Nw (w8.alloc (.cells #[(.int .u16 op),(.int .u32 ty),(.int .u32 re),(.slice (if x7.c=0 then x7.a else Option.map (λa=>a.add (0*3)) x7.a) (1-0) (x7.c-0))] 44)) λw9=>w9.cell? ((blk mb).add 2)=some (.slice x1.a x1.l x1.c)/\
   zz Tryz.prog 23 (.slice x1.a x1.l x1.c) (.slice (some (blk w8.heap.size)) 1 1) w9 λr8 w10=>Wr w10 ((blk mb).add 2)/\Nw (w10.setCell ((blk mb).add 2) (.slice r8.a r8.l r8.c)) K:=by
 have bd:Below w.heap.size w w.drew:=(Below.refl _ _).drew
 have hM:=h.box.drew
 refine hM.rS (n:=2) (x:=s) rfl (h1 _ _ λw6 b6=>⟨(a1.1,a1.2.1,a1.2.2,()),rfl,(hM.below b6).cell (n:=2) rfl,h2 _ _ λw7 b7=>⟨(a2.1,a2.2.1,a2.2.2,()),rfl,((hM.below b6).below b7).cell (n:=2) rfl,?_⟩⟩)
 refine zqn (a:=a1) (b:=a2) λw8 c hc hC b8=>⟨⟨some (blk c),2,2⟩,rfl,(((hM.below b6).below b7).below b8).cell (n:=2) rfl,⟨by decide,by decide,(by show(1:Int)<=((2:Nat):Int);decide)⟩,zm λw9 hI b9 z9=>⟨((((hM.below b6).below b7).below b8).below b9).cell (n:=2) rfl,?_⟩⟩
 have b09:=(((bd.on b6).on b7).on b8).on b9
 have s6:=b6.size
 have s7:=b7.size
 have hs:=h.below.size
 have hd:w.drew.heap.size=w.heap.size:=rfl
 refine(h.on b09).push (p:=(op,ty,re,[a1])) (t:=⟨some (blk c),1,2⟩) ⟨rfl,.inr ⟨c,_,rfl,hC.below b9,(by show 1<=2;decide),(by show 2<=9223372036854775807;decide),rfl,rfl⟩⟩ (λa ha=>?_) hI hl hK
 cases ha
 show w0.heap.size<=c
 omega
theorem Sm.none(h:Sm w0 w mb s pl)(hl:pl.length<=100){op ty re:Int}{K:World->Prop}(hK:∀r w',Sm w0 w' mb r (pl++[(op,ty,re,[])])->K w') :
  ldS w ((blk mb).add 2) λx1=>Nw (w.alloc (.cells #[(.int .u16 op),(.int .u32 ty),(.int .u32 re),(.slice none 0 0)] 44)) λw9=>
   zz Tryz.prog 23 (.slice x1.a x1.l x1.c) (.slice (some (blk w.heap.size)) 1 1) w9 λr8 w10=>Wr w10 ((blk mb).add 2)/\Nw (w10.setCell ((blk mb).add 2) (.slice r8.a r8.l r8.c)) K:=by
 refine h.box.rS (n:=2) (x:=s) rfl (zm λw9 hI b9 z9=>?_)
 exact(h.on b9).push (p:=(op,ty,re,[])) (t:=⟨Option.none,0,0⟩) (Own.nil _ _ _) (λa ha=>by cases ha) hI hl hK
theorem zpS{u:World}{al new:List Ag}{b:Nat}(h:Own u 123 3 t (flat agV al))(hb:Below w.heap.size w u)(hF:zJ w.heap.size t)(hB:Blk u b 123 (flat agV new))(hn:0<new.length)(hl:al.length+new.length<=100){k:Sl->World->Prop}{m:Nat}(hm:m=new.length)
  (hk:∀r w',Own w' 123 3 r (flat agV (al++new))->Below w.heap.size w w'->zJ w.heap.size r->(∀i T cs,Blk u i T cs->T≠123->Blk w' i T cs)->k r w'):zz Tryz.prog 42 (.slice t.a t.l t.c) (.slice (some (blk b)) m m) u k:=by
 subst hm
 have htl:t.l=al.length:=by have:=h.1;rw[zL zG]at this;omega
 refine yS eArg h (news:=flat agV new) (by rw[zL zG]) (λj v hj=>hB.cell hj) (λv hv=>?_) (by omega) (by omega) λr w' h1 hl' hg=>?_
 ·obtain⟨x,_,hx⟩:=List.mem_flatMap.1 hv
  simp only[agV,List.mem_cons,List.not_mem_nil,or_false]at hx
  rcases hx with rfl |rfl |rfl<;>rfl
 ·rcases hg with⟨_,_,h3⟩ | ⟨b',h3,h4,h5⟩
  ·rw[h3]at hl';omega
  ·have hbb:w.heap.size<=b':=by
    rcases h4 with h4 |h4
    ·exact hF _ h4
    ·have:=hb.size
     omega
   have e:flat agV (al++new)=flat agV al++flat agV new:=by simp[flat]
   refine hk r w' (by rw[e];exact h1) (hb.trans (zT h5 hbb hb.size)) (λa ha=>by rw[h3]at ha;cases ha;exact hbb) λi T cs hi hT=>hi.of_block (h5.block _ hi.lt λe=>?_)
   have e:=Option.some.inj e
   subst e
   rcases h4 with h4 |h4
   ·exact yi h hi (λq=>hT q.symm) h4
   ·have:=hi.lt
    omega
end
end Go.Proofs
namespace Go.Proofs
open Go.Gk Go.RowKit Go.Gm
section
variable {w:World} {R:VWP}
set_option maxHeartbeats 4000000 in
theorem zh2{loc:Int}(hR:∀w' s,IsPl w' s (smP loc)->Below w.heap.size w w'->R (moA (0,20,s,())) w'):cR 39 #[.int .u32 loc] w R:=by
 refine za.of (zcQ loc R w ?_) λ_ _ h=>h
 refine zm λw1 hX1 b1 z1=>box3 rfl λw5 hM5 b5 z5=>?_
 have hX1:Blk w1 w.heap.size 25 (moV (0,0,⟨none,0,0⟩,())):=hX1
 have S0:Sm w1 w5 w1.heap.size ⟨none,0,0⟩ []:=⟨b5,hM5,Nat.le_refl _,zai.nil _ _⟩
 refine Sm.two (zid 0) (zid 0) S0 (by decide) λr1 w11 S1=>?_
 refine zid 4 _ _ λw12 b12=>⟨(4,4,bs [],()),rfl,fId 6 _ _ λw13 b13=>⟨(1,6,bs [],()),rfl,?_⟩⟩
 refine zqn (a:=(4,4,bs [])) (b:=(1,6,bs [])) λw14 c hc hC b14=>⟨⟨some (blk c),2,2⟩,rfl,box4 rfl λw19 hE b19 z19=>?_⟩
 have b1114:=(b12.on b13).on b14
 have s12:=b12.size
 have s13:=b13.size
 have s14:=b1114.size
 refine hE.drew.rS (n:=3) (x:=⟨some (blk c),2,2⟩) rfl ?_
 refine zvt (s:=bs [109,97,105,110]) λw20 b20=>⟨(3,0,bs [109,97,105,110],()),rfl,(hE.drew.below b20).cell (n:=3) rfl,?_⟩
 refine fId 5 _ _ λw21 b21=>⟨(1,5,bs [],()),rfl,((hE.drew.below b20).below b21).cell (n:=3) rfl,zm λw22 hA22 b22 z22=>⟨(((hE.drew.below b20).below b21).below b22).cell (n:=3) rfl,?_⟩⟩
 have d19:Below w19.heap.size w19 w19.drew:=(Below.refl _ _).drew
 have b1922:=((d19.on b20).on b21).on b22
 have b1122:=(b1114.on b19).on b1922
 have hE22:=hE.below b1922
 have hC22:=(hC.below b19).below b1922
 refine zpS (w:=w11) (t:=⟨some (blk c),2,2⟩) (al:=[(4,4,bs []),(1,6,bs [])]) (new:=[(3,0,bs [109,97,105,110]),(1,5,bs [])]) ⟨rfl,.inr ⟨c,_,rfl,hC22,Nat.le_refl _,(by show 2<=9223372036854775807;decide),rfl,rfl⟩⟩ b1122 (λa ha=>by cases ha;show w11.heap.size<=c;omega) hA22 (by decide) (by decide) rfl λr20 w23 hO23 b23 hF23 hk23=>?_
 have hE23:=hk23 _ _ _ hE22 (by decide)
 refine⟨hE23.wr (n:=3) (by show 3<4;decide),Nw.gen λw24 e24=>?_⟩
 have c24:Chg w14.heap.size w23 w24:=by rw[e24];exact Chg.set _ _ _ _
 have hE24:Blk w24 w14.heap.size 44 [.int .u16 15,.int .u32 0,.int .u32 0,.slice r20.a r20.l r20.c]:=by rw[e24];exact hE23.set 3 _
 have b24:Below w11.heap.size w11 w24:=c24.below b23 (by omega)
 have hO24:Own w24 123 3 r20 (flat agV [(4,4,bs []),(1,6,bs []),(3,0,bs [109,97,105,110]),(1,5,bs [])]):=hO23.of_block λa ha=>c24.block _ λq=>by
  have:=yi hO23 hE23 (by decide)
  exact this (by rw[ha,<-q,<-(hO23.lt ha).1])
 have S24:=S1.on b24
 have s1:=S1.below.size
 refine S24.box.rS (n:=2) (x:=r1) rfl (hE24.rI (n:=0) rfl (hE24.rI (n:=1) rfl (hE24.rI (n:=2) rfl (hE24.rS (n:=3) (x:=r20) rfl (zm λw25 hI25 b25 z25=>?_)))))
 refine(S24.on b25).push (p:=(15,0,0,[(4,4,bs []),(1,6,bs []),(3,0,bs [109,97,105,110]),(1,5,bs [])])) (t:=r20) (hO24.below b25) (λa ha=>Nat.le_trans s1 (hF23 a ha)) hI25 (by decide) λr2 w27 S2=>?_
 refine Sm.two (fId 6) (zid 7) S2 (by decide) λr3 w33 S3=>?_
 clear hE hC hE22 hC22 hA22 hO23 hE23 hE24 hO24 S24 hI25 S2 hk23 b23 b24 b1122 b1922 d19 b1114 s12 s13 s14 s1
 refine fId 5 _ _ λw34 b34=>⟨(1,5,bs [],()),rfl,zid 30 _ _ λw35 b35=>⟨(4,30,bs [],()),rfl,?_⟩⟩
 refine zqn (a:=(1,5,bs [])) (b:=(4,30,bs [])) λw36 c hc hC b36=>⟨⟨some (blk c),2,2⟩,rfl,box4 rfl λw41 hE b41 z41=>?_⟩
 have b3336:=(b34.on b35).on b36
 have s34:=b34.size
 have s35:=b35.size
 have s36:=b3336.size
 refine hE.drew.rS (n:=3) (x:=⟨some (blk c),2,2⟩) rfl ?_
 refine fNum loc _ _ λw42 b42=>⟨(2,loc,bs [],()),rfl,(hE.drew.below b42).cell (n:=3) rfl,zm λw43 hA43 b43 z43=>⟨((hE.drew.below b42).below b43).cell (n:=3) rfl,?_⟩⟩
 have d41:Below w41.heap.size w41 w41.drew:=(Below.refl _ _).drew
 have b4143:=(d41.on b42).on b43
 have b3343:=(b3336.on b41).on b4143
 have hE43:=hE.below b4143
 have hC43:=(hC.below b41).below b4143
 refine zpS (w:=w33) (t:=⟨some (blk c),2,2⟩) (al:=[(1,5,bs []),(4,30,bs [])]) (new:=[(2,loc,bs [])]) ⟨rfl,.inr ⟨c,_,rfl,hC43,Nat.le_refl _,(by show 2<=9223372036854775807;decide),rfl,rfl⟩⟩ b3343 (λa ha=>by cases ha;show w33.heap.size<=c;omega) hA43 (by show 0<1;decide) (by show 2+1<=100;decide) rfl λr44 w44 hO44 b44 hF44 hk44=>?_
 have hE44:=hk44 _ _ _ hE43 (by decide)
 refine⟨hE44.wr (n:=3) (by show 3<4;decide),Nw.gen λw45 e45=>?_⟩
 have c45:Chg w36.heap.size w44 w45:=by rw[e45];exact Chg.set _ _ _ _
 have hE45:Blk w45 w36.heap.size 44 [.int .u16 71,.int .u32 0,.int .u32 0,.slice r44.a r44.l r44.c]:=by rw[e45];exact hE44.set 3 _
 have b45:Below w33.heap.size w33 w45:=c45.below b44 (by omega)
 have hO45:Own w45 123 3 r44 (flat agV [(1,5,bs []),(4,30,bs []),(2,loc,bs [])]):=hO44.of_block λa ha=>c45.block _ λq=>by
  have:=yi hO44 hE44 (by decide)
  exact this (by rw[ha,<-q,<-(hO44.lt ha).1])
 have S45:=S3.on b45
 have s3:=S3.below.size
 refine S45.box.rS (n:=2) (x:=r3) rfl (hE45.rI (n:=0) rfl (hE45.rI (n:=1) rfl (hE45.rI (n:=2) rfl (hE45.rS (n:=3) (x:=r44) rfl (zm λw46 hI46 b46 z46=>?_)))))
 refine(S45.on b46).push (p:=(71,0,0,[(1,5,bs []),(4,30,bs []),(2,loc,bs [])])) (t:=r44) (hO45.below b46) (λa ha=>Nat.le_trans s3 (hF44 a ha)) hI46 (by show 3<=100;decide) λr4 w48 S4=>?_
 clear hE hC hE43 hC43 hA43 hO44 hE44 hE45 hO45 S45 hI46 hk44 b44 b45 b3343 b4143 d41 b3336 s34 s35 s36 s3
 refine Sm.none S4 (by show 4<=100;decide) λr5 w51 S5=>?_
 refine Sm.two (fNum 32) (fNum 1) S5 (by show 5<=100;decide) λr6 w57 S6=>?_
 refine Sm.one (fId 1) (fId 1) S6 (by show 6<=100;decide) λr7 w63 S7=>?_
 refine Sm.two (zid 3) (fId 2) S7 (by show 7<=100;decide) λr8 w69 S8=>?_
 refine Sm.one (zid 3) (zid 3) S8 (by show 8<=100;decide) λr9 w75 S9=>?_
 refine Sm.two (zid 0) (fId 3) S9 (by show 9<=100;decide) λr10 w81 S10=>?_
 refine Sm.none S10 (by show 10<=100;decide) λr11 w84 S11=>?_
 refine Sm.none S11 (by show 11<=100;decide) λr12 w87 S12=>?_
 refine Sm.none S12 (by show 12<=100;decide) λr13 w90 S13=>?_
 have hS:Sm w1 w90 w1.heap.size r13 (smP loc):=S13
 refine Mo.load hS.box (st3 (hX1.below hS.below) rfl λw93 hX93 c93=>Mo.load (x:=(0,20,r13,())) hX93 ?_)
 have s1:=b1.size
 exact hR w93 r13 (hS.own.keep λi hi _=>c93.block i (by omega)).isPl (c93.below (b1.trans (hS.below.mono (by omega))) (Nat.le_refl _))
end
theorem zvj:entF (ix (smP 0) 1)=(4,6,bs [109,97,105,110],[5]):=by decide +kernel
theorem zjS:entK (smP 0)=[1]:=by decide +kernel
theorem zuu:(fcP (smP 0)).pts [5] 1=[]:=by decide +kernel
theorem zuv:(fcP (smP 0)).pts [5] 3=[(5,0,-1,2,1,true,())]:=by kernel_rfl
theorem zpE{fs:List Fa}(h:FacL (smP 0) fs):∃f,fs=[f]/\f=(bs [109,97,105,110],4,6,[],[(5,0,-1,2,1,true,())]):=by
 obtain⟨h1,h2⟩:=h
 rw[zjS]at h1
 obtain⟨f,rfl⟩:=List.length_eq_one_iff.1 h1
 refine⟨f,rfl,?_⟩
 have:=h2 0 (by simp) (by rw[zjS];simp)
 have e:(entK (smP 0))[0]'(by rw[zjS];simp)=1:=by
  have:∀(l:List Nat) (hl:0<l.length),l=[1]->l[0]=1:=λl hl e=>by subst e;rfl
  exact this _ _ zjS
 rw[e]at this
 obtain⟨q1,q2,q3,q4,q5⟩:=this
 rw[zvj]at q1 q2 q3 q4 q5
 dsimp only at q1 q2 q3 q4 q5
 rw[zuu]at q4
 rw[zuv]at q5
 have e4:=q4.perm.eq_nil
 have e5:=List.perm_singleton.1 q5.perm
 obtain⟨a,b,c,d,g⟩:=f
 simp only[List.getElem_cons_zero]at q1 q2 q3 e4 e5
 rw[q1,q2,q3,e4,e5]
section
variable {w:World} {R:VWP}
set_option maxHeartbeats 4000000 in
theorem znL(ht:Tab w)(hR:∀w',Below w.heap.size w w'->R (.bool true) w'):cR 11 #[] w R:=by
 refine za.of (zcP R w ?_) λ_ _ h=>h
 refine zh2 (loc:=0) λw1 s hs b1=>⟨(0,20,s,()),rfl,?_⟩
 have hp:=zq7 0 (by decide)
 have nobad:∀{e a:Int} {Q:Prop},(e,a)=facE 20 (smP 0)->e≠0->Q:=λ{e a Q} h1 h2=>by
  rw[zus]at h1
  exact absurd (congrArg Prod.fst h1) h2
 refine zlD (x:=(0,20,s,())) (name:=bs [109,97,105,110]) (model:=4) hs hp (by show(0:Int)<=20;decide) (ht.below b1) (λw2 e a h1 h2 _=>nobad h1 h2) (λw2 fs _ _ hfl hn _=>?_) (λw2 fs y f _ _ hfl hn b2 hy=>?_)
 ·obtain⟨f,rfl,rfl⟩:=zpE hfl
  exact absurd hn (by simp[fndF])
 obtain⟨f',rfl,rfl⟩:=zpE hfl
 have hn:f=(bs [109,97,105,110],4,6,[],[(5,0,-1,2,1,true,())]):=by
  have:fndF [(bs [109,97,105,110],4,6,[],[(5,0,-1,2,1,true,())])] (bs [109,97,105,110]) 4=some (bs [109,97,105,110],4,6,[],[(5,0,-1,2,1,true,())]):=by simp[fndF]
  rw[this]at hn
  exact(Option.some.inj hn).symm
 subst hn
 refine⟨y,0,rfl,box5 rfl λw8 hF8 b8 z8=>?_⟩
 have hF8:Blk w8 w2.heap.size 47 (faV y):=hF8
 have b08:=(b1.on b2).on b8
 refine zh2 (loc:=0) λw9 s' hs' b9=>⟨(0,20,s',()),rfl,?_⟩
 have b09:=b08.on b9
 refine zlD (x:=(0,20,s',())) (name:=bs [109,97,105,110]) (model:=0) hs' hp (by show(0:Int)<=20;decide) (ht.below b09) (λw10 e a h1 h2 _=>nobad h1 h2) (λw10 fs _ _ hfl' _ b10=>?_) (λw10 fs y' f _ _ hfl' hn' _ _=>?_)
 rotate_left
 ·obtain⟨f',rfl,rfl⟩:=zpE hfl'
  have:fndF [(bs [109,97,105,110],4,6,[],[(5,0,-1,2,1,true,())])] (bs [109,97,105,110]) 0=none:=by simp[fndF]
  rw[this]at hn'
  cases hn'
 refine⟨faZ,5,rfl,box5 rfl λw16 hG16 b16 z16=>?_⟩
 have b816:=(b9.on b10).on b16
 have b016:=b08.on b816
 have hF16:=hF8.below b816
 have hy16:=(hy.below b8).below b816
 have e3:y.2.2.1=6:=hy16.fn
 have hi:y.2.2.2.1.l=0:=hy16.ins.len
 have ho:y.2.2.2.2.1.l=1:=hy16.outs.len
 refine zQ rfl (zQ rfl (hF16.rI (n:=2) (x:=y.2.2.1) rfl (zk (λ_=>?_) (λq=>absurd e3 q))))
 refine hF16.rS (n:=3) (x:=y.2.2.2.1) rfl (zk (λ_=>?_) (λq=>absurd (by rw[hi];rfl) q))
 refine hF16.rS (n:=4) (x:=y.2.2.2.2.1) rfl (zk (λ_=>?_) (λq=>absurd (by rw[ho];rfl) q))
 refine hF16.rS (n:=4) (x:=y.2.2.2.2.1) rfl ?_
 obtain⟨a,ha⟩:=hy16.outs.base (i:=0) (by decide)
 have hc:=λj hj=>hy16.outs.cell a ha 0 (by decide) j hj
 refine⟨⟨by decide,by omega⟩,ze ha ⟨_,by rw[zo];exact hc 0 (by decide),_,by rw[zo];exact hc 1 (by decide),_,by rw[zo];exact hc 2 (by decide),_,by rw[zo];exact hc 3 (by decide),_,by rw[zo];exact hc 4 (by decide),_,by rw[zo];exact hc 5 (by decide),?_⟩⟩
 refine zQ rfl ?_
 refine zh2 (loc:=1) λw17 s'' hs'' b17=>⟨(0,20,s'',()),rfl,?_⟩
 refine zif (x:=(0,20,s'',())) hs'' (zq7 1 (by decide)) (by show(0:Int)<=20;decide) (ht.below (b016.on b17)) λw18 b18=>⟨((facE 20 (smP 1)).1,(facE 20 (smP 1)).2,()),rfl,?_⟩
 rw[zut]
 exact hR w18 ((b016.on b17).on b18)
end
end Go.Proofs
namespace Go.Proofs
open Go.Gk Go.RowKit Go.Gm
end Go.Proofs
namespace Go.Proofs
open Go.Gk
set_option linter.unusedVariables false
set_option maxRecDepth 100000
end Go.Proofs
namespace Go.Proofs
open Go.Gk Go.RowKit Go.Gm
end Go.Proofs
namespace Go.Proofs
open Go.Gk Go.RowKit Go.Gm
def AR(bd:Int)(pl:List PI)(w:World)(s:Sl)(e a:Int):Prop:=(e,a)=facE bd pl/\∃fs,zeP w s fs/\((e≠0/\fs=[])\/(facE bd pl=(0,0)/\zh8 bd pl/\FacL pl fs))
theorem zeP.nil(w:World):zeP w ⟨none,0,0⟩ []:=⟨[],⟨rfl,Nat.le_refl _,Nat.zero_le _,λ_=>rfl,λa ha=>by cases ha⟩,rfl,λi q=>absurd q (Nat.not_lt_zero i)⟩
theorem AR.below{bd:Int}{pl:List PI}{w w':World}{s:Sl}{e a:Int}(h:AR bd pl w s e a)(hb:Below w.heap.size w w'):AR bd pl w' s e a:=by
 obtain⟨h1,fs,h2,h3⟩:=h
 exact⟨h1,fs,h2.below hb,h3⟩
section
variable {x:Mo} {pl:List PI} {w:World} {R:VWP}
theorem ztM(hN:IsPl w x.2.2.1 pl)(hp:PlOk pl)(h0:0<=x.2.1)(ht:Tab w)(hR:∀w' s e a,AR x.2.1 pl w' s e a->Below w.heap.size w w'->R (.tuple #[.slice s.a s.l s.c,.agg #[.int .i64 e,.int .i64 a]]) w'):cR 8 #[moA x] w R:=
 zhk hN hp h0 ht (λw' e a h1 h2 hb=>hR w' ⟨none,0,0⟩ e a ⟨h1,[],zeP.nil w',.inl ⟨h2,rfl⟩⟩ hb) (λw' s fs hz hO hL hb hF=>hR w' s 0 0 ⟨hz.symm,fs,hF,.inr ⟨hz,hO,hL⟩⟩ hb)
theorem fldT{α:Type}{sz:Nat}{f:α->List Value}{s:Sl}{l:List α}(h:IsC sz f w s l){k:Nat}(hk:k<l.length)(hj:0<sz){x:ByteArray}(hx:(f l[k])[0]? =some (.string x)){φ:ByteArray->Prop}(hφ:φ x) :
  (0<=(k:Int)/\(k:Int)<(s.l:Int))/\zc s.a λa=>zx w (a.add (Int.toNat (k:Int)*sz)) φ:=by
 obtain⟨a,ha⟩:=h.base hk
 have hl:=h.len
 exact⟨⟨by omega,by omega⟩,ze ha ⟨x,(h.cell a ha k hk 0 hj).trans hx,hφ⟩⟩
end
theorem zkJ{pl:List PI}{i:Nat}(h:i<(entK pl).length):(entK pl)[i]<pl.length/\(ix pl (entK pl)[i]).1=15:=by
 have h2:(entK pl)[i]∈(List.range pl.length).filter λk=>(ix pl k).1==15:=List.getElem_mem h
 rw[List.mem_filter,List.mem_range,beq_iff_eq]at h2
 exact h2
end Go.Proofs
namespace Go.Proofs
open Go.Gk Go.RowKit Go.Gm
def isPl(p:Po):Bool:=p.2.2.1==0&&p.2.2.2.2.1==4&&p.2.2.2.2.2.1
def plcN(l:List Po)(n:Nat):Nat:=((l.take n).filter isPl).length
theorem zma{l:List Po}{n:Nat}(hn:n<l.length):plcN l (n+1)=plcN l n+if isPl l[n]=true then 1 else 0:=by
 unfold plcN
 rw[List.take_succ_eq_append_getElem hn,List.filter_append,List.length_append]
 congr 1
 rw[List.filter_cons]
 split<;>rfl
theorem zuf(l:List Po)(n:Nat):plcN l n<=n:=by
 unfold plcN
 have h1:=List.length_filter_le isPl (l.take n)
 rw[List.length_take]at h1
 omega
theorem zrz{F:Fc}{e:En}(h1:F.facd e=true)(h0:e.1=0){l:List Po}(hs:SrtP l (F.pts e.2.2.2 3)):plcN l l.length=1:=by
 obtain⟨_,id,m1,m2,m3⟩:=Fc.outs0 h1 (by omega)
 obtain⟨p1,p2⟩:=Fc.place_ok h1 h0 m1 m2 m3
 have hm:F.port id∈l:=hs.perm.mem_iff.2 (Fc.mem_pts.2 ⟨id,m1,m2,rfl⟩)
 have hu:l.Pairwise unlR:=by
  have:unlk l=true:=by rw[zg2 hs.perm];exact ztN h1 (.inr rfl)
  exact of_decide_eq_true this
 have hp:isPl (F.port id)=true:=by
  unfold isPl
  rw[m3,p1,p2]
  rfl
 have hf:F.port id∈l.filter isPl:=List.mem_filter.2 ⟨hm,hp⟩
 have hu2:(l.filter isPl).Pairwise unlR:=hu.filter _
 have hall:∀p∈l.filter isPl,p.2.2.1=0:=λp hp=>by
  have:=(List.mem_filter.1 hp).2
  unfold isPl at this
  rw[Bool.and_eq_true,Bool.and_eq_true,beq_iff_eq]at this
  exact this.1.1
 unfold plcN
 rw[List.take_of_length_le (Nat.le_refl _)]
 revert hf hu2 hall
 generalize l.filter isPl=m
 intro hf hu2 hall
 match m,hf,hu2,hall with
 | [_],_,_,_=>rfl
 |p::q::r,_,hu2,hall=>
  exfalso
  have h2:=(List.pairwise_cons.1 hu2).1 q (List.mem_cons_self ..)
  have hp:=hall p (List.mem_cons_self ..)
  have hq:=hall q (List.mem_cons_of_mem _ (List.mem_cons_self ..))
  exact h2.2 ⟨by omega,by omega⟩
end Go.Proofs
namespace Go.Proofs
open Go.Gk Go.RowKit Go.Gm
end Go.Proofs
namespace Go.Proofs
open Go.Gk Go.RowKit Go.Gm
structure FcF (pl:List PI) (f:Fa):Prop where
 ins:∀p∈f.2.2.2.1,Fc.PoOk (fcP pl) p
 outs:∀p∈f.2.2.2.2,Fc.PoOk (fcP pl) p
 insO:f.2.2.2.1.Pairwise Fc.ordR
 outsO:f.2.2.2.2.Pairwise Fc.ordR
 ne:f.2.2.2.2≠[]
 li:f.2.2.2.1.length<=65535
 lo:f.2.2.2.2.length<=65535
 md:(f.2.1=4/\∃p,f.2.2.2.2=[p]/\p.2.1=0/\p.2.2.2.2.1=1)\/(f.2.1=0/\plcN f.2.2.2.2 f.2.2.2.2.length=1)
theorem zq3(F:Fc)(ids:List Int)(c:Int):(F.pts ids c).length<=ids.length:=by
 unfold Fc.pts
 rw[List.length_map]
 exact List.length_filter_le _ _
theorem zvu{bd:Int}{pl:List PI}{fs:List Fa}(hO:zh8 bd pl)(hF:FacL pl fs)(hp:PlOk pl)(h0:0<=bd){i:Nat}(h:i<fs.length):FcF pl fs[i]:=by
 have hk:i<(entK pl).length:=by rw[<-hF.len];exact h
 obtain⟨k1,k2⟩:=zkJ hk
 have o:=hF.ok i h hk
 have hsh:=(hO.con.whole hp h0).shape
 generalize (entK pl)[i]=k at k1 k2 o
 generalize fs[i]=f at o⊢
 have hg:(fcP pl).Good k:=Fc.good hO.ok k1 k2
 have hmx:(entF (ix pl k)).2.2.2.length<=65535:=by
  have:=Yg hsh k1
  rw[zH k1]
  unfold entF
  rw[List.length_map,List.length_drop]
  omega
 have s1:=Fc.srt_ok hO.ok hg.fac hg.dcd (.inl rfl) o.ins
 have s2:=Fc.srt_ok hO.ok hg.fac hg.dcd (.inr rfl) o.outs
 refine⟨s1.1,s2.1,s1.2,s2.2,Fc.outs_ne hg.fac o.outs,?_,?_,?_⟩
 ·rw[o.ins.perm.length_eq];exact Nat.le_trans (zq3 _ _ _) hmx
 ·rw[o.outs.perm.length_eq];exact Nat.le_trans (zq3 _ _ _) hmx
 ·by_cases h4:(entF (ix pl k)).1=4
  ·exact .inl ⟨o.model.trans h4,Fc.outs4 hg.fac h4 o.outs⟩
  ·have h0:=(Fc.outs0 hg.fac h4).1
   exact .inr ⟨o.model.trans h0,zrz hg.fac h0 o.outs⟩
theorem AR.ok{bd:Int}{pl:List PI}{w:World}{s:Sl}{e a:Int}(h:AR bd pl w s e a)(he:e=0):zh8 bd pl/\∃fs,zeP w s fs/\FacL pl fs:=by
 obtain⟨h1,fs,h2,h3⟩:=h
 rcases h3 with⟨q,_⟩ | ⟨_,q1,q2⟩
 ·exact absurd he q
 ·exact⟨q1,fs,h2,q2⟩
end Go.Proofs
namespace Go.Proofs
open Go.Gk Go.RowKit Go.Gm
theorem zsY{l:List Po}(h:l.Pairwise Fc.ordR){i j:Nat}(hi:i<l.length)(hj:j<l.length)(hij:i<j):Fc.ordR l[i] l[j]:=List.pairwise_iff_getElem.1 h i j hi hj hij
section
variable {w:World} {R:VWP}
set_option maxHeartbeats 4000000 in
theorem ziy{s:Sl}{l:List Po}{F:Fc}{B tb:Nat}(hs:IsPs w s l)(hT:IsTb w B tb F.T)(hP:∀p∈l,Fc.PoOk F p)(hO:l.Pairwise Fc.ordR)(hR:∀w',Below w.heap.size w w'->R (.bool true) w') :
  cR 14 #[.slice s.a s.l s.c,.pointer (some (blk tb))] w R:=by
 refine za.of (zci s (some (blk tb)) R w ?_) λ_ _ h=>h
 have hsl:=hs.len
 have hmax:=hs.bound
 refine zl.count l.length hmax (λ_ w'=>Below w.heap.size w w') (Below.refl _ _) ?_
 rintro k w1 hk b1 next hnext
 refine zj (λg=>?_) (λ_=>hR w1 b1)
 have hkl:k<l.length:=by dsimp only at g;omega
 refine zn.cut (λ(_:Unit) w'=>Below w.heap.size w w') ?_ ?_
 rotate_left
 ·rintro _ w18 b18
  exact hnext w18 hkl b18
 refine zm8 (IsC.below yz hs b1) hkl ?_
 have hp:=hP _ (List.getElem_mem hkl)
 have hprev:∀(hj:k-1<l.length),0<k->Fc.ordR l[k-1] l[k]:=λhj h0=>zsY hO hj hkl (by omega)
 generalize l[k]=p at hp hprev⊢
 obtain⟨p1,p2,p3,p4,p5⟩:=hp
 refine box6 rfl λw8 hB8 b8 z8=>?_
 have hB8:Blk w8 w1.heap.size 52 (poV p):=hB8
 have b08:=b1.on b8
 have b08d:=b08.drew
 refine zn.cut (λ(_:Unit) w'=>Below w8.heap.size w8 w') ?_ ?_
 ·refine hB8.drew.rI (n:=1) (x:=p.2.1) rfl (hB8.drew.rI (n:=2) (x:=p.2.2.1) rfl (zI ?_ ?_))
  ·by_cases q:p.2.1<0
   ·rw[decide_eq_true q,decide_eq_false (p3.1 q)];rfl
   ·rw[decide_eq_false q,decide_eq_true (Classical.not_not.1 λq2=>q (p3.2 q2))];rfl
  refine hB8.drew.rI (n:=4) (x:=p.2.2.2.2.1) rfl (zj (λq=>absurd q (by omega)) λ_=>hB8.drew.rI (n:=4) (x:=p.2.2.2.2.1) rfl (zj (λq=>absurd q (by omega)) λ_=>?_))
  refine hB8.drew.rI (n:=4) (x:=p.2.2.2.2.1) rfl (hB8.drew.rI (n:=3) (x:=p.2.2.2.1) rfl ?_)
  have d8:Below w8.heap.size w8 w8.drew:=(Below.refl _ _).drew
  refine zdr (hT.below b08d) λw9 b9=>⟨_,rfl,(hB8.drew.below b9).cell (n:=4) rfl,zy (λq=>absurd p5 q) λ_=>d8.on b9⟩
 rintro _ w10 b10
 have b010:=b08.on b10
 refine zk (λ_=>b010) (λg2=>?_)
 have hk0:0<k:=by dsimp only at g2;omega
 have hj:k-1<l.length:=by omega
 have ew:IntKind.i64.wrap ((k:Int)-1)=((k-1:Nat):Int):=by
  rw[zq (by omega) (by omega)]
  omega
 dsimp only
 rw[ew]
 refine zm8 (IsC.below yz hs b010) hj ?_
 have ho:=hprev hj hk0
 generalize l[k-1]=q at ho⊢
 refine box6 rfl λw17 hB17 b17 z17=>?_
 have hB17:Blk w17 w10.heap.size 52 (poV q):=hB17
 have hP17:=(hB8.below b10).below b17
 have b017:=b010.on b17
 obtain⟨o1,o2⟩:=ho
 have rest:ifB (decide (p.2.1<(0:Int))) (ldI w17 ((blk w10.heap.size).add 1) .i64 λx38=>ifB (decide (x38<(0:Int))) (ldI w17 ((blk w10.heap.size).add 2) .i64 λx39=>ldI w17 ((blk w1.heap.size).add 2) .i64 λx40=>ifB (decide (x39≥x40)) (R (.bool false) w17) (Below w.heap.size w w17)) (Below w.heap.size w w17)) (Below w.heap.size w w17):=by
  refine zj (λc1=>hB17.rI (n:=1) (x:=q.2.1) rfl (zj (λc2=>hB17.rI (n:=2) (x:=q.2.2.1) rfl (hP17.rI (n:=2) (x:=p.2.2.1) rfl (zj (λc3=>absurd ⟨c1,c2,c3⟩ o2) λ_=>b017))) λ_=>b017)) λ_=>b017
 refine hP17.rI (n:=1) (x:=p.2.1) rfl (zj (λc1=>?_) λ_=>hP17.rI (n:=1) (x:=p.2.1) rfl rest)
 refine hB17.rI (n:=1) (x:=q.2.1) rfl (zj (λc2=>absurd ⟨c1,.inl c2⟩ o1) λc2=>?_)
 refine hB17.rI (n:=1) (x:=q.2.1) rfl (hP17.rI (n:=1) (x:=p.2.1) rfl (zj (λc3=>absurd ⟨c1,.inr c3⟩ o1) λ_=>?_))
 exact hP17.rI (n:=1) (x:=p.2.1) rfl rest
end
theorem zpg{bd:Int}{pl:List PI}{fs:List Fa}(hO:zh8 bd pl)(hF:FacL pl fs){i k:Nat}(hk:k<i)(h:i<fs.length)(h':k<fs.length):¬(fs[k].1=fs[i].1/\fs[k].2.1=fs[i].2.1):=by
 have hi:i<(entK pl).length:=by rw[<-hF.len];exact h
 have hk':k<(entK pl).length:=by rw[<-hF.len];exact h'
 obtain⟨i1,i2⟩:=zkJ hi
 obtain⟨k1,k2⟩:=zkJ hk'
 have o1:=hF.ok i h hi
 have o2:=hF.ok k h' hk'
 have hlt:(entK pl)[k]<(entK pl)[i]:=List.pairwise_iff_getElem.1 ((List.pairwise_lt_range (n:=pl.length)).filter _) k i hk' hi hk
 rintro⟨q1,q2⟩
 rw[o1.name,o2.name]at q1
 rw[o1.model,o2.model]at q2
 exact Fc.ent_unlike hO.ok hlt i1 k2 i2 ⟨q2,q1⟩
theorem znI(pl:List PI)(n:Nat):(entN pl (n+1)).length=(entN pl n).length+if (ix pl n).1=15 then 1 else 0:=by
 rw[zgm]
 by_cases e:(ix pl n).1=15
 ·rw[if_pos e,if_pos e,List.length_append];rfl
 ·rw[if_neg e,if_neg e];rfl
end Go.Proofs
namespace Go.Proofs
open Go.Gk Go.RowKit Go.Gm
theorem AR.nil{bd:Int}{pl:List PI}{w:World}{s:Sl}{e a:Int}(h:AR bd pl w s e a)(he:e≠0):s.l=0:=by
 obtain⟨h1,fs,h2,h3⟩:=h
 rcases h3 with⟨_,rfl⟩ | ⟨q,_⟩
 ·exact h2.len
 ·rw[q,Prod.mk.injEq]at h1
  exact absurd h1.1 he
section
variable {x:Mo} {pl:List PI} {w:World} {R:VWP}
set_option maxHeartbeats 8000000 in
theorem zjY(hN:IsPl w x.2.2.1 pl)(hp:PlOk pl)(hbd:0<=x.2.1/\x.2.1<=4294967295)(htab:Tab w)(hR:∀w',Below w.heap.size w w'->R (.bool true) w') :
  cR 3 #[moA x] w R:=by
 refine za.of (zbd x R w ?_) λ_ _ h=>h
 refine zm λw1 hB1 b1 z1=>?_
 have hB1:Blk w1 w.heap.size 25 (moV x):=hB1
 refine Mo.load hB1 ?_
 refine Ye (x:=x) (hN.below b1) hp λca w2 _ _ hC2 b2=>⟨(x.1,x.2.1,⟨some (blk ca),pl.length,pl.length⟩,()),rfl,?_⟩
 refine ztM (x:=(x.1,x.2.1,⟨some (blk ca),pl.length,pl.length⟩,())) hC2 hp hbd.1 (htab.below (b1.on b2)) λw3 s e a hA b3=>⟨s,(e,a,()),rfl,box2 rfl λw6 h6 b6 z6=>?_⟩
 have b16:=(b2.on b3).on b6
 have b06:=b1.on b16
 have hA6:AR x.2.1 pl w6 s e a:=hA.below b6
 have hB6:=hB1.below b16
 have hfe:facE x.2.1 pl=(e,a):=hA6.1.symm
 have awake:∀{w'},Below w6.heap.size w6 w'->cR 11 #[] w' λv w''=>∃b:Bool,v =.bool b/\R (.bool b) w'':=λhb=>znL (htab.below (b06.on hb)) λw'' b''=>⟨true,rfl,hR w'' ((b06.on hb).on b'')⟩
 refine Mo.load hB6 (Ye (x:=x) (hN.below b06) hp λcb w7 _ _ hC7 b7=>⟨(x.1,x.2.1,⟨some (blk cb),pl.length,pl.length⟩,()),rfl,?_⟩)
 refine zlO (x:=(x.1,x.2.1,⟨some (blk cb),pl.length,pl.length⟩,())) hC7 hp hbd.1 (htab.below (b06.on b7)) (λhc w8 b8=>?_) (λhCn w8 pb b8 hPo=>?_)
 ·have hc:(conE x.2.1 pl).1≠0:=hc
  refine⟨none,((conE x.2.1 pl).1,(conE x.2.1 pl).2,()),rfl,box2 rfl λw11 h11 b11 z11=>?_⟩
  have b611:=(b7.on b8).on b11
  rw[zkz hc]at hfe
  have he:e≠0:=by rw[hfe]at hc;exact hc
  refine h11.rI0 rfl (zy (λ_=>?_) (λq=>absurd q hc))
  refine Sp.load (h6.below b611) (Sp.load h11 (zQ (by rw[hfe];simp) (zk (λ_=>awake b611) λq=>absurd (by rw[hA6.nil he];rfl) q)))
 have hCn:CnOk x.2.1 pl:=hCn
 refine⟨some (blk pb),(0,0,()),rfl,box2 rfl λw11 h11 b11 z11=>?_⟩
 have b611:=(b7.on b8).on b11
 have b011:=b06.on b611
 have hPo11:=hPo.below b11
 have hc0:(conE x.2.1 pl).1=0:=by rw[zgl (by rw[zeI hCn.ty.chk hCn.ty.no]) hCn.no]
 refine h11.rI0 (x:=0) rfl (zy (λq=>absurd rfl q) λ_=>?_)
 have hB11:=hB6.below b611
 refine Mo.load hB11 (Ye (x:=x) (hN.below b011) hp λcc w13 _ _ hC13 b13=>⟨(x.1,x.2.1,⟨some (blk cc),pl.length,pl.length⟩,()),rfl,?_⟩)
 refine zl6 (x:=(x.1,x.2.1,⟨some (blk cc),pl.length,pl.length⟩,())) hC13 hp hbd.1 (λw14 hc b14=>?_) (λw14 rc hcw b14 _ _ _=>?_)
 ·have hc:(cnwE x.2.1 pl).1≠0:=hc
  refine⟨none,((cnwE x.2.1 pl).1,(cnwE x.2.1 pl).2,()),rfl,box2 rfl λw17 h17 b17 z17=>?_⟩
  have b617:=b611.on ((b13.on b14).on b17)
  rw[zky hc0 hc]at hfe
  have he:e≠0:=by rw[hfe]at hc;exact hc
  refine h17.rI0 rfl (zy (λ_=>?_) (λq=>absurd q hc))
  refine Sp.load (h6.below b617) (Sp.load h17 (zQ (by rw[hfe];simp) (zk (λ_=>awake b617) λq=>absurd (by rw[hA6.nil he];rfl) q)))
 refine⟨some (blk rc),(0,0,()),rfl,box2 rfl λw17 h17 b17 z17=>?_⟩
 have b1117:=(b13.on b14).on b17
 have b617:=b611.on b1117
 refine h17.rI0 (x:=0) rfl (zy (λq=>absurd rfl q) λ_=>?_)
 have b617d:=b617.drew
 refine Mo.load (hB6.below b617d) (Sp.load (h6.below b617d) ?_)
 refine Ye (x:=x) (hN.below (b06.on b617d)) hp λcd w19 _ _ hC19 b19=>⟨(x.1,x.2.1,⟨some (blk cd),pl.length,pl.length⟩,()),rfl,?_⟩
 have b619:=b617d.on b19
 refine⟨(h6.below b619).cell (n:=0) rfl,(h6.below b619).cell (n:=1) rfl,?_⟩
 refine zif (x:=(x.1,x.2.1,⟨some (blk cd),pl.length,pl.length⟩,())) hC19 hp hbd.1 (htab.below (b06.on b619)) λw20 b20=>⟨((facE x.2.1 pl).1,(facE x.2.1 pl).2,()),rfl,?_⟩
 have b620:=b619.on b20
 refine⟨(h6.below b620).cell (n:=0) rfl,(h6.below b620).cell (n:=1) rfl,zI (by rw[hfe];simp) ?_⟩
 have b020:=b06.on b620
 have hB20:=hB6.below b620
 have h620:=h6.below b620
 have hN20:=hN.below b020
 have hpl:=hp.len
 refine zl.countS (α:=Int) pl.length (by omega) (λn c w'=>w20=w'/\c=((entN pl n).length:Int)) ⟨rfl,rfl⟩ ?_
 rintro n c _ hn ⟨rfl,rfl⟩ next hnext
 have hle:=zqj pl n
 refine hB20.rS (n:=2) (x:=x.2.2.1) rfl (zj (λg=>?_) (λg=>?_))
 ·have hnl:n<pl.length:=by have:=hN20.len;dsimp only at g;omega
  refine zn.cut (λ(q:Int×Unit) w'=>w20=w'/\q=(((entN pl (n+1)).length:Int),())) ?_ ?_
  ·refine hB20.rS (n:=2) (x:=x.2.2.1) rfl (zpe hN20 hnl ?_)
   rw[<-zH hnl]
   refine zk (λe15=>⟨rfl,?_⟩) (λe15=>⟨rfl,?_⟩)
   ·rw[znI,if_pos e15]
    dsimp only
    rw[zC (by omega)]
   ·rw[znI,if_neg e15]
    rfl
  rintro _ _ ⟨rfl,rfl⟩
  exact hnext _ _ hnl ⟨rfl,rfl⟩
 have hne:n=pl.length:=by have:=hN20.len;dsimp only at g;omega
 subst hne
 refine h620.rI0 rfl (zy (λhe=>zk (λ_=>awake b620) λq=>absurd (by rw[hA6.nil he];rfl) q) (λhe=>?_))
 obtain⟨hO,fs,hfs,hL⟩:=(hA6.below b620).ok he
 obtain⟨hs,hC,hsl,hsr⟩:=hfs.ex
 have hfl:=hfs.len
 have hPo20:=hPo11.below ((b1117.drew.on b19).on b20)
 obtain⟨tb,hT,hTy⟩:=zl7 hPo20
 refine zl.count fs.length (by have:=hC.bound;omega) (λ_ w'=>Below w20.heap.size w20 w') (Below.refl _ _) ?_
 rintro i w24 hi b24 next2 hnext2
 have b624:=b620.on b24
 refine zj (λg2=>?_) (λ_=>?_)
 rotate_left
 ·refine zk (λ_=>awake b624) λq=>absurd ?_ q
  rw[hfl,hL.len]
  rfl
 have k1:i<fs.length:=by dsimp only at g2;omega
 have k2:i<hs.length:=by omega
 have hF:=zvu hO hL hp hbd.1 k1
 have hr:=(hsr i k2 k1).below b24
 refine zn.cut (λ(_:Unit) w'=>Below w24.heap.size w24 w') ?_ ?_
 rotate_left
 ·rintro _ w41 b41
  exact hnext2 w41 k1 (b24.on b41)
 refine zso (IsC.below zgo hC b24) k2 ?_
 have unl:∀{j:Nat} (h1:j<hs.length),j<i->¬(hs[j].1=hs[i].1/\hs[j].2.1=hs[i].2.1):=λ{j} h1 hj=>by
  have h2:j<fs.length:=by omega
  rw[(hsr j h1 h2).name,(hsr j h1 h2).model,(hsr i k2 k1).name,(hsr i k2 k1).model]
  exact zpg hO hL hj k1 h2
 generalize hs[i]=f at hr unl⊢
 generalize fs[i]=F at hr hF
 refine box5 rfl λw30 hB30 b30 z30=>?_
 have hB30:Blk w30 w24.heap.size 47 (faV f):=hB30
 have b2030:=b24.on b30
 have b630:=b620.on b2030
 have rI:∀{w'},Below w30.heap.size w30 w'->IsPs w' f.2.2.2.1 F.2.2.2.1:=λhb=>IsC.below yz (IsC.below yz hr.ins b30) hb
 have rO:∀{w'},Below w30.heap.size w30 w'->IsPs w' f.2.2.2.2.1 F.2.2.2.2:=λhb=>IsC.below yz (IsC.below yz hr.outs b30) hb
 have tT:∀{w'},Below w30.heap.size w30 w'->IsTb w' _ tb (fcP pl).T:=λhb=>hT.below (b2030.on hb)
 refine zn.cut (λ(_:Unit) w'=>Below w30.heap.size w30 w') ?_ ?_
 ·have d30:Below w30.heap.size w30 w30.drew:=(Below.refl _ _).drew
  refine hB30.drew.rS (n:=3) (x:=f.2.2.2.1) rfl (hTy (b2030.on d30) ⟨some (blk tb),rfl,hB30.drew.cell (n:=3) rfl,?_⟩)
  refine ziy (F:=fcP pl) (rI d30) (tT d30) hF.ins hF.insO λw32 b32=>⟨true,rfl,zK (zQ rfl ?_)⟩
  have b3:=d30.on b32
  refine(hB30.below b3).rS (n:=4) (x:=f.2.2.2.2.1) rfl (hTy (b2030.on b3) ⟨some (blk tb),rfl,(hB30.below b3).cell (n:=4) rfl,?_⟩)
  exact ziy (F:=fcP pl) (rO b3) (tT b3) hF.outs hF.outsO λw34 b34=>⟨true,rfl,zK (zQ rfl (b3.on b34))⟩
 rintro _ w35 b35
 refine zl.count i (by have:=hC.bound;omega) (λ_ w'=>Below w30.heap.size w30 w') b35 ?_
 rintro j w36 hj b36 next3 hnext3
 have hB36:=hB30.below b36
 refine zj (λg3=>?_) (λ_=>?_)
 ·have hji:j<i:=by dsimp only at g3;omega
  have hjs:j<hs.length:=by omega
  have bd:=b36.drew
  have X:=IsC.below zgo hC ((b24.on b30).on bd)
  refine zn.cut (λ(_:Unit) w'=>Below w30.heap.size w30 w') ?_ ?_
  rotate_left
  ·rintro _ w37 b37
   exact hnext3 w37 hji b37
  refine fldT X hjs (by decide) (x:=hs[j].1) rfl ⟨f.1,hB36.drew.cell0 rfl,?_⟩
  dsimp only
  rw[znc]
  refine zj (λq1=>fldI X hjs (j:=1) (by decide) (x:=hs[j].2.1) rfl (hB36.drew.rI (n:=1) (x:=f.2.1) rfl (zk (λq2=>absurd ⟨q1,q2⟩ (unl hjs hji)) λ_=>bd))) λ_=>bd
 have em:f.2.1=F.2.1:=hr.model
 have hol:f.2.2.2.2.1.l=F.2.2.2.2.length:=(rO b36).len
 have hln:=hF.lo
 refine zn.cut (λ(_:Unit) w'=>w36=w') ?_ ?_
 ·refine hB36.rI (n:=1) (x:=f.2.1) rfl (zk (λq4=>?_) λ_=>rfl)
  rcases hF.md with⟨_,p,hl1,hl2,hl3⟩ | ⟨q0,_⟩
  rotate_left
  ·exact absurd (q0.symm.trans (em.symm.trans q4)) (by decide)
  have hone:F.2.2.2.2.length=1:=by rw[hl1];rfl
  have hO1:=rO b36
  rw[hl1]at hO1
  obtain⟨ad,had⟩:=hO1.base (i:=0) (Nat.zero_lt_one)
  have c1:=hO1.cell ad had 0 Nat.zero_lt_one 1 (by decide)
  have c4:=hO1.cell ad had 0 Nat.zero_lt_one 4 (by decide)
  refine hB36.rS (n:=4) (x:=f.2.2.2.2.1) rfl (zy (λq=>absurd (by omega) q) λ_=>?_)
  refine hB36.rS (n:=4) (x:=f.2.2.2.2.1) rfl ⟨⟨by decide,by omega⟩,ze had ⟨p.2.1,by rw[zo];exact c1,zy (λq=>absurd hl2 q) λ_=>?_⟩⟩
  exact hB36.rS (n:=4) (x:=f.2.2.2.2.1) rfl ⟨⟨by decide,by omega⟩,ze had ⟨p.2.2.2.2.1,by rw[zo];exact c4,zy (λq=>absurd hl3 q) λ_=>rfl⟩⟩
 rintro _ _ rfl
 refine zl.countS (α:=Int) F.2.2.2.2.length (by omega) (λn c w'=>w36=w'/\c=((plcN F.2.2.2.2 n:Nat):Int)) ⟨rfl,rfl⟩ ?_
 rintro n c _ hn ⟨rfl,rfl⟩ next4 hnext4
 have hpl4:=zuf F.2.2.2.2 n
 refine hB36.rS (n:=4) (x:=f.2.2.2.2.1) rfl (zj (λg4=>?_) (λg4=>?_))
 ·have hnl:n<F.2.2.2.2.length:=by rw[hol]at g4;dsimp only at g4;omega
  have X:=rO b36
  refine zn.cut (λ(q:Int×Unit) w'=>w36=w'/\q=(((plcN F.2.2.2.2 (n+1):Nat):Int),())) ?_ ?_
  rotate_left
  ·rintro _ _ ⟨rfl,rfl⟩
   exact hnext4 _ _ hnl ⟨rfl,rfl⟩
  have no:isPl F.2.2.2.2[n]=false->plcN F.2.2.2.2 (n+1)=plcN F.2.2.2.2 n:=λq=>by rw[zma hnl,q];rfl
  refine hB36.rS (n:=4) (x:=f.2.2.2.2.1) rfl (fldI X hnl (j:=2) (by decide) (x:=F.2.2.2.2[n].2.2.1) rfl (zk (λq1=>?_) λq1=>⟨rfl,?_⟩))
  rotate_left
  ·rw[no (by unfold isPl;rw[beq_eq_false_iff_ne.2 q1];rfl)]
  refine hB36.rS (n:=4) (x:=f.2.2.2.2.1) rfl (fldI X hnl (j:=4) (by decide) (x:=F.2.2.2.2[n].2.2.2.2.1) rfl (zk (λq2=>?_) λq2=>⟨rfl,?_⟩))
  rotate_left
  ·rw[no (by unfold isPl;rw[beq_eq_false_iff_ne.2 q2,Bool.and_false];rfl)]
  refine hB36.rS (n:=4) (x:=f.2.2.2.2.1) rfl (fldB X hnl (j:=5) (by decide) (x:=F.2.2.2.2[n].2.2.2.2.2.1) rfl (zA (λq3=>⟨rfl,?_⟩) λq3=>⟨rfl,?_⟩))
  ·rw[zma hnl,if_pos (by unfold isPl;rw[q1,q2,q3];rfl)]
   dsimp only
   rw[zC (by omega)]
  ·rw[no (by unfold isPl;rw[q3,Bool.and_false])]
 have hne:n=F.2.2.2.2.length:=by rw[hol]at g4;dsimp only at g4;omega
 subst hne
 have hend:Below w24.heap.size w24 w36:=b30.on b36
 rcases hF.md with⟨q4,_⟩ | ⟨q0,q1⟩
 ·refine hB36.rI (n:=1) (x:=f.2.1) rfl (zy (λ_=>?_) λq=>absurd (q4.symm.trans (em.symm.trans q)) (by decide))
  refine hB36.rI (n:=1) (x:=f.2.1) rfl (zy (λq=>absurd (em.trans q4) q) λ_=>?_)
  exact hB36.rI (n:=1) (x:=f.2.1) rfl (zk (λq=>absurd (q4.symm.trans (em.symm.trans q)) (by decide)) λ_=>hend)
 ·refine hB36.rI (n:=1) (x:=f.2.1) rfl (zy (λq=>absurd (em.trans q0) q) λ_=>?_)
  refine hB36.rI (n:=1) (x:=f.2.1) rfl (zk (λ_=>zy (λq=>absurd ?_ q) λ_=>hend) λ_=>hend)
  dsimp only
  rw[q1]
  rfl
end
end Go.Proofs
