/- NestModules, part 9; made small by a program. -/
import Derived.Test.YtogccbelnfgfhaaGreatProg
import Derived.Test.YtogccbelnfgfhaaGreatPNestModules8
namespace Go.Proofs
open Go.Gk Go.RowKit Go.Gm
theorem zInt:∃i,Tryz.prog.info? 3=some i/\i.zero=some (.int .i64 0):=⟨Tryz.t3,by kernel_rfl,rfl⟩
section
variable {x:Mo} {pl:List PI} {w:World} {R:VWP}
theorem zle(hN:IsPl w x.2.2.1 pl)(hp:PlOk pl)(hR:∀w',Below w.heap.size w w'->R (.agg #[.int .i64 (zQ x.2.1 pl).1,.int .i64 ((zQ x.2.1 pl).2:Int)]) w') :
  cR 44 #[moA x] w R:=by
 refine zb.of (zkS x R w ?_) λ_ _ h=>h
 refine zq λw1 hB1 b1 z1=>?_
 have hB1:Blk w1 w.heap.size 25 (moV x):=hB1
 refine zq λw2 hC2 b2 z2=>?_
 have hC2:Blk w2 w1.heap.size 33 [.int .i64 0,.int .i64 0]:=hC2
 have hb2:=b1.on b2
 have s1:=b1.size
 have hlen:=hN.len
 have h40:=hp.len
 refine Mo.load (hB1.below b2) ?_
 refine zpn (x:=x) (hN.below hb2) hp λy w3 b3 hP=>⟨y,((layP x.2.1 pl).1,((layP x.2.1 pl).2:Int),()),rfl,?_⟩
 refine zq λw4 hY4 b4 z4=>?_
 refine zq λw5 hE5 b5 z5=>?_
 have hE5:Blk w5 w4.heap.size 33 [.int .i64 0,.int .i64 0]:=hE5
 refine st20 (x:=y) (hY4.below b5) rfl λw25 hY25 c25=>?_
 refine st2 (c25.blk hE5 (by omega)) rfl λw27 hE27 c27=>?_
 have hY27:=c27.blk hY25 (by omega)
 have b327:Below w3.heap.size w3 w27:=c27.below (c25.below (b4.on b5) (Nat.le_refl _)) (by omega)
 have b227:=b3.on b327
 have hb27:=hb2.on b227
 have hB27:=(hB1.below b2).below b227
 have hC27:=hC2.below b227
 have out:∀{w':World} {a b:Int},Below w27.heap.size w27 w'->(zQ x.2.1 pl).1=a->(((zQ x.2.1 pl).2:Nat):Int)=b->Wr w' (blk w1.heap.size)/\Nw (w'.setCell (blk w1.heap.size) (.int .i64 a)) λw7=>Wr w7 ((blk w1.heap.size).add 1)/\
   Nw (w7.setCell ((blk w1.heap.size).add 1) (.int .i64 b)) λw8=>ldI w8 ((blk w1.heap.size).add 0) .i64 λx9=>ldI w8 ((blk w1.heap.size).add 1) .i64 λx10=>R (.agg #[(.int .i64 x9),(.int .i64 x10)]) w8:=by
  intro w' a b hb e1 e2
  subst e1 e2
  exact st2 (hC27.below hb) rfl λw8 h8 c8=>Sp.load h8 (hR w8 (c8.below (hb27.on hb) (by omega)))
 refine hE27.rI0 rfl (zr (λe=>?_) (λe=>?_))
 ·have e':(layP x.2.1 pl).1≠0:=e
  have hl:=znX e'
  exact Sp.load hE27 (out (Below.refl _ _) (by rw[hl]) (by rw[hl]))
 have e0:(layP x.2.1 pl).1=0:=e
 have e':¬(layP x.2.1 pl).1≠0:=λh=>h e
 obtain⟨hPT,hG⟩:=hP e0
 obtain⟨q1,q2,q3,q4⟩:=hPT 7 (by omega)
 generalize hfr:(l20 y).getD (2*7) 0=from_ at q1 q2 q4
 generalize hto:(l20 y).getD (2*7+1) 0=to_ at q2 q3 q4
 refine hB27.rS (n:=2) (x:=x.2.2.1) rfl ?_
 refine zo3 (hN.below hb27) λw30 L hM30 hMk hKN b30=>⟨some w27.heap.size,rfl,⟨by omega,by omega⟩,?_⟩
 have hY30:=hY27.below b30
 refine hY30.rI2 (m:=7*2) (n:=0) (x:=from_) (by rw[<-hfr];rfl) (hY30.rI2 (m:=7*2) (n:=1) (x:=to_) (by rw[<-hto];rfl) ?_)
 refine box2 rfl λw33 hG33 b33 z33=>?_
 have b2733:=b30.on b33
 have hM33:=hM30.below b33
 have hB33:=hB27.below b2733
 refine hB33.rS (n:=2) (x:=x.2.2.1) rfl ?_
 refine zl.count pl.length hN.bound (λk w'=>Below w33.heap.size w33 w'/\∀j,j<k->fltP pl j=0) ⟨Below.refl _ _,λj hj=>by omega⟩ ?_
 rintro k w34 hk ⟨hb34,hj⟩ next hnext
 have hb2734:=b2733.on hb34
 have hN34:=hN.below (hb27.on hb2734)
 refine zi (λh=>?_) (λh=>?_)
 ·have hlt:k<pl.length:=by dsimp only at h;omega
  have eix:pl[k]=ix pl k:=(yR hlt).symm
  refine zk.cut (λ_ w'=>Below w33.heap.size w33 w'/\fltP pl k=0) ?_ ?_
  ·refine yA hN34 hlt λt ht=>?_
   refine box4 rfl λw39 h39 b39 z39=>?_
   have h39:Blk w39 w34.heap.size 41 (inV (mkIn pl[k] t)):=h39
   have hb39:=hb34.on b39
   refine zk.cut (λ_ w'=>w'=w39/\¬0<=zL pl (ix pl k).2.2.1 k) ?_ ?_
   ·refine h39.rI (n:=2) rfl (zr (λe1=>?_) (λe1=>⟨rfl,λg=>?_⟩))
    ·have e1:pl[k].2.2.1≠0:=e1
     refine h39.rI (n:=2) rfl (zrY zsx uU32 zInt (hM33.below hb39) ?_)
     have hmk:mk1 pl (ix pl k).2.2.1 k=true:=by unfold mk1;rw[<-eix,zG hlt,beq_self_eq_true,bne_iff_ne.2 e1];rfl
     cases hl:zC L pl[k].2.2.1 with
     |none=>
      have:=(hMk pl[k].2.2.1).1 hl k (Nat.zero_le _) hlt
      rw[<-eix]at hmk
      rw[hmk]at this
      cases this
     |some v=>
      have hv:=hMk.lt hl k
      rw[eix]at hv
      refine zi (λh=>?_) (λh=>⟨rfl,λg=>h (hv.2 g)⟩)
      have hf:fltP pl k=90:=by unfold fltP;rw[if_pos (hv.1 h)]
      have hb:=ziY e' hlt hj (by rw[hf];decide)
      exact out (b2733.on hb39) (by rw[hb,hf]) (by rw[hb])
    ·have e1:pl[k].2.2.1=0:=e1
     rw[<-eix,e1]at g
     obtain⟨j,_,h2⟩:=zbe.1 g
     rw[zse]at h2
     cases h2
   ·rintro _ w42 ⟨rfl,n90⟩
    refine Ins.load h39 ?_
    have hfl:fltP pl k=if (zd0 pl k).any (λid=>decide (zL pl id pl.length<0))=true then 91 else if zu (ix pl k)=7/\(zd0 pl k).any (λid=>decide (zL pl id k<0))=true then 92 else 0:=by
     unfold fltP;rw[if_neg n90]
    refine zry (x:=mkIn pl[k] t) (ht.below b39) (hp.args _ (List.getElem_mem hlt)) λr w43 hO hF b43=>⟨r,rfl,?_⟩
    have hO:Own w43 22 1 r ((zd0 pl k).map (Value.int .u32)):=by unfold zd0;rw[<-eix];exact hO
    generalize zd0 pl k=ids at hO hfl
    have hI:=hO.isS
    have hrl:=hI.len
    have hib:=hI.bound
    have hb43:=hb39.on b43
    refine zl.ghost (λj (st:Bool×Int×Unit) w'=>∃(i:Nat),j=ids.length-i/\i<=ids.length/\w'=w43/\st.2.1=(i:Int)/\(∀q (hq:q<ids.length),q<i->0<=zL pl ids[q] pl.length)/\(st.1=true↔∃q,∃hq:q<ids.length,q<i/\zL pl ids[q] k<0)) ids.length
     ⟨0,rfl,Nat.zero_le _,rfl,rfl,λq hq h=>by omega,⟨λh=>(by cases h),λ⟨q,hq,h,_⟩=>by omega⟩⟩ ?_
    rintro _ ⟨ah,_,_⟩ w44 ⟨i,rfl,hi,hw,e2,hmd,hah⟩ next2 hnext2
    dsimp only at e2 hah
    subst hw e2
    refine zi (λh=>?_) (λh=>?_)
    ·have hil:i<ids.length:=by dsimp only at h;omega
     refine zk.cut (λ(st:Bool×Unit) w'=>w'=w44/\0<=zL pl ids[i] pl.length/\(st.1=true↔ah=true\/zL pl ids[i] k<0)) ?_ ?_
     ·refine zoi hI hil (zmL zsx uU32 zInt (hM33.below hb43) ?_)
      cases hl:zC L ids[i] with
      |none=>
       refine zF rfl ?_
       have hf:fltP pl k=91:=by rw[hfl,if_pos (zni hil (decide_eq_true (hMk.none hl)))]
       have hb:=ziY e' hlt hj (by rw[hf];decide)
       exact out (b2733.on hb43) (by rw[hb,hf]) (by rw[hb])
      |some v=>
       refine zB rfl ?_
       have hv:=hMk.lt hl k
       refine zm (λhat=>⟨rfl,hMk.some hl,⟨λ_=>.inl hat,λ_=>rfl⟩⟩) (λhaf=>⟨rfl,hMk.some hl,?_⟩)
       show(decide (v≥(k:Int))=true↔_)
       have haf:ah=false:=haf
       rw[haf]
       constructor
       ·intro g
        have:=of_decide_eq_true g
        right
        rcases Int.lt_or_le (zL pl ids[i] k) 0 with q |q
        ·exact q
        ·have:=hv.2 q;omega
       ·rintro(g |g)
        ·cases g
        ·refine decide_eq_true ?_
         rcases Int.lt_or_le v k with q |q
         ·have:=hv.1 q;omega
         ·exact q
     ·rintro⟨ah',_⟩ w47 ⟨hw,hmi,hah'⟩
      dsimp only at hah'⊢
      subst hw
      rw[zE (by omega)]
      refine hnext2 (ids.length-(i+1)) _ _ (by omega) ⟨i+1,rfl,hil,rfl,rfl,λq hq h=>?_,?_⟩
      ·by_cases eq:q=i
       ·subst eq;exact hmi
       ·exact hmd q hq (by omega)
      ·dsimp only
       rw[hah',hah]
       constructor
       ·rintro(⟨q,hq,h1,h2⟩ |g)
        ·exact⟨q,hq,by omega,h2⟩
        ·exact⟨i,hil,by omega,g⟩
       ·rintro⟨q,hq,h1,h2⟩
        by_cases eq:q=i
        ·subst eq;exact .inr h2
        ·exact .inl ⟨q,hq,by omega,h2⟩
    ·have hil:i=ids.length:=by dsimp only at h;omega
     subst hil
     have n91:¬ids.any (λid=>decide (zL pl id pl.length<0))=true:=by
      rw[znP (p:=λid=>decide (zL pl id pl.length<0)) λq hq=>decide_eq_false (by have:=hmd q hq hq;omega)]
      decide
     rw[if_neg n91]at hfl
     have hany:ids.any (λid=>decide (zL pl id k<0))=ah:=by
      rw[Bool.eq_iff_iff,hah]
      constructor
      ·intro g
       obtain⟨y',y1,y2⟩:=List.any_eq_true.1 g
       obtain⟨q,hq,rfl⟩:=List.mem_iff_getElem.1 y1
       exact⟨q,hq,hq,of_decide_eq_true y2⟩
      ·rintro⟨q,hq,_,h2⟩
       exact zni hq (decide_eq_true h2)
     rw[hany]at hfl
     have hq4:=q4 k hlt
     have hG44:=hG33.below hb43
     refine zk.cut (λ_ w'=>w'=w44/\zu (ix pl k)=7/\ah=true) ?_ ?_
     ·refine zy (zm (λhat=>?_) (λhaf=>⟨hb43,by have haf:ah=false:=haf;rw[hfl,if_neg (λg=>by rw[haf]at g;cases g.2)]⟩))
      refine hG44.rI0 rfl (zi (λh1=>⟨hb43,?_⟩) (λh1=>?_))
      ·rw[hfl,if_neg (λg=>by have:=hq4.2 g.1;dsimp only at h1;omega)]
      ·refine hG44.rI (n:=1) rfl (zi (λh2=>⟨hb43,?_⟩) (λh2=>⟨rfl,hq4.1 ⟨by dsimp only at h1;omega,by dsimp only at h2;omega⟩,hat⟩))
       rw[hfl,if_neg (λg=>by have:=hq4.2 g.1;dsimp only at h2;omega)]
     ·rintro _ w48 ⟨rfl,g1,g2⟩
      have hf:fltP pl k=92:=by rw[hfl,if_pos ⟨g1,g2⟩]
      have hb:=ziY e' hlt hj (by rw[hf];decide)
      exact out (b2733.on hb43) (by rw[hb,hf]) (by rw[hb])
  ·rintro _ w51 ⟨hb51,hf⟩
   refine hnext w51 hlt ⟨hb51,λj hjk=>?_⟩
   by_cases ej:j=k
   ·subst ej;exact hf
   ·exact hj j (by omega)
 ·have hk':k=pl.length:=by dsimp only at h;omega
  have hg:=zm1 e' (λj hj'=>hj j (by omega))
  exact out hb2734 (by rw[hg]) (by rw[hg];rfl)
noncomputable instance decPl (a b:List PI):Decidable (a=b):=Classical.propDecidable _
theorem znJ{y:Mo}{ql:List PI}(hN:IsPl w x.2.2.1 pl)(hM:IsPl w y.2.2.1 ql)(hR:∀w',Below w.heap.size w w'->R (.bool (decide (x.1=y.1/\x.2.1=y.2.1/\pl=ql))) w') :
  cR 14 #[moA x,moA y] w R:=by
 refine zb.of (zez x y R w ?_) λ_ _ h=>h
 refine zq λw1 hB1 b1 z1=>?_
 have hB1:Blk w1 w.heap.size 25 (moV x):=hB1
 refine zq λw2 hC2 b2 z2=>?_
 have hC2:Blk w2 w1.heap.size 25 (moV y):=hC2
 have hB2:=hB1.below b2
 have hb2:=b1.on b2
 have hl1:=hN.len
 have hl2:=hM.len
 have no:¬(x.1=y.1/\x.2.1=y.2.1/\pl=ql)->∀{w'},Below w.heap.size w w'->R (.bool false) w':=λh {w'} hb=>by
  have:=hR w' hb
  rwa[decide_eq_false h]at this
 refine zk.cut (λ_ w'=>w'=w2/\x.1=y.1/\x.2.1=y.2.1/\pl.length=ql.length) ?_ ?_
 ·refine hB2.rI0 rfl (hC2.rI0 rfl (zr (λe=>no (λh=>e h.1) hb2) (λe1=>?_)))
  refine hB2.rI (n:=1) rfl (hC2.rI (n:=1) rfl (zr (λe=>no (λh=>e h.2.1) hb2) (λe2=>?_)))
  refine hB2.rS (n:=2) (x:=x.2.2.1) rfl (hC2.rS (n:=2) (x:=y.2.2.1) rfl (zr (λe=>no (λh=>e (by rw[hl1,hl2,h.2.2])) hb2) (λe3=>⟨rfl,e1,e2,by omega⟩)))
 ·rintro _ w3 ⟨rfl,e1,e2,e3⟩
  refine zl.count pl.length hN.bound (λk w'=>Below w3.heap.size w3 w'/\∀j (h1:j<pl.length) (h2:j<ql.length),j<k->pl[j]=ql[j]) ⟨Below.refl _ _,λj _ _ h=>by omega⟩ ?_
  rintro k w4 hk ⟨hb,hj⟩ next hnext
  have hB4:=hB2.below hb
  have hC4:=hC2.below hb
  have hbw:=hb2.on hb
  have bd:Below w4.heap.size w4 w4.drew:=(Below.refl _ _).drew
  refine hB4.rS (n:=2) (x:=x.2.2.1) rfl (zi (λh=>?_) (λh=>?_))
  ·have hlt:k<pl.length:=by dsimp only at h;omega
   have hlq:k<ql.length:=by omega
   refine hB4.drew.rS (n:=2) (x:=x.2.2.1) rfl (yA (hN.below (hbw.on bd)) hlt λt ht=>hC4.drew.rS (n:=2) (x:=y.2.2.1) rfl (yA (hM.below (hbw.on bd)) hlq λu hu=>?_))
   refine zq4 (x:=mkIn pl[k] t) (y:=mkIn ql[k] u) ht hu λw5 b5=>⟨_,rfl,?_⟩
   have hb5:=hb.on (bd.on b5)
   have same:(mkIn pl[k] t).1=(mkIn ql[k] u).1/\(mkIn pl[k] t).2.1=(mkIn ql[k] u).2.1/\(mkIn pl[k] t).2.2.1=(mkIn ql[k] u).2.2.1/\pl[k].2.2.2=ql[k].2.2.2↔pl[k]=ql[k]:=
    ⟨λ⟨g1,g2,g3,g4⟩=>Prod.ext g1 (Prod.ext g2 (Prod.ext g3 g4)),λg=>by rw[g];exact⟨rfl,rfl,rfl,rfl⟩⟩
   refine zy (zm (λh1=>?_) (λh1=>?_))
   ·refine hnext w5 hlt ⟨hb5,λj q1 q2 hjk=>?_⟩
    by_cases ej:j=k
    ·subst ej;exact same.1 (of_decide_eq_true h1)
    ·exact hj j q1 q2 (by omega)
   ·refine no (λg=>of_decide_eq_false h1 (same.2 ?_)) (hb2.on hb5)
    obtain⟨_,_,g⟩:=g
    subst g
    rfl
  ·have hk':k=pl.length:=by dsimp only at h;omega
   have:=hR w4 hbw
   rw[decide_eq_true ⟨e1,e2,List.ext_getElem e3 λj q1 q2=>hj j q1 q2 (by omega)⟩]at this
   exact this
end
end Go.Proofs
namespace Go.Proofs
open Go.Gk Go.RowKit Go.Gm
theorem ziZ{bd:Int}{pl:List PI}(h:(zQ bd pl).1=0):zQ bd pl=(0,0)/\(layP bd pl).1=0/\∀k,k<pl.length->fltP pl k=0:=by
 unfold zQ at h⊢
 by_cases h1:(layP bd pl).1≠0
 ·rw[if_pos h1]at h;exact absurd h h1
 ·rw[if_neg h1]at h⊢
  have h1:(layP bd pl).1=0:=Classical.not_not.1 h1
  cases hf:(List.range pl.length).find? (λk=>fltP pl k !=0) with
  |none=>
   refine⟨rfl,h1,λk hk=>?_⟩
   have:=List.find?_eq_none.1 hf k (List.mem_range.2 hk)
   simpa using this
  |some k=>
   rw[hf]at h
   have:=List.find?_some hf
   dsimp only at h
   rw[h]at this
   simp at this
theorem zkb{bd:Int}{pl:List PI}(h:(layP bd pl).1=0):(zH bd pl).1=0:=by
 unfold layP at h
 by_cases h1:(zH bd pl).1≠0
 ·rw[if_pos h1]at h;exact h
 ·exact Classical.not_not.1 h1
theorem zsD{pl:List PI}{k:Nat}(h:fltP pl k=0)(h0:(ix pl k).2.2.1≠0):∀j,j<k->j<pl.length->(ix pl j).2.2.1≠(ix pl k).2.2.1:=by
 intro j hj hl e
 have n90:¬0<=zL pl (ix pl k).2.2.1 k:=by
  intro g
  unfold fltP at h
  rw[if_pos g]at h
  cases h
 refine n90 (zbe.2 ⟨j,hj,?_⟩)
 unfold mk1
 rw[show pl.getD j pi0=ix pl j from ?_,e,beq_self_eq_true,bne_iff_ne.2 h0]
 ·rfl
 ·rw[zG hl,yR hl]
theorem zqQ{bd:Int}{pl:List PI}(hp:PlOk pl)(h0:0<=bd)(h:(zH bd pl).1=0):∀n∈allP pl,0<=n/\n<bd:=by
 obtain⟨h1,h2⟩:=zfy h
 intro n hn
 obtain⟨p,hp',hn⟩:=List.mem_flatMap.1 hn
 obtain⟨k,hk,rfl⟩:=List.getElem_of_mem hp'
 have:=hp.nums _ (List.getElem_mem hk)
 exact(zqI (h2 k hk) (by omega) ⟨this.1.1,this.2.1.1,λx hx=>(this.2.2 x hx).1⟩).1 n hn
theorem ztz{pl:List PI}{k:Nat}(hk:k<pl.length):pl[k].2.1∈allP pl/\pl[k].2.2.1∈allP pl/\∀a∈pl[k].2.2.2,a.1=1->a.2.1∈allP pl:=by
 have hm:∀{n},n∈allI pl[k]->n∈allP pl:=λh=>List.mem_flatMap.2 ⟨_,List.getElem_mem hk,h⟩
 refine⟨hm (by simp[allI]),hm (by simp[allI]),λa ha h1=>hm ?_⟩
 simp only[allI,List.mem_cons]
 right;right
 exact List.mem_map.2 ⟨a,List.mem_filter.2 ⟨ha,by simp[h1]⟩,rfl⟩
end Go.Proofs
namespace Go.Proofs
open Go.Gk Go.RowKit Go.Gm
theorem zjR{p:PI}{b:Int}(h:yN p b=0):∃f,frm p.1=some f/\idP f.ty p.2.1 b 40=0/\idP f.re p.2.2.1 b 41=0/\(∀j,j<p.2.2.2.length->werr f p.2.2.2 b j=0)/\
  zcj f p.2.2.2.length=true/\zaV f p.2.2.2<=65535:=by
 unfold yN at h
 cases hf:frm p.1 with
 |none=>rw[zbP hf]at h;cases h
 |some f=>
  rw[zbQ hf]at h
  unfold YY at h
  by_cases e1:errK f p.2.1 p.2.2.1 p.2.2.2 b p.2.2.2.length≠0
  ·rw[if_pos e1]at h;exact absurd h e1
  rw[if_neg e1]at h
  obtain⟨q1,q2,q3⟩:=zeW (Classical.not_not.1 e1)
  by_cases e2:zcj f p.2.2.2.length=false
  ·rw[if_pos e2]at h;exact absurd h (by decide)
  rw[if_neg e2]at h
  by_cases e3:65535<zaV f p.2.2.2
  ·rw[if_pos e3]at h;exact absurd h (by decide)
  exact⟨f,rfl,q1,q2,zeU q3,by simpa using e2,by omega⟩
theorem zts{bound:Int}{pl:List PI}(h:(zH bound pl).1=0):totP pl pl.length<=1048576:=by
 cases hl:pl.length with
 |zero=>simp[totP]
 |succ n=>
  unfold zH at h
  split at h
  ·cases h
  ·split at h
   ·dsimp only at h
    split at h
    ·rename_i hf;exact absurd h hf
    ·cases h
   ·rename_i hn
    have:=List.find?_eq_none.1 hn n (List.mem_range.2 (by omega))
    unfold badI at this
    simp only[Bool.or_eq_true,not_or,decide_eq_true_eq]at this
    omega
structure zpp (bd:Int) (pl:List PI):Prop where
 shape:(zH bd pl).1=0
 lim:0<bd/\bd<=65536
 rng:∀n∈allP pl,0<=n/\n<bd
 new:∀k,k<pl.length->(ix pl k).2.2.1≠0->∀j,j<k->j<pl.length->(ix pl j).2.2.1≠(ix pl k).2.2.1
 made:∀n∈allP pl,n≠0->∃k,k<pl.length/\(ix pl k).2.2.1=n
 ok:zQ bd pl=(0,0)
theorem zpp.of{bd:Int}{pl:List PI}(hp:PlOk pl)(h0:0<=bd)(h:(zQ bd pl).1=0):zpp bd pl:=by
 obtain⟨c1,c2,c3⟩:=ziZ h
 have hs:=zkb c2
 have hbd:=(zfy hs).1
 refine⟨hs,by omega,zqQ hp h0 hs,λk hk h0=>zsD (c3 k hk) h0,λn hn h0=>?_,c1⟩
 obtain⟨p,hp',hn⟩:=List.mem_flatMap.1 hn
 obtain⟨k,hk,rfl⟩:=List.getElem_of_mem hp'
 have hr:n=pl[k].2.2.1\/n∈zd0 pl k:=by
  unfold zd0 idsP idsN
  rw[yR hk,List.take_length]
  simp only[allI,List.mem_cons]at hn
  rcases hn with e |e |e
  ·right
   refine List.mem_append_left _ ?_
   rw[if_neg (by rw[<-e];exact h0),e]
   exact List.mem_singleton.2 rfl
  ·exact .inl e
  ·right
   exact List.mem_append_right _ e
 rcases hr with e |e
 ·exact⟨k,hk,by rw[yR hk,e]⟩
 ·have hf:=c3 k hk
  unfold fltP at hf
  by_cases e1:0<=zL pl (ix pl k).2.2.1 k
  ·rw[if_pos e1]at hf;exact absurd hf (by decide)
  rw[if_neg e1]at hf
  by_cases e2:(zd0 pl k).any (λid=>decide (zL pl id pl.length<0))=true
  ·rw[if_pos e2]at hf;exact absurd hf (by decide)
  have:0<=zL pl n pl.length:=by
   rcases Int.lt_or_le (zL pl n pl.length) 0 with q |q
   ·exact absurd (List.any_eq_true.2 ⟨n,e,decide_eq_true q⟩) e2
   ·exact q
  obtain⟨j,hj,hm⟩:=zbe.1 this
  unfold mk1 at hm
  rw[Bool.and_eq_true]at hm
  exact⟨j,hj,beq_iff_eq.1 hm.1⟩
end Go.Proofs
namespace Go.Proofs
open Go.Gk Go.RowKit Go.Gm
end Go.Proofs
namespace Go.Proofs
open Go.Gk Go.RowKit Go.Gm
abbrev Fv:=Int×Int×Sl×Sl×Int×Unit
abbrev fvV(v:Fv):List Value:=[.int .u32 v.1,.int .i64 v.2.1,.slice v.2.2.1.a v.2.2.1.l v.2.2.1.c,.slice v.2.2.2.1.a v.2.2.2.1.l v.2.2.2.1.c,.int .i64 v.2.2.2.2.1]
abbrev fvA(v:Fv):Value:=.agg #[.int .u32 v.1,.int .i64 v.2.1,.slice v.2.2.1.a v.2.2.1.l v.2.2.1.c,.slice v.2.2.2.1.a v.2.2.2.1.l v.2.2.2.1.c,.int .i64 v.2.2.2.2.1]
abbrev IsBk(w:World)(s:Sl)(l:List (Int×Int×Int)):Prop:=IsC 3 blV w s l
structure IsFn (w:World) (v:Fv) (f:FnL):Prop where
 id:v.1=f.id
 at_:v.2.1=f.at_
 ps:IsI w v.2.2.1 f.ps
 bk:IsBk w v.2.2.2.1 f.bk
 en:v.2.2.2.2.1=f.en
noncomputable instance fnD:DecidableEq FnL:=λ_ _=>Classical.propDecidable _
section
variable {w w':World} {v:Fv} {f g:FnL} {R:VWP}
theorem IsFn.below(h:IsFn w v f)(hb:Below w.heap.size w w'):IsFn w' v f:=⟨h.id,h.at_,h.ps.below hb,IsC.below yd h.bk hb,h.en⟩
theorem Fv.load{b:Nat}{T:TypeId}(h:Blk w b T (fvV v)){φ:Int->Int->Sl->Sl->Int->Prop}(hφ:φ v.1 v.2.1 v.2.2.1 v.2.2.2.1 v.2.2.2.2.1) :
  ldI w ((blk b).add 0) .u32 λx1=>ldI w ((blk b).add 1) .i64 λx2=>ldS w ((blk b).add 2) λx3=>ldS w ((blk b).add 3) λx4=>ldI w ((blk b).add 4) .i64 λx5=>φ x1 x2 x3 x4 x5:=
 h.rI (n:=0) (x:=v.1) rfl (h.rI (n:=1) (x:=v.2.1) rfl (h.rS (n:=2) (x:=v.2.2.1) rfl (h.rS (n:=3) (x:=v.2.2.2.1) rfl (h.rI (n:=4) (x:=v.2.2.2.2.1) rfl hφ))))
theorem Fns.isFn{fs:Sl}{L:List Fe}(h:Fns w fs L){x:Fe}(hx:x∈L):IsFn w (x.1.id,x.1.at_,x.2.1,x.2.2,x.1.en,()) x.1:=
 ⟨rfl,rfl,(h.row x hx).1.isS,Own.isC yd (by omega) (h.row x hx).2,rfl⟩
theorem zpy{fs:Sl}{L:List Fe}(h:Fns w fs L){k:Nat}(hk:k<L.length){φ:Int->Int->Sl->Sl->Int->Prop}(hφ:φ L[k].1.id L[k].1.at_ L[k].2.1 L[k].2.2 L[k].1.en) :
  (0<=(k:Int)/\(k:Int)<(fs.l:Int))/\zc fs.a λa=>ldI w ((a.add (Int.toNat (k:Int)*5)).add 0) .u32 λx1=>ldI w ((a.add (Int.toNat (k:Int)*5)).add 1) .i64 λx2=>ldS w ((a.add (Int.toNat (k:Int)*5)).add 2) λx3=>ldS w ((a.add (Int.toNat (k:Int)*5)).add 3) λx4=>ldI w ((a.add (Int.toNat (k:Int)*5)).add 4) .i64 λx5=>φ x1 x2 x3 x4 x5:=by
 have hc:IsC 5 feV w fs L:=Own.isC zbl (by omega) h.own
 obtain⟨a,ha⟩:=hc.base hk
 have hcell:=hc.cell a ha k hk
 refine⟨⟨by omega,by have:=h.len;omega⟩,zf ha ⟨_,?_,_,?_,_,?_,_,?_,_,?_,hφ⟩⟩
 ·rw[zv];exact hcell 0 (by omega)
 ·rw[zv];exact hcell 1 (by omega)
 ·rw[zv];exact hcell 2 (by omega)
 ·rw[zv];exact hcell 3 (by omega)
 ·rw[zv];exact hcell 4 (by omega)
theorem zjQ{s:Sl}{l:List (Int×Int×Int)}(h:IsBk w s l){k:Nat}(hk:k<l.length){φ:Int->Int->Int->Prop}(hφ:φ l[k].1 l[k].2.1 l[k].2.2) :
  (0<=(k:Int)/\(k:Int)<(s.l:Int))/\zc s.a λa=>ldI w ((a.add (Int.toNat (k:Int)*3)).add 0) .u32 λx=>ldI w ((a.add (Int.toNat (k:Int)*3)).add 1) .i64 λy=>ldI w ((a.add (Int.toNat (k:Int)*3)).add 2) .i64 λz=>φ x y z:=by
 obtain⟨a,ha⟩:=h.base hk
 have hc:=h.cell a ha k hk
 refine⟨⟨by omega,by have:=h.len;omega⟩,zf ha ⟨_,?_,_,?_,_,?_,hφ⟩⟩
 ·rw[zv];exact hc 0 (by omega)
 ·rw[zv];exact hc 1 (by omega)
 ·rw[zv];exact hc 2 (by omega)
theorem zrx{s t:Sl}{l m:List Int}(hs:IsI w s l)(ht:IsI w t m)(hR:∀w',Below w.heap.size w w'->R (.bool (decide (l=m))) w'):cR 132 #[.slice s.a s.l s.c,.slice t.a t.l t.c] w R:=by
 refine zb.of (zcO s t R w ?_) λ_ _ h=>h
 have h1:=hs.len
 have h2:=ht.len
 have no:l≠m->∀{w'},Below w.heap.size w w'->R (.bool false) w':=λh {w'} hb=>by
  have:=hR w' hb
  rwa[decide_eq_false h]at this
 refine zr (λe=>no (λh=>e (by rw[h1,h2,h])) (Below.refl _ _)) (λe=>?_)
 refine zl.count l.length hs.bound (λk w'=>Below w.heap.size w w'/\∀j (q1:j<l.length) (q2:j<m.length),j<k->l[j]=m[j]) ⟨Below.refl _ _,λj _ _ h=>by omega⟩ ?_
 rintro k w1 hk ⟨hb,hj⟩ next hnext
 refine zi (λh=>?_) (λh=>?_)
 ·have hlt:k<l.length:=by dsimp only at h;omega
  have hlm:k<m.length:=by omega
  refine yv (hs.below hb.drew) hlt (yv (ht.below hb.drew) hlm (zr (λe=>no (λg=>e (by subst g;rfl)) hb.drew) (λe=>hnext _ hlt ⟨hb.drew,λj q1 q2 hjk=>?_⟩)))
  by_cases ej:j=k
  ·subst ej;exact e
  ·exact hj j q1 q2 (by omega)
 ·have hk':k=l.length:=by dsimp only at h;omega
  have:=hR w1 hb
  rwa[decide_eq_true (List.ext_getElem (by omega) λj q1 q2=>hj j q1 q2 (by omega))]at this
theorem zrw{s t:Sl}{l m:List (Int×Int×Int)}(hs:IsBk w s l)(ht:IsBk w t m)(hR:∀w',Below w.heap.size w w'->R (.bool (decide (l=m))) w'):cR 133 #[.slice s.a s.l s.c,.slice t.a t.l t.c] w R:=by
 refine zb.of (Zw s t R w ?_) λ_ _ h=>h
 have h1:=hs.len
 have h2:=ht.len
 have no:l≠m->∀{w'},Below w.heap.size w w'->R (.bool false) w':=λh {w'} hb=>by
  have:=hR w' hb
  rwa[decide_eq_false h]at this
 refine zr (λe=>no (λh=>e (by rw[h1,h2,h])) (Below.refl _ _)) (λe=>?_)
 refine zl.count l.length hs.bound (λk w'=>Below w.heap.size w w'/\∀j (q1:j<l.length) (q2:j<m.length),j<k->l[j]=m[j]) ⟨Below.refl _ _,λj _ _ h=>by omega⟩ ?_
 rintro k w1 hk ⟨hb,hj⟩ next hnext
 refine zi (λh=>?_) (λh=>?_)
 ·have hlt:k<l.length:=by dsimp only at h;omega
  have hlm:k<m.length:=by omega
  refine zjQ (IsC.below yd hs hb.drew) hlt (zjQ (IsC.below yd ht hb.drew) hlm (zy (zm (λe=>hnext _ hlt ⟨hb.drew,λj q1 q2 hjk=>?_⟩) (λe=>no (λg=>?_) hb.drew))))
  ·by_cases ej:j=k
   ·subst ej
    simp only[Bool.and_true,Bool.and_eq_true,beq_iff_eq]at e
    exact Prod.ext e.1 (Prod.ext e.2.1 e.2.2)
   ·exact hj j q1 q2 (by omega)
  ·subst g
   simp at e
 ·have hk':k=l.length:=by dsimp only at h;omega
  have:=hR w1 hb
  rwa[decide_eq_true (List.ext_getElem (by omega) λj q1 q2=>hj j q1 q2 (by omega))]at this
theorem zpX{u:Fv}(hf:IsFn w v f)(hg:IsFn w u g)(hR:∀w',Below w.heap.size w w'->R (.bool (decide (f=g))) w'):cR 87 #[fvA v,fvA u] w R:=by
 refine zb.of (zjX v u R w ?_) λ_ _ h=>h
 refine zq λw1 hA1 b1 z1=>?_
 have hA1:Blk w1 w.heap.size 29 (fvV v):=hA1
 refine zq λw2 hB2 b2 z2=>?_
 have hB2:Blk w2 w1.heap.size 29 (fvV u):=hB2
 have hA2:=hA1.below b2
 have hb2:=b1.on b2
 have no:f≠g->∀{w'},Below w.heap.size w w'->R (.bool false) w':=λh {w'} hb=>by
  have:=hR w' hb
  rwa[decide_eq_false h]at this
 refine hA2.rI0 (x:=v.1) rfl (hB2.rI0 (x:=u.1) rfl (zj (λe1=>?_) (λe=>no (λh=>e (by rw[hf.id,hg.id,h])) hb2)))
 refine hA2.rI (n:=1) (x:=v.2.1) rfl (hB2.rI (n:=1) (x:=u.2.1) rfl (zj (λe2=>?_) (λe=>no (λh=>e (by rw[hf.at_,hg.at_,h])) hb2)))
 refine hA2.rI (n:=4) (x:=v.2.2.2.2.1) rfl (hB2.rI (n:=4) (x:=u.2.2.2.2.1) rfl (zj (λe3=>?_) (λe=>no (λh=>e (by rw[hf.en,hg.en,h])) hb2)))
 refine hA2.rS (n:=2) (x:=v.2.2.1) rfl (hB2.rS (n:=2) (x:=u.2.2.1) rfl ?_)
 refine zrx (hf.ps.below hb2) (hg.ps.below hb2) λw3 b3=>⟨_,rfl,?_⟩
 have hb3:=hb2.on b3
 refine zi (λe4=>?_) (λe=>no (λh=>e (by rw[h])) hb3)
 refine(hA2.below b3).rS (n:=3) (x:=v.2.2.2.1) rfl ((hB2.below b3).rS (n:=3) (x:=u.2.2.2.1) rfl ?_)
 refine zrw (IsC.below yd hf.bk hb3) (IsC.below yd hg.bk hb3) λw4 b4=>⟨_,rfl,?_⟩
 have:=hR w4 (hb3.on b4)
 have e:decide (f.bk=g.bk)=decide (f=g):=by
  rw[decide_eq_decide]
  constructor
  ·intro e5
   have q1:=hf.id.symm.trans (e1.trans hg.id)
   have q2:=hf.at_.symm.trans (e2.trans hg.at_)
   have q3:=hf.en.symm.trans (e3.trans hg.en)
   cases f;cases g
   simp_all
  ·intro h;rw[h]
 rw[e]
 exact this
theorem znD{fs:Sl}{L:List Fe}{vb:Nat}(hL:Fns w fs L)(hV:Blk w vb 29 (fvV v))(hf:IsFn w v f)(hR:∀w',Below w.heap.size w w'->R (.bool (decide (f∈L.map (·.1)))) w') :
  cR 85 #[.slice fs.a fs.l fs.c,.func (.func 86) #[] #[.pointer (some (blk vb))]] w R:=by
 refine zb.of (yU fs _ R w ?_) λ_ _ h=>h
 refine zb.of (Zf fs _ _ w ?_) λ_ _ h=>h
 have hl:=hL.len
 have hcap:fs.l<=9223372036854775807:=by
  have hc:IsC 5 feV w fs L:=Own.isC zbl (by omega) hL.own
  have:=hc.bound
  omega
 have hcf:Tryz.fs.contains 86=true:=by kernel_rfl
 refine zl.count L.length (by omega) (λk w'=>Below w.heap.size w w'/\∀j (h:j<L.length),j<k->L[j].1≠f) ⟨Below.refl _ _,λj _ h=>by omega⟩ ?_
 rintro k w1 hk ⟨hb,hj⟩ next hnext
 refine zi (λh=>?_) (λh=>?_)
 ·have hlt:k<L.length:=by dsimp only at h;omega
  refine zpy (hL.below hb) hlt ?_
  unfold zV
  simp only[hcf]
  refine zb.of (zjl (L[k].1.id,L[k].1.at_,L[k].2.1,L[k].2.2,L[k].1.en,()) (blk vb) _ w1 ?_) λ_ _ h=>h
  refine zq λw2 hX2 b2 z2=>?_
  have hX2:Blk w2 w1.heap.size 29 (fvV (L[k].1.id,L[k].1.at_,L[k].2.1,L[k].2.2,L[k].1.en,())):=hX2
  have hb2:=hb.on b2
  refine Fv.load hX2 (Fv.load (hV.below hb2) ?_)
  refine zpX (((hL.below hb2).isFn (List.getElem_mem hlt))) (hf.below hb2) λw3 b3=>⟨_,rfl,_,rfl,?_⟩
  have hb3:=hb2.on b3
  refine zi (λe=>?_) (λe=>hnext w3 hlt ⟨hb3,λj q1 q2=>?_⟩)
  ·refine⟨_,rfl,?_⟩
   have:=hR w3 hb3
   rw[decide_eq_true (List.mem_map.2 ⟨L[k],List.getElem_mem hlt,e⟩)]at this
   rwa[decide_eq_true (by omega)]
  ·by_cases ej:j=k
   ·subst ej;exact e
   ·exact hj j q1 (by omega)
 ·refine⟨_,rfl,?_⟩
  have:=hR w1 hb
  rw[decide_eq_false (λhm=>by
   obtain⟨x,hx,e⟩:=List.mem_map.1 hm
   obtain⟨j,hj',rfl⟩:=List.getElem_of_mem hx
   exact hj j hj' (by dsimp only at h;omega) e)]at this
  rwa[decide_eq_false (by decide)]
end
section
variable {x:Mo} {pl:List PI} {w:World} {R:VWP}
theorem znE(hN:IsPl w x.2.2.1 pl)(hp:PlOk pl)
  (hok:∀fs L w',(layP x.2.1 pl).1=0->Below w.heap.size w w'->Fns w' fs L->L.map (·.1)=cutF pl pl.length->R (.tuple #[.slice fs.a fs.l fs.c,.agg #[.int .i64 0,.int .i64 0]]) w')
  (hbad:∀w',(layP x.2.1 pl).1≠0->Below w.heap.size w w'->R (.tuple #[.slice none 0 0,.agg #[.int .i64 (layP x.2.1 pl).1,.int .i64 ((layP x.2.1 pl).2:Int)]]) w') :
  cR 45 #[moA x] w R:=by
 refine zb.of (zkc x R w ?_) λ_ _ h=>h
 refine zq λw1 hB1 b1 z1=>?_
 have hB1:Blk w1 w.heap.size 25 (moV x):=hB1
 refine zq λw2 hC2 b2 z2=>?_
 have hC2:Blk w2 w1.heap.size 33 [.int .i64 0,.int .i64 0]:=hC2
 have hb2:=b1.on b2
 refine Mo.load (hB1.below b2) ?_
 refine zmT (x:=x) (hN.below hb2) hp (λbc ps fs L w3 hlay hC3 hP hL hF hcut hg=>⟨some (blk bc),(0,0,()),rfl,?_⟩) (λw3 b3 hne=>⟨none,((layP x.2.1 pl).1,((layP x.2.1 pl).2:Int),()),rfl,?_⟩)
 ·refine box2 rfl λw6 h6 b6 z6=>?_
  have b26:=hC3.b0.on b6
  have hCc:=(hC3.below b6).drew
  have hS6:=(hC2.below b26).drew
  have h6':=h6.drew
  refine zB rfl (zf rfl ?_)
  refine hCc.blk.rS (n:=22) (x:=fs) (zrC hCc.len) ?_
  have s26:=b26.size
  refine Sp.load h6' (st2 hS6 rfl λw8 hS8 c8=>Sp.load hS8 ?_)
  have hL6:Fns w6.drew fs L:=(hL.below b6).below (Below.refl _ _).drew
  exact hok fs L w8 (by rw[hlay]) (c8.below ((hb2.on b26).drew) (by omega)) (hL6.chg c8 hS6 (by decide) (by decide) (by decide)) hcut.symm
 ·refine box2 rfl λw6 h6 b6 z6=>?_
  have b26:=b3.on b6
  have hS6:=(hC2.below b26).drew
  have h6':=h6.drew
  refine zF rfl (Sp.load h6' (st2 hS6 rfl λw8 hS8 c8=>Sp.load hS8 ?_))
  exact hbad w8 hne (c8.below ((hb2.on b26).drew) (by omega))
end
theorem ztc:Tryz.prog.underlying 131=some (.map 22 3):=by kernel_rfl
section
variable {w:World} {R:VWP} {r:Nat} {M:List (Int×Int)}
theorem zls{s:Sl}{ls:List Int}(hM:IsMp w r .i64 M)(hs:IsS (Value.int .u32) w s ls)(hmax:8*ls.length<=140737488355328)
  (hok:∀t w',(∀n∈ls,(zC M n).isSome=true)->Own w' 3 1 t ((ls.map λn=>(zC M n).getD 0).map (Value.int .i64))->zw w.heap.size t->Below w.heap.size w w'->R (.tuple #[.slice t.a t.l t.c,.bool true]) w')
  (hbad:∀w',(∃n∈ls,zC M n=none)->Below w.heap.size w w'->R (.tuple #[.slice none 0 0,.bool false]) w') :
  cR 89 #[.map (some r),.slice s.a s.l s.c] w R:=by
 refine zb.of (zfG (some r) s R w ?_) λ_ _ h=>h
 have hl:=hs.len
 refine zl.countSl ls.length hs.bound (λk t w'=>Own w' 3 1 t (((ls.take k).map λn=>(zC M n).getD 0).map (Value.int .i64))/\zw w.heap.size t/\Below w.heap.size w w'/\∀j (h:j<ls.length),j<k->(zC M ls[j]).isSome=true)
  ⟨Own.nil _ _ _,λa ha=>by(cases ha),Below.refl _ _,λj _ h=>by omega⟩ ?_
 rintro k t w1 hk ⟨hO,hF,hb,hj⟩ next hnext
 refine zi (λh=>?_) (λh=>?_)
 ·have hlt:k<ls.length:=by dsimp only at h;omega
  refine zoi (hs.below hb) hlt (zmL ztc uU32 zInt (hM.below hb) ?_)
  refine zy (zm (λhsome=>?_) (λhnone=>?_))
  ·refine zq λw2 hD2 b2 z2=>?_
   have htl:t.l=k:=by
    have:=hO.1
    rw[List.length_map,List.length_map,List.length_take]at this
    omega
   refine y7 eInt (hO.below b2) (hb.on b2) hF rfl hD2 (by omega) (by omega) λt' w3 hO3 hb3 hF3=>hnext t' w3 hlt ⟨?_,hF3,hb3,λj q1 q2=>?_⟩
   ·rw[List.take_succ_eq_append_getElem hlt,List.map_append,List.map_append]
    exact hO3
   ·by_cases ej:j=k
    ·subst ej;exact hsome
    ·exact hj j q1 (by omega)
  ·have hnone:(zC M ls[k]).isSome=false:=hnone
   exact hbad w1 ⟨ls[k],List.getElem_mem hlt,by simpa using hnone⟩ hb
 ·have hk':k=ls.length:=by dsimp only at h;omega
  subst hk'
  rw[List.take_length]at hO
  refine hok t w1 (λn hn=>?_) hO hF hb
  obtain⟨j,hj',rfl⟩:=List.getElem_of_mem hn
  exact hj j hj' hj'
def mrgP(M:List (Int×Int))(op:Int)(al:List Ag)(lop:Int):Option Mg:=
 if op=247 then(match zC M (al.getD 0 ag0).2.1 with
  |some a=>some (if lop=251 then 3 else 1,a,-1)
  |none=>none)
 else if op=246 then(match zC M (al.getD 0 ag0).2.1,zC M (al.getD 1 ag0).2.1 with
  |some a,some b=>some (2,a,b)
  |_,_=>none)
 else some (0,-1,-1)
theorem zlH{i last:Ins}{al:List Ag}(hM:IsMp w r .i64 M)(hI:IsAg w i.2.2.2.1 al)(h1:i.1=247->0<al.length)(h2:i.1=246->1<al.length)
  (hR:∀(m:Mg) (b:Bool) w',Below w.heap.size w w'->(b=true->mrgP M i.1 al last.1=some m)->(b=false->mrgP M i.1 al last.1=none)->R (.tuple #[.agg #[.int .u8 m.1,.int .i64 m.2.1,.int .i64 m.2.2],.bool b]) w') :
  cR 88 #[.map (some r),inA i,inA last] w R:=by
 refine zb.of (zey (some r) i last R w ?_) λ_ _ h=>h
 refine zq λw1 hA1 b1 z1=>?_
 have hA1:Blk w1 w.heap.size 41 (inV i):=hA1
 refine zq λw2 hB2 b2 z2=>?_
 have hB2:Blk w2 w1.heap.size 41 (inV last):=hB2
 refine zq λw3 hX3 b3 z3=>?_
 have hX3:Blk w3 w2.heap.size 121 [.int .u8 0,.int .i64 0,.int .i64 0]:=hX3
 refine box3 rfl λw7 hY7 b7 z7=>?_
 have hY7:Blk w7 w3.heap.size 121 (mgV (0,-1,-1)):=hY7
 have b17:=(b2.on b3).on b7
 have hb7:=b1.on b17
 have hA7:=hA1.below b17
 have hB7:=hB2.below (b3.on b7)
 have hX7:=hX3.below b7
 have hM7:=hM.below hb7
 have hI7:IsAg w7 i.2.2.2.1 al:=hI.below hb7
 have hal:=hI.len
 have out:∀{w':World} (y:Mg),Blk w' w2.heap.size 121 [.int .u8 0,.int .i64 0,.int .i64 0]->∀{K:Int->Int->Int->World->Prop},(∀w'',Chg w2.heap.size w' w''->K y.1 y.2.1 y.2.2 w'')->
   Wr w' (blk w2.heap.size)/\Nw (w'.setCell (blk w2.heap.size) (.int .u8 y.1)) λw10=>Wr w10 ((blk w2.heap.size).add 1)/\Nw (w10.setCell ((blk w2.heap.size).add 1) (.int .i64 y.2.1)) λw11=>Wr w11 ((blk w2.heap.size).add 2)/\Nw (w11.setCell ((blk w2.heap.size).add 2) (.int .i64 y.2.2)) λw12=>
    ldI w12 ((blk w2.heap.size).add 0) .u8 λx11=>ldI w12 ((blk w2.heap.size).add 1) .i64 λx12=>ldI w12 ((blk w2.heap.size).add 2) .i64 λx13=>K x11 x12 x13 w12:=λ{w'} y hX {K} hK=>
  st3 hX rfl λw'' hX'' c=>hX''.rI (n:=0) (x:=y.1) rfl (hX''.rI (n:=1) (x:=y.2.1) rfl (hX''.rI (n:=2) (x:=y.2.2) rfl (hK w'' c)))
 have ldY:∀{w':World},Blk w' w3.heap.size 121 (mgV (0,-1,-1))->∀{φ:Int->Int->Int->Prop},φ 0 (-1) (-1)->ldI w' ((blk w3.heap.size).add 0) .u8 λx8=>ldI w' ((blk w3.heap.size).add 1) .i64 λx9=>ldI w' ((blk w3.heap.size).add 2) .i64 λx10=>φ x8 x9 x10:=λ{w'} hY {φ} hφ=>
  hY.rI (n:=0) (x:=0) rfl (hY.rI (n:=1) (x:=-1) rfl (hY.rI (n:=2) (x:=-1) rfl hφ))
 refine hA7.rI0 (x:=i.1) rfl (zj (λe247=>?_) (λe247=>?_))
 ·have hl0:=h1 e247
  have hm:mrgP M i.1 al last.1=(match zC M (al.getD 0 ag0).2.1 with
    |some a=>some (if last.1=251 then 3 else 1,a,-1)
    |none=>none):=by unfold mrgP;rw[if_pos e247]
  refine hA7.rS (n:=3) (x:=i.2.2.2.1) rfl ?_
  refine zil hI7 (k:=0) hl0 ?_
  refine zq λw8 hD8 b8 z8=>?_
  have hD8:Blk w8 w7.heap.size 22 (([al[0].2.1]:List Int).map (Value.int .u32)):=hD8
  refine zls (s:=⟨some (blk w7.heap.size),1,1⟩) (ls:=[al[0].2.1]) (hM7.below b8) (hD8.isS rfl rfl (Nat.le_refl _) (by dsimp only;omega)) (by simp) (λt w9 hs hO9 hF9 b9=>⟨t,true,rfl,zB rfl ?_⟩) (λw9 hn b9=>⟨⟨none,0,0⟩,false,rfl,zF rfl ?_⟩)
  ·have b79:=b8.on b9
   have hs0:=hs _ (List.mem_singleton.2 rfl)
   obtain⟨a,ha⟩:=Option.isSome_iff_exists.1 hs0
   rw[zG hl0,ha]at hm
   have hO9:Own w9 3 1 t ([a].map (Value.int .i64)):=by
    simp only[List.map_cons,List.map_nil,ha,Option.getD_some]at hO9⊢
    exact hO9
   refine zk.cut (λ(st:Int×Unit) w'=>w'=w9/\st.1=if last.1=251 then 3 else 1) ?_ ?_
   ·refine(hB7.below b79).rI0 (x:=last.1) rfl (zj (λe=>⟨rfl,?_⟩) (λe=>⟨rfl,?_⟩))
    ·rw[if_pos e]
    ·rw[if_neg e]
   ·rintro⟨kd,_⟩ w9 ⟨rfl,rfl⟩
    refine yv hO9.isS (k:=0) (by simp) ?_
    refine out (if last.1=251 then 3 else 1,a,-1) (hX7.below b79) λw12 c12=>?_
    exact hR _ true w12 (c12.below (hb7.on b79) (by have:=b1.size;have:=b2.size;omega)) (λ_=>hm) (λh=>by cases h)
  ·have b79:=b8.on b9
   obtain⟨n,hn1,hn2⟩:=hn
   rw[List.mem_singleton.1 hn1]at hn2
   rw[zG hl0,hn2]at hm
   refine ldY (hY7.below b79) (out (0,-1,-1) (hX7.below b79) λw12 c12=>?_)
   exact hR (0,-1,-1) false w12 (c12.below (hb7.on b79) (by have:=b1.size;have:=b2.size;omega)) (λh=>by cases h) (λ_=>hm)
 refine zj (λe246=>?_) (λe246=>?_)
 ·have hl0:=h2 e246
  have hm:mrgP M i.1 al last.1=(match zC M (al.getD 0 ag0).2.1,zC M (al.getD 1 ag0).2.1 with
    |some a,some b=>some (2,a,b)
    |_,_=>none):=by unfold mrgP;rw[if_neg e247,if_pos e246]
  have bd:Below w7.heap.size w7 w7.drew:=(Below.refl _ _).drew
  have hId:IsAg w7.drew i.2.2.2.1 al:=hI7.below bd
  refine hA7.drew.rS (n:=3) (x:=i.2.2.2.1) rfl ?_
  refine zil hId (k:=0) (by omega) ?_
  refine hA7.drew.rS (n:=3) (x:=i.2.2.2.1) rfl ?_
  refine zil hId (k:=1) hl0 ?_
  refine zq λw8 hD8 b8 z8=>?_
  have hD8:Blk w8 w7.drew.heap.size 22 (([al[0].2.1,al[1].2.1]:List Int).map (Value.int .u32)):=hD8
  have b78:=bd.on b8
  refine zls (s:=⟨some (blk w7.drew.heap.size),2,2⟩) (ls:=[al[0].2.1,al[1].2.1]) (hM7.below b78) (hD8.isS rfl rfl (Nat.le_refl _) (by dsimp only;omega)) (by simp) (λt w9 hs hO9 hF9 b9=>⟨t,true,rfl,zB rfl ?_⟩) (λw9 hn b9=>⟨⟨none,0,0⟩,false,rfl,zF rfl ?_⟩)
  ·have b79:=b78.on b9
   obtain⟨a,ha⟩:=Option.isSome_iff_exists.1 (hs al[0].2.1 (by simp))
   obtain⟨b,hb⟩:=Option.isSome_iff_exists.1 (hs al[1].2.1 (by simp))
   rw[zG (show 0<al.length by omega),zG hl0,ha,hb]at hm
   have hO9:Own w9 3 1 t ([a,b].map (Value.int .i64)):=by
    simp only[List.map_cons,List.map_nil,ha,hb,Option.getD_some]at hO9⊢
    exact hO9
   refine yv hO9.drew.isS (k:=0) (by simp) (yv hO9.drew.isS (k:=1) (by simp) ?_)
   refine out (2,a,b) ((hX7.below b79).drew) λw12 c12=>?_
   exact hR _ true w12 (c12.below ((hb7.on b79).drew) (by have:=b1.size;have:=b2.size;omega)) (λ_=>hm) (λh=>by cases h)
  ·have b79:=b78.on b9
   obtain⟨n,hn1,hn2⟩:=hn
   have hm':mrgP M i.1 al last.1=none:=by
    rw[hm,zG (show 0<al.length by omega),zG hl0]
    rcases List.mem_cons.1 hn1 with e |e
    ·rw[<-e,hn2]
    ·rw[<-List.mem_singleton.1 e,hn2]
     cases zC M al[0].2.1<;>rfl
   refine ldY (hY7.below b79) (out (0,-1,-1) (hX7.below b79) λw12 c12=>?_)
   exact hR (0,-1,-1) false w12 (c12.below (hb7.on b79) (by have:=b1.size;have:=b2.size;omega)) (λh=>by cases h) (λ_=>hm')
 ·refine ldY hY7 (out (0,-1,-1) hX7 λw12 c12=>?_)
  exact hR (0,-1,-1) true w12 (c12.below hb7 (by have:=b1.size;have:=b2.size;omega)) (λ_=>by unfold mrgP;rw[if_neg e247,if_neg e246]) (λh=>by cases h)
end
end Go.Proofs
namespace Go.Proofs
open Go.Gk Go.RowKit Go.Gm
theorem zfw{P:Program}{t e:TypeId}{sz bytes:Nat}(he:zao P t e sz bytes){w0 w:World}{s:Sl}{xs:List Value}(h:Own w e sz s xs)(hb:Below w0.heap.size w0 w)(hF:zw w0.heap.size s){vs:List Value}(hvs:vs.length=sz)(hv:∀u∈vs,u.oneCell'=true){b c:Nat}{T:TypeId}
  (hB:Blk w b T vs) (h63:s.l+1<=9223372036854775807) (hbytes:(s.l+1)*bytes<=140737488355328) {k:Sl->World->Prop}
  (hk:∀r w',Own w' e sz r (xs++vs)->Below w0.heap.size w0 w'->zw w0.heap.size r->w.heap.size<=w'.heap.size->(∀i,i<w.heap.size->s.a≠some (blk i)->w'.heap[i]? =w.heap[i]?)->k r w'):zo P t (.slice s.a s.l s.c) (.slice (some (blk b)) 1 c) w k:=by
 refine yF he h (news:=vs) (by omega) (λj u hj=>hB.cell hj) hv h63 hbytes λr w' h1 hl' hg=>?_
 rcases hg with⟨_,_,h3⟩ | ⟨b',h3,h4,h5⟩
 ·rw[h3]at hl';omega
 ·have hbb:w0.heap.size<=b':=by
   rcases h4 with h4 |h4
   ·exact hF _ h4
   ·have:=hb.size
    omega
  refine hk r w' h1 (hb.trans (zM h5 hbb hb.size)) (λa ha=>by rw[h3]at ha;cases ha;exact hbb) (zM h5 (Nat.zero_le _) (Nat.zero_le _)).size λi hi hne=>h5.block _ hi λe=>?_
  have e:=Option.some.inj e
  subst e
  rcases h4 with h4 |h4
  ·exact hne h4
  ·omega
section
variable {w w' w0:World} {B:Nat} {s t:Sl} {pl:List PI} {p:PI}
theorem zd7{T T':TypeId}{sz b:Nat}{xs cs:List Value}(h:Own w T sz s xs)(hB:Blk w b T' cs)(hT:T≠T'):s.a≠some (Gk.blk b):=λe=>by
 obtain⟨cs',h'⟩:=h.type e
 exact Blk.apart h' hB hT rfl
theorem Zb{T T':TypeId}{sz sz':Nat}{xs ys:List Value}(h:Own w T sz s xs)(k:Own w T' sz' t ys)(hT:T≠T'){a:Addr}(ha:t.a=some a):s.a≠some (Gk.blk a.block):=λe=>by
 obtain⟨cs',h'⟩:=k.type ha
 exact zd7 h h' hT e
end
end Go.Proofs
namespace Go.Proofs
open Go.Gk Go.RowKit Go.Gm
end Go.Proofs
namespace Go.Proofs
open Go.Gk Go.RowKit Go.Gm
def lblN(bk:List (Int×Int×Int)):Nat->List (Int×Int)
 | 0=>[]
 |k+1=>setL (lblN bk k) (bk.getD (k+1) (0,0,0)).1 ((k:Int)+1)
abbrev lblM(bk:List (Int×Int×Int)):List (Int×Int):=lblN bk (bk.length-1)
def fndP(M:List (Int×Int))(ls:List Int):Option (List Int):=if ls.all (λn=>(zC M n).isSome)=true then some (ls.map λn=>(zC M n).getD 0) else none
def blkM(pl:List PI)(bk:List (Int×Int×Int))(b:Int×Int×Int):Option Mg:=mrgP (lblM bk) (ix pl (b.2.2.toNat-2)).1 (ix pl (b.2.2.toNat-2)).2.2.2 (ix pl (b.2.2.toNat-1)).1
def blkT(pl:List PI)(b:Int×Int×Int):List Int:=tgtP (ix pl (b.2.2.toNat-1)).1 (ix pl (b.2.2.toNat-1)).2.2.2
def blkE(pl:List PI)(bk:List (Int×Int×Int))(b:Int×Int×Int):Option Int:=match blkM pl bk b with
 |none=>some (b.2.2-2)
 |some _=>match fndP (lblM bk) (blkT pl b) with
  |none=>some (b.2.2-1)
  |some _=>none
noncomputable def gnwE(x:Mo)(pl:List PI)(f:FnL):Int×Int:=
 if (zQ x.2.1 pl).1≠0 then((zQ x.2.1 pl).1,((zQ x.2.1 pl).2:Int)) else if f ∉ cutF pl pl.length then(2,0) else if 4096<f.bk.length then(4,f.at_) else
  match f.bk.findSome? (blkE pl f.bk) with
  |some a=>(140,a)
  |none=>(0,0)
def mgsP(pl:List PI)(bk:List (Int×Int×Int)):List Mg:=bk.map λb=>(blkM pl bk b).getD (0,-1,-1)
def ye(pl:List PI)(bk:List (Int×Int×Int)):List (List Int):=bk.map λb=>(fndP (lblM bk) (blkT pl b)).getD []
theorem zgS(bk:List (Int×Int×Int)):∀k n v,zC (lblN bk k) n=some v->1<=v/\v<=k
 | 0,n,v,h=>by cases h
 |k+1,n,v,h=>by
  simp only[lblN]at h
  rw[zfo]at h
  split at h
  ·cases h;omega
  ·have:=zgS bk k n v h;omega
theorem zjT{M:List (Int×Int)}{ls:List Int}(h:∀n∈ls,(zC M n).isSome=true):fndP M ls=some (ls.map λn=>(zC M n).getD 0):=by
 unfold fndP
 rw[if_pos (List.all_eq_true.2 h)]
theorem zm8{M:List (Int×Int)}{ls:List Int}(h:∃n∈ls,zC M n=none):fndP M ls=none:=by
 unfold fndP
 obtain⟨n,hn,e⟩:=h
 rw[if_neg]
 intro ha
 have:=List.all_eq_true.1 ha n hn
 rw[e]at this
 cases this
theorem yz{α β:Type}{f:α->Option β}:∀{l:List α} {k:Nat} (hk:k<l.length) {v:β},f l[k]=some v->(∀j (h:j<l.length),j<k->f l[j]=none)->l.findSome? f=some v
 |a::l,0,_,v,h,_=>by
  rw[List.findSome?_cons]
  have h:f a=some v:=h
  rw[h]
 |a::l,k+1,hk,v,h,hj=>by
  rw[List.findSome?_cons]
  have h0:f a=none:=hj 0 (by simp) (by omega)
  rw[h0]
  exact yz (l:=l) (k:=k) (by simpa using hk) h λj h1 h2=>hj (j+1) (by simpa using h1) (by omega)
theorem zeq{α β:Type}{f:α->Option β}{l:List α}(hj:∀j (h:j<l.length),f l[j]=none):l.findSome? f=none:=by
 rw[List.findSome?_eq_none_iff]
 intro a ha
 obtain⟨j,h,rfl⟩:=List.getElem_of_mem ha
 exact hj j h
theorem zlZ(op:Int)(al:List Ag):(tgtP op al).length<=al.length:=by
 unfold tgtP
 split
 ·exact zlY op al al.length
 ·simp
theorem zr5:(match frm 247 with |some f=>decide (1<=f.fixed.length) |none=>false)=true:=by decide +kernel
theorem zr4:(match frm 246 with |some f=>decide (2<=f.fixed.length) |none=>false)=true:=by decide +kernel
theorem zsy{f:Fl}{n:Nat}(h:zcj f n=true):f.fixed.length<=n:=by
 unfold zcj at h
 split at h
 ·cases h
 ·omega
theorem zlG{p:PI}{b:Int}(h:yN p b=0):(p.1=247->0<p.2.2.2.length)/\(p.1=246->1<p.2.2.2.length):=by
 obtain⟨f,hf,_,_,_,hw,_⟩:=zjR h
 have hl:=zsy hw
 refine⟨λe=>?_,λe=>?_⟩
 ·have h1:=zr5
  rw[e]at hf
  rw[hf]at h1
  have:=of_decide_eq_true h1
  omega
 ·have h1:=zr4
  rw[e]at hf
  rw[hf]at h1
  have:=of_decide_eq_true h1
  omega
section
variable {x:Mo} {pl:List PI} {w:World} {R:VWP} {v:Fv} {f:FnL}
theorem zti{w:World}{s:Sl}{pl:List PI}(h:IsPl w s pl){k:Nat}(hk:k<pl.length){φ:Addr->Int->Int->Int->Sl->Prop}
  (hφ:∀a t,(∀j,j<4->w.cell? ((a.add (Int.toNat (k:Int)*4)).add j)=(inV (mkIn pl[k] t))[j]?)->IsAg w t pl[k].2.2.2->φ a pl[k].1 pl[k].2.1 pl[k].2.2.1 t) :
  (0<=(k:Int)/\(k:Int)<(s.l:Int))/\zc s.a λa=>ldI w ((a.add (Int.toNat (k:Int)*4)).add 0) .u16 λx=>ldI w ((a.add (Int.toNat (k:Int)*4)).add 1) .u32 λy=>ldI w ((a.add (Int.toNat (k:Int)*4)).add 2) .u32 λz=>ldS w ((a.add (Int.toNat (k:Int)*4)).add 3) λt=>φ a x y z t:=by
 obtain⟨a,ha⟩:=h.base hk
 obtain⟨t,h1,h2⟩:=h.elem a ha k hk
 have hc:∀j,j<4->w.cell? ((a.add (Int.toNat (k:Int)*4)).add j)=(inV (mkIn pl[k] t))[j]?:=λj hj=>by rw[zv];exact h1 j hj
 exact⟨⟨by omega,by have:=h.len;omega⟩,zf ha ⟨_,hc 0 (by omega),_,hc 1 (by omega),_,hc 2 (by omega),t,hc 3 (by omega),hφ a t hc h2⟩⟩
theorem eRow:zao Tryz.prog 48 26 1 24:=⟨by kernel_rfl,Tryz.t26,.slice none 0 0,by kernel_rfl,rfl,rfl,rfl,rfl⟩
set_option maxHeartbeats 1000000 in
theorem zqP(hN:IsPl w x.2.2.1 pl)(hp:PlOk pl)(h0:0<=x.2.1)(hf:IsFn w v f)
  (hbad:∀w' e a,Below w.heap.size w w'->(e,a)=gnwE x pl f->e≠0->R (.tuple #[.pointer none,.slice none 0 0,.agg #[.int .i64 e,.int .i64 a]]) w')
  (hok:∀w' gb ms,Below w.heap.size w w'->gnwE x pl f=(0,0)->f∈cutF pl pl.length->IsG w' gb (zO (ye pl f.bk))->NxOk (zO (ye pl f.bk))->IsM w' ms (mgsP pl f.bk)->R (.tuple #[.pointer (some (blk gb)),.slice ms.a ms.l ms.c,.agg #[.int .i64 0,.int .i64 0]]) w') :
  cR 33 #[moA x,fvA v] w R:=by
 refine zb.of (zkR x v R w ?_) λ_ _ h=>h
 refine zq λw1 hB1 b1 z1=>?_
 have hB1:Blk w1 w.heap.size 25 (moV x):=hB1
 refine zq λw2 hV2 b2 z2=>?_
 have hV2:Blk w2 w1.heap.size 29 (fvV v):=hV2
 refine zq λw3 hS3 b3 z3=>?_
 have hS3:Blk w3 w2.heap.size 33 [.int .i64 0,.int .i64 0]:=hS3
 have b13:=b2.on b3
 have hb3:=b1.on b13
 refine Mo.load (hB1.below b13) ?_
 refine zle (x:=x) (hN.below hb3) hp λw4 b4=>⟨((zQ x.2.1 pl).1,((zQ x.2.1 pl).2:Int),()),rfl,?_⟩
 refine box2 rfl λw7 h7 b7 z7=>?_
 have b37:=b4.on b7
 have hb7:=hb3.on b37
 have hB7:=(hB1.below b13).below b37
 have hV7:=(hV2.below b3).below b37
 have hS7:=hS3.below b37
 have s2:=b1.size
 have bad:∀{w':World} (e a:Int),Blk w' w2.heap.size 33 [.int .i64 0,.int .i64 0]->Below w.heap.size w w'->(e,a)=gnwE x pl f->e≠0->
   Wr w' (blk w2.heap.size)/\Nw (w'.setCell (blk w2.heap.size) (.int .i64 e)) λw8=>Wr w8 ((blk w2.heap.size).add 1)/\Nw (w8.setCell ((blk w2.heap.size).add 1) (.int .i64 a)) λw9=>ldI w9 ((blk w2.heap.size).add 0) .i64 λx9=>ldI w9 ((blk w2.heap.size).add 1) .i64 λx10=>
    R (.tuple #[.pointer none,.slice none 0 0,.agg #[.int .i64 x9,.int .i64 x10]]) w9:=λ{w'} e a hS hb he hne=>
  st2 hS rfl λw9 hS9 c9=>Sp.load hS9 (hbad w9 e a (c9.below hb (by omega)) he hne)
 refine h7.rI0 rfl (zr (λe=>?_) (λe=>?_))
 ·have e':(zQ x.2.1 pl).1≠0:=e
  exact Sp.load h7.drew (bad _ _ hS7.drew hb7.drew (by unfold gnwE;rw[if_pos e']) e')
 have e':(zQ x.2.1 pl).1=0:=e
 obtain⟨k1,k2,k3⟩:=ziZ e'
 have hsh:=zkb k2
 refine Mo.load hB7 ?_
 refine znE (x:=x) (hN.below hb7) hp (λfs L w10 _ b10 hL hLc=>⟨fs,(0,0,()),rfl,?_⟩) (λw10 hne _=>absurd k2 hne)
 refine box2 rfl λw13 h13 b13' z13=>?_
 have b713:=b10.on b13'
 have hb13:=hb7.on b713
 refine znD (v:=v) (f:=f) (hL.below b13') (hV7.below b713) (hf.below hb13) λw14 b14=>⟨_,rfl,?_⟩
 rw[hLc]
 have b714:=b713.on b14
 have hb14:=hb7.on b714
 have hB14:=hB7.below b714
 have hV14:=hV7.below b714
 have hS14:=hS7.below b714
 refine zy (zi (λhin=>?_) (λhin=>?_))
 rotate_left
 ·exact bad 2 0 hS14 hb14 (by unfold gnwE;rw[if_neg (λh=>h e'),if_pos hin]) (by decide)
 have hFn:=zno k2 f hin
 have hbl:=(hf.bk).len
 have hbc:=(hf.bk).cap
 have hbmax:=(hf.bk).bound
 refine hV14.rS (n:=3) (x:=v.2.2.2.1) rfl (zi (λhgt=>?_) (λhle=>?_))
 ·refine hV14.drew.rI (n:=1) (x:=v.2.1) rfl ?_
  exact bad 4 v.2.1 hS14.drew hb14.drew (by unfold gnwE;rw[if_neg (λh=>h e'),if_neg (λh=>h hin),if_pos (by omega),hf.at_]) (by decide)
 have hle:f.bk.length<=4096:=by omega
 have hpos:0<f.bk.length:=List.length_pos_iff.2 hFn.ne
 have hgn:gnwE x pl f=(match f.bk.findSome? (blkE pl f.bk) with
   |some a=>(140,a)
   |none=>(0,0)):=by unfold gnwE;rw[if_neg (λh=>h e'),if_neg (λh=>h hin),if_neg (by omega)]
 refine Nw.gen λw19 e19=>?_
 have m19:IsMp w19 w14.heap.size .i64 []:=by rw[e19];exact IsMp.new _ _
 have b19:Below w14.heap.size w14 w19:=by rw[e19];exact(Below.refl _ _).alloc (Nat.le_refl _) _
 have z19:w19.heap.size=w14.heap.size+1:=by rw[e19];simp
 clear e19
 have hV19:=hV14.below b19
 refine hV19.rS (n:=3) (x:=v.2.2.2.1) rfl ⟨⟨by omega,by omega,by omega⟩,?_⟩
 obtain⟨ab,hab⟩:=(hf.bk).base hpos
 have hb19:=hb14.on b19
 refine zl.count (f.bk.length-1) (by omega) (λk w'=>Below w14.heap.size w19 w'/\IsMp w' w14.heap.size .i64 (lblN f.bk k)) ⟨Below.refl _ _,m19⟩ ?_
 rintro k w20 hk ⟨f20,m20⟩ next hnext
 have b20:Below w14.heap.size w14 w20:=b19.trans f20
 have hb20:=hb14.on b20
 have s20:=f20.size
 rw[hbl]
 refine zi (λh=>?_) (λh=>?_)
 ·have hlt:k+1<f.bk.length:=by dsimp only at h;omega
  have hcell:=(IsC.below yd hf.bk hb20).cell ab hab (k+1) hlt
  refine⟨⟨by omega,by omega⟩,?_⟩
  rw[if_neg (by omega),hab]
  refine zf rfl ?_
  have ec:∀j,((ab.add (1*3)).add (Int.toNat (k:Int)*3)).add j=ab.add ((k+1)*3+j):=λj=>by
   rw[zv,zv,show Int.toNat (k:Int)=k from rfl]
   congr 1
   omega
  rw[ec,ec,ec]
  refine⟨_,hcell 0 (by omega),_,hcell 1 (by omega),_,hcell 2 (by omega),?_⟩
  refine box3 rfl λw24 h24 b24 z24=>?_
  refine h24.rI0 rfl ?_
  rw[zE (by omega)]
  refine zq1 ztc uU32 (m20.below b24) λw25 m25 c25=>?_
  have hn25:=hnext w25 (by omega)
  rw[zE (by omega)]at hn25
  refine hn25 ⟨f20.trans (c25.below (b24.mono (by omega)) (Nat.le_refl _)),?_⟩
  simp only[lblN]
  rw[zG hlt]
  exact m25
 have hk':k=f.bk.length-1:=by dsimp only at h;omega
 subst hk'
 have m20:IsMp w20 w14.heap.size .i64 (lblM f.bk):=m20
 have hV20:=hV14.below b20
 have hB20:=hB14.below b20
 have hS20:=hS14.below b20
 have lM:=m20.lt
 have hN20:=hN.below hb20
 have hbk20:IsBk w20 v.2.2.2.1 f.bk:=IsC.below yd hf.bk hb20
 have hl:=hN.len
 have h40:=hp.len
 refine hV20.rS (n:=3) (x:=v.2.2.2.1) rfl ?_
 rw[hbl]
 refine zl.ghost (λj (st:Sl×Sl×Int×Unit) w'=>∃(k:Nat) (nx mg:Sl) (hs:List Sl),st=(nx,mg,(k:Int),())/\j=f.bk.length-k/\k<=f.bk.length/\Below w20.heap.size w20 w'/\hs.length=k/\Own w' 26 1 nx (hs.map Sl.val)/\zw w20.heap.size nx/\
  (∀i (h:i<hs.length) (h':i<(ye pl f.bk).length),Own w' 3 1 hs[i] ((ye pl f.bk)[i].map (Value.int .i64))/\zw w20.heap.size hs[i])/\Own w' 121 3 mg (flat mgV ((mgsP pl f.bk).take k))/\zw w20.heap.size mg/\
  ∀i (h:i<f.bk.length),i<k->blkE pl f.bk f.bk[i]=none) f.bk.length
  ⟨0,⟨none,0,0⟩,⟨none,0,0⟩,[],rfl,rfl,Nat.zero_le _,Below.refl _ _,rfl,Own.nil _ _ _,λa ha=>(by cases ha),λi h=>(by cases h),Own.nil _ _ _,λa ha=>(by cases ha),λi _ h=>by omega⟩ ?_
 clear hnext
 rintro _ _ w26 ⟨k,nx,mg,hs,rfl,rfl,hk,b26,hhl,hnx,hnxF,hrow,hmg,hmgF,hgood⟩ next hnext
 have hb26:=hb20.on b26
 dsimp only
 refine zi (λh=>?_) (λh=>?_)
 ·have hkl:k<f.bk.length:=by omega
  obtain⟨fr,to_,hbq,hft,htl,h248,h8f,hend,h8t⟩:=(hFn.ok _ (List.getElem_mem hkl)).ex
  have hto:f.bk[k].2.2=(to_:Int):=by rw[hbq]
  have elB:∀{φ:Int->Int->Int->Prop},φ f.bk[k].1 f.bk[k].2.1 f.bk[k].2.2->(0<=(k:Int)/\(k:Int)<((f.bk.length:Nat):Int))/\zc v.2.2.2.1.a λa=>ldI w26 ((a.add (Int.toNat (k:Int)*3)).add 0) .u32 λx=>ldI w26 ((a.add (Int.toNat (k:Int)*3)).add 1) .i64 λy=>ldI w26 ((a.add (Int.toNat (k:Int)*3)).add 2) .i64 λz=>φ x y z:=λhφ=>by
   have:=zjQ (IsC.below yd hbk20 b26) hkl hφ
   rwa[hbl]at this
  refine elB ?_
  refine box3 rfl λw30 hK30 b30 z30=>?_
  have hK30:Blk w30 w26.heap.size 69 (blV f.bk[k]):=hK30
  have b2030:=b26.on b30
  have hB30:=hB20.below b2030
  refine hB30.rS (n:=2) (x:=x.2.2.1) rfl (hK30.rI (n:=2) (x:=f.bk[k].2.2) rfl ?_)
  rw[hto]
  have et1:IntKind.i64.wrap ((to_:Int)-1)=((to_-1:Nat):Int):=by rw[zt (by omega) (by omega)];omega
  have et2:IntKind.i64.wrap ((to_:Int)-2)=((to_-2:Nat):Int):=by rw[zt (by omega) (by omega)];omega
  rw[et1]
  have h1l:to_-1<pl.length:=by omega
  have h2l:to_-2<pl.length:=by omega
  have ei1:ix pl (to_-1)=pl[to_-1]:=yR h1l
  have ei2:ix pl (to_-2)=pl[to_-2]:=yR h2l
  refine yA (hN20.below b2030) h1l λtl htl'=>?_
  refine box4 rfl λw35 hL35 b35 z35=>?_
  have hL35:Blk w35 w30.heap.size 41 (inV (mkIn pl[to_-1] tl)):=hL35
  have b2035:=b2030.on b35
  have bd:Below w35.heap.size w35 w35.drew:=(Below.refl _ _).drew
  have b2035d:=b2035.on bd
  have hMargs:=zlG ((zfy hsh).2 (to_-2) h2l)
  have hbM:blkM pl f.bk f.bk[k]=mrgP (lblM f.bk) pl[to_-2].1 pl[to_-2].2.2.2 pl[to_-1].1:=by
   unfold blkM
   rw[hto,Int.toNat_natCast,ei1,ei2]
  have hbT:blkT pl f.bk[k]=tgtP pl[to_-1].1 pl[to_-1].2.2.2:=by
   unfold blkT
   rw[hto,Int.toNat_natCast,ei1]
  have s26:=b26.size
  have s30:=b30.size
  have s35:=b35.size
  refine zk.cut (λ(st:(Option Addr)×Bool×Unit) w'=>∃(mb:Nat) (m:Mg) (ok:Bool),st=(some (blk mb),ok,())/\Blk w' mb 121 (mgV m)/\Below w35.heap.size w35 w'/\(ok=true->blkM pl f.bk f.bk[k]=some m)/\(ok=false->blkM pl f.bk f.bk[k]=none)) ?_ ?_
  ·refine(hB30.below b35).drew.rS (n:=2) (x:=x.2.2.1) rfl ((hK30.below b35).drew.rI (n:=2) (x:=f.bk[k].2.2) rfl ?_)
   rw[hto,et2]
   refine zti ((hN20.below b2035d)) h2l λaM ti hcM hti=>?_
   refine Ins.load (x:=mkIn pl[to_-1] tl) hL35.drew ⟨?_,?_⟩
   ·refine zlH (i:=mkIn pl[to_-2] ti) (last:=mkIn pl[to_-1] tl) (m20.below b2035d) hti hMargs.1 hMargs.2 λm b w36 b36 hm1 hm2=>⟨(m.1,m.2.1,m.2.2,()),b,rfl,?_⟩
    refine box3 rfl λw40 hX40 b40 z40=>?_
    exact⟨w36.heap.size,m,b,rfl,hX40,(bd.on b36).on b40,λhb=>by rw[hbM];exact hm1 hb,λhb=>by rw[hbM];exact hm2 hb⟩
   ·refine zq λw41 hX41 b41 z41=>?_
    have hX41:Blk w41 w35.drew.heap.size 121 [.int .u8 0,.int .i64 0,.int .i64 0]:=hX41
    have hL41:=hL35.drew.below b41
    have hK41:=((hK30.below b35).drew).below b41
    have hB41:=((hB30.below b35).drew).below b41
    have hcM41:∀j vv,(inV (mkIn pl[to_-2] ti))[j]? =some vv->j<4->w41.cell? ((aM.add (Int.toNat ((to_-2:Nat):Int)*4)).add j)=some vv:=λj vv hv hj=>yx b41 ((hcM j hj).trans hv)
    refine⟨hL41.cell (n:=0) rfl,hL41.cell (n:=1) rfl,hL41.cell (n:=2) rfl,hL41.cell (n:=3) rfl,hcM41 0 _ rfl (by omega),hcM41 1 _ rfl (by omega),hcM41 2 _ rfl (by omega),hcM41 3 _ rfl (by omega),?_,hB41.cell (n:=2) rfl,?_⟩
    ·rw[<-hto]
     exact hK41.cell (n:=2) rfl
    refine zlH (i:=mkIn pl[to_-2] ti) (last:=mkIn pl[to_-1] tl) ((m20.below b2035d).below b41) (IsAg.below hti b41) hMargs.1 hMargs.2 λm b w42 b42 hm1 hm2=>⟨(m.1,m.2.1,m.2.2,()),b,rfl,?_⟩
    have b4142:=b41.on b42
    refine st3 (hX41.below b42) rfl λw45 hX45 c45=>?_
    exact⟨w35.drew.heap.size,m,b,rfl,hX45,c45.below (bd.on b4142) (Nat.le_refl _),λhb=>by rw[hbM];exact hm1 hb,λhb=>by rw[hbM];exact hm2 hb⟩
  rintro _ w46 ⟨mb,m,ok,rfl,hX46,b46,hm1,hm2⟩
  have b2046:=b2035.on b46
  have b2646:=(b30.on b35).on b46
  have hb46:=hb20.on b2046
  have hK46:=(hK30.below b35).below b46
  have hS46:=hS20.below b2046
  dsimp only
  refine zy (zm (λhokt=>?_) (λhokf=>?_))
  rotate_left
  ·have hnone:=hm2 hokf
   have hE:blkE pl f.bk f.bk[k]=some ((to_:Int)-2):=by unfold blkE;rw[hnone,hto]
   refine hK46.drew.rI (n:=2) (x:=f.bk[k].2.2) rfl ?_
   rw[hto,et2]
   refine bad 140 ((to_-2:Nat):Int) hS46.drew hb46.drew ?_ (by decide)
   rw[hgn,yz hkl hE λj h1 h2=>hgood j h1 h2]
   dsimp only
   congr 1
   omega
  have hsome:=hm1 hokt
  have hL46:=hL35.below b46
  have hal24:=hp.args _ (List.getElem_mem h1l)
  refine Ins.load (x:=mkIn pl[to_-1] tl) hL46 ?_
  refine znf (x:=mkIn pl[to_-1] tl) ((IsAg.below htl' b35).below b46) hal24 λtg w49 htg htgF b49=>⟨tg,rfl,?_⟩
  have htg:Own w49 22 1 tg ((tgtP pl[to_-1].1 pl[to_-1].2.2.2).map (Value.int .u32)):=htg
  have hlenT:=zlZ pl[to_-1].1 pl[to_-1].2.2.2
  have b2049:=b2046.on b49
  refine zls (M:=lblM f.bk) (m20.below b2049) htg.isS (by omega) (λt w50 hall hO50 hF50 b50=>⟨t,true,rfl,zB rfl ?_⟩) (λw50 hnone b50=>⟨⟨none,0,0⟩,false,rfl,zF rfl ?_⟩)
  rotate_left
  ·have b4650:=b49.on b50
   have hE:blkE pl f.bk f.bk[k]=some ((to_:Int)-1):=by unfold blkE;rw[hsome,hbT,zm8 hnone,hto]
   refine(hK46.below b4650).drew.rI (n:=2) (x:=f.bk[k].2.2) rfl ?_
   rw[hto,et1]
   refine bad 140 ((to_-1:Nat):Int) (hS46.below b4650).drew (hb46.on b4650).drew ?_ (by decide)
   rw[hgn,yz hkl hE λj h1 h2=>hgood j h1 h2]
   dsimp only
   congr 1
   omega
  have b4650:=b49.on b50
  have hX50:=hX46.below b4650
  have hE:blkE pl f.bk f.bk[k]=none:=by unfold blkE;rw[hsome,hbT,zjT hall]
  refine zf rfl ?_
  refine hX50.rI (n:=0) (x:=m.1) rfl (hX50.rI (n:=1) (x:=m.2.1) rfl (hX50.rI (n:=2) (x:=m.2.2) rfl ?_))
  refine zq λw53 hY53 b53 z53=>?_
  have hY53:Blk w53 w50.heap.size 121 (mgV m):=hY53
  have b2653:=(b2646.on b4650).on b53
  have b2053:=b26.on b2653
  have hmgl:mg.l=k:=by
   have:=hmg.1
   rw[zI Zu,List.length_take]at this
   unfold mgsP at this
   rw[List.length_map]at this
   omega
  refine zfw (w0:=w20) eMg (hmg.below b2653) b2053 hmgF rfl (by simp[Value.oneCell']) hY53 (by omega) (by omega) λmg' w54 q1 q2 q3 q4 q5=>?_
  refine zq λw55 hZ55 b55 z55=>?_
  have hZ55:Blk w55 w54.heap.size 26 [Sl.val t]:=hZ55
  have hnx54:Own w54 26 1 nx (hs.map Sl.val):=(hnx.below b2653).of_block λa ha=>q5 _ ((hnx.below b2653).lt ha).2 (Zb (hmg.below b2653) (hnx.below b2653) (by decide) ha)
  have ht53:=hO50.below b53
  have ht54:Own w54 3 1 t _:=ht53.of_block λa ha=>q5 _ (ht53.lt ha).2 (Zb (hmg.below b2653) ht53 (by decide) ha)
  have hnxl:nx.l=k:=by
   have:=hnx.1
   rw[List.length_map]at this
   omega
  have q2':=q2.on b55
  refine zfw (w0:=w20) eRow (hnx54.below b55) q2' hnxF rfl (by simp[Value.oneCell',Sl.val]) hZ55 (by omega) (by omega) λnx' w56 u1 u2 u3 u4 u5=>?_
  have hnx55:=hnx54.below b55
  rw[zE (by omega)]
  refine hnext (f.bk.length-(k+1)) _ _ (by omega) ⟨k+1,nx',mg',hs++[t],rfl,rfl,hkl,u2,by simp[hhl],?_,u3,λi h1 h2=>?_,?_,q3,λi h1 h2=>?_⟩
  ·rw[List.map_append]
   exact u1
  ·have keepI:∀{s:Sl} {xs:List Value},Own w53 3 1 s xs->Own w56 3 1 s xs:=λ{s xs} ho=>by
    have ho54:Own w54 3 1 s xs:=ho.of_block λa ha=>q5 _ (ho.lt ha).2 (Zb (hmg.below b2653) ho (by decide) ha)
    have ho55:=ho54.below b55
    exact ho55.of_block λa ha=>u5 _ (ho55.lt ha).2 (Zb hnx55 ho55 (by decide) ha)
   by_cases e:i<hs.length
   ·rw[List.getElem_append_left e]
    obtain⟨g1,g2⟩:=hrow i e h2
    exact⟨keepI (g1.below b2653),g2⟩
   ·have ei:i=k:=by simp at h1;omega
    subst ei
    have er:(hs++[t])[i]'h1=t:=by rw[List.getElem_append_right (by omega)];simp[hhl]
    rw[er]
    refine⟨?_,λa ha=>by have:=hF50 a ha;have:=b2049.size;omega⟩
    have:(ye pl f.bk)[i]=(tgtP pl[to_-1].1 pl[to_-1].2.2.2).map λn=>(zC (lblM f.bk) n).getD 0:=by
     refine(List.getElem_map (λb=>(fndP (lblM f.bk) (blkT pl b)).getD [])).trans ?_
     rw[hbT,zjT hall]
     rfl
    rw[this]
    exact keepI ht53
  ·have hmk:(mgsP pl f.bk).take (k+1)=(mgsP pl f.bk).take k++[m]:=by
    have hlm:k<(mgsP pl f.bk).length:=by unfold mgsP;rw[List.length_map];exact hkl
    rw[List.take_succ_eq_append_getElem hlm]
    congr 2
    refine(List.getElem_map (λb=>(blkM pl f.bk b).getD (0,-1,-1))).trans ?_
    rw[hsome]
    rfl
   rw[hmk,zaZ]
   have q1':=q1.below b55
   exact q1'.of_block λa ha=>u5 _ (q1'.lt ha).2 (Zb hnx55 q1' (by decide) ha)
  ·by_cases e:i=k
   ·subst e;exact hE
   ·exact hgood i h1 (by omega)
 ·have hkk:k=f.bk.length:=by omega
  subst hkk
  have hrl:(ye pl f.bk).length=f.bk.length:=by unfold ye;rw[List.length_map]
  have hml:(mgsP pl f.bk).length=f.bk.length:=by unfold mgsP;rw[List.length_map]
  have hg0:gnwE x pl f=(0,0):=by rw[hgn,zeq λj hj=>hgood j hj hj]
  rw[<-hml,List.take_length]at hmg
  have hII:IsII w26 nx hs (ye pl f.bk):=⟨hnx.isS,by rw[hhl,hrl],λi h1 h2=>(hrow i h1 h2).1.isS⟩
  have hGood:Good (ye pl f.bk):=by
   intro l hl' y hy
   obtain⟨b,hb,rfl⟩:=List.mem_map.1 hl'
   cases hfd:fndP (lblM f.bk) (blkT pl b) with
   |none=>rw[hfd]at hy;cases hy
   |some l=>
    rw[hfd]at hy
    unfold fndP at hfd
    split at hfd
    ·rename_i hall
     cases hfd
     obtain⟨n,hn,rfl⟩:=List.mem_map.1 hy
     have hs1:=List.all_eq_true.1 hall n hn
     obtain⟨u,hu⟩:=Option.isSome_iff_exists.1 hs1
     rw[hu,Option.getD_some]
     have:=zgS f.bk _ n u hu
     rw[hrl]
     omega
    ·cases hfd
  refine zex hII (λh=>by rw[hrl]at h;omega) (λh=>by rw[hrl]at h;omega) (λ_ _ hng=>absurd hGood hng) λq1 q2 q3 w57 gb b57 hG _=>⟨some (blk gb),0,rfl,?_⟩
  have b2057:=b26.on b57
  refine st2 (hS20.below b2057) rfl λw59 hS59 c59=>Sp.load hS59 ?_
  have hb57:=hb20.on b2057
  have hM57:=hmg.below b57
  refine hok w59 gb mg (c59.below hb57 (by omega)) hg0 hin ?_ (zgH q1 q2 q3) ?_
  ·exact(hG.keep λk k1 _=>c59.block k (by have:=b26.size;have:=hS20.lt;omega)).isG
  ·exact Own.isC Zu (by omega) (hM57.of_block λa ha=>c59.block _ λe=>by
    obtain⟨cs,hc⟩:=hM57.type ha
    exact Blk.apart hc (hS20.below b2057) (by decide) e)
end
end Go.Proofs
namespace Go.Proofs
open Go.Gk Go.RowKit Go.Gm
theorem Chg.same{b:Nat}{T:TypeId}{cs:List Value}{w w':World}(c:Chg b w w')(h:Blk w b T cs)(h':Blk w' b T cs):Below w.heap.size w w':=
 ⟨c.os,c.tape,c.output,Nat.le_of_eq c.size.symm,λk _=>by
  by_cases e:k=b
  ·subst e;exact h'.trans h.symm
  ·exact c.block k e⟩
theorem zoz{bk:List (Int×Int×Int)}(hd:(bk.map (·.1)).Nodup){i:Nat}(h1:1<=i)(hi:i<bk.length):∀k,i<=k->k<bk.length->zC (lblN bk k) (bk[i]).1=some (i:Int)
 | 0,h,_=>by omega
 |k+1,h,hk=>by
  simp only[lblN]
  rw[zfo,zG hk]
  by_cases e:i=k+1
  ·subst e
   rw[if_pos rfl]
   rfl
  ·rw[if_neg λq=>e ?_]
   ·exact zoz hd h1 hi k (by omega) (by omega)
   ·have:=List.pairwise_iff_getElem.1 (List.nodup_iff_pairwise_ne.1 hd) i (k+1) (by rwa[List.length_map]) (by rwa[List.length_map]) (by omega)
    simp only[List.getElem_map]at this
    exact(this q).elim
theorem zoy{bk:List (Int×Int×Int)}{n:Int}:∀k,k<bk.length->(∀i (h:i<bk.length),1<=i->i<=k->bk[i].1≠n)->zC (lblN bk k) n=none
 | 0,_,_=>rfl
 |k+1,hk,h=>by
  simp only[lblN]
  rw[zfo,zG hk,if_neg (λe=>h (k+1) hk (by omega) (Nat.le_refl _) e.symm)]
  exact zoy k (by omega) λi h1 h2 h3=>h i h1 h2 (by omega)
def lblI(bk:List (Int×Int×Int))(n:Int):Int:=(zC (lblM bk) n).getD (-1)
theorem zp6:(match frm 248 with |some f=>f.re |none=>false)=true:=by decide +kernel
theorem zrS{bd:Int}{pl:List PI}(hs:(zH bd pl).1=0){k:Nat}(hk:k<pl.length)(h:(ix pl k).1=248):(ix pl k).2.2.1≠0:=by
 have hf:=(zfy hs).2 k hk
 rw[yR hk]at h⊢
 obtain⟨f,hf,_,h2,_⟩:=zjR hf
 have h1:=zp6
 rw[h]at hf
 rw[hf]at h1
 have h1:f.re=true:=h1
 rw[h1]at h2
 intro e
 rw[e]at h2
 simp[idP]at h2
theorem BkOk.label{pl:List PI}{n:Nat}{b:Int×Int×Int}(h:BkOk pl n b):∃f:Nat,b.1=(ix pl f).2.2.1/\b.2.1=(f:Int)/\f<n/\(ix pl f).1=248:=by
 obtain⟨f,t,rfl,h2,h3,h4,_⟩:=h.ex
 exact⟨f,rfl,rfl,by omega,h4⟩
theorem znu{bd:Int}{pl:List PI}(hp:PlOk pl)(h0:0<=bd)(h:(zQ bd pl).1=0){f:FnL}(hf:FnOk pl pl.length f):(f.bk.map (·.1)).Nodup:=by
 have hw:=zpp.of hp h0 h
 rw[List.nodup_iff_pairwise_ne,List.pairwise_map,List.pairwise_iff_getElem]
 intro i j hi hj hij e
 have hlt:=List.pairwise_iff_getElem.1 hf.lt i j hi hj hij
 obtain⟨a,a1,a2,a3,a4⟩:=(hf.ok _ (List.getElem_mem hi)).label
 obtain⟨b,b1,b2,b3,b4⟩:=(hf.ok _ (List.getElem_mem hj)).label
 rw[a2,b2]at hlt
 rw[a1,b1]at e
 exact hw.new b b3 (zrS hw.shape b3 b4) a (by omega) a3 e
end Go.Proofs
namespace Go.Proofs
open Go.Gk Go.RowKit Go.Gm
end Go.Proofs
namespace Go.Proofs
open Go.Gk Go.RowKit Go.Gm
theorem zom{α:Type}{f:α->List Value}{sz:Nat}(hf:∀x,(f x).length=sz){v:Value}{y:α}{j:Nat}(hj:j<sz):∀(l:List α) (i:Nat) (h:i<l.length),(f l[i]).set j v=f y->(flat f l).set (i*sz+j) v=flat f (l.set i y)
 |a::l,0,_,e=>by
  have e:(f a).set j v=f y:=e
  simp only[flat,List.flatMap_cons,List.set_cons_zero,Nat.zero_mul,Nat.zero_add]
  rw[List.set_append_left _ _ (by rw[hf];exact hj),e]
 |a::l,i+1,h,e=>by
  have h':i<l.length:=by simpa using h
  have ih:=zom hf hj l i h' e
  simp only[flat,List.flatMap_cons,List.set_cons_succ]at ih⊢
  rw[List.set_append_right _ _ (by rw[hf,Nat.succ_mul];omega),hf,<-ih]
  congr 2
  rw[Nat.succ_mul]
  omega
theorem _root_.Go.Gk.Own.setC{α:Type}{f:α->List Value}{sz:Nat}(hf:∀x,(f x).length=sz){w:World}{T:TypeId}{q:Sl}{b:Nat}{l:List α}(h:Own w T sz q (flat f l))(ha:q.a=some (blk b)){i j:Nat}(hi:i<l.length)(hj:j<sz){v:Value}{y:α}(hv:(f l[i]).set j v=f y) :
  Wr w ((blk b).add (i*sz+j))/\Own (w.setCell ((blk b).add (i*sz+j)) v) T sz q (flat f (l.set i y)):=by
 obtain⟨h1,h2⟩:=h
 rw[zI hf]at h1
 rcases h2 with rfl | ⟨b',cs,e,hB,h3,h4,h5,h6⟩
 ·cases ha
 ·rw[ha]at e
  have e:b=b':=by injection e with e;injection e
  subst e
  have h7:i*sz+j<l.length*sz:=by
   have:(i+1)*sz<=l.length*sz:=Nat.mul_le_mul_right _ hi
   rw[Nat.succ_mul]at this
   omega
  refine⟨hB.wr ?_,by rw[zI hf,List.length_set];exact h1,.inr ⟨b,_,ha,hB.set _ _,h3,h4,by rw[List.length_set];exact h5,?_⟩⟩
  ·have:q.l*sz<=q.c*sz:=Nat.mul_le_mul_right _ h3
   omega
  ·rw[List.take_set,h6,zom hf hj l i hi hv]
theorem _root_.Go.Gk.Own.a_of{w:World}{T:TypeId}{sz:Nat}{q:Sl}{xs:List Value}(h:Own w T sz q xs)(h0:xs≠[]):∃b,q.a=some (blk b):=by
 obtain⟨h1,h2⟩:=h
 rcases h2 with rfl | ⟨b',cs,e,_⟩
 ·exact absurd (List.length_eq_zero_iff.1 (by rw[h1];simp)) h0
 ·exact⟨b',e⟩
theorem zqz{bd:Int}{pl:List PI}(h:(zH bd pl).1=0):∀k,k<=pl.length->k<=totP pl k
 | 0,_=>Nat.zero_le _
 |k+1,hk=>by
  have ih:=zqz h k (by omega)
  rw[zko (by omega)]
  have hf:=(zfy h).2 k (by omega)
  obtain⟨f,hf,_⟩:=zjR hf
  have:1<=zgu pl[k]:=by
   unfold zgu
   rw[hf]
   unfold zaV
   dsimp only
   omega
  omega
theorem zp7{bd:Int}{pl:List PI}(h:(zH bd pl).1=0):pl.length<=1048576:=Nat.le_trans (zqz h _ (Nat.le_refl _)) (zts h)
theorem zsN{p:PI}(h:zbY p.1=8):zu p=8:=by
 unfold zu
 split
 ·rfl
 ·exact h
theorem zjb{pl:List PI}(hg:Zx pl pl.length){n:Nat}(hn:n<pl.length)(h:(ix pl n).1=55\/(ix pl n).1=56\/(ix pl n).1=248\/zW (ix pl n).1=true) :
  ∃l f,cutF pl n=l++[f]/\(zW (ix pl n).1=true->f.bk≠[]):=by
 have h8:zu (ix pl n)=8:=by
  refine zsN ?_
  obtain⟨p1,p2,p3,p4,p5,p6,p7,p8,p9,p10,p11⟩:=zso
  rcases h with e |e |e |e
  ·rw[e];exact p2
  ·rw[e];exact p3
  ·rw[e];exact p4
  ·have:=yj e
   have:(ix pl n).1=249\/(ix pl n).1=250\/(ix pl n).1=251\/(ix pl n).1=252\/(ix pl n).1=253\/(ix pl n).1=254\/(ix pl n).1=255:=by omega
   rcases this with e |e |e |e |e |e |e<;>rw[e]<;>assumption
 have ho:=zpB (hg n hn) h8
 obtain⟨done,last,hc,hd,hl⟩:=znn hg n (by omega)
 generalize zP pl n=ah at ho hl
 generalize yH pl (n-1)=fi at ho
 rcases h with e |e |e |e
 ·rw[e]at ho⊢
  have ho:(ah==54||ah==55)=true:=ho
  have ho:ah=54\/ah=55:=by simpa using ho
  cases hl with
  |out h=>omega
  |head f h hb=>exact⟨done,f,hc,λq=>by cases q⟩
  |shut f h hf=>have:=yj h;omega
  |open_ f bs k h _ _ _ _ _ _ _=>exact absurd (ho.elim (λe=>.inr (.inl e)) λe=>.inr (.inr (.inl e))) h
 ·rw[e]at ho⊢
  have ho:zW ah=true:=ho
  cases hl with
  |out h=>have:=yj ho;omega
  |head f h hb=>have:=yj ho;omega
  |shut f h hf=>exact⟨done,f,hc,λq=>by cases q⟩
  |open_ f bs k h _ _ _ _ _ _ _=>exact absurd (.inr (.inr (.inr (.inr ho)))) h
 ·rw[e]at ho⊢
  have ho:(ah==54||ah==55||zW ah)=true:=ho
  cases hl with
  |out h=>rcases h with rfl |rfl<;>cases ho
  |head f h hb=>exact⟨done,f,hc,λq=>by cases q⟩
  |shut f h hf=>exact⟨done,f,hc,λq=>by cases q⟩
  |open_ f bs k h _ _ _ _ _ _ _=>exact⟨done,f,hc,λq=>by cases q⟩
 ·have hr:=yj e
  have hin:¬(ah=0\/ah=54\/ah=55\/ah=56\/zW ah=true):=λhin=>by
   unfold Yh at ho
   rw[if_neg (by omega),if_neg (by omega),if_neg (by omega),if_neg (by omega),if_pos hin]at ho
   cases ho
  cases hl with
  |out h=>exact absurd (h.elim .inl λe=>.inr (.inr (.inr (.inl e)))) hin
  |head f h hb=>exact absurd (h.elim (λe=>.inr (.inl e)) λe=>.inr (.inr (.inl e))) hin
  |shut f h hf=>exact absurd (.inr (.inr (.inr (.inr h)))) hin
  |open_ f bs k h hb _ _ _ _ _ _=>exact⟨done,f,hc,λ_=>by rw[hb];simp⟩
structure DCt (w0 w:World) (s:Sl) (L:List Fe):Prop where
 b:Below w0.heap.size w0 w
 fns:Fns w s L
 fs:zw w0.heap.size s
 fr:∀x∈L,zw w0.heap.size x.2.1/\zw w0.heap.size x.2.2
 ap:L.Pairwise λx y=>(∀a,x.2.1.a=some a->y.2.1.a≠some a)/\(∀a,x.2.2.a=some a->y.2.2.a≠some a)
section
variable {w0 w w':World} {s:Sl} {L:List Fe} {x:Fe} {pl:List PI}
theorem DCt.below(h:DCt w0 w s L)(hb:Below w.heap.size w w'):DCt w0 w' s L:=⟨h.b.on hb,h.fns.below hb,h.fs,h.fr,h.ap⟩
abbrev zms(w w':World):Prop:=∀i cs,Blk w i 41 cs->Blk w' i 41 cs
theorem DCt.newF(h:DCt w0 w s L)(hl:L.length<=1048576){id at_:Int}{K:Sl->World->Prop}
  (hK:∀r w',DCt w0 w' r (L++[((⟨id,at_,0,[],[]⟩:FnL),⟨none,0,0⟩,⟨none,0,0⟩)])->zms w w'->K r w') :
  Nw (w.alloc (.cells #[(.int .u32 id),(.int .i64 at_),(.slice none 0 0),(.slice none 0 0),(.int .i64 (0:Int))] 29)) λw15=>zo Tryz.prog 30 (.slice s.a s.l s.c) (.slice (some (blk w.heap.size)) 1 1) w15 K:=by
 refine zq λw1 hB1 b1 z1=>?_
 have hsl:=h.fns.len
 have h1:=h.below b1
 refine zfw (w0:=w0) eFun h1.fns.own h1.b h1.fs (vs:=[.int .u32 id,.int .i64 at_,.slice none 0 0,.slice none 0 0,.int .i64 0]) rfl (by simp[Value.oneCell']) hB1 (by omega) (by omega) λr w2 q1 q2 q3 q4 q5=>hK r w2 ⟨q2,⟨?_,λy hy=>?_⟩,q3,λy hy=>?_,?_⟩ ?_
 ·rw[zaZ];exact q1
 ·rcases List.mem_append.1 hy with hy |hy
  ·obtain⟨g1,g2⟩:=h1.fns.row y hy
   exact⟨g1.of_block λa ha=>q5 _ (g1.lt ha).2 (Zb h1.fns.own g1 (by decide) ha),g2.of_block λa ha=>q5 _ (g2.lt ha).2 (Zb h1.fns.own g2 (by decide) ha)⟩
  ·rw[List.mem_singleton.1 hy]
   exact⟨Own.nil _ _ _,Own.nil _ _ _⟩
 ·rcases List.mem_append.1 hy with hy |hy
  ·exact h.fr y hy
  ·rw[List.mem_singleton.1 hy]
   exact⟨λa ha=>(by cases ha),λa ha=>(by cases ha)⟩
 ·exact zbm h.ap λy _=>⟨λa _ q=>(by cases q),λa _ q=>(by cases q)⟩
 ·intro i cs hi
  have hi1:=hi.below b1
  exact hi1.of_block (q5 _ hi1.lt λe=>zd7 h1.fns.own hi1 (by decide) e)
theorem DCt.len{L0:List Fe}(h:DCt w0 w s (L0++[x])):s.l=L0.length+1:=by have:=h.fns.len;rw[List.length_append]at this;simp at this;omega
theorem DCt.base{L0:List Fe}(h:DCt w0 w s (L0++[x])):∃b cs,s.a=some (Gk.blk b)/\Blk w b 29 cs/\w0.heap.size<=b:=by
 obtain⟨b,hb⟩:=h.fns.own.a_of (by simp)
 obtain⟨cs,hB⟩:=h.fns.own.type hb
 exact⟨b,cs,hb,hB,h.fs _ hb⟩
theorem DCt.cell{L0:List Fe}(h:DCt w0 w s (L0++[x])){b:Nat}(hb:s.a=some (Gk.blk b)){j:Nat}{v:Value}(hj:j<5)(hv:(feV x)[j]? =some v):w.cell? (((Gk.blk b).add (Int.toNat (L0.length:Int)*5)).add j)=some v:=by
 have hc:IsC 5 feV w s (L0++[x]):=Own.isC zbl (by omega) h.fns.own
 have:=hc.cell _ hb L0.length (by simp) j hj
 rw[List.getElem_concat_length rfl]at this
 rw[zv]
 exact this.trans hv
theorem DCt.inLast{L0:List Fe}(h:DCt w0 w s (L0++[x])):0<=(L0.length:Int)/\(L0.length:Int)<(s.l:Int):=by have:=h.len;omega
theorem DCt.upd{L0:List Fe}{y:Fe}(h:DCt w0 w s (L0++[x])){w1:World}(hb1:Below w0.heap.size w0 w1)(hO:Own w1 29 5 s (flat feV (L0++[x])))
  (hrow:∀z∈L0++[y],Own w1 3 1 z.2.1 (z.1.ps.map (Value.int .i64))/\Own w1 69 3 z.2.2 (flat blV z.1.bk))
  (hfr:zw w0.heap.size y.2.1/\zw w0.heap.size y.2.2) (hap:∀z∈L0,(∀a,z.2.1.a=some a->y.2.1.a≠some a)/\(∀a,z.2.2.a=some a->y.2.2.a≠some a))
  {j:Nat} (hj:j<5) {v:Value} (hv:(feV x).set j v=feV y) {K:World->Prop} (hK:∀w',DCt w0 w' s (L0++[y])->zms w1 w'->K w') :
  (0<=(L0.length:Int)/\(L0.length:Int)<(s.l:Int))/\zc s.a λa=>Wr w1 ((a.add (Int.toNat (L0.length:Int)*5)).add j)/\Nw (w1.setCell ((a.add (Int.toNat (L0.length:Int)*5)).add j) v) K:=by
 obtain⟨b,_,hb,_,hge⟩:=h.base
 obtain⟨cs,hB⟩:=hO.type hb
 have hB:Blk w1 b 29 cs:=hB
 have hi:L0.length<(L0++[x]).length:=by simp
 have hv':(feV (L0++[x])[L0.length]).set j v=feV y:=by rw[List.getElem_concat_length rfl];exact hv
 obtain⟨h1,h2⟩:=hO.setC zbl hb hi hj hv'
 rw[List.set_append_right _ _ (Nat.le_refl _),Nat.sub_self]at h2
 have c:Chg b w1 (w1.setCell ((Gk.blk b).add (L0.length*5+j)) v):=Chg.set b _ w1 v
 refine⟨h.inLast,zf hb ?_⟩
 rw[zv,show Int.toNat (L0.length:Int)=L0.length from rfl]
 refine⟨h1,hK _ ⟨c.below hb1 hge,⟨h2,λz hz=>?_⟩,h.fs,λz hz=>?_,?_⟩ λi cs' hi'=>hi'.of_block (c.block _ λe=>by subst e;exact Blk.apart hi' hB (by decide) rfl)⟩
 ·obtain⟨g1,g2⟩:=hrow z hz
  exact⟨g1.of_block λa ha=>c.block _ λe=>(by subst e;obtain⟨_,q⟩:=g1.type ha;exact Blk.apart q hB (by decide) rfl),g2.of_block λa ha=>c.block _ λe=>(by subst e;obtain⟨_,q⟩:=g2.type ha;exact Blk.apart q hB (by decide) rfl)⟩
 ·rcases List.mem_append.1 hz with hz |hz
  ·exact h.fr z (List.mem_append.2 (.inl hz))
  ·rw[List.mem_singleton.1 hz];exact hfr
 ·exact zbm (List.pairwise_append.1 h.ap).1 hap
theorem DCt.pushP{L0:List Fe}(h:DCt w0 w s (L0++[x])){b c:Nat}{T:TypeId}{v:Int}(hB:Blk w b T [.int .i64 v])(hlen:x.1.ps.length<=1048576){K:World->Prop}
  (hK:∀w' r,DCt w0 w' s (L0++[(({x.1 with ps:=x.1.ps++[v]}:FnL),r,x.2.2)])->zms w w'->K w') :
  zo Tryz.prog 26 (.slice x.2.1.a x.2.1.l x.2.1.c) (.slice (some (Gk.blk b)) 1 c) w λr w1=>(0<=(L0.length:Int)/\(L0.length:Int)<(s.l:Int))/\zc s.a λa=>Wr w1 ((a.add (Int.toNat (L0.length:Int)*5)).add 2)/\Nw (w1.setCell ((a.add (Int.toNat (L0.length:Int)*5)).add 2) (.slice r.a r.l r.c)) K:=by
 have hx:x∈L0++[x]:=by simp
 obtain⟨o1,o2⟩:=h.fns.row x hx
 obtain⟨f1,f2⟩:=h.fr x hx
 have hap:=(List.pairwise_append.1 h.ap).2.2
 have hsl:x.2.1.l=x.1.ps.length:=by have:=o1.1;rw[List.length_map]at this;omega
 have hb0:=h.b.size
 refine zj2 eInt o1 (vs:=[.int .i64 v]) rfl (by simp[Value.oneCell']) hB (by omega) (by omega) λr w1 b' q1 q2 q3 q4 q5=>?_
 have hX:∀k,x.2.1.a=some (Gk.blk k)->w0.heap.size<=k:=λk e=>f1 _ e
 refine h.upd (y:=(({x.1 with ps:=x.1.ps++[v]}:FnL),r,x.2.2)) (q5.low h.b hX hb0) (q5.own h.fns.own λb e X=>Za h.fns.own o1 (by decide) e X) (λz hz=>?_) ⟨λa ha=>?_,f2⟩ (λz hz=>⟨λa ha e=>?_,(hap z hz x (by simp)).2⟩) (j:=2) (by omega) rfl λw2 hR hk=>hK w2 r hR λi cs hi=>hk i cs (hi.of_block (q5.block i hi.lt λX=>zd7 o1 hi (by decide) X))
 ·rcases List.mem_append.1 hz with hz |hz
  ·obtain⟨g1,g2⟩:=h.fns.row z (List.mem_append.2 (.inl hz))
   exact⟨q5.own g1 λb e X=>(hap z hz x (by simp)).1 _ e X,q5.own g2 λb e X=>Za g2 o1 (by decide) e X⟩
  ·rw[List.mem_singleton.1 hz]
   refine⟨?_,q5.own o2 λb e X=>Za o2 o1 (by decide) e X⟩
   show Own w1 3 1 r ((x.1.ps++[v]).map (Value.int .i64))
   rw[List.map_append]
   exact q1
 ·have ha:r.a=some a:=ha
  rw[q3]at ha
  cases ha
  rcases q4 with q4 |q4
  ·exact f1 _ q4
  ·show w0.heap.size<=b';omega
 ·have e:r.a=some a:=e
  rw[q3]at e
  cases e
  rcases q4 with q4 |q4
  ·exact(hap z hz x (by simp)).1 _ ha q4
  ·have:=((h.fns.row z (List.mem_append.2 (.inl hz))).1.lt ha).2
   have:b'<w.heap.size:=this
   omega
theorem DCt.pushB{L0:List Fe}(h:DCt w0 w s (L0++[x])){b c:Nat}{T:TypeId}{v:Int×Int×Int}(hB:Blk w b T (blV v))(hlen:x.1.bk.length<=1048576){K:World->Prop}
  (hK:∀w' r,DCt w0 w' s (L0++[(({x.1 with bk:=x.1.bk++[v]}:FnL),x.2.1,r)])->zms w w'->K w') :
  zo Tryz.prog 27 (.slice x.2.2.a x.2.2.l x.2.2.c) (.slice (some (Gk.blk b)) 1 c) w λr w1=>(0<=(L0.length:Int)/\(L0.length:Int)<(s.l:Int))/\zc s.a λa=>Wr w1 ((a.add (Int.toNat (L0.length:Int)*5)).add 3)/\Nw (w1.setCell ((a.add (Int.toNat (L0.length:Int)*5)).add 3) (.slice r.a r.l r.c)) K:=by
 have hx:x∈L0++[x]:=by simp
 obtain⟨o1,o2⟩:=h.fns.row x hx
 obtain⟨f1,f2⟩:=h.fr x hx
 have hap:=(List.pairwise_append.1 h.ap).2.2
 have hsl:x.2.2.l=x.1.bk.length:=by have:=o2.1;rw[zI yd]at this;omega
 have hb0:=h.b.size
 refine zj2 eBlk o2 (vs:=blV v) rfl (by simp[Value.oneCell']) hB (by omega) (by omega) λr w1 b' q1 q2 q3 q4 q5=>?_
 have hX:∀k,x.2.2.a=some (Gk.blk k)->w0.heap.size<=k:=λk e=>f2 _ e
 refine h.upd (y:=(({x.1 with bk:=x.1.bk++[v]}:FnL),x.2.1,r)) (q5.low h.b hX hb0) (q5.own h.fns.own λb e X=>Za h.fns.own o2 (by decide) e X) (λz hz=>?_) ⟨f1,λa ha=>?_⟩ (λz hz=>⟨(hap z hz x (by simp)).1,λa ha e=>?_⟩) (j:=3) (by omega) rfl λw2 hR hk=>hK w2 r hR λi cs hi=>hk i cs (hi.of_block (q5.block i hi.lt λX=>zd7 o2 hi (by decide) X))
 ·rcases List.mem_append.1 hz with hz |hz
  ·obtain⟨g1,g2⟩:=h.fns.row z (List.mem_append.2 (.inl hz))
   exact⟨q5.own g1 λb e X=>Za g1 o2 (by decide) e X,q5.own g2 λb e X=>(hap z hz x (by simp)).2 _ e X⟩
  ·rw[List.mem_singleton.1 hz]
   refine⟨q5.own o1 λb e X=>Za o1 o2 (by decide) e X,?_⟩
   show Own w1 69 3 r (flat blV (x.1.bk++[v]))
   rw[zaZ]
   exact q1
 ·have ha:r.a=some a:=ha
  rw[q3]at ha
  cases ha
  rcases q4 with q4 |q4
  ·exact f2 _ q4
  ·show w0.heap.size<=b';omega
 ·have e:r.a=some a:=e
  rw[q3]at e
  cases e
  rcases q4 with q4 |q4
  ·exact(hap z hz x (by simp)).2 _ ha q4
  ·have:=((h.fns.row z (List.mem_append.2 (.inl hz))).2.lt ha).2
   have:b'<w.heap.size:=this
   omega
theorem DCt.setEn{L0:List Fe}(h:DCt w0 w s (L0++[x])){v:Int}{K:World->Prop}(hK:∀w',DCt w0 w' s (L0++[(({x.1 with en:=v}:FnL),x.2.1,x.2.2)])->zms w w'->K w') :
  (0<=(L0.length:Int)/\(L0.length:Int)<(s.l:Int))/\zc s.a λa=>Wr w ((a.add (Int.toNat (L0.length:Int)*5)).add 4)/\Nw (w.setCell ((a.add (Int.toNat (L0.length:Int)*5)).add 4) (.int .i64 v)) K:=by
 have hx:x∈L0++[x]:=by simp
 have hap:=(List.pairwise_append.1 h.ap).2.2
 refine h.upd (y:=(({x.1 with en:=v}:FnL),x.2.1,x.2.2)) h.b h.fns.own (λz hz=>?_) (h.fr x hx) (λz hz=>hap z hz x (by simp)) (j:=4) (by omega) rfl hK
 rcases List.mem_append.1 hz with hz |hz
 ·exact h.fns.row z (List.mem_append.2 (.inl hz))
 ·rw[List.mem_singleton.1 hz]
  exact h.fns.row x hx
theorem DCt.setTo{L0:List Fe}(h:DCt w0 w s (L0++[x])){bs:List (Int×Int×Int)}{c:Int×Int×Int}(hb:x.1.bk=bs++[c]){v:Int} :
  ∃b,x.2.2.a=some (Gk.blk b)/\Wr w ((Gk.blk b).add (bs.length*3+2))/\DCt w0 (w.setCell ((Gk.blk b).add (bs.length*3+2)) (.int .i64 v)) s (L0++[(({x.1 with bk:=bs++[(c.1,c.2.1,v)]}:FnL),x.2.1,x.2.2)])/\zms w (w.setCell ((Gk.blk b).add (bs.length*3+2)) (.int .i64 v)):=by
 have hx:x∈L0++[x]:=by simp
 obtain⟨o1,o2⟩:=h.fns.row x hx
 obtain⟨f1,f2⟩:=h.fr x hx
 have hap:=(List.pairwise_append.1 h.ap).2.2
 rw[hb]at o2
 obtain⟨b,ha⟩:=o2.a_of (by simp)
 obtain⟨cs,hB⟩:=o2.type ha
 have hB:Blk w b 69 cs:=hB
 have hi:bs.length<(bs++[c]).length:=by simp
 obtain⟨h1,h2⟩:=o2.setC yd ha hi (j:=2) (by omega) (v:=.int .i64 v) (y:=(c.1,c.2.1,v)) (by rw[List.getElem_concat_length rfl];rfl)
 rw[List.set_append_right _ _ (Nat.le_refl _),Nat.sub_self]at h2
 have ch:Chg b w (w.setCell ((Gk.blk b).add (bs.length*3+2)) (.int .i64 v)):=Chg.set b _ w _
 have keepO:∀{T:TypeId} {sz:Nat} {q:Sl} {xs:List Value},Own w T sz q xs->T≠69->Own (w.setCell ((Gk.blk b).add (bs.length*3+2)) (.int .i64 v)) T sz q xs:=λg hT=>g.of_block λa hq=>ch.block _ λe=>(by obtain⟨_,q⟩:=g.type hq;exact Blk.apart q hB hT e)
 refine⟨b,ha,h1,⟨ch.below h.b (f2 _ ha),⟨?_,λz hz=>?_⟩,h.fs,λz hz=>?_,?_⟩,λi cs' hi'=>hi'.of_block (ch.block _ λe=>by subst e;exact Blk.apart hi' hB (by decide) rfl)⟩
 ·have:=keepO h.fns.own (by decide)
  rw[zaZ]at this⊢
  exact this
 ·rcases List.mem_append.1 hz with hz |hz
  ·obtain⟨g1,g2⟩:=h.fns.row z (List.mem_append.2 (.inl hz))
   refine⟨keepO g1 (by decide),g2.of_block λa ha'=>ch.block _ λe=>?_⟩
   obtain⟨e1,_⟩:=g2.lt ha'
   rw[e]at e1
   rw[e1]at ha'
   exact(hap z hz x (by simp)).2 _ ha' ha
  ·rw[List.mem_singleton.1 hz]
   exact⟨keepO o1 (by decide),h2⟩
 ·rcases List.mem_append.1 hz with hz |hz
  ·exact h.fr z (List.mem_append.2 (.inl hz))
  ·rw[List.mem_singleton.1 hz]
   exact⟨f1,f2⟩
 ·exact zbm (List.pairwise_append.1 h.ap).1 λz hz=>hap z hz x (by simp)
end
theorem zo4{α:Type}{f:α->α}{y:α}:∀{l:List α},y∈modL f l->y∈l\/∃x∈l,y=f x
 | [],h=>by cases h
 | [x],h=>.inr ⟨x,by simp,List.mem_singleton.1 h⟩
 |x::z::r,h=>by
  rcases List.mem_cons.1 h with h |h
  ·exact .inl (h▸List.mem_cons_self ..)
  ·rcases zo4 (l:=z::r) h with h | ⟨u,hu,e⟩
   ·exact .inl (List.mem_cons_of_mem _ h)
   ·exact .inr ⟨u,List.mem_cons_of_mem _ hu,e⟩
theorem zlI{α:Type}{f:α->α}:∀l:List α,(modL f l).length=l.length
 | []=>rfl
 | [_]=>rfl
 |x::z::r=>by
  have:=zlI (f:=f) (z::r)
  simp only[modL,List.length_cons]at this⊢
  omega
theorem zod(pl:List PI):∀n,(cutF pl n).length<=n/\∀f∈cutF pl n,f.ps.length<=n/\f.bk.length<=n
 | 0=>⟨Nat.le_refl _,λf h=>by cases h⟩
 |n+1=>by
  obtain⟨h1,h2⟩:=zod pl n
  have key:∀g:FnL->FnL,(∀f∈cutF pl n,(g f).ps.length<=n+1/\(g f).bk.length<=n+1)->(modL g (cutF pl n)).length<=n+1/\∀f∈modL g (cutF pl n),f.ps.length<=n+1/\f.bk.length<=n+1:=λg hg=>by
   refine⟨by rw[zlI];omega,λf hf=>?_⟩
   rcases zo4 hf with hf | ⟨x,hx,rfl⟩
   ·have:=h2 f hf;omega
   ·exact hg x hx
  show(cutS (cutF pl n) n (ix pl n)).length<=n+1/\∀f∈cutS (cutF pl n) n (ix pl n),_
  unfold cutS
  split
  ·refine⟨by simp;omega,λf hf=>?_⟩
   rcases List.mem_append.1 hf with hf |hf
   ·have:=h2 f hf;omega
   ·rw[List.mem_singleton.1 hf];simp
  split
  ·exact key _ λf hf=>by have:=h2 f hf;simp;omega
  split
  ·exact key _ λf hf=>by have:=h2 f hf;simp;omega
  split
  ·exact key _ λf hf=>by have:=h2 f hf;simp;omega
  split
  ·exact key _ λf hf=>by have:=h2 f hf;simp only[zlI];omega
  ·exact⟨by omega,λf hf=>by have:=h2 f hf;omega⟩
end Go.Proofs
namespace Go.Proofs
open Go.Gk Go.RowKit Go.Gm
theorem DCt.split{w0 w:World}{s:Sl}{L:List Fe}{l:List FnL}{f:FnL}(h:DCt w0 w s L)(hs:s.l<=1048577)(hm:L.map (·.1)=l++[f]) :
  ∃L0 x,L=L0++[x]/\x.1=f/\L0.map (·.1)=l/\IntKind.i64.wrap ((s.l:Int)-1)=(L0.length:Int):=by
 obtain⟨L0,L1,rfl,h1,h2⟩:=List.map_eq_append_iff.1 hm
 obtain⟨x,rfl,h3⟩:=List.map_eq_singleton_iff.1 h2
 refine⟨L0,x,rfl,h3,h1,?_⟩
 have:=h.len
 rw[zt (by omega) (by omega)]
 omega
section
variable {x:Mo} {pl:List PI} {w:World} {R:VWP}
def CS5(w6:World)(b:Nat)(s:Sl)(p:PI)(t:Sl)(pl:List PI)(k:Nat)(P:Prop)(s1:Sl)(w':World):Prop:=
 ∃L,DCt w6 w' s1 L/\Blk w' b 41 (inV (mkIn p t))/\((P/\L.map (·.1)=cutF pl (k+1))\/(¬P/\s1=s/\L.map (·.1)=cutF pl k))
set_option maxHeartbeats 1000000 in
theorem zmR(hN:IsPl w x.2.2.1 pl)(hp:PlOk pl)
  (hok:∀fs L w',(layP x.2.1 pl).1=0->Below w.heap.size w w'->Fns w' fs L->L.map (·.1)=cutF pl pl.length->R (.tuple #[.slice fs.a fs.l fs.c,.agg #[.int .i64 0,.int .i64 0]]) w')
  (hbad:∀w',(layP x.2.1 pl).1≠0->Below w.heap.size w w'->R (.tuple #[.slice none 0 0,.agg #[.int .i64 (layP x.2.1 pl).1,.int .i64 ((layP x.2.1 pl).2:Int)]]) w') :
  cR 8 #[moA x] w R:=by
 refine zb.of (zfd x R w ?_) λ_ _ h=>h
 refine zq λw1 hB1 b1 z1=>?_
 have hB1:Blk w1 w.heap.size 25 (moV x):=hB1
 refine zq λw2 hS2 b2 z2=>?_
 have hS2:Blk w2 w1.heap.size 33 [.int .i64 0,.int .i64 0]:=hS2
 have hb2:=b1.on b2
 refine Mo.load (hB1.below b2) ?_
 refine zj3 (x:=x) (hN.below hb2) hp λw3 b3=>⟨((layP x.2.1 pl).1,((layP x.2.1 pl).2:Int),()),rfl,?_⟩
 refine box2 rfl λw6 h6 b6 z6=>?_
 have b26:=b3.on b6
 have hb6:=hb2.on b26
 have hB6:=(hB1.below b2).below b26
 have hS6:=hS2.below b26
 have s1:=b1.size
 refine h6.rI0 rfl (zr (λe=>?_) (λe=>?_))
 ·have e':(layP x.2.1 pl).1≠0:=e
  exact Sp.load h6.drew (st2 hS6.drew rfl λw8 hS8 c8=>Sp.load hS8 (hbad w8 e' (c8.below hb6.drew (by omega))))
 have e':(layP x.2.1 pl).1=0:=e
 obtain⟨hsh,hg,_⟩:=zow e'
 have hlen:=zp7 hsh
 have hl:=hN.len
 have e2:(layP x.2.1 pl).2=0:=by
  have:layP x.2.1 pl=(0,0):=by
   have h:=e'
   unfold layP at h⊢
   rw[if_neg (λq=>q hsh)]at h⊢
   unfold chkP at h⊢
   cases hf:(List.range pl.length).find? (λk=>!mayP pl k) with
   |some k=>rw[hf]at h;cases h
   |none=>
    rw[hf]at h
    cases ho:zaU pl
    ·simp
    ·rw[ho]at h;cases h
  rw[this]
 refine zl.countSl pl.length (by omega) (λk s w'=>∃L,DCt w6 w' s L/\L.map (·.1)=cutF pl k) ⟨[],⟨Below.refl _ _,Fns.nil _,λa ha=>(by cases ha),λx hx=>(by cases hx),List.Pairwise.nil⟩,rfl⟩ ?_
 rintro k s w9 hk ⟨L,hC,hLm⟩ next hnext
 have b9:=hC.b
 have hb9:=hb6.on b9
 have hB9:=hB6.below b9
 obtain⟨hcl,hcs⟩:=zod pl k
 have hLl:L.length=(cutF pl k).length:=by rw[<-hLm,List.length_map]
 have hsl:=hC.fns.len
 refine hB9.rS (n:=2) (x:=x.2.2.1) rfl (zi (λh=>?_) (λh=>?_))
 ·have hlt:k<pl.length:=by dsimp only at h;omega
  have eix:ix pl k=pl[k]:=yR hlt
  refine zk.cut (λ(st:Sl×Unit) w'=>∃L',DCt w6 w' st.1 L'/\L'.map (·.1)=cutF pl (k+1)) ?_ ?_
  rotate_left
  ·rintro⟨s',_⟩ w30 ⟨L',hC',hL'⟩
   exact hnext s' w30 hlt ⟨L',hC',hL'⟩
  refine hB9.rS (n:=2) (x:=x.2.2.1) rfl (yA (hN.below hb9) hlt λt _=>?_)
  refine box4 rfl λw14 hX14 b14 z14=>?_
  have hX14:Blk w14 w9.heap.size 41 (inV (mkIn pl[k] t)):=hX14
  have hC14:=hC.below b14
  have upd:∀{l:List FnL} {f:FnL} (g:FnL->FnL) {L0:List Fe} {y:Fe},cutF pl k=l++[f]->L0.map (·.1)=l->y.1=g f->cutS (cutF pl k) k (ix pl k)=modL g (cutF pl k)->(L0++[y]).map (·.1)=cutF pl (k+1):=λ{l f} g {L0 y} h1 h2 h3 h4=>by
   show _=cutS (cutF pl k) k (ix pl k)
   rw[h4,h1,yw,List.map_append,h2,List.map_cons,List.map_nil,h3]
  refine zk.cut (λ(st:Sl×Unit) w'=>CS5 w6 w9.heap.size s pl[k] t pl k (pl[k].1=54) st.1 w') ?_ ?_
  ·refine hX14.rI0 (x:=pl[k].1) rfl (zj (λe=>?_) (λe=>?_))
   ·refine hX14.rI (n:=2) (x:=pl[k].2.2.1) rfl (hC14.newF (by omega) λr w16 hC16 hk16=>⟨_,hC16,hk16 _ _ hX14,.inl ⟨e,?_⟩⟩)
    show _=cutS (cutF pl k) k (ix pl k)
    unfold cutS
    rw[if_pos (by rw[eix];exact e),List.map_append,hLm,eix]
    rfl
   ·exact⟨L,hC14,hX14,.inr ⟨e,rfl,hLm⟩⟩
  rintro⟨s1',_⟩ w17 hc17
  refine zk.cut (λ(_:Unit) w'=>CS5 w6 w9.heap.size s pl[k] t pl k (pl[k].1=54\/pl[k].1=55) s1' w') ?_ ?_
  ·obtain⟨L2,hC17,hX17,hd17⟩:=hc17
   dsimp only
   refine hX17.rI0 (x:=pl[k].1) rfl (zj (λe=>?_) (λe=>?_))
   ·rcases hd17 with⟨q,_⟩ | ⟨q,rfl,hm⟩
    ·omega
    obtain⟨l,f,hcf,_⟩:=zjb hg hlt (.inl (by rw[eix];exact e))
    obtain⟨L0,y,rfl,hy,hL0,en⟩:=hC17.split (by omega) (hm.trans hcf)
    rw[en]
    obtain⟨b,_,hb,_,_⟩:=hC17.base
    have hyl:=(hcs f (by rw[hcf];simp)).1
    refine⟨hC17.inLast,zf hb ⟨y.2.1,hC17.cell hb (by omega) rfl,?_⟩⟩
    refine zq λw18 hV18 b18 z18=>?_
    refine(hC17.below b18).pushP (v:=(k:Int)) hV18 (by rw[hy];omega) λw20 r hC20 hk20=>⟨_,hC20,hk20 _ _ (hX17.below b18),.inl ⟨.inr e,?_⟩⟩
    refine upd (λf=>{f with ps:=f.ps++[(k:Int)]}) hcf hL0 (by rw[<-hy]) ?_
    unfold cutS
    rw[eix,if_neg (by omega),if_pos e]
   ·refine⟨L2,hC17,hX17,?_⟩
    rcases hd17 with⟨q,hm⟩ | ⟨q,hs,hm⟩
    ·exact .inl ⟨.inl q,hm⟩
    ·exact .inr ⟨by omega,hs,hm⟩
  rintro _ w21 hc21
  refine zk.cut (λ(_:Unit) w'=>CS5 w6 w9.heap.size s pl[k] t pl k (pl[k].1=54\/pl[k].1=55\/pl[k].1=56) s1' w') ?_ ?_
  ·obtain⟨L2,hC17,hX17,hd17⟩:=hc21
   dsimp only
   refine hX17.rI0 (x:=pl[k].1) rfl (zj (λe=>?_) (λe=>?_))
   ·rcases hd17 with⟨q,_⟩ | ⟨q,rfl,hm⟩
    ·omega
    obtain⟨l,f,hcf,_⟩:=zjb hg hlt (.inr (.inl (by rw[eix];exact e)))
    obtain⟨L0,y,rfl,hy,hL0,en⟩:=hC17.split (by omega) (hm.trans hcf)
    rw[en]
    refine hC17.setEn λw22 hC22 hk22=>⟨_,hC22,hk22 _ _ hX17,.inl ⟨.inr (.inr e),?_⟩⟩
    refine upd (λf=>{f with en:=(k:Int)}) hcf hL0 (by rw[<-hy]) ?_
    unfold cutS
    rw[eix,if_neg (by omega),if_neg (by omega),if_pos e]
   ·refine⟨L2,hC17,hX17,?_⟩
    rcases hd17 with⟨q,hm⟩ | ⟨q,hs,hm⟩
    ·exact .inl ⟨by omega,hm⟩
    ·exact .inr ⟨by omega,hs,hm⟩
  rintro _ w23 hc23
  refine zk.cut (λ(_:Unit) w'=>CS5 w6 w9.heap.size s pl[k] t pl k (pl[k].1=54\/pl[k].1=55\/pl[k].1=56\/pl[k].1=248) s1' w') ?_ ?_
  ·obtain⟨L2,hC17,hX17,hd17⟩:=hc23
   dsimp only
   refine hX17.rI0 (x:=pl[k].1) rfl (zj (λe=>?_) (λe=>?_))
   ·rcases hd17 with⟨q,_⟩ | ⟨q,rfl,hm⟩
    ·omega
    obtain⟨l,f,hcf,_⟩:=zjb hg hlt (.inr (.inr (.inl (by rw[eix];exact e))))
    obtain⟨L0,y,rfl,hy,hL0,en⟩:=hC17.split (by omega) (hm.trans hcf)
    rw[en]
    have bd:Below w23.heap.size w23 w23.drew:=(Below.refl _ _).drew
    have hC23:=hC17.below bd
    have hX23:=hX17.below bd
    obtain⟨b,_,hb,_,_⟩:=hC23.base
    have hyl:=(hcs f (by rw[hcf];simp)).2
    refine⟨hC17.inLast,zf hb ⟨y.2.2,hC23.cell hb (by omega) rfl,?_⟩⟩
    refine hX23.rI (n:=2) (x:=pl[k].2.2.1) rfl ?_
    refine zq λw24 hV24 b24 z24=>?_
    have hC24:=hC23.below b24
    refine⟨hC24.cell hb (by omega) rfl,?_⟩
    refine hC24.pushB (v:=(pl[k].2.2.1,(k:Int),0)) hV24 (by rw[hy];omega) λw26 r hC26 hk26=>⟨_,hC26,hk26 _ _ (hX23.below b24),.inl ⟨by omega,?_⟩⟩
    refine upd (λf=>{f with bk:=f.bk++[(pl[k].2.2.1,(k:Int),0)]}) hcf hL0 (by rw[<-hy]) ?_
    unfold cutS
    rw[eix,if_neg (by omega),if_neg (by omega),if_neg (by omega),if_pos e]
   ·refine⟨L2,hC17,hX17,?_⟩
    rcases hd17 with⟨q,hm⟩ | ⟨q,hs,hm⟩
    ·exact .inl ⟨by omega,hm⟩
    ·exact .inr ⟨by omega,hs,hm⟩
  rintro _ w27 ⟨L2,hC27,hX27,hd27⟩
  dsimp only
  refine hX27.rI0 (x:=pl[k].1) rfl ?_
  refine zfU (op:=pl[k].1) ⟨_,rfl,zm (λee=>?_) (λee=>?_)⟩
  ·have hr:=yj ee
   rcases hd27 with⟨q,_⟩ | ⟨q,rfl,hm⟩
   ·omega
   obtain⟨l,f,hcf,hne⟩:=zjb hg hlt (.inr (.inr (.inr (by rw[eix];exact ee))))
   have hne:=hne (by rw[eix];exact ee)
   obtain⟨L0,y,rfl,hy,hL0,en⟩:=hC27.split (by omega) (hm.trans hcf)
   rw[en]
   have bd:Below w27.heap.size w27 w27.drew:=(Below.refl _ _).drew
   have hC28:=hC27.below bd
   obtain⟨b,_,hb,_,_⟩:=hC28.base
   have hyl:=(hcs f (by rw[hcf];simp)).2
   obtain⟨bs,c,hbc⟩:∃bs c,y.1.bk=bs++[c]:=by
    rw[hy]
    exact⟨f.bk.dropLast,f.bk.getLast hne,(List.dropLast_concat_getLast hne).symm⟩
   obtain⟨vb,hvb,hwr,hRC,_⟩:=hC28.setTo hbc (v:=((k+1:Nat):Int))
   have hbl:y.2.2.l=bs.length+1:=by
    have:=(hC28.fns.row y (by simp)).2.1
    rw[zI yd,hbc]at this
    simp at this
    omega
   have hbk:bs.length+1<=k:=by
    have:y.1.bk.length=bs.length+1:=by rw[hbc];simp
    rw[hy]at this
    omega
   refine⟨hC28.inLast,zf hb ⟨y.2.2,hC28.cell hb (by omega) rfl,hC28.inLast,zf hb ⟨y.2.2,hC28.cell hb (by omega) rfl,?_⟩⟩⟩
   have ew:IntKind.i64.wrap ((y.2.2.l:Int)-1)=(bs.length:Int):=by rw[zt (by omega) (by omega)];omega
   dsimp only
   rw[ew]
   refine⟨⟨by omega,by omega⟩,zf hvb ?_⟩
   rw[zv,show Int.toNat (bs.length:Int)=bs.length from rfl,zE (by omega)]
   refine⟨hwr,_,hRC,?_⟩
   refine upd (λf=>{f with bk:=modL (λb=>(b.1,b.2.1,(k:Int)+1)) f.bk}) hcf hL0 ?_ ?_
   ·rw[<-hy,hbc,yw]
    show({y.1 with bk:=bs++[(c.1,c.2.1,((k+1:Nat):Int))]}:FnL)={y.1 with bk:=bs++[(c.1,c.2.1,(k:Int)+1)]}
    rw[show((k+1:Nat):Int)=(k:Int)+1 by omega]
   ·unfold cutS
    rw[eix,if_neg (by omega),if_neg (by omega),if_neg (by omega),if_neg (by omega),if_pos ee]
  ·rcases hd27 with⟨q,hm⟩ | ⟨q,rfl,hm⟩
   ·exact⟨L2,hC27,hm⟩
   ·refine⟨L2,hC27,?_⟩
    show _=cutS (cutF pl k) k (ix pl k)
    unfold cutS
    rw[eix,if_neg (by omega),if_neg (by omega),if_neg (by omega),if_neg (by omega),if_neg (by rw[ee];decide)]
    exact hm
 ·have hk':k=pl.length:=by dsimp only at h;omega
  subst hk'
  have hS9:=hS6.below b9
  have h69:=h6.below b9
  have:=Sp.load (φ:=λx54 x55=>Wr w9.drew (blk w1.heap.size)/\Nw (w9.drew.setCell (blk w1.heap.size) (.int .i64 x54)) λw31=>Wr w31 ((blk w1.heap.size).add 1)/\Nw (w31.setCell ((blk w1.heap.size).add 1) (.int .i64 x55)) λw32=>ldI w32 ((blk w1.heap.size).add 0) .i64 λx56=>ldI w32 ((blk w1.heap.size).add 1) .i64 λx57=>R (.tuple #[(.slice s.a s.l s.c),(.agg #[(.int .i64 x56),(.int .i64 x57)])]) w32) h69.drew (st2 hS9.drew rfl λw31 hS31 c31=>Sp.load hS31 (by
   have hF:=hC.fns.below ((Below.refl w9.heap.size w9).drew)
   have:=hok s L w31 e' (c31.below (hb9.drew) (by omega)) (hF.chg c31 hS9.drew (by decide) (by decide) (by decide)) hLm
   rw[e',e2]
   exact this))
  exact this
end
section
variable {w:World} {v u:Fv} {f g:FnL} {R:VWP}
theorem zpS(hf:IsFn w v f)(hg:IsFn w u g)(hR:∀w',Below w.heap.size w w'->R (.bool (decide (f=g))) w'):cR 128 #[fvA v,fvA u] w R:=by
 refine zb.of (zcf v u R w ?_) λ_ _ h=>h
 refine zq λw1 hA1 b1 z1=>?_
 have hA1:Blk w1 w.heap.size 29 (fvV v):=hA1
 refine zq λw2 hB2 b2 z2=>?_
 have hB2:Blk w2 w1.heap.size 29 (fvV u):=hB2
 have hA2:=hA1.below b2
 have hb2:=b1.on b2
 have no:f≠g->∀{w'},Below w.heap.size w w'->R (.bool false) w':=λh {w'} hb=>by
  have:=hR w' hb
  rwa[decide_eq_false h]at this
 have p1:=hf.ps.len
 have p2:=hg.ps.len
 have p3:=hf.bk.len
 have p4:=hg.bk.len
 refine zk.cut (λ(_:Unit) w'=>w'=w2/\f.id=g.id/\f.at_=g.at_/\f.en=g.en/\f.ps.length=g.ps.length/\f.bk.length=g.bk.length) ?_ ?_
 ·refine hA2.rI0 (x:=v.1) rfl (hB2.rI0 (x:=u.1) rfl (zr (λe=>no (λh=>e (by rw[hf.id,hg.id,h])) hb2) (λe1=>?_)))
  refine hA2.rI (n:=1) (x:=v.2.1) rfl (hB2.rI (n:=1) (x:=u.2.1) rfl (zr (λe=>no (λh=>e (by rw[hf.at_,hg.at_,h])) hb2) (λe2=>?_)))
  refine hA2.rI (n:=4) (x:=v.2.2.2.2.1) rfl (hB2.rI (n:=4) (x:=u.2.2.2.2.1) rfl (zr (λe=>no (λh=>e (by rw[hf.en,hg.en,h])) hb2) (λe3=>?_)))
  refine hA2.rS (n:=2) (x:=v.2.2.1) rfl (hB2.rS (n:=2) (x:=u.2.2.1) rfl (zr (λe=>no (λh=>e (by rw[p1,p2,h])) hb2) (λe4=>?_)))
  refine hA2.rS (n:=3) (x:=v.2.2.2.1) rfl (hB2.rS (n:=3) (x:=u.2.2.2.1) rfl (zr (λe=>no (λh=>e (by rw[p3,p4,h])) hb2) (λe5=>?_)))
  exact⟨rfl,hf.id.symm.trans (e1.trans hg.id),hf.at_.symm.trans (e2.trans hg.at_),hf.en.symm.trans (e3.trans hg.en),by omega,by omega⟩
 rintro _ w3 ⟨rfl,e1,e2,e3,e4,e5⟩
 refine zl.count f.ps.length (hf.ps.bound) (λk w'=>Below w.heap.size w w'/\Below w3.heap.size w3 w'/\∀j (q1:j<f.ps.length) (q2:j<g.ps.length),j<k->f.ps[j]=g.ps[j]) ⟨hb2,Below.refl _ _,λj _ _ h=>by omega⟩ ?_
 rintro k w4 hk ⟨hb4,b4,hj⟩ next hnext
 have hA4:=hA2.below b4
 have hB4:=hB2.below b4
 refine hA4.rS (n:=2) (x:=v.2.2.1) rfl (zi (λh=>?_) (λh=>?_))
 ·have hlt:k<f.ps.length:=by dsimp only at h;omega
  have hlm:k<g.ps.length:=by omega
  refine hA4.drew.rS (n:=2) (x:=v.2.2.1) rfl (yv (hf.ps.below hb4).drew hlt ?_)
  refine hB4.drew.rS (n:=2) (x:=u.2.2.1) rfl (yv (hg.ps.below hb4).drew hlm ?_)
  refine zr (λe=>no (λh=>e (by subst h;rfl)) hb4.drew) (λe=>hnext _ hlt ⟨hb4.drew,b4.drew,λj q1 q2 q3=>?_⟩)
  by_cases ej:j=k
  ·subst ej;exact e
  ·exact hj j q1 q2 (by omega)
 have hk':k=f.ps.length:=by dsimp only at h;omega
 have eps:f.ps=g.ps:=List.ext_getElem e4 λj q1 q2=>hj j q1 q2 (by omega)
 clear hnext
 refine zl.count f.bk.length (hf.bk.bound) (λk w'=>Below w.heap.size w w'/\Below w3.heap.size w3 w'/\∀j (q1:j<f.bk.length) (q2:j<g.bk.length),j<k->f.bk[j]=g.bk[j]) ⟨hb4,b4,λj _ _ h=>by omega⟩ ?_
 rintro i w5 hi ⟨hb5,b5,hj5⟩ next hnext
 have hA5:=hA2.below b5
 have hB5:=hB2.below b5
 refine hA5.rS (n:=3) (x:=v.2.2.2.1) rfl (zi (λh=>?_) (λh=>?_))
 ·have hlt:i<f.bk.length:=by dsimp only at h;omega
  have hlm:i<g.bk.length:=by omega
  refine hA5.drew.rS (n:=3) (x:=v.2.2.2.1) rfl (zjQ (IsC.below yd hf.bk hb5.drew) hlt ?_)
  refine hB5.drew.rS (n:=3) (x:=u.2.2.2.1) rfl (zjQ (IsC.below yd hg.bk hb5.drew) hlm ?_)
  refine zy (zm (λe=>hnext _ hlt ⟨hb5.drew,b5.drew,λj q1 q2 hjk=>?_⟩) (λe=>no (λg=>?_) hb5.drew))
  ·by_cases ej:j=i
   ·subst ej
    simp only[Bool.and_true,Bool.and_eq_true,beq_iff_eq]at e
    exact Prod.ext e.1 (Prod.ext e.2.1 e.2.2)
   ·exact hj5 j q1 q2 (by omega)
  ·subst g
   simp at e
 ·have hi':i=f.bk.length:=by dsimp only at h;omega
  have ebk:f.bk=g.bk:=List.ext_getElem e5 λj q1 q2=>hj5 j q1 q2 (by omega)
  have:=hR w5 hb5
  rwa[decide_eq_true (show f=g by cases f;cases g;simp_all)]at this
theorem zes{n:Int}(hf:IsFn w v f)(hd:(f.bk.map (·.1)).Nodup)(hR:∀w',Below w.heap.size w w'->R (.int .i64 (lblI f.bk n)) w'):cR 83 #[fvA v,.int .u32 n] w R:=by
 refine zb.of (zdQ v n R w ?_) λ_ _ h=>h
 refine zq λw1 hA1 b1 z1=>?_
 have hA1:Blk w1 w.heap.size 29 (fvV v):=hA1
 have hbl:=hf.bk.len
 have hbb:=hf.bk.bound
 refine zl.ghost (λj (st:Int×Unit) w'=>w'=w1/\∃k:Nat,st=((k:Int),())/\j=f.bk.length+1-k/\1<=k/\(k=1\/k<=f.bk.length)/\∀i (h:i<f.bk.length),1<=i->i<k->f.bk[i].1≠n) f.bk.length ⟨rfl,1,rfl,by omega,Nat.le_refl _,.inl rfl,λi _ h1 h2=>by omega⟩ ?_
 rintro _ _ w2 ⟨rfl,k,rfl,rfl,h1,h2,hj⟩ next hnext
 dsimp only
 refine hA1.rS (n:=3) (x:=v.2.2.2.1) rfl (zi (λh=>?_) (λh=>?_))
 ·have hlt:k<f.bk.length:=by omega
  refine hA1.rS (n:=3) (x:=v.2.2.2.1) rfl ?_
  obtain⟨a,ha⟩:=(IsC.below yd hf.bk b1).base hlt
  have hc:=(IsC.below yd hf.bk b1).cell a ha k hlt 0 (by omega)
  refine⟨⟨by omega,by omega⟩,zf ha ⟨f.bk[k].1,?_,zj (λe=>?_) (λe=>?_)⟩⟩
  ·exact hc
  ·have:=hR w2 b1
   unfold lblI lblM at this
   rw[<-e,zoz hd h1 hlt (f.bk.length-1) (by omega) (by omega)]at this
   exact this
  ·rw[zE (by omega)]
   refine hnext (f.bk.length+1-(k+1)) _ w2 (by omega) ⟨rfl,k+1,rfl,rfl,by omega,.inr (by omega),λi q1 q2 q3=>?_⟩
   by_cases ei:i=k
   ·subst ei;exact e
   ·exact hj i q1 q2 (by omega)
 ·have:=hR w2 b1
  unfold lblI lblM at this
  by_cases h0:f.bk.length=0
  ·rw[h0]at this
   exact this
  ·rw[zoy (f.bk.length-1) (by omega) λi q1 q2 q3=>hj i q1 q2 (by omega)]at this
   exact this
end
section
variable {x:Mo} {pl:List PI} {w:World} {R:VWP} {v:Fv} {f:FnL}
theorem zoO(hN:IsPl w x.2.2.1 pl)(hp:PlOk pl)(hl:(layP x.2.1 pl).1=0)(hf:IsFn w v f)(hR:∀w',Below w.heap.size w w'->R (.bool (decide (f∈cutF pl pl.length))) w'):cR 80 #[moA x,fvA v] w R:=by
 refine zb.of (zdR x v R w ?_) λ_ _ h=>h
 refine zq λw1 hB1 b1 z1=>?_
 have hB1:Blk w1 w.heap.size 25 (moV x):=hB1
 refine zq λw2 hV2 b2 z2=>?_
 have hV2:Blk w2 w1.heap.size 29 (fvV v):=hV2
 have hb2:=b1.on b2
 refine Mo.load (hB1.below b2) ?_
 refine zmR (x:=x) (hN.below hb2) hp (λfs L w3 _ b3 hL hLm=>⟨fs,(0,0,()),rfl,?_⟩) (λw3 hne _=>absurd hl hne)
 refine box2 rfl λw6 h6 b6 z6=>?_
 have b26:=b3.on b6
 have hb6:=hb2.on b26
 have hL6:=hL.below b6
 have hV6:=hV2.below b26
 have hll:=hL.len
 have hc5:IsC 5 feV w6 fs L:=Own.isC zbl (by omega) hL6.own
 have hbd:=hc5.bound
 refine zl.count L.length hbd (λk w'=>Below w6.heap.size w6 w'/\∀j (h:j<L.length),j<k->L[j].1≠f) ⟨Below.refl _ _,λj _ h=>by omega⟩ ?_
 rintro k w7 hk ⟨b7,hj⟩ next hnext
 refine zi (λh=>?_) (λh=>?_)
 ·have hlt:k<L.length:=by dsimp only at h;omega
  have b7d:=b7.drew
  have hL7:=hL6.below b7d
  refine zpy hL7 hlt (Fv.load (hV6.below b7d) ?_)
  refine zpS (v:=(L[k].1.id,L[k].1.at_,L[k].2.1,L[k].2.2,L[k].1.en,())) (u:=v) (f:=L[k].1) (g:=f) (hL7.isFn (List.getElem_mem hlt)) (hf.below (hb6.on b7d)) λw8 b8=>⟨_,rfl,zi (λe=>?_) (λe=>hnext w8 hlt ⟨b7d.on b8,λj q1 q2=>?_⟩)⟩
  ·have:=hR w8 (hb6.on (b7d.on b8))
   have hin:f∈cutF pl pl.length:=by rw[<-hLm];exact List.mem_map.2 ⟨L[k],List.getElem_mem hlt,e⟩
   rwa[decide_eq_true hin]at this
  ·by_cases ej:j=k
   ·subst ej;exact e
   ·exact hj j q1 (by omega)
 ·have:=hR w7 (hb6.on b7)
  have hno:f ∉ cutF pl pl.length:=λhm=>by
   rw[<-hLm]at hm
   obtain⟨y,hy,e⟩:=List.mem_map.1 hm
   obtain⟨j,hj',rfl⟩:=List.getElem_of_mem hy
   exact hj j hj' (by dsimp only at h;omega) e
  rwa[decide_eq_false hno]at this
end
end Go.Proofs
namespace Go.Proofs
open Go.Gk Go.RowKit Go.Gr
end Go.Proofs
namespace Go.Proofs
open Go.Gk Go.RowKit Go.Gm
theorem zkf{M:List (Int×Int)}{n:Int}(h:0<=(zC M n).getD (-1)):(zC M n).isSome=true/\(zC M n).getD (-1)=(zC M n).getD 0:=by
 cases e:zC M n with
 |none=>rw[e]at h;exact absurd h (by decide)
 |some v=>exact⟨rfl,rfl⟩
theorem zke{bk:List (Int×Int×Int)}{n:Int}(h:¬0<=lblI bk n):zC (lblM bk) n=none:=by
 unfold lblI at h
 cases e:zC (lblM bk) n with
 |none=>rfl
 |some v=>
  rw[e]at h
  have:=zgS bk _ n v e
  exact absurd (show 0<=v by omega) h
theorem zox{bk:List (Int×Int×Int)}{n v:Int}(h:zC (lblM bk) n=some v):lblI bk n=v/\1<=v:=by
 have:=zgS bk _ n v h
 exact⟨by unfold lblI;rw[h];rfl,this.1⟩
section
variable {x:Mo} {pl:List PI} {w:World} {R:VWP} {v:Fv} {f:FnL}
set_option maxHeartbeats 1000000 in
theorem zoQ{b:Int×Int×Int}(hN:IsPl w x.2.2.1 pl)(hsh:(zH x.2.1 pl).1=0)(hf:IsFn w v f)(hFn:FnOk pl pl.length f)(hd:(f.bk.map (·.1)).Nodup)(hb:b∈f.bk)
  (hR:∀(m:Mg) (o:Bool) w',Below w.heap.size w w'->(o=true->blkM pl f.bk b=some m)->(o=false->blkM pl f.bk b=none)->R (.tuple #[.agg #[.int .u8 m.1,.int .i64 m.2.1,.int .i64 m.2.2],.bool o]) w') :
  cR 81 #[moA x,fvA v,.agg #[.int .u32 b.1,.int .i64 b.2.1,.int .i64 b.2.2]] w R:=by
 refine zb.of (zdP x v (b.1,b.2.1,b.2.2,()) R w ?_) λ_ _ h=>h
 obtain⟨fr,to_,hbq,hft,htl,h248,h8f,hend,h8t⟩:=(hFn.ok b hb).ex
 have hl:=hN.len
 have hlen:=zp7 hsh
 have h1l:to_-1<pl.length:=by omega
 have h2l:to_-2<pl.length:=by omega
 have ei1:ix pl (to_-1)=pl[to_-1]:=yR h1l
 have ei2:ix pl (to_-2)=pl[to_-2]:=yR h2l
 have hto:b.2.2=(to_:Int):=by rw[hbq]
 have hfrom:b.2.1=(fr:Int):=by rw[hbq]
 have hbM:blkM pl f.bk b=mrgP (lblM f.bk) pl[to_-2].1 pl[to_-2].2.2.2 pl[to_-1].1:=by
  unfold blkM
  rw[hto,Int.toNat_natCast,ei1,ei2]
 have hM:=zlG ((zfy hsh).2 (to_-2) h2l)
 refine zq λw1 hB1 b1 z1=>?_
 have hB1:Blk w1 w.heap.size 25 (moV x):=hB1
 refine zq λw2 hV2 b2 z2=>?_
 have hV2:Blk w2 w1.heap.size 29 (fvV v):=hV2
 refine zq λw3 hK3 b3 z3=>?_
 have hK3:Blk w3 w2.heap.size 69 (blV b):=hK3
 refine zq λw4 hO4 b4 z4=>?_
 have hO4:Blk w4 w3.heap.size 121 [.int .u8 0,.int .i64 0,.int .i64 0]:=hO4
 refine box3 rfl λw8 hX8 b8 z8=>?_
 have hX8:Blk w8 w4.heap.size 121 (mgV (0,-1,-1)):=hX8
 have b28:=b3.on (b4.on b8)
 have b18:=b2.on b28
 have hb8:=b1.on b18
 have hB8:=hB1.below b18
 have hV8:=hV2.below b28
 have hK8:=hK3.below (b4.on b8)
 have hO8:=hO4.below b8
 have sz1:=b1.size
 have sz2:=b2.size
 have sz3:=b3.size
 have sz4:=b4.size
 have out:∀{w':World} (ba:Nat) (y:Mg) (o:Bool),Blk w' ba 121 (mgV y)->Blk w' w3.heap.size 121 [.int .u8 0,.int .i64 0,.int .i64 0]->Below w.heap.size w w'->(o=true->blkM pl f.bk b=some y)->(o=false->blkM pl f.bk b=none)->
   ldI w' ((blk ba).add 0) .u8 λx3=>ldI w' ((blk ba).add 1) .i64 λx4=>ldI w' ((blk ba).add 2) .i64 λx5=>
   Wr w' (blk w3.heap.size)/\Nw (w'.setCell (blk w3.heap.size) (.int .u8 x3)) λw9=>Wr w9 ((blk w3.heap.size).add 1)/\Nw (w9.setCell ((blk w3.heap.size).add 1) (.int .i64 x4)) λw10=>Wr w10 ((blk w3.heap.size).add 2)/\Nw (w10.setCell ((blk w3.heap.size).add 2) (.int .i64 x5)) λw11=>
    ldI w11 ((blk w3.heap.size).add 0) .u8 λx6=>ldI w11 ((blk w3.heap.size).add 1) .i64 λx7=>ldI w11 ((blk w3.heap.size).add 2) .i64 λx8=>R (.tuple #[(.agg #[(.int .u8 x6),(.int .i64 x7),(.int .i64 x8)]),(.bool o)]) w11:=λ{w'} ba y o hY hO hb' h1 h2=>
  hY.rI (n:=0) (x:=y.1) rfl (hY.rI (n:=1) (x:=y.2.1) rfl (hY.rI (n:=2) (x:=y.2.2) rfl (st3 hO rfl λw11 hO11 c11=>hO11.rI (n:=0) (x:=y.1) rfl (hO11.rI (n:=1) (x:=y.2.1) rfl (hO11.rI (n:=2) (x:=y.2.2) rfl (hR y o w11 (c11.below hb' (by omega)) h1 h2))))))
 refine hK8.rI (n:=2) (x:=b.2.2) rfl (hK8.rI (n:=1) (x:=b.2.1) rfl ?_)
 rw[hto,hfrom]
 have ew:IntKind.i64.wrap ((to_:Int)-(fr:Int))=(to_:Int)-fr:=zt (by omega) (by omega)
 rw[ew]
 refine zi (λhsm=>?_) (λhgt=>?_)
 ·have e2:to_-2=fr:=by omega
  have:blkM pl f.bk b=some (0,-1,-1):=by
   rw[hbM]
   have:pl[to_-2].1=248:=by rw[<-ei2,e2];exact h248
   unfold mrgP
   rw[if_neg (by omega),if_neg (by omega)]
  exact out w4.heap.size (0,-1,-1) true hX8 hO8 hb8 (λ_=>this) (λh=>by cases h)
 have et1:IntKind.i64.wrap ((to_:Int)-1)=((to_-1:Nat):Int):=by rw[zt (by omega) (by omega)];omega
 have et2:IntKind.i64.wrap ((to_:Int)-2)=((to_-2:Nat):Int):=by rw[zt (by omega) (by omega)];omega
 refine hB8.rS (n:=2) (x:=x.2.2.1) rfl (hK8.rI (n:=2) (x:=b.2.2) rfl ?_)
 rw[hto,et2]
 refine yA (hN.below hb8) h2l λti hti=>?_
 refine box4 rfl λw16 hI16 b16 z16=>?_
 have hI16:Blk w16 w8.heap.size 41 (inV (mkIn pl[to_-2] ti)):=hI16
 have hti16:IsAg w16 ti pl[to_-2].2.2.2:=hti.below b16
 have hb16:=hb8.on b16
 have hX16:=hX8.below b16
 have hO16:=hO8.below b16
 have hal:=hti.len
 refine zk.cut (λ(_:Unit) w'=>w'=w16/\(pl[to_-2].1=246\/pl[to_-2].1=247)) ?_ ?_
 ·refine hI16.rI0 (x:=pl[to_-2].1) rfl (zr (λe=>?_) (λe=>⟨rfl,.inl e⟩))
  refine hI16.rI0 (x:=pl[to_-2].1) rfl (zr (λe'=>?_) (λe'=>⟨rfl,.inr e'⟩))
  have:blkM pl f.bk b=some (0,-1,-1):=by
   rw[hbM]
   unfold mrgP
   rw[if_neg e',if_neg e]
  exact out w4.heap.size (0,-1,-1) true hX16 hO16 hb16 (λ_=>this) (λh=>by cases h)
 rintro _ w20 ⟨rfl,hop⟩
 have hl0:0<pl[to_-2].2.2.2.length:=by
  rcases hop with e |e
  ·have:=hM.2 e;omega
  ·exact hM.1 e
 have bd:Below w20.heap.size w20 w20.drew:=(Below.refl _ _).drew
 have hV20:=hV8.below b16
 have s8:=b8.size
 have s16:=b16.size
 generalize ea0:(pl[to_-2].2.2.2[0]).2.1=n0
 have eg0:(pl[to_-2].2.2.2.getD 0 ag0).2.1=n0:=by rw[zG hl0,ea0]
 refine zk.cut (λ(st:Addr×Unit) w'=>∃mb,st=(blk mb,())/\Blk w' mb 121 (mgV (1,lblI f.bk n0,-1))/\Below w20.heap.size w20 w'/\w20.heap.size<=mb) ?_ ?_
 ·refine Fv.load (v:=v) hV20.drew ?_
  refine hI16.drew.rS (n:=3) (x:=ti) rfl ?_
  obtain⟨aa,haa⟩:=(IsAg.below hti16 bd).base hl0
  have hc:=(IsAg.below hti16 bd).cell aa haa 0 hl0 1 (by omega)
  have hcn:w20.drew.cell? ((aa.add (0*3)).add 1)=some (.int .u32 n0):=by
   rw[zv,hc,<-ea0];rfl
  refine⟨⟨by omega,by omega⟩,zf haa ⟨n0,hcn,?_,?_⟩⟩
  ·refine zes (v:=v) (n:=n0) (hf.below (hb16.on bd)) hd λw21 b21=>⟨_,rfl,?_⟩
   refine box3 rfl λw25 hM25 b25 z25=>⟨w21.heap.size,rfl,hM25,(bd.on b21).on b25,?_⟩
   have:=bd.size;have:=b21.size;omega
  ·refine zq λw26 hM26 b26 z26=>?_
   have hM26:Blk w26 w20.drew.heap.size 121 [.int .u8 0,.int .i64 0,.int .i64 0]:=hM26
   have hV26:=hV20.drew.below b26
   have hI26:=hI16.drew.below b26
   refine⟨yx b26 hcn,hI26.cell (n:=3) rfl,hV26.cell (n:=0) rfl,hV26.cell (n:=1) rfl,hV26.cell (n:=2) rfl,hV26.cell (n:=3) rfl,hV26.cell (n:=4) rfl,?_⟩
   refine zes (v:=v) (n:=n0) (hf.below ((hb16.on bd).on b26)) hd λw27 b27=>⟨_,rfl,?_⟩
   refine st3 (hM26.below b27) rfl λw30 hM30 c30=>⟨w20.drew.heap.size,rfl,hM30,?_,bd.size⟩
   exact c30.below ((bd.on b26).on b27) bd.size
 rintro _ w31 ⟨mb,rfl,hM31,b31,hmb⟩
 have hb31:=hb16.on b31
 have hX31:=hX16.below b31
 have hO31:=hO16.below b31
 have hI31:=hI16.below b31
 have hV31:=hV20.below b31
 have hB31:=(hB8.below b16).below b31
 have hK31:=(hK8.below b16).below b31
 dsimp only
 refine hM31.rI (n:=1) (x:=lblI f.bk n0) rfl (zi (λhneg=>?_) (λhpos=>?_))
 ·have hnone:=zke (bk:=f.bk) (n:=n0) (by omega)
  have:blkM pl f.bk b=none:=by
   rw[hbM]
   unfold mrgP
   rw[eg0,hnone]
   rcases hop with e |e
   ·rw[if_neg (by omega),if_pos e]
   ·rw[if_pos e]
  exact out w4.heap.size (0,-1,-1) false hX31 hO31 hb31 (λh=>by cases h) (λ_=>this)
 obtain⟨hs0,hv0⟩:=zkf (M:=lblM f.bk) (n:=n0) (by unfold lblI at hpos;omega)
 obtain⟨a,ha⟩:=Option.isSome_iff_exists.1 hs0
 obtain⟨hla,_⟩:=zox ha
 rw[hla]at hM31
 refine hI31.rI0 (x:=pl[to_-2].1) rfl (zj (λe246=>?_) (λe246=>?_))
 ·have hl1:1<pl[to_-2].2.2.2.length:=hM.2 e246
  generalize ea1:(pl[to_-2].2.2.2[1]).2.1=n1
  have eg1:(pl[to_-2].2.2.2.getD 1 ag0).2.1=n1:=by rw[zG hl1,ea1]
  refine⟨hM31.wr0 (show 0<3 by omega),?_⟩
  refine Nw.gen λw35 e35=>?_
  have hM35:Blk w35 mb 121 (mgV (2,a,-1)):=by rw[e35];exact hM31.set0 _
  have c35:Chg mb w31 w35:=by rw[e35];exact Chg.set mb 0 w31 _
  clear e35
  have kp:∀{c:Nat} {T:TypeId} {cs:List Value},Blk w31 c T cs->c≠mb->Blk w35 c T cs:=λh hne=>c35.blk h hne
  have b35:Below w20.heap.size w20 w35:=c35.below b31 hmb
  have hb35:=hb16.on b35
  have hV35:=hV20.below b35
  have hI35:=hI16.below b35
  have hO35:=hO16.below b35
  have bd5:Below w35.heap.size w35 w35.drew:=(Below.refl _ _).drew
  refine Fv.load (v:=v) hV35.drew ?_
  refine hI35.drew.rS (n:=3) (x:=ti) rfl ?_
  have hti35:IsAg w35.drew ti pl[to_-2].2.2.2:=(hti16.below b35).below bd5
  obtain⟨aa,haa⟩:=hti35.base hl1
  have hc:=hti35.cell aa haa 1 hl1 1 (by omega)
  have hcn:w35.drew.cell? ((aa.add (1*3)).add 1)=some (.int .u32 n1):=by
   rw[zv,hc,<-ea1];rfl
  refine⟨⟨by omega,by omega⟩,zf haa ⟨n1,hcn,?_⟩⟩
  refine zes (v:=v) (n:=n1) (hf.below (hb35.on bd5)) hd λw36 b36=>⟨_,rfl,?_⟩
  have hM36:=(hM35.below bd5).below b36
  refine⟨hM36.wr (show 2<3 by omega),?_⟩
  refine Nw.gen λw37 e37=>?_
  have hM37:Blk w37 mb 121 (mgV (2,a,lblI f.bk n1)):=by rw[e37];exact hM36.set 2 _
  have c37:Chg mb w36 w37:=by rw[e37];exact Chg.set mb 2 w36 _
  clear e37
  have b37:Below w20.heap.size w20 w37:=c37.below ((b35.on bd5).on b36) hmb
  have hO37:=(hO16.below b37).drew
  have hM37d:=hM37.drew
  refine hM37d.rI (n:=0) (x:=2) rfl (hM37d.rI (n:=1) (x:=a) rfl (hM37d.rI (n:=2) (x:=lblI f.bk n1) rfl (hM37d.rI (n:=2) (x:=lblI f.bk n1) rfl ?_)))
  refine st3 hO37 rfl λw40 hO40 c40=>?_
  have hne:mb≠w3.heap.size:=by omega
  refine⟨(c40.blk hM37d hne).cell (n:=2) rfl,hO40.rI (n:=0) (x:=2) rfl (hO40.rI (n:=1) (x:=a) rfl (hO40.rI (n:=2) (x:=lblI f.bk n1) rfl ?_))⟩
  have hb40:Below w.heap.size w w40:=c40.below ((hb16.on b37).drew) (by omega)
  have hbl:blkM pl f.bk b=(match zC (lblM f.bk) n1 with
    |some c=>some (2,a,c)
    |none=>none):=by
   rw[hbM]
   unfold mrgP
   rw[if_neg (by omega),if_pos e246,eg0,eg1,ha]
   cases zC (lblM f.bk) n1<;>rfl
  have:=hR (2,a,lblI f.bk n1) (decide (lblI f.bk n1≥0)) w40 hb40 (λh=>?_) (λh=>?_)
  ·exact this
  ·have h:=of_decide_eq_true h
   obtain⟨hs1,hv1⟩:=zkf (M:=lblM f.bk) (n:=n1) h
   obtain⟨c,hc'⟩:=Option.isSome_iff_exists.1 hs1
   rw[hbl,hc',(zox hc').1]
  ·have h:=of_decide_eq_false h
   rw[hbl,zke h]
 have e247:pl[to_-2].1=247:=by omega
 refine zk.cut (λ(_:Unit) w'=>Blk w' mb 121 (mgV (if pl[to_-1].1=251 then 3 else 1,a,-1))/\Below w20.heap.size w20 w') ?_ ?_
 ·refine hB31.rS (n:=2) (x:=x.2.2.1) rfl (hK31.rI (n:=2) (x:=b.2.2) rfl ?_)
  rw[hto,et1]
  have hN31:=hN.below hb31
  obtain⟨aa,haa⟩:=hN31.base h1l
  obtain⟨tt,q1,q2⟩:=hN31.elem aa haa (to_-1) h1l
  refine⟨⟨by omega,by omega⟩,zf haa ⟨pl[to_-1].1,?_,zj (λe=>⟨hM31.wr0 (show 0<3 by omega),?_⟩) (λe=>⟨?_,b31⟩)⟩⟩
  ·exact q1 0 (by omega)
  ·refine Nw.gen λw41 e41=>⟨?_,?_⟩
   ·rw[e41,if_pos e];exact hM31.set0 _
   ·rw[e41];exact(Chg.set mb 0 w31 _).below b31 hmb
  ·rw[if_neg e];exact hM31
 rintro _ w42 ⟨hM42,b42⟩
 refine out mb _ true hM42 (hO16.below b42) (hb16.on b42) (λ_=>?_) (λh=>by cases h)
 rw[hbM]
 unfold mrgP
 rw[if_pos e247,eg0,ha]
end
end Go.Proofs
namespace Go.Proofs
open Go.Gk
set_option linter.unusedVariables false
set_option maxRecDepth 100000
end Go.Proofs
namespace Go.Proofs
open Go.Gk Go.RowKit Go.Gm
end Go.Proofs
namespace Go.Proofs
open Go.Gk Go.RowKit Go.Gm
section
variable {x:Mo} {pl:List PI} {w:World} {R:VWP} {v:Fv} {f:FnL}
set_option maxHeartbeats 1000000 in
theorem zmS(hN:IsPl w x.2.2.1 pl)(hp:PlOk pl)(h0:0<=x.2.1)(hf:IsFn w v f)
  (hbad:∀w' e a,Below w.heap.size w w'->(e,a)=gnwE x pl f->e≠0->R (.tuple #[.pointer none,.slice none 0 0,.agg #[.int .i64 e,.int .i64 a]]) w')
  (hok:∀w' rb ms,Below w.heap.size w w'->gnwE x pl f=(0,0)->f∈cutF pl pl.length->IsR w' rb (zO (ye pl f.bk))->NxOk (zO (ye pl f.bk))->IsM w' ms (mgsP pl f.bk)->R (.tuple #[.pointer (some (blk rb)),.slice ms.a ms.l ms.c,.agg #[.int .i64 0,.int .i64 0]]) w') :
  cR 32 #[moA x,fvA v] w R:=by
 refine zb.of (zff x v R w ?_) λ_ _ h=>h
 refine zq λw1 hB1 b1 z1=>?_
 have hB1:Blk w1 w.heap.size 25 (moV x):=hB1
 refine zq λw2 hV2 b2 z2=>?_
 have hV2:Blk w2 w1.heap.size 29 (fvV v):=hV2
 refine zq λw3 hS3 b3 z3=>?_
 have hS3:Blk w3 w2.heap.size 33 [.int .i64 0,.int .i64 0]:=hS3
 have b13:=b2.on b3
 have hb3:=b1.on b13
 refine Mo.load (hB1.below b13) ?_
 refine zj4 (x:=x) (hN.below hb3) hp λw4 b4=>⟨((zQ x.2.1 pl).1,((zQ x.2.1 pl).2:Int),()),rfl,?_⟩
 refine box2 rfl λw7 h7 b7 z7=>?_
 have b37:=b4.on b7
 have hb7:=hb3.on b37
 have hB7:=(hB1.below b13).below b37
 have hV7:=(hV2.below b3).below b37
 have hS7:=hS3.below b37
 have s1:=b1.size
 have s2:=b2.size
 have bad:∀{w':World} (e a:Int),Blk w' w2.heap.size 33 [.int .i64 0,.int .i64 0]->Below w.heap.size w w'->(e,a)=gnwE x pl f->e≠0->
   Wr w' (blk w2.heap.size)/\Nw (w'.setCell (blk w2.heap.size) (.int .i64 e)) λw8=>Wr w8 ((blk w2.heap.size).add 1)/\Nw (w8.setCell ((blk w2.heap.size).add 1) (.int .i64 a)) λw9=>ldI w9 ((blk w2.heap.size).add 0) .i64 λx9=>ldI w9 ((blk w2.heap.size).add 1) .i64 λx10=>
    R (.tuple #[.pointer none,.slice none 0 0,.agg #[.int .i64 x9,.int .i64 x10]]) w9:=λ{w'} e a hS hb he hne=>
  st2 hS rfl λw9 hS9 c9=>Sp.load hS9 (hbad w9 e a (c9.below hb (by omega)) he hne)
 refine h7.rI0 rfl (zr (λe=>?_) (λe=>?_))
 ·have e':(zQ x.2.1 pl).1≠0:=e
  exact Sp.load h7.drew (bad _ _ hS7.drew hb7.drew (by unfold gnwE;rw[if_pos e']) e')
 have e':(zQ x.2.1 pl).1=0:=e
 obtain⟨k1,k2,k3⟩:=ziZ e'
 have hsh:=zkb k2
 refine Mo.load hB7 (Fv.load (v:=v) hV7 ?_)
 refine zoO (x:=x) (v:=v) (hN.below hb7) hp k2 (hf.below hb7) λw10 b10=>⟨_,rfl,?_⟩
 have hb10:=hb7.on b10
 have hB10:=hB7.below b10
 have hV10:=hV7.below b10
 have hS10:=hS7.below b10
 refine zy (zi (λhin=>?_) (λhin=>?_))
 rotate_left
 ·exact bad 2 0 hS10 hb10 (by unfold gnwE;rw[if_neg (λh=>h e'),if_pos hin]) (by decide)
 have hFn:=zno k2 f hin
 have hnd:=znu hp h0 e' hFn
 have hbl:=(hf.bk).len
 have hbmax:=(hf.bk).bound
 refine hV10.rS (n:=3) (x:=v.2.2.2.1) rfl (zi (λhgt=>?_) (λhle=>?_))
 ·refine hV10.drew.rI (n:=1) (x:=v.2.1) rfl ?_
  exact bad 4 v.2.1 hS10.drew hb10.drew (by unfold gnwE;rw[if_neg (λh=>h e'),if_neg (λh=>h hin),if_pos (by omega),hf.at_]) (by decide)
 have hle:f.bk.length<=4096:=by omega
 have hpos:0<f.bk.length:=List.length_pos_iff.2 hFn.ne
 have hgn:gnwE x pl f=(match f.bk.findSome? (blkE pl f.bk) with
   |some a=>(140,a)
   |none=>(0,0)):=by unfold gnwE;rw[if_neg (λh=>h e'),if_neg (λh=>h hin),if_neg (by omega)];try rfl
 have hN10:=hN.below hb10
 have hbk10:IsBk w10 v.2.2.2.1 f.bk:=IsC.below yd hf.bk hb10
 have hl:=hN.len
 have hlen:=zp7 hsh
 refine zl.ghost (λj (st:Sl×Sl×Int×Unit) w'=>∃(k:Nat) (nx mg:Sl) (hs:List Sl),st=(nx,mg,(k:Int),())/\j=f.bk.length-k/\k<=f.bk.length/\Below w10.heap.size w10 w'/\hs.length=k/\Own w' 26 1 nx (hs.map Sl.val)/\zw w10.heap.size nx/\
  (∀i (h:i<hs.length) (h':i<(ye pl f.bk).length),Own w' 3 1 hs[i] ((ye pl f.bk)[i].map (Value.int .i64))/\zw w10.heap.size hs[i])/\Own w' 121 3 mg (flat mgV ((mgsP pl f.bk).take k))/\zw w10.heap.size mg/\
  ∀i (h:i<f.bk.length),i<k->blkE pl f.bk f.bk[i]=none) f.bk.length
  ⟨0,⟨none,0,0⟩,⟨none,0,0⟩,[],rfl,rfl,Nat.zero_le _,Below.refl _ _,rfl,Own.nil _ _ _,λa ha=>(by cases ha),λi h=>(by cases h),Own.nil _ _ _,λa ha=>(by cases ha),λi _ h=>by omega⟩ ?_
 rintro _ _ w15 ⟨k,nx,mg,hs,rfl,rfl,hk,b15,hhl,hnx,hnxF,hrow,hmg,hmgF,hgood⟩ next hnext
 have hb15:=hb10.on b15
 have hV15:=hV10.below b15
 have hB15:=hB10.below b15
 have hS15:=hS10.below b15
 dsimp only
 refine hV15.rS (n:=3) (x:=v.2.2.2.1) rfl (zi (λh=>?_) (λh=>?_))
 ·have hkl:k<f.bk.length:=by omega
  obtain⟨fr,to_,hbq,hft,htl,h248,h8f,hend,h8t⟩:=(hFn.ok _ (List.getElem_mem hkl)).ex
  have hto:f.bk[k].2.2=(to_:Int):=by rw[hbq]
  refine hV15.rS (n:=3) (x:=v.2.2.2.1) rfl (zjQ (IsC.below yd hbk10 b15) hkl ?_)
  refine box3 rfl λw19 hK19 b19 z19=>?_
  have hK19:Blk w19 w15.heap.size 69 (blV f.bk[k]):=hK19
  have b1019:=b15.on b19
  have hb19:=hb10.on b1019
  have et1:IntKind.i64.wrap ((to_:Int)-1)=((to_-1:Nat):Int):=by rw[zt (by omega) (by omega)];omega
  have et2:IntKind.i64.wrap ((to_:Int)-2)=((to_-2:Nat):Int):=by rw[zt (by omega) (by omega)];omega
  have h1l:to_-1<pl.length:=by omega
  have ei1:ix pl (to_-1)=pl[to_-1]:=yR h1l
  have hbT:blkT pl f.bk[k]=tgtP pl[to_-1].1 pl[to_-1].2.2.2:=by
   unfold blkT
   rw[hto,Int.toNat_natCast,ei1]
  refine Mo.load (hB15.below b19) (Fv.load (v:=v) (hV15.below b19) ?_)
  refine hK19.rI (n:=0) (x:=f.bk[k].1) rfl (hK19.rI (n:=1) (x:=f.bk[k].2.1) rfl (hK19.rI (n:=2) (x:=f.bk[k].2.2) rfl ?_))
  refine zoQ (x:=x) (v:=v) (hN.below hb19) hsh (hf.below hb19) hFn hnd (List.getElem_mem hkl) λm o w20 b20 hm1 hm2=>⟨(m.1,m.2.1,m.2.2,()),o,rfl,?_⟩
  refine box3 rfl λw24 hM24 b24 z24=>?_
  have hM24:Blk w24 w20.heap.size 121 (mgV m):=hM24
  have b1924:=b20.on b24
  have b1524:=b19.on b1924
  have b1024:=b1019.on b1924
  have hb24:=hb10.on b1024
  have hS24:=hS10.below b1024
  have hK24:=hK19.below b1924
  refine zy (zm (λhokt=>?_) (λhokf=>?_))
  rotate_left
  ·have hnone:=hm2 hokf
   have hE:blkE pl f.bk f.bk[k]=some ((to_:Int)-2):=by unfold blkE;rw[hnone,hto]
   refine hK24.drew.rI (n:=2) (x:=f.bk[k].2.2) rfl ?_
   rw[hto,et2]
   refine bad 140 ((to_-2:Nat):Int) hS24.drew hb24.drew ?_ (by decide)
   rw[hgn,yz hkl hE λj h1 h2=>hgood j h1 h2]
   dsimp only
   congr 1
   omega
  have hsome:=hm1 hokt
  refine hM24.rI (n:=0) (x:=m.1) rfl (hM24.rI (n:=1) (x:=m.2.1) rfl (hM24.rI (n:=2) (x:=m.2.2) rfl ?_))
  refine zq λw27 hY27 b27 z27=>?_
  have hY27:Blk w27 w24.heap.size 121 (mgV m):=hY27
  have b1527:=b1524.on b27
  have b1027:=b15.on b1527
  have hmgl:mg.l=k:=by
   have:=hmg.1
   rw[zI Zu,List.length_take]at this
   unfold mgsP at this
   rw[List.length_map]at this
   omega
  have hnxl:nx.l=k:=by
   have:=hnx.1
   rw[List.length_map]at this
   omega
  refine zfw (w0:=w10) eMg (hmg.below b1527) b1027 hmgF rfl (by simp[Value.oneCell']) hY27 (by omega) (by omega) λmg' w28 q1 q2 q3 q4 q5=>?_
  have hb28:=hb10.on q2
  have hB28:=hB10.below q2
  have hV28:=hV10.below q2
  have hS28:=hS10.below q2
  have keep28:∀{T:TypeId} {sz:Nat} {s:Sl} {xs:List Value},Own w27 T sz s xs->121≠T->Own w28 T sz s xs:=λho hT=>ho.of_block λa ha=>q5 _ (ho.lt ha).2 (Zb (hmg.below b1527) ho hT ha)
  have hK27:=hK24.below b27
  have hK28:Blk w28 w15.heap.size 69 (blV f.bk[k]):=hK27.of_block (q5 _ hK27.lt λe=>zd7 (hmg.below b1527) hK27 (by decide) e)
  refine hB28.rS (n:=2) (x:=x.2.2.1) rfl (hK28.rI (n:=2) (x:=f.bk[k].2.2) rfl ?_)
  rw[hto,et1]
  have hal24:=hp.args _ (List.getElem_mem h1l)
  refine yA (hN.below hb28) h1l λtl htl'=>?_
  refine zmk (x:=mkIn pl[to_-1] tl) htl' hal24 λtg w29 htg htgF b29=>⟨tg,rfl,?_⟩
  have htg:Own w29 22 1 tg ((tgtP pl[to_-1].1 pl[to_-1].2.2.2).map (Value.int .u32)):=htg
  have hlenT:=zlZ pl[to_-1].1 pl[to_-1].2.2.2
  have b1029:=q2.on b29
  have hb29:=hb10.on b1029
  have hS29:=hS10.below b1029
  have hV29:=hV10.below b1029
  have hK29:=hK28.below b29
  generalize htgd:tgtP pl[to_-1].1 pl[to_-1].2.2.2=tgl at *
  have htl2:tg.l=tgl.length:=by have:=htg.1;rw[List.length_map]at this;omega
  refine zl.countSl tgl.length (by omega) (λj r w'=>Below w29.heap.size w29 w'/\Own w' 3 1 r (((tgl.take j).map λn=>(zC (lblM f.bk) n).getD 0).map (Value.int .i64))/\zw w29.heap.size r/\∀i (h:i<tgl.length),i<j->(zC (lblM f.bk) tgl[i]).isSome=true)
   ⟨Below.refl _ _,Own.nil _ _ _,λa ha=>(by cases ha),λi _ h=>by omega⟩ ?_
  rintro j r w30 hj ⟨b30,hO30,hF30,hfound⟩ next2 hnext2
  have b1030:=b1029.on b30
  have hb30:=hb10.on b1030
  have bd:Below w30.heap.size w30 w30.drew:=(Below.refl _ _).drew
  have hV30:=hV29.below b30
  have hS30:=hS29.below b30
  have hK30:=hK29.below b30
  refine zi (λhjl=>?_) (λhjl=>?_)
  ·have hjlt:j<tgl.length:=by dsimp only at hjl;omega
   refine Fv.load (v:=v) hV30.drew ?_
   refine zoi (htg.isS.below (b30.on bd)) hjlt ?_
   refine zes (v:=v) (hf.below (hb30.on bd)) hnd λw31 b31=>⟨_,rfl,?_⟩
   have b3031:=bd.on b31
   have b2931:=b30.on b3031
   refine zi (λhneg=>?_) (λhnn=>?_)
   ·have hnone:=zke (bk:=f.bk) (n:=tgl[j]) (by omega)
    have hfn:fndP (lblM f.bk) (blkT pl f.bk[k])=none:=by rw[hbT];exact zm8 ⟨tgl[j],List.getElem_mem hjlt,hnone⟩
    have hE:blkE pl f.bk f.bk[k]=some ((to_:Int)-1):=by unfold blkE;rw[hsome,hfn,hto]
    refine(hK29.below b2931).drew.rI (n:=2) (x:=f.bk[k].2.2) rfl ?_
    rw[hto,et1]
    refine bad 140 ((to_-1:Nat):Int) (hS29.below b2931).drew (hb29.on b2931).drew ?_ (by decide)
    rw[hgn,yz hkl hE λj h1 h2=>hgood j h1 h2]
    dsimp only
    congr 1
    omega
   ·obtain⟨hs1,hv1⟩:=zkf (M:=lblM f.bk) (n:=tgl[j]) (by unfold lblI at hnn;omega)
    refine zq λw34 hD34 b34 z34=>?_
    have b3034:=b3031.on b34
    have hrl:r.l=j:=by
     have:=hO30.1
     rw[List.length_map,List.length_map,List.length_take]at this
     omega
    refine y7 eInt (hO30.below b3034) (b30.on b3034) hF30 rfl hD34 (by omega) (by omega) λr' w35 hO35 hb35 hF35=>hnext2 r' w35 hjlt ⟨hb35,?_,hF35,λi q1 q2=>?_⟩
    ·rw[List.take_succ_eq_append_getElem hjlt,List.map_append,List.map_append]
     have:lblI f.bk tgl[j]=(zC (lblM f.bk) tgl[j]).getD 0:=hv1
     rw[this]at hO35
     exact hO35
    ·by_cases ei:i=j
     ·subst ei;exact hs1
     ·exact hfound i q1 (by omega)
  ·have hjj:j=tgl.length:=by dsimp only at hjl;omega
   subst hjj
   rw[List.take_length]at hO30
   have hall:∀n∈tgl,(zC (lblM f.bk) n).isSome=true:=λn hn=>by
    obtain⟨i,hi,rfl⟩:=List.getElem_of_mem hn
    exact hfound i hi hi
   have hfn:fndP (lblM f.bk) (blkT pl f.bk[k])=some (tgl.map λn=>(zC (lblM f.bk) n).getD 0):=by rw[hbT];exact zjT hall
   have hE:blkE pl f.bk f.bk[k]=none:=by unfold blkE;rw[hsome,hfn]
   refine zq λw36 hZ36 b36 z36=>?_
   have hZ36:Blk w36 w30.heap.size 26 [Sl.val r]:=hZ36
   have b2936:=b30.on b36
   have b2836:=b29.on b2936
   have hnx27:=hnx.below b1527
   have hnx28:=keep28 hnx27 (by decide)
   have q2':=q2.on b2836
   refine zfw (w0:=w10) eRow (hnx28.below b2836) q2' hnxF rfl (by simp[Value.oneCell',Sl.val]) hZ36 (by omega) (by omega) λnx' w37 u1 u2 u3 u4 u5=>?_
   have hnx36:=hnx28.below b2836
   have keep37:∀{T:TypeId} {sz:Nat} {s:Sl} {xs:List Value},Own w36 T sz s xs->26≠T->Own w37 T sz s xs:=λho hT=>ho.of_block λa ha=>u5 _ (ho.lt ha).2 (Zb hnx36 ho hT ha)
   rw[zE (by omega)]
   refine hnext (f.bk.length-(k+1)) _ _ (by omega) ⟨k+1,nx',mg',hs++[r],rfl,rfl,hkl,u2,by simp[hhl],?_,u3,λi h1 h2=>?_,?_,q3,λi h1 h2=>?_⟩
   ·rw[List.map_append]
    exact u1
   ·by_cases e:i<hs.length
    ·rw[List.getElem_append_left e]
     obtain⟨g1,g2⟩:=hrow i e h2
     exact⟨keep37 ((keep28 (g1.below b1527) (by decide)).below b2836) (by decide),g2⟩
    ·have ei:i=k:=by simp at h1;omega
     subst ei
     have er:(hs++[r])[i]'h1=r:=by rw[List.getElem_append_right (by omega)];simp[hhl]
     rw[er]
     refine⟨?_,λa ha=>by have:=hF30 a ha;have:=b1029.size;omega⟩
     have:(ye pl f.bk)[i]=tgl.map λn=>(zC (lblM f.bk) n).getD 0:=by
      refine(List.getElem_map (λb=>(fndP (lblM f.bk) (blkT pl b)).getD [])).trans ?_
      rw[hfn]
      rfl
     rw[this]
     exact keep37 (hO30.below b36) (by decide)
   ·have hmk:(mgsP pl f.bk).take (k+1)=(mgsP pl f.bk).take k++[m]:=by
     have hlm:k<(mgsP pl f.bk).length:=by unfold mgsP;rw[List.length_map];exact hkl
     rw[List.take_succ_eq_append_getElem hlm]
     congr 2
     refine(List.getElem_map (λb=>(blkM pl f.bk b).getD (0,-1,-1))).trans ?_
     rw[hsome]
     rfl
    rw[hmk,zaZ]
    exact keep37 (q1.below b2836) (by decide)
   ·by_cases e:i=k
    ·subst e;exact hE
    ·exact hgood i h1 (by omega)
 ·have hkk:k=f.bk.length:=by omega
  subst hkk
  have hrl:(ye pl f.bk).length=f.bk.length:=by unfold ye;rw[List.length_map]
  have hml:(mgsP pl f.bk).length=f.bk.length:=by unfold mgsP;rw[List.length_map]
  have hg0:gnwE x pl f=(0,0):=by rw[hgn,zeq λj hj=>hgood j hj hj]
  rw[<-hml,List.take_length]at hmg
  have hII:IsII w15 nx hs (ye pl f.bk):=⟨hnx.isS,by rw[hhl,hrl],λi h1 h2=>(hrow i h1 h2).1.isS⟩
  have hGood:Good (ye pl f.bk):=by
   intro l hl' y hy
   obtain⟨b,hb,rfl⟩:=List.mem_map.1 hl'
   cases hfd:fndP (lblM f.bk) (blkT pl b) with
   |none=>rw[hfd]at hy;cases hy
   |some l=>
    rw[hfd]at hy
    unfold fndP at hfd
    split at hfd
    ·rename_i hall
     cases hfd
     obtain⟨n,hn,rfl⟩:=List.mem_map.1 hy
     have hs1:=List.all_eq_true.1 hall n hn
     obtain⟨u,hu⟩:=Option.isSome_iff_exists.1 hs1
     rw[hu,Option.getD_some]
     have:=zgS f.bk _ n u hu
     rw[hrl]
     omega
    ·cases hfd
  have h8:∀l∈ye pl f.bk,8*l.length<=281474976710656:=λl hl'=>by
   obtain⟨b,hb,rfl⟩:=List.mem_map.1 hl'
   cases hfd:fndP (lblM f.bk) (blkT pl b) with
   |none=>simp
   |some l=>
    unfold fndP at hfd
    split at hfd
    ·cases hfd
     obtain⟨fr,to_,rfl,_,htl,_⟩:=(hFn.ok b hb).ex
     show 8*(List.map _ _).length<=_
     rw[List.length_map]
     unfold blkT
     have h1l:to_-1<pl.length:=by omega
     rw[show Int.toNat ((ix pl fr).2.2.1,(fr:Int),(to_:Int)).2.2=to_ from rfl,yR h1l]
     have:=zlZ pl[to_-1].1 pl[to_-1].2.2.2
     have:=hp.args _ (List.getElem_mem h1l)
     omega
    ·cases hfd
  refine zlU hII h8 (λh=>by rw[hrl]at h;omega) (λh=>by rw[hrl]at h;omega) (λ_ _ hng=>absurd hGood hng) λq1 q2 q3 w38 rb b38 hG=>⟨some (blk rb),0,rfl,?_⟩
  have hS38:=hS15.below b38
  refine st2 hS38 rfl λw40 hS40 c40=>Sp.load hS40 ?_
  have b3840:=c40.same hS38 hS40
  have hb38:=hb15.on b38
  exact hok w40 rb mg (hb38.on b3840) hg0 hin (hG.below b3840) (zgH q1 q2 q3) (Own.isC Zu (by omega) ((hmg.below b38).below b3840))
end
end Go.Proofs
namespace Go.Proofs
open Go.Gk Go.RowKit Go.Gm Go.Gr
open Classical in
noncomputable def nchE(pl:List PI)(f:FnL):Int×Int:=if Fit (zO (ye pl f.bk)).length (mgsP pl f.bk) then zi1 (yn (zO (ye pl f.bk)) (mgsP pl f.bk) (zO (ye pl f.bk)).length) else(2,0)
noncomputable def nflE(x:Mo)(pl:List PI)(f:FnL):Option (Int×Int):=if (gnwE x pl f).1≠0 then some (gnwE x pl f) else if (nchE pl f).1≠0 then some ((nchE pl f).1,(f.bk.getD (nchE pl f).2.toNat (0,0,0)).2.2-1) else none
noncomputable def nmoE(x:Mo)(pl:List PI):Int×Int:=if (zQ x.2.1 pl).1≠0 then((zQ x.2.1 pl).1,((zQ x.2.1 pl).2:Int)) else
 match (cutF pl pl.length).findSome? (nflE x pl) with
 |some p=>p
 |none=>(0,0)
theorem zqL{nx:List (List Nat)}{ml:List Mg}{k:Nat}{y:Int×Int}(h:y∈yn nx ml k):∃i:Nat,y.1=(i:Int)/\i<k:=by
 obtain⟨i,hi,h⟩:=List.mem_flatMap.1 h
 obtain⟨r,_,rfl⟩:=List.mem_map.1 h
 exact⟨i,rfl,List.mem_range.1 hi⟩
theorem zsg{pl:List PI}{f:FnL}(hpos:0<f.bk.length):∃i:Nat,(nchE pl f).2=(i:Int)/\i<f.bk.length:=by
 have hel:(zO (ye pl f.bk)).length=f.bk.length:=by rw[ZD];unfold ye;rw[List.length_map]
 unfold nchE
 split
 ·cases hf:yn (zO (ye pl f.bk)) (mgsP pl f.bk) (zO (ye pl f.bk)).length with
  |nil=>exact⟨0,rfl,hpos⟩
  |cons y r=>
   obtain⟨i,h1,h2⟩:=zqL (nx:=zO (ye pl f.bk)) (ml:=mgsP pl f.bk) (k:=(zO (ye pl f.bk)).length) (y:=y) (by rw[hf];exact List.mem_cons_self ..)
   exact⟨i,h1,by omega⟩
 ·exact⟨0,rfl,hpos⟩
section
variable {w:World} {R:VWP} {s:Sl} {pl:List PI} {f:FnL}
theorem zqZ{gb:Nat}(hG:IsG w gb (zO (ye pl f.bk)))(hx:NxOk (zO (ye pl f.bk)))(hM:IsM w s (mgsP pl f.bk))(hR:∀w',Below w.heap.size w w'->R (.agg #[.int .i64 (nchE pl f).1,.int .i64 (nchE pl f).2]) w') :
  cR 46 #[.pointer (some (blk gb)),.slice s.a s.l s.c] w R:=by
 refine zgX (PG.some hx hG) hM (λe=>by cases e) (λ_ hf w' hb=>?_) (λ_ hf w' w2 nb g hb hN=>?_)
 ·have:=hR w' hb
  unfold nchE at this
  rw[if_neg hf]at this
  exact this
 ·have:=hR w' hb
  unfold nchE at this
  rw[if_pos hf]at this
  rw[hN.flawsE]
  exact this
theorem zrf{rb:Nat}(hG:IsR w rb (zO (ye pl f.bk)))(hx:NxOk (zO (ye pl f.bk)))(hM:IsM w s (mgsP pl f.bk))(hR:∀w',Below w.heap.size w w'->R (.agg #[.int .i64 (nchE pl f).1,.int .i64 (nchE pl f).2]) w') :
  cR 48 #[.pointer (some (blk rb)),.slice s.a s.l s.c] w R:=by
 refine zoI (p:=some (blk rb)) (rb:=rb) (λa ha=>⟨(Option.some.inj ha).symm,hx,hG⟩) hM λw' hb=>?_
 have:=hR w' hb
 unfold nchE at this
 have hn:¬(some (blk rb)=none):=by simp
 by_cases hf:Fit (zO (ye pl f.bk)).length (mgsP pl f.bk)
 ·rw[if_pos hf]at this
  rw[(flE0 hn hf).2.2]
  exact this
 ·rw[if_neg hf]at this
  rw[(flE2 hn hf).2.2]
  exact this
end
section
variable {x:Mo} {pl:List PI} {w:World} {R:VWP}
theorem zrb(hN:IsPl w x.2.2.1 pl)(hp:PlOk pl)(h0:0<=x.2.1)(hR:∀w',Below w.heap.size w w'->R (.agg #[.int .i64 (nmoE x pl).1,.int .i64 (nmoE x pl).2]) w') :
  cR 12 #[moA x] w R:=by
 refine zb.of (zjw x R w ?_) λ_ _ h=>h
 refine zq λw1 hB1 b1 z1=>?_
 have hB1:Blk w1 w.heap.size 25 (moV x):=hB1
 refine zq λw2 hS2 b2 z2=>?_
 have hS2:Blk w2 w1.heap.size 33 [.int .i64 0,.int .i64 0]:=hS2
 have hb2:=b1.on b2
 refine Mo.load (hB1.below b2) ?_
 refine zle (x:=x) (hN.below hb2) hp λw3 b3=>⟨((zQ x.2.1 pl).1,((zQ x.2.1 pl).2:Int),()),rfl,?_⟩
 refine box2 rfl λw6 h6 b6 z6=>?_
 have b26:=b3.on b6
 have hb6:=hb2.on b26
 have hB6:=(hB1.below b2).below b26
 have hS6:=hS2.below b26
 have s1:=b1.size
 have out:∀{w':World} (e a:Int),Blk w' w1.heap.size 33 [.int .i64 0,.int .i64 0]->Below w.heap.size w w'->(e,a)=nmoE x pl->
   Wr w' (blk w1.heap.size)/\Nw (w'.setCell (blk w1.heap.size) (.int .i64 e)) λw8=>Wr w8 ((blk w1.heap.size).add 1)/\Nw (w8.setCell ((blk w1.heap.size).add 1) (.int .i64 a)) λw9=>ldI w9 ((blk w1.heap.size).add 0) .i64 λx9=>ldI w9 ((blk w1.heap.size).add 1) .i64 λx10=>
    R (.agg #[.int .i64 x9,.int .i64 x10]) w9:=λ{w'} e a hS hb he=>
  st2 hS rfl λw9 hS9 c9=>Sp.load hS9 (by
   have:=hR w9 (c9.below hb (by omega))
   rw[<-he]at this
   exact this)
 refine h6.rI0 rfl (zr (λe=>?_) (λe=>?_))
 ·have e':(zQ x.2.1 pl).1≠0:=e
  exact Sp.load h6 (out _ _ hS6 hb6 (by unfold nmoE;rw[if_pos e']))
 have e':(zQ x.2.1 pl).1=0:=e
 obtain⟨k1,k2,k3⟩:=ziZ e'
 refine Mo.load hB6 ?_
 refine znE (x:=x) (hN.below hb6) hp (λfs L w9 _ b9 hL hLc=>⟨fs,(0,0,()),rfl,?_⟩) (λw9 hne _=>absurd k2 hne)
 refine box2 rfl λw12 h12 b12 z12=>?_
 have b612:=b9.on b12
 have hb12:=hb6.on b612
 have hL12:=hL.below b12
 have hS12:=hS6.below b612
 have hB12:=hB6.below b612
 have hll:=hL.len
 have hfl:L.length=(cutF pl pl.length).length:=by rw[<-hLc,List.length_map]
 have hget:∀k (h:k<L.length) (h':k<(cutF pl pl.length).length),L[k].1=(cutF pl pl.length)[k]:=λk h h'=>by
  have:(L.map (·.1))[k]'(by rwa[List.length_map])=(cutF pl pl.length)[k]:=by congr 1
  rwa[List.getElem_map]at this
 have hc5:IsC 5 feV w12 fs L:=Own.isC zbl (by omega) hL12.own
 have hbd5:=hc5.bound
 have hcn:nmoE x pl=(match (cutF pl pl.length).findSome? (nflE x pl) with
   |some p=>p
   |none=>(0,0)):=by unfold nmoE;rw[if_neg (λh=>h e')];try rfl
 refine zl.count L.length hbd5 (λk w'=>Below w12.heap.size w12 w'/\∀i (h:i<(cutF pl pl.length).length),i<k->nflE x pl (cutF pl pl.length)[i]=none) ⟨Below.refl _ _,λi _ h=>by omega⟩ ?_
 rintro k w13 hk ⟨b13,hgood⟩ next hnext
 have hb13:=hb12.on b13
 have hL13:=hL12.below b13
 refine zi (λh=>?_) (λh=>?_)
 ·have hlt:k<L.length:=by dsimp only at h;omega
  have hkf:k<(cutF pl pl.length).length:=by omega
  have hin:L[k].1∈cutF pl pl.length:=by rw[hget k hlt hkf];exact List.getElem_mem hkf
  have hfe:=hget k hlt hkf
  have hFn:=zno k2 _ hin
  have hpos:0<L[k].1.bk.length:=List.length_pos_iff.2 hFn.ne
  have hfail:∀p,nflE x pl L[k].1=some p->p=nmoE x pl:=λp hpe=>by
   rw[hcn,yz hkf (v:=p) (by rw[<-hfe];exact hpe) λj h1 h2=>hgood j h1 h2]
  refine zpy hL13 hlt ?_
  refine Nw.gen λw14 e14=>?_
  have hX14:Blk w14 w13.heap.size 29 [.int .u32 0,.int .i64 0,.slice none 0 0,.slice none 0 0,.int .i64 0]:=by rw[e14];exact Blk.new w13 _ #[_,_,_,_,_]
  have b14:Below w13.heap.size w13 w14:=by rw[e14];exact(Below.refl _ _).alloc (Nat.le_refl _) _
  clear e14
  refine st5 hX14 rfl λw19 hX19 c19=>?_
  have b19:Below w13.heap.size w13 w19:=c19.below b14 (Nat.le_refl _)
  have hb19:=hb13.on b19
  have hX19:Blk w19 w13.heap.size 29 (fvV (L[k].1.id,L[k].1.at_,L[k].2.1,L[k].2.2,L[k].1.en,())):=hX19
  have hF19:=(hL13.below b19).isFn (List.getElem_mem hlt)
  refine Mo.load ((hB12.below b13).below b19) (Fv.load (v:=(L[k].1.id,L[k].1.at_,L[k].2.1,L[k].2.2,L[k].1.en,())) hX19 ?_)
  have hS19:=(hS12.below b13).below b19
  refine zqP (x:=x) (v:=(L[k].1.id,L[k].1.at_,L[k].2.1,L[k].2.2,L[k].1.en,())) (f:=L[k].1) (hN.below hb19) hp h0 hF19 (λw20 e a b20 he hne=>⟨none,⟨none,0,0⟩,(e,a,()),rfl,?_⟩) (λw20 gb ms b20 he _ hG hNx hM=>⟨some (blk gb),ms,(0,0,()),rfl,?_⟩)
  ·refine box2 rfl λw23 h23 b23 z23=>?_
   have b1923:=b20.on b23
   refine h23.rI0 rfl (zF (by simpa using hne) (Sp.load h23 ?_))
   have hn:nflE x pl L[k].1=some (e,a):=by
    unfold nflE
    rw[if_pos (by rw[<-he];exact hne),<-he]
   exact out e a (hS19.below b1923) (hb19.on b1923) (hfail _ hn)
  ·refine box2 rfl λw23 h23 b23 z23=>?_
   have b1923:=b20.on b23
   refine h23.rI0 rfl (zB rfl ?_)
   refine zqZ (hG.below b23) hNx (IsC.below Zu hM b23) λw26 b26'=>⟨((nchE pl L[k].1).1,(nchE pl L[k].1).2,()),rfl,?_⟩
   refine box2 rfl λw29 h29 b29 z29=>?_
   have b1929:=b1923.on (b26'.on b29)
   refine h29.rI0 rfl (zr (λhne=>?_) (λheq=>hnext w29 hlt ⟨b13.on (b19.on b1929),λi q1 q2=>?_⟩))
   ·have hne:(nchE pl L[k].1).1≠0:=hne
    obtain⟨i,hi,hil⟩:=zsg (pl:=pl) hpos
    have hn:nflE x pl L[k].1=some ((nchE pl L[k].1).1,(L[k].1.bk.getD i (0,0,0)).2.2-1):=by
     unfold nflE
     rw[if_neg (by rw[he];simp),if_pos hne,hi,Int.toNat_natCast]
    have bd:Below w29.heap.size w29 w29.drew:=(Below.refl _ _).drew
    have hX29:=hX19.below (b1929.on bd)
    refine h29.drew.rI0 rfl (hX29.rS (n:=3) (x:=L[k].2.2) rfl (h29.drew.rI (n:=1) (x:=(nchE pl L[k].1).2) rfl ?_))
    rw[hi]
    have hbk:=IsC.below yd hF19.bk (b1929.on bd)
    have hbl:=hbk.len
    obtain⟨ba,hba⟩:=hbk.base hil
    have hc:=hbk.cell ba hba i hil 2 (by omega)
    refine⟨⟨by omega,?_⟩,zf hba ⟨L[k].1.bk[i].2.2,by rw[zv];exact hc,?_⟩⟩
    ·have:L[k].2.2.l=L[k].1.bk.length:=hbl
     omega
    obtain⟨fr,to_,hbq,hft,htl,_⟩:=(hFn.ok _ (List.getElem_mem hil)).ex
    have hlen:=hp.len
    have hto:L[k].1.bk[i].2.2=(to_:Int):=by rw[hbq]
    rw[zG hil]at hn
    rw[zt (by omega) (by omega)]
    exact out _ _ (hS19.below (b1929.on bd)) (hb19.on (b1929.on bd)) (hfail _ hn)
   ·have heq:(nchE pl L[k].1).1=0:=heq
    by_cases ei:i=k
    ·subst ei
     rw[<-hfe]
     unfold nflE
     rw[if_neg (by rw[he];simp),if_neg (by rw[heq];simp)]
    ·exact hgood i q1 (by omega)
 ·have hno:(cutF pl pl.length).findSome? (nflE x pl)=none:=zeq λj hj=>hgood j hj (by dsimp only at h;omega)
  exact out 0 0 (hS12.below b13) hb13 (by rw[hcn,hno])
set_option maxHeartbeats 1000000 in
theorem zrj(hN:IsPl w x.2.2.1 pl)(hp:PlOk pl)(h0:0<=x.2.1)(hR:∀w',Below w.heap.size w w'->R (.agg #[.int .i64 (nmoE x pl).1,.int .i64 (nmoE x pl).2]) w') :
  cR 13 #[moA x] w R:=by
 refine zb.of (zd4 x R w ?_) λ_ _ h=>h
 refine zq λw1 hB1 b1 z1=>?_
 have hB1:Blk w1 w.heap.size 25 (moV x):=hB1
 refine zq λw2 hS2 b2 z2=>?_
 have hS2:Blk w2 w1.heap.size 33 [.int .i64 0,.int .i64 0]:=hS2
 have hb2:=b1.on b2
 refine Mo.load (hB1.below b2) ?_
 refine zj4 (x:=x) (hN.below hb2) hp λw3 b3=>⟨((zQ x.2.1 pl).1,((zQ x.2.1 pl).2:Int),()),rfl,?_⟩
 refine box2 rfl λw6 h6 b6 z6=>?_
 have b26:=b3.on b6
 have hb6:=hb2.on b26
 have hB6:=(hB1.below b2).below b26
 have hS6:=hS2.below b26
 have s1:=b1.size
 have out:∀{w':World} (e a:Int),Blk w' w1.heap.size 33 [.int .i64 0,.int .i64 0]->Below w.heap.size w w'->(e,a)=nmoE x pl->
   Wr w' (blk w1.heap.size)/\Nw (w'.setCell (blk w1.heap.size) (.int .i64 e)) λw8=>Wr w8 ((blk w1.heap.size).add 1)/\Nw (w8.setCell ((blk w1.heap.size).add 1) (.int .i64 a)) λw9=>ldI w9 ((blk w1.heap.size).add 0) .i64 λx9=>ldI w9 ((blk w1.heap.size).add 1) .i64 λx10=>
    R (.agg #[.int .i64 x9,.int .i64 x10]) w9:=λ{w'} e a hS hb he=>
  st2 hS rfl λw9 hS9 c9=>Sp.load hS9 (by
   have:=hR w9 (c9.below hb (by omega))
   rw[<-he]at this
   exact this)
 refine h6.rI0 rfl (zr (λe=>?_) (λe=>?_))
 ·have e':(zQ x.2.1 pl).1≠0:=e
  exact Sp.load h6 (out _ _ hS6 hb6 (by unfold nmoE;rw[if_pos e']))
 have e':(zQ x.2.1 pl).1=0:=e
 obtain⟨k1,k2,k3⟩:=ziZ e'
 refine Mo.load hB6 ?_
 refine zmR (x:=x) (hN.below hb6) hp (λfs L w9 _ b9 hL hLc=>⟨fs,(0,0,()),rfl,?_⟩) (λw9 hne _=>absurd k2 hne)
 refine box2 rfl λw12 h12 b12 z12=>?_
 have b612:=b9.on b12
 have hb12:=hb6.on b612
 have hL12:=hL.below b12
 have hS12:=hS6.below b612
 have hB12:=hB6.below b612
 have hll:=hL.len
 have hfl:L.length=(cutF pl pl.length).length:=by rw[<-hLc,List.length_map]
 have hget:∀k (h:k<L.length) (h':k<(cutF pl pl.length).length),L[k].1=(cutF pl pl.length)[k]:=λk h h'=>by
  have:(L.map (·.1))[k]'(by rwa[List.length_map])=(cutF pl pl.length)[k]:=by congr 1
  rwa[List.getElem_map]at this
 have hc5:IsC 5 feV w12 fs L:=Own.isC zbl (by omega) hL12.own
 have hbd5:=hc5.bound
 have hcn:nmoE x pl=(match (cutF pl pl.length).findSome? (nflE x pl) with
   |some p=>p
   |none=>(0,0)):=by unfold nmoE;rw[if_neg (λh=>h e')];try rfl
 refine zl.count L.length hbd5 (λk w'=>Below w12.heap.size w12 w'/\∀i (h:i<(cutF pl pl.length).length),i<k->nflE x pl (cutF pl pl.length)[i]=none) ⟨Below.refl _ _,λi _ h=>by omega⟩ ?_
 rintro k w13 hk ⟨b13,hgood⟩ next hnext
 have hb13:=hb12.on b13
 have hL13:=hL12.below b13
 refine zi (λh=>?_) (λh=>?_)
 ·have hlt:k<L.length:=by dsimp only at h;omega
  have hkf:k<(cutF pl pl.length).length:=by omega
  have hin:L[k].1∈cutF pl pl.length:=by rw[hget k hlt hkf];exact List.getElem_mem hkf
  have hfe:=hget k hlt hkf
  have hFn:=zno k2 _ hin
  have hpos:0<L[k].1.bk.length:=List.length_pos_iff.2 hFn.ne
  have hfail:∀p,nflE x pl L[k].1=some p->p=nmoE x pl:=λp hpe=>by
   rw[hcn,yz hkf (v:=p) (by rw[<-hfe];exact hpe) λj h1 h2=>hgood j h1 h2]
  have bd13:Below w13.heap.size w13 w13.drew:=(Below.refl _ _).drew
  have hL13d:=hL13.below bd13
  have hF13:=hL13d.isFn (List.getElem_mem hlt)
  have hc13:IsC 5 feV w13.drew fs L:=Own.isC zbl (by omega) hL13d.own
  obtain⟨fa,hfa⟩:=hc13.base hlt
  have hcell:∀j u,j<5->(feV L[k])[j]? =some u->w13.drew.cell? ((fa.add (Int.toNat (k:Int)*5)).add j)=some u:=λj u hj hu=>by rw[zv];exact(hc13.cell fa hfa k hlt j hj).trans hu
  have hB13:=(hB12.below b13).below bd13
  have hidx:0<=(k:Int)/\(k:Int)<(fs.l:Int):=by omega
  have hS13:=hS12.below b13
  refine zk.cut (λ(st:(Option Addr)×Sl×Addr×Unit) w'=>∃(p:Option Addr) (ms:Sl) (sb:Nat),st=(p,ms,blk sb,())/\Below w13.heap.size w13 w'/\Blk w' sb 33 [.int .i64 (gnwE x pl L[k].1).1,.int .i64 (gnwE x pl L[k].1).2]/\((gnwE x pl L[k].1).1=0->∃rb,p=some (blk rb)/\IsR w' rb (zO (ye pl L[k].1.bk))/\NxOk (zO (ye pl L[k].1.bk))/\IsM w' ms (mgsP pl L[k].1.bk))) ?_ ?_
  ·refine Mo.load hB13 ⟨hidx,zf hfa ⟨_,hcell 0 _ (by omega) rfl,_,hcell 1 _ (by omega) rfl,L[k].2.1,hcell 2 _ (by omega) rfl,L[k].2.2,hcell 3 _ (by omega) rfl,_,hcell 4 _ (by omega) rfl,?_,?_⟩⟩
   ·refine zmS (x:=x) (v:=(L[k].1.id,L[k].1.at_,L[k].2.1,L[k].2.2,L[k].1.en,())) (f:=L[k].1) ((hN.below hb13).below bd13) hp h0 hF13 (λw14 e a b14 he hne=>⟨none,⟨none,0,0⟩,(e,a,()),rfl,?_⟩) (λw14 rb ms b14 he _ hG hNx hM=>⟨some (blk rb),ms,(0,0,()),rfl,?_⟩)
    ·refine box2 rfl λw17 h17 b17 z17=>⟨none,⟨none,0,0⟩,w14.heap.size,rfl,(bd13.on b14).on b17,by rw[<-he];exact h17,λh=>?_⟩
     rw[<-he]at h
     exact absurd h hne
    ·refine box2 rfl λw17 h17 b17 z17=>⟨some (blk rb),ms,w14.heap.size,rfl,(bd13.on b14).on b17,by rw[he];exact h17,λ_=>⟨rb,rfl,hG.below b17,hNx,IsC.below Zu hM b17⟩⟩
   ·refine zq λw18 hD18 b18 z18=>?_
    have hD18:Blk w18 w13.drew.heap.size 33 [.int .i64 0,.int .i64 0]:=hD18
    have hB18:=hB13.below b18
    have kp:∀j u,j<5->(feV L[k])[j]? =some u->w18.cell? ((fa.add (Int.toNat (k:Int)*5)).add j)=some u:=λj u hj hu=>yx b18 (hcell j u hj hu)
    refine⟨kp 0 _ (by omega) rfl,kp 1 _ (by omega) rfl,kp 2 _ (by omega) rfl,kp 3 _ (by omega) rfl,kp 4 _ (by omega) rfl,hB18.cell (n:=0) rfl,hB18.cell (n:=1) rfl,hB18.cell (n:=2) rfl,?_⟩
    have s13:=bd13.size
    refine zmS (x:=x) (v:=(L[k].1.id,L[k].1.at_,L[k].2.1,L[k].2.2,L[k].1.en,())) (f:=L[k].1) (((hN.below hb13).below bd13).below b18) hp h0 ((hL13d.below b18).isFn (List.getElem_mem hlt)) (λw19 e a b19 he hne=>⟨none,⟨none,0,0⟩,(e,a,()),rfl,?_⟩) (λw19 rb ms b19 he _ hG hNx hM=>⟨some (blk rb),ms,(0,0,()),rfl,?_⟩)
    ·refine st2 (hD18.below b19) rfl λw21 h21 c21=>⟨none,⟨none,0,0⟩,w13.drew.heap.size,rfl,c21.below ((bd13.on b18).on b19) s13,by rw[<-he];exact h21,λh=>?_⟩
     rw[<-he]at h
     exact absurd h hne
    ·have hD19:=hD18.below b19
     refine st2 hD19 rfl λw21 h21 c21=>?_
     have bs:=c21.same hD19 h21
     exact⟨some (blk rb),ms,w13.drew.heap.size,rfl,((bd13.on b18).on b19).on bs,by rw[he];exact h21,λ_=>⟨rb,rfl,hG.below bs,hNx,IsC.below Zu hM bs⟩⟩
  rintro _ w22 ⟨p,ms,sb,rfl,b22,hT22,hok⟩
  have hb22:=hb13.on b22
  have hS22:=hS13.below b22
  dsimp only
  refine hT22.rI0 rfl (zr (λhne=>?_) (λheq=>?_))
  ·have hn:nflE x pl L[k].1=some (gnwE x pl L[k].1):=by
    unfold nflE
    rw[if_pos hne]
   exact Sp.load hT22 (out _ _ hS22 hb22 (hfail _ hn))
  have heq:(gnwE x pl L[k].1).1=0:=heq
  obtain⟨rb,rfl,hG,hNx,hM⟩:=hok heq
  refine zrf hG hNx hM λw25 b25=>⟨((nchE pl L[k].1).1,(nchE pl L[k].1).2,()),rfl,?_⟩
  refine box2 rfl λw28 h28 b28 z28=>?_
  have b2228:=b25.on b28
  have b1328:=b22.on b2228
  refine h28.rI0 rfl (zr (λhne=>?_) (λheq2=>hnext w28 hlt ⟨b13.on b1328,λi q1 q2=>?_⟩))
  ·have hne:(nchE pl L[k].1).1≠0:=hne
   obtain⟨i,hi,hil⟩:=zsg (pl:=pl) hpos
   have hn:nflE x pl L[k].1=some ((nchE pl L[k].1).1,(L[k].1.bk.getD i (0,0,0)).2.2-1):=by
    unfold nflE
    rw[if_neg (by rw[heq];simp),if_pos hne,hi,Int.toNat_natCast]
   have bd:Below w28.heap.size w28 w28.drew:=(Below.refl _ _).drew
   have hL28:=hL13.below (b1328.on bd)
   have hc28:IsC 5 feV w28.drew fs L:=Own.isC zbl (by omega) hL28.own
   have hc3:=hc28.cell fa hfa k hlt 3 (by omega)
   refine h28.drew.rI0 rfl ⟨hidx,zf hfa ⟨L[k].2.2,by rw[zv];exact hc3,?_⟩⟩
   refine h28.drew.rI (n:=1) (x:=(nchE pl L[k].1).2) rfl ?_
   rw[hi]
   have hbk:=(hL28.isFn (List.getElem_mem hlt)).bk
   have hbl:=hbk.len
   obtain⟨ba,hba⟩:=hbk.base hil
   have hc:=hbk.cell ba hba i hil 2 (by omega)
   refine⟨⟨by omega,?_⟩,zf hba ⟨L[k].1.bk[i].2.2,by rw[zv];exact hc,?_⟩⟩
   ·have:L[k].2.2.l=L[k].1.bk.length:=hbl
    omega
   obtain⟨fr,to_,hbq,hft,htl,_⟩:=(hFn.ok _ (List.getElem_mem hil)).ex
   have hlen:=hp.len
   have hto:L[k].1.bk[i].2.2=(to_:Int):=by rw[hbq]
   rw[zG hil]at hn
   rw[zt (by omega) (by omega)]
   exact out _ _ (hS13.below (b1328.on bd)) (hb13.on (b1328.on bd)) (hfail _ hn)
  ·have heq2:(nchE pl L[k].1).1=0:=heq2
   by_cases ei:i=k
   ·subst ei
    rw[<-hfe]
    unfold nflE
    rw[if_neg (by rw[heq];simp),if_neg (by rw[heq2];simp)]
   ·exact hgood i q1 (by omega)
 ·have hno:(cutF pl pl.length).findSome? (nflE x pl)=none:=zeq λj hj=>hgood j hj (by dsimp only at h;omega)
  exact out 0 0 (hS12.below b13) hb13 (by rw[hcn,hno])
end
end Go.Proofs
namespace Go.Proofs
open Go.Gk Go.RowKit Go.Gm
end Go.Proofs
namespace Go.Proofs
open Go.Gk
set_option linter.unusedVariables false
set_option maxRecDepth 100000
end Go.Proofs
namespace Go.Proofs
open Go.Gk Go.RowKit Go.Gm
end Go.Proofs
namespace Go.Proofs
open Go.Gk Go.RowKit Go.Gm
end Go.Proofs
namespace Go.Proofs
open Go.Gk Go.RowKit Go.Gm
end Go.Proofs
namespace Go.Proofs
open Go.Gk Go.RowKit Go.Gm Go.Gr
section
variable {x:Mo} {pl:List PI} {w:World} {R:VWP}
theorem zjJ(hN:IsPl w x.2.2.1 pl)(hp:PlOk pl)(hbd:0<=x.2.1/\x.2.1<=4294967295)(hR:∀w',Below w.heap.size w w'->R (.bool true) w') :
  cR 4 #[moA x] w R:=by
 refine zb.of (zai x R w ?_) λ_ _ h=>h
 refine zq λw1 hB1 b1 z1=>?_
 have hB1:Blk w1 w.heap.size 25 (moV x):=hB1
 have hN1:=hN.below b1
 have hl:=hN.len
 have hmax:=hp.len
 have opOf:∀{q:Nat},q<pl.length->∀{φ:Int->Prop},(∀op,φ op)->ldS w1 ((blk w.heap.size).add 2) λx29=>(0<=(q:Int)/\(q:Int)<(x29.l:Int))/\zc x29.a λa30=>ldI w1 (a30.add ((Int.toNat (q:Int))*4)) .u16 φ:=by
  intro q hq φ hφ
  obtain⟨ba,hba⟩:=hN1.base hq
  obtain⟨t,q1,q2⟩:=hN1.elem ba hba q hq
  exact hB1.rS (n:=2) (x:=x.2.2.1) rfl ⟨⟨by omega,by omega⟩,zf hba ⟨_,q1 0 (by omega),hφ _⟩⟩
 refine zl.count pl.length (by omega) (λ_ w'=>w'=w1) rfl ?_
 rintro k w2 hk rfl next hnext
 refine hB1.rS (n:=2) (x:=x.2.2.1) rfl (zi (λh=>?_) (λh=>?_))
 ·have hlt:k<pl.length:=by dsimp only at h;omega
  refine zk.cut (λ(_:Int×Unit) w'=>w'=w2) ?_ ?_
  rotate_left
  ·rintro⟨n,_⟩ w6 rfl
   exact zi (λ_=>hR w6 b1) (λ_=>hnext w6 hlt rfl)
  refine zl.ghost (λm (st:Int×Int×Unit) w'=>w'=w2/\∃(n:Int) (j:Nat),st=(n,(j:Int),())/\m=pl.length-j/\j<=pl.length) (pl.length-k) ⟨rfl,0,k,rfl,rfl,by omega⟩ ?_
  rintro _ _ w3 ⟨rfl,n,j,rfl,rfl,hj⟩ next2 hnext2
  dsimp only
  refine zk.cut (λ(_:Unit) w'=>w'=w3/\j<pl.length) ?_ ?_
  ·refine hB1.rS (n:=2) (x:=x.2.2.1) rfl (zi (λh=>?_) (λ_=>rfl))
   have hjl:j<pl.length:=by omega
   exact opOf hjl λop=>zm (λ_=>⟨rfl,hjl⟩) (λ_=>rfl)
  rintro _ w4 ⟨rfl,hjl⟩
  refine zk.cut (λ(_:Int×Unit) w'=>w'=w4) (opOf hjl λop=>zm (λ_=>rfl) (λ_=>rfl)) ?_
  rintro⟨n',_⟩ w5 rfl
  rw[zE (by omega)]
  exact hnext2 (pl.length-(j+1)) _ w5 (by omega) ⟨rfl,n',j+1,rfl,rfl,by omega⟩
 ·refine Mo.load hB1 ?_
  refine zkN (x:=x) hN1 hp λcb w7 _ _ hC7 b7=>⟨(x.1,x.2.1,⟨some (blk cb),pl.length,pl.length⟩,()),rfl,?_⟩
  refine box3 rfl λw11 hD11 b11 z11=>?_
  have hD11:Blk w11 w7.heap.size 25 (moV (x.1,x.2.1,⟨some (blk cb),pl.length,pl.length⟩,())):=hD11
  have bd:Below w11.heap.size w11 w11.drew:=(Below.refl _ _).drew
  have b211:=(b7.on b11).on bd
  have hb11:=b1.on b211
  have hB11:=hB1.below b211
  refine Mo.load (hD11.below bd) (Mo.load hB11 ?_)
  have hC11:=(hC7.below b11).below bd
  refine zrb (x:=(x.1,x.2.1,⟨some (blk cb),pl.length,pl.length⟩,())) hC11 hp hbd.1 λw12 b12=>⟨((nmoE x pl).1,(nmoE x pl).2,()),rfl,?_⟩
  have hB12:=hB11.below b12
  refine⟨hB12.cell (n:=0) rfl,hB12.cell (n:=1) rfl,hB12.cell (n:=2) rfl,?_⟩
  refine zrj (x:=x) ((hN.below hb11).below b12) hp hbd.1 λw13 b13=>⟨((nmoE x pl).1,(nmoE x pl).2,()),rfl,zF (by simp) ?_⟩
  have b1113:=b12.on b13
  refine Mo.load ((hD11.below bd).below b1113) (Mo.load (hB11.below b1113) ?_)
  refine znJ (x:=(x.1,x.2.1,⟨some (blk cb),pl.length,pl.length⟩,())) (y:=x) (hC11.below b1113) ((hN.below hb11).below b1113) λw14 b14=>⟨_,rfl,?_⟩
  refine zF (decide_eq_true ⟨rfl,rfl,rfl⟩) ?_
  exact zo7 λw15 b15=>⟨true,rfl,hR w15 (((hb11.on b1113).on b14).on b15)⟩
end
end Go.Proofs
