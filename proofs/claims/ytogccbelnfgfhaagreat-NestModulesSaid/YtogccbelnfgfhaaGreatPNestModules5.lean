/- NestModules, part 5; made small by a program. -/
import Derived.Test.YtogccbelnfgfhaaGreatProg
import Derived.ScopeJumps
import Derived.Test.YtogccbelnfgfhaaGreatPNestModules4
namespace Go.Gk
theorem zl.countS2{α β:Type}{body:α×β×Int×Unit->World->(α×β×Int×Unit->World->Prop)->Prop}{w:World}{a0:α}{b0:β}(n:Nat)(hn:n<=9223372036854775807)(I:Nat->α->β->World->Prop)(h0:I 0 a0 b0 w)
  (h:∀k a b w,k<=n->I k a b w->∀next:α×β×Int×Unit->World->Prop,(∀a' b' w',k<n->I (k+1) a' b' w'->next (a',b',IntKind.i64.wrap ((k:Int)+1),()) w')->body (a,b,(k:Int),()) w next):zl body (a0,b0,(0:Int),()) w:=by
 refine zl.ghost (λj s w=>∃k:Nat,k<=n/\j=n-k/\∃a b,s=(a,b,(k:Int),())/\I k a b w) n ⟨0,Nat.zero_le _,rfl,a0,b0,rfl,h0⟩ ?_
 rintro _ _ w ⟨k,hk,rfl,a,b,rfl,hI⟩ next hnext
 refine h k a b w hk hI next λa' b' w' hlt hI'=>?_
 rw[zE (by omega)]
 exact hnext (n-(k+1)) _ _ (by omega) ⟨k+1,by omega,rfl,a',b',rfl,hI'⟩
end Go.Gk
namespace Go.Proofs
open Go.Gk Go.RowKit Go.Gr Go.Dm
section
variable {xb rb:Nat} {nx:List (List Nat)} {ml:List Mg} {s:Sl} {w:World} {R:VWP}
theorem IsX.gr(h:IsX w xb rb s nx ml){φ:Option Addr->Prop}(hφ:φ (some (Gk.blk rb))):zc (some (Gk.blk xb)) λa1=>ldP w a1 φ:=by
 obtain⟨wb,is,ds,bl,h1,_⟩:=h.ex
 exact zf rfl ⟨_,h1.cell0 rfl,hφ⟩
theorem IsX.row(h:IsX w xb rb s nx ml){a:Nat}(ha:a<nx.length){φ:Sl->Prop}
  (hφ:∀x:Sl,(∀{b:Nat},b<nx.length->∀{ψ:Bool->Prop},(∀v,(v=true↔DW (zz nx ml) (a:Int) (b:Int))->ψ v)->(0<=(b:Int)/\(b:Int)<(x.l:Int))/\zc x.a λa7=>ldB w (a7.add (Int.toNat (b:Int))) ψ)->φ x) :
  zc (some (Gk.blk xb)) λa3=>ldS w (a3.add 4) λx4=>(0<=(a:Int)/\(a:Int)<(x4.l:Int))/\zc x4.a λa5=>ldS w (a5.add (Int.toNat (a:Int))) φ:=by
 obtain⟨wb,is,ds,bl,h1,h2,h3,h4,hs,g1,g2,g3⟩:=h.ex
 obtain⟨bl2,g4,g5,g6⟩:=g3 a (by omega)
 refine zf rfl ⟨ds,h1.cell (n:=4) rfl,zhU g1 (k:=a) (by omega) (hφ _ λ{b} hb {ψ} hψ=>zql g4 (k:=b) (by omega) (hψ _ ?_))⟩
 rw[show bl2[b]'(by omega)=bl2.getD b false by simp[List.getD,show b<bl2.length by omega],g6,zlh]
theorem IsX.all(h:IsX w xb rb s nx ml){φ:Sl->Prop}
  (hφ:∀x:Sl,(∀{a b:Nat},a<nx.length->b<nx.length->∀{ψ:Bool->Prop},(∀v,(v=true↔DW (zz nx ml) (a:Int) (b:Int))->ψ v)->(0<=(a:Int)/\(a:Int)<(x.l:Int))/\zc x.a λa5=>ldS w (a5.add (Int.toNat (a:Int))) λx6=>(0<=(b:Int)/\(b:Int)<(x6.l:Int))/\zc x6.a λa7=>ldB w (a7.add (Int.toNat (b:Int))) ψ)->φ x) :
  zc (some (Gk.blk xb)) λa3=>ldS w (a3.add 4) φ:=by
 obtain⟨wb,is,ds,bl,h1,h2,h3,h4,h5⟩:=h.ex
 exact zf rfl ⟨ds,h1.cell (n:=4) rfl,hφ _ λ{a b} ha hb {ψ} hψ=>h5.get ha hb λv hv=>hψ v (by rw[zlh];exact hv)⟩
theorem fls{P:Prop}(h:¬P):(false=true)↔P:=⟨λe=>(by cases e),λh'=>absurd h' h⟩
theorem tru{P:Prop}(h:P):(true=true)↔P:=⟨λ_=>h,λ_=>rfl⟩
theorem YH{b:Bool}{P:Prop}(h:b=true↔P)(e:b=false):¬P:=λhp=>by rw[h.2 hp]at e;cases e
variable (h:IsX w xb rb s nx ml)
include h
theorem IsX.co_lt{x:Nat}(hx:x<nx.length)(hk:kdM ml x=2):∃t:Nat,coM ml x=(t:Int)/\t<nx.length/\t∈(zz nx ml).getD x []:=by
 obtain⟨t,e,ht⟩:=ztg h.d hx hk
 have:=h.d.okw.rows x t ht
 rw[zf0]at this
 exact⟨t,e,this,ht⟩
theorem IsX.to_lt{x:Nat}(hx:x<nx.length)(hk:kdM ml x≠0):∃t:Nat,toM ml x=(t:Int)/\t<nx.length:=by
 obtain⟨t,e,ht⟩:=zsv h.d hx hk
 have:=h.d.okw.rows x t ht
 rw[zf0]at this
 exact⟨t,e,this⟩
theorem IsX.kd{i:Nat}(hi:i<nx.length){φ:Int->Prop}(hφ:φ (kdM ml i)):zc (some (Gk.blk xb)) λa5=>ldS w (a5.add 1) λx2=>(0<=(i:Int)/\(i:Int)<(x2.l:Int))/\zc x2.a λa=>ldI w (a.add (Int.toNat (i:Int)*3)) .u8 φ:=by
 have:=h.len
 refine h.ms (zcd h.m (k:=i) (by omega) ?_)
 rw[zeX (by omega)]
 exact hφ
theorem IsX.to{i:Nat}(hi:i<nx.length){φ:Int->Prop}(hφ:φ (toM ml i)):zc (some (Gk.blk xb)) λa5=>ldS w (a5.add 1) λx2=>(0<=(i:Int)/\(i:Int)<(x2.l:Int))/\zc x2.a λa=>ldI w ((a.add (Int.toNat (i:Int)*3)).add 1) .i64 φ:=by
 have:=h.len
 refine h.ms (zim h.m (k:=i) (by omega) ?_)
 rw[zeX (by omega)]
 exact hφ
theorem IsX.co{i:Nat}(hi:i<nx.length){φ:Int->Prop}(hφ:φ (coM ml i)):zc (some (Gk.blk xb)) λa5=>ldS w (a5.add 1) λx2=>(0<=(i:Int)/\(i:Int)<(x2.l:Int))/\zc x2.a λa=>ldI w ((a.add (Int.toNat (i:Int)*3)).add 2) .i64 φ:=by
 have:=h.len
 refine h.ms (zl3 h.m (k:=i) (by omega) ?_)
 rw[zeX (by omega)]
 exact hφ
theorem zpM{i:Nat}(hi:i<nx.length)(hR:∀b w',Below w.heap.size w w'->(b=true↔zkE nx ml i 0)->R (.bool b) w'):cR 182 #[.pointer (some (Gk.blk xb)),.int .i64 (i:Int)] w R:=by
 refine zb.of (zbU _ (i:Int) R w ?_) λ_ _ h=>h
 refine h.kd hi (zj (λe=>h.gr (zfV h.d.ok h.g λr w1 o b=>⟨r,rfl,hR _ w1 b ?_⟩)) λe=>hR _ w (Below.refl _ _) (fls λhh=>e hh.1))
 rw[zU]at o
 have:=yh o
 rw[decide_eq_true_iff]
 exact⟨λq=>⟨e,by omega⟩,λq=>by have:=q.2;omega⟩
theorem zn6{i:Nat}(hi:i<nx.length)(hR:∀b w',Below w.heap.size w w'->(b=true↔zkE nx ml i 1)->R (.bool b) w'):cR 183 #[.pointer (some (Gk.blk xb)),.int .i64 (i:Int)] w R:=by
 refine zb.of (zbc _ (i:Int) R w ?_) λ_ _ h=>h
 have hmx:=h.d.ok.max
 have hR:∀b w',Below w.heap.size w w'->(b=true↔znc nx ml i)->R (.bool b) w':=hR
 refine h.kd hi (zj (λe=>hR _ w (Below.refl _ _) (fls λhh=>hh.1 e)) λhk=>h.to hi ?_)
 obtain⟨t,et,htl⟩:=h.to_lt hi hk
 have et':toM ml i=(t:Int):=et
 rw[et]
 refine zk.cut (λ_ w'=>w'=w/\t≠i/\DW (zz nx ml) (i:Int) (t:Int)) ?_ ?_
 ·refine zj (λe=>hR _ w (Below.refl _ _) (tru ⟨hk,.inl (by rw[et'];exact e)⟩)) λhne=>h.dom hi htl λv hv=>zy (zm (λe1=>⟨rfl,λe=>hne (by rw[e]),hv.1 e1⟩) λe1=>hR _ w (Below.refl _ _) (tru ⟨hk,.inr (.inl (by rw[et'];exact YH hv e1))⟩))
 rintro _ wz ⟨ez,hti,hdt⟩
 have ez:=ez.symm
 subst ez
 refine h.kd hi ?_
 have bd:Below w.heap.size w w.drew:=(Below.refl _ _).drew
 have h':=h.below bd
 refine zk.cut (λ_ w'=>w'=w.drew/\(kdM ml i=2->coM ml i≠(t:Int)/\DW (zz nx ml) (i:Int) (coM ml i))) ?_ ?_
 ·refine zj (λe2=>h'.co hi (zj (λe=>hR _ _ bd (tru ⟨hk,.inr (.inr (.inl ⟨e2,.inl (by rw[et'];exact e)⟩))⟩)) λhne=>h'.row hi λx30 h30=>h'.co hi ?_)) λe2=>⟨rfl,λe=>absurd e e2⟩
  obtain⟨c,ec,hcl,_⟩:=h.co_lt hi e2
  rw[ec]at hne⊢
  refine h30 hcl λv hv=>zy (zm (λe3=>⟨rfl,λ_=>⟨hne,hv.1 e3⟩⟩) λe3=>hR _ _ bd (tru ⟨hk,.inr (.inr (.inl ⟨e2,.inr (by rw[ec];exact YH hv e3)⟩))⟩))
 rintro _ _ ⟨rfl,hco⟩
 refine zl.count nx.length (by omega) (λk w'=>Below w.heap.size w w'/\∀o,o<k->o≠i->zkq nx ml o->¬(toM ml o=(t:Int)\/(kdM ml i=2/\kdM ml o=2/\coM ml o=coM ml i))) ⟨bd,λo ho=>by omega⟩ ?_
 rintro k w3 hk3 ⟨b3,hno⟩ next hnext
 have h3:=h.below b3
 refine h3.ms (zi (λhlt=>?_) λhge=>hR _ w3 b3 (fls ?_))
 ·have hlt:k<nx.length:=by have:=h.len;dsimp only at hlt;omega
  refine zk.cut (λ_ w'=>Below w.heap.size w w'/\(k≠i->zkq nx ml k->¬(toM ml k=(t:Int)\/(kdM ml i=2/\kdM ml k=2/\coM ml k=coM ml i)))) ?_ λ_ w' ⟨q1,q2⟩=>hnext _ hlt ⟨q1,λo ho=>?_⟩
  ·refine zk.cut (λ_ w'=>w'=w3/\k≠i/\zkq nx ml k) ?_ ?_
   ·refine zj (λe=>⟨b3,λhne=>absurd (by dsimp only at e;omega) hne⟩) λhne=>zjF h3 hlt λb hb=>⟨b,rfl,zy (zm (λeb=>⟨rfl,λe=>hne (by rw[e]),hb.1 eb⟩) λeb=>⟨b3,λ_ hh=>absurd hh (YH hb eb)⟩)⟩
   rintro _ wz ⟨ez,hne,hh⟩
   have ez:=ez.symm
   subst ez
   have bd3:Below w.heap.size w w3.drew:=b3.drew
   have h3':=h.below bd3
   have yes:(toM ml k=(t:Int)\/(kdM ml i=2/\kdM ml k=2/\coM ml k=coM ml i))->R (.bool true) w3.drew:=λq=>hR _ _ bd3 (tru ⟨hk,.inr (.inr (.inr ⟨k,hlt,hne,hh,by rw[et'];exact q⟩))⟩)
   refine h3'.to hlt (zj (λe=>yes (.inl e)) λne1=>zj (λe2=>h3'.kd hlt (zj (λe3=>h3'.co hlt (h3'.co hi (zj (λe4=>yes (.inr ⟨e2,e3,e4⟩)) λne4=>⟨bd3,λ_ _ q=>?_⟩))) λne3=>⟨bd3,λ_ _ q=>?_⟩)) λne2=>⟨bd3,λ_ _ q=>?_⟩)
   ·rcases q with q |q
    ·exact ne1 q
    ·exact ne4 q.2.2
   ·rcases q with q |q
    ·exact ne1 q
    ·exact ne3 q.2.1
   ·rcases q with q |q
    ·exact ne1 q
    ·exact ne2 q.1
  ·by_cases e:o=k
   ·rw[e];exact q2
   ·exact hno o (by omega)
 ·have hke:k=nx.length:=by have:=h.len;dsimp only at hge;omega
  rintro⟨_,q |q |q | ⟨o,ho,hoi,hh,q⟩⟩
  ·rw[et']at q;omega
  ·rw[et']at q;exact q hdt
  ·obtain⟨q1,q2⟩:=hco q.1
   rcases q.2 with q3 |q3
   ·rw[et']at q3;exact q1 q3
   ·exact q3 q2
  ·rw[et']at q
   exact hno o (by omega) hoi hh q
noncomputable def fwdL(nx:List (List Nat))(ml:List Mg)(i k:Nat):List Nat:=((nx.getD i []).take k).filter λt=>!dwB nx ml t i
theorem zmj{i:Nat}(hi:i<nx.length)(hR:∀r w',Below w.heap.size w w'->Own w' 3 1 r ((fwdL nx ml i (nx.getD i []).length).map iN)->R (.slice r.a r.l r.c) w'):cR 263 #[.pointer (some (Gk.blk xb)),.int .i64 (i:Int)] w R:=by
 refine zb.of (zaa _ (i:Int) R w ?_) λ_ _ h=>h
 have hmx:=h.d.ok.max
 have hrl:=h.d.ok.row_le i
 refine h.gr (zfV h.d.ok h.g λr4 w1 o4 b1=>⟨r4,rfl,?_⟩)
 rw[zU]at o4
 have z1:=b1.size
 have i4:IsI w1 r4 ((nx.getD i []).map λ(x:Nat)=>(x:Int)):=IsS.toI (Own.isS o4)
 have l4:=yh o4
 refine zl.countS (nx.getD i []).length (by omega) (λk (l:Sl) w'=>Below w1.heap.size w1 w'/\w1.heap.size<=w'.heap.size/\Own w' 3 1 l ((fwdL nx ml i k).map iN)/\zw w1.heap.size l) ⟨Below.refl _ _,Nat.le_refl _,Own.nil _ _ _,λa ha=>by cases ha⟩ ?_
 rintro k l w2 hk ⟨b2,z2,o2,f2⟩ next hnext
 refine zi (λhlt=>?_) (λhge=>?_)
 ·have hlt:k<(nx.getD i []).length:=by dsimp only at hlt;omega
  have bd:Below w1.heap.size w1 w2.drew:=b2.drew
  have h':=(h.below b1).below bd
  have ht:=h.d.ok.rows i _ (List.getElem_mem hlt)
  have i4':=i4.below bd
  have hfl:(fwdL nx ml i k).length<=k:=by
   unfold fwdL
   have:=List.length_filter_le (λt=>!dwB nx ml t i) ((nx.getD i []).take k)
   rw[List.length_take]at this
   omega
  have e:fwdL nx ml i (k+1)=fwdL nx ml i k++if (!dwB nx ml (nx.getD i [])[k] i)=true then [(nx.getD i [])[k]] else []:=by
   unfold fwdL
   rw[List.take_succ_eq_append_getElem hlt,List.filter_append]
   congr 1
   simp[List.filter_cons]
  refine zk.cut (λ(st:Sl×Unit) w'=>Below w1.heap.size w1 w'/\w1.heap.size<=w'.heap.size/\Own w' 3 1 st.1 ((fwdL nx ml i (k+1)).map iN)/\zw w1.heap.size st.1) ?_ λst w' hh=>hnext _ _ hlt hh
  refine h'.all λx10 h10=>yv i4' (k:=k) (by rw[List.length_map];exact hlt) ?_
  rw[List.getElem_map]
  refine h10 ht hi λv hv=>zy (zm (λev=>⟨bd,z2,?_,f2⟩) λev=>yv i4' (k:=k) (by rw[List.length_map];exact hlt) ?_)
  ·rw[e,if_neg (by rw[zhl.2 (hv.1 ev)];simp),List.append_nil]
   exact o2
  ·rw[List.getElem_map]
   refine Yi rfl bd z2 (o2.drew) f2 (by omega) λr' w' q1 q2 q3 q4=>⟨q1,q2,?_,q4⟩
   have:dwB nx ml (nx.getD i [])[k] i=false:=by rw[<-Bool.not_eq_true,zhl];exact YH hv ev
   rw[e,if_pos (by rw[this];rfl)]
   exact q3
 ·have:k=(nx.getD i []).length:=by dsimp only at hge;omega
  subst this
  exact hR l w2 (b1.trans (b2.mono z1)) o2
omit h in
theorem zsd{i t:Nat}:t∈fwdL nx ml i (nx.getD i []).length↔FEM nx ml i t:=by
 unfold fwdL FEM
 rw[List.take_length,List.mem_filter,Bool.not_eq_true',<-Bool.not_eq_true,zhl]
end
end Go.Proofs
namespace Go.Proofs
open Go.Gk Go.RowKit Go.Gr Go.Dm
section
variable {xb rb:Nat} {nx:List (List Nat)} {ml:List Mg} {s:Sl} {w:World} {R:VWP}
variable (h:IsX w xb rb s nx ml)
include h
set_option maxHeartbeats 4000000 in
theorem zoJ{fr to:Nat}(hf:fr<nx.length)(ht:to<nx.length)(hR:∀b w',Below w.heap.size w w'->(b=true↔Way (FEM nx ml) fr to)->R (.bool b) w') :
  cR 232 #[.pointer (some (Gk.blk xb)),.int .i64 (fr:Int),.int .i64 (to:Int)] w R:=by
 refine zb.of (zbb _ (fr:Int) (to:Int) R w ?_) λ_ _ h=>h
 have hmx:=h.d.ok.max
 have hsl:=h.len.1
 refine h.ms ⟨⟨by omega,by omega,by omega,by omega⟩,Nw.gen λw1 hw1=>⟨⟨by omega,by omega⟩,?_⟩⟩
 obtain⟨B,hB⟩:∃B,B=w.heap.size:=⟨_,rfl⟩
 have k1:Blk w1 B 4 ((List.replicate nx.length false).map Value.bool):=by
  have e:(List.replicate nx.length false).map Value.bool=List.replicate nx.length (.bool false):=List.map_replicate
  rw[hw1,hB,hsl,e]
  exact Blk.made w _ _ nx.length
 have b1:Below w.heap.size w w1:=by rw[hw1];exact(Below.refl _ _).alloc (Nat.le_refl _) _
 rw[<-hB]
 clear hw1
 refine⟨k1.wr (n:=fr) (by simp;omega),Nw.gen λw2 hw2=>?_⟩
 have k2:Blk w2 B 4 (((List.replicate nx.length false).set fr true).map Value.bool):=by rw[hw2,List.map_set];exact k1.set fr _
 have b2:Below w.heap.size w w2:=by rw[hw2];exact b1.setCell (by rw[zn];show w.heap.size<=B;omega) _
 clear hw2
 have rep:∀j,(List.replicate nx.length false).getD j false=false:=λj=>by
  simp[List.getD,List.getElem?_replicate]
  split<;>rfl
 let Mk:List Bool->World->Prop:=λbl w'=>Below w.heap.size w w'/\Blk w' B 4 (bl.map Value.bool)/\bl.length=nx.length/\(∀j,bl.getD j false=true->Way (FEM nx ml) fr j)/\bl.getD fr false=true
 have m2:Mk ((List.replicate nx.length false).set fr true) w2:=by
  refine⟨b2,k2,by simp,λj hj=>?_,?_⟩
  ·rw[YZ (by simp;omega),rep,Bool.false_or]at hj
   have:j=fr:=by simpa using hj
   rw[this];exact .refl
  ·rw[YZ (by simp;omega)];simp
 let Cl:List Bool->Nat->Prop:=λbl i=>bl.getD i false=true->∀t,FEM nx ml i t->bl.getD t false=true
 refine zl.ghost (λj (st:Bool×Unit) w'=>∃bl,Mk bl w'/\((st.1=true/\j=nx.length-bl.count true+1)\/(st.1=false/\j=0/\∀i,i<nx.length->Cl bl i))) _ ⟨_,m2,.inl ⟨rfl,rfl⟩⟩ ?_
 rintro j ⟨more,_⟩ w3 ⟨bl0,hM,hst⟩ next hnext
 refine zm (λem=>?_) λem=>?_
 ·have em:more=true:=em
  subst em
  have hj:j=nx.length-bl0.count true+1:=by
   rcases hst with q |q
   ·exact q.2
   ·exact absurd q.1 (by simp)
  have hc0:bl0.count true<=nx.length:=by rw[<-hM.2.2.1];exact List.count_le_length
  let St:Nat->Bool->List Bool->Prop:=λi mo bl=>(mo=false->bl=bl0/\∀k,k<i->Cl bl k)/\(mo=true->bl0.count true<bl.count true)
  refine zl.countS nx.length (by omega) (λi (mo:Bool) w'=>∃bl,Mk bl w'/\St i mo bl) ⟨bl0,hM,λ_=>⟨rfl,λk hk=>by omega⟩,λe=>by cases e⟩ ?_
  rintro i mo w4 hi ⟨bl,hM4,hS4⟩ next2 hnext2
  have h4:=h.below hM4.1
  refine h4.ms (zi (λhlt=>?_) λhge=>?_)
  ·have hlt:i<nx.length:=by dsimp only at hlt;omega
   refine zk.cut (λ(st:Bool×Unit) w'=>∃bl,Mk bl w'/\St (i+1) st.1 bl) ?_ λst w' hh=>hnext2 _ _ hlt hh
   refine⟨⟨by dsimp only;omega,by dsimp only;omega⟩,_,hM4.2.1.cell (Yg (by rw[hM4.2.2.1];exact hlt)),zy (zm (λe1=>?_) λe1=>?_)⟩
   ·have e1:bl.getD i false=true:=e1
    refine zmj h4 hlt λr w5 b5 o5=>⟨r,rfl,?_⟩
    have i5:IsI w5 r ((fwdL nx ml i (nx.getD i []).length).map λ(x:Nat)=>(x:Int)):=IsS.toI (Own.isS o5)
    have l5:=yh o5
    obtain⟨L,hL⟩:∃L,L=fwdL nx ml i (nx.getD i []).length:=⟨_,rfl⟩
    have memL:∀t,t∈L↔FEM nx ml i t:=λt=>by rw[hL];exact zsd
    have hLl:L.length<=4096:=by
     rw[hL];unfold fwdL
     have:=List.length_filter_le (λt=>!dwB nx ml t i) ((nx.getD i []).take (nx.getD i []).length)
     rw[List.take_length]at this
     have:=h.d.ok.row_le i
     rw[List.take_length]
     omega
    rw[<-hL]at i5 l5
    have rB:r.a≠some (Gk.blk B)\/r.l=0\/True:=.inr (.inr trivial)
    clear rB
    have hM5:Mk bl w5:=⟨hM4.1.trans (b5.mono hM4.1.size),hM4.2.1.below b5,hM4.2.2.1,hM4.2.2.2.1,hM4.2.2.2.2⟩
    have hrow:∀{w'},Only ⟨some (Gk.blk B),nx.length,nx.length⟩ w5 w'->IsI w' r (L.map λ(x:Nat)=>(x:Int)):=λ{w'} on=>i5.of_block λa ha _=>by
     refine on.block _ λa' ha' e=>?_
     cases ha'
     have e:B=a.block:=e
     obtain⟨cs,hcs⟩:=o5.type ha
     rw[<-e]at hcs
     exact absurd (hcs.type hM5.2.1) (by decide)
    refine zl.countS L.length (by omega) (λk (mo:Bool) w'=>∃bl,Mk bl w'/\Only ⟨some (Gk.blk B),nx.length,nx.length⟩ w5 w'/\bl.getD i false=true/\((mo=false->bl=bl0/\(∀k,k<i->Cl bl k)/\∀m (hm:m<L.length),m<k->bl.getD L[m] false=true)/\(mo=true->bl0.count true<bl.count true))) ⟨bl,hM5,Only.refl _ _,e1,λe=>⟨(hS4.1 e).1,(hS4.1 e).2,λm hm hm0=>by omega⟩,hS4.2⟩ ?_
    rintro k mo w6 hk ⟨bl,hM6,on6,e1,hA,hB2⟩ next3 hnext3
    have i6:=hrow on6
    refine zi (λhlt2=>?_) λhge2=>?_
    ·have hlt2:k<L.length:=by dsimp only at hlt2;omega
     have htl:L[k]<nx.length:=h.d.ok.rows i _ ((memL _).1 (List.getElem_mem hlt2)).1
     refine zk.cut (λ(st:Bool×Unit) w'=>∃bl,Mk bl w'/\Only ⟨some (Gk.blk B),nx.length,nx.length⟩ w5 w'/\bl.getD i false=true/\((st.1=false->bl=bl0/\(∀k,k<i->Cl bl k)/\∀m (hm:m<L.length),m<k+1->bl.getD L[m] false=true)/\(st.1=true->bl0.count true<bl.count true))) ?_ λst w' hh=>hnext3 _ _ hlt2 hh
     refine yv i6 (k:=k) (by rw[List.length_map];exact hlt2) ?_
     rw[List.getElem_map]
     refine⟨⟨by omega,by omega⟩,_,hM6.2.1.cell (n:=L[k]) (Yg (by rw[hM6.2.2.1];exact htl)),zy (zm (λe2=>?_) λe2=>yv i6 (k:=k) (by rw[List.length_map];exact hlt2) ?_)⟩
     ·refine⟨bl,hM6,on6,e1,λe=>⟨(hA e).1,(hA e).2.1,λm hm hm1=>?_⟩,hB2⟩
      by_cases em:m=k
      ·subst em;exact e2
      ·exact(hA e).2.2 m hm (by omega)
     ·rw[List.getElem_map]
      have e2:bl.getD L[k] false=false:=e2
      refine⟨⟨by omega,by omega⟩,hM6.2.1.wr (n:=L[k]) (by rw[List.length_map,hM6.2.2.1];exact htl),Nw.mk ⟨bl.set L[k] true,⟨hM6.1.setCell (by rw[zn];show w.heap.size<=B;omega) _,?_,by rw[List.length_set];exact hM6.2.2.1,λj hj=>?_,?_⟩,on6.set rfl _ _,?_,(λe=>by cases e),λ_=>?_⟩⟩
      ·rw[List.map_set];exact hM6.2.1.set _ _
      ·rw[YZ (by rw[hM6.2.2.1];exact htl)]at hj
       by_cases e:j=L[k]
       ·rw[e];exact .step (hM6.2.2.2.1 i e1) ((memL _).1 (List.getElem_mem hlt2))
       ·have:(j==L[k])=false:=by simpa using e
        rw[this,Bool.or_false]at hj
        exact hM6.2.2.2.1 j hj
      ·rw[YZ (by rw[hM6.2.2.1];exact htl),hM6.2.2.2.2];rfl
      ·rw[YZ (by rw[hM6.2.2.1];exact htl),e1];rfl
      ·have up:=znZ (bl:=bl) (t:=L[k]) (by rw[hM6.2.2.1];exact htl) e2
       cases mo with
       |true=>have:=hB2 rfl;omega
       |false=>have:=(hA rfl).1;rw[<-this];exact up
    ·have hkL:k=L.length:=by dsimp only at hge2;omega
     refine⟨bl,hM6,λe=>⟨(hA e).1,λk' hk'=>?_⟩,hB2⟩
     by_cases e':k'=i
     ·subst e'
      intro _ t ht'
      obtain⟨m,hm,em⟩:=List.getElem_of_mem ((memL t).2 ht')
      rw[<-em]
      exact(hA e).2.2 m hm (by omega)
     ·exact(hA e).2.1 k' (by omega)
   ·have e1:bl.getD i false=false:=e1
    refine⟨bl,hM4,λe=>⟨(hS4.1 e).1,λk hk=>?_⟩,hS4.2⟩
    by_cases ek:k=i
    ·subst ek;exact λe'=>by rw[e1]at e';cases e'
    ·exact(hS4.1 e).2 k (by omega)
  ·have:i=nx.length:=by dsimp only at hge;omega
   subst this
   cases mo with
   |true=>
    have hc:=hS4.2 rfl
    have hc2:bl.count true<=nx.length:=by rw[<-hM4.2.2.1];exact List.count_le_length
    exact hnext (nx.length-bl.count true+1) _ _ (by omega) ⟨bl,hM4,.inl ⟨rfl,rfl⟩⟩
   |false=>exact hnext 0 _ _ (by omega) ⟨bl,hM4,.inr ⟨rfl,rfl,(hS4.1 rfl).2⟩⟩
 ·have em:more=false:=em
  subst em
  have hcl:∀i,i<nx.length->Cl bl0 i:=by
   rcases hst with q |q
   ·exact absurd q.1 (by simp)
   ·exact q.2.2
  refine⟨⟨by omega,by omega⟩,_,hM.2.1.cell (n:=to) (Yg (by rw[hM.2.2.1];exact ht)),hR _ w3 hM.1 ⟨hM.2.2.2.1 to,λhw=>?_⟩⟩
  show bl0.getD to false=true
  clear ht hR
  induction hw with
  |refl=>exact hM.2.2.2.2
  |step h1 h2 ih=>
   rename_i b c
   refine hcl b ?_ ih c h2
   by_cases e:b<nx.length
   ·exact e
   ·have:=ih
    simp[List.getD,List.getElem?_eq_none (show bl0.length<=b by rw[hM.2.2.1];omega)]at this
theorem zpL{i:Nat}(hi:i<nx.length)(hR:∀b w',Below w.heap.size w w'->(b=true↔zkE nx ml i 2)->R (.bool b) w'):cR 184 #[.pointer (some (Gk.blk xb)),.int .i64 (i:Int)] w R:=by
 refine zb.of (zbT _ (i:Int) R w ?_) λ_ _ h=>h
 have hR:∀b w',Below w.heap.size w w'->(b=true↔znA nx ml i)->R (.bool b) w':=hR
 have hmx:=h.d.ok.max
 have hrl:=h.d.ok.row_le i
 refine h.gr (zfV h.d.ok h.g λr4 w1 o4 b1=>⟨r4,rfl,?_⟩)
 rw[zU]at o4
 have z1:=b1.size
 have i4:IsI w1 r4 ((nx.getD i []).map λ(x:Nat)=>(x:Int)):=IsS.toI (Own.isS o4)
 have l4:=yh o4
 refine zl.count (nx.getD i []).length (by omega) (λk w'=>Below w1.heap.size w1 w'/\∀v∈(nx.getD i []).take k,¬znb nx ml i v) ⟨Below.refl _ _,by simp⟩ ?_
 rintro k w2 hk ⟨b2,hno⟩ next hnext
 have b12:=b1.trans (b2.mono z1)
 have h2:=h.below b12
 refine zi (λhlt=>?_) (λhge=>?_)
 ·have hlt:k<(nx.getD i []).length:=by dsimp only at hlt;omega
  obtain⟨v,hv⟩:∃v,v=(nx.getD i [])[k]:=⟨_,rfl⟩
  have hvm:v∈nx.getD i []:=by rw[hv];exact List.getElem_mem _
  have hvl:=h.d.ok.rows i v hvm
  refine zk.cut (λ_ w'=>Below w1.heap.size w1 w'/\¬znb nx ml i v) ?_ λ_ w' ⟨q1,q2⟩=>hnext _ hlt ⟨q1,λx hx=>?_⟩
  ·refine yv (i4.below b2) (k:=k) (by rw[List.length_map];exact hlt) ?_
   rw[List.getElem_map,<-hv]
   have bd:Below w.heap.size w w2.drew:=b12.drew
   have hd2:=h.below bd
   refine h2.dom hvl hi λb hb=>zm (λe1=>hd2.kd hvl (zr (λe2=>hR _ _ bd (tru (.inl ⟨v,hvm,.inl ⟨hb.1 e1,.inl e2⟩⟩))) λe2=>?_)) λe1=>?_
   ·obtain⟨c,ec,hcl,_⟩:=h.co_lt hvl e2
    refine hd2.all λx22 h22=>hd2.co hvl ?_
    rw[ec]
    refine h22 hcl hi λb3 hb3=>zy (zm (λe3=>⟨b2.drew,λq=>?_⟩) λe3=>hR _ _ bd (tru (.inl ⟨v,hvm,.inl ⟨hb.1 e1,.inr (by rw[ec];exact YH hb3 e3)⟩⟩)))
    rcases q with⟨_,q |q⟩ |q
    ·exact q e2
    ·rw[ec]at q;exact q (hb3.1 e3)
    ·exact q.1 (hb.1 e1)
   ·refine zoJ h2 hvl hi λb3 w3 b23 hb3=>⟨b3,rfl,zm (λe3=>hR _ _ (b12.trans (b23.mono b12.size)) (tru (.inl ⟨v,hvm,.inr ⟨YH hb e1,hb3.1 e3⟩⟩))) λe3=>⟨b2.trans (b23.mono b2.size),λq=>?_⟩⟩
    rcases q with q |q
    ·exact YH hb e1 q.1
    ·exact YH hb3 e3 q.2
  ·rw[List.take_succ_eq_append_getElem hlt,List.mem_append,List.mem_singleton,<-hv]at hx
   rcases hx with hx |hx
   ·exact hno x hx
   ·rw[hx];exact q2
 ·have:k=(nx.getD i []).length:=by dsimp only at hge;omega
  subst this
  rw[List.take_length]at hno
  refine h2.gr (zoH h.d.ok h2.g λr36 w5 o36 b5=>⟨r36,rfl,?_⟩)
  rw[zU]at o36
  obtain⟨A,hA⟩:∃A,A=(zJ nx).getD i []:=⟨_,rfl⟩
  rw[<-hA]at o36
  have i36:IsI w5 r36 (A.map λ(x:Nat)=>(x:Int)):=IsS.toI (Own.isS o36)
  have l36:=yh o36
  have hAl:A.length<=nx.length:=by rw[hA];exact zgF nx i
  have b15:=b12.trans (b5.mono b12.size)
  refine zl.countS A.length (by omega) (λk (c:Int) w'=>Below w5.heap.size w5 w'/\c=((A.take k).countP (dwB nx ml i):Nat)) ⟨Below.refl _ _,by simp⟩ ?_
  rintro k c w6 hk ⟨b6,rfl⟩ next2 hnext2
  refine zi (λhlt=>?_) (λhge=>?_)
  ·have hlt:k<A.length:=by dsimp only at hlt;omega
   have hul:A[k]<nx.length:=by
    have hm:A[k]∈(zJ nx).getD i []:=by rw[<-hA];exact List.getElem_mem hlt
    have:=(zjd h.d.ok).1 hm
    by_cases e:A[k]<nx.length
    ·exact e
    ·simp[List.getD,List.getElem?_eq_none (show nx.length<=A[k] by omega)]at this
   have bd:Below w5.heap.size w5 w6.drew:=b6.drew
   have h6:=h.below (b15.trans (bd.mono b15.size))
   have hle:=List.countP_le_length (p:=dwB nx ml i) (l:=A.take k)
   rw[List.length_take,Nat.min_eq_left (by omega)]at hle
   have e:(A.take (k+1)).countP (dwB nx ml i)=(A.take k).countP (dwB nx ml i)+if dwB nx ml i A[k] then 1 else 0:=by
    rw[List.take_succ_eq_append_getElem hlt,List.countP_append,List.countP_singleton]
   refine zk.cut (λ(st:Int×Unit) w'=>Below w5.heap.size w5 w'/\st.1=((A.take (k+1)).countP (dwB nx ml i):Nat)) ?_ λst w' hh=>hnext2 _ _ hlt hh
   refine h6.row hi λx44 h44=>yv (i36.below bd) (k:=k) (by rw[List.length_map];exact hlt) ?_
   rw[List.getElem_map]
   refine h44 hul λv hv=>zm (λe1=>⟨bd,?_⟩) λe1=>⟨bd,?_⟩
   ·rw[e,if_pos (zhl.2 (hv.1 e1))]
    dsimp only
    rw[zt (by omega) (by omega)]
    rfl
   ·rw[e,if_neg (by rw[zhl];exact YH hv e1)]
    rfl
  ·have:k=A.length:=by dsimp only at hge;omega
   subst this
   rw[List.take_length]
   refine hR _ w6 (b15.trans (b6.mono b15.size)) ?_
   rw[decide_eq_true_iff]
   unfold znA
   rw[<-hA]
   constructor
   ·exact λq=>.inr (by dsimp only at q;omega)
   ·rintro(⟨v,hv,q⟩ |q)
    ·exact absurd q (hno v hv)
    ·dsimp only;omega
theorem zpO{i:Nat}(_hi:i<nx.length)(may:∀{w'} {t:Nat} {R':VWP},IsX w' xb rb s nx ml->t<nx.length->(∀b w'',Below w'.heap.size w' w''->(b=true↔MayM nx ml i t)->R' (.bool b) w'')->cR 233 #[.pointer (some (Gk.blk xb)),.int .i64 (i:Int),.int .i64 (t:Int)] w' R')
  (hR:∀b w',Below w.heap.size w w'->(b=true↔zkE nx ml i 3)->R (.bool b) w'):cR 185 #[.pointer (some (Gk.blk xb)),.int .i64 (i:Int)] w R:=by
 refine zb.of (zbV _ (i:Int) R w ?_) λ_ _ h=>h
 have hR:∀b w',Below w.heap.size w w'->(b=true↔∃t∈nx.getD i [],¬MayM nx ml i t)->R (.bool b) w':=hR
 have hmx:=h.d.ok.max
 have hrl:=h.d.ok.row_le i
 refine h.gr (zfV h.d.ok h.g λr4 w1 o4 b1=>⟨r4,rfl,?_⟩)
 rw[zU]at o4
 have z1:=b1.size
 have i4:IsI w1 r4 ((nx.getD i []).map λ(x:Nat)=>(x:Int)):=IsS.toI (Own.isS o4)
 have l4:=yh o4
 refine zl.count (nx.getD i []).length (by omega) (λk w'=>Below w1.heap.size w1 w'/\∀v∈(nx.getD i []).take k,MayM nx ml i v) ⟨Below.refl _ _,by simp⟩ ?_
 rintro k w2 hk ⟨b2,hno⟩ next hnext
 have b12:=b1.trans (b2.mono z1)
 refine zi (λhlt=>?_) (λhge=>?_)
 ·have hlt:k<(nx.getD i []).length:=by dsimp only at hlt;omega
  have hvl:=h.d.ok.rows i _ (List.getElem_mem hlt)
  refine yv (i4.below b2) (k:=k) (by rw[List.length_map];exact hlt) ?_
  rw[List.getElem_map]
  refine may (h.below b12) hvl λb w3 b3 hb=>⟨b,rfl,zy (zm (λe=>hnext _ hlt ⟨b2.trans (b3.mono b2.size),λv hv=>?_⟩) λe=>hR _ _ (b12.trans (b3.mono b12.size)) (tru ⟨_,List.getElem_mem hlt,YH hb e⟩))⟩
  rw[List.take_succ_eq_append_getElem hlt,List.mem_append,List.mem_singleton]at hv
  rcases hv with hv |hv
  ·exact hno v hv
  ·rw[hv];exact hb.1 e
 ·have:k=(nx.getD i []).length:=by dsimp only at hge;omega
  subst this
  rw[List.take_length]at hno
  exact hR _ w2 b12 (fls λ⟨t,ht,q⟩=>q (hno t ht))
set_option maxHeartbeats 4000000 in
theorem zpV{i t:Nat}(hi:i<nx.length)(ht:t<nx.length)(hR:∀b w',Below w.heap.size w w'->(b=true↔MayM nx ml i t)->R (.bool b) w') :
  cR 233 #[.pointer (some (Gk.blk xb)),.int .i64 (i:Int),.int .i64 (t:Int)] w R:=by
 refine zb.of (zch _ (i:Int) (t:Int) R w ?_) λ_ _ h=>h
 have hmx:=h.d.ok.max
 have hsl:=h.len.1
 have hd:=h.d
 have lsucc:∀k,yT nx ml i t (k+1)=yT nx ml i t k+if (inM nx ml k i&&!inM nx ml k t)=true then 1 else 0:=λk=>by
  unfold yT
  rw[List.range_succ,List.countP_append,List.countP_singleton]
 have lle:∀k,yT nx ml i t k<=k:=λk=>by
  unfold yT
  have:=List.countP_le_length (p:=λh=>inM nx ml h i&&!inM nx ml h t) (l:=List.range k)
  simpa using this
 refine zl.countS2 nx.length (by omega) (λk (o l:Int) w'=>Below w.heap.size w w'/\l=(yT nx ml i t k:Nat)/\(∀x,x<k->InM nx ml x t->¬InM nx ml x i->t=x)/\((o=-1/\yT nx ml i t k=0/\∀x,x<k->InM nx ml x i->InM nx ml x t)\/∃o':Nat,o=(o':Int)/\zf4 nx ml i t o' k)) ⟨Below.refl _ _,by simp[yT],λx hx=>by omega,.inl ⟨rfl,by simp[yT],λx hx=>by omega⟩⟩ ?_
 rintro k o l w1 hk ⟨b1,rfl,hin,ho⟩ next hnext
 have h1:=h.below b1
 have z1:=b1.size
 refine h1.ms (zi (λhlt=>?_) λhge=>?_)
 ·have hlt:k<nx.length:=by dsimp only at hlt;omega
  have hkk:=hlt
  have hll:=lle k
  refine zk.cut (λ(st:Int×Int×Unit) w'=>Below w.heap.size w w'/\st.2.1=(yT nx ml i t (k+1):Nat)/\(∀x,x<k+1->InM nx ml x t->¬InM nx ml x i->t=x)/\((st.1=-1/\yT nx ml i t (k+1)=0/\∀x,x<k+1->InM nx ml x i->InM nx ml x t)\/∃o':Nat,st.1=(o':Int)/\zf4 nx ml i t o' (k+1))) ?_ λst w' hh=>hnext _ _ _ hlt hh
  refine zk.cut (λ_ w'=>Below w.heap.size w w'/\(InM nx ml k t->¬InM nx ml k i->t=k)) ?_ ?_
  ·refine zf2 h1 hlt ht λb w2 b2 hb=>⟨b,rfl,?_⟩
   have b12:=b1.trans (b2.mono z1)
   refine zm (λe1=>zf2 (h.below b12) hlt hi λb3 w3 b3' hb3=>⟨b3,rfl,?_⟩) λe1=>⟨b12,λq=>absurd q (YH hb e1)⟩
   have b13:=b12.trans (b3'.mono b12.size)
   refine zy (zm (λe2=>⟨b13,λ_ q=>absurd (hb3.1 e2) q⟩) λe2=>zr (λhne=>hR _ _ b13 (fls λhh=>?_)) λe=>⟨b13,λ_ _=>by dsimp only at e;omega⟩)
   have:=hh.1 k hlt (hb.1 e1) (YH hb3 e2)
   exact hne (by rw[this])
  rintro _ w4 ⟨b4,hin4⟩
  have hin':∀x,x<k+1->InM nx ml x t->¬InM nx ml x i->t=x:=λx hx=>by
   by_cases e:x=k
   ·rw[e];exact hin4
   ·exact hin x (by omega)
  have z4:=b4.size
  have same:¬(InM nx ml k i/\¬InM nx ml k t)->yT nx ml i t (k+1)=yT nx ml i t k/\((o=-1/\yT nx ml i t (k+1)=0/\∀x,x<k+1->InM nx ml x i->InM nx ml x t)\/∃o':Nat,o=(o':Int)/\zf4 nx ml i t o' (k+1)):=λhn=>by
   have e0:yT nx ml i t (k+1)=yT nx ml i t k:=by
    rw[lsucc,if_neg,Nat.add_zero]
    rw[Bool.and_eq_true,Bool.not_eq_true',<-Bool.not_eq_true,zhp,zhp]
    exact hn
   refine⟨e0,?_⟩
   rcases ho with⟨q1,q2,q3⟩ | ⟨o',q1,q2,q3,q4,q5⟩
   ·refine .inl ⟨q1,by omega,λx hx hxi=>?_⟩
    by_cases e:x=k
    ·subst e
     by_cases e':InM nx ml x t
     ·exact e'
     ·exact absurd ⟨hxi,e'⟩ hn
    ·exact q3 x (by omega) hxi
   ·refine .inr ⟨o',q1,by omega,q3,q4,λx hx hxi hxt=>?_⟩
    by_cases e:x=k
    ·subst e;exact absurd ⟨hxi,hxt⟩ hn
    ·exact q5 x (by omega) hxi hxt
  refine zf2 (h.below b4) hlt hi λb w5 b5 hb=>⟨b,rfl,?_⟩
  have b15:=b4.trans (b5.mono z4)
  refine zm (λe1=>zf2 (h.below b15) hlt ht λb6 w6 b6' hb6=>⟨b6,rfl,?_⟩) λe1=>⟨b15,by rw[(same λq=>YH hb e1 q.1).1],hin',(same λq=>YH hb e1 q.1).2⟩
  have b16:=b15.trans (b6'.mono b15.size)
  refine zy (zm (λe2=>⟨b16,by rw[(same λq=>q.2 (hb6.1 e2)).1],hin',(same λq=>q.2 (hb6.1 e2)).2⟩) λe2=>?_)
  have hki:=hb.1 e1
  have hkt:=YH hb6 e2
  have eN:yT nx ml i t (k+1)=yT nx ml i t k+1:=by
   rw[lsucc,if_pos]
   rw[Bool.and_eq_true,Bool.not_eq_true',<-Bool.not_eq_true,zhp,zhp]
   exact⟨hki,hkt⟩
  have eW:IntKind.i64.wrap (((yT nx ml i t k:Nat):Int)+1)=((yT nx ml i t (k+1):Nat):Int):=by rw[eN,zE (by omega)]
  have newk:(∀x,x<k->InM nx ml x i->¬InM nx ml x t->DW (zz nx ml) (k:Int) (x:Int))->zf4 nx ml i t k (k+1):=λhh=>⟨by omega,hki,hkt,λx hx hxi hxt=>by
   by_cases e:x=k
   ·rw[e];exact(hd.refl_of hki.2.1).1
   ·exact hh x (by omega) hxi hxt⟩
  rcases ho with⟨q1,q2,q3⟩ | ⟨o',q1,q2,q3,q4,q5⟩
  ·subst q1
   exact zF (by simp) ⟨b16,eW,hin',.inr ⟨k,rfl,newk λx hx hxi hxt=>absurd (q3 x hx hxi) hxt⟩⟩
  ·subst q1
   refine zi (λhlt=>absurd hlt (by simp only;omega)) λ_=>(h.below b16).dom hkk (b:=o') (by omega) λv hv=>zm (λe3=>⟨b16,eW,hin',.inr ⟨k,rfl,newk λx hx hxi hxt=>hd.trans (hv.1 e3) (q5 x hx hxi hxt)⟩⟩) λe3=>⟨b16,eW,hin',.inr ⟨o',rfl,by omega,q3,q4,λx hx hxi hxt=>?_⟩⟩
   by_cases e:x=k
   ·subst e
    exact(hd.lin q3.2.1 hxi.2.1).resolve_right (YH hv e3)
   ·exact q5 x (by omega) hxi hxt
 ·have:k=nx.length:=by dsimp only at hge;omega
  subst this
  refine zj (λe=>hR _ _ b1 (tru ⟨λx hx=>hin x hx,.inl (by dsimp only at e;omega)⟩)) λhne=>?_
  have hne':yT nx ml i t nx.length≠0:=λe=>hne (by rw[e];rfl)
  rcases ho with⟨_,q,_⟩ | ⟨o',rfl,hO⟩
  ·exact absurd q hne'
  have hol:=hO.1
  have tt:((t:Int)=toM ml o'/\(yT nx ml i t nx.length=1\/YR nx ml o' i 3))->MayM nx ml i t:=λq=>⟨λx hx=>hin x hx,.inr (.inl ⟨o',hO,q⟩)⟩
  refine zk.cut (λ_ w'=>Below w.heap.size w w'/\¬((t:Int)=toM ml o'/\(yT nx ml i t nx.length=1\/YR nx ml o' i 3))) ?_ ?_
  ·refine h1.to hol (zj (λe=>zj (λe1=>hR _ _ b1 (tru (tt ⟨e,.inl (by dsimp only at e1;omega)⟩))) λe1=>zku h1 hol hi λb w8 b8 hb=>⟨b,rfl,?_⟩) λe=>⟨b1,λq=>e q.1⟩)
   have b18:=b1.trans (b8.mono z1)
   refine zm (λe2=>hR _ _ b18 (tru (tt ⟨e,.inr (hb.1 e2)⟩))) λe2=>⟨b18,λq=>?_⟩
   rcases q.2 with q |q
   ·exact e1 (by rw[q];rfl)
   ·exact YH hb e2 q
  rintro _ w9 ⟨b9,hnt⟩
  refine zl.count nx.length (by omega) (λk w'=>Below w.heap.size w w'/\∀x,x<k->¬(YR nx ml x i 2/\(t:Int)=coM ml x/\InM nx ml x t)) ⟨b9,λx hx=>by omega⟩ ?_
  rintro m w10 hm ⟨b10,hno⟩ next2 hnext2
  have h10:=h.below b10
  have z10:=b10.size
  refine h10.ms (zi (λhlt=>?_) λhge=>hR _ _ b10 (fls λhh=>?_))
  ·have hlt:m<nx.length:=by dsimp only at hlt;omega
   refine zk.cut (λ_ w'=>Below w.heap.size w w'/\¬(YR nx ml m i 2/\(t:Int)=coM ml m/\InM nx ml m t)) ?_ λ_ w' ⟨q1,q2⟩=>hnext2 _ hlt ⟨q1,λx hx=>by
    by_cases e:x=m
    ·rw[e];exact q2
    ·exact hno x (by omega)⟩
   refine zku h10 hlt hi λb w11 b11 hb=>⟨b,rfl,?_⟩
   have b1':=b10.trans (b11.mono z10)
   have h11:=h.below b1'
   refine zm (λe1=>h11.co hlt (zj (λe2=>zf2 h11 hlt ht λb12 w12 b12' hb12=>⟨b12,rfl,?_⟩) λe2=>⟨b1',λq=>e2 q.2.1⟩)) λe1=>⟨b1',λq=>YH hb e1 q.1⟩
   have b2':=b1'.trans (b12'.mono b1'.size)
   exact zm (λe3=>hR _ _ b2' (tru ⟨λx hx=>hin x hx,.inr (.inr ⟨m,hlt,hb.1 e1,e2,hb12.1 e3⟩)⟩)) λe3=>⟨b2',λq=>YH hb12 e3 q.2.2⟩
  ·rcases hh.2 with q | ⟨o2,q1,q2⟩ | ⟨x,q1,q2⟩
   ·exact hne' q
   ·have:=q1.uniq hd hO
    subst this
    exact hnt q2
   ·have:m=nx.length:=by dsimp only at hge;omega
    exact hno x (by omega) q2
end
end Go.Proofs
namespace Go.Proofs
open Go.Gk Go.RowKit Go.Gr Go.Dm
section
variable {xb rb gb:Nat} {nx:List (List Nat)} {ml:List Mg} {s:Sl} {w:World} {R:VWP}
theorem zhV(i m:Nat):zT nx ml i (m+1)=zT nx ml i m++if brkM nx ml i m then [((i:Int),zm5 m)] else []:=by
 unfold zT
 rw[zep,List.map_append]
 congr 1
 split<;>simp
theorem zjg(i m:Nat):(zT nx ml i m).length<=m:=by
 unfold zT
 rw[List.length_map]
 have:=List.length_filter_le (brkM nx ml i) (List.range m)
 simpa using this
theorem zgJ(k:Nat):yn nx ml (k+1)=yn nx ml k++zT nx ml k 4:=by
 unfold yn
 rw[List.range_succ,List.flatMap_append]
 simp
theorem zl6:∀k,(yn nx ml k).length<=4*k
 | 0=>by simp[yn]
 |k+1=>by
  have:=zl6 k
  have:=zjg (nx:=nx) (ml:=ml) k 4
  rw[zgJ,List.length_append]
  omega
theorem zhm{B0:Nat}{w0 w2:World}{r:Sl}{i k m:Nat}{b:Bool}{e:Int}(he:e=zm5 m)(hb:Below B0 w0 w2)(hB:B0<=w2.heap.size)(ho:OwnF w2 r (yn nx ml i++zT nx ml k m))(hf:zw B0 r)(hl:i<=4096)(hm:m<4)
  (hk:k∈zp (zz nx ml)) (hv:b=true↔zkE nx ml k m) {K:Sl->World->Prop}
  (hK:∀r' w',Below B0 w0 w'->B0<=w'.heap.size->OwnF w' r' (yn nx ml i++zT nx ml k (m+1))->zw B0 r'->K r' w') :
  ifB b (Nw (w2.alloc (.cells #[.int .i64 (k:Int),.int .i64 e] 156)) λw3=>zo Tryz.prog 152 (.slice r.a r.l r.c) (.slice (some (Gk.blk w2.heap.size)) 1 1) w3 λr15 w4=>K r15 w4) (K r w2):=by
 have h1:=zl6 (nx:=nx) (ml:=ml) i
 have h2:=zjg (nx:=nx) (ml:=ml) k m
 refine zm (λeb=>ztb hb hB ho hf (by rw[List.length_append];omega) λr' w' q1 q2 q3 q4=>hK r' w' q1 q2 ?_ q4) λeb=>hK r w2 hb hB ?_ hf
 ·rw[zhV,if_pos (ziW.2 ⟨hk,hv.1 eb⟩),<-List.append_assoc,<-he]
  exact q3
 ·rw[zhV,if_neg,List.append_nil]
  ·exact ho
  ·rw[ziW];exact λq=>YH hv eb q.2
set_option maxHeartbeats 2000000 in
theorem zre(h:IsX w xb rb s nx ml)(hR:∀r w',Below w.heap.size w w'->OwnF w' r (yn nx ml nx.length)->R (.slice r.a r.l r.c) w'):cR 146 #[.pointer (some (Gk.blk xb))] w R:=by
 refine zb.of (zcg _ R w ?_) λ_ _ h=>h
 have hmx:=h.d.ok.max
 have hsl:=h.len.1
 refine zl.countS nx.length (by omega) (λk (l:Sl) w'=>Below w.heap.size w w'/\w.heap.size<=w'.heap.size/\OwnF w' l (yn nx ml k)/\zw w.heap.size l) ⟨Below.refl _ _,Nat.le_refl _,by rw[show yn nx ml 0=[] from by simp[yn]];exact Own.nil _ _ _,λa ha=>by cases ha⟩ ?_
 rintro k l w1 hk ⟨b1,z1,o1,f1⟩ next hnext
 have h1:=h.below b1
 refine h1.ms (zi (λhlt=>?_) λhge=>?_)
 ·have hlt:k<nx.length:=by dsimp only at hlt;omega
  refine zk.cut (λ(st:Sl×Unit) w'=>Below w.heap.size w w'/\w.heap.size<=w'.heap.size/\OwnF w' st.1 (yn nx ml (k+1))/\zw w.heap.size st.1) ?_ λst w' hh=>hnext _ _ hlt hh
  obtain⟨wb,is,ds,bl,x1,x2,x3,x4,x5⟩:=h1.ex
  refine zf rfl ⟨is,x1.cell (n:=3) rfl,zql x2 (k:=k) (by omega) ?_⟩
  rw[show bl[k]'(by omega)=bl.getD k false by simp[List.getD,show k<bl.length by omega]]
  refine zy (zm (λe=>?_) λe=>⟨b1,z1,?_,f1⟩)
  ·have hko:=(x4 k).1 e
   have o1':OwnF w1 l (yn nx ml k++zT nx ml k 0):=by rw[show zT nx ml k 0=[] from by simp[zT],List.append_nil];exact o1
   have bin:∀{wa wc:World},Below w.heap.size w wa->w.heap.size<=wa.heap.size->Below wa.heap.size wa wc->Below w.heap.size w wc/\w.heap.size<=wc.heap.size:=λ{wa wc} ba za bc=>⟨ba.trans (bc.mono za),by have:=bc.size;omega⟩
   refine zk.cut (λ(st:Sl×Unit) w'=>Below w.heap.size w w'/\w.heap.size<=w'.heap.size/\OwnF w' st.1 (yn nx ml k++zT nx ml k 1)/\zw w.heap.size st.1) ?_ ?_
   ·refine zpM h1 hlt λb w2 b2 hb=>⟨b,rfl,?_⟩
    obtain⟨b12,z12⟩:=bin b1 z1 b2
    exact zhm (e:=163) (m:=0) (i:=k) rfl b12 z12 (Own.below o1' b2) f1 (by omega) (by omega) hko hb λr' w' q1 q2 q3 q4=>⟨q1,q2,q3,q4⟩
   rintro⟨r2,_⟩ w5 ⟨b5,z5,o5,f5⟩
   refine zk.cut (λ(st:Sl×Unit) w'=>Below w.heap.size w w'/\w.heap.size<=w'.heap.size/\OwnF w' st.1 (yn nx ml k++zT nx ml k 2)/\zw w.heap.size st.1) ?_ ?_
   ·refine zn6 (h.below b5) hlt λb w2 b2 hb=>⟨b,rfl,?_⟩
    obtain⟨b12,z12⟩:=bin b5 z5 b2
    exact zhm (e:=160) (m:=1) (i:=k) rfl b12 z12 (Own.below o5 b2) f5 (by omega) (by omega) hko hb λr' w' q1 q2 q3 q4=>⟨q1,q2,q3,q4⟩
   rintro⟨r9,_⟩ w9 ⟨b9,z9,o9,f9⟩
   refine zk.cut (λ(st:Sl×Unit) w'=>Below w.heap.size w w'/\w.heap.size<=w'.heap.size/\OwnF w' st.1 (yn nx ml k++zT nx ml k 3)/\zw w.heap.size st.1) ?_ ?_
   ·refine zpL (h.below b9) hlt λb w2 b2 hb=>⟨b,rfl,?_⟩
    obtain⟨b12,z12⟩:=bin b9 z9 b2
    exact zhm (e:=162) (m:=2) (i:=k) rfl b12 z12 (Own.below o9 b2) f9 (by omega) (by omega) hko hb λr' w' q1 q2 q3 q4=>⟨q1,q2,q3,q4⟩
   rintro⟨r13,_⟩ w13 ⟨b13,z13,o13,f13⟩
   refine zpO (h.below b13) hlt (λhx ht hR'=>zpV hx hlt ht hR') λb w2 b2 hb=>⟨b,rfl,?_⟩
   obtain⟨b12,z12⟩:=bin b13 z13 b2
   refine zhm (e:=161) (m:=3) (i:=k) rfl b12 z12 (Own.below o13 b2) f13 (by omega) (by omega) hko hb λr' w' q1 q2 q3 q4=>⟨q1,q2,?_,q4⟩
   rw[zgJ]
   exact q3
  ·rw[zgJ,show zT nx ml k 4=[] from ?_,List.append_nil]
   ·exact o1
   ·unfold zT
    rw[List.map_eq_nil_iff,List.filter_eq_nil_iff]
    intro r _
    rw[ziW]
    exact λq=>by rw[(x4 k).2 q.1]at e;cases e
 ·have:k=nx.length:=by dsimp only at hge;omega
  subst this
  exact hR l w1 b1 o1
open Classical in
noncomputable def flE(N:Prop)(nx:List (List Nat))(ml:List Mg):Int:=if N then 1 else if ¬Fit nx.length ml then 2 else 0
open Classical in
noncomputable def flL(N:Prop)(nx:List (List Nat))(ml:List Mg):List (Int×Int):=if ¬N/\Fit nx.length ml then yn nx ml nx.length else []
open Classical in
noncomputable def chk(N:Prop)(nx:List (List Nat))(ml:List Mg):Int×Int:=if flE N nx ml=0 then zi1 (flL N nx ml) else(flE N nx ml,0)
variable {p q:Option Addr} {N:Prop}
theorem flE1(hn:N):flE N nx ml=1/\flL N nx ml=[]/\chk N nx ml=(1,0):=by simp[flE,flL,chk,hn]
theorem flE2(hn:¬N)(hf:¬Fit nx.length ml):flE N nx ml=2/\flL N nx ml=[]/\chk N nx ml=(2,0):=by simp[flE,flL,chk,hn,hf]
theorem flE0(hn:¬N)(hf:Fit nx.length ml):flE N nx ml=0/\flL N nx ml=yn nx ml nx.length/\chk N nx ml=zi1 (yn nx ml nx.length):=by simp[flE,flL,chk,hn,hf]
theorem zoM(hp:PR2 w p rb nx)(hM:IsM w s ml)(hR:∀r w',Below w.heap.size w w'->OwnF w' r (flL (p=none) nx ml)->R (.tuple #[.slice r.a r.l r.c,.int .i64 (flE (p=none) nx ml)]) w') :
  cR 106 #[.pointer p,.slice s.a s.l s.c] w R:=by
 refine zb.of (zdU p s R w ?_) λ_ _ h=>h
 have nil:∀{w'},OwnF w' ⟨none,0,0⟩ []:=Own.nil _ _ _
 refine zpk hp hM (λe=>⟨1,rfl,zF (by decide) ?_⟩) (λe hf=>⟨2,rfl,zF (by decide) ?_⟩) λe hf=>⟨0,rfl,zB (by decide) ?_⟩
 ·have:=hR ⟨none,0,0⟩ w (Below.refl _ _) (by rw[(flE1 e).2.1];exact nil)
  rw[(flE1 e).1]at this
  exact this
 ·have:=hR ⟨none,0,0⟩ w (Below.refl _ _) (by rw[(flE2 e hf).2.1];exact nil)
  rw[(flE2 e hf).1]at this
  exact this
 ·cases p with
  |none=>exact absurd rfl e
  |some a=>
  obtain⟨rfl,hx,hG⟩:=hp a rfl
  refine zpW hx hG hM hf λw2 xb b2 hX=>⟨_,rfl,zre hX λr w3 b3 o3=>⟨r,rfl,?_⟩⟩
  have:=hR r w3 (b2.trans (b3.mono b2.size)) (by rw[(flE0 e hf).2.1];exact o3)
  rw[(flE0 e hf).1]at this
  exact this
theorem zoI(hp:PR2 w p rb nx)(hM:IsM w s ml)(hR:∀w',Below w.heap.size w w'->R (.agg #[.int .i64 (chk (p=none) nx ml).1,.int .i64 (chk (p=none) nx ml).2]) w') :
  cR 48 #[.pointer p,.slice s.a s.l s.c] w R:=by
 refine zb.of (zdT p s R w ?_) λ_ _ h=>h
 refine Nw.gen λw1 hw1=>?_
 have hB1:Blk w1 w.heap.size 33 [.int .i64 0,.int .i64 0]:=by rw[hw1];exact Blk.new w _ #[_,_]
 have b1:Below w.heap.size w w1:=by rw[hw1];exact(Below.refl _ _).alloc (Nat.le_refl _) _
 have z1:=b1.size
 clear hw1
 have fin:∀(w2:World) (x y:Int),Below w1.heap.size w1 w2->(x,y)=chk (p=none) nx ml->
   Wr w2 (Gk.blk w.heap.size)/\Nw (w2.setCell (Gk.blk w.heap.size) (.int .i64 x)) λw3=>Wr w3 ((Gk.blk w.heap.size).add 1)/\Nw (w3.setCell ((Gk.blk w.heap.size).add 1) (.int .i64 y)) λw4=>
    ldI w4 ((Gk.blk w.heap.size).add 0) .i64 λx4=>ldI w4 ((Gk.blk w.heap.size).add 1) .i64 λx5=>R (.agg #[.int .i64 x4,.int .i64 x5]) w4:=λw2 x y b2 hxy=>by
  have e1:x=(chk (p=none) nx ml).1:=congrArg Prod.fst hxy
  have e2:y=(chk (p=none) nx ml).2:=congrArg Prod.snd hxy
  clear hxy
  subst e1 e2
  have hB2:=hB1.below b2
  have h3:=(hB2.set0 (.int .i64 (chk (p=none) nx ml).1)).set 1 (.int .i64 (chk (p=none) nx ml).2)
  exact⟨hB2.wr0 (by simp),(hB2.set0 _).wr (n:=1) (by simp),_,h3.cell0 rfl,_,h3.cell (n:=1) rfl,hR _ (((b1.trans (b2.mono z1)).setCell (Nat.le_refl _) _).setCell (by rw[zn];exact Nat.le_refl _) _)⟩
 refine zoM (hp.below b1) (IsC.mbelow hM b1) λr w2 b2 o2=>⟨r,_,rfl,zr (λhne=>fin w2 _ 0 b2 (by unfold chk;rw[if_neg hne])) λhe=>?_⟩
 have hF:=o2.isF
 have hl:=hF.len
 have hc:chk (p=none) nx ml=zi1 (flL (p=none) nx ml):=by unfold chk;rw[if_pos he]
 cases hL:flL (p=none) nx ml with
 |nil=>
  rw[hL]at hl hc
  exact zj (λ_=>fin w2 0 0 b2 hc.symm) λh=>absurd (by simp at hl;omega) h
 |cons x L'=>
  rw[hL]at hl hF hc
  refine zj (λh=>absurd h (by simp at hl;omega)) λ_=>?_
  have hF2:=IsC.below zkW hF (Below.refl _ w2).drew
  obtain⟨a,ha⟩:=hF2.base (i:=0) (by simp)
  have hc0:=hF2.cell a ha 0 (by simp) 0 (by omega)
  have hc1:=hF2.cell a ha 0 (by simp) 1 (by omega)
  have bnd:0<=(0:Int)/\(0:Int)<(r.l:Int):=⟨by omega,by simp at hl;omega⟩
  exact⟨bnd,zf ha ⟨_,by rw[zv];exact hc1,bnd,zf ha ⟨_,hc0,fin w2.drew _ _ (b2.drew) hc.symm⟩⟩⟩
end
end Go.Proofs
namespace Go.Proofs
open Go.Gk
set_option linter.unusedVariables false
set_option maxRecDepth 100000
def zc4:Ann:=(.q (.q (.seq none (.q (.cond (.q .nil) .nil)) (.seq none (.q (.cond (.q .nil) .nil)) (.seq none (.q (.cond (.q .nil) .nil)) (.q (.q (.seq none (.q (.one (.loop ⟨[2,3,6],[(8,(.b .slice)),(9,(.b .slice)),(10,(.b (.int .i64)))]⟩ (.seq none (.q .c) (.seq none (.one (.q (.q (.seq none (.q (.cond (.q .nil) .nil)) (.q (.q (.q (.seq none (.q (.one (.loop ⟨[2,3,6,8,9,10,11,14],[(15,(.b .slice)),(16,(.b (.int .i64)))]⟩ (.seq none (.q .c) (.seq none (.one (.q (.seq none (.q (.cond (.q .nil) .nil)) .nil))) .nil))))) .nil)))))))) .nil))))) (.q (.q .nil))))))))))
def zcq(p0:(Int×Int×Sl×Unit))(p1:(Int×Int×Sl×Sl×Int×Unit))(R:VWP)(w:World):Prop:=Nw (w.alloc (.cells #[.int .u32 p0.1,.int .u32 p0.2.1,.slice p0.2.2.1.a p0.2.2.1.l p0.2.2.1.c] 25)) λw1=>Nw (w1.alloc (.cells #[.int .u32 p1.1,.int .i64 p1.2.1,.slice p1.2.2.1.a p1.2.2.1.l p1.2.2.1.c,.slice p1.2.2.2.1.a p1.2.2.2.1.l p1.2.2.2.1.c,.int .i64 p1.2.2.2.2.1] 29)) λw2=>Nw (w2.alloc (.cells #[.int .i64 0,.int .i64 0] 33)) λw3=>ldI w3 ((blk w.heap.size).add 0) .u32 λx1=>ldI w3 ((blk w.heap.size).add 1) .u32 λx2=>ldS w3 ((blk w.heap.size).add 2) λx3=>cR 47 #[.agg #[.int .u32 x1,.int .u32 x2,.slice x3.a x3.l x3.c]] w3 λv4 w4=>∃x5:(Int×Int×Unit),v4=(.agg #[.int .i64 x5.1,.int .i64 x5.2.1])/\Nw (w4.alloc (.cells #[.int .i64 0,.int .i64 0] 33)) λw5=>Wr w5 (blk w4.heap.size)/\Nw (w5.setCell (blk w4.heap.size) (.int .i64 x5.1)) λw6=>Wr w6 ((blk w4.heap.size).add 1)/\Nw (w6.setCell ((blk w4.heap.size).add 1) (.int .i64 x5.2.1)) λw7=>ldI w7 (blk w4.heap.size) .i64 λx6=>ifB (x6 !=0) (ldI w7.drew ((blk w4.heap.size).add 0) .i64 λx7=>ldI w7.drew ((blk w4.heap.size).add 1) .i64 λx8=>Wr w7.drew (blk w2.heap.size)/\Nw (w7.drew.setCell (blk w2.heap.size) (.int .i64 x7)) λw8=>Wr w8 ((blk w2.heap.size).add 1)/\Nw (w8.setCell ((blk w2.heap.size).add 1) (.int .i64 x8)) λw9=>ldI w9 ((blk w2.heap.size).add 0) .i64 λx9=>ldI w9 ((blk w2.heap.size).add 1) .i64 λx10=>R (.tuple #[.pointer none,.slice none 0 0,.agg #[.int .i64 x9,.int .i64 x10]]) w9) (ldI w7 ((blk w.heap.size).add 0) .u32 λx11=>ldI w7 ((blk w.heap.size).add 1) .u32 λx12=>ldS w7 ((blk w.heap.size).add 2) λx13=>ldI w7 ((blk w1.heap.size).add 0) .u32 λx14=>ldI w7 ((blk w1.heap.size).add 1) .i64 λx15=>ldS w7 ((blk w1.heap.size).add 2) λx16=>ldS w7 ((blk w1.heap.size).add 3) λx17=>ldI w7 ((blk w1.heap.size).add 4) .i64 λx18=>cR 80 #[.agg #[.int .u32 x11,.int .u32 x12,.slice x13.a x13.l x13.c],.agg #[.int .u32 x14,.int .i64 x15,.slice x16.a x16.l x16.c,.slice x17.a x17.l x17.c,.int .i64 x18]] w7 λv19 w10=>∃x20:Bool,v19=(.bool x20)/\ifB (!x20) (Wr w10 (blk w2.heap.size)/\Nw (w10.setCell (blk w2.heap.size) (.int .i64 2)) λw11=>Wr w11 ((blk w2.heap.size).add 1)/\Nw (w11.setCell ((blk w2.heap.size).add 1) (.int .i64 0)) λw12=>ldI w12 ((blk w2.heap.size).add 0) .i64 λx21=>ldI w12 ((blk w2.heap.size).add 1) .i64 λx22=>R (.tuple #[.pointer none,.slice none 0 0,.agg #[.int .i64 x21,.int .i64 x22]]) w12) (ldS w10 ((blk w1.heap.size).add 3) λx23=>ifB (decide ((x23.l:Int)>4096)) (ldI w10.drew ((blk w1.heap.size).add 1) .i64 λx24=>Wr w10.drew (blk w2.heap.size)/\Nw (w10.drew.setCell (blk w2.heap.size) (.int .i64 4)) λw13=>Wr w13 ((blk w2.heap.size).add 1)/\Nw (w13.setCell ((blk w2.heap.size).add 1) (.int .i64 x24)) λw14=>ldI w14 ((blk w2.heap.size).add 0) .i64 λx25=>ldI w14 ((blk w2.heap.size).add 1) .i64 λx26=>R (.tuple #[.pointer none,.slice none 0 0,.agg #[.int .i64 x25,.int .i64 x26]]) w14) (zl (S:=Sl×Sl×Int×Unit) (λs27 w15 n28=>ldS w15 ((blk w1.heap.size).add 3) λx29=>ifB (decide (s27.2.2.1<(x29.l:Int))) (ldS w15 ((blk w1.heap.size).add 3) λx30=>(0<=s27.2.2.1/\s27.2.2.1<(x30.l:Int))/\zc x30.a λa31=>ldI w15 ((a31.add (s27.2.2.1.toNat *3)).add 0) .u32 λx32=>ldI w15 ((a31.add (s27.2.2.1.toNat *3)).add 1) .i64 λx33=>ldI w15 ((a31.add (s27.2.2.1.toNat *3)).add 2) .i64 λx34=>Nw (w15.alloc (.cells #[.int .u32 0,.int .i64 0,.int .i64 0] 69)) λw16=>Wr w16 (blk w15.heap.size)/\Nw (w16.setCell (blk w15.heap.size) (.int .u32 x32)) λw17=>Wr w17 ((blk w15.heap.size).add 1)/\Nw (w17.setCell ((blk w15.heap.size).add 1) (.int .i64 x33)) λw18=>Wr w18 ((blk w15.heap.size).add 2)/\Nw (w18.setCell ((blk w15.heap.size).add 2) (.int .i64 x34)) λw19=>ldI w19 ((blk w.heap.size).add 0) .u32 λx35=>ldI w19 ((blk w.heap.size).add 1) .u32 λx36=>ldS w19 ((blk w.heap.size).add 2) λx37=>ldI w19 ((blk w1.heap.size).add 0) .u32 λx38=>ldI w19 ((blk w1.heap.size).add 1) .i64 λx39=>ldS w19 ((blk w1.heap.size).add 2) λx40=>ldS w19 ((blk w1.heap.size).add 3) λx41=>ldI w19 ((blk w1.heap.size).add 4) .i64 λx42=>ldI w19 ((blk w15.heap.size).add 0) .u32 λx43=>ldI w19 ((blk w15.heap.size).add 1) .i64 λx44=>ldI w19 ((blk w15.heap.size).add 2) .i64 λx45=>cR 81 #[.agg #[.int .u32 x35,.int .u32 x36,.slice x37.a x37.l x37.c],.agg #[.int .u32 x38,.int .i64 x39,.slice x40.a x40.l x40.c,.slice x41.a x41.l x41.c,.int .i64 x42],.agg #[.int .u32 x43,.int .i64 x44,.int .i64 x45]] w19 λv46 w20=>∃x47:(Int×Int×Int×Unit),∃x48:Bool,v46=(.tuple #[.agg #[.int .u8 x47.1,.int .i64 x47.2.1,.int .i64 x47.2.2.1],.bool x48])/\Nw (w20.alloc (.cells #[.int .u8 0,.int .i64 0,.int .i64 0] 121)) λw21=>Wr w21 (blk w20.heap.size)/\Nw (w21.setCell (blk w20.heap.size) (.int .u8 x47.1)) λw22=>Wr w22 ((blk w20.heap.size).add 1)/\Nw (w22.setCell ((blk w20.heap.size).add 1) (.int .i64 x47.2.1)) λw23=>Wr w23 ((blk w20.heap.size).add 2)/\Nw (w23.setCell ((blk w20.heap.size).add 2) (.int .i64 x47.2.2.1)) λw24=>ifB (!x48) (ldI w24.drew ((blk w15.heap.size).add 2) .i64 λx49=>Wr w24.drew (blk w2.heap.size)/\Nw (w24.drew.setCell (blk w2.heap.size) (.int .i64 140)) λw25=>Wr w25 ((blk w2.heap.size).add 1)/\Nw (w25.setCell ((blk w2.heap.size).add 1) (.int .i64 (IntKind.i64.wrap (x49-(2:Int))))) λw26=>ldI w26 ((blk w2.heap.size).add 0) .i64 λx50=>ldI w26 ((blk w2.heap.size).add 1) .i64 λx51=>R (.tuple #[.pointer none,.slice none 0 0,.agg #[.int .i64 x50,.int .i64 x51]]) w26) (ldI w24 ((blk w20.heap.size).add 0) .u8 λx52=>ldI w24 ((blk w20.heap.size).add 1) .i64 λx53=>ldI w24 ((blk w20.heap.size).add 2) .i64 λx54=>Nw (w24.alloc (.cells #[.int .u8 x52,.int .i64 x53,.int .i64 x54] 121)) λw27=>zo Tryz.prog 72 (.slice s27.2.1.a s27.2.1.l s27.2.1.c) (.slice (some (blk w24.heap.size)) 1 1) w27 λr55 w28=>ldS w28 ((blk w.heap.size).add 2) λx56=>ldI w28 ((blk w15.heap.size).add 2) .i64 λx57=>(0<=(IntKind.i64.wrap (x57-(1:Int)))/\(IntKind.i64.wrap (x57-(1:Int)))<(x56.l:Int))/\zc x56.a λa58=>ldI w28 ((a58.add ((Int.toNat (IntKind.i64.wrap (x57-(1:Int))))*4)).add 0) .u16 λx59=>ldI w28 ((a58.add ((Int.toNat (IntKind.i64.wrap (x57-(1:Int))))*4)).add 1) .u32 λx60=>ldI w28 ((a58.add ((Int.toNat (IntKind.i64.wrap (x57-(1:Int))))*4)).add 2) .u32 λx61=>ldS w28 ((a58.add ((Int.toNat (IntKind.i64.wrap (x57-(1:Int))))*4)).add 3) λx62=>cR 82 #[.agg #[.int .u16 x59,.int .u32 x60,.int .u32 x61,.slice x62.a x62.l x62.c]] w28 λv63 w29=>∃x64:Sl,v63=(.slice x64.a x64.l x64.c)/\zl (S:=Sl×Int×Unit) (λs65 w30 n66=>ifB (decide (s65.2.1<(x64.l:Int))) (ldI w30.drew ((blk w1.heap.size).add 0) .u32 λx67=>ldI w30.drew ((blk w1.heap.size).add 1) .i64 λx68=>ldS w30.drew ((blk w1.heap.size).add 2) λx69=>ldS w30.drew ((blk w1.heap.size).add 3) λx70=>ldI w30.drew ((blk w1.heap.size).add 4) .i64 λx71=>(0<=s65.2.1/\s65.2.1<(x64.l:Int))/\zc x64.a λa72=>ldI w30.drew (a72.add s65.2.1.toNat) .u32 λx73=>cR 83 #[.agg #[.int .u32 x67,.int .i64 x68,.slice x69.a x69.l x69.c,.slice x70.a x70.l x70.c,.int .i64 x71],.int .u32 x73] w30.drew λv74 w31=>∃x75:Int,v74=(.int .i64 x75)/\ifB (decide (x75<(0:Int))) (ldI w31.drew ((blk w15.heap.size).add 2) .i64 λx76=>Wr w31.drew (blk w2.heap.size)/\Nw (w31.drew.setCell (blk w2.heap.size) (.int .i64 140)) λw32=>Wr w32 ((blk w2.heap.size).add 1)/\Nw (w32.setCell ((blk w2.heap.size).add 1) (.int .i64 (IntKind.i64.wrap (x76-(1:Int))))) λw33=>ldI w33 ((blk w2.heap.size).add 0) .i64 λx77=>ldI w33 ((blk w2.heap.size).add 1) .i64 λx78=>R (.tuple #[.pointer none,.slice none 0 0,.agg #[.int .i64 x77,.int .i64 x78]]) w33) (Nw (w31.alloc (.cells #[.int .i64 x75] 3)) λw34=>zo Tryz.prog 26 (.slice s65.1.a s65.1.l s65.1.c) (.slice (some (blk w31.heap.size)) 1 1) w34 λr79 w35=>n66 (r79,(IntKind.i64.wrap (s65.2.1+(1:Int))),()) w35)) (Nw (w30.alloc (.cells #[.slice s65.1.a s65.1.l s65.1.c] 26)) λw36=>zo Tryz.prog 48 (.slice s27.1.a s27.1.l s27.1.c) (.slice (some (blk w30.heap.size)) 1 1) w36 λr80 w37=>n28 (r80,r55,(IntKind.i64.wrap (s27.2.2.1+(1:Int))),()) w37)) ((Sl.mk none 0 0),0,()) w29)) (cR 84 #[.slice s27.1.a s27.1.l s27.1.c] w15 λv81 w38=>∃x82:Option Addr,∃x83:Int,v81=(.tuple #[.pointer x82,.int .i64 x83])/\Wr w38 (blk w2.heap.size)/\Nw (w38.setCell (blk w2.heap.size) (.int .i64 0)) λw39=>Wr w39 ((blk w2.heap.size).add 1)/\Nw (w39.setCell ((blk w2.heap.size).add 1) (.int .i64 0)) λw40=>ldI w40 ((blk w2.heap.size).add 0) .i64 λx84=>ldI w40 ((blk w2.heap.size).add 1) .i64 λx85=>R (.tuple #[.pointer x82,.slice s27.2.1.a s27.2.1.l s27.2.1.c,.agg #[.int .i64 x84,.int .i64 x85]]) w40)) ((Sl.mk none 0 0),(Sl.mk none 0 0),0,()) w10)))
theorem zff(p0)(p1)(R)(w)(h:zcq p0 p1 R w):Calls Tryz.prog 32 #[.agg #[.int .u32 p0.1,.int .u32 p0.2.1,.slice p0.2.2.1.a p0.2.2.1.l p0.2.2.1.c],.agg #[.int .u32 p1.1,.int .i64 p1.2.1,.slice p1.2.2.1.a p1.2.2.1.l p1.2.2.1.c,.slice p1.2.2.2.1.a p1.2.2.2.1.l p1.2.2.2.1.c,.int .i64 p1.2.2.2.2.1]] w (Ret R):=lwC zc4 Tryz.func32 (by kernel_rfl) (by kernel_rfl) h
def zaM:Ann:=(.q (.q (.seq none (.q (.cond (.q .nil) .nil)) (.q (.seq (some ⟨[3,4,5,6,8,9],[]⟩) (.q (.cond (.q .nil) .nil)) (.seq (some ⟨[3,4,5,6,8,9],[(10,(.b .addr))]⟩) .nil (.seq none (.q (.cond (.q .nil) .nil)) (.seq none (.q (.cond (.q (.q (.q .nil))) .nil)) (.seq (some ⟨[6,10],[]⟩) (.q .c) (.q .nil))))))))))
def za1(p0:(Int×Int×Sl×Unit))(p1:(Int×Int×Sl×Sl×Int×Unit))(p2:(Int×Int×Int×Unit))(R:VWP)(w:World):Prop:=Nw (w.alloc (.cells #[.int .u32 p0.1,.int .u32 p0.2.1,.slice p0.2.2.1.a p0.2.2.1.l p0.2.2.1.c] 25)) λw1=>Nw (w1.alloc (.cells #[.int .u32 p1.1,.int .i64 p1.2.1,.slice p1.2.2.1.a p1.2.2.1.l p1.2.2.1.c,.slice p1.2.2.2.1.a p1.2.2.2.1.l p1.2.2.2.1.c,.int .i64 p1.2.2.2.2.1] 29)) λw2=>Nw (w2.alloc (.cells #[.int .u32 p2.1,.int .i64 p2.2.1,.int .i64 p2.2.2.1] 69)) λw3=>Nw (w3.alloc (.cells #[.int .u8 0,.int .i64 0,.int .i64 0] 121)) λw4=>Nw (w4.alloc (.cells #[.int .u8 0,.int .i64 0,.int .i64 0] 121)) λw5=>Wr w5 (blk w4.heap.size)/\Nw (w5.setCell (blk w4.heap.size) (.int .u8 0)) λw6=>Wr w6 ((blk w4.heap.size).add 1)/\Nw (w6.setCell ((blk w4.heap.size).add 1) (.int .i64 (-1:Int))) λw7=>Wr w7 ((blk w4.heap.size).add 2)/\Nw (w7.setCell ((blk w4.heap.size).add 2) (.int .i64 (-1:Int))) λw8=>ldI w8 ((blk w2.heap.size).add 2) .i64 λx1=>ldI w8 ((blk w2.heap.size).add 1) .i64 λx2=>ifB (decide ((IntKind.i64.wrap (x1-x2))<3)) (ldI w8 ((blk w4.heap.size).add 0) .u8 λx3=>ldI w8 ((blk w4.heap.size).add 1) .i64 λx4=>ldI w8 ((blk w4.heap.size).add 2) .i64 λx5=>Wr w8 (blk w3.heap.size)/\Nw (w8.setCell (blk w3.heap.size) (.int .u8 x3)) λw9=>Wr w9 ((blk w3.heap.size).add 1)/\Nw (w9.setCell ((blk w3.heap.size).add 1) (.int .i64 x4)) λw10=>Wr w10 ((blk w3.heap.size).add 2)/\Nw (w10.setCell ((blk w3.heap.size).add 2) (.int .i64 x5)) λw11=>ldI w11 ((blk w3.heap.size).add 0) .u8 λx6=>ldI w11 ((blk w3.heap.size).add 1) .i64 λx7=>ldI w11 ((blk w3.heap.size).add 2) .i64 λx8=>R (.tuple #[.agg #[.int .u8 x6,.int .i64 x7,.int .i64 x8],.bool true]) w11) (ldS w8 ((blk w.heap.size).add 2) λx9=>ldI w8 ((blk w2.heap.size).add 2) .i64 λx10=>(0<=(IntKind.i64.wrap (x10-(2:Int)))/\(IntKind.i64.wrap (x10-(2:Int)))<(x9.l:Int))/\zc x9.a λa11=>ldI w8 ((a11.add ((Int.toNat (IntKind.i64.wrap (x10-(2:Int))))*4)).add 0) .u16 λx12=>ldI w8 ((a11.add ((Int.toNat (IntKind.i64.wrap (x10-(2:Int))))*4)).add 1) .u32 λx13=>ldI w8 ((a11.add ((Int.toNat (IntKind.i64.wrap (x10-(2:Int))))*4)).add 2) .u32 λx14=>ldS w8 ((a11.add ((Int.toNat (IntKind.i64.wrap (x10-(2:Int))))*4)).add 3) λx15=>Nw (w8.alloc (.cells #[.int .u16 0,.int .u32 0,.int .u32 0,.slice none 0 0] 41)) λw12=>Wr w12 (blk w8.heap.size)/\Nw (w12.setCell (blk w8.heap.size) (.int .u16 x12)) λw13=>Wr w13 ((blk w8.heap.size).add 1)/\Nw (w13.setCell ((blk w8.heap.size).add 1) (.int .u32 x13)) λw14=>Wr w14 ((blk w8.heap.size).add 2)/\Nw (w14.setCell ((blk w8.heap.size).add 2) (.int .u32 x14)) λw15=>Wr w15 ((blk w8.heap.size).add 3)/\Nw (w15.setCell ((blk w8.heap.size).add 3) (.slice x15.a x15.l x15.c)) λw16=>zk (S:=Unit) (λm16=>ldI w16 (blk w8.heap.size) .u16 λx18=>ifB (x18 !=246) (ldI w16 (blk w8.heap.size) .u16 λx19=>ifB (x19 !=247) (ldI w16 ((blk w4.heap.size).add 0) .u8 λx20=>ldI w16 ((blk w4.heap.size).add 1) .i64 λx21=>ldI w16 ((blk w4.heap.size).add 2) .i64 λx22=>Wr w16 (blk w3.heap.size)/\Nw (w16.setCell (blk w3.heap.size) (.int .u8 x20)) λw17=>Wr w17 ((blk w3.heap.size).add 1)/\Nw (w17.setCell ((blk w3.heap.size).add 1) (.int .i64 x21)) λw18=>Wr w18 ((blk w3.heap.size).add 2)/\Nw (w18.setCell ((blk w3.heap.size).add 2) (.int .i64 x22)) λw19=>ldI w19 ((blk w3.heap.size).add 0) .u8 λx23=>ldI w19 ((blk w3.heap.size).add 1) .i64 λx24=>ldI w19 ((blk w3.heap.size).add 2) .i64 λx25=>R (.tuple #[.agg #[.int .u8 x23,.int .i64 x24,.int .i64 x25],.bool true]) w19) (m16 () w16)) (m16 () w16)) (λs17 w20=>zk (S:=Addr×Unit) (λm26=>ldI w20.drew ((blk w1.heap.size).add 0) .u32 λx28=>ldI w20.drew ((blk w1.heap.size).add 1) .i64 λx29=>ldS w20.drew ((blk w1.heap.size).add 2) λx30=>ldS w20.drew ((blk w1.heap.size).add 3) λx31=>ldI w20.drew ((blk w1.heap.size).add 4) .i64 λx32=>ldS w20.drew ((blk w8.heap.size).add 3) λx33=>(0<=(0:Int)/\0<(x33.l:Int))/\zc x33.a λa34=>ldI w20.drew ((a34.add (0*3)).add 1) .u32 λx35=>(cR 83 #[.agg #[.int .u32 x28,.int .i64 x29,.slice x30.a x30.l x30.c,.slice x31.a x31.l x31.c,.int .i64 x32],.int .u32 x35] w20.drew λv36 w21=>∃x37:Int,v36=(.int .i64 x37)/\Nw (w21.alloc (.cells #[.int .u8 0,.int .i64 0,.int .i64 0] 121)) λw22=>Wr w22 (blk w21.heap.size)/\Nw (w22.setCell (blk w21.heap.size) (.int .u8 1)) λw23=>Wr w23 ((blk w21.heap.size).add 1)/\Nw (w23.setCell ((blk w21.heap.size).add 1) (.int .i64 x37)) λw24=>Wr w24 ((blk w21.heap.size).add 2)/\Nw (w24.setCell ((blk w21.heap.size).add 2) (.int .i64 (-1:Int))) λw25=>m26 ((blk w21.heap.size),()) w25)/\Nw (w20.drew.alloc (.cells #[.int .u8 0,.int .i64 0,.int .i64 0] 121)) λw26=>w26.cell? ((a34.add (0*3)).add 1)=some (.int .u32 x35)/\w26.cell? ((blk w8.heap.size).add 3)=some (.slice x33.a x33.l x33.c)/\w26.cell? ((blk w1.heap.size).add 0)=some (.int .u32 x28)/\w26.cell? ((blk w1.heap.size).add 1)=some (.int .i64 x29)/\w26.cell? ((blk w1.heap.size).add 2)=some (.slice x30.a x30.l x30.c)/\w26.cell? ((blk w1.heap.size).add 3)=some (.slice x31.a x31.l x31.c)/\w26.cell? ((blk w1.heap.size).add 4)=some (.int .i64 x32)/\cR 83 #[.agg #[.int .u32 x28,.int .i64 x29,.slice x30.a x30.l x30.c,.slice x31.a x31.l x31.c,.int .i64 x32],.int .u32 x35] w26 λv38 w27=>∃x39:Int,v38=(.int .i64 x39)/\Wr w27 (blk w20.drew.heap.size)/\Nw (w27.setCell (blk w20.drew.heap.size) (.int .u8 1)) λw28=>Wr w28 ((blk w20.drew.heap.size).add 1)/\Nw (w28.setCell ((blk w20.drew.heap.size).add 1) (.int .i64 x39)) λw29=>Wr w29 ((blk w20.drew.heap.size).add 2)/\Nw (w29.setCell ((blk w20.drew.heap.size).add 2) (.int .i64 (-1:Int))) λw30=>m26 ((blk w20.drew.heap.size),()) w30) (λs27 w31=>ldI w31 (s27.1.add 1) .i64 λx40=>ifB (decide (x40<(0:Int))) (ldI w31 ((blk w4.heap.size).add 0) .u8 λx41=>ldI w31 ((blk w4.heap.size).add 1) .i64 λx42=>ldI w31 ((blk w4.heap.size).add 2) .i64 λx43=>Wr w31 (blk w3.heap.size)/\Nw (w31.setCell (blk w3.heap.size) (.int .u8 x41)) λw32=>Wr w32 ((blk w3.heap.size).add 1)/\Nw (w32.setCell ((blk w3.heap.size).add 1) (.int .i64 x42)) λw33=>Wr w33 ((blk w3.heap.size).add 2)/\Nw (w33.setCell ((blk w3.heap.size).add 2) (.int .i64 x43)) λw34=>ldI w34 ((blk w3.heap.size).add 0) .u8 λx44=>ldI w34 ((blk w3.heap.size).add 1) .i64 λx45=>ldI w34 ((blk w3.heap.size).add 2) .i64 λx46=>R (.tuple #[.agg #[.int .u8 x44,.int .i64 x45,.int .i64 x46],.bool false]) w34) (ldI w31 (blk w8.heap.size) .u16 λx47=>ifB (x47==246) (Wr w31 s27.1/\Nw (w31.setCell s27.1 (.int .u8 2)) λw35=>ldI w35.drew ((blk w1.heap.size).add 0) .u32 λx48=>ldI w35.drew ((blk w1.heap.size).add 1) .i64 λx49=>ldS w35.drew ((blk w1.heap.size).add 2) λx50=>ldS w35.drew ((blk w1.heap.size).add 3) λx51=>ldI w35.drew ((blk w1.heap.size).add 4) .i64 λx52=>ldS w35.drew ((blk w8.heap.size).add 3) λx53=>(0<=(1:Int)/\1<(x53.l:Int))/\zc x53.a λa54=>ldI w35.drew ((a54.add (1*3)).add 1) .u32 λx55=>cR 83 #[.agg #[.int .u32 x48,.int .i64 x49,.slice x50.a x50.l x50.c,.slice x51.a x51.l x51.c,.int .i64 x52],.int .u32 x55] w35.drew λv56 w36=>∃x57:Int,v56=(.int .i64 x57)/\Wr w36 (s27.1.add 2)/\Nw (w36.setCell (s27.1.add 2) (.int .i64 x57)) λw37=>ldI w37.drew (s27.1.add 0) .u8 λx58=>ldI w37.drew (s27.1.add 1) .i64 λx59=>ldI w37.drew (s27.1.add 2) .i64 λx60=>ldI w37.drew (s27.1.add 2) .i64 λx61=>Wr w37.drew (blk w3.heap.size)/\Nw (w37.drew.setCell (blk w3.heap.size) (.int .u8 x58)) λw38=>Wr w38 ((blk w3.heap.size).add 1)/\Nw (w38.setCell ((blk w3.heap.size).add 1) (.int .i64 x59)) λw39=>Wr w39 ((blk w3.heap.size).add 2)/\Nw (w39.setCell ((blk w3.heap.size).add 2) (.int .i64 x60)) λw40=>w40.cell? (s27.1.add 2)=some (.int .i64 x61)/\ldI w40 ((blk w3.heap.size).add 0) .u8 λx62=>ldI w40 ((blk w3.heap.size).add 1) .i64 λx63=>ldI w40 ((blk w3.heap.size).add 2) .i64 λx64=>R (.tuple #[.agg #[.int .u8 x62,.int .i64 x63,.int .i64 x64],.bool (decide (x61≥(0:Int)))]) w40) (zk (S:=Unit) (λm65=>ldS w31 ((blk w.heap.size).add 2) λx67=>ldI w31 ((blk w2.heap.size).add 2) .i64 λx68=>(0<=(IntKind.i64.wrap (x68-(1:Int)))/\(IntKind.i64.wrap (x68-(1:Int)))<(x67.l:Int))/\zc x67.a λa69=>ldI w31 (a69.add ((Int.toNat (IntKind.i64.wrap (x68-(1:Int))))*4)) .u16 λx70=>ifB (x70==251) (Wr w31 s27.1/\Nw (w31.setCell s27.1 (.int .u8 3)) λw41=>m65 () w41) (m65 () w31)) (λs66 w42=>ldI w42 (s27.1.add 0) .u8 λx71=>ldI w42 (s27.1.add 1) .i64 λx72=>ldI w42 (s27.1.add 2) .i64 λx73=>Wr w42 (blk w3.heap.size)/\Nw (w42.setCell (blk w3.heap.size) (.int .u8 x71)) λw43=>Wr w43 ((blk w3.heap.size).add 1)/\Nw (w43.setCell ((blk w3.heap.size).add 1) (.int .i64 x72)) λw44=>Wr w44 ((blk w3.heap.size).add 2)/\Nw (w44.setCell ((blk w3.heap.size).add 2) (.int .i64 x73)) λw45=>ldI w45 ((blk w3.heap.size).add 0) .u8 λx74=>ldI w45 ((blk w3.heap.size).add 1) .i64 λx75=>ldI w45 ((blk w3.heap.size).add 2) .i64 λx76=>R (.tuple #[.agg #[.int .u8 x74,.int .i64 x75,.int .i64 x76],.bool true]) w45))))))
theorem zdP(p0)(p1)(p2)(R)(w)(h:za1 p0 p1 p2 R w):Calls Tryz.prog 81 #[.agg #[.int .u32 p0.1,.int .u32 p0.2.1,.slice p0.2.2.1.a p0.2.2.1.l p0.2.2.1.c],.agg #[.int .u32 p1.1,.int .i64 p1.2.1,.slice p1.2.2.1.a p1.2.2.1.l p1.2.2.1.c,.slice p1.2.2.2.1.a p1.2.2.2.1.l p1.2.2.2.1.c,.int .i64 p1.2.2.2.2.1],.agg #[.int .u32 p2.1,.int .i64 p2.2.1,.int .i64 p2.2.2.1]] w (Ret R):=lwC zaM Tryz.func81 (by kernel_rfl) (by kernel_rfl) h
end Go.Proofs
namespace Go.Proofs
open Go.Gk
set_option linter.unusedVariables false
set_option maxRecDepth 100000
def zc2:Ann:=(.q (.q (.seq none (.q (.cond (.q .nil) .nil)) (.q (.seq none (.q (.one (.loop ⟨[1,3,4],[(5,(.b .slice)),(6,(.b (.int .i64)))]⟩ (.seq none (.q .c) (.seq (some ⟨[1,3,4,6],[(5,(.b .slice))]⟩) (.one (.q (.q (.seq (some ⟨[1,3,4,6,7,8],[(5,(.b .slice))]⟩) (.q .c) (.seq (some ⟨[1,3,4,5,6,7,8],[]⟩) (.q .c) (.seq (some ⟨[1,3,4,5,6,7,8],[]⟩) (.q .c) (.seq (some ⟨[1,3,4,5,6,7,8],[]⟩) (.q .c) (.q .c)))))))) .nil))))) (.q .nil))))))
def zco(p0:(Int×Int×Sl×Unit))(R:VWP)(w:World):Prop:=Nw (w.alloc (.cells #[.int .u32 p0.1,.int .u32 p0.2.1,.slice p0.2.2.1.a p0.2.2.1.l p0.2.2.1.c] 25)) λw1=>Nw (w1.alloc (.cells #[.int .i64 0,.int .i64 0] 33)) λw2=>ldI w2 ((blk w.heap.size).add 0) .u32 λx1=>ldI w2 ((blk w.heap.size).add 1) .u32 λx2=>ldS w2 ((blk w.heap.size).add 2) λx3=>cR 30 #[.agg #[.int .u32 x1,.int .u32 x2,.slice x3.a x3.l x3.c]] w2 λv4 w3=>∃x5:(Int×Int×Unit),v4=(.agg #[.int .i64 x5.1,.int .i64 x5.2.1])/\Nw (w3.alloc (.cells #[.int .i64 0,.int .i64 0] 33)) λw4=>Wr w4 (blk w3.heap.size)/\Nw (w4.setCell (blk w3.heap.size) (.int .i64 x5.1)) λw5=>Wr w5 ((blk w3.heap.size).add 1)/\Nw (w5.setCell ((blk w3.heap.size).add 1) (.int .i64 x5.2.1)) λw6=>ldI w6 (blk w3.heap.size) .i64 λx6=>ifB (x6 !=0) (ldI w6.drew ((blk w3.heap.size).add 0) .i64 λx7=>ldI w6.drew ((blk w3.heap.size).add 1) .i64 λx8=>Wr w6.drew (blk w1.heap.size)/\Nw (w6.drew.setCell (blk w1.heap.size) (.int .i64 x7)) λw7=>Wr w7 ((blk w1.heap.size).add 1)/\Nw (w7.setCell ((blk w1.heap.size).add 1) (.int .i64 x8)) λw8=>ldI w8 ((blk w1.heap.size).add 0) .i64 λx9=>ldI w8 ((blk w1.heap.size).add 1) .i64 λx10=>R (.tuple #[.slice none 0 0,.agg #[.int .i64 x9,.int .i64 x10]]) w8) (zl (S:=Sl×Int×Unit) (λs11 w9 n12=>ldS w9 ((blk w.heap.size).add 2) λx13=>ifB (decide (s11.2.1<(x13.l:Int))) (zk (S:=Sl×Unit) (λm14=>ldS w9 ((blk w.heap.size).add 2) λx16=>(0<=s11.2.1/\s11.2.1<(x16.l:Int))/\zc x16.a λa17=>ldI w9 ((a17.add (s11.2.1.toNat *4)).add 0) .u16 λx18=>ldI w9 ((a17.add (s11.2.1.toNat *4)).add 1) .u32 λx19=>ldI w9 ((a17.add (s11.2.1.toNat *4)).add 2) .u32 λx20=>ldS w9 ((a17.add (s11.2.1.toNat *4)).add 3) λx21=>Nw (w9.alloc (.cells #[.int .u16 0,.int .u32 0,.int .u32 0,.slice none 0 0] 41)) λw10=>Wr w10 (blk w9.heap.size)/\Nw (w10.setCell (blk w9.heap.size) (.int .u16 x18)) λw11=>Wr w11 ((blk w9.heap.size).add 1)/\Nw (w11.setCell ((blk w9.heap.size).add 1) (.int .u32 x19)) λw12=>Wr w12 ((blk w9.heap.size).add 2)/\Nw (w12.setCell ((blk w9.heap.size).add 2) (.int .u32 x20)) λw13=>Wr w13 ((blk w9.heap.size).add 3)/\Nw (w13.setCell ((blk w9.heap.size).add 3) (.slice x21.a x21.l x21.c)) λw14=>zk (S:=Sl×Unit) (λm22=>ldI w14 (blk w9.heap.size) .u16 λx24=>ifB (x24==54) (ldI w14 ((blk w9.heap.size).add 2) .u32 λx25=>Nw (w14.alloc (.cells #[.int .u32 x25,.int .i64 s11.2.1,.slice none 0 0,.slice none 0 0,.int .i64 0] 29)) λw15=>zo Tryz.prog 30 (.slice s11.1.a s11.1.l s11.1.c) (.slice (some (blk w14.heap.size)) 1 1) w15 λr26 w16=>m22 (r26,()) w16) (m22 (s11.1,()) w14)) (λs23 w17=>zk (S:=Unit) (λm27=>ldI w17 (blk w9.heap.size) .u16 λx29=>ifB (x29==55) ((0<=(IntKind.i64.wrap ((s11.1.l:Int)-1))/\(IntKind.i64.wrap ((s11.1.l:Int)-1))<(s23.1.l:Int))/\zc s23.1.a λa30=>ldS w17 ((a30.add ((Int.toNat (IntKind.i64.wrap ((s11.1.l:Int)-1)))*5)).add 2) λx31=>Nw (w17.alloc (.cells #[.int .i64 s11.2.1] 3)) λw18=>zo Tryz.prog 26 (.slice x31.a x31.l x31.c) (.slice (some (blk w17.heap.size)) 1 1) w18 λr32 w19=>(0<=(IntKind.i64.wrap ((s11.1.l:Int)-1))/\(IntKind.i64.wrap ((s11.1.l:Int)-1))<(s23.1.l:Int))/\zc s23.1.a λa33=>Wr w19 ((a33.add ((Int.toNat (IntKind.i64.wrap ((s11.1.l:Int)-1)))*5)).add 2)/\Nw (w19.setCell ((a33.add ((Int.toNat (IntKind.i64.wrap ((s11.1.l:Int)-1)))*5)).add 2) (.slice r32.a r32.l r32.c)) λw20=>m27 () w20) (m27 () w17)) (λs28 w21=>zk (S:=Unit) (λm34=>ldI w21 (blk w9.heap.size) .u16 λx36=>ifB (x36==56) ((0<=(IntKind.i64.wrap ((s11.1.l:Int)-1))/\(IntKind.i64.wrap ((s11.1.l:Int)-1))<(s23.1.l:Int))/\zc s23.1.a λa37=>Wr w21 ((a37.add ((Int.toNat (IntKind.i64.wrap ((s11.1.l:Int)-1)))*5)).add 4)/\Nw (w21.setCell ((a37.add ((Int.toNat (IntKind.i64.wrap ((s11.1.l:Int)-1)))*5)).add 4) (.int .i64 s11.2.1)) λw22=>m34 () w22) (m34 () w21)) (λs35 w23=>zk (S:=Unit) (λm38=>ldI w23 (blk w9.heap.size) .u16 λx40=>ifB (x40==248) ((0<=(IntKind.i64.wrap ((s11.1.l:Int)-1))/\(IntKind.i64.wrap ((s11.1.l:Int)-1))<(s23.1.l:Int))/\zc s23.1.a λa41=>ldS w23.drew ((a41.add ((Int.toNat (IntKind.i64.wrap ((s11.1.l:Int)-1)))*5)).add 3) λx42=>ldI w23.drew ((blk w9.heap.size).add 2) .u32 λx43=>Nw (w23.drew.alloc (.cells #[.int .u32 x43,.int .i64 s11.2.1,.int .i64 0] 69)) λw24=>w24.cell? ((a41.add ((Int.toNat (IntKind.i64.wrap ((s11.1.l:Int)-1)))*5)).add 3)=some (.slice x42.a x42.l x42.c)/\zo Tryz.prog 27 (.slice x42.a x42.l x42.c) (.slice (some (blk w23.drew.heap.size)) 1 1) w24 λr44 w25=>(0<=(IntKind.i64.wrap ((s11.1.l:Int)-1))/\(IntKind.i64.wrap ((s11.1.l:Int)-1))<(s23.1.l:Int))/\zc s23.1.a λa45=>Wr w25 ((a45.add ((Int.toNat (IntKind.i64.wrap ((s11.1.l:Int)-1)))*5)).add 3)/\Nw (w25.setCell ((a45.add ((Int.toNat (IntKind.i64.wrap ((s11.1.l:Int)-1)))*5)).add 3) (.slice r44.a r44.l r44.c)) λw26=>m38 () w26) (m38 () w23)) (λs39 w27=>ldI w27 (blk w9.heap.size) .u16 λx46=>cR 31 #[.int .u16 x46] w27 λv47 w28=>∃x48:Bool,v47=(.bool x48)/\ifB x48 ((0<=(IntKind.i64.wrap ((s11.1.l:Int)-1))/\(IntKind.i64.wrap ((s11.1.l:Int)-1))<(s23.1.l:Int))/\zc s23.1.a λa49=>ldS w28.drew ((a49.add ((Int.toNat (IntKind.i64.wrap ((s11.1.l:Int)-1)))*5)).add 3) λx50=>(0<=(IntKind.i64.wrap ((s11.1.l:Int)-1))/\(IntKind.i64.wrap ((s11.1.l:Int)-1))<(s23.1.l:Int))/\zc s23.1.a λa51=>ldS w28.drew ((a51.add ((Int.toNat (IntKind.i64.wrap ((s11.1.l:Int)-1)))*5)).add 3) λx52=>(0<=(IntKind.i64.wrap ((x52.l:Int)-1))/\(IntKind.i64.wrap ((x52.l:Int)-1))<(x50.l:Int))/\zc x50.a λa53=>Wr w28.drew ((a53.add ((Int.toNat (IntKind.i64.wrap ((x52.l:Int)-1)))*3)).add 2)/\Nw (w28.drew.setCell ((a53.add ((Int.toNat (IntKind.i64.wrap ((x52.l:Int)-1)))*3)).add 2) (.int .i64 (IntKind.i64.wrap (s11.2.1+(1:Int))))) λw29=>m14 (s23.1,()) w29) (m14 (s23.1,()) w28)))))) (λs15 w30=>n12 (s15.1,(IntKind.i64.wrap (s11.2.1+(1:Int))),()) w30)) (ldI w9.drew ((blk w3.heap.size).add 0) .i64 λx54=>ldI w9.drew ((blk w3.heap.size).add 1) .i64 λx55=>Wr w9.drew (blk w1.heap.size)/\Nw (w9.drew.setCell (blk w1.heap.size) (.int .i64 x54)) λw31=>Wr w31 ((blk w1.heap.size).add 1)/\Nw (w31.setCell ((blk w1.heap.size).add 1) (.int .i64 x55)) λw32=>ldI w32 ((blk w1.heap.size).add 0) .i64 λx56=>ldI w32 ((blk w1.heap.size).add 1) .i64 λx57=>R (.tuple #[.slice s11.1.a s11.1.l s11.1.c,.agg #[.int .i64 x56,.int .i64 x57]]) w32)) ((Sl.mk none 0 0),0,()) w6)
theorem zfd(p0)(R)(w)(h:zco p0 R w):Calls Tryz.prog 8 #[.agg #[.int .u32 p0.1,.int .u32 p0.2.1,.slice p0.2.2.1.a p0.2.2.1.l p0.2.2.1.c]] w (Ret R):=lwC zc2 Tryz.func8 (by kernel_rfl) (by kernel_rfl) h
def zaO:Ann:=(.q (.q (.seq none (.q (.one (.loop ⟨[3,5],[(7,(.b (.int .i64)))]⟩ (.seq none (.q .c) (.seq none (.one (.q (.cond (.q .nil) .nil))) .nil))))) (.q .nil))))
def za3(p0:(Int×Int×Sl×Unit))(p1:(Int×Int×Sl×Sl×Int×Unit))(R:VWP)(w:World):Prop:=Nw (w.alloc (.cells #[.int .u32 p0.1,.int .u32 p0.2.1,.slice p0.2.2.1.a p0.2.2.1.l p0.2.2.1.c] 25)) λw1=>Nw (w1.alloc (.cells #[.int .u32 p1.1,.int .i64 p1.2.1,.slice p1.2.2.1.a p1.2.2.1.l p1.2.2.1.c,.slice p1.2.2.2.1.a p1.2.2.2.1.l p1.2.2.2.1.c,.int .i64 p1.2.2.2.2.1] 29)) λw2=>ldI w2 ((blk w.heap.size).add 0) .u32 λx1=>ldI w2 ((blk w.heap.size).add 1) .u32 λx2=>ldS w2 ((blk w.heap.size).add 2) λx3=>cR 8 #[.agg #[.int .u32 x1,.int .u32 x2,.slice x3.a x3.l x3.c]] w2 λv4 w3=>∃x5:Sl,∃x6:(Int×Int×Unit),v4=(.tuple #[.slice x5.a x5.l x5.c,.agg #[.int .i64 x6.1,.int .i64 x6.2.1]])/\Nw (w3.alloc (.cells #[.int .i64 0,.int .i64 0] 33)) λw4=>Wr w4 (blk w3.heap.size)/\Nw (w4.setCell (blk w3.heap.size) (.int .i64 x6.1)) λw5=>Wr w5 ((blk w3.heap.size).add 1)/\Nw (w5.setCell ((blk w3.heap.size).add 1) (.int .i64 x6.2.1)) λw6=>zl (S:=Int×Unit) (λs7 w7 n8=>ifB (decide (s7.1<(x5.l:Int))) ((0<=s7.1/\s7.1<(x5.l:Int))/\zc x5.a λa9=>ldI w7.drew ((a9.add (s7.1.toNat *5)).add 0) .u32 λx10=>ldI w7.drew ((a9.add (s7.1.toNat *5)).add 1) .i64 λx11=>ldS w7.drew ((a9.add (s7.1.toNat *5)).add 2) λx12=>ldS w7.drew ((a9.add (s7.1.toNat *5)).add 3) λx13=>ldI w7.drew ((a9.add (s7.1.toNat *5)).add 4) .i64 λx14=>ldI w7.drew ((blk w1.heap.size).add 0) .u32 λx15=>ldI w7.drew ((blk w1.heap.size).add 1) .i64 λx16=>ldS w7.drew ((blk w1.heap.size).add 2) λx17=>ldS w7.drew ((blk w1.heap.size).add 3) λx18=>ldI w7.drew ((blk w1.heap.size).add 4) .i64 λx19=>cR 128 #[.agg #[.int .u32 x10,.int .i64 x11,.slice x12.a x12.l x12.c,.slice x13.a x13.l x13.c,.int .i64 x14],.agg #[.int .u32 x15,.int .i64 x16,.slice x17.a x17.l x17.c,.slice x18.a x18.l x18.c,.int .i64 x19]] w7.drew λv20 w8=>∃x21:Bool,v20=(.bool x21)/\ifB x21 (R (.bool true) w8) (n8 ((IntKind.i64.wrap (s7.1+(1:Int))),()) w8)) (R (.bool false) w7)) (0,()) w6
theorem zdR(p0)(p1)(R)(w)(h:za3 p0 p1 R w):Calls Tryz.prog 80 #[.agg #[.int .u32 p0.1,.int .u32 p0.2.1,.slice p0.2.2.1.a p0.2.2.1.l p0.2.2.1.c],.agg #[.int .u32 p1.1,.int .i64 p1.2.1,.slice p1.2.2.1.a p1.2.2.1.l p1.2.2.1.c,.slice p1.2.2.2.1.a p1.2.2.2.1.l p1.2.2.2.1.c,.int .i64 p1.2.2.2.2.1]] w (Ret R):=lwC zaO Tryz.func80 (by kernel_rfl) (by kernel_rfl) h
def zaN:Ann:=(.q (.seq none (.q (.one (.loop ⟨[1,2],[(5,(.b (.int .i64)))]⟩ (.seq none (.q .c) (.seq none (.one (.q (.cond (.q .nil) .nil))) .nil))))) (.q .nil)))
def za2(p0:(Int×Int×Sl×Sl×Int×Unit))(p1:Int)(R:VWP)(w:World):Prop:=Nw (w.alloc (.cells #[.int .u32 p0.1,.int .i64 p0.2.1,.slice p0.2.2.1.a p0.2.2.1.l p0.2.2.1.c,.slice p0.2.2.2.1.a p0.2.2.2.1.l p0.2.2.2.1.c,.int .i64 p0.2.2.2.2.1] 29)) λw1=>zl (S:=Int×Unit) (λs1 w2 n2=>ldS w2 ((blk w.heap.size).add 3) λx3=>ifB (decide (s1.1<(x3.l:Int))) (ldS w2 ((blk w.heap.size).add 3) λx4=>(0<=s1.1/\s1.1<(x4.l:Int))/\zc x4.a λa5=>ldI w2 (a5.add (s1.1.toNat *3)) .u32 λx6=>ifB (x6==p1) (R (.int .i64 s1.1) w2) (n2 ((IntKind.i64.wrap (s1.1+(1:Int))),()) w2)) (R (.int .i64 (-1:Int)) w2)) (1,()) w1
theorem zdQ(p0)(p1)(R)(w)(h:za2 p0 p1 R w):Calls Tryz.prog 83 #[.agg #[.int .u32 p0.1,.int .i64 p0.2.1,.slice p0.2.2.1.a p0.2.2.1.l p0.2.2.1.c,.slice p0.2.2.2.1.a p0.2.2.2.1.l p0.2.2.2.1.c,.int .i64 p0.2.2.2.2.1],.int .u32 p1] w (Ret R):=lwC zaN Tryz.func83 (by kernel_rfl) (by kernel_rfl) h
def Yc:Ann:=(.q (.seq (some ⟨[2,3],[]⟩) (.q (.cond (.q .nil) .nil)) (.seq none (.q (.one (.loop ⟨[2,3],[(5,(.b (.int .i64)))]⟩ (.seq none (.q .c) (.seq none (.one (.q (.cond (.q .nil) .nil))) .nil))))) (.seq none (.q (.one (.loop ⟨[2,3],[(6,(.b (.int .i64)))]⟩ (.seq none (.q .c) (.seq none (.one (.q (.cond (.q .nil) .nil))) .nil))))) (.q .nil)))))
def ZX(p0:(Int×Int×Sl×Sl×Int×Unit))(p1:(Int×Int×Sl×Sl×Int×Unit))(R:VWP)(w:World):Prop:=Nw (w.alloc (.cells #[.int .u32 p0.1,.int .i64 p0.2.1,.slice p0.2.2.1.a p0.2.2.1.l p0.2.2.1.c,.slice p0.2.2.2.1.a p0.2.2.2.1.l p0.2.2.2.1.c,.int .i64 p0.2.2.2.2.1] 29)) λw1=>Nw (w1.alloc (.cells #[.int .u32 p1.1,.int .i64 p1.2.1,.slice p1.2.2.1.a p1.2.2.1.l p1.2.2.1.c,.slice p1.2.2.2.1.a p1.2.2.2.1.l p1.2.2.2.1.c,.int .i64 p1.2.2.2.2.1] 29)) λw2=>zk (S:=Unit) (λm1=>ldI w2 (blk w.heap.size) .u32 λx3=>ldI w2 (blk w1.heap.size) .u32 λx4=>ifB (x3 !=x4) (R (.bool false) w2) (ldI w2 ((blk w.heap.size).add 1) .i64 λx5=>ldI w2 ((blk w1.heap.size).add 1) .i64 λx6=>ifB (x5 !=x6) (R (.bool false) w2) (ldI w2 ((blk w.heap.size).add 4) .i64 λx7=>ldI w2 ((blk w1.heap.size).add 4) .i64 λx8=>ifB (x7 !=x8) (R (.bool false) w2) (ldS w2 ((blk w.heap.size).add 2) λx9=>ldS w2 ((blk w1.heap.size).add 2) λx10=>ifB ((x9.l:Int) !=(x10.l:Int)) (R (.bool false) w2) (ldS w2 ((blk w.heap.size).add 3) λx11=>ldS w2 ((blk w1.heap.size).add 3) λx12=>ifB ((x11.l:Int) !=(x12.l:Int)) (R (.bool false) w2) (m1 () w2)))))) (λs2 w3=>zl (S:=Int×Unit) (λs13 w4 n14=>ldS w4 ((blk w.heap.size).add 2) λx15=>ifB (decide (s13.1<(x15.l:Int))) (ldS w4.drew ((blk w.heap.size).add 2) λx16=>(0<=s13.1/\s13.1<(x16.l:Int))/\zc x16.a λa17=>ldI w4.drew (a17.add s13.1.toNat) .i64 λx18=>ldS w4.drew ((blk w1.heap.size).add 2) λx19=>(0<=s13.1/\s13.1<(x19.l:Int))/\zc x19.a λa20=>ldI w4.drew (a20.add s13.1.toNat) .i64 λx21=>ifB (x18 !=x21) (R (.bool false) w4.drew) (n14 ((IntKind.i64.wrap (s13.1+(1:Int))),()) w4.drew)) (zl (S:=Int×Unit) (λs22 w5 n23=>ldS w5 ((blk w.heap.size).add 3) λx24=>ifB (decide (s22.1<(x24.l:Int))) (ldS w5.drew ((blk w.heap.size).add 3) λx25=>(0<=s22.1/\s22.1<(x25.l:Int))/\zc x25.a λa26=>ldI w5.drew ((a26.add (s22.1.toNat *3)).add 0) .u32 λx27=>ldI w5.drew ((a26.add (s22.1.toNat *3)).add 1) .i64 λx28=>ldI w5.drew ((a26.add (s22.1.toNat *3)).add 2) .i64 λx29=>ldS w5.drew ((blk w1.heap.size).add 3) λx30=>(0<=s22.1/\s22.1<(x30.l:Int))/\zc x30.a λa31=>ldI w5.drew ((a31.add (s22.1.toNat *3)).add 0) .u32 λx32=>ldI w5.drew ((a31.add (s22.1.toNat *3)).add 1) .i64 λx33=>ldI w5.drew ((a31.add (s22.1.toNat *3)).add 2) .i64 λx34=>ifB (!(x27==x32&&(x28==x33&&(x29==x34&&true)))) (R (.bool false) w5.drew) (n23 ((IntKind.i64.wrap (s22.1+(1:Int))),()) w5.drew)) (R (.bool true) w5)) (0,()) w4)) (0,()) w3)
theorem zcf(p0)(p1)(R)(w)(h:ZX p0 p1 R w):Calls Tryz.prog 128 #[.agg #[.int .u32 p0.1,.int .i64 p0.2.1,.slice p0.2.2.1.a p0.2.2.1.l p0.2.2.1.c,.slice p0.2.2.2.1.a p0.2.2.2.1.l p0.2.2.2.1.c,.int .i64 p0.2.2.2.2.1],.agg #[.int .u32 p1.1,.int .i64 p1.2.1,.slice p1.2.2.1.a p1.2.2.1.l p1.2.2.1.c,.slice p1.2.2.2.1.a p1.2.2.2.1.l p1.2.2.2.1.c,.int .i64 p1.2.2.2.2.1]] w (Ret R):=lwC Yc Tryz.func128 (by kernel_rfl) (by kernel_rfl) h
end Go.Proofs
namespace Go.Proofs
open Go.Gk
set_option linter.unusedVariables false
set_option maxRecDepth 100000
def zkw:Ann:=(.q (.seq none (.q (.q (.cond (.q .nil) .nil))) (.q (.seq none (.one (.q (.cond (.q .nil) (.q (.cond (.q .nil) .nil))))) (.q (.seq none (.q (.one (.loop ⟨[2,3,6,10,51,52],[(53,(.b (.int .i64)))]⟩ (.q (.seq none .c (.seq none (.one (.q .nil)) .nil)))))) (.q (.q (.seq none (.q (.one (.loop ⟨[2,6,10,65,66],[(13,(.b .slice)),(14,(.b .slice)),(67,(.b (.int .i64)))]⟩ (.q (.seq none .c (.seq none (.one (.q (.q (.seq (some ⟨[2,6,10,13,14,16,17,65,66,67],[(18,(.b .ptr)),(19,(.b .bool))]⟩) .nil (.seq none (.q (.cond (.q .nil) .nil)) (.q (.seq none (.q (.cond (.q .nil) .nil)) (.q .nil)))))))) .nil)))))) (.q (.q .nil)))))))))))
def zks(p0:(Int×Int×Sl×Unit))(p1:(Int×Int×Sl×Sl×Int×Unit))(R:VWP)(w:World):Prop:=Nw (w.alloc (.cells #[.int .u32 p0.1,.int .u32 p0.2.1,.slice p0.2.2.1.a p0.2.2.1.l p0.2.2.1.c] 25)) λw1=>Nw (w1.alloc (.cells #[.int .u32 p1.1,.int .i64 p1.2.1,.slice p1.2.2.1.a p1.2.2.1.l p1.2.2.1.c,.slice p1.2.2.2.1.a p1.2.2.2.1.l p1.2.2.2.1.c,.int .i64 p1.2.2.2.2.1] 29)) λw2=>Nw (w2.alloc (.cells #[.int .i64 0,.int .i64 0] 33)) λw3=>ldI w3 ((blk w.heap.size).add 0) .u32 λx1=>ldI w3 ((blk w.heap.size).add 1) .u32 λx2=>ldS w3 ((blk w.heap.size).add 2) λx3=>cR 44 #[.agg #[.int .u32 x1,.int .u32 x2,.slice x3.a x3.l x3.c]] w3 λv4 w4=>∃x5:(Int×Int×Unit),v4=(.agg #[.int .i64 x5.1,.int .i64 x5.2.1])/\Nw (w4.alloc (.cells #[.int .i64 0,.int .i64 0] 33)) λw5=>Wr w5 (blk w4.heap.size)/\Nw (w5.setCell (blk w4.heap.size) (.int .i64 x5.1)) λw6=>Wr w6 ((blk w4.heap.size).add 1)/\Nw (w6.setCell ((blk w4.heap.size).add 1) (.int .i64 x5.2.1)) λw7=>ldI w7 (blk w4.heap.size) .i64 λx6=>ifB (x6 !=0) (ldI w7.drew ((blk w4.heap.size).add 0) .i64 λx7=>ldI w7.drew ((blk w4.heap.size).add 1) .i64 λx8=>Wr w7.drew (blk w2.heap.size)/\Nw (w7.drew.setCell (blk w2.heap.size) (.int .i64 x7)) λw8=>Wr w8 ((blk w2.heap.size).add 1)/\Nw (w8.setCell ((blk w2.heap.size).add 1) (.int .i64 x8)) λw9=>ldI w9 ((blk w2.heap.size).add 0) .i64 λx9=>ldI w9 ((blk w2.heap.size).add 1) .i64 λx10=>R (.tuple #[.pointer none,.slice none 0 0,.agg #[.int .i64 x9,.int .i64 x10]]) w9) (ldI w7 ((blk w.heap.size).add 0) .u32 λx11=>ldI w7 ((blk w.heap.size).add 1) .u32 λx12=>ldS w7 ((blk w.heap.size).add 2) λx13=>cR 45 #[.agg #[.int .u32 x11,.int .u32 x12,.slice x13.a x13.l x13.c]] w7 λv14 w10=>∃x15:Sl,∃x16:(Int×Int×Unit),v14=(.tuple #[.slice x15.a x15.l x15.c,.agg #[.int .i64 x16.1,.int .i64 x16.2.1]])/\Nw (w10.alloc (.cells #[.int .i64 0,.int .i64 0] 33)) λw11=>Wr w11 (blk w10.heap.size)/\Nw (w11.setCell (blk w10.heap.size) (.int .i64 x16.1)) λw12=>Wr w12 ((blk w10.heap.size).add 1)/\Nw (w12.setCell ((blk w10.heap.size).add 1) (.int .i64 x16.2.1)) λw13=>cR 85 #[.slice x15.a x15.l x15.c,.func (.func 86) #[] #[.pointer (some (blk w1.heap.size))]] w13 λv17 w14=>∃x18:Bool,v17=(.bool x18)/\ifB (!x18) (Wr w14 (blk w2.heap.size)/\Nw (w14.setCell (blk w2.heap.size) (.int .i64 2)) λw15=>Wr w15 ((blk w2.heap.size).add 1)/\Nw (w15.setCell ((blk w2.heap.size).add 1) (.int .i64 0)) λw16=>ldI w16 ((blk w2.heap.size).add 0) .i64 λx19=>ldI w16 ((blk w2.heap.size).add 1) .i64 λx20=>R (.tuple #[.pointer none,.slice none 0 0,.agg #[.int .i64 x19,.int .i64 x20]]) w16) (ldS w14 ((blk w1.heap.size).add 3) λx21=>ifB (decide ((x21.l:Int)>4096)) (ldI w14.drew ((blk w1.heap.size).add 1) .i64 λx22=>Wr w14.drew (blk w2.heap.size)/\Nw (w14.drew.setCell (blk w2.heap.size) (.int .i64 4)) λw17=>Wr w17 ((blk w2.heap.size).add 1)/\Nw (w17.setCell ((blk w2.heap.size).add 1) (.int .i64 x22)) λw18=>ldI w18 ((blk w2.heap.size).add 0) .i64 λx23=>ldI w18 ((blk w2.heap.size).add 1) .i64 λx24=>R (.tuple #[.pointer none,.slice none 0 0,.agg #[.int .i64 x23,.int .i64 x24]]) w18) (Nw (w14.alloc (.map #[] 0)) λw19=>ldS w19 ((blk w1.heap.size).add 3) λx25=>(0<=(1:Int)/\1<=(x25.l:Int)/\(x25.l:Int)<=(x25.c:Int))/\zl (S:=Int×Unit) (λs26 w20 n27=>ifB (decide (s26.1<(((x25.l-1):Nat):Int))) ((0<=s26.1/\s26.1<(((x25.l-1):Nat):Int))/\zc (if x25.c=1 then x25.a else Option.map (λa=>a.add (1*3)) x25.a) λa28=>ldI w20 ((a28.add (s26.1.toNat *3)).add 0) .u32 λx29=>ldI w20 ((a28.add (s26.1.toNat *3)).add 1) .i64 λx30=>ldI w20 ((a28.add (s26.1.toNat *3)).add 2) .i64 λx31=>Nw (w20.alloc (.cells #[.int .u32 0,.int .i64 0,.int .i64 0] 69)) λw21=>Wr w21 (blk w20.heap.size)/\Nw (w21.setCell (blk w20.heap.size) (.int .u32 x29)) λw22=>Wr w22 ((blk w20.heap.size).add 1)/\Nw (w22.setCell ((blk w20.heap.size).add 1) (.int .i64 x30)) λw23=>Wr w23 ((blk w20.heap.size).add 2)/\Nw (w23.setCell ((blk w20.heap.size).add 2) (.int .i64 x31)) λw24=>ldI w24 (blk w20.heap.size) .u32 λx32=>updW Tryz.prog 131 (.map (some w14.heap.size)) (.int .u32 x32) (.int .i64 (IntKind.i64.wrap (s26.1+(1:Int)))) w24 λw25=>n27 ((IntKind.i64.wrap (s26.1+(1:Int))),()) w25) (ldS w20 ((blk w1.heap.size).add 3) λx33=>zl (S:=Sl×Sl×Int×Unit) (λs34 w26 n35=>ifB (decide (s34.2.2.1<(x33.l:Int))) ((0<=s34.2.2.1/\s34.2.2.1<(x33.l:Int))/\zc x33.a λa36=>ldI w26 ((a36.add (s34.2.2.1.toNat *3)).add 0) .u32 λx37=>ldI w26 ((a36.add (s34.2.2.1.toNat *3)).add 1) .i64 λx38=>ldI w26 ((a36.add (s34.2.2.1.toNat *3)).add 2) .i64 λx39=>Nw (w26.alloc (.cells #[.int .u32 0,.int .i64 0,.int .i64 0] 69)) λw27=>Wr w27 (blk w26.heap.size)/\Nw (w27.setCell (blk w26.heap.size) (.int .u32 x37)) λw28=>Wr w28 ((blk w26.heap.size).add 1)/\Nw (w28.setCell ((blk w26.heap.size).add 1) (.int .i64 x38)) λw29=>Wr w29 ((blk w26.heap.size).add 2)/\Nw (w29.setCell ((blk w26.heap.size).add 2) (.int .i64 x39)) λw30=>ldS w30 ((blk w.heap.size).add 2) λx40=>ldI w30 ((blk w26.heap.size).add 2) .i64 λx41=>(0<=(IntKind.i64.wrap (x41-(1:Int)))/\(IntKind.i64.wrap (x41-(1:Int)))<(x40.l:Int))/\zc x40.a λa42=>ldI w30 ((a42.add ((Int.toNat (IntKind.i64.wrap (x41-(1:Int))))*4)).add 0) .u16 λx43=>ldI w30 ((a42.add ((Int.toNat (IntKind.i64.wrap (x41-(1:Int))))*4)).add 1) .u32 λx44=>ldI w30 ((a42.add ((Int.toNat (IntKind.i64.wrap (x41-(1:Int))))*4)).add 2) .u32 λx45=>ldS w30 ((a42.add ((Int.toNat (IntKind.i64.wrap (x41-(1:Int))))*4)).add 3) λx46=>Nw (w30.alloc (.cells #[.int .u16 0,.int .u32 0,.int .u32 0,.slice none 0 0] 41)) λw31=>Wr w31 (blk w30.heap.size)/\Nw (w31.setCell (blk w30.heap.size) (.int .u16 x43)) λw32=>Wr w32 ((blk w30.heap.size).add 1)/\Nw (w32.setCell ((blk w30.heap.size).add 1) (.int .u32 x44)) λw33=>Wr w33 ((blk w30.heap.size).add 2)/\Nw (w33.setCell ((blk w30.heap.size).add 2) (.int .u32 x45)) λw34=>Wr w34 ((blk w30.heap.size).add 3)/\Nw (w34.setCell ((blk w30.heap.size).add 3) (.slice x46.a x46.l x46.c)) λw35=>zk (S:=(Option Addr)×Bool×Unit) (λm47=>ldS w35.drew ((blk w.heap.size).add 2) λx49=>ldI w35.drew ((blk w26.heap.size).add 2) .i64 λx50=>(0<=(IntKind.i64.wrap (x50-(2:Int)))/\(IntKind.i64.wrap (x50-(2:Int)))<(x49.l:Int))/\zc x49.a λa51=>ldI w35.drew ((a51.add ((Int.toNat (IntKind.i64.wrap (x50-(2:Int))))*4)).add 0) .u16 λx52=>ldI w35.drew ((a51.add ((Int.toNat (IntKind.i64.wrap (x50-(2:Int))))*4)).add 1) .u32 λx53=>ldI w35.drew ((a51.add ((Int.toNat (IntKind.i64.wrap (x50-(2:Int))))*4)).add 2) .u32 λx54=>ldS w35.drew ((a51.add ((Int.toNat (IntKind.i64.wrap (x50-(2:Int))))*4)).add 3) λx55=>ldI w35.drew ((blk w30.heap.size).add 0) .u16 λx56=>ldI w35.drew ((blk w30.heap.size).add 1) .u32 λx57=>ldI w35.drew ((blk w30.heap.size).add 2) .u32 λx58=>ldS w35.drew ((blk w30.heap.size).add 3) λx59=>(cR 88 #[.map (some w14.heap.size),.agg #[.int .u16 x52,.int .u32 x53,.int .u32 x54,.slice x55.a x55.l x55.c],.agg #[.int .u16 x56,.int .u32 x57,.int .u32 x58,.slice x59.a x59.l x59.c]] w35.drew λv60 w36=>∃x61:(Int×Int×Int×Unit),∃x62:Bool,v60=(.tuple #[.agg #[.int .u8 x61.1,.int .i64 x61.2.1,.int .i64 x61.2.2.1],.bool x62])/\Nw (w36.alloc (.cells #[.int .u8 0,.int .i64 0,.int .i64 0] 121)) λw37=>Wr w37 (blk w36.heap.size)/\Nw (w37.setCell (blk w36.heap.size) (.int .u8 x61.1)) λw38=>Wr w38 ((blk w36.heap.size).add 1)/\Nw (w38.setCell ((blk w36.heap.size).add 1) (.int .i64 x61.2.1)) λw39=>Wr w39 ((blk w36.heap.size).add 2)/\Nw (w39.setCell ((blk w36.heap.size).add 2) (.int .i64 x61.2.2.1)) λw40=>m47 ((some (blk w36.heap.size)),x62,()) w40)/\Nw (w35.drew.alloc (.cells #[.int .u8 0,.int .i64 0,.int .i64 0] 121)) λw41=>w41.cell? ((blk w30.heap.size).add 0)=some (.int .u16 x56)/\w41.cell? ((blk w30.heap.size).add 1)=some (.int .u32 x57)/\w41.cell? ((blk w30.heap.size).add 2)=some (.int .u32 x58)/\w41.cell? ((blk w30.heap.size).add 3)=some (.slice x59.a x59.l x59.c)/\w41.cell? ((a51.add ((Int.toNat (IntKind.i64.wrap (x50-(2:Int))))*4)).add 0)=some (.int .u16 x52)/\w41.cell? ((a51.add ((Int.toNat (IntKind.i64.wrap (x50-(2:Int))))*4)).add 1)=some (.int .u32 x53)/\w41.cell? ((a51.add ((Int.toNat (IntKind.i64.wrap (x50-(2:Int))))*4)).add 2)=some (.int .u32 x54)/\w41.cell? ((a51.add ((Int.toNat (IntKind.i64.wrap (x50-(2:Int))))*4)).add 3)=some (.slice x55.a x55.l x55.c)/\w41.cell? ((blk w26.heap.size).add 2)=some (.int .i64 x50)/\w41.cell? ((blk w.heap.size).add 2)=some (.slice x49.a x49.l x49.c)/\cR 88 #[.map (some w14.heap.size),.agg #[.int .u16 x52,.int .u32 x53,.int .u32 x54,.slice x55.a x55.l x55.c],.agg #[.int .u16 x56,.int .u32 x57,.int .u32 x58,.slice x59.a x59.l x59.c]] w41 λv63 w42=>∃x64:(Int×Int×Int×Unit),∃x65:Bool,v63=(.tuple #[.agg #[.int .u8 x64.1,.int .i64 x64.2.1,.int .i64 x64.2.2.1],.bool x65])/\Wr w42 (blk w35.drew.heap.size)/\Nw (w42.setCell (blk w35.drew.heap.size) (.int .u8 x64.1)) λw43=>Wr w43 ((blk w35.drew.heap.size).add 1)/\Nw (w43.setCell ((blk w35.drew.heap.size).add 1) (.int .i64 x64.2.1)) λw44=>Wr w44 ((blk w35.drew.heap.size).add 2)/\Nw (w44.setCell ((blk w35.drew.heap.size).add 2) (.int .i64 x64.2.2.1)) λw45=>m47 ((some (blk w35.drew.heap.size)),x65,()) w45) (λs48 w46=>ifB (!s48.2.1) (ldI w46.drew ((blk w26.heap.size).add 2) .i64 λx66=>Wr w46.drew (blk w2.heap.size)/\Nw (w46.drew.setCell (blk w2.heap.size) (.int .i64 140)) λw47=>Wr w47 ((blk w2.heap.size).add 1)/\Nw (w47.setCell ((blk w2.heap.size).add 1) (.int .i64 (IntKind.i64.wrap (x66-(2:Int))))) λw48=>ldI w48 ((blk w2.heap.size).add 0) .i64 λx67=>ldI w48 ((blk w2.heap.size).add 1) .i64 λx68=>R (.tuple #[.pointer none,.slice none 0 0,.agg #[.int .i64 x67,.int .i64 x68]]) w48) (ldI w46 ((blk w30.heap.size).add 0) .u16 λx69=>ldI w46 ((blk w30.heap.size).add 1) .u32 λx70=>ldI w46 ((blk w30.heap.size).add 2) .u32 λx71=>ldS w46 ((blk w30.heap.size).add 3) λx72=>cR 90 #[.agg #[.int .u16 x69,.int .u32 x70,.int .u32 x71,.slice x72.a x72.l x72.c]] w46 λv73 w49=>∃x74:Sl,v73=(.slice x74.a x74.l x74.c)/\cR 89 #[.map (some w14.heap.size),.slice x74.a x74.l x74.c] w49 λv75 w50=>∃x76:Sl,∃x77:Bool,v75=(.tuple #[.slice x76.a x76.l x76.c,.bool x77])/\ifB (!x77) (ldI w50.drew ((blk w26.heap.size).add 2) .i64 λx78=>Wr w50.drew (blk w2.heap.size)/\Nw (w50.drew.setCell (blk w2.heap.size) (.int .i64 140)) λw51=>Wr w51 ((blk w2.heap.size).add 1)/\Nw (w51.setCell ((blk w2.heap.size).add 1) (.int .i64 (IntKind.i64.wrap (x78-(1:Int))))) λw52=>ldI w52 ((blk w2.heap.size).add 0) .i64 λx79=>ldI w52 ((blk w2.heap.size).add 1) .i64 λx80=>R (.tuple #[.pointer none,.slice none 0 0,.agg #[.int .i64 x79,.int .i64 x80]]) w52) (zc s48.1 λa81=>ldI w50 (a81.add 0) .u8 λx82=>ldI w50 (a81.add 1) .i64 λx83=>ldI w50 (a81.add 2) .i64 λx84=>Nw (w50.alloc (.cells #[.int .u8 x82,.int .i64 x83,.int .i64 x84] 121)) λw53=>zo Tryz.prog 72 (.slice s34.2.1.a s34.2.1.l s34.2.1.c) (.slice (some (blk w50.heap.size)) 1 1) w53 λr85 w54=>Nw (w54.alloc (.cells #[.slice x76.a x76.l x76.c] 26)) λw55=>zo Tryz.prog 48 (.slice s34.1.a s34.1.l s34.1.c) (.slice (some (blk w54.heap.size)) 1 1) w55 λr86 w56=>n35 (r86,r85,(IntKind.i64.wrap (s34.2.2.1+(1:Int))),()) w56)))) (cR 37 #[.slice s34.1.a s34.1.l s34.1.c] w26 λv87 w57=>∃x88:Option Addr,∃x89:Int,v87=(.tuple #[.pointer x88,.int .i64 x89])/\Wr w57 (blk w2.heap.size)/\Nw (w57.setCell (blk w2.heap.size) (.int .i64 0)) λw58=>Wr w58 ((blk w2.heap.size).add 1)/\Nw (w58.setCell ((blk w2.heap.size).add 1) (.int .i64 0)) λw59=>ldI w59 ((blk w2.heap.size).add 0) .i64 λx90=>ldI w59 ((blk w2.heap.size).add 1) .i64 λx91=>R (.tuple #[.pointer x88,.slice s34.2.1.a s34.2.1.l s34.2.1.c,.agg #[.int .i64 x90,.int .i64 x91]]) w59)) ((Sl.mk none 0 0),(Sl.mk none 0 0),0,()) w20)) (0,()) w19)))
theorem zkR(p0)(p1)(R)(w)(h:zks p0 p1 R w):Calls Tryz.prog 33 #[.agg #[.int .u32 p0.1,.int .u32 p0.2.1,.slice p0.2.2.1.a p0.2.2.1.l p0.2.2.1.c],.agg #[.int .u32 p1.1,.int .i64 p1.2.1,.slice p1.2.2.1.a p1.2.2.1.l p1.2.2.1.c,.slice p1.2.2.2.1.a p1.2.2.2.1.l p1.2.2.2.1.c,.int .i64 p1.2.2.2.2.1]] w (Ret R):=lwC zkw Tryz.func33 (by kernel_rfl) (by kernel_rfl) h
def zY:Ann:=(.q (.q .nil))
def zX(p0:Sl)(p1:Value)(R:VWP)(w:World):Prop:=cR 131 #[.slice p0.a p0.l p0.c,p1] w λv1 w1=>∃x2:Int,v1=(.int .i64 x2)/\R (.bool (decide (x2≥(0:Int)))) w1
theorem yU(p0)(p1)(R)(w)(h:zX p0 p1 R w):Calls Tryz.prog 85 #[.slice p0.a p0.l p0.c,p1] w (Ret R):=lwC zY Tryz.func85 (by kernel_rfl) (by kernel_rfl) h
def zhL:Ann:=(.q (.q .nil))
def zhC(p0:(Int×Int×Sl×Sl×Int×Unit))(c0:Addr)(R:VWP)(w:World):Prop:=Nw (w.alloc (.cells #[.int .u32 p0.1,.int .i64 p0.2.1,.slice p0.2.2.1.a p0.2.2.1.l p0.2.2.1.c,.slice p0.2.2.2.1.a p0.2.2.2.1.l p0.2.2.2.1.c,.int .i64 p0.2.2.2.2.1] 29)) λw1=>ldI w1 ((blk w.heap.size).add 0) .u32 λx1=>ldI w1 ((blk w.heap.size).add 1) .i64 λx2=>ldS w1 ((blk w.heap.size).add 2) λx3=>ldS w1 ((blk w.heap.size).add 3) λx4=>ldI w1 ((blk w.heap.size).add 4) .i64 λx5=>ldI w1 (c0.add 0) .u32 λx6=>ldI w1 (c0.add 1) .i64 λx7=>ldS w1 (c0.add 2) λx8=>ldS w1 (c0.add 3) λx9=>ldI w1 (c0.add 4) .i64 λx10=>cR 87 #[.agg #[.int .u32 x1,.int .i64 x2,.slice x3.a x3.l x3.c,.slice x4.a x4.l x4.c,.int .i64 x5],.agg #[.int .u32 x6,.int .i64 x7,.slice x8.a x8.l x8.c,.slice x9.a x9.l x9.c,.int .i64 x10]] w1 λv11 w2=>∃x12:Bool,v11=(.bool x12)/\R (.bool x12) w2
theorem zjl(p0)(c0)(R)(w)(h:zhC p0 c0 R w):Calls Tryz.prog 86 #[.agg #[.int .u32 p0.1,.int .i64 p0.2.1,.slice p0.2.2.1.a p0.2.2.1.l p0.2.2.1.c,.slice p0.2.2.2.1.a p0.2.2.2.1.l p0.2.2.2.1.c,.int .i64 p0.2.2.2.2.1],.pointer (some c0)] w (Ret R):=lwC zhL Tryz.func86 (by kernel_rfl) (by kernel_rfl) h
def ziN:Ann:=(.q (.q .nil))
def ziA(p0:(Int×Int×Sl×Sl×Int×Unit))(p1:(Int×Int×Sl×Sl×Int×Unit))(R:VWP)(w:World):Prop:=Nw (w.alloc (.cells #[.int .u32 p0.1,.int .i64 p0.2.1,.slice p0.2.2.1.a p0.2.2.1.l p0.2.2.1.c,.slice p0.2.2.2.1.a p0.2.2.2.1.l p0.2.2.2.1.c,.int .i64 p0.2.2.2.2.1] 29)) λw1=>Nw (w1.alloc (.cells #[.int .u32 p1.1,.int .i64 p1.2.1,.slice p1.2.2.1.a p1.2.2.1.l p1.2.2.1.c,.slice p1.2.2.2.1.a p1.2.2.2.1.l p1.2.2.2.1.c,.int .i64 p1.2.2.2.2.1] 29)) λw2=>ldI w2 (blk w.heap.size) .u32 λx1=>ldI w2 (blk w1.heap.size) .u32 λx2=>ifB (x1==x2) (ldI w2 ((blk w.heap.size).add 1) .i64 λx3=>ldI w2 ((blk w1.heap.size).add 1) .i64 λx4=>ifB (x3==x4) (ldI w2 ((blk w.heap.size).add 4) .i64 λx5=>ldI w2 ((blk w1.heap.size).add 4) .i64 λx6=>ifB (x5==x6) (ldS w2 ((blk w.heap.size).add 2) λx7=>ldS w2 ((blk w1.heap.size).add 2) λx8=>cR 132 #[.slice x7.a x7.l x7.c,.slice x8.a x8.l x8.c] w2 λv9 w3=>∃x10:Bool,v9=(.bool x10)/\ifB x10 (ldS w3 ((blk w.heap.size).add 3) λx11=>ldS w3 ((blk w1.heap.size).add 3) λx12=>cR 133 #[.slice x11.a x11.l x11.c,.slice x12.a x12.l x12.c] w3 λv13 w4=>∃x14:Bool,v13=(.bool x14)/\R (.bool x14) w4) (R (.bool false) w3)) (R (.bool false) w2)) (R (.bool false) w2)) (R (.bool false) w2)
theorem zjX(p0)(p1)(R)(w)(h:ziA p0 p1 R w):Calls Tryz.prog 87 #[.agg #[.int .u32 p0.1,.int .i64 p0.2.1,.slice p0.2.2.1.a p0.2.2.1.l p0.2.2.1.c,.slice p0.2.2.2.1.a p0.2.2.2.1.l p0.2.2.2.1.c,.int .i64 p0.2.2.2.2.1],.agg #[.int .u32 p1.1,.int .i64 p1.2.1,.slice p1.2.2.1.a p1.2.2.1.l p1.2.2.1.c,.slice p1.2.2.2.1.a p1.2.2.2.1.l p1.2.2.2.1.c,.int .i64 p1.2.2.2.2.1]] w (Ret R):=lwC ziN Tryz.func87 (by kernel_rfl) (by kernel_rfl) h
def zb7:Ann:=(.q (.q (.seq none (.q (.one (.q (.cond (.q (.seq none (.q (.cond (.q .nil) .nil)) (.q (.seq (some ⟨[6,9],[(11,(.b (.int .u8)))]⟩) (.q .c) (.q .nil))))) (.q (.cond (.q (.seq none (.q (.cond (.q .nil) .nil)) (.q .nil))) .nil)))))) (.q .nil))))
def zbp(p0:Option Nat)(p1:(Int×Int×Int×Sl×Unit))(p2:(Int×Int×Int×Sl×Unit))(R:VWP)(w:World):Prop:=Nw (w.alloc (.cells #[.int .u16 p1.1,.int .u32 p1.2.1,.int .u32 p1.2.2.1,.slice p1.2.2.2.1.a p1.2.2.2.1.l p1.2.2.2.1.c] 41)) λw1=>Nw (w1.alloc (.cells #[.int .u16 p2.1,.int .u32 p2.2.1,.int .u32 p2.2.2.1,.slice p2.2.2.2.1.a p2.2.2.2.1.l p2.2.2.2.1.c] 41)) λw2=>Nw (w2.alloc (.cells #[.int .u8 0,.int .i64 0,.int .i64 0] 121)) λw3=>Nw (w3.alloc (.cells #[.int .u8 0,.int .i64 0,.int .i64 0] 121)) λw4=>Wr w4 (blk w3.heap.size)/\Nw (w4.setCell (blk w3.heap.size) (.int .u8 0)) λw5=>Wr w5 ((blk w3.heap.size).add 1)/\Nw (w5.setCell ((blk w3.heap.size).add 1) (.int .i64 (-1:Int))) λw6=>Wr w6 ((blk w3.heap.size).add 2)/\Nw (w6.setCell ((blk w3.heap.size).add 2) (.int .i64 (-1:Int))) λw7=>ldI w7 (blk w.heap.size) .u16 λx1=>ifB (x1==247) (ldS w7 ((blk w.heap.size).add 3) λx2=>(0<=(0:Int)/\0<(x2.l:Int))/\zc x2.a λa3=>ldI w7 ((a3.add (0*3)).add 1) .u32 λx4=>Nw (w7.alloc (.cells #[.int .u32 x4] 22)) λw8=>cR 89 #[.map p0,.slice (some (blk w7.heap.size)) 1 1] w8 λv5 w9=>∃x6:Sl,∃x7:Bool,v5=(.tuple #[.slice x6.a x6.l x6.c,.bool x7])/\ifB (!x7) (ldI w9 ((blk w3.heap.size).add 0) .u8 λx8=>ldI w9 ((blk w3.heap.size).add 1) .i64 λx9=>ldI w9 ((blk w3.heap.size).add 2) .i64 λx10=>Wr w9 (blk w2.heap.size)/\Nw (w9.setCell (blk w2.heap.size) (.int .u8 x8)) λw10=>Wr w10 ((blk w2.heap.size).add 1)/\Nw (w10.setCell ((blk w2.heap.size).add 1) (.int .i64 x9)) λw11=>Wr w11 ((blk w2.heap.size).add 2)/\Nw (w11.setCell ((blk w2.heap.size).add 2) (.int .i64 x10)) λw12=>ldI w12 ((blk w2.heap.size).add 0) .u8 λx11=>ldI w12 ((blk w2.heap.size).add 1) .i64 λx12=>ldI w12 ((blk w2.heap.size).add 2) .i64 λx13=>R (.tuple #[.agg #[.int .u8 x11,.int .i64 x12,.int .i64 x13],.bool false]) w12) (zk (S:=Int×Unit) (λm14=>ldI w9 (blk w1.heap.size) .u16 λx16=>ifB (x16==251) (m14 (3,()) w9) (m14 (1,()) w9)) (λs15 w13=>(0<=(0:Int)/\0<(x6.l:Int))/\zc x6.a λa17=>ldI w13 (a17.add 0) .i64 λx18=>Wr w13 (blk w2.heap.size)/\Nw (w13.setCell (blk w2.heap.size) (.int .u8 s15.1)) λw14=>Wr w14 ((blk w2.heap.size).add 1)/\Nw (w14.setCell ((blk w2.heap.size).add 1) (.int .i64 x18)) λw15=>Wr w15 ((blk w2.heap.size).add 2)/\Nw (w15.setCell ((blk w2.heap.size).add 2) (.int .i64 (-1:Int))) λw16=>ldI w16 ((blk w2.heap.size).add 0) .u8 λx19=>ldI w16 ((blk w2.heap.size).add 1) .i64 λx20=>ldI w16 ((blk w2.heap.size).add 2) .i64 λx21=>R (.tuple #[.agg #[.int .u8 x19,.int .i64 x20,.int .i64 x21],.bool true]) w16))) (ifB (x1==246) (ldS w7.drew ((blk w.heap.size).add 3) λx22=>(0<=(0:Int)/\0<(x22.l:Int))/\zc x22.a λa23=>ldI w7.drew ((a23.add (0*3)).add 1) .u32 λx24=>ldS w7.drew ((blk w.heap.size).add 3) λx25=>(0<=(1:Int)/\1<(x25.l:Int))/\zc x25.a λa26=>ldI w7.drew ((a26.add (1*3)).add 1) .u32 λx27=>Nw (w7.drew.alloc (.cells #[.int .u32 x24,.int .u32 x27] 22)) λw17=>cR 89 #[.map p0,.slice (some (blk w7.drew.heap.size)) 2 2] w17 λv28 w18=>∃x29:Sl,∃x30:Bool,v28=(.tuple #[.slice x29.a x29.l x29.c,.bool x30])/\ifB (!x30) (ldI w18 ((blk w3.heap.size).add 0) .u8 λx31=>ldI w18 ((blk w3.heap.size).add 1) .i64 λx32=>ldI w18 ((blk w3.heap.size).add 2) .i64 λx33=>Wr w18 (blk w2.heap.size)/\Nw (w18.setCell (blk w2.heap.size) (.int .u8 x31)) λw19=>Wr w19 ((blk w2.heap.size).add 1)/\Nw (w19.setCell ((blk w2.heap.size).add 1) (.int .i64 x32)) λw20=>Wr w20 ((blk w2.heap.size).add 2)/\Nw (w20.setCell ((blk w2.heap.size).add 2) (.int .i64 x33)) λw21=>ldI w21 ((blk w2.heap.size).add 0) .u8 λx34=>ldI w21 ((blk w2.heap.size).add 1) .i64 λx35=>ldI w21 ((blk w2.heap.size).add 2) .i64 λx36=>R (.tuple #[.agg #[.int .u8 x34,.int .i64 x35,.int .i64 x36],.bool false]) w21) ((0<=(0:Int)/\0<(x29.l:Int))/\zc x29.a λa37=>ldI w18.drew (a37.add 0) .i64 λx38=>(0<=(1:Int)/\1<(x29.l:Int))/\zc x29.a λa39=>ldI w18.drew (a39.add 1) .i64 λx40=>Wr w18.drew (blk w2.heap.size)/\Nw (w18.drew.setCell (blk w2.heap.size) (.int .u8 2)) λw22=>Wr w22 ((blk w2.heap.size).add 1)/\Nw (w22.setCell ((blk w2.heap.size).add 1) (.int .i64 x38)) λw23=>Wr w23 ((blk w2.heap.size).add 2)/\Nw (w23.setCell ((blk w2.heap.size).add 2) (.int .i64 x40)) λw24=>ldI w24 ((blk w2.heap.size).add 0) .u8 λx41=>ldI w24 ((blk w2.heap.size).add 1) .i64 λx42=>ldI w24 ((blk w2.heap.size).add 2) .i64 λx43=>R (.tuple #[.agg #[.int .u8 x41,.int .i64 x42,.int .i64 x43],.bool true]) w24)) (ldI w7 ((blk w3.heap.size).add 0) .u8 λx44=>ldI w7 ((blk w3.heap.size).add 1) .i64 λx45=>ldI w7 ((blk w3.heap.size).add 2) .i64 λx46=>Wr w7 (blk w2.heap.size)/\Nw (w7.setCell (blk w2.heap.size) (.int .u8 x44)) λw25=>Wr w25 ((blk w2.heap.size).add 1)/\Nw (w25.setCell ((blk w2.heap.size).add 1) (.int .i64 x45)) λw26=>Wr w26 ((blk w2.heap.size).add 2)/\Nw (w26.setCell ((blk w2.heap.size).add 2) (.int .i64 x46)) λw27=>ldI w27 ((blk w2.heap.size).add 0) .u8 λx47=>ldI w27 ((blk w2.heap.size).add 1) .i64 λx48=>ldI w27 ((blk w2.heap.size).add 2) .i64 λx49=>R (.tuple #[.agg #[.int .u8 x47,.int .i64 x48,.int .i64 x49],.bool true]) w27))
theorem zey(p0)(p1)(p2)(R)(w)(h:zbp p0 p1 p2 R w):Calls Tryz.prog 88 #[.map p0,.agg #[.int .u16 p1.1,.int .u32 p1.2.1,.int .u32 p1.2.2.1,.slice p1.2.2.2.1.a p1.2.2.2.1.l p1.2.2.2.1.c],.agg #[.int .u16 p2.1,.int .u32 p2.2.1,.int .u32 p2.2.2.1,.slice p2.2.2.2.1.a p2.2.2.2.1.l p2.2.2.2.1.c]] w (Ret R):=lwC zb7 Tryz.func88 (by kernel_rfl) (by kernel_rfl) h
def zdm:Ann:=(.q (.q (.seq none (.q (.one (.loop ⟨[0,11,12],[(6,(.b .slice)),(13,(.b (.int .i64)))]⟩ (.q (.seq none .c (.seq none (.one (.q (.q (.seq none (.q (.cond (.q .nil) .nil)) .nil)))) .nil)))))) (.q .nil))))
def zcZ(p0:Option Nat)(p1:Sl)(R:VWP)(w:World):Prop:=zl (S:=Sl×Int×Unit) (λs1 w1 n2=>ifB (decide (s1.2.1<(p1.l:Int))) ((0<=s1.2.1/\s1.2.1<(p1.l:Int))/\zc p1.a λa3=>ldI w1 (a3.add s1.2.1.toNat) .u32 λx4=>zny Tryz.prog 131 (.map p0) (.int .u32 x4) (BK.int .i64) w1 λ(x5:Int) (b6:Bool)=>ifB (!b6) (R (.tuple #[.slice none 0 0,.bool false]) w1) (Nw (w1.alloc (.cells #[.int .i64 x5] 3)) λw2=>zo Tryz.prog 26 (.slice s1.1.a s1.1.l s1.1.c) (.slice (some (blk w1.heap.size)) 1 1) w2 λr7 w3=>n2 (r7,(IntKind.i64.wrap (s1.2.1+(1:Int))),()) w3)) (R (.tuple #[.slice s1.1.a s1.1.l s1.1.c,.bool true]) w1)) ((Sl.mk none 0 0),0,()) w
theorem zfG(p0)(p1)(R)(w)(h:zcZ p0 p1 R w):Calls Tryz.prog 89 #[.map p0,.slice p1.a p1.l p1.c] w (Ret R):=lwC zdm Tryz.func89 (by kernel_rfl) (by kernel_rfl) h
def yg:Ann:=(.q (.seq none (.q (.one (.loop ⟨[0,1,7],[(8,(.b (.int .i64)))]⟩ (.q (.seq none .c (.seq none (.one (.q (.q (.cond (.q .nil) .nil)))) .nil)))))) (.q .nil)))
def yf(p0:Sl)(p1:Value)(R:VWP)(w:World):Prop:=zl (S:=Int×Unit) (λs1 w1 n2=>ifB (decide (s1.1<(p0.l:Int))) ((0<=s1.1/\s1.1<(p0.l:Int))/\zc p0.a λa3=>ldI w1 ((a3.add (s1.1.toNat *5)).add 0) .u32 λx4=>ldI w1 ((a3.add (s1.1.toNat *5)).add 1) .i64 λx5=>ldS w1 ((a3.add (s1.1.toNat *5)).add 2) λx6=>ldS w1 ((a3.add (s1.1.toNat *5)).add 3) λx7=>ldI w1 ((a3.add (s1.1.toNat *5)).add 4) .i64 λx8=>zV Tryz.prog Tryz.fs p1 [(.agg #[.int .u32 x4,.int .i64 x5,.slice x6.a x6.l x6.c,.slice x7.a x7.l x7.c,.int .i64 x8])] w1 λv9 w2=>∃x10:Bool,v9=(.bool x10)/\ifB x10 (R (.int .i64 s1.1) w2) (n2 ((IntKind.i64.wrap (s1.1+(1:Int))),()) w2)) (R (.int .i64 (-1:Int)) w1)) (0,()) w
theorem Zf(p0)(p1)(R)(w)(h:yf p0 p1 R w):Calls Tryz.prog 131 #[.slice p0.a p0.l p0.c,p1] w (Ret R):=lwC yg Tryz.func131 (by kernel_rfl) (by kernel_rfl) h
def YB:Ann:=(.q (.seq none (.q (.cond (.q .nil) .nil)) (.seq none (.q (.one (.loop ⟨[0,1,12],[(13,(.b (.int .i64)))]⟩ (.q (.seq none .c (.seq none (.one (.q (.q (.cond (.q .nil) .nil)))) .nil)))))) (.q .nil))))
def Y3(p0:Sl)(p1:Sl)(R:VWP)(w:World):Prop:=ifB ((p0.l:Int) !=(p1.l:Int)) (R (.bool false) w) (zl (S:=Int×Unit) (λs1 w1 n2=>ifB (decide (s1.1<(p0.l:Int))) ((0<=s1.1/\s1.1<(p0.l:Int))/\zc p0.a λa3=>ldI w1.drew (a3.add s1.1.toNat) .i64 λx4=>(0<=s1.1/\s1.1<(p1.l:Int))/\zc p1.a λa5=>ldI w1.drew (a5.add s1.1.toNat) .i64 λx6=>ifB (x4 !=x6) (R (.bool false) w1.drew) (n2 ((IntKind.i64.wrap (s1.1+(1:Int))),()) w1.drew)) (R (.bool true) w1)) (0,()) w)
theorem zcO(p0)(p1)(R)(w)(h:Y3 p0 p1 R w):Calls Tryz.prog 132 #[.slice p0.a p0.l p0.c,.slice p1.a p1.l p1.c] w (Ret R):=lwC YB Tryz.func132 (by kernel_rfl) (by kernel_rfl) h
def yu:Ann:=(.q (.seq none (.q (.cond (.q .nil) .nil)) (.seq none (.q (.one (.loop ⟨[0,1,12],[(13,(.b (.int .i64)))]⟩ (.q (.seq none .c (.seq none (.one (.q (.q (.cond (.q .nil) .nil)))) .nil)))))) (.q .nil))))
def yq(p0:Sl)(p1:Sl)(R:VWP)(w:World):Prop:=ifB ((p0.l:Int) !=(p1.l:Int)) (R (.bool false) w) (zl (S:=Int×Unit) (λs1 w1 n2=>ifB (decide (s1.1<(p0.l:Int))) ((0<=s1.1/\s1.1<(p0.l:Int))/\zc p0.a λa3=>ldI w1.drew ((a3.add (s1.1.toNat *3)).add 0) .u32 λx4=>ldI w1.drew ((a3.add (s1.1.toNat *3)).add 1) .i64 λx5=>ldI w1.drew ((a3.add (s1.1.toNat *3)).add 2) .i64 λx6=>(0<=s1.1/\s1.1<(p1.l:Int))/\zc p1.a λa7=>ldI w1.drew ((a7.add (s1.1.toNat *3)).add 0) .u32 λx8=>ldI w1.drew ((a7.add (s1.1.toNat *3)).add 1) .i64 λx9=>ldI w1.drew ((a7.add (s1.1.toNat *3)).add 2) .i64 λx10=>ifB (!(x4==x8&&(x5==x9&&(x6==x10&&true)))) (R (.bool false) w1.drew) (n2 ((IntKind.i64.wrap (s1.1+(1:Int))),()) w1.drew)) (R (.bool true) w1)) (0,()) w)
theorem Zw(p0)(p1)(R)(w)(h:yq p0 p1 R w):Calls Tryz.prog 133 #[.slice p0.a p0.l p0.c,.slice p1.a p1.l p1.c] w (Ret R):=lwC yu Tryz.func133 (by kernel_rfl) (by kernel_rfl) h
end Go.Proofs
namespace Go.Gk
open Go
def zer(l:Nat):Code->Bool
 | .label l'=>Nat.beq l' l
 |_=>false
def zfW(l:Nat):Code->Option Code
 | .seq a b=>match zer l a with
  |true=>some b
  |false=>match findLabel a l with
   |none=>zfW l b
   |some _=>none
 |_=>none
theorem zjo{l:Nat}{a:Code}(h:zer l a=true):a =.label l:=by
 cases a<;>simp only[zer]at h<;>first |cases h |skip
 rename_i l'
 have:=Nat.eq_of_beq_eq_true h
 rw[this]
theorem zkJ{l:Nat}:∀{c B:Code},zfW l c=some B->findLabel c l=some (.seq .skip B)
 | .seq a b,B,h=>by
  simp only[zfW]at h
  split at h
  ·rename_i hl
   cases h
   rw[zjo hl]
   simp[findLabel]
  ·split at h
   ·rename_i hf
    simp only[findLabel,hf]
    exact zkJ h
   ·cases h
 | .skip,_,h | .label _,_,h | .ret,_,h | .exit _,_,h | .goto _,_,h=>by cases h
 | .region ..,_,h | .cond ..,_,h | .block ..,_,h | .loop ..,_,h | .scope ..,_,h=>by cases h
 | .rangeFunc ..,_,h=>by cases h
def zsY(l:Nat)(next:Env->World->Prop)(K:Exit->Env->World->Prop):Exit->Env->World->Prop
 | .goto l',e,w=>match Nat.beq l' l with
  |true=>next e w
  |false=>False
 |x,e,w=>K x e w
def lwA(P:Program)(fs:List Nat)(l:Nat):Code->Ann->Env->World->(Exit->Env->World->Prop)->Prop
 | .seq a b,.seq none aa ab,e,w,K=>match zer l a with
  |true=>False
  |false=>lw P fs a aa e w (seqK (λe w=>lwA P fs l b ab e w K) K)
 | .seq a b,.seq (some j) aa ab,e,w,K=>match zer l a with
  |true=>False
  |false=>match zfO j.keep (wr a) with
   |true=>zk (λM=>lw P fs a aa e w (seqK (λe w=>match zeY j.sg e with |some s=>M s w |none=>False) K))
     (λs w=>lwA P fs l b ab (YI j.sg s (zbX j.keep e)) w K)
   |false=>False
 | .seq a b,.loop j ab,e,w,K=>match zer l a with
  |true=>match zfO j.keep (wr b) with
   |true=>match zeY j.sg e with
    |some s=>zl (λs w next=>lw P fs b ab (YI j.sg s (zbX j.keep e)) w (zsY l (λe w=>match zeY j.sg e with |some s=>next s w |none=>False) K)) s w
    |none=>False
   |false=>False
  |false=>False
 |_,_,_,_,_=>False
def zrZ(P:Program)(fs:List Nat)(l:Nat)(fn:Func)(an:Ann)(args:List Value)(w:World)(R:VWP):Prop:=
 match fn.body with
 |some (.seq r (.scope c))=>match an with
  | .seq none ar (.one ac)=>match zfW l c with
   |some _=>lw P fs r ar (zhS args 0) w (seqK (λe w=>lwA P fs l c ac e w (zlV (retK P fn.results.toList R))) (zlV (retK P fn.results.toList R)))
   |none=>False
  |_=>False
 |_=>False
section
variable {P:Program}
def JB(P:Program)(l:Nat)(B:Code)(Q:Exit->Act->World->Prop):Nat->Act->World->Prop
 | 0,_,_=>False
 |n+1,a,w=>(Code.seq .skip B).wp P (Exit.jump l (JB P l B Q n) Q) a w
theorem ztw{p:Nat->Prop}:∀n,p n->∃n,p n/\∀m,p m->n<=m:=by
 intro n
 induction n using Nat.strongRecOn with
 |_ n ih=>
  intro h
  by_cases hm:∃m,m<n/\p m
  ·obtain⟨m,h1,h2⟩:=hm
   exact ih m h1 h2
  ·exact⟨n,h,λm hp=>Nat.le_of_not_lt λhlt=>hm ⟨m,hlt,hp⟩⟩
theorem zqR{l:Nat}{J J':Act->World->Prop}{Q Q':Exit->Act->World->Prop}(hJ:∀a w,J a w->J' a w)(hQ:∀x a w,Q x a w->Q' x a w):∀x a w,Exit.jump l J Q x a w->Exit.jump l J' Q' x a w:=by
 intro x a w h
 cases x with
 |goto l'=>exact⟨h.1,hJ _ _ h.2⟩
 |_=>exact hQ _ _ _ h
theorem zpi{c B:Code}{l:Nat}{Q:Exit->Act->World->Prop}{a:Act}{w:World}(hf:findLabel c l=some (.seq .skip B))
  (first:c.wp P (Exit.jump l (λa w=>∃n,JB P l B Q n a w) Q) a w):(Code.scope c).wp P Q a w:=by
 have hl:∀(a:Act) (w:World),(∃n,JB P l B Q n a w)->∃n,JB P l B Q n a w/\∀m,JB P l B Q m a w->n<=m:=λa w ⟨n,h⟩=>ztw n h
 classical
 refine wp_scope_jumps l (λa w=>∃n,JB P l B Q n a w) (λa w=>if h:∃n,JB P l B Q n a w then Classical.choose (hl a w h) else 0) hf first ?_
 intro a w hJ
 have hs:=Classical.choose_spec (hl a w hJ)
 simp only[dif_pos hJ]
 generalize Classical.choose (hl a w hJ)=n at hs
 cases n with
 |zero=>exact hs.1.elim
 |succ k=>
  refine Code.wp_mono (zqR ?_ λ_ _ _ h=>h) hs.1
  intro a' w' h'
  have hJ':∃n,JB P l B Q n a' w':=⟨k,h'⟩
  refine⟨hJ',?_⟩
  rw[dif_pos hJ']
  have:=(Classical.choose_spec (hl a' w' hJ')).2 k h'
  omega
theorem zqr{fs:List Nat}(hfs:zan P fs)(hm:P.follows .mixedOrders=true){n:Nat}{c:Code}{an:Ann}{e:Env}{w:World}{K:Exit->Env->World->Prop}{a:Act}
  (hd:∀d,d∈wr c->d<n) (hr:Rep [] n a e) (h:lw P fs c an e w K):c.wp P (CQ [] n (wr c) a K) a w:=
 (wpIn_wide (n:=0)).1 (Code.wpIn_mono (F:=Wf none) (λ_ _ _ h=>h) (zfp (ro:=none) hfs hm c an e w K a hd hr h))
theorem zqU{fs:List Nat}(hfs:zan P fs)(hm:P.follows .mixedOrders=true){n l:Nat}{ws:List Nat}{a0:Act}{K:Exit->Env->World->Prop}{B:Code}(hK:∀l e w,¬K (.goto l) e w) :
  ∀(c:Code) (an:Ann) (e:Env) (w:World) (a:Act),zfW l c=some B->(∀d,d∈wr c->d<n)->(∀d,d∈wr c->d∈ws)->Rep [] n a e->Same ws a0 a->lwA P fs l c an e w K->
   c.wp P (Exit.jump l (λa w=>∃k,JB P l B (CQ [] n ws a0 K) k a w) (CQ [] n ws a0 K)) a w:=by
 intro c
 induction c with
 |seq x y ihx ihy=>
  intro an e w a hB hd hw hr hs h
  have hdx:∀d,d∈wr x->d<n:=λd hh=>hd d (List.mem_append_left _ hh)
  have hdy:∀d,d∈wr y->d<n:=λd hh=>hd d (List.mem_append_right _ hh)
  have hwx:∀d,d∈wr x->d∈ws:=λd hh=>hw d (List.mem_append_left _ hh)
  have hwy:∀d,d∈wr y->d∈ws:=λd hh=>hw d (List.mem_append_right _ hh)
  cases an with
  |seq j aa ab=>
   have hnl:zer l x=false->zfW l y=some B:=by
    intro hx
    simp only[zfW,hx]at hB
    split at hB
    ·exact hB
    ·cases hB
   have hB':zfW l y=some B:=by
    refine hnl ?_
    cases hx:zer l x with
    |false=>rfl
    |true=>
     exfalso
     cases j<;>simp only[lwA,hx]at h
   cases j with
   |none=>
    simp only[lwA]at h
    split at h
    ·exact h.elim
    refine wp_seq (Code.wp_mono ?_ (zqr hfs hm hdx hr h))
    rintro z a' w' ⟨e',hr',hs',h'⟩
    have hs2:=hs.trans (hs'.mono hwx)
    cases z with
    |normal=>exact ihy ab e' w' a' hB' hdy hwy hr' hs2 h'
    |goto l'=>exact(hK _ _ _ h').elim
    |_=>exact⟨e',hr',hs2,h'⟩
   |some j=>
    simp only[lwA]at h
    split at h
    ·exact h.elim
    split at h
    ·rename_i hk
     obtain⟨M,h1,h2⟩:=h
     refine wp_seq (Code.wp_mono ?_ (zqr hfs hm hdx hr h1))
     rintro z a' w' ⟨e',hr',hs',h'⟩
     have hs2:=hs.trans (hs'.mono hwx)
     cases z with
     |normal=>
      simp only[seqK]at h'
      split at h'
      ·rename_i s hg
       exact ihy ab _ w' a' hB' hdy hwy (yO hr' hg (hr.keep hs' hr'.1 hr'.2.1 hk)) hs2 (h2 s w' h')
      ·exact h'.elim
     |goto l'=>exact(hK _ _ _ h').elim
     |_=>exact⟨e',hr',hs2,h'⟩
    ·exact h.elim
  |loop j ab=>
   simp only[lwA]at h
   split at h
   ·rename_i hx
    have hB':y=B:=by
     simp only[zfW,hx]at hB
     exact Option.some.inj hB
    subst hB'
    split at h
    ·rename_i hk
     split at h
     ·rename_i s hg
      obtain⟨I,μ,h0,hround⟩:=h
      rw[zjo hx]
      have pass:∀(J:Act->World->Prop) s w' a',I s w'->Rep [] n a' (YI j.sg s (zbX j.keep e))->Same ws a0 a'->Same (wr y) a a'->
        (∀s2 w2 a2,I s2 w2->μ s2 w2<μ s w'->Rep [] n a2 (YI j.sg s2 (zbX j.keep e))->Same ws a0 a2->Same (wr y) a a2->J a2 w2)->y.wp P (Exit.jump l J (CQ [] n ws a0 K)) a' w':=by
       intro J s w' a' hI hr' hs' hsy hJ
       refine Code.wp_mono ?_ (zqr hfs hm hdy hr' (hround s w' hI))
       rintro z a2 w2 ⟨e2,hr2,hs2,h2⟩
       have hs3:=hs'.trans (hs2.mono hwy)
       cases z with
       |goto l'=>
        simp only[zsY]at h2
        split at h2
        ·rename_i hl
         split at h2
         ·rename_i s2 hg2
          exact⟨Nat.eq_of_beq_eq_true hl,hJ s2 w2 a2 h2.1 h2.2 (yO hr2 hg2 (hr.keep (hsy.trans hs2) hr2.1 hr2.2.1 hk)) hs3 (hsy.trans hs2)⟩
         ·exact h2.elim
        ·exact h2.elim
       |_=>exact⟨e2,hr2,hs3,h2⟩
      have key:∀k s w' a',μ s w'<k->I s w'->Rep [] n a' (YI j.sg s (zbX j.keep e))->Same ws a0 a'->Same (wr y) a a'->JB P l y (CQ [] n ws a0 K) k a' w':=by
       intro k
       induction k with
       |zero=>intro s w' a' hlt;omega
       |succ k ih=>
        intro s w' a' hlt hI hr' hs' hsy
        refine wp_seq (wp_skip ?_)
        exact pass _ s w' a' hI hr' hs' hsy λs2 w2 a2 i1 i2 i3 i4 i5=>ih s2 w2 a2 (by omega) i1 i3 i4 i5
      refine wp_seq (wp_label ?_)
      exact pass _ s w a h0 (yO hr hg (hr.keep (Same.refl _ _) hr.1 hr.2.1 hk)) hs (Same.refl _ _) λs2 w2 a2 i1 i2 i3 i4 i5=>⟨_,key (μ s2 w2+1) s2 w2 a2 (by omega) i1 i3 i4 i5⟩
     ·exact h.elim
    ·exact h.elim
   ·exact h.elim
  |_=>exact h.elim
 |_=>intro an e w a hB;cases hB
theorem zqV{l:Nat}{fs:List Nat}(hfs:zan P fs)(hm:P.follows .mixedOrders=true){f:Nat}{fn:Func}{an:Ann}{args:List Value}{w:World}{R:VWP}
  (hf:P.funcs[f]? =some fn) (hn:(match fn.body with |some c=>znp fn.ntmps c |none=>false)=true) (hz:Nat.ble args.length fn.ntmps=true) (h:zrZ P fs l fn an args w R) :
  Calls P f args.toArray w (Ret R):=by
 unfold zrZ at h
 split at h
 ·rename_i r c hb
  split at h
  ·rename_i ar ac
   split at h
   ·rename_i B hB
    rw[hb]at hn
    simp only at hn
    have hz':=Nat.le_of_ble_eq_true hz
    have hdst:∀d,d∈wr (.seq r (.scope c))->d<fn.ntmps:=λd hd=>by simp only[znp,List.all_eq_true]at hn;exact Nat.le_of_ble_eq_true (hn d hd)
    refine calls_of_wp hf hb ?_
    have hr:Rep [] fn.ntmps {tmps:=args.toArray++Array.replicate (fn.ntmps-args.toArray.size) undef,defers:=[]} (zhS args 0):=by
     refine⟨by simp;omega,rfl,λt v ht=>?_⟩
     obtain⟨_,h2⟩:=zf6 _ _ _ _ ht
     rw[Nat.sub_zero]at h2
     have hlt:t<args.length:=by
      rcases Nat.lt_or_ge t args.length with h |h
      ·exact h
      ·rw[List.getElem?_eq_none h]at h2;cases h2
     have:args[t]=v:=by rw[List.getElem?_eq_getElem hlt]at h2;exact Option.some.inj h2
     have hlt2:t<args.length+(fn.ntmps-args.length):=by omega
     simp[hlt,hlt2,this]
    have fin:∀x a w' e',Rep [] fn.ntmps a e'->zlV (retK P fn.results.toList R) x e' w'->retK P fn.results.toList R x e' w':=by
     intro x a w' e' _ h
     cases x with
     |goto=>exact h.elim
     |_=>exact h
    refine wp_seq (Code.wp_mono ?_ (zqr hfs hm (λd hd=>hdst d (List.mem_append_left _ hd)) hr h))
    rintro x a w' ⟨e',hr',_,h'⟩
    cases x with
    |normal=>
     refine Code.wp_mono ?_ (zpi (zkJ hB) (zqU hfs hm (ws:=wr c) (a0:=a) (K:=zlV (retK P fn.results.toList R)) (λ_ _ _ h=>h) c ac e' w' a hB (λd hd=>hdst d (List.mem_append_right _ hd)) (λ_ hd=>hd) hr' (Same.refl _ _) h'))
     rintro x a w' ⟨e',hr',_,h'⟩
     have h':=fin _ _ _ _ hr' h'
     cases x with
     |normal=>exact⟨hr'.2.1,YJ hr' h'⟩
     |ret=>exact⟨hr'.2.1,YJ hr' h'⟩
     |_=>exact h'.elim
    |ret=>exact⟨hr'.2.1,YJ hr' h'⟩
    |_=>exact h'.elim
   ·exact h.elim
  ·exact h.elim
 ·exact h.elim
end
end Go.Gk
namespace Go.Proofs
open Go.Gk
set_option linter.unusedVariables false
set_option maxRecDepth 100000
def zaH:Ann:=(.q (.q (.seq none (.q (.cond (.q .nil) .nil)) (.q (.q (.seq none (.q (.one (.loop ⟨[2,4],[(5,(.b (.int .i64))),(6,(.b (.int .i64)))]⟩ (.seq none (.q .c) (.seq (some ⟨[2,4,6],[(5,(.b (.int .i64)))]⟩) (.one (.seq none (.q (.cond (.q .nil) .nil)) (.q .c))) .nil))))) (.seq (some ⟨[2],[]⟩) (.q (.cond (.q .nil) .nil)) (.q .nil))))))))
def zaw(p0:(Int×Int×Sl×Unit))(R:VWP)(w:World):Prop:=Nw (w.alloc (.cells #[.int .u32 p0.1,.int .u32 p0.2.1,.slice p0.2.2.1.a p0.2.2.1.l p0.2.2.1.c] 25)) λw1=>Nw (w1.alloc (.cells #[.int .i64 0,.int .i64 0] 33)) λw2=>ldI w2 ((blk w.heap.size).add 0) .u32 λx1=>ldI w2 ((blk w.heap.size).add 1) .u32 λx2=>ldS w2 ((blk w.heap.size).add 2) λx3=>cR 77 #[.agg #[.int .u32 x1,.int .u32 x2,.slice x3.a x3.l x3.c]] w2 λv4 w3=>∃x5:(Int×Int×Unit),v4=(.agg #[.int .i64 x5.1,.int .i64 x5.2.1])/\Nw (w3.alloc (.cells #[.int .i64 0,.int .i64 0] 33)) λw4=>Wr w4 (blk w3.heap.size)/\Nw (w4.setCell (blk w3.heap.size) (.int .i64 x5.1)) λw5=>Wr w5 ((blk w3.heap.size).add 1)/\Nw (w5.setCell ((blk w3.heap.size).add 1) (.int .i64 x5.2.1)) λw6=>ldI w6 (blk w3.heap.size) .i64 λx6=>ifB (x6 !=0) (ldI w6 ((blk w3.heap.size).add 0) .i64 λx7=>ldI w6 ((blk w3.heap.size).add 1) .i64 λx8=>Wr w6 (blk w1.heap.size)/\Nw (w6.setCell (blk w1.heap.size) (.int .i64 x7)) λw7=>Wr w7 ((blk w1.heap.size).add 1)/\Nw (w7.setCell ((blk w1.heap.size).add 1) (.int .i64 x8)) λw8=>ldI w8 ((blk w1.heap.size).add 0) .i64 λx9=>ldI w8 ((blk w1.heap.size).add 1) .i64 λx10=>R (.agg #[.int .i64 x9,.int .i64 x10]) w8) (ldS w6 ((blk w.heap.size).add 2) λx11=>zl (S:=Int×Int×Unit) (λs12 w9 n13=>ifB (decide (s12.2.1<(x11.l:Int))) (zk (S:=Int×Unit) (λm14=>cR 78 #[.slice x11.a x11.l x11.c,.int .i64 s12.2.1] w9 λv16 w10=>∃x17:Bool,v16=(.bool x17)/\ifB (!x17) (Wr w10 (blk w1.heap.size)/\Nw (w10.setCell (blk w1.heap.size) (.int .i64 50)) λw11=>Wr w11 ((blk w1.heap.size).add 1)/\Nw (w11.setCell ((blk w1.heap.size).add 1) (.int .i64 s12.2.1)) λw12=>ldI w12 ((blk w1.heap.size).add 0) .i64 λx18=>ldI w12 ((blk w1.heap.size).add 1) .i64 λx19=>R (.agg #[.int .i64 x18,.int .i64 x19]) w12) ((0<=s12.2.1/\s12.2.1<(x11.l:Int))/\zc x11.a λa20=>ldI w10 ((a20.add (s12.2.1.toNat *4)).add 0) .u16 λx21=>ldI w10 ((a20.add (s12.2.1.toNat *4)).add 1) .u32 λx22=>ldI w10 ((a20.add (s12.2.1.toNat *4)).add 2) .u32 λx23=>ldS w10 ((a20.add (s12.2.1.toNat *4)).add 3) λx24=>cR 79 #[.agg #[.int .u16 x21,.int .u32 x22,.int .u32 x23,.slice x24.a x24.l x24.c]] w10 λv25 w13=>∃x26:Int,v25=(.int .i64 x26)/\ifB (x26==1) (m14 ((IntKind.i64.wrap (s12.1+(1:Int))),()) w13) (m14 (s12.1,()) w13))) (λs15 w14=>n13 (s15.1,(IntKind.i64.wrap (s12.2.1+(1:Int))),()) w14)) (zk (S:=Unit) (λm27=>ifB (s12.1==0) (Wr w9 (blk w1.heap.size)/\Nw (w9.setCell (blk w1.heap.size) (.int .i64 51)) λw15=>Wr w15 ((blk w1.heap.size).add 1)/\Nw (w15.setCell ((blk w1.heap.size).add 1) (.int .i64 (x11.l:Int))) λw16=>ldI w16 ((blk w1.heap.size).add 0) .i64 λx29=>ldI w16 ((blk w1.heap.size).add 1) .i64 λx30=>R (.agg #[.int .i64 x29,.int .i64 x30]) w16) ((0<=(IntKind.i64.wrap ((x11.l:Int)-1))/\(IntKind.i64.wrap ((x11.l:Int)-1))<(x11.l:Int))/\zc x11.a λa31=>ldI w9 ((a31.add ((Int.toNat (IntKind.i64.wrap ((x11.l:Int)-1)))*4)).add 0) .u16 λx32=>ldI w9 ((a31.add ((Int.toNat (IntKind.i64.wrap ((x11.l:Int)-1)))*4)).add 1) .u32 λx33=>ldI w9 ((a31.add ((Int.toNat (IntKind.i64.wrap ((x11.l:Int)-1)))*4)).add 2) .u32 λx34=>ldS w9 ((a31.add ((Int.toNat (IntKind.i64.wrap ((x11.l:Int)-1)))*4)).add 3) λx35=>cR 79 #[.agg #[.int .u16 x32,.int .u32 x33,.int .u32 x34,.slice x35.a x35.l x35.c]] w9 λv36 w17=>∃x37:Int,v36=(.int .i64 x37)/\ifB (x37==8) ((0<=(IntKind.i64.wrap ((x11.l:Int)-1))/\(IntKind.i64.wrap ((x11.l:Int)-1))<(x11.l:Int))/\zc x11.a λa38=>ldI w17 (a38.add ((Int.toNat (IntKind.i64.wrap ((x11.l:Int)-1)))*4)) .u16 λx39=>ifB (x39 !=56) (Wr w17 (blk w1.heap.size)/\Nw (w17.setCell (blk w1.heap.size) (.int .i64 51)) λw18=>Wr w18 ((blk w1.heap.size).add 1)/\Nw (w18.setCell ((blk w1.heap.size).add 1) (.int .i64 (x11.l:Int))) λw19=>ldI w19 ((blk w1.heap.size).add 0) .i64 λx40=>ldI w19 ((blk w1.heap.size).add 1) .i64 λx41=>R (.agg #[.int .i64 x40,.int .i64 x41]) w19) (m27 () w17)) (m27 () w17))) (λs28 w20=>Wr w20 (blk w1.heap.size)/\Nw (w20.setCell (blk w1.heap.size) (.int .i64 0)) λw21=>Wr w21 ((blk w1.heap.size).add 1)/\Nw (w21.setCell ((blk w1.heap.size).add 1) (.int .i64 0)) λw22=>ldI w22 ((blk w1.heap.size).add 0) .i64 λx42=>ldI w22 ((blk w1.heap.size).add 1) .i64 λx43=>R (.agg #[.int .i64 x42,.int .i64 x43]) w22))) (0,0,()) w6)
theorem zdL(p0)(R)(w)(h:zaw p0 R w):Calls Tryz.prog 30 #[.agg #[.int .u32 p0.1,.int .u32 p0.2.1,.slice p0.2.2.1.a p0.2.2.1.l p0.2.2.1.c]] w (Ret R):=lwC zaH Tryz.func30 (by kernel_rfl) (by kernel_rfl) h
def zbI:Ann:=(.q (.q .nil))
def zb0(p0:Int)(R:VWP)(w:World):Prop:=ifB (p0==249) (R (.bool true) w) (ifB (p0==250) (R (.bool true) w) (ifB (p0==251) (R (.bool true) w) (ifB (p0==252) (R (.bool true) w) (ifB (p0==253) (R (.bool true) w) (ifB (p0==254) (R (.bool true) w) (R (.bool (p0==255)) w))))))
theorem ze9(p0)(R)(w)(h:zb0 p0 R w):Calls Tryz.prog 31 #[.int .u16 p0] w (Ret R):=lwC zbI Tryz.func31 (by kernel_rfl) (by kernel_rfl) h
def ziP:Ann:=(.q (.q (.seq none (.q (.cond (.q .nil) .nil)) (.q .nil))))
def ziC(p0:(Int×Int×Sl×Unit))(R:VWP)(w:World):Prop:=Nw (w.alloc (.cells #[.int .u32 p0.1,.int .u32 p0.2.1,.slice p0.2.2.1.a p0.2.2.1.l p0.2.2.1.c] 25)) λw1=>Nw (w1.alloc (.cells #[.int .i64 0,.int .i64 0] 33)) λw2=>ldI w2 ((blk w.heap.size).add 0) .u32 λx1=>ldI w2 ((blk w.heap.size).add 1) .u32 λx2=>ldS w2 ((blk w.heap.size).add 2) λx3=>cR 103 #[.agg #[.int .u32 x1,.int .u32 x2,.slice x3.a x3.l x3.c]] w2 λv4 w3=>∃x5:Option Addr,∃x6:(Int×Int×Unit),v4=(.tuple #[.pointer x5,.agg #[.int .i64 x6.1,.int .i64 x6.2.1]])/\Nw (w3.alloc (.cells #[.int .i64 0,.int .i64 0] 33)) λw4=>Wr w4 (blk w3.heap.size)/\Nw (w4.setCell (blk w3.heap.size) (.int .i64 x6.1)) λw5=>Wr w5 ((blk w3.heap.size).add 1)/\Nw (w5.setCell ((blk w3.heap.size).add 1) (.int .i64 x6.2.1)) λw6=>ifB (Option.isNone x5) (ldI w6.drew ((blk w3.heap.size).add 0) .i64 λx7=>ldI w6.drew ((blk w3.heap.size).add 1) .i64 λx8=>Wr w6.drew (blk w1.heap.size)/\Nw (w6.drew.setCell (blk w1.heap.size) (.int .i64 x7)) λw7=>Wr w7 ((blk w1.heap.size).add 1)/\Nw (w7.setCell ((blk w1.heap.size).add 1) (.int .i64 x8)) λw8=>ldI w8 ((blk w1.heap.size).add 0) .i64 λx9=>ldI w8 ((blk w1.heap.size).add 1) .i64 λx10=>R (.tuple #[.slice none 0 0,.agg #[.int .i64 x9,.int .i64 x10]]) w8) (zc x5 λa11=>ldS w6.drew (a11.add 22) λx12=>ldI w6.drew ((blk w3.heap.size).add 0) .i64 λx13=>ldI w6.drew ((blk w3.heap.size).add 1) .i64 λx14=>Wr w6.drew (blk w1.heap.size)/\Nw (w6.drew.setCell (blk w1.heap.size) (.int .i64 x13)) λw9=>Wr w9 ((blk w1.heap.size).add 1)/\Nw (w9.setCell ((blk w1.heap.size).add 1) (.int .i64 x14)) λw10=>ldI w10 ((blk w1.heap.size).add 0) .i64 λx15=>ldI w10 ((blk w1.heap.size).add 1) .i64 λx16=>R (.tuple #[.slice x12.a x12.l x12.c,.agg #[.int .i64 x15,.int .i64 x16]]) w10)
theorem zkc(p0)(R)(w)(h:ziC p0 R w):Calls Tryz.prog 45 #[.agg #[.int .u32 p0.1,.int .u32 p0.2.1,.slice p0.2.2.1.a p0.2.2.1.l p0.2.2.1.c]] w (Ret R):=lwC ziP Tryz.func45 (by kernel_rfl) (by kernel_rfl) h
def zc3:Ann:=(.q (.q (.q (.seq none (.q (.one (.loop ⟨[0,1,5],[(6,(.b (.int .i64))),(7,(.b (.int .i64)))]⟩ (.seq none (.q .c) (.seq (some ⟨[0,1,5,7],[(6,(.b (.int .i64)))]⟩) (.one (.seq none (.q (.cond (.q .nil) .nil)) (.q .c))) .nil))))) (.seq none (.q (.cond (.q .nil) .nil)) (.seq (some ⟨[0,1,5],[]⟩) (.q (.cond (.q .nil) .nil)) (.seq none (.q (.cond (.q .nil) .nil)) (.q (.q (.seq (some ⟨[0,1,8],[(9,(.b (.int .u16)))]⟩) (.q .c) (.seq none (.q (.cond (.q .nil) .nil)) (.seq none (.q (.cond (.q .nil) .nil)) (.seq none (.q (.cond (.q .nil) .nil)) (.seq none (.q (.cond (.q .nil) .nil)) (.seq (some ⟨[0,1,8,9],[]⟩) (.q (.cond (.q .nil) .nil)) (.seq none (.q (.cond (.q .nil) .nil)) (.seq none (.q (.cond (.q .nil) .nil)) (.seq none (.q (.cond (.q .nil) .nil)) (.seq none (.q (.cond (.q .nil) .nil)) (.q .nil))))))))))))))))))))
def zcp(p0:Sl)(p1:Int)(R:VWP)(w:World):Prop:=(0<=p1/\p1<(p0.l:Int))/\zc p0.a λa1=>ldI w ((a1.add (p1.toNat *4)).add 0) .u16 λx2=>ldI w ((a1.add (p1.toNat *4)).add 1) .u32 λx3=>ldI w ((a1.add (p1.toNat *4)).add 2) .u32 λx4=>ldS w ((a1.add (p1.toNat *4)).add 3) λx5=>cR 79 #[.agg #[.int .u16 x2,.int .u32 x3,.int .u32 x4,.slice x5.a x5.l x5.c]] w λv6 w1=>∃x7:Int,v6=(.int .i64 x7)/\zl (S:=Int×Int×Unit) (λs8 w2 n9=>ifB (decide (s8.2.1<p1)) (zk (S:=Int×Unit) (λm10=>(0<=s8.2.1/\s8.2.1<(p0.l:Int))/\zc p0.a λa12=>ldI w2 ((a12.add (s8.2.1.toNat *4)).add 0) .u16 λx13=>ldI w2 ((a12.add (s8.2.1.toNat *4)).add 1) .u32 λx14=>ldI w2 ((a12.add (s8.2.1.toNat *4)).add 2) .u32 λx15=>ldS w2 ((a12.add (s8.2.1.toNat *4)).add 3) λx16=>cR 79 #[.agg #[.int .u16 x13,.int .u32 x14,.int .u32 x15,.slice x16.a x16.l x16.c]] w2 λv17 w3=>∃x18:Int,v17=(.int .i64 x18)/\ifB (decide (x18>x7)) (R (.bool false) w3) ((0<=s8.2.1/\s8.2.1<(p0.l:Int))/\zc p0.a λa19=>ldI w3 ((a19.add (s8.2.1.toNat *4)).add 0) .u16 λx20=>ldI w3 ((a19.add (s8.2.1.toNat *4)).add 1) .u32 λx21=>ldI w3 ((a19.add (s8.2.1.toNat *4)).add 2) .u32 λx22=>ldS w3 ((a19.add (s8.2.1.toNat *4)).add 3) λx23=>cR 79 #[.agg #[.int .u16 x20,.int .u32 x21,.int .u32 x22,.slice x23.a x23.l x23.c]] w3 λv24 w4=>∃x25:Int,v24=(.int .i64 x25)/\ifB (x25==1) (m10 ((IntKind.i64.wrap (s8.1+(1:Int))),()) w4) (m10 (s8.1,()) w4))) (λs11 w5=>n9 (s11.1,(IntKind.i64.wrap (s8.2.1+(1:Int))),()) w5)) (ifB (x7==1) (R (.bool (s8.1==0)) w2) (zk (S:=Unit) (λm26=>ifB (decide (x7>(1:Int))) (ifB (s8.1==0) (R (.bool false) w2) (m26 () w2)) (m26 () w2)) (λs27 w6=>ifB (decide (x7<(8:Int))) (R (.bool true) w6) ((0<=p1/\p1<(p0.l:Int))/\zc p0.a λa28=>ldI w6 (a28.add (p1.toNat *4)) .u16 λx29=>zk (S:=Int×Unit) (λm30=>ifB (decide (p1>(0:Int))) ((0<=(IntKind.i64.wrap (p1-(1:Int)))/\(IntKind.i64.wrap (p1-(1:Int)))<(p0.l:Int))/\zc p0.a λa32=>ldI w6 ((a32.add ((Int.toNat (IntKind.i64.wrap (p1-(1:Int))))*4)).add 0) .u16 λx33=>ldI w6 ((a32.add ((Int.toNat (IntKind.i64.wrap (p1-(1:Int))))*4)).add 1) .u32 λx34=>ldI w6 ((a32.add ((Int.toNat (IntKind.i64.wrap (p1-(1:Int))))*4)).add 2) .u32 λx35=>ldS w6 ((a32.add ((Int.toNat (IntKind.i64.wrap (p1-(1:Int))))*4)).add 3) λx36=>cR 79 #[.agg #[.int .u16 x33,.int .u32 x34,.int .u32 x35,.slice x36.a x36.l x36.c]] w6 λv37 w7=>∃x38:Int,v37=(.int .i64 x38)/\ifB (x38==8) ((0<=(IntKind.i64.wrap (p1-(1:Int)))/\(IntKind.i64.wrap (p1-(1:Int)))<(p0.l:Int))/\zc p0.a λa39=>ldI w7 (a39.add ((Int.toNat (IntKind.i64.wrap (p1-(1:Int))))*4)) .u16 λx40=>m30 (x40,()) w7) (m30 (0,()) w7)) (m30 (0,()) w6)) (λs31 w8=>ifB (x29==54) (ifB (s31.1==0) (R (.bool true) w8) (R (.bool (s31.1==56)) w8)) (ifB (x29==55) (ifB (s31.1==54) (R (.bool true) w8) (R (.bool (s31.1==55)) w8)) (ifB (x29==248) (ifB (s31.1==54) (R (.bool true) w8) (ifB (s31.1==55) (R (.bool true) w8) (cR 31 #[.int .u16 s31.1] w8 λv41 w9=>∃x42:Bool,v41=(.bool x42)/\R (.bool x42) w9))) (ifB (x29==56) (cR 31 #[.int .u16 s31.1] w8 λv43 w10=>∃x44:Bool,v43=(.bool x44)/\R (.bool x44) w10) (zk (S:=Unit) (λm45=>ifB (s31.1==0) (R (.bool false) w8) (ifB (s31.1==54) (R (.bool false) w8) (ifB (s31.1==55) (R (.bool false) w8) (ifB (s31.1==56) (R (.bool false) w8) (cR 31 #[.int .u16 s31.1] w8 λv47 w11=>∃x48:Bool,v47=(.bool x48)/\ifB x48 (R (.bool false) w11) (m45 () w11)))))) (λs46 w12=>ifB (x29==245) (ifB (s31.1==248) (cR 127 #[.slice p0.a p0.l p0.c,.int .i64 (IntKind.i64.wrap (p1-(1:Int)))] w12 λv49 w13=>∃x50:Bool,v49=(.bool x50)/\R (.bool (!x50)) w13) (ifB (s31.1==245) (cR 127 #[.slice p0.a p0.l p0.c,.int .i64 (IntKind.i64.wrap (p1-(1:Int)))] w12 λv51 w14=>∃x52:Bool,v51=(.bool x52)/\R (.bool (!x52)) w14) (R (.bool false) w12))) (ifB (x29==59) (ifB (s31.1==248) (cR 127 #[.slice p0.a p0.l p0.c,.int .i64 (IntKind.i64.wrap (p1-(1:Int)))] w12 λv53 w15=>∃x54:Bool,v53=(.bool x54)/\R (.bool x54) w15) (ifB (s31.1==59) (cR 127 #[.slice p0.a p0.l p0.c,.int .i64 (IntKind.i64.wrap (p1-(1:Int)))] w12 λv55 w16=>∃x56:Bool,v55=(.bool x56)/\R (.bool x56) w16) (R (.bool false) w12))) (ifB (s31.1==246) (ifB (x29==249) (R (.bool true) w12) (R (.bool (x29==250)) w12)) (ifB (s31.1==247) (ifB (x29==250) (R (.bool true) w12) (R (.bool (x29==251)) w12)) (R (.bool true) w12))))))))))))))) (0,0,()) w1
theorem zfe(p0)(p1)(R)(w)(h:zcp p0 p1 R w):Calls Tryz.prog 78 #[.slice p0.a p0.l p0.c,.int .i64 p1] w (Ret R):=lwC zc3 Tryz.func78 (by kernel_rfl) (by kernel_rfl) h
def zbJ:Ann:=(.q (.seq (some ⟨[1],[]⟩) (.q (.cond (.q .nil) .nil)) (.q (.q .nil))))
def zb1(p0:(Int×Int×Int×Sl×Unit))(R:VWP)(w:World):Prop:=Nw (w.alloc (.cells #[.int .u16 p0.1,.int .u32 p0.2.1,.int .u32 p0.2.2.1,.slice p0.2.2.2.1.a p0.2.2.2.1.l p0.2.2.2.1.c] 41)) λw1=>zk (S:=Unit) (λm1=>ldI w1 (blk w.heap.size) .u16 λx3=>ifB (x3==59) (ldS w1 ((blk w.heap.size).add 3) λx4=>ifB (decide ((x4.l:Int)>0)) (ldS w1 ((blk w.heap.size).add 3) λx5=>(0<=(0:Int)/\0<(x5.l:Int))/\zc x5.a λa6=>ldI w1 ((a6.add (0*3)).add 1) .u32 λx7=>ifB (x7==7) (R (.int .i64 8) w1) (m1 () w1)) (m1 () w1)) (m1 () w1)) (λs2 w2=>ldI w2 (blk w.heap.size) .u16 λx8=>cR 125 #[.int .u16 x8] w2 λv9 w3=>∃x10:(Int×ByteArray×Bool×Bool×ByteArray×ByteArray×Int×Int×Unit),∃x11:Bool,v9=(.tuple #[.agg #[.int .u16 x10.1,.string x10.2.1,.bool x10.2.2.1,.bool x10.2.2.2.1,.string x10.2.2.2.2.1,.string x10.2.2.2.2.2.1,.int .i64 x10.2.2.2.2.2.2.1,.int .u8 x10.2.2.2.2.2.2.2.1],.bool x11])/\Nw (w3.alloc (.cells #[.int .u16 0,.string (BM #[]),.bool false,.bool false,.string (BM #[]),.string (BM #[]),.int .i64 0,.int .u8 0] 178)) λw4=>Wr w4 (blk w3.heap.size)/\Nw (w4.setCell (blk w3.heap.size) (.int .u16 x10.1)) λw5=>Wr w5 ((blk w3.heap.size).add 1)/\Nw (w5.setCell ((blk w3.heap.size).add 1) (.string x10.2.1)) λw6=>Wr w6 ((blk w3.heap.size).add 2)/\Nw (w6.setCell ((blk w3.heap.size).add 2) (.bool x10.2.2.1)) λw7=>Wr w7 ((blk w3.heap.size).add 3)/\Nw (w7.setCell ((blk w3.heap.size).add 3) (.bool x10.2.2.2.1)) λw8=>Wr w8 ((blk w3.heap.size).add 4)/\Nw (w8.setCell ((blk w3.heap.size).add 4) (.string x10.2.2.2.2.1)) λw9=>Wr w9 ((blk w3.heap.size).add 5)/\Nw (w9.setCell ((blk w3.heap.size).add 5) (.string x10.2.2.2.2.2.1)) λw10=>Wr w10 ((blk w3.heap.size).add 6)/\Nw (w10.setCell ((blk w3.heap.size).add 6) (.int .i64 x10.2.2.2.2.2.2.1)) λw11=>Wr w11 ((blk w3.heap.size).add 7)/\Nw (w11.setCell ((blk w3.heap.size).add 7) (.int .u8 x10.2.2.2.2.2.2.2.1)) λw12=>ldI w12 ((blk w3.heap.size).add 7) .u8 λx12=>R (.int .i64 (IntKind.i64.wrap x12)) w12)
theorem zeA(p0)(R)(w)(h:zb1 p0 R w):Calls Tryz.prog 79 #[.agg #[.int .u16 p0.1,.int .u32 p0.2.1,.int .u32 p0.2.2.1,.slice p0.2.2.2.1.a p0.2.2.2.1.l p0.2.2.2.1.c]] w (Ret R):=lwC zbJ Tryz.func79 (by kernel_rfl) (by kernel_rfl) h
def zgD:Ann:=(.q (.q (.seq none (.q (.cond (.q .nil) .nil)) (.q .nil))))
def zg8(p0:(Int×Int×Sl×Unit))(R:VWP)(w:World):Prop:=Nw (w.alloc (.cells #[.int .u32 p0.1,.int .u32 p0.2.1,.slice p0.2.2.1.a p0.2.2.1.l p0.2.2.1.c] 25)) λw1=>Nw (w1.alloc (.cells (List.toArray (List.replicate 20 (.int .i64 0))) 143)) λw2=>Nw (w2.alloc (.cells #[.int .i64 0,.int .i64 0] 33)) λw3=>ldI w3 ((blk w.heap.size).add 0) .u32 λx1=>ldI w3 ((blk w.heap.size).add 1) .u32 λx2=>ldS w3 ((blk w.heap.size).add 2) λx3=>cR 103 #[.agg #[.int .u32 x1,.int .u32 x2,.slice x3.a x3.l x3.c]] w3 λv4 w4=>∃x5:Option Addr,∃x6:(Int×Int×Unit),v4=(.tuple #[.pointer x5,.agg #[.int .i64 x6.1,.int .i64 x6.2.1]])/\Nw (w4.alloc (.cells #[.int .i64 0,.int .i64 0] 33)) λw5=>Wr w5 (blk w4.heap.size)/\Nw (w5.setCell (blk w4.heap.size) (.int .i64 x6.1)) λw6=>Wr w6 ((blk w4.heap.size).add 1)/\Nw (w6.setCell ((blk w4.heap.size).add 1) (.int .i64 x6.2.1)) λw7=>ifB (Option.isNone x5) (ldI w7.drew ((blk w4.heap.size).add 0) .i64 λx7=>ldI w7.drew ((blk w4.heap.size).add 1) .i64 λx8=>Wr w7.drew (blk w1.heap.size)/\Nw (w7.drew.setCell (blk w1.heap.size) (.int .i64 0)) λw8=>Wr w8 ((blk w1.heap.size).add 1)/\Nw (w8.setCell ((blk w1.heap.size).add 1) (.int .i64 0)) λw9=>Wr w9 ((blk w1.heap.size).add 2)/\Nw (w9.setCell ((blk w1.heap.size).add 2) (.int .i64 0)) λw10=>Wr w10 ((blk w1.heap.size).add 3)/\Nw (w10.setCell ((blk w1.heap.size).add 3) (.int .i64 0)) λw11=>Wr w11 ((blk w1.heap.size).add 4)/\Nw (w11.setCell ((blk w1.heap.size).add 4) (.int .i64 0)) λw12=>Wr w12 ((blk w1.heap.size).add 5)/\Nw (w12.setCell ((blk w1.heap.size).add 5) (.int .i64 0)) λw13=>Wr w13 ((blk w1.heap.size).add 6)/\Nw (w13.setCell ((blk w1.heap.size).add 6) (.int .i64 0)) λw14=>Wr w14 ((blk w1.heap.size).add 7)/\Nw (w14.setCell ((blk w1.heap.size).add 7) (.int .i64 0)) λw15=>Wr w15 ((blk w1.heap.size).add 8)/\Nw (w15.setCell ((blk w1.heap.size).add 8) (.int .i64 0)) λw16=>Wr w16 ((blk w1.heap.size).add 9)/\Nw (w16.setCell ((blk w1.heap.size).add 9) (.int .i64 0)) λw17=>Wr w17 ((blk w1.heap.size).add 10)/\Nw (w17.setCell ((blk w1.heap.size).add 10) (.int .i64 0)) λw18=>Wr w18 ((blk w1.heap.size).add 11)/\Nw (w18.setCell ((blk w1.heap.size).add 11) (.int .i64 0)) λw19=>Wr w19 ((blk w1.heap.size).add 12)/\Nw (w19.setCell ((blk w1.heap.size).add 12) (.int .i64 0)) λw20=>Wr w20 ((blk w1.heap.size).add 13)/\Nw (w20.setCell ((blk w1.heap.size).add 13) (.int .i64 0)) λw21=>Wr w21 ((blk w1.heap.size).add 14)/\Nw (w21.setCell ((blk w1.heap.size).add 14) (.int .i64 0)) λw22=>Wr w22 ((blk w1.heap.size).add 15)/\Nw (w22.setCell ((blk w1.heap.size).add 15) (.int .i64 0)) λw23=>Wr w23 ((blk w1.heap.size).add 16)/\Nw (w23.setCell ((blk w1.heap.size).add 16) (.int .i64 0)) λw24=>Wr w24 ((blk w1.heap.size).add 17)/\Nw (w24.setCell ((blk w1.heap.size).add 17) (.int .i64 0)) λw25=>Wr w25 ((blk w1.heap.size).add 18)/\Nw (w25.setCell ((blk w1.heap.size).add 18) (.int .i64 0)) λw26=>Wr w26 ((blk w1.heap.size).add 19)/\Nw (w26.setCell ((blk w1.heap.size).add 19) (.int .i64 0)) λw27=>w27.cell? ((blk w4.heap.size).add 0)=some (.int .i64 x7)/\w27.cell? ((blk w4.heap.size).add 1)=some (.int .i64 x8)/\Wr w27 (blk w2.heap.size)/\Nw (w27.setCell (blk w2.heap.size) (.int .i64 x7)) λw28=>Wr w28 ((blk w2.heap.size).add 1)/\Nw (w28.setCell ((blk w2.heap.size).add 1) (.int .i64 x8)) λw29=>ldI w29 ((blk w1.heap.size).add 0) .i64 λx9=>ldI w29 ((blk w1.heap.size).add 1) .i64 λx10=>ldI w29 ((blk w1.heap.size).add 2) .i64 λx11=>ldI w29 ((blk w1.heap.size).add 3) .i64 λx12=>ldI w29 ((blk w1.heap.size).add 4) .i64 λx13=>ldI w29 ((blk w1.heap.size).add 5) .i64 λx14=>ldI w29 ((blk w1.heap.size).add 6) .i64 λx15=>ldI w29 ((blk w1.heap.size).add 7) .i64 λx16=>ldI w29 ((blk w1.heap.size).add 8) .i64 λx17=>ldI w29 ((blk w1.heap.size).add 9) .i64 λx18=>ldI w29 ((blk w1.heap.size).add 10) .i64 λx19=>ldI w29 ((blk w1.heap.size).add 11) .i64 λx20=>ldI w29 ((blk w1.heap.size).add 12) .i64 λx21=>ldI w29 ((blk w1.heap.size).add 13) .i64 λx22=>ldI w29 ((blk w1.heap.size).add 14) .i64 λx23=>ldI w29 ((blk w1.heap.size).add 15) .i64 λx24=>ldI w29 ((blk w1.heap.size).add 16) .i64 λx25=>ldI w29 ((blk w1.heap.size).add 17) .i64 λx26=>ldI w29 ((blk w1.heap.size).add 18) .i64 λx27=>ldI w29 ((blk w1.heap.size).add 19) .i64 λx28=>ldI w29 ((blk w2.heap.size).add 0) .i64 λx29=>ldI w29 ((blk w2.heap.size).add 1) .i64 λx30=>R (.tuple #[.agg #[.int .i64 x9,.int .i64 x10,.int .i64 x11,.int .i64 x12,.int .i64 x13,.int .i64 x14,.int .i64 x15,.int .i64 x16,.int .i64 x17,.int .i64 x18,.int .i64 x19,.int .i64 x20,.int .i64 x21,.int .i64 x22,.int .i64 x23,.int .i64 x24,.int .i64 x25,.int .i64 x26,.int .i64 x27,.int .i64 x28],.agg #[.int .i64 x29,.int .i64 x30]]) w29) (zc x5 λa31=>ldI w7.drew ((a31.add 2).add 0) .i64 λx32=>ldI w7.drew ((a31.add 2).add 1) .i64 λx33=>ldI w7.drew ((a31.add 2).add 2) .i64 λx34=>ldI w7.drew ((a31.add 2).add 3) .i64 λx35=>ldI w7.drew ((a31.add 2).add 4) .i64 λx36=>ldI w7.drew ((a31.add 2).add 5) .i64 λx37=>ldI w7.drew ((a31.add 2).add 6) .i64 λx38=>ldI w7.drew ((a31.add 2).add 7) .i64 λx39=>ldI w7.drew ((a31.add 2).add 8) .i64 λx40=>ldI w7.drew ((a31.add 2).add 9) .i64 λx41=>ldI w7.drew ((a31.add 2).add 10) .i64 λx42=>ldI w7.drew ((a31.add 2).add 11) .i64 λx43=>ldI w7.drew ((a31.add 2).add 12) .i64 λx44=>ldI w7.drew ((a31.add 2).add 13) .i64 λx45=>ldI w7.drew ((a31.add 2).add 14) .i64 λx46=>ldI w7.drew ((a31.add 2).add 15) .i64 λx47=>ldI w7.drew ((a31.add 2).add 16) .i64 λx48=>ldI w7.drew ((a31.add 2).add 17) .i64 λx49=>ldI w7.drew ((a31.add 2).add 18) .i64 λx50=>ldI w7.drew ((a31.add 2).add 19) .i64 λx51=>ldI w7.drew ((blk w4.heap.size).add 0) .i64 λx52=>ldI w7.drew ((blk w4.heap.size).add 1) .i64 λx53=>Wr w7.drew (blk w1.heap.size)/\Nw (w7.drew.setCell (blk w1.heap.size) (.int .i64 x32)) λw30=>Wr w30 ((blk w1.heap.size).add 1)/\Nw (w30.setCell ((blk w1.heap.size).add 1) (.int .i64 x33)) λw31=>Wr w31 ((blk w1.heap.size).add 2)/\Nw (w31.setCell ((blk w1.heap.size).add 2) (.int .i64 x34)) λw32=>Wr w32 ((blk w1.heap.size).add 3)/\Nw (w32.setCell ((blk w1.heap.size).add 3) (.int .i64 x35)) λw33=>Wr w33 ((blk w1.heap.size).add 4)/\Nw (w33.setCell ((blk w1.heap.size).add 4) (.int .i64 x36)) λw34=>Wr w34 ((blk w1.heap.size).add 5)/\Nw (w34.setCell ((blk w1.heap.size).add 5) (.int .i64 x37)) λw35=>Wr w35 ((blk w1.heap.size).add 6)/\Nw (w35.setCell ((blk w1.heap.size).add 6) (.int .i64 x38)) λw36=>Wr w36 ((blk w1.heap.size).add 7)/\Nw (w36.setCell ((blk w1.heap.size).add 7) (.int .i64 x39)) λw37=>Wr w37 ((blk w1.heap.size).add 8)/\Nw (w37.setCell ((blk w1.heap.size).add 8) (.int .i64 x40)) λw38=>Wr w38 ((blk w1.heap.size).add 9)/\Nw (w38.setCell ((blk w1.heap.size).add 9) (.int .i64 x41)) λw39=>Wr w39 ((blk w1.heap.size).add 10)/\Nw (w39.setCell ((blk w1.heap.size).add 10) (.int .i64 x42)) λw40=>Wr w40 ((blk w1.heap.size).add 11)/\Nw (w40.setCell ((blk w1.heap.size).add 11) (.int .i64 x43)) λw41=>Wr w41 ((blk w1.heap.size).add 12)/\Nw (w41.setCell ((blk w1.heap.size).add 12) (.int .i64 x44)) λw42=>Wr w42 ((blk w1.heap.size).add 13)/\Nw (w42.setCell ((blk w1.heap.size).add 13) (.int .i64 x45)) λw43=>Wr w43 ((blk w1.heap.size).add 14)/\Nw (w43.setCell ((blk w1.heap.size).add 14) (.int .i64 x46)) λw44=>Wr w44 ((blk w1.heap.size).add 15)/\Nw (w44.setCell ((blk w1.heap.size).add 15) (.int .i64 x47)) λw45=>Wr w45 ((blk w1.heap.size).add 16)/\Nw (w45.setCell ((blk w1.heap.size).add 16) (.int .i64 x48)) λw46=>Wr w46 ((blk w1.heap.size).add 17)/\Nw (w46.setCell ((blk w1.heap.size).add 17) (.int .i64 x49)) λw47=>Wr w47 ((blk w1.heap.size).add 18)/\Nw (w47.setCell ((blk w1.heap.size).add 18) (.int .i64 x50)) λw48=>Wr w48 ((blk w1.heap.size).add 19)/\Nw (w48.setCell ((blk w1.heap.size).add 19) (.int .i64 x51)) λw49=>w49.cell? ((blk w4.heap.size).add 0)=some (.int .i64 x52)/\w49.cell? ((blk w4.heap.size).add 1)=some (.int .i64 x53)/\Wr w49 (blk w2.heap.size)/\Nw (w49.setCell (blk w2.heap.size) (.int .i64 x52)) λw50=>Wr w50 ((blk w2.heap.size).add 1)/\Nw (w50.setCell ((blk w2.heap.size).add 1) (.int .i64 x53)) λw51=>ldI w51 ((blk w1.heap.size).add 0) .i64 λx54=>ldI w51 ((blk w1.heap.size).add 1) .i64 λx55=>ldI w51 ((blk w1.heap.size).add 2) .i64 λx56=>ldI w51 ((blk w1.heap.size).add 3) .i64 λx57=>ldI w51 ((blk w1.heap.size).add 4) .i64 λx58=>ldI w51 ((blk w1.heap.size).add 5) .i64 λx59=>ldI w51 ((blk w1.heap.size).add 6) .i64 λx60=>ldI w51 ((blk w1.heap.size).add 7) .i64 λx61=>ldI w51 ((blk w1.heap.size).add 8) .i64 λx62=>ldI w51 ((blk w1.heap.size).add 9) .i64 λx63=>ldI w51 ((blk w1.heap.size).add 10) .i64 λx64=>ldI w51 ((blk w1.heap.size).add 11) .i64 λx65=>ldI w51 ((blk w1.heap.size).add 12) .i64 λx66=>ldI w51 ((blk w1.heap.size).add 13) .i64 λx67=>ldI w51 ((blk w1.heap.size).add 14) .i64 λx68=>ldI w51 ((blk w1.heap.size).add 15) .i64 λx69=>ldI w51 ((blk w1.heap.size).add 16) .i64 λx70=>ldI w51 ((blk w1.heap.size).add 17) .i64 λx71=>ldI w51 ((blk w1.heap.size).add 18) .i64 λx72=>ldI w51 ((blk w1.heap.size).add 19) .i64 λx73=>ldI w51 ((blk w2.heap.size).add 0) .i64 λx74=>ldI w51 ((blk w2.heap.size).add 1) .i64 λx75=>R (.tuple #[.agg #[.int .i64 x54,.int .i64 x55,.int .i64 x56,.int .i64 x57,.int .i64 x58,.int .i64 x59,.int .i64 x60,.int .i64 x61,.int .i64 x62,.int .i64 x63,.int .i64 x64,.int .i64 x65,.int .i64 x66,.int .i64 x67,.int .i64 x68,.int .i64 x69,.int .i64 x70,.int .i64 x71,.int .i64 x72,.int .i64 x73],.agg #[.int .i64 x74,.int .i64 x75]]) w51)
theorem zit(p0)(R)(w)(h:zg8 p0 R w):Calls Tryz.prog 100 #[.agg #[.int .u32 p0.1,.int .u32 p0.2.1,.slice p0.2.2.1.a p0.2.2.1.l p0.2.2.1.c]] w (Ret R):=lwC zgD Tryz.func100 (by kernel_rfl) (by kernel_rfl) h
def zhP:Ann:=(.q (.seq none (.q (.q (.cond (.q .nil) .nil))) (.q (.seq none (.one (.q (.cond (.q .nil) (.q (.cond (.q .nil) .nil))))) (.q .nil)))))
def zhG(p0:(Int×Int×Sl×Unit))(R:VWP)(w:World):Prop:=Nw (w.alloc (.cells #[.int .u32 p0.1,.int .u32 p0.2.1,.slice p0.2.2.1.a p0.2.2.1.l p0.2.2.1.c] 25)) λw1=>Nw (w1.alloc (.cells #[.int .i64 0,.int .i64 0] 33)) λw2=>ldI w2 ((blk w.heap.size).add 0) .u32 λx1=>ldI w2 ((blk w.heap.size).add 1) .u32 λx2=>ldS w2 ((blk w.heap.size).add 2) λx3=>cR 69 #[.agg #[.int .u32 x1,.int .u32 x2,.slice x3.a x3.l x3.c]] w2 λv4 w3=>∃x5:(Int×Int×Unit),v4=(.agg #[.int .i64 x5.1,.int .i64 x5.2.1])/\Nw (w3.alloc (.cells #[.int .i64 0,.int .i64 0] 33)) λw4=>Wr w4 (blk w3.heap.size)/\Nw (w4.setCell (blk w3.heap.size) (.int .i64 x5.1)) λw5=>Wr w5 ((blk w3.heap.size).add 1)/\Nw (w5.setCell ((blk w3.heap.size).add 1) (.int .i64 x5.2.1)) λw6=>ldI w6 (blk w3.heap.size) .i64 λx6=>ifB (x6 !=0) (ldI w6.drew ((blk w3.heap.size).add 0) .i64 λx7=>ldI w6.drew ((blk w3.heap.size).add 1) .i64 λx8=>Wr w6.drew (blk w1.heap.size)/\Nw (w6.drew.setCell (blk w1.heap.size) (.int .i64 x7)) λw7=>Wr w7 ((blk w1.heap.size).add 1)/\Nw (w7.setCell ((blk w1.heap.size).add 1) (.int .i64 x8)) λw8=>ldI w8 ((blk w1.heap.size).add 0) .i64 λx9=>ldI w8 ((blk w1.heap.size).add 1) .i64 λx10=>R (.tuple #[.pointer none,.agg #[.int .i64 x9,.int .i64 x10]]) w8) (ldS w6 ((blk w.heap.size).add 2) λx11=>Nw (w6.alloc (.cells (List.toArray ([(.slice x11.a x11.l x11.c)]++List.replicate 21 (.int .i64 0)++[(.slice none 0 0)])) 151)) λw9=>cR 140 #[.pointer (some (blk w6.heap.size))] w9 λv12 w10=>∃x13:Bool,v12=(.bool x13)/\ifB x13 (Wr w10 (blk w1.heap.size)/\Nw (w10.setCell (blk w1.heap.size) (.int .i64 0)) λw11=>Wr w11 ((blk w1.heap.size).add 1)/\Nw (w11.setCell ((blk w1.heap.size).add 1) (.int .i64 0)) λw12=>ldI w12 ((blk w1.heap.size).add 0) .i64 λx14=>ldI w12 ((blk w1.heap.size).add 1) .i64 λx15=>R (.tuple #[.pointer (some (blk w6.heap.size)),.agg #[.int .i64 x14,.int .i64 x15]]) w12) (ldI w10.drew ((blk w6.heap.size).add 1) .i64 λx16=>ldS w10.drew ((blk w.heap.size).add 2) λx17=>ifB (decide (x16<(x17.l:Int))) (ldI w10.drew.drew ((blk w6.heap.size).add 1) .i64 λx18=>Wr w10.drew.drew (blk w1.heap.size)/\Nw (w10.drew.drew.setCell (blk w1.heap.size) (.int .i64 50)) λw13=>Wr w13 ((blk w1.heap.size).add 1)/\Nw (w13.setCell ((blk w1.heap.size).add 1) (.int .i64 x18)) λw14=>ldI w14 ((blk w1.heap.size).add 0) .i64 λx19=>ldI w14 ((blk w1.heap.size).add 1) .i64 λx20=>R (.tuple #[.pointer none,.agg #[.int .i64 x19,.int .i64 x20]]) w14) (ldI w10.drew.drew ((blk w6.heap.size).add 1) .i64 λx21=>Wr w10.drew.drew (blk w1.heap.size)/\Nw (w10.drew.drew.setCell (blk w1.heap.size) (.int .i64 51)) λw15=>Wr w15 ((blk w1.heap.size).add 1)/\Nw (w15.setCell ((blk w1.heap.size).add 1) (.int .i64 x21)) λw16=>ldI w16 ((blk w1.heap.size).add 0) .i64 λx22=>ldI w16 ((blk w1.heap.size).add 1) .i64 λx23=>R (.tuple #[.pointer none,.agg #[.int .i64 x22,.int .i64 x23]]) w16)))
theorem zjt(p0)(R)(w)(h:zhG p0 R w):Calls Tryz.prog 103 #[.agg #[.int .u32 p0.1,.int .u32 p0.2.1,.slice p0.2.2.1.a p0.2.2.1.l p0.2.2.1.c]] w (Ret R):=lwC zhP Tryz.func103 (by kernel_rfl) (by kernel_rfl) h
def zaI:Ann:=(.q (.q (.seq none (.one (.loop ⟨[0],[(5,(.b (.int .i64)))]⟩ (.seq none (.q .c) (.one .nil)))) (.q .nil))))
def zax(p0:Sl)(p1:Int)(R:VWP)(w:World):Prop:=zl (S:=Int×Unit) (λs1 w1 n2=>(0<=s1.1/\s1.1<(p0.l:Int))/\zc p0.a λa3=>ldI w1 (a3.add (s1.1.toNat *4)) .u16 λx4=>ifB (x4 !=248) (n2 ((IntKind.i64.wrap (s1.1-(1:Int))),()) w1) ((0<=(IntKind.i64.wrap (s1.1-(1:Int)))/\(IntKind.i64.wrap (s1.1-(1:Int)))<(p0.l:Int))/\zc p0.a λa5=>ldI w1 (a5.add ((Int.toNat (IntKind.i64.wrap (s1.1-(1:Int))))*4)) .u16 λx6=>ifB (x6==54) (R (.bool true) w1) ((0<=(IntKind.i64.wrap (s1.1-(1:Int)))/\(IntKind.i64.wrap (s1.1-(1:Int)))<(p0.l:Int))/\zc p0.a λa7=>ldI w1 (a7.add ((Int.toNat (IntKind.i64.wrap (s1.1-(1:Int))))*4)) .u16 λx8=>R (.bool (x8==55)) w1))) (p1,()) w
theorem zdM(p0)(p1)(R)(w)(h:zax p0 p1 R w):Calls Tryz.prog 127 #[.slice p0.a p0.l p0.c,.int .i64 p1] w (Ret R):=lwC zaI Tryz.func127 (by kernel_rfl) (by kernel_rfl) h
def zc7:Ann:=(.q (.one (.seq none (.q (.cond (.q .nil) .nil)) (.q (.q (.loop ⟨[0],[]⟩ (.seq none (.q (.cond (.q .nil) .nil)) (.seq none (.q (.cond (.q .nil) .nil)) (.q (.q (.q (.q (.seq none (.one (.loop ⟨[0,3],[]⟩ (.seq none (.q .c) (.one (.seq none (.q (.cond (.q .nil) .nil)) .nil))))) (.seq (some ⟨[0,3],[]⟩) (.q (.cond (.q .nil) .nil)) (.q (.q (.q .nil)))))))))))))))))
def zct(p0:Option Addr)(R:VWP)(w:World):Prop:=cR 172 #[.pointer p0] w λv1 w1=>∃x2:Bool,v1=(.bool x2)/\ifB (!x2) (R (.bool false) w1) (zc p0 λa3=>ldI w1.drew (a3.add 1) .i64 λx4=>zc p0 λa5=>ldS w1.drew a5 λx6=>zc p0 λa7=>(0<=(8:Int)/\(8:Int)<10)/\Wr w1.drew ((a7.add 2).add (8*2))/\Nw (w1.drew.setCell ((a7.add 2).add (8*2)) (.int .i64 x4)) λw2=>Wr w2 (((a7.add 2).add (8*2)).add 1)/\Nw (w2.setCell (((a7.add 2).add (8*2)).add 1) (.int .i64 (x6.l:Int))) λw3=>zc p0 λa8=>ldS w3.drew a8 λx9=>zc p0 λa10=>ldS w3.drew a10 λx11=>zc p0 λa12=>(0<=(9:Int)/\(9:Int)<10)/\Wr w3.drew ((a12.add 2).add (9*2))/\Nw (w3.drew.setCell ((a12.add 2).add (9*2)) (.int .i64 (x9.l:Int))) λw4=>Wr w4 (((a12.add 2).add (9*2)).add 1)/\Nw (w4.setCell (((a12.add 2).add (9*2)).add 1) (.int .i64 (x11.l:Int))) λw5=>zl (S:=Unit) (λs13 w6 n14=>cR 173 #[.pointer p0] w6 λv15 w7=>∃x16:Int,v15=(.int .i64 x16)/\ifB (decide (x16<(0:Int))) (R (.bool true) w7) (cR 173 #[.pointer p0] w7 λv17 w8=>∃x18:Int,v17=(.int .i64 x18)/\ifB (x18 !=1) (R (.bool false) w8) (zc p0 λa19=>ldS w8.drew a19 λx20=>zc p0 λa21=>ldI w8.drew (a21.add 1) .i64 λx22=>(0<=x22/\x22<(x20.l:Int))/\zc x20.a λa23=>ldI w8.drew ((a23.add (x22.toNat *4)).add 2) .u32 λx24=>zc p0 λa25=>ldI w8.drew (a25.add 1) .i64 λx26=>Nw (w8.drew.alloc (.cells #[.int .u32 0,.int .i64 0,.slice none 0 0,.slice none 0 0,.int .i64 0] 29)) λw9=>w9.cell? (a25.add 1)=some (.int .i64 x26)/\w9.cell? ((a23.add (x22.toNat *4)).add 2)=some (.int .u32 x24)/\w9.cell? (a21.add 1)=some (.int .i64 x22)/\w9.cell? a19=some (.slice x20.a x20.l x20.c)/\Wr w9 (blk w8.drew.heap.size)/\Nw (w9.setCell (blk w8.drew.heap.size) (.int .u32 x24)) λw10=>Wr w10 ((blk w8.drew.heap.size).add 1)/\Nw (w10.setCell ((blk w8.drew.heap.size).add 1) (.int .i64 x26)) λw11=>Wr w11 ((blk w8.drew.heap.size).add 2)/\Nw (w11.setCell ((blk w8.drew.heap.size).add 2) (.slice none 0 0)) λw12=>Wr w12 ((blk w8.drew.heap.size).add 3)/\Nw (w12.setCell ((blk w8.drew.heap.size).add 3) (.slice none 0 0)) λw13=>Wr w13 ((blk w8.drew.heap.size).add 4)/\Nw (w13.setCell ((blk w8.drew.heap.size).add 4) (.int .i64 0)) λw14=>zc p0 λa27=>ldI w14 (a27.add 1) .i64 λx28=>zc p0 λa29=>Wr w14 (a29.add 1)/\Nw (w14.setCell (a29.add 1) (.int .i64 (IntKind.i64.wrap (x28+(1:Int))))) λw15=>cR 174 #[.pointer p0,.int .i64 2] w15 λv30 w16=>∃x31:Sl,v30=(.slice x31.a x31.l x31.c)/\Wr w16 ((blk w8.drew.heap.size).add 2)/\Nw (w16.setCell ((blk w8.drew.heap.size).add 2) (.slice x31.a x31.l x31.c)) λw17=>zl (S:=Unit) (λs32 w18 n33=>cR 173 #[.pointer p0] w18 λv34 w19=>∃x35:Int,v34=(.int .i64 x35)/\ifB (x35==3) (cR 175 #[.pointer p0,.pointer (some (blk w8.drew.heap.size))] w19 λv36 w20=>∃x37:Bool,v36=(.bool x37)/\ifB (!x37) (R (.bool false) w20) (n33 () w20)) (zk (S:=Unit) (λm38=>ldS w19 ((blk w8.drew.heap.size).add 3) λx40=>ifB ((x40.l:Int)==0) (R (.bool false) w19) (cR 173 #[.pointer p0] w19 λv41 w21=>∃x42:Int,v41=(.int .i64 x42)/\ifB (x42 !=8) (R (.bool false) w21) (m38 () w21))) (λs39 w22=>zc p0 λa43=>ldI w22 (a43.add 1) .i64 λx44=>Wr w22 ((blk w8.drew.heap.size).add 4)/\Nw (w22.setCell ((blk w8.drew.heap.size).add 4) (.int .i64 x44)) λw23=>zc p0 λa45=>ldI w23 (a45.add 1) .i64 λx46=>zc p0 λa47=>Wr w23 (a47.add 1)/\Nw (w23.setCell (a47.add 1) (.int .i64 (IntKind.i64.wrap (x46+(1:Int))))) λw24=>zc p0 λa48=>ldS w24.drew (a48.add 22) λx49=>ldI w24.drew ((blk w8.drew.heap.size).add 0) .u32 λx50=>ldI w24.drew ((blk w8.drew.heap.size).add 1) .i64 λx51=>ldS w24.drew ((blk w8.drew.heap.size).add 2) λx52=>ldS w24.drew ((blk w8.drew.heap.size).add 3) λx53=>ldI w24.drew ((blk w8.drew.heap.size).add 4) .i64 λx54=>Nw (w24.drew.alloc (.cells #[.int .u32 x50,.int .i64 x51,.slice x52.a x52.l x52.c,.slice x53.a x53.l x53.c,.int .i64 x54] 29)) λw25=>w25.cell? (a48.add 22)=some (.slice x49.a x49.l x49.c)/\zo Tryz.prog 30 (.slice x49.a x49.l x49.c) (.slice (some (blk w24.drew.heap.size)) 1 1) w25 λr55 w26=>zc p0 λa56=>Wr w26 (a56.add 22)/\Nw (w26.setCell (a56.add 22) (.slice r55.a r55.l r55.c)) λw27=>n14 () w27))) () w17))) () w5)
theorem zfi(p0:Option Addr)(R:VWP)(w:World)(h:zct p0 R w):Calls Tryz.prog 140 #[.pointer p0] w (Ret R):=zqV (l:=0) (fs:=Tryz.fs) (an:=zc7) (args:=[(.pointer p0)]) Tryz.fsOK Tryz.mixed Tryz.func140 (by kernel_rfl) (by kernel_rfl) (Eq.mpr (by kernel_rfl:zrZ Tryz.prog Tryz.fs 0 Tryz.f140 zc7 [(.pointer p0)] w R=zct p0 R w) h)
def zc9:Ann:=(.q (.seq none (.q (.one (.loop ⟨[0],[(5,(.b (.int .u8)))]⟩ (.q (.seq none .c (.seq (some ⟨[0,5],[]⟩) (.one (.q (.q (.seq (some ⟨[0,3,4,5],[]⟩) (.one (.loop ⟨[0,3,4,5],[]⟩ (.seq (some ⟨[0,3,4,5],[]⟩) (.q .c) (.one (.q (.q .c)))))) (.q (.q (.cond (.q .nil) .nil))))))) .nil)))))) (.q .nil)))
def zcv(p0:Option Addr)(R:VWP)(w:World):Prop:=zl (S:=Int×Unit) (λs1 w1 n2=>ifB (decide (s1.1<(8:Int))) (zk (S:=Unit) (λm3=>zc p0 λa5=>ldI w1 (a5.add 1) .i64 λx6=>zk (S:=Unit) (λm7=>zl (S:=Unit) (λs9 w2 n10=>zk (S:=Unit) (λm11=>cR 173 #[.pointer p0] w2.drew λv13 w3=>∃x14:Int,v13=(.int .i64 x14)/\ifB (x14==9) (zc p0 λa15=>ldS w3 a15 λx16=>zc p0 λa17=>ldI w3 (a17.add 1) .i64 λx18=>(0<=x18/\x18<(x16.l:Int))/\zc x16.a λa19=>ldI w3 ((a19.add (x18.toNat *4)).add 0) .u16 λx20=>ldI w3 ((a19.add (x18.toNat *4)).add 1) .u32 λx21=>ldI w3 ((a19.add (x18.toNat *4)).add 2) .u32 λx22=>ldS w3 ((a19.add (x18.toNat *4)).add 3) λx23=>cR 226 #[.agg #[.int .u16 x20,.int .u32 x21,.int .u32 x22,.slice x23.a x23.l x23.c]] w3 λv24 w4=>∃x25:Int,v24=(.int .u8 x25)/\ifB (x25==s1.1) (m11 () w4) (m7 () w4)) (m7 () w3)) (λs12 w5=>zc p0 λa26=>ldI w5 (a26.add 1) .i64 λx27=>zc p0 λa28=>Wr w5 (a28.add 1)/\Nw (w5.setCell (a28.add 1) (.int .i64 (IntKind.i64.wrap (x27+(1:Int))))) λw6=>ifB (s1.1==1) (m7 () w6) (n10 () w6))) () w1) (λs8 w7=>zc p0 λa29=>ldI w7.drew (a29.add 1) .i64 λx30=>zc p0 λa31=>(0<=s1.1/\s1.1<(10:Int))/\Wr w7.drew ((a31.add 2).add (s1.1.toNat *2))/\Nw (w7.drew.setCell ((a31.add 2).add (s1.1.toNat *2)) (.int .i64 x6)) λw8=>Wr w8 (((a31.add 2).add (s1.1.toNat *2)).add 1)/\Nw (w8.setCell (((a31.add 2).add (s1.1.toNat *2)).add 1) (.int .i64 x30)) λw9=>ifB (s1.1==1) (zc p0 λa32=>ldI w9 (a32.add 1) .i64 λx33=>ifB (x33==x6) (R (.bool false) w9) (m3 () w9)) (m3 () w9))) (λs4 w10=>n2 ((IntKind.u8.wrap (s1.1+(1:Int))),()) w10)) (R (.bool true) w1)) (0,()) w
theorem zfk(p0)(R)(w)(h:zcv p0 R w):Calls Tryz.prog 172 #[.pointer p0] w (Ret R):=lwC zc9 Tryz.func172 (by kernel_rfl) (by kernel_rfl) h
def zbL:Ann:=(.q (.seq none (.q (.cond (.q .nil) .nil)) (.q .nil)))
def zb3(p0:Option Addr)(R:VWP)(w:World):Prop:=zc p0 λa1=>ldI w.drew (a1.add 1) .i64 λx2=>zc p0 λa3=>ldS w.drew a3 λx4=>ifB (x2==(x4.l:Int)) (R (.int .i64 (-1:Int)) w.drew) (zc p0 λa5=>ldS w.drew.drew a5 λx6=>zc p0 λa7=>ldI w.drew.drew (a7.add 1) .i64 λx8=>(0<=x8/\x8<(x6.l:Int))/\zc x6.a λa9=>ldI w.drew.drew ((a9.add (x8.toNat *4)).add 0) .u16 λx10=>ldI w.drew.drew ((a9.add (x8.toNat *4)).add 1) .u32 λx11=>ldI w.drew.drew ((a9.add (x8.toNat *4)).add 2) .u32 λx12=>ldS w.drew.drew ((a9.add (x8.toNat *4)).add 3) λx13=>cR 227 #[.agg #[.int .u16 x10,.int .u32 x11,.int .u32 x12,.slice x13.a x13.l x13.c]] w.drew.drew λv14 w1=>∃x15:Int,v14=(.int .i64 x15)/\R (.int .i64 x15) w1)
theorem zeC(p0)(R)(w)(h:zb3 p0 R w):Calls Tryz.prog 173 #[.pointer p0] w (Ret R):=lwC zbL Tryz.func173 (by kernel_rfl) (by kernel_rfl) h
def zc8:Ann:=(.q (.q (.seq none (.one (.loop ⟨[0,1],[(5,(.b .slice))]⟩ (.seq none (.q .c) (.one (.q .nil))))) (.q .nil))))
def zcu(p0:Option Addr)(p1:Int)(R:VWP)(w:World):Prop:=zl (S:=Sl×Unit) (λs1 w1 n2=>cR 173 #[.pointer p0] w1 λv3 w2=>∃x4:Int,v3=(.int .i64 x4)/\ifB (x4==p1) (zc p0 λa5=>ldI w2 (a5.add 1) .i64 λx6=>Nw (w2.alloc (.cells #[.int .i64 x6] 3)) λw3=>zo Tryz.prog 26 (.slice s1.1.a s1.1.l s1.1.c) (.slice (some (blk w2.heap.size)) 1 1) w3 λr7 w4=>zc p0 λa8=>ldI w4 (a8.add 1) .i64 λx9=>zc p0 λa10=>Wr w4 (a10.add 1)/\Nw (w4.setCell (a10.add 1) (.int .i64 (IntKind.i64.wrap (x9+(1:Int))))) λw5=>n2 (r7,()) w5) (R (.slice s1.1.a s1.1.l s1.1.c) w2)) ((Sl.mk none 0 0),()) w
theorem zfj(p0)(p1)(R)(w)(h:zcu p0 p1 R w):Calls Tryz.prog 174 #[.pointer p0,.int .i64 p1] w (Ret R):=lwC zc8 Tryz.func174 (by kernel_rfl) (by kernel_rfl) h
def zaS:Ann:=(.q (.q (.q (.seq (some ⟨[0,1,5],[]⟩) (.q .c) (.q (.seq none (.q (.one (.seq (some ⟨[0,1,5],[]⟩) (.one (.seq none (.one (.seq none (.seq none (.q .c) (.q .c)) .nil)) (.q (.q (.cond (.q .nil) .nil))))) (.seq none (.q (.q (.q (.q .nil)))) .nil)))) (.q .nil)))))))
def za7(p0:Option Addr)(p1:Option Addr)(R:VWP)(w:World):Prop:=zc p0 λa1=>ldS w.drew a1 λx2=>zc p0 λa3=>ldI w.drew (a3.add 1) .i64 λx4=>(0<=x4/\x4<(x2.l:Int))/\zc x2.a λa5=>ldI w.drew ((a5.add (x4.toNat *4)).add 2) .u32 λx6=>zc p0 λa7=>ldI w.drew (a7.add 1) .i64 λx8=>Nw (w.drew.alloc (.cells #[.int .u32 0,.int .i64 0,.int .i64 0] 69)) λw1=>w1.cell? (a7.add 1)=some (.int .i64 x8)/\w1.cell? ((a5.add (x4.toNat *4)).add 2)=some (.int .u32 x6)/\w1.cell? (a3.add 1)=some (.int .i64 x4)/\w1.cell? a1=some (.slice x2.a x2.l x2.c)/\Wr w1 (blk w.drew.heap.size)/\Nw (w1.setCell (blk w.drew.heap.size) (.int .u32 x6)) λw2=>Wr w2 ((blk w.drew.heap.size).add 1)/\Nw (w2.setCell ((blk w.drew.heap.size).add 1) (.int .i64 x8)) λw3=>Wr w3 ((blk w.drew.heap.size).add 2)/\Nw (w3.setCell ((blk w.drew.heap.size).add 2) (.int .i64 0)) λw4=>zc p0 λa9=>ldI w4 (a9.add 1) .i64 λx10=>zc p0 λa11=>Wr w4 (a11.add 1)/\Nw (w4.setCell (a11.add 1) (.int .i64 (IntKind.i64.wrap (x10+(1:Int))))) λw5=>zk (S:=Unit) (λm12=>zc p1 λa14=>ldS w5 (a14.add 3) λx15=>ifB ((x15.l:Int)==0) (cR 174 #[.pointer p0,.int .i64 5] w5 λv16 w6=>∃x17:Sl,v16=(.slice x17.a x17.l x17.c)/\m12 () w6) (cR 174 #[.pointer p0,.int .i64 4] w5 λv18 w7=>∃x19:Sl,v18=(.slice x19.a x19.l x19.c)/\m12 () w7)) (λs13 w8=>cR 174 #[.pointer p0,.int .i64 0] w8 λv20 w9=>∃x21:Sl,v20=(.slice x21.a x21.l x21.c)/\cR 173 #[.pointer p0] w9 λv22 w10=>∃x23:Int,v22=(.int .i64 x23)/\zk (S:=Unit) (λm24=>ifB (x23==6) (zc p0 λa26=>ldI w10 (a26.add 1) .i64 λx27=>zc p0 λa28=>Wr w10 (a28.add 1)/\Nw (w10.setCell (a28.add 1) (.int .i64 (IntKind.i64.wrap (x27+(1:Int))))) λw11=>cR 173 #[.pointer p0] w11.drew λv29 w12=>∃x30:Int,v29=(.int .i64 x30)/\ifB (x30 !=7) (R (.bool false) w12) (zc p0 λa31=>ldS w12 a31 λx32=>zc p0 λa33=>ldI w12 (a33.add 1) .i64 λx34=>(0<=(IntKind.i64.wrap (x34-(1:Int)))/\(IntKind.i64.wrap (x34-(1:Int)))<(x32.l:Int))/\zc x32.a λa35=>ldI w12 (a35.add ((Int.toNat (IntKind.i64.wrap (x34-(1:Int))))*4)) .u16 λx36=>zc p0 λa37=>ldS w12 a37 λx38=>zc p0 λa39=>ldI w12 (a39.add 1) .i64 λx40=>(0<=x40/\x40<(x38.l:Int))/\zc x38.a λa41=>ldI w12 (a41.add (x40.toNat *4)) .u16 λx42=>cR 228 #[.int .u16 x36,.int .u16 x42] w12 λv43 w13=>∃x44:Bool,v43=(.bool x44)/\ifB (!x44) (R (.bool false) w13) (m24 () w13))) (ifB (x23==7) (m24 () w10) (R (.bool false) w10))) (λs25 w14=>zc p0 λa45=>ldI w14 (a45.add 1) .i64 λx46=>zc p0 λa47=>Wr w14 (a47.add 1)/\Nw (w14.setCell (a47.add 1) (.int .i64 (IntKind.i64.wrap (x46+(1:Int))))) λw15=>zc p0 λa48=>ldI w15 (a48.add 1) .i64 λx49=>Wr w15 ((blk w.drew.heap.size).add 2)/\Nw (w15.setCell ((blk w.drew.heap.size).add 2) (.int .i64 x49)) λw16=>zc p1 λa50=>ldS w16.drew (a50.add 3) λx51=>ldI w16.drew ((blk w.drew.heap.size).add 0) .u32 λx52=>ldI w16.drew ((blk w.drew.heap.size).add 1) .i64 λx53=>ldI w16.drew ((blk w.drew.heap.size).add 2) .i64 λx54=>Nw (w16.drew.alloc (.cells #[.int .u32 x52,.int .i64 x53,.int .i64 x54] 69)) λw17=>w17.cell? (a50.add 3)=some (.slice x51.a x51.l x51.c)/\zo Tryz.prog 27 (.slice x51.a x51.l x51.c) (.slice (some (blk w16.drew.heap.size)) 1 1) w17 λr55 w18=>zc p1 λa56=>Wr w18 (a56.add 3)/\Nw (w18.setCell (a56.add 3) (.slice r55.a r55.l r55.c)) λw19=>R (.bool true) w19))
theorem zdV(p0)(p1)(R)(w)(h:za7 p0 p1 R w):Calls Tryz.prog 175 #[.pointer p0,.pointer p1] w (Ret R):=lwC zaS Tryz.func175 (by kernel_rfl) (by kernel_rfl) h
def zhO:Ann:=(.q (.seq none (.q (.cond (.q .nil) .nil)) (.q (.q .nil))))
def zhF(p0:(Int×Int×Int×Sl×Unit))(R:VWP)(w:World):Prop:=Nw (w.alloc (.cells #[.int .u16 p0.1,.int .u32 p0.2.1,.int .u32 p0.2.2.1,.slice p0.2.2.2.1.a p0.2.2.2.1.l p0.2.2.2.1.c] 41)) λw1=>ldI w1 ((blk w.heap.size).add 0) .u16 λx1=>ldI w1 ((blk w.heap.size).add 1) .u32 λx2=>ldI w1 ((blk w.heap.size).add 2) .u32 λx3=>ldS w1 ((blk w.heap.size).add 3) λx4=>cR 257 #[.agg #[.int .u16 x1,.int .u32 x2,.int .u32 x3,.slice x4.a x4.l x4.c]] w1 λv5 w2=>∃x6:Bool,v5=(.bool x6)/\ifB x6 (R (.int .u8 8) w2) (ldI w2 (blk w.heap.size) .u16 λx7=>cR 168 #[.int .u16 x7] w2 λv8 w3=>∃x9:(Int×ByteArray×Bool×Bool×ByteArray×ByteArray×Int×Int×Unit),∃x10:Bool,v8=(.tuple #[.agg #[.int .u16 x9.1,.string x9.2.1,.bool x9.2.2.1,.bool x9.2.2.2.1,.string x9.2.2.2.2.1,.string x9.2.2.2.2.2.1,.int .i64 x9.2.2.2.2.2.2.1,.int .u8 x9.2.2.2.2.2.2.2.1],.bool x10])/\Nw (w3.alloc (.cells #[.int .u16 0,.string (BM #[]),.bool false,.bool false,.string (BM #[]),.string (BM #[]),.int .i64 0,.int .u8 0] 178)) λw4=>Wr w4 (blk w3.heap.size)/\Nw (w4.setCell (blk w3.heap.size) (.int .u16 x9.1)) λw5=>Wr w5 ((blk w3.heap.size).add 1)/\Nw (w5.setCell ((blk w3.heap.size).add 1) (.string x9.2.1)) λw6=>Wr w6 ((blk w3.heap.size).add 2)/\Nw (w6.setCell ((blk w3.heap.size).add 2) (.bool x9.2.2.1)) λw7=>Wr w7 ((blk w3.heap.size).add 3)/\Nw (w7.setCell ((blk w3.heap.size).add 3) (.bool x9.2.2.2.1)) λw8=>Wr w8 ((blk w3.heap.size).add 4)/\Nw (w8.setCell ((blk w3.heap.size).add 4) (.string x9.2.2.2.2.1)) λw9=>Wr w9 ((blk w3.heap.size).add 5)/\Nw (w9.setCell ((blk w3.heap.size).add 5) (.string x9.2.2.2.2.2.1)) λw10=>Wr w10 ((blk w3.heap.size).add 6)/\Nw (w10.setCell ((blk w3.heap.size).add 6) (.int .i64 x9.2.2.2.2.2.2.1)) λw11=>Wr w11 ((blk w3.heap.size).add 7)/\Nw (w11.setCell ((blk w3.heap.size).add 7) (.int .u8 x9.2.2.2.2.2.2.2.1)) λw12=>ldI w12 ((blk w3.heap.size).add 7) .u8 λx11=>R (.int .u8 x11) w12)
theorem zjs(p0)(R)(w)(h:zhF p0 R w):Calls Tryz.prog 226 #[.agg #[.int .u16 p0.1,.int .u32 p0.2.1,.int .u32 p0.2.2.1,.slice p0.2.2.2.1.a p0.2.2.2.1.l p0.2.2.2.1.c]] w (Ret R):=lwC zhO Tryz.func226 (by kernel_rfl) (by kernel_rfl) h
def zhN:Ann:=(.q (.seq none (.q (.cond (.q .nil) .nil)) (.seq none (.q (.one (.seq none (.one (.one (.seq none (.one (.seq none (.one (.seq none (.one (.seq none (.one (.seq none (.one (.seq none (.one (.seq none (.seq none (.q .c) (.seq none (.q .c) (.seq none (.q .c) (.seq none (.q .c) (.seq none (.q .c) (.seq none (.q .c) (.seq none (.q .c) (.q .c)))))))) .nil)) (.seq none (.q .nil) .nil))) (.seq none (.q .nil) .nil))) (.seq none (.q .nil) .nil))) (.seq none (.q .nil) .nil))) (.seq none (.q .nil) .nil))) (.seq none (.q .nil) .nil)))) (.seq none (.q .nil) .nil)))) (.seq none (.q (.cond (.q .nil) .nil)) (.q .nil)))))
def zhE(p0:(Int×Int×Int×Sl×Unit))(R:VWP)(w:World):Prop:=Nw (w.alloc (.cells #[.int .u16 p0.1,.int .u32 p0.2.1,.int .u32 p0.2.2.1,.slice p0.2.2.2.1.a p0.2.2.2.1.l p0.2.2.2.1.c] 41)) λw1=>ldI w1 ((blk w.heap.size).add 0) .u16 λx1=>ldI w1 ((blk w.heap.size).add 1) .u32 λx2=>ldI w1 ((blk w.heap.size).add 2) .u32 λx3=>ldS w1 ((blk w.heap.size).add 3) λx4=>cR 226 #[.agg #[.int .u16 x1,.int .u32 x2,.int .u32 x3,.slice x4.a x4.l x4.c]] w1 λv5 w2=>∃x6:Int,v5=(.int .u8 x6)/\ifB (x6 !=8) (R (.int .i64 9) w2) (ldI w2 (blk w.heap.size) .u16 λx7=>ifB (x7==54) (R (.int .i64 1) w2) (ifB (x7==55) (R (.int .i64 2) w2) (ifB (x7==56) (R (.int .i64 8) w2) (ifB (x7==248) (R (.int .i64 3) w2) (ifB (x7==245) (R (.int .i64 4) w2) (ifB (x7==59) (R (.int .i64 5) w2) (ifB (x7==246) (R (.int .i64 6) w2) (ifB (x7==247) (R (.int .i64 6) w2) (ldI w2 (blk w.heap.size) .u16 λx8=>cR 258 #[.int .u16 x8] w2 λv9 w3=>∃x10:Bool,v9=(.bool x10)/\ifB x10 (R (.int .i64 7) w3) (R (.int .i64 0) w3))))))))))
theorem zjr(p0)(R)(w)(h:zhE p0 R w):Calls Tryz.prog 227 #[.agg #[.int .u16 p0.1,.int .u32 p0.2.1,.int .u32 p0.2.2.1,.slice p0.2.2.2.1.a p0.2.2.2.1.l p0.2.2.2.1.c]] w (Ret R):=lwC zhN Tryz.func227 (by kernel_rfl) (by kernel_rfl) h
def ziQ:Ann:=(.q (.seq none (.q (.one (.q (.cond (.q .nil) (.q (.cond (.q .nil) (.q (.cond (.q .nil) .nil)))))))) (.q .nil)))
def ziD(p0:Int)(p1:Int)(R:VWP)(w:World):Prop:=ifB (p1==251) (R (.bool (p0==247)) w) (ifB (p1==249) (R (.bool (p0==246)) w) (ifB (p1==250) (R (.bool true) w) (R (.bool false) w)))
theorem zkd(p0)(p1)(R)(w)(h:ziD p0 p1 R w):Calls Tryz.prog 228 #[.int .u16 p0,.int .u16 p1] w (Ret R):=lwC ziQ Tryz.func228 (by kernel_rfl) (by kernel_rfl) h
def zek:Ann:=(.q (.q .nil))
def zec(p0:(Int×Int×Int×Sl×Unit))(R:VWP)(w:World):Prop:=Nw (w.alloc (.cells #[.int .u16 p0.1,.int .u32 p0.2.1,.int .u32 p0.2.2.1,.slice p0.2.2.2.1.a p0.2.2.2.1.l p0.2.2.2.1.c] 41)) λw1=>ldI w1 (blk w.heap.size) .u16 λx1=>ifB (x1==59) (ldS w1 ((blk w.heap.size).add 3) λx2=>ifB (decide ((x2.l:Int)>0)) (ldS w1 ((blk w.heap.size).add 3) λx3=>(0<=(0:Int)/\0<(x3.l:Int))/\zc x3.a λa4=>ldI w1 ((a4.add (0*3)).add 1) .u32 λx5=>R (.bool (x5==7)) w1) (R (.bool false) w1)) (R (.bool false) w1)
theorem zg0(p0)(R)(w)(h:zec p0 R w):Calls Tryz.prog 257 #[.agg #[.int .u16 p0.1,.int .u32 p0.2.1,.int .u32 p0.2.2.1,.slice p0.2.2.2.1.a p0.2.2.2.1.l p0.2.2.2.1.c]] w (Ret R):=lwC zek Tryz.func257 (by kernel_rfl) (by kernel_rfl) h
def zhM:Ann:=(.q (.q .nil))
def zhD(p0:Int)(R:VWP)(w:World):Prop:=ifB (decide (p0≥(249:Int))) (R (.bool (decide (p0<=(255:Int)))) w) (R (.bool false) w)
theorem zjq(p0)(R)(w)(h:zhD p0 R w):Calls Tryz.prog 258 #[.int .u16 p0] w (Ret R):=lwC zhM Tryz.func258 (by kernel_rfl) (by kernel_rfl) h
end Go.Proofs
