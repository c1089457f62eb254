/- FlowFirst, part 6; made small by a program. -/
import Derived.Test.YtgkgagmdkgdjdaaGreatProg
import Derived.Test.YtgkgagmdkgdjdaaGreatPFlowFirst5
namespace Go.Gk
end Go.Gk
namespace Go.Proofs
open Go.Gk Go.RowKit Go.Gr
def GP(w:World)(p:Option Addr)(nx:List (List Nat)):Prop:=(p=none/\nx=[])\/∃gb,p=some (blk gb)/\NxOk nx/\IsG w gb nx
theorem GP.below{w w':World}{p:Option Addr}{nx:List (List Nat)}(h:GP w p nx)(hb:Below w.heap.size w w'):GP w' p nx:=h.imp id λ⟨gb,h1,h2,h3⟩=>⟨gb,h1,h2,h3.below hb⟩
variable {w:World} {R:VWP} {p:Option Addr} {nx:List (List Nat)} {i:Int}
theorem GP.len(h:GP w p nx)(hR:R (.int .i64 (nx.length:Int)) w):cR 15 #[.pointer p] w R:=by
 rcases h with⟨rfl,rfl⟩ | ⟨gb,rfl,hx,hg⟩
 ·exact zc.of (YE none R w (zH rfl hR)) λ_ _ h=>h
 ·exact zgZ hg hR
theorem zmj(hR:R (.bool false) w):cR 40 #[.pointer none,.int .i64 i] w R:=by
 refine zc.of (zae none i R w ?_) λ_ _ h=>h
 refine zg (λh0=>GP.len (nx:=[]) (.inl ⟨rfl,rfl⟩) ⟨_,rfl,?_⟩) (λh0=>hR)
 have:decide (i<(([]:List (List Nat)).length:Int))=false:=by rw[decide_eq_false_iff_not];simp;omega
 dsimp only[zB,Go.Gk.Sl.zw,zi,zu,zb,zh];rw[this];exact hR
theorem zjK(i:Int):zfr [] i=[]:=by unfold zfr;split<;>simp
theorem GP.next(h:GP w p nx)(hR:∀r w',Own w' 3 1 r ((zfr nx i).map iN)->zA w.heap.size r->Below w.heap.size w w'->R (.slice r.a r.l r.c) w') :
  cR 63 #[.pointer p,.int .i64 i] w R:=by
 rcases h with⟨rfl,rfl⟩ | ⟨gb,rfl,hx,hg⟩
 ·refine zc.of (Yz none i R w (zmj ⟨_,rfl,zH rfl ?_⟩)) λ_ _ h=>h
  exact hR ⟨none,0,0⟩ w (by rw[zjK];exact Own.nil _ _ _) (λa ha=>by cases ha) (Below.refl _ _)
 ·exact zng hx hg hR
theorem GP.ahead(h:GP w p nx)(hR:∀r w',Own w' 3 1 r ((zfr (zD nx) i).map iN)->zA w.heap.size r->Below w.heap.size w w'->R (.slice r.a r.l r.c) w') :
  cR 17 #[.pointer p,.int .i64 i] w R:=by
 rcases h with⟨rfl,rfl⟩ | ⟨gb,rfl,hx,hg⟩
 ·refine zc.of (Yc none i R w (zmj ⟨_,rfl,zH rfl ?_⟩)) λ_ _ h=>h
  exact hR ⟨none,0,0⟩ w (by rw[show zD []=[] from rfl,zjK];exact Own.nil _ _ _) (λa ha=>by cases ha) (Below.refl _ _)
 ·exact zic hx hg hR
theorem zl3(i:Int):Z5 [] i=false:=by simp[Z5,yG,yo]
theorem GP.reached(h:GP w p nx)(hR:R (.bool (Z5 nx i)) w):cR 16 #[.pointer p,.int .i64 i] w R:=by
 rcases h with⟨rfl,rfl⟩ | ⟨gb,rfl,hx,hg⟩
 ·rw[zl3]at hR
  exact zc.of (ZA none i R w (zmj ⟨_,rfl,zz rfl hR⟩)) λ_ _ h=>h
 ·exact zjT hx hg hR
end Go.Proofs
namespace Go.Dm
inductive Anc (ov:Nat->Option Nat) (a:Nat):Nat->Prop
 |refl:Anc ov a a
 |step {x y:Nat}:ov x=some y->Anc ov a y->Anc ov a x
def PR(ov:Nat->Option Nat)(x:Nat):Prop:=x=0\/ov x≠none
structure Tr (rk:Nat->Nat) (ov:Nat->Option Nat):Prop where
 root:ov 0=none
 up:∀x y,ov x=some y->rk y<rk x/\PR ov y
section
variable {rk:Nat->Nat} {ov:Nat->Option Nat} {a b x y:Nat}
theorem Anc.inv(h:Anc ov a x):a=x\/∃y,ov x=some y/\Anc ov a y:=by
 cases h with
 |refl=>exact .inl rfl
 |step h1 h2=>exact .inr ⟨_,h1,h2⟩
theorem Anc.trans(h:Anc ov a b)(k:Anc ov b x):Anc ov a x:=by
 induction k with
 |refl=>exact h
 |step h1 _ ih=>exact .step h1 ih
theorem Anc.le(t:Tr rk ov)(h:Anc ov a x):a=x\/rk a<rk x:=by
 induction h with
 |refl=>exact .inl rfl
 |step h1 _ ih=>
  have:=(t.up _ _ h1).1
  rcases ih with rfl |ih
  ·exact .inr this
  ·exact .inr (by omega)
theorem Anc.anti(t:Tr rk ov)(h:Anc ov a x)(k:Anc ov x a):a=x:=by
 rcases h.le t with e |h
 ·exact e
 ·rcases k.le t with e |k
  ·exact e.symm
  ·omega
theorem Anc.pr(t:Tr rk ov)(h:Anc ov a x)(hx:PR ov x):PR ov a:=by
 induction h with
 |refl=>exact hx
 |step h1 _ ih=>exact ih (t.up _ _ h1).2
theorem Anc.none(hx:ov x=none)(h:Anc ov a x):a=x:=by
 rcases h.inv with e | ⟨y,hy,_⟩
 ·exact e
 ·rw[hx]at hy;cases hy
theorem Tr.zero(t:Tr rk ov):∀(n x:Nat),rk x<=n->PR ov x->Anc ov 0 x:=by
 intro n
 induction n with
 |zero=>
  intro x hn hx
  cases hx with
  |inl h=>subst h;exact .refl
  |inr h=>
   cases e:ov x with
   |none=>exact absurd e h
   |some y=>have:=(t.up x y e).1;omega
 |succ n ih=>
  intro x hn hx
  cases hx with
  |inl h=>subst h;exact .refl
  |inr h=>
   cases e:ov x with
   |none=>exact absurd e h
   |some y=>
    have:=t.up x y e
    exact .step e (ih y (by omega) this.2)
end
def ZN(ov:Nat->Option Nat)(ps:Nat->Prop)(m:Nat):Prop:=∀d,Anc ov d m↔∀p,ps p->Anc ov d p
def pt(ov:Nat->Option Nat)(k m:Nat):Nat->Option Nat:=λx=>if x=k then some m else ov x
theorem Y1(ov:Nat->Option Nat)(k m:Nat):pt ov k m k=some m:=by simp[pt]
theorem zaC{ov:Nat->Option Nat}{k m x:Nat}(h:x≠k):pt ov k m x=ov x:=by simp[pt,h]
structure IsA (ov0:Nat->Option Nat) (v x y:Nat):Prop where
 over:Anc ov0 y x
 c:Anc ov0 y v
 deep:∀d,Anc ov0 d x->Anc ov0 d v->Anc ov0 d y
structure Ph (rk:Nat->Nat) (E:Nat->Nat->Prop) (v:Nat) (ov0 ov:Nat->Option Nat):Prop where
 tr0:Tr rk ov0
 pv:PR ov0 v
 cons:∀k o,ov0 k=some o->ZN ov0 (λp=>E p k/\PR ov0 p/\p≠v) o
 st:∀x,ov x=ov0 x\/(¬Anc ov0 x v/\∃y o,ov x=some y/\ov0 x=some o/\y≠o/\IsA ov0 v x y/\∃p,E p x/\PR ov0 p/\¬Anc ov o p)
section
variable {rk:Nat->Nat} {E:Nat->Nat->Prop} {v:Nat} {ov0 ov:Nat->Option Nat}
theorem Ph.none_iff(h:Ph rk E v ov0 ov)(x:Nat):ov x=none↔ov0 x=none:=by
 rcases h.st x with e | ⟨_,y,o,h1,h2,_⟩
 ·rw[e]
 ·simp[h1,h2]
theorem Ph.pr(h:Ph rk E v ov0 ov)(x:Nat):PR ov x↔PR ov0 x:=by unfold PR;rw[Ne,Ne,h.none_iff]
theorem Ph.tr(h:Ph rk E v ov0 ov):Tr rk ov:=by
 refine⟨(h.none_iff 0).2 h.tr0.root,λx y hy=>?_⟩
 rcases h.st x with e | ⟨hc,z,o,h1,h2,hne,ha,_⟩
 ·rw[e]at hy
  have:=h.tr0.up x y hy
  exact⟨this.1,(h.pr y).2 this.2⟩
 ·rw[h1]at hy
  cases hy
  refine⟨?_,(h.pr y).2 (ha.over.pr h.tr0 (.inr (by rw[h2];simp)))⟩
  rcases ha.over.le h.tr0 with e |h'
  ·subst e;exact absurd ha.c hc
  ·exact h'
theorem Ph.old(h:Ph rk E v ov0 ov){d x:Nat}(ha:Anc ov d x):Anc ov0 d x:=by
 induction ha with
 |refl=>exact .refl
 |step h1 _ ih=>
  rename_i x y _
  rcases h.st x with e | ⟨_,z,o,g1,_,_,ga,_⟩
  ·exact .step (e▸h1) ih
  ·rw[g1]at h1
   cases h1
   exact ih.trans ga.over
theorem Ph.new(h:Ph rk E v ov0 ov):∀(n:Nat) {d x:Nat},rk x<=n->Anc ov0 d x->Anc ov0 d v->Anc ov d x:=by
 intro n
 induction n using Nat.strongRecOn with
 |_ n ih=>
  intro d x hn ha hc
  rcases ha.inv with rfl | ⟨y,hy,hay⟩
  ·exact .refl
  ·rcases h.st x with e | ⟨hcx,z,o,g1,g2,_,ga,_⟩
   ·have:=(h.tr0.up x y hy).1
    exact .step (e.trans hy) (ih (rk y) (by omega) (Nat.le_refl _) hay hc)
   ·have hlt:rk z<rk x:=by
     rcases ga.over.le h.tr0 with e |h'
     ·subst e;exact absurd ga.c hcx
     ·exact h'
    exact .step g1 (ih (rk z) (by omega) (Nat.le_refl _) (ga.deep d ha hc) hc)
theorem Ph.new'(h:Ph rk E v ov0 ov){d x:Nat}(ha:Anc ov0 d x)(hc:Anc ov0 d v):Anc ov d x:=h.new (rk x) (Nat.le_refl _) ha hc
theorem Ph.left(h:Ph rk E v ov0 ov):∀(n:Nat) {d x e:Nat},rk x<=n->Anc ov0 d x->¬Anc ov d x->Anc ov e x->Anc ov0 e d->Anc ov0 e v:=by
 intro n
 induction n using Nat.strongRecOn with
 |_ n ih=>
  intro d x e hn ha hna he hed
  have hex:e≠x:=by
   rintro rfl
   exact hna (by rw[Anc.anti h.tr0 ha hed];exact .refl)
  rcases ha.inv with rfl | ⟨y,hy,hay⟩
  ·exact absurd .refl hna
  rcases he.inv with rfl | ⟨z,hz,hez⟩
  ·exact absurd rfl hex
  rcases h.st x with e1 | ⟨hcx,z',o,g1,g2,_,ga,_⟩
  ·rw[e1,hy]at hz
   cases hz
   have:=(h.tr0.up x y hy).1
   exact ih (rk y) (by omega) (Nat.le_refl _) hay (λhh=>hna (.step (e1.trans hy) hh)) hez hed
  ·rw[g1]at hz
   cases hz
   exact(h.old hez).trans ga.c
theorem Ph.move(h:Ph rk E v ov0 ov){k c m:Nat}(hk:ov k=some c)(hm:ZN ov (λp=>E p k/\PR ov p) m)(hne:m≠c) :
  ov k=ov0 k/\Ph rk E v ov0 (pt ov k m)/\(∀d x,Anc ov0 d x->Anc ov0 d v->Anc ov d x)/\Anc ov m k:=by
 obtain⟨o,ho⟩:∃o,ov0 k=some o:=by
  cases e:ov0 k with
  |none=>rw[(h.none_iff k).2 e]at hk;cases hk
  |some o=>exact⟨o,rfl⟩
 have hcons:=h.cons k o ho
 have hmo:Anc ov0 m o:=(hcons m).2 λp hp=>h.old ((hm m).1 .refl p ⟨hp.1,(h.pr p).2 hp.2.1⟩)
 have hleft:(∀p,E p k->PR ov p->Anc ov o p)->m=o:=λhall=>by
  have:Anc ov o m:=(hm o).2 λp hp=>hall p hp.1 hp.2
  exact Anc.anti h.tr0 hmo (h.old this)
 have hex:∃p,E p k/\PR ov0 p/\¬Anc ov o p:=by
  refine Classical.byContradiction λhn=>?_
  have hall:∀p,E p k->PR ov p->Anc ov o p:=λp h1 h2=>Classical.byContradiction λh3=>hn ⟨p,h1,(h.pr p).1 h2,h3⟩
  have e:=hleft hall
  rcases h.st k with e1 | ⟨_,y,o',g1,g2,g3,g4,p,g5,g6,g7⟩
  ·rw[hk,ho]at e1
   cases e1
   exact hne e
  ·rw[ho]at g2
   cases g2
   exact g7 (hall p g5 ((h.pr p).2 g6))
 obtain⟨p,hp1,hp2,hp3⟩:=hex
 have hcm:Anc ov0 m v:=by
  have hmp:=(hm m).1 .refl p ⟨hp1,(h.pr p).2 hp2⟩
  by_cases e:p=v
  ·subst e;exact h.old hmp
  ·exact h.left (rk p) (Nat.le_refl _) ((hcons o).1 .refl p ⟨hp1,hp2,e⟩) hp3 hmp hmo
 have hnc:¬Anc ov0 k v:=λhc=>by
  have hco:Anc ov0 o v:=(Anc.step ho .refl:Anc ov0 o k).trans hc
  refine hp3 ?_
  by_cases e:p=v
  ·subst e;exact h.new' hco hco
  ·exact h.new' ((hcons o).1 .refl p ⟨hp1,hp2,e⟩) hco
 have hisA:IsA ov0 v k m:=by
  refine⟨hmo.trans (.step ho .refl),hcm,λd hd hdv=>?_⟩
  have hdo:Anc ov0 d o:=by
   rcases hd.inv with rfl | ⟨y,hy,hd⟩
   ·exact absurd hdv hnc
   ·rw[ho]at hy;cases hy;exact hd
  refine h.old ((hm d).2 λq hq=>?_)
  by_cases e:q=v
  ·subst e;exact h.new' hdv hdv
  ·exact h.new' ((hcons d).1 hdo q ⟨hq.1,(h.pr q).1 hq.2,e⟩) hdv
 have hmk:Anc ov m k:=h.new' hisA.over hcm
 have hun:ov k=ov0 k:=by
  rcases h.st k with e1 | ⟨_,y,o',g1,g2,g3,g4,_⟩
  ·exact e1
  ·exfalso
   rw[hk]at g1
   cases g1
   exact hne (Anc.anti h.tr0 (g4.deep m hisA.over hcm) (hisA.deep _ g4.over g4.c))
 have shr:∀{d x:Nat},Anc (pt ov k m) d x->Anc ov d x:=λha=>by
  induction ha with
  |refl=>exact .refl
  |step h1 _ ih=>
   rename_i x y _
   by_cases e:x=k
   ·subst e
    rw[Y1]at h1
    cases h1
    exact ih.trans hmk
   ·rw[zaC e]at h1
    exact .step h1 ih
 refine⟨hun,⟨h.tr0,h.pv,h.cons,λx=>?_⟩,λd x h1 h2=>h.new' h1 h2,hmk⟩
 by_cases e:x=k
 ·subst e
  refine .inr ⟨hnc,m,o,Y1 _ _ _,ho,?_,hisA,p,hp1,hp2,λha=>hp3 (shr ha)⟩
  rintro rfl
  rw[hun,ho]at hk
  cases hk
  exact hne rfl
 ·rw[zaC e]
  rcases h.st x with e1 | ⟨g0,y,o',g1,g2,g3,g4,p',g5,g6,g7⟩
  ·exact .inl e1
  ·exact .inr ⟨g0,y,o',g1,g2,g3,g4,p',g5,g6,λha=>g7 (shr ha)⟩
theorem Ph.start{k m:Nat}(t:Tr rk ov)(hc:∀x c,ov x=some c->ZN ov (λp=>E p x/\PR ov p) c)(hk:ov k=none)(hk0:k≠0)(hm:ZN ov (λp=>E p k/\PR ov p) m)(hpm:PR ov m)(hlt:rk m<rk k) :
  Ph rk E k (pt ov k m) (pt ov k m):=by
 have hnk:¬PR ov k:=λh=>h.elim hk0 (λh=>h hk)
 have hprI:∀{x},PR ov x->PR (pt ov k m) x:=λ{x} h=>by
  by_cases e:x=k
  ·subst e;exact .inr (by rw[Y1];simp)
  ·exact h.imp id λh=>by rw[zaC e];exact h
 have hprE:∀{x},PR (pt ov k m) x->x≠k->PR ov x:=λh e=>h.imp id λh=>by rw[zaC e]at h;exact h
 have hanc:∀{d x},PR ov x->(Anc (pt ov k m) d x↔Anc ov d x):=λ{d x} hx=>by
  constructor
  ·intro h
   induction h with
   |refl=>exact .refl
   |step h1 _ ih=>
    rename_i x y _
    have e:x≠k:=λe=>hnk (e▸hx)
    rw[zaC e]at h1
    exact .step h1 (ih (t.up _ _ h1).2)
  ·intro h
   induction h with
   |refl=>exact .refl
   |step h1 _ ih=>
    rename_i x y _
    have e:x≠k:=λe=>hnk (e▸hx)
    exact .step (by rw[zaC e];exact h1) (ih (t.up _ _ h1).2)
 refine⟨⟨by rw[zaC (Ne.symm hk0)];exact t.root,λx y hy=>?_⟩,.inr (by rw[Y1];simp),λx o ho d=>?_,λx=>.inl rfl⟩
 ·by_cases e:x=k
  ·subst e;rw[Y1]at hy;cases hy;exact⟨hlt,hprI hpm⟩
  ·rw[zaC e]at hy
   have:=t.up x y hy
   exact⟨this.1,hprI this.2⟩
 ·have key:∀o,PR ov o->ZN ov (λp=>E p x/\PR ov p) o->(Anc (pt ov k m) d o↔∀p,(E p x/\PR (pt ov k m) p/\p≠k)->Anc (pt ov k m) d p):=λo hpo hmo=>by
   rw[hanc hpo,hmo d]
   constructor
   ·intro hh p hp
    have:=hprE hp.2.1 hp.2.2
    exact(hanc this).2 (hh p ⟨hp.1,this⟩)
   ·intro hh p hp
    exact(hanc hp.2).1 (hh p ⟨hp.1,hprI hp.2,λe=>hnk (e▸hp.2)⟩)
  by_cases e:x=k
  ·subst e
   rw[Y1]at ho
   cases ho
   exact key m hpm hm
  ·rw[zaC e]at ho
   exact key o (t.up _ _ ho).2 (hc x o ho)
theorem Ph.empty(h0:∀x,ov x=none):Ph rk E 0 ov ov:=
 ⟨⟨h0 0,λx y h=>(by rw[h0]at h;cases h)⟩,.inl rfl,λk o h=>(by rw[h0]at h;cases h),λ_=>.inl rfl⟩
end
end Go.Dm
namespace Go.Dm
open Go.Gr
abbrev Ed(nx:List (List Nat))(p x:Nat):Prop:=x∈nx.getD p []
structure DI (nx:List (List Nat)) (rk:Nat->Nat) (ov:Nat->Option Nat):Prop where
 b:∀x y,ov x=some y->∀d:Nat,rk d<rk y->zO nx (d:Int) y->zO nx (d:Int) x
 dom:∀x,PR ov x->∀d:Nat,d≠x->¬zO nx (d:Int) x->Anc ov d x
section
variable {nx:List (List Nat)} {rk:Nat->Nat} {ov:Nat->Option Nat}
theorem DI.down(h:DI nx rk ov)(t:Tr rk ov){y x d:Nat}(ha:Anc ov y x)(hd:rk d<rk y)(hr:zO nx (d:Int) y):zO nx (d:Int) x:=by
 induction ha with
 |refl=>exact hr
 |step h1 h2 ih=>
  refine h.b _ _ h1 d ?_ ih
  rcases h2.le t with e |e
  ·subst e;exact hd
  ·omega
theorem DI.empty(h0:∀x,ov x=none)(hn:0<nx.length):DI nx rk ov:=by
 refine⟨λx y h=>(by rw[h0]at h;cases h),λx hx d hd hr=>?_⟩
 rcases hx with rfl |hx
 ·exact absurd (.zero (by omega) hn) hr
 ·exact absurd (h0 x) hx
theorem DI.pt(h:DI nx rk ov)(t:Tr rk ov){k m:Nat}(hm:ZN ov (λp=>Ed nx p k/\PR ov p) m)(hex:∃p,Ed nx p k/\PR ov p)(hlt:rk m<rk k):DI nx rk (pt ov k m):=by
 have keepm:∀{d z},rk z<rk k->Anc ov d z->Anc (Dm.pt ov k m) d z:=λhz ha=>by
  induction ha with
  |refl=>exact .refl
  |step h1 _ ih=>
   rename_i x y _
   have e:x≠k:=by rintro rfl;omega
   have:=(t.up x y h1).1
   exact .step (by rw[zaC e];exact h1) (ih (by omega))
 have atk:∀d:Nat,d≠k->¬zO nx (d:Int) k->Anc (Dm.pt ov k m) d k:=λd hd hr=>by
  refine .step (Y1 _ _ _) (keepm hlt ((hm d).2 λp hp=>?_))
  by_cases e:d=p
  ·subst e;exact .refl
  ·exact h.dom p hp.2 d e λhw=>hr (.step hw hp.1 (by omega))
 have move:∀{d x},Anc ov d x->¬zO nx (d:Int) x->Anc (Dm.pt ov k m) d x:=λha=>by
  induction ha with
  |refl=>exact λ_=>.refl
  |step h1 h2 ih=>
   rename_i d _ x y
   intro hr
   by_cases e:x=k
   ·subst e
    by_cases ed:d=x
    ·subst ed;exact .refl
    ·exact atk d ed hr
   ·refine .step (by rw[zaC e];exact h1) ?_
    rcases h2.le t with ed |ed
    ·subst ed;exact .refl
    ·exact ih λhw=>hr (h.b _ _ h1 d ed hw)
 refine⟨λx y hy d hd hr=>?_,λx hx d hd hr=>?_⟩
 ·by_cases e:x=k
  ·subst e
   rw[Y1]at hy
   cases hy
   obtain⟨p,hp⟩:=hex
   exact .step (h.down t ((hm m).1 .refl p hp) hd hr) hp.1 (λe=>by
    have e:x=d:=by omega
    subst e
    omega)
  ·rw[zaC e]at hy
   exact h.b x y hy d hd hr
 ·by_cases e:x=k
  ·subst e;exact atk d hd hr
  ·exact move (h.dom x (hx.imp id λh=>by rw[zaC e]at h;exact h) d hd hr) hr
theorem DI.iff(h:DI nx rk ov)(t:Tr rk ov)(hpr:∀x,zO nx (-1) x->PR ov x)(hfix:∀x c,ov x=some c->ZN ov (λp=>Ed nx p x/\PR ov p) c){d x:Nat}(hx:zO nx (-1) x) :
  Anc ov d x↔d=x\/¬zO nx (d:Int) x:=by
 constructor
 ·intro ha
  refine Classical.or_iff_not_imp_left.2 λhne hw=>?_
  have all:∀{wo:Int} {z:Nat},zO nx wo z->wo=(d:Int)->zO nx (-1) z:=λ{wo z} hz=>by
   induction hz with
   |zero _ h2=>exact λ_=>.zero (by decide) h2
   |step _ ht _ ih=>exact λe=>.step (ih e) ht (by omega)
  have key:∀{wo:Int} {z:Nat},zO nx wo z->wo=(d:Int)->d≠z->¬Anc ov d z:=λ{wo z} hz=>by
   induction hz with
   |zero h1 h2=>exact λe hdz ha=>hdz (ha.none t.root)
   |step hi ht hw ih=>
    rename_i i u
    intro e hdu ha
    rcases ha.inv with e' | ⟨c,hc,ha⟩
    ·exact hdu e'
    ·have hdi:d≠i:=by
      rintro rfl
      cases hi with
      |zero h1 h2=>exact h1 (by omega)
      |step _ _ h3=>exact h3 (by omega)
     exact ih e hdi ((hfix u c hc d).1 ha i ⟨ht,hpr i (all hi e)⟩)
  exact key hw rfl hne ha
 ·rintro(rfl |hw)
  ·exact .refl
  ·by_cases e:d=x
   ·subst e;exact .refl
   ·exact h.dom x (hpr x hx) d e hw
end
theorem countP_lt{p q:Nat->Bool}:∀{l:List Nat},(∀x,p x=true->q x=true)->(∃x∈l,q x=true/\p x=false)->l.countP p<l.countP q
 | [],_,⟨_,h,_⟩=>by cases h
 |y::r,hpq,⟨x,hx,h1,h2⟩=>by
  have hle:r.countP p<=r.countP q:=List.countP_mono_left λx _ h=>hpq x h
  rcases List.mem_cons.1 hx with rfl |hx
  ·rw[List.countP_cons_of_neg (by simp[h2]),List.countP_cons_of_pos h1]
   omega
  ·have:=countP_lt hpq ⟨x,hx,h1,h2⟩
   by_cases hp:p y=true
   ·rw[List.countP_cons_of_pos hp,List.countP_cons_of_pos (hpq y hp)]
    omega
   ·rw[List.countP_cons_of_neg hp]
    by_cases hq:q y=true
    ·rw[List.countP_cons_of_pos hq];omega
    ·rw[List.countP_cons_of_neg hq];exact this
def rkOf(od:List Nat)(x:Nat):Nat:=od.idxOf x
structure SS (nx:List (List Nat)) (od:List Nat) (ov:Nat->Option Nat) (j:Nat):Prop where
 di:DI nx (rkOf od) ov
 ph:∃v ov0 K,Ph (rkOf od) (Ed nx) v ov0 ov/\1<=K/\K<=od.length/\(∀x,PR ov x↔x∈od.take K)/\j=(od.length-K)*(od.length+1)+od.countP λx=>decide (ov x=ov0 x)
structure OdOk (nx:List (List Nat)) (od:List Nat):Prop where
 head:∃l,od=0::l
 nodup:od.Nodup
 par:∀k (hk:k<od.length),0<k->∃j,∃hj:j<k,od[k]∈nx.getD (od[j]'(by omega)) []
section
variable {nx:List (List Nat)} {od:List Nat} {ov:Nat->Option Nat} {j:Nat}
theorem ZK(h:od.Nodup){k:Nat}(hk:k<od.length):rkOf od od[k]=k:=List.Nodup.idxOf_getElem h k hk
theorem SS.tr(h:SS nx od ov j):Tr (rkOf od) ov:=let⟨_,_,_,h1,_⟩:=h.ph;h1.tr
theorem SS.start(ok:OdOk nx od)(hn:0<nx.length)(h0:∀x,ov x=none):∃j,SS nx od ov j:=by
 obtain⟨l,hl⟩:=ok.head
 refine⟨_,.empty h0 hn,0,ov,1,.empty h0,Nat.le_refl _,by rw[hl];simp,λx=>?_,rfl⟩
 rw[hl]
 simp[PR,h0]
theorem SS.next(ok:OdOk nx od)(h:SS nx od ov j){i m:Nat}(hi:i<od.length)(h0:od[i]≠0)
  (hpre:∀k (hk:k<i),od[k]≠0->∃c,ov od[k]=some c/\ZN ov (λp=>Ed nx p od[k]/\PR ov p) c)
  (hm:ZN ov (λp=>Ed nx p od[i]/\PR ov p) m) (hpm:PR ov m) (hne:ov od[i]≠some m):∃j',j'<j/\SS nx od (pt ov od[i] m) j':=by
 obtain⟨hdi,v,ov0,K,hph,hK1,hK,hpr,rfl⟩:=h
 have t:=hph.tr
 have hi0:0<i:=by
  obtain⟨l,hl⟩:=ok.head
  rcases Nat.eq_zero_or_pos i with e |e
  ·subst e;exact absurd (by simp[hl]) h0
  ·exact e
 have hprei:∀k (hk:k<i),PR ov od[k]:=λk hk=>by
  by_cases e:od[k]=0
  ·exact .inl e
  ·obtain⟨c,hc,_⟩:=hpre k hk e
   exact .inr (by rw[hc];simp)
 obtain⟨q,hq,hqe⟩:=ok.par i hi hi0
 have hex:∃p,Ed nx p od[i]/\PR ov p:=⟨_,hqe,hprei q hq⟩
 have hlt:rkOf od m<rkOf od od[i]:=by
  rw[ZK ok.nodup hi]
  have ha:=(hm m).1 .refl _ ⟨hqe,hprei q hq⟩
  rcases ha.le t with e |e
  ·rw[e,ZK ok.nodup];exact hq
  ·rw[ZK ok.nodup]at e;omega
 have hdi':=hdi.pt t hm hex hlt
 have memtake:∀k (hk:k<od.length),od[k]∈od.take K↔k<K:=λk hk=>by
  constructor
  ·intro hh
   obtain⟨k',hk',e⟩:=List.mem_iff_getElem.1 hh
   rw[List.getElem_take]at e
   have h1:=ZK ok.nodup hk
   have h2:=ZK ok.nodup (k:=k') (by rw[List.length_take]at hk';omega)
   rw[e,h1]at h2
   rw[List.length_take]at hk'
   omega
  ·intro hh
   exact List.mem_iff_getElem.2 ⟨k,by rw[List.length_take];omega,by simp⟩
 have hmul:(od.length-K)*(od.length+1)=(od.length-K)*od.length+(od.length-K):=Nat.mul_succ _ _
 by_cases hiK:i<K
 ·
  have hpi:PR ov od[i]:=(hpr _).2 ((memtake i hi).2 hiK)
  obtain⟨c,hc⟩:∃c,ov od[i]=some c:=by
   rcases hpi with e |e
   ·exact absurd e h0
   ·cases e':ov od[i] with
    |none=>exact absurd e' e
    |some c=>exact⟨c,rfl⟩
  obtain⟨g1,g2,_,_⟩:=hph.move hc hm (λe=>hne (by rw[hc,e]))
  refine⟨_,?_,hdi',v,ov0,K,g2,hK1,hK,λx=>?_,rfl⟩
  ·refine Nat.add_lt_add_left (countP_lt (λx hx=>?_) ⟨od[i],List.getElem_mem hi,by simp[g1],?_⟩) _
   ·by_cases e:x=od[i]
    ·subst e
     simp[g1]
    ·simpa[zaC e] using hx
   ·rw[Y1,decide_eq_false_iff_not,<-g1]
    exact λe=>hne e.symm
  ·rw[<-hpr x]
   unfold PR
   by_cases e:x=od[i]
   ·subst e;rw[Y1,hc];simp
   ·rw[zaC e]
 ·
  have hiK':i=K:=by
   have:¬K<i:=λhKi=>by
    have:=(memtake K (by omega)).1 ((hpr _).1 (hprei K hKi))
    omega
   omega
  have hnone:ov od[i]=none:=by
   have:¬PR ov od[i]:=λhh=>hiK ((memtake i hi).1 ((hpr _).1 hh))
   cases e:ov od[i] with
   |none=>rfl
   |some c=>exact absurd (.inr (by rw[e];simp)) this
  have hall:∀x c,ov x=some c->ZN ov (λp=>Ed nx p x/\PR ov p) c:=λx c hc=>by
   obtain⟨k,hk,e⟩:=List.mem_iff_getElem.1 ((hpr x).1 (.inr (by rw[hc];simp)))
   rw[List.getElem_take]at e
   rw[List.length_take]at hk
   have hx0:x≠0:=by rintro rfl;rw[t.root]at hc;cases hc
   obtain⟨c',hc',hm'⟩:=hpre k (by omega) (by rw[e];exact hx0)
   simp only[e]at hc' hm'
   rw[hc]at hc'
   cases hc'
   exact hm'
  refine⟨_,?_,hdi',od[i],pt ov od[i] m,K+1,Ph.start t hall hnone h0 hm hpm hlt,by omega,by omega,λx=>?_,rfl⟩
  ·have hcl:od.countP (λx=>decide (pt ov od[i] m x=pt ov od[i] m x))<=od.length:=List.countP_le_length
   have h2:(od.length-K)*(od.length+1)=(od.length-(K+1))*(od.length+1)+(od.length+1):=by
    rw[show od.length-K=od.length-(K+1)+1 by omega,Nat.succ_mul]
   omega
  ·have e1:od.take (K+1)=od.take K++[od[i]]:=by
    subst hiK'
    exact List.take_succ_eq_append_getElem hi
   rw[e1,List.mem_append,List.mem_singleton,<-hpr x]
   unfold PR
   by_cases e:x=od[i]
   ·subst e;rw[Y1];simp
   ·rw[zaC e];simp[e]
end
end Go.Dm
namespace Go.Proofs
open Go.Gk
set_option linter.unusedVariables false
set_option maxRecDepth 100000
end Go.Proofs
namespace Go.Proofs
open Go.Gk Go.RowKit Go.Gr
end Go.Proofs
namespace Go.Proofs
open Go.Gk Go.RowKit Go.Gr Go.Dm
def ovI:Option Nat->Int
 |none=>-1
 |some y=>(y:Int)
def natL(n:Nat)(f:Nat->Int):List Value:=(List.range n).map λi=>.int .i64 (f i)
theorem zg2{n i:Nat}{f:Nat->Int}(hi:i<n):(natL n f)[i]? =some (.int .i64 (f i)):=by simp[natL,hi]
theorem ziJ{n i:Nat}{f:Nat->Int}(v:Int):(natL n f).set i (.int .i64 v)=natL n λj=>if j=i then v else f j:=by
 apply List.ext_getElem
 ·simp[natL]
 ·intro j h1 h2
  rw[List.getElem_set]
  by_cases e:i=j
  ·subst e;simp[natL]
  ·rw[if_neg e];simp[natL,Ne.symm e]
theorem zcT{n:Nat}{f g:Nat->Int}(h:∀i,i<n->f i=g i):natL n f=natL n g:=List.map_congr_left λi hi=>by rw[h i (List.mem_range.1 hi)]
theorem zf8(n:Nat)(v:Int):natL n (λ_=>v)=List.replicate n (.int .i64 v):=by
 apply List.ext_getElem<;>simp[natL]
structure TB (w:World) (tb gb ob db rb n:Nat) (o d r:Nat->Int):Prop where
 t:Blk w tb 168 [.pointer (some (Gk.blk gb)),.slice (some (Gk.blk ob)) n n,.slice (some (Gk.blk db)) n n,.slice (some (Gk.blk rb)) n n]
 o:Blk w ob 3 (natL n o)
 d:Blk w db 3 (natL n d)
 r:Blk w rb 3 (natL n r)
 ne:ob≠db/\ob≠rb/\db≠rb
section
variable {w w':World} {tb gb ob db rb n:Nat} {o d r:Nat->Int}
theorem TB.below(h:TB w tb gb ob db rb n o d r)(hb:Below w.heap.size w w'):TB w' tb gb ob db rb n o d r:=⟨h.t.below hb,h.o.below hb,h.d.below hb,h.r.below hb,h.ne⟩
theorem TB.of_o{o':Nat->Int}(h:TB w tb gb ob db rb n o d r)(he:∀i,i<n->o i=o' i):TB w tb gb ob db rb n o' d r:=⟨h.t,zcT he▸h.o,h.d,h.r,h.ne⟩
theorem TB.setO(h:TB w tb gb ob db rb n o d r)(i:Nat)(v:Int):TB (w.setCell ((Gk.blk ob).add i) (.int .i64 v)) tb gb ob db rb n (λj=>if j=i then v else o j) d r:=by
 obtain⟨n1,n2,n3⟩:=h.ne
 exact⟨h.t.other (by rw[zp];exact h.t.apart h.o (by decide)) _,ziJ (f:=o) v▸h.o.set i _,h.d.other (by rw[zp];exact n1.symm) _,h.r.other (by rw[zp];exact n2.symm) _,h.ne⟩
theorem TB.setD(h:TB w tb gb ob db rb n o d r)(i:Nat)(v:Int):TB (w.setCell ((Gk.blk db).add i) (.int .i64 v)) tb gb ob db rb n o (λj=>if j=i then v else d j) r:=by
 obtain⟨n1,n2,n3⟩:=h.ne
 exact⟨h.t.other (by rw[zp];exact h.t.apart h.d (by decide)) _,h.o.other (by rw[zp];exact n1) _,ziJ (f:=d) v▸h.d.set i _,h.r.other (by rw[zp];exact n3.symm) _,h.ne⟩
theorem TB.setR(h:TB w tb gb ob db rb n o d r)(i:Nat)(v:Int):TB (w.setCell ((Gk.blk rb).add i) (.int .i64 v)) tb gb ob db rb n o d (λj=>if j=i then v else r j):=by
 obtain⟨n1,n2,n3⟩:=h.ne
 exact⟨h.t.other (by rw[zp];exact h.t.apart h.r (by decide)) _,h.o.other (by rw[zp];exact n2) _,h.d.other (by rw[zp];exact n3) _,ziJ (f:=r) v▸h.r.set i _,h.ne⟩
theorem TB.getO(h:TB w tb gb ob db rb n o d r){i:Nat}(hi:i<n){φ:Int->Prop}(hφ:φ (o i)) :
  za (some (Gk.blk tb)) λa=>ldS w (a.add 1) λx=>(0<=(i:Int)/\(i:Int)<(x.l:Int))/\za x.a λa'=>ldI w (a'.add (Int.toNat (i:Int))) .i64 φ:=
 ⟨⟨_,n,n⟩,h.t.cell (n:=1) rfl,⟨by omega,by first |omega | (dsimp only;omega)⟩,ze rfl ⟨_,h.o.cell (zg2 hi),hφ⟩⟩
theorem TB.getD(h:TB w tb gb ob db rb n o d r){i:Nat}(hi:i<n){φ:Int->Prop}(hφ:φ (d i)) :
  za (some (Gk.blk tb)) λa=>ldS w (a.add 2) λx=>(0<=(i:Int)/\(i:Int)<(x.l:Int))/\za x.a λa'=>ldI w (a'.add (Int.toNat (i:Int))) .i64 φ:=
 ⟨⟨_,n,n⟩,h.t.cell (n:=2) rfl,⟨by omega,by first |omega | (dsimp only;omega)⟩,ze rfl ⟨_,h.d.cell (zg2 hi),hφ⟩⟩
theorem TB.getR(h:TB w tb gb ob db rb n o d r){i:Nat}(hi:i<n){φ:Int->Prop}(hφ:φ (r i)) :
  za (some (Gk.blk tb)) λa=>ldS w (a.add 3) λx=>(0<=(i:Int)/\(i:Int)<(x.l:Int))/\za x.a λa'=>ldI w (a'.add (Int.toNat (i:Int))) .i64 φ:=
 ⟨⟨_,n,n⟩,h.t.cell (n:=3) rfl,⟨by omega,by first |omega | (dsimp only;omega)⟩,ze rfl ⟨_,h.r.cell (zg2 hi),hφ⟩⟩
theorem TB.putO(h:TB w tb gb ob db rb n o d r){i:Nat}(hi:i<n){v:Int}{K:World->Prop}(hK:K (w.setCell ((Gk.blk ob).add i) (.int .i64 v))) :
  za (some (Gk.blk tb)) λa=>ldS w (a.add 1) λx=>(0<=(i:Int)/\(i:Int)<(x.l:Int))/\za x.a λa'=>Wr w (a'.add (Int.toNat (i:Int)))/\Nw (w.setCell (a'.add (Int.toNat (i:Int))) (.int .i64 v)) K:=
 ⟨⟨_,n,n⟩,h.t.cell (n:=1) rfl,⟨by omega,by first |omega | (dsimp only;omega)⟩,ze rfl ⟨h.o.wr (by simpa[natL] using hi),Nw.mk hK⟩⟩
theorem TB.putD(h:TB w tb gb ob db rb n o d r){i:Nat}(hi:i<n){v:Int}{K:World->Prop}(hK:K (w.setCell ((Gk.blk db).add i) (.int .i64 v))) :
  za (some (Gk.blk tb)) λa=>ldS w (a.add 2) λx=>(0<=(i:Int)/\(i:Int)<(x.l:Int))/\za x.a λa'=>Wr w (a'.add (Int.toNat (i:Int)))/\Nw (w.setCell (a'.add (Int.toNat (i:Int))) (.int .i64 v)) K:=
 ⟨⟨_,n,n⟩,h.t.cell (n:=2) rfl,⟨by omega,by first |omega | (dsimp only;omega)⟩,ze rfl ⟨h.d.wr (by simpa[natL] using hi),Nw.mk hK⟩⟩
theorem TB.putR(h:TB w tb gb ob db rb n o d r){i:Nat}(hi:i<n){v:Int}{K:World->Prop}(hK:K (w.setCell ((Gk.blk rb).add i) (.int .i64 v))) :
  za (some (Gk.blk tb)) λa=>ldS w (a.add 3) λx=>(0<=(i:Int)/\(i:Int)<(x.l:Int))/\za x.a λa'=>Wr w (a'.add (Int.toNat (i:Int)))/\Nw (w.setCell (a'.add (Int.toNat (i:Int))) (.int .i64 v)) K:=
 ⟨⟨_,n,n⟩,h.t.cell (n:=3) rfl,⟨by omega,by first |omega | (dsimp only;omega)⟩,ze rfl ⟨h.r.wr (by simpa[natL] using hi),Nw.mk hK⟩⟩
end
def rkI(od:List Nat)(i:Nat):Int:=if i∈od then(rkOf od i:Int) else 0
theorem zmX{od:List Nat}{i:Nat}(h:i∈od):rkI od i=(rkOf od i:Int):=by simp[rkI,h]
theorem zqQ{od:List Nat}{a b:Nat}(ha:a∈od)(hb:b∈od)(h:rkOf od a=rkOf od b):a=b:=by
 have h1:=List.idxOf_lt_length_of_mem ha
 have h2:=List.idxOf_lt_length_of_mem hb
 have e1:od[od.idxOf a]=a:=List.getElem_idxOf h1
 have e2:od[od.idxOf b]=b:=List.getElem_idxOf h2
 unfold rkOf at h
 rw[<-e1,<-e2]
 simp only[h]
theorem znC{tb gb ob db rb n:Nat}{d:Nat->Int}{ov:Nat->Option Nat}{od:List Nat}(t:Tr (rkOf od) ov)(hpo:∀x,PR ov x->x∈od)(hlt:∀x∈od,x<n){a b:Nat}{w:World}{R:VWP}
  (h:TB w tb gb ob db rb n (λi=>ovI (ov i)) d (rkI od)) (ha:PR ov a) (hb:PR ov b)
  (hR:∀c w',Below w.heap.size w w'->PR ov c->(∀e,Anc ov e c↔Anc ov e a/\Anc ov e b)->R (.int .i64 (c:Int)) w') :
  cR 123 #[.pointer (some (Gk.blk tb)),.int .i64 (a:Int),.int .i64 (b:Int)] w R:=by
 refine zc.of (zeF _ _ _ R w ?_) λ_ _ h=>h
 refine zj.ghost (λj s w'=>∃x y:Nat,j=rkOf od x+rkOf od y/\s=((x:Int),(y:Int),())/\PR ov x/\PR ov y/\(∀e,Anc ov e x/\Anc ov e y↔Anc ov e a/\Anc ov e b)/\Below w.heap.size w w') _ ⟨a,b,rfl,rfl,ha,hb,λ_=>Iff.rfl,Below.refl _ _⟩ ?_
 rintro _ _ w' ⟨x,y,rfl,rfl,hx,hy,hxy,hbw⟩ next hnext
 refine zE (λhne=>?_) (λhe=>?_)
 ·have hne:x≠y:=by rintro rfl;exact hne rfl
  have h':=h.below hbw.drew
  have mx:=hpo x hx
  have my:=hpo y hy
  refine zk.cut (λs w2=>w2=w'.drew/\∃p q:Nat,s=((p:Int),(q:Int),())/\((p=x/\q=y)\/(p=y/\q=x))/\rkOf od q<rkOf od p) ?_ ?_
  ·dsimp only
   refine h'.getR (hlt x mx) (h'.getR (hlt y my) ?_)
   rw[zmX mx,zmX my]
   refine zg (λhl=>⟨rfl,y,x,rfl,.inr ⟨rfl,rfl⟩,by omega⟩) (λhl=>⟨rfl,x,y,rfl,.inl ⟨rfl,rfl⟩,?_⟩)
   have:rkOf od x≠rkOf od y:=λe=>hne (zqQ mx my e)
   omega
  ·rintro _ _ ⟨rfl,p,q,rfl,hpq,hrk⟩
   have hp:PR ov p:=by rcases hpq with⟨rfl,_⟩ | ⟨rfl,_⟩<;>assumption
   have hq:PR ov q:=by rcases hpq with⟨_,rfl⟩ | ⟨_,rfl⟩<;>assumption
   have hsum:rkOf od x+rkOf od y=rkOf od p+rkOf od q:=by rcases hpq with⟨rfl,rfl⟩ | ⟨rfl,rfl⟩<;>omega
   obtain⟨z,hz⟩:∃z,ov p=some z:=by
    cases e:ov p with
    |some z=>exact⟨z,rfl⟩
    |none=>
     rcases hp with rfl |hp
     ·have hz:=t.zero _ q (Nat.le_refl _) hq
      rcases hz.le t with e |e
      ·subst e;omega
      ·omega
     ·exact absurd e hp
   have hzt:=t.up p z hz
   dsimp only
   refine h'.getO (hlt p (hpo p hp)) ?_
   rw[hz]
   refine hnext (rkOf od z+rkOf od q) _ _ (by omega) ⟨z,q,rfl,rfl,hzt.2,hq,λe=>?_,hbw.drew⟩
   rw[<-hxy e]
   have:(Anc ov e x/\Anc ov e y)↔(Anc ov e p/\Anc ov e q):=by
    rcases hpq with⟨rfl,rfl⟩ | ⟨rfl,rfl⟩
    ·exact Iff.rfl
    ·exact And.comm
   rw[this]
   constructor
   ·rintro⟨h1,h2⟩;exact⟨.step hz h1,h2⟩
   ·rintro⟨h1,h2⟩
    refine⟨?_,h2⟩
    rcases h1.inv with rfl | ⟨z',hz',h1⟩
    ·rcases h2.le t with e |e
     ·subst e;omega
     ·omega
    ·rw[hz]at hz';cases hz';exact h1
 ·have he:x=y:=by exact Int.ofNat.inj he
  subst he
  exact hR x w' hbw hx λe=>by rw[<-hxy e];exact⟨λh=>⟨h,h⟩,λh=>h.1⟩
end Go.Proofs
namespace Go.Proofs
open Go.Gk Go.RowKit Go.Gr Go.Dm
theorem zg6{o:Option Nat}:ovI o=-1↔o=none:=by
 cases o with
 |none=>simp[ovI]
 |some y=>simp[ovI]
theorem zqN(ov:Nat->Option Nat)(k m:Nat)(j:Nat):(if j=k then(m:Int) else ovI (ov j))=ovI (pt ov k m j):=by
 unfold pt
 split<;>rfl
structure zjV (nx:List (List Nat)) (od:List Nat) (ov:Nat->Option Nat):Prop where
 tr:Tr (rkOf od) ov
 di:DI nx (rkOf od) ov
 pr:∀x,PR ov x↔x∈od
 fix:∀x c,ov x=some c->ZN ov (λp=>Ed nx p x/\PR ov p) c
def Fo(ov:Nat->Option Nat)(l:List Nat)(o:Int):Prop:=
 (o=-1/\∀p∈l,¬PR ov p)\/∃m:Nat,o=(m:Int)/\PR ov m/\(∃p∈l,PR ov p)/\ZN ov (λp=>p∈l/\PR ov p) m
theorem Fo.skip{ov:Nat->Option Nat}{l:List Nat}{o:Int}{p:Nat}(h:Fo ov l o)(hp:¬PR ov p):Fo ov (l++[p]) o:=by
 rcases h with⟨rfl,h⟩ | ⟨m,rfl,h1,⟨q,hq,hq'⟩,h3⟩
 ·exact .inl ⟨rfl,λq hq=>by
   rcases List.mem_append.1 hq with hq |hq
   ·exact h q hq
   ·simp at hq;subst hq;exact hp⟩
 ·refine .inr ⟨m,rfl,h1,⟨q,by simp[hq],hq'⟩,λd=>?_⟩
  rw[h3 d]
  constructor
  ·rintro hh q ⟨hq,hqp⟩
   rcases List.mem_append.1 hq with hq |hq
   ·exact hh q ⟨hq,hqp⟩
   ·simp at hq;subst hq;exact absurd hqp hp
  ·exact λhh q hq=>hh q ⟨by simp[hq.1],hq.2⟩
theorem Fo.first{ov:Nat->Option Nat}{l:List Nat}{p:Nat}(h:Fo ov l (-1))(hp:PR ov p):Fo ov (l++[p]) (p:Int):=by
 rcases h with⟨_,h⟩ | ⟨m,e,_⟩
 ·refine .inr ⟨p,rfl,hp,⟨p,by simp,hp⟩,λd=>⟨?_,λhh=>hh p ⟨by simp,hp⟩⟩⟩
  rintro hd q ⟨hq,hqp⟩
  rcases List.mem_append.1 hq with hq |hq
  ·exact absurd hqp (h q hq)
  ·simp at hq;subst hq;exact hd
 ·omega
theorem Fo.more{ov:Nat->Option Nat}{l:List Nat}{o:Nat}{p c:Nat}(h:Fo ov l (o:Int))(hp:PR ov p)(hc:PR ov c)(hm:∀e,Anc ov e c↔Anc ov e o/\Anc ov e p):Fo ov (l++[p]) (c:Int):=by
 rcases h with⟨e,_⟩ | ⟨m,e,h1,⟨q,hq,hq'⟩,h3⟩
 ·omega
 ·have e:o=m:=by omega
  subst e
  refine .inr ⟨c,rfl,hc,⟨p,by simp,hp⟩,λd=>?_⟩
  rw[hm d,h3 d]
  constructor
  ·rintro⟨hh,hd⟩ q ⟨hq,hqp⟩
   rcases List.mem_append.1 hq with hq |hq
   ·exact hh q ⟨hq,hqp⟩
   ·simp at hq;subst hq;exact hd
  ·exact λhh=>⟨λq hq=>hh q ⟨by simp[hq.1],hq.2⟩,hh p ⟨by simp,hp⟩⟩
set_option maxHeartbeats 4000000 in
theorem zl8{nx:List (List Nat)}(hx:NxOk nx){tb gb ob db rb B:Nat}{d:Nat->Int}{od:List Nat}(ok:OdOk nx od)(hod:∀x∈od,x<nx.length){p1:Sl}{w0 w:World}{R:VWP}
  (hG:IsG w0 gb nx) (hB:B=w0.heap.size) (hob:B<=ob) (hb0:Below B w0 w) (h:TB w tb gb ob db rb nx.length (λ_=>-1) d (rkI od)) (hp1:Own w 3 1 p1 (od.map iN)) (hp2:∀a,p1.a=some a->a.block≠ob)
  (hR:∀w' ov,Below B w0 w'->w.heap.size<=w'.heap.size->(∀k,k<w.heap.size->k≠ob->w'.heap[k]? =w.heap[k]?)->TB w' tb gb ob db rb nx.length (λi=>ovI (ov i)) d (rkI od)->zjV nx od ov->R (.tuple #[]) w') :
  cR 95 #[.pointer (some (Gk.blk tb)),.slice p1.a p1.l p1.c] w R:=by
 refine zc.of (zd9 _ p1 R w ?_) λ_ _ h=>h
 unfold Yl
 have hpl:=zcU hp1
 have hmax:=hx.max
 have hodl:od.length<=nx.length:=ZJ ok.nodup hod
 obtain⟨j0,hs0⟩:=SS.start (od:=od) (ov:=λ_=>none) ok hx.pos (λ_=>rfl)
 let St:(Nat->Option Nat)->World->Prop:=λov w'=>Below B w0 w'/\w.heap.size<=w'.heap.size/\(∀k,k<w.heap.size->k≠ob->w'.heap[k]? =w.heap[k]?)/\TB w' tb gb ob db rb nx.length (λi=>ovI (ov i)) d (rkI od)/\Own w' 3 1 p1 (od.map iN)
 have hBw:B<=w.heap.size:=by rw[hB];rw[hB]at hb0;exact hb0.size
 have grow:∀{ov w1 w2},St ov w1->Below w1.heap.size w1 w2->St ov w2:=λ{ov w1 w2} h hb=>by
  obtain⟨h1,h2,h3,h4,h5⟩:=h
  exact⟨h1.trans (hb.mono (by omega)),by have:=hb.size;omega,λk hk hne=>(hb.block k (by omega)).trans (h3 k hk hne),h4.below hb,h5.below hb⟩
 refine zj.ghost (λj _ w'=>∃ov,SS nx od ov j/\St ov w') j0 ⟨_,hs0,hb0,Nat.le_refl _,λ_ _ _=>rfl,h,hp1⟩ ?_
 rintro j _ w1 ⟨ov,hs,hst⟩ nextR hnextR
 have t:=hs.tr
 have hpo:∀x,PR ov x->x∈od:=λx hxp=>by
  obtain⟨v,ov0,K,_,_,_,hpr,_⟩:=hs.ph
  exact List.mem_of_mem_take ((hpr x).1 hxp)
 let Ok:Nat->Prop:=λk=>∀q (hq:q<od.length),q<k->od[q]≠0->∃c,ov od[q]=some c/\ZN ov (λp=>Ed nx p od[q]/\PR ov p) c
 refine zj.count od.length (by omega) (λk w'=>Ok k/\St ov w') ⟨λq hq h=>absurd h (by omega),hst⟩ ?_
 rintro i w2 hi ⟨hok,hst⟩ next hnext
 refine zg (λhlt=>?_) (λhge=>?_)
 ·have hlt:i<od.length:=by dsimp only at hlt;omega
  refine zk.cut (λ_ w'=>Ok (i+1)/\St ov w') ?_ λ_ w' hh=>hnext w' hlt hh
  refine zd4 hst.2.2.2.2.isS.toI (k:=i) (by simpa using hlt) ?_
  rw[List.getElem_map]
  refine zm (λhe=>?_) (λhne=>?_)
  ·refine⟨λq hq hlt' hq0=>?_,hst⟩
   by_cases e:q=i
   ·subst e;exact absurd (by exact Int.ofNat.inj he) hq0
   ·exact hok q hq (by omega) hq0
  ·have hne0:od[i]≠0:=λe=>hne (by rw[e];rfl)
   have hT:=hst.2.2.2.1
   refine ze rfl ⟨_,hT.t.cell0 rfl,?_⟩
   have hg2:IsG w2 gb nx:=hG.below (hB▸hst.1)
   refine zic hx hg2 λr w3 a1 a2 a3=>⟨r,rfl,?_⟩
   rw[zaN]at a1
   have hst3:=grow hst a3
   clear a3 hT
   obtain⟨ah,hah⟩:∃ah,ah=(zD nx).getD od[i] []:=⟨_,rfl⟩
   have hahn:∀p∈ah,p<nx.length:=λp hp=>by
    rw[hah]at hp
    have:=(zgi hx).1 hp
    by_cases hpn:p<nx.length
    ·exact hpn
    ·simp[List.getD,hpn]at this
   have hahl:=ziq nx od[i]
   rw[<-hah]at a1 hahl
   have hrl:=zcU a1
   refine zj.ghost (λg st w'=>∃m:Nat,∃o:Int,m<=ah.length/\g=ah.length-m/\st=(o,(m:Int),())/\Fo ov (ah.take m) o/\St ov w'/\Own w' 3 1 r (ah.map iN)) ah.length
    ⟨0,-1,by omega,rfl,rfl,.inl ⟨rfl,by simp⟩,hst3,a1⟩ ?_
   rintro _ _ w4 ⟨m,o,hm,rfl,rfl,hF,hst,a1⟩ nxt hnxt
   have hT:=hst.2.2.2.1
   refine zg (λhltm=>?_) (λhgem=>?_)
   ·have hltm:m<ah.length:=by dsimp only at hltm;omega
    have etk:ah.take (m+1)=ah.take m++[ah[m]]:=List.take_succ_eq_append_getElem hltm
    have hpn:=hahn _ (List.getElem_mem hltm)
    refine zk.cut (λst w'=>∃o':Int,st=(o',())/\Fo ov (ah.take (m+1)) o'/\St ov w'/\Own w' 3 1 r (ah.map iN)) ?_ ?_
    ·refine zd4 a1.isS.toI (k:=m) (by simpa using hltm) ?_
     rw[List.getElem_map]
     refine zk.cut (λ_ w'=>w'=w4/\PR ov ah[m]) ?_ ?_
     ·refine zE (λhne=>?_) (λhe=>⟨rfl,.inl (Int.ofNat.inj he)⟩)
      refine hT.getO hpn (zm (λhe=>?_) λhne'=>⟨rfl,.inr λe=>hne' (zg6.2 e)⟩)
      refine⟨o,rfl,?_,hst,a1⟩
      rw[etk]
      refine hF.skip λhp=>?_
      rcases hp with hp |hp
      ·exact hne (by rw[hp];rfl)
      ·exact hp (zg6.1 he)
     ·rintro _ _ ⟨rfl,hp⟩
      refine zm (λhe=>⟨_,rfl,?_,hst,a1⟩) (λhne=>?_)
      ·rw[etk]
       dsimp only at he
       exact(he▸hF).first hp
      ·rcases hF with⟨e,_⟩ | ⟨mm,rfl,hF1,hF2,hF3⟩
       ·exact absurd e hne
       ·refine znC t hpo hod hT hF1 hp λc w5 hb5 hc hce=>⟨_,rfl,_,rfl,?_,grow hst hb5,a1.below hb5⟩
        rw[etk]
        exact Fo.more (.inr ⟨mm,rfl,hF1,hF2,hF3⟩) hp hc hce
    ·rintro _ w7 ⟨o',rfl,hF',hst',a1'⟩
     dsimp only
     rw[zr (by omega)]
     exact hnxt (ah.length-(m+1)) _ _ (by omega) ⟨m+1,o',by omega,rfl,rfl,hF',hst',a1'⟩
   ·have:m=ah.length:=by dsimp only at hgem;omega
    subst this
    rw[List.take_length]at hF
    have hpre:∀k (hk:k<i),PR ov od[k]:=λk hk=>by
     by_cases e:od[k]=0
     ·exact .inl e
     ·obtain⟨c,hc,_⟩:=hok k (by omega) hk e
      exact .inr (by rw[hc];simp)
    have hi0:0<i:=by
     obtain⟨l,hl⟩:=ok.head
     rcases Nat.eq_zero_or_pos i with e |e
     ·subst e;exact absurd (by simp[hl]) hne0
     ·exact e
    obtain⟨q,hq,hqe⟩:=ok.par i hlt hi0
    have hedge:∀p,p∈ah↔Ed nx p od[i]:=λp=>by rw[hah];exact zgi hx
    rcases hF with⟨_,hF⟩ | ⟨mm,rfl,hF1,_,hF3⟩
    ·exact absurd (hpre q hq) (hF _ ((hedge _).2 hqe))
    have hM:ZN ov (λp=>Ed nx p od[i]/\PR ov p) mm:=λe=>by
     rw[hF3 e]
     exact⟨λhh p hp=>hh p ⟨(hedge p).2 hp.1,hp.2⟩,λhh p hp=>hh p ⟨(hedge p).1 hp.1,hp.2⟩⟩
    have hin:od[i]<nx.length:=hod _ (List.getElem_mem hlt)
    dsimp only
    refine hT.getO hin (zE (λhne'=>?_) (λhe=>?_))
    ·refine hT.putO hin ?_
     have hne2:ov od[i]≠some mm:=λe=>hne' (by rw[e];rfl)
     obtain⟨j',hj',hs'⟩:=hs.next ok hlt hne0 (λk hk h0=>hok k (by omega) hk h0) hM hF1 hne2
     refine hnextR j' _ _ hj' ⟨_,hs',?_⟩
     obtain⟨g1,g2,g3,g4,g5⟩:=hst
     refine⟨g1.setCell (by rw[zp];exact hob) _,by simpa[World.setCell] using g2,λk hk hne=>(yn hne _ _).trans (g3 k hk hne),(g4.setO od[i] mm).of_o λj _=>zqN ov od[i] mm j,g5.of_block λa ha=>yn (hp2 a ha) _ _⟩
    ·refine⟨λq hq hlt' hq0=>?_,hst⟩
     by_cases e:q=i
     ·subst e
      refine⟨mm,?_,hM⟩
      cases e:ov od[q] with
      |none=>rw[e]at he;have he:(mm:Int)=-1:=he;omega
      |some y=>rw[e]at he;have he:(mm:Int)=(y:Int):=he;rw[show y=mm by omega]
     ·exact hok q hq (by omega) hq0
 ·have:i=od.length:=by dsimp only at hge;omega
  subst this
  obtain⟨g1,g2,g3,g4,g5⟩:=hst
  have hall:∀x∈od,x≠0->∃c,ov x=some c/\ZN ov (λp=>Ed nx p x/\PR ov p) c:=λx hx h0=>by
   obtain⟨q,hq,rfl⟩:=List.mem_iff_getElem.1 hx
   exact hok q hq hq h0
  refine hR w2 ov g1 g2 g3 g4 ⟨t,hs.di,λx=>⟨hpo x,λhx=>?_⟩,λx c hc=>?_⟩
  ·by_cases e:x=0
   ·exact .inl e
   ·obtain⟨c,hc,_⟩:=hall x hx e
    exact .inr (by rw[hc];simp)
  ·have hx0:x≠0:=by rintro rfl;rw[t.root]at hc;cases hc
   obtain⟨c',hc',hm⟩:=hall x (hpo x (.inr (by rw[hc];simp))) hx0
   rw[hc]at hc'
   cases hc'
   exact hm
end Go.Proofs
namespace Go.Proofs
open Go.Gk Go.RowKit Go.Gr Go.Dm
structure Rs (w1 w:World) (n:Nat) (us rs:List Nat) (rb:Option Nat):Prop where
 below:Below w1.heap.size w1 w
 a:∀b∈us,Blk w b 3 [.int .i64 (-1)]
 r:∀b∈rs,Blk w b 3 (List.replicate n (.int .i64 (-1)))/\w1.heap.size<=b
 nd:rs.Nodup
 m:∀b,rb=some b->Blk w b 3 (List.replicate n (.int .i64 0))/\w1.heap.size<=b/\b ∉ rs
section
variable {w1 w w':World} {n:Nat} {us rs:List Nat} {rb:Option Nat}
theorem Rs.grow(h:Rs w1 w n us rs rb)(hb:Below w.heap.size w w'):Rs w1 w' n us rs rb:=
 ⟨h.below.trans (hb.mono h.below.size),λb hm=>(h.a b hm).below hb,λb hm=>⟨(h.r b hm).1.below hb,(h.r b hm).2⟩,h.nd,λb e=>⟨(h.m b e).1.below hb,(h.m b e).2⟩⟩
theorem Rs.stepA(h:Rs w1 w n us rs rb){K:World->Prop}(hK:∀w',Rs w1 w' n (w.heap.size::us) rs rb->K w'):Nw (w.alloc (.cells #[(.int .i64 (-1:Int))] 3)) K:=by
 refine Nw.mk (hK _ ?_)
 have g:=h.grow (w':=w.alloc (.cells #[(.int .i64 (-1:Int))] 3)) ((Below.refl _ _).alloc (Nat.le_refl _) _)
 refine⟨g.below,λb hb=>?_,g.r,g.nd,g.m⟩
 rcases List.mem_cons.1 hb with rfl |hb
 ·exact Blk.new w 3 #[_]
 ·exact g.a b hb
theorem Rs.stepR(h:Rs w1 w n us rs rb)(hn:n<=4096)(hn1:1<=n){b:Nat}(hb:b∈us){K:Sl->World->Prop}(hK:∀r w',Rs w1 w' n us (r::rs) rb->K ⟨some (Gk.blk r),n,n⟩ w') :
  cR 93 #[.slice (some (Gk.blk b)) 1 1,.int .i64 (n:Int)] w λv w'=>∃x:Sl,v =.slice x.a x.l x.c/\K x w':=by
 refine zkD (by omega) hn1 (h.a b hb) λr w' hr hf hbw=>⟨⟨some (Gk.blk r),n,n⟩,rfl,hK r w' ?_⟩
 have g:=h.grow hbw
 refine⟨g.below,g.a,λb hb=>?_,List.nodup_cons.2 ⟨λhm=>?_,g.nd⟩,λb e=>⟨(g.m b e).1,(g.m b e).2.1,λhm=>?_⟩⟩
 ·rcases List.mem_cons.1 hb with rfl |hb
  ·exact⟨hr,by have:=h.below.size;omega⟩
  ·exact g.r b hb
 ·have:=(h.r r hm).1.lt;omega
 ·rcases List.mem_cons.1 hm with rfl |hm
  ·have:=(h.m b e).1.lt;omega
  ·exact(g.m b e).2.2 hm
theorem Rs.stepM(h:Rs w1 w n us rs none)(hn:n<=4096){K:World->Prop}(hK:∀w',Rs w1 w' n us rs (some w.heap.size)->K w') :
  (0<=(n:Int)/\(n:Int)<=(n:Int)/\(8:Int)*(n:Int)<=281474976710656/\(n:Int)<=9223372036854775807)/\Nw (w.alloc (.cells (madeCells #[(.int .i64 (0:Int))] ((Int.toNat (n:Int))*1)) 3)) K:=by
 refine⟨⟨by omega,by omega,by omega,by omega⟩,Nw.mk (hK _ ?_)⟩
 have g:=h.grow (w':=w.alloc (.cells (madeCells #[(.int .i64 (0:Int))] ((Int.toNat (n:Int))*1)) 3)) ((Below.refl _ _).alloc (Nat.le_refl _) _)
 refine⟨g.below,g.a,g.r,g.nd,λb e=>?_⟩
 cases e
 exact⟨Blk.made w 3 (.int .i64 0) n,h.below.size,λhm=>by have:=(h.r _ hm).1.lt;omega⟩
def Mt(w1:World)(n gb:Nat)(p:Option Addr)(w':World):Prop:=
 ∃tb ob db rb,p=some (Gk.blk tb)/\w1.heap.size<=ob/\w1.heap.size<=db/\w1.heap.size<=rb/\TB w' tb gb ob db rb n (λ_=>-1) (λ_=>-1) (λ_=>0)/\Below w1.heap.size w1 w'/\ob<tb
theorem Rs.stepF{b:Nat}(h:Rs w1 w n us rs (some b)){gb:Nat}{r1 r2:Nat}(h1:r1∈rs)(h2:r2∈rs)(hne:r1≠r2) :
  Nw (w.alloc (.cells #[(.pointer (some (Gk.blk gb))),(.slice (some (Gk.blk r1)) n n),(.slice (some (Gk.blk r2)) n n),(.slice (some (Gk.blk b)) (Int.toNat (n:Int)) (Int.toNat (n:Int)))] 168)) λw7=>Mt w1 n gb (some (Gk.blk w.heap.size)) w7:=by
 refine Nw.mk ?_
 have hb:Below w.heap.size w (w.alloc (.cells #[(.pointer (some (Gk.blk gb))),(.slice (some (Gk.blk r1)) n n),(.slice (some (Gk.blk r2)) n n),(.slice (some (Gk.blk b)) (Int.toNat (n:Int)) (Int.toNat (n:Int)))] 168)):=(Below.refl _ _).alloc (Nat.le_refl _) _
 have g:=h.grow hb
 obtain⟨m1,m2,m3⟩:=g.m b rfl
 refine⟨w.heap.size,r1,r2,b,rfl,(g.r r1 h1).2,(g.r r2 h2).2,m2,⟨Blk.new w 168 #[_,_,_,_],?_,?_,?_,hne,λe=>m3 (e▸h1),λe=>m3 (e▸h2)⟩,g.below,(h.r r1 h1).1.lt⟩
 ·rw[zf8];exact(g.r r1 h1).1
 ·rw[zf8];exact(g.r r2 h2).1
 ·rw[zf8];exact m1
end
structure DpOk (od:List Nat) (ov:Nat->Option Nat) (dp:Nat->Int):Prop where
 mem:∀x∈od,0<=dp x/\dp x<=(rkOf od x:Int)
 out:∀x,x ∉ od->dp x=-1
 root:∀x∈od,ov x=none->dp x=0
 up:∀x∈od,∀y,ov x=some y->dp x=dp y+1
def IsD(w:World)(tb:Nat)(nx:List (List Nat))(ov:Nat->Option Nat)(dp:Nat->Int):Prop:=
 ∃gb ob db rb,TB w tb gb ob db rb nx.length (λi=>ovI (ov i)) dp (rkI (zv nx))/\IsG w gb nx
theorem IsD.below{w w':World}{tb:Nat}{nx:List (List Nat)}{ov:Nat->Option Nat}{dp:Nat->Int}(h:IsD w tb nx ov dp)(hb:Below w.heap.size w w'):IsD w' tb nx ov dp:=
 let⟨gb,ob,db,rb,h1,h2⟩:=h
 ⟨gb,ob,db,rb,h1.below hb,h2.below hb⟩
theorem odOk{nx:List (List Nat)}(hx:NxOk nx):OdOk nx (zv nx):=⟨hx.walkOk.ohead,hx.walkOk.nodup,hx.walkOk.opar⟩
theorem zqz{nx:List (List Nat)}(hx:NxOk nx):∀x∈zv nx,x<nx.length:=λx h=>hx.came.lt x ((hx.walkOk.mem x).1 h)
set_option maxHeartbeats 8000000 in
theorem znf{nx:List (List Nat)}(hx:NxOk nx){gb:Nat}{w:World}{R:VWP}(hG:IsG w gb nx)
  (hR:∀w' tb ov dp,Below w.heap.size w w'->(∃ob db rb,TB w' tb gb ob db rb nx.length (λi=>ovI (ov i)) dp (rkI (zv nx)))->zjV nx (zv nx) ov->DpOk (zv nx) ov dp->R (.tuple #[.pointer (some (Gk.blk tb)),.int .i64 0]) w') :
  cR 57 #[.pointer (some (Gk.blk gb))] w R:=by
 refine zc.of (zja _ R w ?_) λ_ _ h=>h
 unfold zgL
 have hm:=hx.max
 have hp:=hx.pos
 refine zz rfl (zgZ hG ⟨_,rfl,?_⟩)
 refine zk.cut (λs w'=>Mt w nx.length gb s.1 w') ?_ ?_
 ·have h0:Rs w w.drew nx.length [] [] none:=⟨(Below.refl _ _).drew,λ_ h=>(by cases h),λ_ h=>(by cases h),List.nodup_nil,λ_ h=>(by cases h)⟩
  repeat' first
   |exact Rs.stepF (by assumption) (by simp) (by simp) (by
     have:=Rs.nd (by assumption)
     simp at this
     first |exact this |exact λe=>this e.symm)
   |refine Rs.stepM (by assumption) hm λw' h=>?_
   |refine Rs.stepR (by assumption) hm hp (by simp) λr w' h=>?_
   |refine Rs.stepA (by assumption) λw' h=>?_
   |refine And.intro ?_ ?_
 ·rintro⟨p,_⟩ w69 ⟨tb,ob,db,rb,hpe,hob,hdb,hrb,hT,hb69,hobt⟩
  dsimp only at hpe
  subst hpe
  obtain⟨od,hod⟩:∃od,od=zv nx:=⟨_,rfl⟩
  have ok:OdOk nx od:=hod▸odOk hx
  have hlt:∀x∈od,x<nx.length:=hod▸zqz hx
  have hodl:od.length<=nx.length:=ZJ ok.nodup hlt
  refine zlP hx (hG.below hb69) λr w70 o1 o2 o3=>⟨r,rfl,?_⟩
  rw[<-hod]at o1 hR
  have hrl:=zcU o1
  have hT70:=hT.below o3
  have hb70:Below w.heap.size w w70:=hb69.trans (o3.mono hb69.size)
  have hrb':∀a,r.a=some a->a.block≠ob/\a.block≠db/\a.block≠rb:=λa ha=>by
   have h1:=o2 a ha
   have h2:=hT.o.lt
   have h3:=hT.d.lt
   have h4:=hT.r.lt
   exact⟨by omega,by omega,by omega⟩
  refine zj.count od.length (by omega) (λk w'=>Below w.heap.size w w'/\TB w' tb gb ob db rb nx.length (λ_=>-1) (λ_=>-1) (λi=>if i∈od.take k then(rkOf od i:Int) else 0)/\Own w' 3 1 r (od.map iN)) ⟨hb70,?_,o1⟩ ?_
  ·refine⟨hT70.t,hT70.o,hT70.d,?_,hT70.ne⟩
   rw[zcT (g:=λ_=>0) (λi _=>by simp)]
   exact hT70.r
  rintro k w71 hk ⟨hb71,hT71,ho71⟩ next hnext
  refine zg (λhltk=>?_) (λhgek=>?_)
  ·have hltk:k<od.length:=by dsimp only at hltk;omega
   have hkn:=hlt _ (List.getElem_mem hltk)
   refine zd4 ho71.isS.toI (k:=k) (by simpa using hltk) ?_
   rw[List.getElem_map]
   refine hT71.putR hkn (hnext _ hltk ⟨hb71.setCell (by rw[zp];exact hrb) _,?_,ho71.of_block λa ha=>yn (hrb' a ha).2.2 _ _⟩)
   have g:=hT71.setR od[k] (k:Int)
   refine⟨g.t,g.o,g.d,?_,g.ne⟩
   rw[zcT (g:=λj=>if j=od[k] then(k:Int) else if j∈od.take k then(rkOf od j:Int) else 0) (λj _=>?_)]
   ·exact g.r
   ·have hmem:j∈od.take (k+1)↔j∈od.take k\/j=od[k]:=by
     rw[List.take_succ_eq_append_getElem hltk,List.mem_append,List.mem_singleton]
    by_cases e:j=od[k]
    ·rw[if_pos (hmem.2 (.inr e)),if_pos e,e,ZK ok.nodup hltk]
    ·rw[if_neg e]
     by_cases e2:j∈od.take k
     ·rw[if_pos (hmem.2 (.inl e2)),if_pos e2]
     ·rw[if_neg (λh=>(hmem.1 h).elim e2 e),if_neg e2]
  ·have hkk:k=od.length:=by dsimp only at hgek;omega
   subst hkk
   have hT71':TB w71 tb gb ob db rb nx.length (λ_=>-1) (λ_=>-1) (rkI od):=by
    refine⟨hT71.t,hT71.o,hT71.d,?_,hT71.ne⟩
    rw[zcT (g:=λi=>if i∈od.take od.length then(rkOf od i:Int) else 0) (λj _=>by rw[List.take_length];rfl)]
    exact hT71.r
   refine zl8 hx ok hlt hG rfl hob hb71 hT71' ho71 (λa ha=>(hrb' a ha).1) λw73 ov hb73 hz73 hf73 hT73 hS=>⟨rfl,?_⟩
   have ho73:Own w73 3 1 r (od.map iN):=ho71.of_block λa ha=>hf73 _ (ho71.lt ha).2 (hrb' a ha).1
   have t:=hS.tr
   refine zj.count od.length (by omega) (λk w'=>Below w.heap.size w w'/\Own w' 3 1 r (od.map iN)/\∃dp,TB w' tb gb ob db rb nx.length (λi=>ovI (ov i)) dp (rkI od)/\
     (∀q (hq:q<od.length),q<k->0<=dp od[q]/\dp od[q]<=(q:Int)/\(ov od[q]=none->dp od[q]=0)/\∀y,ov od[q]=some y->dp od[q]=dp y+1)/\∀x,x ∉ od->dp x=-1)
    ⟨hb73,ho73,_,hT73,λq hq h=>absurd h (by omega),λ_ _=>rfl⟩ ?_
   rintro k w74 hk ⟨hb74,ho74,dp,hT74,hD,hout⟩ next2 hnext2
   refine zg (λhltk=>?_) (λhgek=>?_)
   ·have hltk:k<od.length:=by dsimp only at hltk;omega
    have hkn:=hlt _ (List.getElem_mem hltk)
    refine zk.cut (λ_ w'=>Below w.heap.size w w'/\Own w' 3 1 r (od.map iN)/\∃dp,TB w' tb gb ob db rb nx.length (λi=>ovI (ov i)) dp (rkI od)/\
     (∀q (hq:q<od.length),q<k+1->0<=dp od[q]/\dp od[q]<=(q:Int)/\(ov od[q]=none->dp od[q]=0)/\∀y,ov od[q]=some y->dp od[q]=dp y+1)/\∀x,x ∉ od->dp x=-1) ?_ λ_ w' hh=>hnext2 w' hltk hh
    refine zd4 ho74.isS.toI (k:=k) (by simpa using hltk) ?_
    rw[List.getElem_map]
    refine hT74.putD hkn ?_
    have hT75:=hT74.setD od[k] 0
    have hb75:Below w.heap.size w (w74.setCell ((Gk.blk db).add od[k]) (.int .i64 0)):=hb74.setCell (by rw[zp];exact hdb) _
    have ho75:Own (w74.setCell ((Gk.blk db).add od[k]) (.int .i64 0)) 3 1 r (od.map iN):=ho74.of_block λa ha=>yn (hrb' a ha).2.1 _ _
    generalize w74.setCell ((Gk.blk db).add od[k]) (.int .i64 0)=w75 at hT75 hb75 ho75
    have hneq:∀q (hq:q<od.length),q≠k->od[q]≠od[k]:=λq hq hne e=>hne (by
     have h1:=ZK ok.nodup hq
     have h2:=ZK ok.nodup hltk
     rw[e,h2]at h1
     exact h1.symm)
    have hbef:∀{q y},(hq:q<od.length)->q<=k->ov od[q]=some y->∃q':Nat,∃h:q'<od.length,q'<q/\od[q']=y:=λ{q y} hq _ hy=>by
     obtain⟨h1,h2⟩:=t.up _ _ hy
     have hm2:=(hS.pr y).1 h2
     have h3:=List.idxOf_lt_length_of_mem hm2
     refine⟨od.idxOf y,h3,?_,List.getElem_idxOf h3⟩
     have:=ZK ok.nodup hq
     rw[this]at h1
     exact h1
    refine hT75.getO hkn (zE (λhne=>?_) (λhe=>?_))
    ·obtain⟨y,hy⟩:∃y,ov od[k]=some y:=by
      cases e:ov od[k] with
      |none=>exact absurd (zg6.2 e) hne
      |some y=>exact⟨y,rfl⟩
     obtain⟨q',hq'l,hq'k,hq'y⟩:=hbef hltk (Nat.le_refl _) hy
     have hyn:y<nx.length:=hq'y▸hlt _ (List.getElem_mem hq'l)
     have hyk:y≠od[k]:=hq'y▸hneq q' hq'l (by omega)
     have hT76:=hT75.below (w':=w75.drew) (Below.refl _ _).drew
     refine ze rfl ⟨⟨_,nx.length,nx.length⟩,hT76.t.cell (n:=2) rfl,ze rfl ⟨⟨_,nx.length,nx.length⟩,hT76.t.cell (n:=2) rfl,hT76.getO hkn ?_⟩⟩
     rw[hy]
     refine⟨⟨by simp[ovI],by simpa[ovI] using hyn⟩,ze rfl ⟨_,hT76.d.cell (zg2 hyn),⟨⟨by omega,by first |omega | (dsimp only;omega)⟩,ze rfl ⟨hT76.d.wr (by simpa[natL] using hkn),Nw.mk ?_⟩⟩⟩⟩
     have hv:=hD q' hq'l hq'k
     rw[hq'y]at hv
     rw[show Int.toNat (ovI (some y))=y from rfl,if_neg hyk,zy (by omega) (by omega)]
     refine⟨hb75.drew.setCell (by rw[zp];exact hdb) _,ho75.drew.of_block λa ha=>yn (hrb' a ha).2.1 _ _,_,hT76.setD od[k] (dp y+1),λq hq hqk=>?_,λx hx=>?_⟩
     ·by_cases e:q=k
      ·subst e
       simp only[if_true]
       refine⟨by omega,by omega,λe=>(by rw[hy]at e;cases e),λy' hy'=>?_⟩
       rw[hy]at hy'
       cases hy'
       simp[hyk]
      ·have h1:=hD q hq (by omega)
       have h2:=hneq q hq e
       simp only[h2,if_false]
       refine⟨h1.1,h1.2.1,h1.2.2.1,λy' hy'=>?_⟩
       obtain⟨q2,hq2l,hq2k,hq2y⟩:=hbef hq (by omega) hy'
       have:y'≠od[k]:=hq2y▸hneq q2 hq2l (by omega)
       simp only[this,if_false]
       exact h1.2.2.2 y' hy'
     ·have:x≠od[k]:=λe=>hx (e▸List.getElem_mem hltk)
      simp only[this,if_false]
      exact hout x hx
    ·have hnone:ov od[k]=none:=zg6.1 he
     refine⟨hb75,ho75,_,hT75,λq hq hqk=>?_,λx hx=>?_⟩
     ·by_cases e:q=k
      ·subst e
       simp only[if_true]
       exact⟨by omega,by omega,λ_=>trivial,λy' hy'=>by rw[hnone]at hy';cases hy'⟩
      ·have h1:=hD q hq (by omega)
       have h2:=hneq q hq e
       simp only[h2,if_false]
       refine⟨h1.1,h1.2.1,h1.2.2.1,λy' hy'=>?_⟩
       obtain⟨q2,hq2l,hq2k,hq2y⟩:=hbef hq (by omega) hy'
       have:y'≠od[k]:=hq2y▸hneq q2 hq2l (by omega)
       simp only[this,if_false]
       exact h1.2.2.2 y' hy'
     ·have:x≠od[k]:=λe=>hx (e▸List.getElem_mem hltk)
      simp only[this,if_false]
      exact hout x hx
   ·have hkk:k=od.length:=by dsimp only at hgek;omega
    subst hkk
    have hget:∀x∈od,∃q:Nat,∃h:q<od.length,od[q]=x/\rkOf od x=q:=λx hxm=>by
     obtain⟨q,hq,e⟩:=List.mem_iff_getElem.1 hxm
     exact⟨q,hq,e,e▸ZK ok.nodup hq⟩
    refine hR w74 tb ov dp hb74 ⟨ob,db,rb,hod▸hT74⟩ hS ⟨λx hxm=>?_,hout,λx hxm hn=>?_,λx hxm y hy=>?_⟩
    ·obtain⟨q,hq,rfl,e⟩:=hget x hxm
     have:=hD q hq hq
     rw[e]
     exact⟨this.1,this.2.1⟩
    ·obtain⟨q,hq,rfl,e⟩:=hget x hxm
     exact(hD q hq hq).2.2.1 hn
    ·obtain⟨q,hq,rfl,e⟩:=hget x hxm
     exact(hD q hq hq).2.2.2 y hy
end Go.Proofs
namespace Go.Proofs
open Go.Gk Go.RowKit Go.Gr Go.Dm
def inOd(od:List Nat)(i:Int):Bool:=decide (0<=i)&&od.contains i.toNat
theorem zo8(od:List Nat)(i:Nat):inOd od (i:Int)=od.contains i:=by simp[inOd]
theorem zeg{od:List Nat}{i:Int}:inOd od i=true↔∃k:Nat,i=(k:Int)/\k∈od:=by
 unfold inOd
 rw[Bool.and_eq_true,decide_eq_true_iff,List.contains_iff_mem]
 constructor
 ·rintro⟨h1,h2⟩;exact⟨i.toNat,by omega,h2⟩
 ·rintro⟨k,rfl,h⟩;exact⟨by omega,by simpa using h⟩
structure Dt (w:World) (tb:Nat) (nx:List (List Nat)) (ov:Nat->Option Nat) (dp:Nat->Int):Prop where
 ok:NxOk nx
 d:IsD w tb nx ov dp
 s:zjV nx (zv nx) ov
 dpo:DpOk (zv nx) ov dp
theorem Dt.below{w w':World}{tb:Nat}{nx:List (List Nat)}{ov:Nat->Option Nat}{dp:Nat->Int}(h:Dt w tb nx ov dp)(hb:Below w.heap.size w w'):Dt w' tb nx ov dp:=⟨h.ok,h.d.below hb,h.s,h.dpo⟩
section
variable {w:World} {R:VWP} {tb:Nat} {nx:List (List Nat)} {ov:Nat->Option Nat} {dp:Nat->Int} {i:Int}
theorem Dt.lt(h:Dt w tb nx ov dp){x:Nat}(hx:x∈zv nx):x<nx.length:=zqz h.ok x hx
theorem zk1(h:Dt w tb nx ov dp)(hR:R (.bool (inOd (zv nx) i)) w):cR 195 #[.pointer (some (Gk.blk tb)),.int .i64 i] w R:=by
 refine zc.of (zcJ _ i R w ?_) λ_ _ h=>h
 obtain⟨gb,ob,db,rb,hT,hG⟩:=h.d
 refine zH rfl (zg (λh0=>ze rfl ⟨⟨_,nx.length,nx.length⟩,hT.t.cell (n:=2) rfl,zg (λh1=>?_) (λh1=>?_)⟩) (λh0=>?_))
 ·obtain⟨k,rfl⟩:=Int.eq_ofNat_of_zero_le h0
  have hk:k<nx.length:=by dsimp only at h1;omega
  refine hT.getD hk ?_
  have:(dp k !=(-1:Int))=inOd (zv nx) (k:Int):=by
   rw[zo8,Bool.eq_iff_iff,bne_iff_ne,List.contains_iff_mem]
   constructor
   ·intro hne;exact Classical.byContradiction λhn=>hne (h.dpo.out k hn)
   ·intro hm e;have:=(h.dpo.mem k hm).1;omega
  rw[this];exact hR
 ·have:inOd (zv nx) i=false:=by
   rw[<-Bool.not_eq_true,zeg]
   rintro⟨k,rfl,hk⟩
   have:=h.lt hk
   dsimp only at h1
   omega
  rw[this]at hR;exact hR
 ·have:inOd (zv nx) i=false:=by
   rw[<-Bool.not_eq_true,zeg]
   rintro⟨k,rfl,hk⟩
   omega
  rw[this]at hR;exact hR
end
theorem zpI{p:Option Addr}{i:Int}{w:World}{R:VWP}
  (hR:∀w',Blk w' w.heap.size 81 [.pointer p]->Blk w' (w.heap.size+1) 3 [.int .i64 i]->Below w.heap.size w w'->w'.heap.size=w.heap.size+2->R (.func (.func 194) #[] #[.pointer (some (Gk.blk w.heap.size)),.pointer (some (Gk.blk (w.heap.size+1)))]) w') :
  cR 191 #[.pointer p,.int .i64 i] w R:=by
 refine zc.of (zgh p i R w ?_) λ_ _ h=>h
 refine Nw.gen λw1 hw1=>Nw.gen λw2 hw2=>?_
 have z1:w1.heap.size=w.heap.size+1:=by rw[hw1];simp
 have h1:Blk w1 w.heap.size 81 [.pointer p]:=by rw[hw1];exact Blk.new w _ #[_]
 have h2:Blk w2 w1.heap.size 3 [.int .i64 i]:=by rw[hw2];exact Blk.new w1 _ #[_]
 dsimp only[zB,Go.Gk.Sl.zw,zi,zu,zb,zh]at h2⊢;rw[z1]at h2⊢
 refine hR w2 (by rw[hw2];exact h1.alloc _) h2 (by rw[hw2,hw1];exact((Below.refl _ _).alloc (Nat.le_refl _) _).alloc (by simp) _) (by rw[hw2];simp[z1])
theorem zoe{y:Value}{tb:Nat}{nx:List (List Nat)}{ov:Nat->Option Nat}{dp:Nat->Int}{i:Int}{pb ib:Nat}{T:TypeId}{w:World}(h:Dt w tb nx ov dp)(hp:Blk w pb T [.pointer (some (Gk.blk tb))])
  (hi:w.cell? (Gk.blk ib)=some (.int .i64 i)) (Inv:Option Nat->World->Prop) (S:World->Prop)
  (h0:inOd (zv nx) i=true->Inv (some i.toNat) w) (h1:inOd (zv nx) i=false->S w) (hkeep:∀o w',Inv o w'->Dt w' tb nx ov dp/\Blk w' pb T [.pointer (some (Gk.blk tb))])
  (hround:∀x w',x∈zv nx->Inv (some x) w'->Zv Tryz.prog Tryz.fs y [.int .i64 (x:Int)] w' λv w''=>(v =.bool true/\Inv (ov x) w'')\/(v =.bool false/\S w''))
  (hend:∀w',Inv none w'->S w'):Calls Tryz.prog 194 #[y,.pointer (some (Gk.blk pb)),.pointer (some (Gk.blk ib))] w (Ret λ_ w'=>S w'):=by
 refine zeE y (Gk.blk pb) (Gk.blk ib) _ w ⟨_,hp.cell0 rfl,i,hi,zk1 h ⟨_,rfl,?_⟩⟩
 refine zI (zn (λhin=>⟨i,hi,?_⟩) (λhin=>h1 hin))
 obtain⟨k,rfl,hk⟩:=zeg.1 hin
 refine zj.ghost (λj s w'=>∃o,j=(match o with |none=>0 |some x=>rkOf (zv nx) x+1)/\s=(ovI o,())/\Inv o w'/\∀x,o=some x->x∈zv nx) _ ⟨some k,rfl,rfl,h0 hin,λx e=>by cases e;exact hk⟩ ?_
 rintro _ _ w' ⟨o,rfl,rfl,hI,hm⟩ next hnext
 cases o with
 |none=>exact zz rfl (hend w' hI)
 |some x=>
  have hx:=hm x rfl
  refine zH (by simp[ovI]) (Zv.mono (hround x w' hx hI) λv w'' hv=>?_)
  rcases hv with⟨rfl,hv⟩ | ⟨rfl,hv⟩
  ·refine⟨true,rfl,zz rfl ?_⟩
   obtain⟨h2,h3⟩:=hkeep _ _ hv
   obtain⟨gb,ob,db,rb,hT,hG⟩:=h2.d
   refine⟨_,h3.cell0 rfl,hT.getO (h.lt hx) (hnext _ _ _ ?_ ⟨ov x,rfl,rfl,hv,λz hz=>?_⟩)⟩
   ·cases e:ov x with
    |none=>exact Nat.succ_pos _
    |some z=>have:=(h.s.tr.up x z e).1;simp only;omega
   ·exact(h.s.pr z).1 ((h.s.tr.up x z hz).2)
  ·exact⟨false,rfl,zH rfl hv⟩
theorem zpB{tb:Nat}{nx:List (List Nat)}{ov:Nat->Option Nat}{dp:Nat->Int}{i:Int}{pb ib:Nat}{T T':TypeId}{w:World}(h:Dt w tb nx ov dp)(hp:Blk w pb T [.pointer (some (Gk.blk tb))])
  (hi:Blk w ib T' [.int .i64 i]) {round:Gk.Mk->Nat->Int×Unit->World->(VWP)->Prop} {fin:Gk.Mk->Nat->Nat->World->Prop}
  (hh:∀mk:Gk.Mk,∃Inv:Option Nat->World->Prop,(inOd (zv nx) i=true->Inv (some i.toNat) ((w.alloc (.deferred (some []))).alloc (mk .ready none)))/\
   (inOd (zv nx) i=false->fin mk (w.heap.size+1) w.heap.size ((w.alloc (.deferred (some []))).alloc (mk .ready none)))/\(∀o w',Inv o w'->Dt w' tb nx ov dp/\Blk w' pb T [.pointer (some (Gk.blk tb))])/\
   (∀x w',x∈zv nx->Inv (some x) w'->w'.heap[w.heap.size+1]? =some (mk .ready none)/\round mk (w.heap.size+1) ((x:Int),()) w' λv w''=>(v =.bool true/\Inv (ov x) w'')\/(v =.bool false/\fin mk (w.heap.size+1) w.heap.size w''))/\
   ∀w',Inv none w'->fin mk (w.heap.size+1) w.heap.size w') :
  zfv Tryz.prog Tryz.fs (.func (.func 194) #[] #[.pointer (some (Gk.blk pb)),.pointer (some (Gk.blk ib))]) w (T:=Int×Unit) (λs=>[.int .i64 s.1]) round fin:=by
 intro mk hy
 obtain⟨Inv,h0,h1,hk,hr,he⟩:=hh mk
 have hc:Tryz.fs.contains 194=true:=by kernel_rfl
 unfold zjs
 simp only[hc]
 have hb:=zbo w (.deferred (some [])) (mk .ready none)
 refine zoe (y:=.func (.yield (w.heap.size+1)) #[] #[]) (h.below hb) (hp.below hb) ((hi.below hb).cell0 rfl) Inv _ h0 h1 hk (λx w' hx hI=>?_) he
 obtain⟨h1,h2⟩:=hr x w' hx hI
 exact hy ((x:Int),()) w' _ h1 h2
def DomP(od:List Nat)(ov:Nat->Option Nat)(a b:Int):Prop:=∃a' b':Nat,a=(a':Int)/\b=(b':Int)/\b'∈od/\Anc ov a' b'
set_option maxHeartbeats 2000000 in
theorem zig{tb:Nat}{nx:List (List Nat)}{ov:Nat->Option Nat}{dp:Nat->Int}{a b:Int}{w:World}{R:VWP}(h:Dt w tb nx ov dp)
  (hR:∀v w',Below w.heap.size w w'->(v=true↔DomP (zv nx) ov a b)->R (.bool v) w'):cR 183 #[.pointer (some (Gk.blk tb)),.int .i64 a,.int .i64 b] w R:=by
 refine zc.of (zbU _ a b R w ?_) λ_ _ h=>h
 unfold Zy
 refine Nw.gen λw1 hw1=>?_
 have hA1:Blk w1 w.heap.size 3 [.int .i64 a]:=by rw[hw1];exact Blk.new w _ #[_]
 have b1:Below w.heap.size w w1:=by rw[hw1];exact(Below.refl _ _).alloc (Nat.le_refl _) _
 have z1:w1.heap.size=w.heap.size+1:=by rw[hw1];simp
 clear hw1
 refine Nw.gen λw2 hw2=>?_
 have hF2:Blk w2 w1.heap.size 4 [.bool false]:=by rw[hw2];exact Blk.new w1 _ #[_]
 have b2':Below w1.heap.size w1 w2:=by rw[hw2];exact(Below.refl _ _).alloc (Nat.le_refl _) _
 have z2:w2.heap.size=w1.heap.size+1:=by rw[hw2];simp
 clear hw2
 have b2:Below w.heap.size w w2:=b1.trans (b2'.mono (by omega))
 refine zpI λw3 hP3 hI3 b3' z3=>⟨_,rfl,?_⟩
 have b3:Below w.heap.size w w3:=b2.trans (b3'.mono (by omega))
 have hA3:=(hA1.below b2').below b3'
 have hF3:=hF2.below b3'
 refine zpB (h.below b3) hP3 hI3 λmk=>?_
 let St:Obj->World->Prop:=λo w'=>Below w.heap.size w w'/\w3.heap.size+1<w'.heap.size/\Blk w' w.heap.size 3 [.int .i64 a]/\Blk w' w1.heap.size 4 [.bool false]/\Blk w' w2.heap.size 81 [.pointer (some (Gk.blk tb))]/\
  w'.heap[w3.heap.size+1]? =some o/\w'.heap[w3.heap.size]? =some (.deferred (some []))
 have hput:∀{o w'} (o':Obj),St o w'->St o' (w'.putObj (w3.heap.size+1) o'):=λ{o w'} o' ⟨g1,g2,g3,g4,g5,g6,g7⟩=>
  ⟨g1.putObj (by omega) _,by simpa using g2,g3.put (by omega) _,g4.put (by omega) _,g5.put (by omega) _,World.putObj_heap_same g2,(World.putObj_heap_other (by omega)).trans g7⟩
 have bl:=zbo w3 (.deferred (some [])) (mk .ready none)
 have start:St (mk .ready none) ((w3.alloc (.deferred (some []))).alloc (mk .ready none)):=
  ⟨b3.trans (bl.mono (by omega)),by rw[zhf];omega,hA3.below bl,hF3.below bl,hP3.below bl,zko _ _ _,zkn _ _ _⟩
 have finT:∀{o w'},St o w'->DomP (zv nx) ov a b->∀w6,w6=w'.setCell (Gk.blk w1.heap.size) (.bool true)->yF mk (w3.heap.size+1) .done (some .ret) (w6.putObj (w3.heap.size+1) (mk .done (some .ret))) λw11=>Yx (w3.heap.size::[]) w11 λw12=>ldB w12 (Gk.blk w1.heap.size) λx10=>R (.bool x10) w12:=by
  rintro o w' ⟨g1,g2,g3,g4,g5,g6,g7⟩ hD w6 rfl
  refine⟨World.putObj_heap_same (by simpa[World.setCell] using g2),?_⟩
  refine zbh ((World.putObj_heap_other (by omega)).trans ((World.putObj_heap_other (by omega)).trans ((yn (n:=0) (by omega) _).trans g7))) ⟨true,((((g4.set0 _).put (by omega) _).put (by omega) _).put (by omega) _).cell0 rfl,hR true _ ?_ ⟨λ_=>hD,λ_=>rfl⟩⟩
  exact(((g1.setCell (by show w.heap.size<=w1.heap.size;omega) _).putObj (by omega) _).putObj (by omega) _).putObj (by omega) _
 have finF:∀{w'},St (mk .ready none) w'->¬DomP (zv nx) ov a b->yF mk (w3.heap.size+1) .ready none w' λw8=>Wr w8 (Gk.blk w1.heap.size)/\Nw (w8.setCell (Gk.blk w1.heap.size) (.bool false)) λw9=>Yx (w3.heap.size::[]) w9 λw10=>ldB w10 (Gk.blk w1.heap.size) λx9=>R (.bool x9) w10:=by
  intro w' hst hD
  refine⟨hst.2.2.2.2.2.1,?_⟩
  obtain⟨g1,g2,g3,g4,g5,g6,g7⟩:=hput (mk .exhausted none) hst
  refine⟨g4.wr0 (by simp),Nw.mk (zbh ((yn (n:=0) (by omega) _).trans g7) ⟨false,((g4.set0 _).put (by omega) _).cell0 rfl,hR false _ ?_ ⟨λe=>(by cases e),λe=>absurd e hD⟩⟩)⟩
  exact(g1.setCell (by show w.heap.size<=w1.heap.size;omega) _).putObj (by omega) _
 refine⟨λo w'=>St (mk .ready none) w'/\(DomP (zv nx) ov a b↔∃x a':Nat,o=some x/\a=(a':Int)/\Anc ov a' x),λhin=>⟨start,?_⟩,λhin=>.inl (finF start ?_),λo w' hI=>⟨h.below hI.1.1,hI.1.2.2.2.2.1⟩,λx w' hx hI=>⟨hI.1.2.2.2.2.2.1,hI.1.2.2.2.2.2.1,Nw.mk ?_⟩,λw' hI=>.inl (finF hI.1 ?_)⟩
 ·obtain⟨k,rfl,hk⟩:=zeg.1 hin
  constructor
  ·rintro⟨a',b',rfl,e,_,h3⟩
   exact⟨k,a',rfl,rfl,by rw[show k=b' by omega];exact h3⟩
  ·rintro⟨x,a',e,rfl,h3⟩
   cases e
   exact⟨a',k,rfl,rfl,hk,h3⟩
 ·rintro⟨a',b',rfl,rfl,h3,_⟩
  have:inOd (zv nx) (b':Int)=true:=zeg.2 ⟨b',rfl,h3⟩
  rw[hin]at this
  cases this
 ·obtain⟨hst,hiff⟩:=hI
  have hst2:=hput (mk .busy none) hst
  obtain⟨g1,g2,g3,g4,g5,g6,g7⟩:=hst2
  refine⟨a,g3.cell0 rfl,zm (λhe=>⟨g4.wr0 (by simp),Nw.gen λw6 hw6=>⟨?_,.inr ⟨rfl,.inr ?_⟩⟩⟩) (λhne=>⟨g6,.inl ⟨rfl,?_,?_⟩⟩)⟩
  ·rw[hw6];exact(yn (n:=0) (by omega) _).trans g6
  ·have hD:DomP (zv nx) ov a b:=hiff.2 ⟨x,x,rfl,he.symm,.refl⟩
   exact finT ⟨g1,g2,g3,g4,g5,g6,g7⟩ hD _ hw6
  ·exact hput _ ⟨g1,g2,g3,g4,g5,g6,g7⟩
  ·rw[hiff]
   constructor
   ·rintro⟨x',a',e,ea,h3⟩
    cases e
    rcases h3.inv with e | ⟨y,hy,h3⟩
    ·exact absurd (by rw[ea,e]) hne
    ·exact⟨y,a',hy,ea,h3⟩
   ·rintro⟨y,a',e,ea,h3⟩
    exact⟨x,a',rfl,ea,.step e h3⟩
 ·rw[hI.2]
  rintro⟨x,a',e,_⟩
  cases e
end Go.Proofs
namespace Go.Proofs
open Go.Gk Go.RowKit Go.Gr
end Go.Proofs
namespace Go.Proofs
open Go.Gk Go.RowKit Go.Gr Go.Dm
end Go.Proofs
namespace Go.Proofs
open Go.Gk Go.RowKit Go.Gr Go.Dm
end Go.Proofs
namespace Go.Proofs
open Go.Gk Go.RowKit Go.Gr Go.Dm
def DomR(nx:List (List Nat))(a b:Nat):Prop:=zO nx (-1) b/\(a=b\/¬zO nx (a:Int) b)
end Go.Proofs
namespace Go.Proofs
open Go.Gk Go.RowKit Go.Gr Go.Dm
section
variable {w:World} {tb:Nat} {nx:List (List Nat)} {ov:Nat->Option Nat} {dp:Nat->Int}
theorem Dt.domR(h:Dt w tb nx ov dp)(a b:Nat):DomR nx a b↔b∈zv nx/\Anc ov a b:=by
 have hw:=h.ok.walkOk
 have hre:∀x,zO nx (-1) x↔x∈zv nx:=λx=>by rw[hw.mem x];exact(zcZ h.ok.rows h.ok.pos x).symm
 unfold DomR
 rw[hre b]
 constructor
 ·rintro⟨h1,h2⟩
  exact⟨h1,(h.s.di.iff h.s.tr (λx hx=>(h.s.pr x).2 ((hre x).1 hx)) h.s.fix ((hre b).2 h1)).2 h2⟩
 ·rintro⟨h1,h2⟩
  exact⟨h1,(h.s.di.iff h.s.tr (λx hx=>(h.s.pr x).2 ((hre x).1 hx)) h.s.fix ((hre b).2 h1)).1 h2⟩
end
end Go.Proofs
namespace Go.Proofs
open Go.Gk Go.RowKit Go.Gm Go.Gr
theorem zbt{n k:Nat}{p:Nat->Bool}(hk:k<n)(hp:p k=true)(hu:∀j,j<k->p j=false):(List.range n).find? p=some k:=by
 rw[List.find?_range_eq_some]
 exact⟨hp,List.mem_range.2 hk,λj hj=>by rw[hu j hj];rfl⟩
theorem zal{n k:Nat}{p:Nat->Bool}(h:(List.range n).find? p=some k):k<n/\p k=true/\∀j,j<k->p j=false:=by
 rw[List.find?_range_eq_some]at h
 exact⟨List.mem_range.1 h.2.1,h.1,λj hj=>by have:=h.2.2 j hj;simpa using this⟩
theorem ziP{n:Nat}{p:Nat->Bool}(h:∀k,k<n->p k=false):(List.range n).find? p=none:=
 List.find?_eq_none.2 λk hk=>by rw[h k (List.mem_range.1 hk)];simp
theorem zbT{β:Type}{g:Nat->Option β}{n k:Nat}{v:β}(hk:k<n)(h:g k=some v)(hj:∀j,j<k->g j=none):(List.range n).findSome? g=some v:=
 Yy (k:=k) (by rwa[List.length_range]) (by rw[List.getElem_range];exact h) λj h1 h2=>by rw[List.getElem_range];exact hj j h2
theorem zg9{β:Type}{g:Nat->Option β}{n:Nat}(hj:∀j,j<n->g j=none):(List.range n).findSome? g=none:=
 zh2 λj h=>by rw[List.getElem_range];exact hj j (by rwa[List.length_range]at h)
theorem zhn{β:Type}{g:Nat->Option β}:∀{n:Nat},(List.range n).findSome? g=none->∀j,j<n->g j=none:=λ{n} h j hj=>
 List.findSome?_eq_none_iff.1 h j (List.mem_range.2 hj)
abbrev Hm:=Int×Int×Int×Bool×Unit
def fn0:FnL:=⟨0,0,0,[],[]⟩
abbrev fx(fl:List FnL)(n:Nat):FnL:=fl.getD n fn0
abbrev bx(bk:List Bk3)(k:Nat):Bk3:=bk.getD k (0,0,0)
def fnO(fl:List FnL)(p:Int):Option Nat:=(List.range fl.length).find? λn=>decide ((fx fl n).at_<p/\p<=(fx fl n).en)
def bkO(bk:List Bk3)(p:Int):Option Nat:=(List.range bk.length).find? λk=>decide ((bx bk k).2.1<=p/\p<(bx bk k).2.2)
def lbO(bk:List Bk3)(id:Int):Option Nat:=(List.range bk.length).find? λk=>(bx bk k).1==id
abbrev mkA(pl:List PI)(id:Int):Int:=ya pl id pl.length
def hmO(pl:List PI)(fl:List FnL)(id:Int):Option Hm:=(fnO fl (mkA pl id)).map λ(n:Nat)=>((n:Int),ovI (bkO (fx fl n).bk (mkA pl id)),mkA pl id,(ix pl (mkA pl id).toNat).1==248,())
structure Fls (pl:List PI) (fl:List FnL):Prop where
 cut:fl=cutF pl pl.length
 tile:∀f∈fl,FnT pl pl.length f
 pw:fl.Pairwise λf g=>f.en<g.at_
 fn:∀f∈fl,FnOk pl pl.length f
 new:∀i j,i<pl.length->j<pl.length->(ix pl i).2.2.1≠0->(ix pl i).2.2.1=(ix pl j).2.2.1->i=j
 label:∀k,k<pl.length->(ix pl k).1=248->(ix pl k).2.2.1≠0
 param:∀k,k<pl.length->(ix pl k).1=55->(ix pl k).2.2.1≠0
 shut:∀k,k<pl.length->(ix pl k).1=56->(ix pl k).2.2.1=0
 phi:∀k,k<pl.length->(ix pl k).1=245->(ix pl k).2.2.2.length % 2=0
 lab:∀f∈fl,(f.bk.map (·.1)).Nodup
theorem zmz:(match frm 55 with |some f=>f.re |none=>false)=true:=by decide +kernel
theorem znL:(match frm 56 with |some f=>!f.re |none=>false)=true:=by decide +kernel
theorem zpn{bd:Int}{pl:List PI}(hs:(zK bd pl).1=0){k:Nat}(hk:k<pl.length){op:Int}(h:(ix pl k).1=op):∃f,frm op=some f/\(f.re=true->(ix pl k).2.2.1≠0)/\(f.re=false->(ix pl k).2.2.1=0)/\YO f (ix pl k).2.2.2.length=true:=by
 have hf:=(zam hs).2 k hk
 rw[Zm hk]at h⊢
 obtain⟨f,hf,_,h2,_,h4,_⟩:=ze1 hf
 rw[h]at hf
 refine⟨f,hf,λe=>?_,λe=>?_,h4⟩
 ·rw[e]at h2
  intro e
  rw[e]at h2
  simp[idP]at h2
 ·rw[e]at h2
  unfold idP at h2
  by_cases hz:pl[k].2.2.1=0
  ·exact hz
  ·rw[if_neg (by simp[hz])]at h2
   cases h2
theorem zpt:(match frm 245 with |some f=>decide (f.fixed.length % 2=0)&&decide (f.rest.length=2) |none=>false)=true:=by decide +kernel
theorem zps{bd:Int}{pl:List PI}(hs:(zK bd pl).1=0){k:Nat}(hk:k<pl.length)(h:(ix pl k).1=245):(ix pl k).2.2.2.length % 2=0:=by
 obtain⟨f,hf,_,_,hw⟩:=zpn hs hk h
 have h1:=zpt
 rw[hf]at h1
 have h1:(decide (f.fixed.length % 2=0)&&decide (f.rest.length=2))=true:=h1
 rw[Bool.and_eq_true,decide_eq_true_eq,decide_eq_true_eq]at h1
 unfold YO at hw
 split at hw
 ·cases hw
 ·rw[if_neg (by omega),h1.2,beq_iff_eq]at hw
  omega
theorem Fls.of{bd:Int}{pl:List PI}(hp:PlOk pl)(h0:0<=bd)(h:(yh bd pl).1=0):Fls pl (cutF pl pl.length):=by
 have hw:=zjX.of hp h0 h
 obtain⟨_,hl,_⟩:=zez h
 have hs:=hw.shape
 obtain⟨t1,t2⟩:=znm hl
 refine⟨rfl,t1,t2,zmb hl,λi j hi hj hn e=>?_,λk hk h=>zld hs hk h,λk hk h=>?_,λk hk h=>?_,λk hk h=>zps hs hk h,λf hf=>zkm hp h0 h (zmb hl f hf)⟩
 ·by_cases h1:i<j
  ·exact(hw.new j hj (by rw[<-e];exact hn) i h1 hi e).elim
  ·by_cases h2:j<i
   ·exact(hw.new i hi hn j h2 hj e.symm).elim
   ·omega
 ·obtain⟨f,hf,q,_⟩:=zpn hs hk h
  have h1:=zmz
  rw[hf]at h1
  exact q h1
 ·obtain⟨f,hf,_,q,_⟩:=zpn hs hk h
  have h1:=znL
  rw[hf]at h1
  exact q (by simpa using h1)
theorem YJ{fl:List FnL}{n:Nat}(h:n<fl.length):fx fl n∈fl:=by
 unfold fx
 rw[zt h]
 exact List.getElem_mem h
theorem zgO{bk:List Bk3}{n:Nat}(h:n<bk.length):bx bk n∈bk:=by
 unfold bx
 rw[zt h]
 exact List.getElem_mem h
section
variable {pl:List PI} {fl:List FnL} (F:Fls pl fl)
include F
theorem Fls.make{k:Nat}(hk:k<pl.length)(h0:(ix pl k).2.2.1≠0):mkA pl (ix pl k).2.2.1=(k:Int):=by
 unfold mkA ya
 rw[zbt hk (show mk1 pl (ix pl k).2.2.1 k=true by unfold mk1;rw[Bool.and_eq_true];exact⟨beq_self_eq_true _,bne_iff_ne.2 h0⟩) λj hj=>?_]
 unfold mk1
 rw[Bool.and_eq_false_iff]
 left
 rw[beq_eq_false_iff_ne]
 intro e
 have:=F.new j k (by omega) hk (by rw[show(ix pl j).2.2.1=(ix pl k).2.2.1 from e];exact h0) e
 omega
theorem Fls.fnO_at{n:Nat}(hn:n<fl.length){p:Int}(h1:(fx fl n).at_<p)(h2:p<=(fx fl n).en):fnO fl p=some n:=by
 refine zbt hn (decide_eq_true ⟨h1,h2⟩) λj hj=>decide_eq_false λh=>?_
 have:=List.pairwise_iff_getElem.1 F.pw j n (by omega) hn hj
 unfold fx at h h1
 rw[zt (by omega)]at h h1
 omega
theorem Fls.tl{n:Nat}(hn:n<fl.length):∃a e:Nat,(fx fl n).at_=(a:Int)/\(fx fl n).en=(e:Int)/\a<e/\e<pl.length/\(ix pl a).1=54/\(ix pl e).1=56/\Tile pl a e (fx fl n).ps (fx fl n).bk:=(F.tile _ (YJ hn)).ex
theorem Fls.bl{n k:Nat}(hn:n<fl.length)(hk:k<(fx fl n).bk.length):∃f t:Nat,bx (fx fl n).bk k=((ix pl f).2.2.1,(f:Int),(t:Int))/\f+2<=t/\t<pl.length/\(ix pl f).1=248/\(fx fl n).at_<f/\(t:Int)<=(fx fl n).en:=by
 obtain⟨f,t,h1,h2,h3,h4,_⟩:=((F.fn _ (YJ hn)).ok _ (zgO hk)).ex
 obtain⟨a,e,q1,q2,q3,q4,_,_,T⟩:=F.tl hn
 have:=T.bks _ (zgO hk)
 rw[h1]at this
 dsimp only at this
 exact⟨f,t,h1,h2,by omega,h4,by omega,by omega⟩
theorem Fls.bk_lt{n j k:Nat}(hn:n<fl.length)(hk:k<(fx fl n).bk.length)(hj:j<k):(bx (fx fl n).bk j).2.2<=(bx (fx fl n).bk k).2.1:=by
 obtain⟨a,e,q1,q2,q3,q4,_,_,T⟩:=F.tl hn
 have:=List.pairwise_iff_getElem.1 T.lt j k (by omega) hk hj
 unfold bx
 rw[zt (by omega),zt hk]
 exact this
theorem Fls.bkO_at{n k:Nat}(hn:n<fl.length)(hk:k<(fx fl n).bk.length){p:Int}(h1:(bx (fx fl n).bk k).2.1<=p)(h2:p<(bx (fx fl n).bk k).2.2):bkO (fx fl n).bk p=some k:=by
 refine zbt hk (decide_eq_true ⟨h1,h2⟩) λj hj=>decide_eq_false λh=>?_
 have:=F.bk_lt hn hk hj
 omega
theorem Fls.homeP{n:Nat}(hn:n<fl.length){p:Int}(hp:p∈(fx fl n).ps):∃k:Nat,p=(k:Int)/\k<pl.length/\hmO pl fl (ix pl k).2.2.1=some ((n:Int),-1,(k:Int),false,()):=by
 obtain⟨a,e,q1,q2,q3,q4,_,_,T⟩:=F.tl hn
 obtain⟨k,rfl,h1,h2,h3⟩:=T.par p hp
 have hk:k<pl.length:=by omega
 refine⟨k,rfl,hk,?_⟩
 unfold hmO
 rw[F.make hk (F.param k hk h3),F.fnO_at hn (by omega) (by omega),Option.map_some,show bkO (fx fl n).bk (k:Int)=none from ziP λj hj=>decide_eq_false λh=>?_]
 ·show some ((n:Int),(-1:Int),(k:Int),(ix pl k).1==248,())=_
  rw[h3]
  rfl
 ·have:=T.pb _ hp _ (zgO hj)
  omega
theorem Fls.homeB{n k i:Nat}(hn:n<fl.length)(hk:k<(fx fl n).bk.length)(h1:(bx (fx fl n).bk k).2.1<=(i:Int))(h2:(i:Int)<(bx (fx fl n).bk k).2.2)(h0:(ix pl i).2.2.1≠0) :
  hmO pl fl (ix pl i).2.2.1=some ((n:Int),(k:Int),(i:Int),(ix pl i).1==248,()):=by
 obtain⟨f,t,hb,h3,h4,h5,h6,h7⟩:=F.bl hn hk
 have e1:(bx (fx fl n).bk k).2.1=(f:Int):=by rw[hb]
 have e2:(bx (fx fl n).bk k).2.2=(t:Int):=by rw[hb]
 unfold hmO
 rw[F.make (by omega) h0,F.fnO_at hn (by omega) (by omega),Option.map_some,F.bkO_at hn hk h1 h2]
 rfl
theorem Fls.homeL{n k:Nat}(hn:n<fl.length)(hk:k<(fx fl n).bk.length):hmO pl fl (bx (fx fl n).bk k).1=some ((n:Int),(k:Int),(bx (fx fl n).bk k).2.1,true,()):=by
 obtain⟨f,t,hb,h3,h4,h5,h6,h7⟩:=F.bl hn hk
 have:=F.homeB hn hk (i:=f) (by rw[hb];exact Int.le_refl _) (by rw[hb];dsimp only;omega) (F.label f (by omega) h5)
 rw[hb]
 rw[h5]at this
 exact this
theorem Fls.homeI{n k i:Nat}(hn:n<fl.length)(hk:k<(fx fl n).bk.length)(h1:(bx (fx fl n).bk k).2.1<(i:Int))(h2:(i:Int)<(bx (fx fl n).bk k).2.2)(h0:(ix pl i).2.2.1≠0) :
  hmO pl fl (ix pl i).2.2.1=some ((n:Int),(k:Int),(i:Int),false,()):=by
 rw[F.homeB hn hk (by omega) h2 h0]
 obtain⟨a,e,q1,q2,q3,q4,_,_,T⟩:=F.tl hn
 have:=T.nl _ (zgO hk) i h1 h2
 rw[beq_eq_false_iff_ne.2 this]
theorem Fls.home_inv{id:Int}{h:Hm}(hh:hmO pl fl id=some h):∃n i:Nat,h.1=(n:Int)/\n<fl.length/\i<pl.length/\h.2.2.1=(i:Int)/\(ix pl i).2.2.1=id/\id≠0/\(fx fl n).at_<(i:Int)/\(i:Int)<(fx fl n).en/\
  ((h.2.1=-1/\(i:Int)∈(fx fl n).ps/\h.2.2.2.1=false)\/∃k,k<(fx fl n).bk.length/\h.2.1=(k:Int)/\(bx (fx fl n).bk k).2.1<=(i:Int)/\(i:Int)<(bx (fx fl n).bk k).2.2/\h.2.2.2.1=((ix pl i).1==248)):=by
 unfold hmO at hh
 cases hf:fnO fl (mkA pl id) with
 |none=>rw[hf]at hh;cases hh
 |some n=>
  rw[hf,Option.map_some,Option.some.injEq]at hh
  obtain⟨hn,hd,_⟩:=zal hf
  obtain⟨d1,d2⟩:=of_decide_eq_true hd
  obtain⟨a,e,q1,q2,q3,q4,q5,q6,T⟩:=F.tl hn
  have h0:0<=mkA pl id:=by omega
  obtain⟨i,hi⟩:=Int.eq_ofNat_of_zero_le h0
  have hfi:(List.range pl.length).find? (mk1 pl id)=some i:=by
   unfold mkA ya at hi
   cases hq:(List.range pl.length).find? (mk1 pl id) with
   |none=>rw[hq]at hi;exact absurd hi (by simp)
   |some j=>rw[hq]at hi;congr 1;have hi:(j:Int)=(i:Int):=hi;omega
  obtain⟨hil,hm,_⟩:=zal hfi
  unfold mk1 at hm
  rw[Bool.and_eq_true,beq_iff_eq,bne_iff_ne]at hm
  have hm1:(ix pl i).2.2.1=id:=hm.1
  rw[hi]at hh d1 d2
  have hie:i≠e:=λx=>by
   subst x
   exact hm.2 (hm1▸F.shut i hil q6)
  have hlt:(i:Int)<(fx fl n).en:=by omega
  refine⟨n,i,by rw[<-hh],hn,hil,by rw[<-hh],hm1,hm.2,d1,hlt,?_⟩
  rcases T.all i (by omega) (by omega) with hps | ⟨b,hb,b1,b2⟩
  ·left
   obtain⟨k,_,_,hk⟩:=F.homeP hn hps
   have:k=i:=by omega
   subst this
   rw[hm1]at hk
   have he:hmO pl fl id=some h:=by unfold hmO;rw[hf,Option.map_some,hi,hh]
   rw[hk,Option.some.injEq]at he
   rw[<-he]
   exact⟨rfl,hps,rfl⟩
  ·right
   obtain⟨k,hk,rfl⟩:=List.getElem_of_mem hb
   have hbx:bx (fx fl n).bk k=(fx fl n).bk[k]:=zt hk
   refine⟨k,hk,?_,by rw[hbx];exact b1,by rw[hbx];exact b2,by rw[<-hh];rfl⟩
   rw[<-hh]
   show ovI (bkO (fx fl n).bk (i:Int))=_
   rw[F.bkO_at hn hk (by rw[hbx];exact b1) (by rw[hbx];exact b2)]
   rfl
end
def ownP(pl:List PI)(fl:List FnL)(n:Nat)(id:Int):Bool:=match hmO pl fl id with
 |some h=>h.1==(n:Int)&&!h.2.2.2.1
 |none=>false
open Classical in
noncomputable def mayU(pl:List PI)(fl:List FnL)(nx:List (List Nat))(n:Nat)(id:Int)(k:Nat)(p:Int):Bool:=
 if ownP pl fl n id=true/\zO nx (-1) k then(match bkO (fx fl n).bk (mkA pl id) with
  |none=>true
  |some h=>if h=k then decide (mkA pl id<p) else decide (¬zO nx (h:Int) k)) else true
def valN(al:List Ag):Nat->List Int
 | 0=>[]
 |k+1=>if k % 2=0 then valN al k++[(al.getD k ag0).2.1] else valN al k
def parN(al:List Ag):Nat->List Int
 | 0=>[]
 |k+1=>if k % 2=0 then parN al k else parN al k++[(al.getD k ag0).2.1]
def lbN(bk:List Bk3)(id:Int):Nat:=(lbO bk id).getD 0
def zd5(bk:List Bk3)(nx:List (List Nat))(k:Nat):List Int:=((zD nx).getD k []).map λp=>(bx bk p).1
def othP(pl:List PI)(fl:List FnL)(n:Nat)(id:Int):Bool:=match hmO pl fl id with
 |some h=>h.1 !=(n:Int)
 |none=>false
open Classical in
noncomputable def fltU(pl:List PI)(fl:List FnL)(nx:List (List Nat))(n k i:Nat):Int:=
 if (zN pl i).any (othP pl fl n)=true then 192
 else if (ix pl i).1≠245 then(if (zN pl i).any (λid=>!mayU pl fl nx n id k i)=true then 190 else 0)
 else if ¬(zd5 (fx fl n).bk nx k).Perm (parN (ix pl i).2.2.2 (ix pl i).2.2.2.length) then 191
 else if (List.range ((ix pl i).2.2.2.length / 2)).any (λj=>!mayU pl fl nx n ((ix pl i).2.2.2.getD (2*j) ag0).2.1 (lbN (fx fl n).bk ((ix pl i).2.2.2.getD (2*j+1) ag0).2.1) (bx (fx fl n).bk (lbN (fx fl n).bk ((ix pl i).2.2.2.getD (2*j+1) ag0).2.1)).2.2)=true then 190
 else 0
abbrev nxF(pl:List PI)(fl:List FnL)(n:Nat):List (List Nat):=Zz (Y2 pl (fx fl n).bk)
noncomputable def bodK(pl:List PI)(fl:List FnL)(n k:Nat):Option (Int×Int):=(List.range pl.length).findSome? λ(i:Nat)=>
 if ((bx (fx fl n).bk k).2.1<=(i:Int)/\(i:Int)<(bx (fx fl n).bk k).2.2)/\fltU pl fl (nxF pl fl n) n k i≠0 then some (fltU pl fl (nxF pl fl n) n k i,(i:Int)) else none
noncomputable def bodE(pl:List PI)(fl:List FnL)(n:Nat):Option (Int×Int):=(List.range (fx fl n).bk.length).findSome? (bodK pl fl n)
noncomputable def flwE(x:Mo)(pl:List PI)(fl:List FnL)(n:Nat):Option (Int×Int):=if (gnwE x pl (fx fl n)).1≠0 then some (gnwE x pl (fx fl n)) else bodE pl fl n
noncomputable def floE(x:Mo)(pl:List PI):Int×Int:=if (yh x.2.1 pl).1≠0 then((yh x.2.1 pl).1,((yh x.2.1 pl).2:Int)) else
 match (List.range (cutF pl pl.length).length).findSome? (flwE x pl (cutF pl pl.length)) with
 |some p=>p
 |none=>(0,0)
end Go.Proofs
namespace Go.Gk
open Go.RowKit Go.MapKept
variable {P:Program} {α:Type}
def zP:List (Int×α)->Int->Option α
 | [],_=>none
 |p::r,k=>if k=p.1 then some p.2 else zP r k
def setQ:List (Int×α)->Int->α->List (Int×α)
 | [],k,v=>[(k,v)]
 |p::r,k,v=>if k=p.1 then(k,v)::r else p::setQ r k v
def delQ:List (Int×α)->Int->List (Int×α)
 | [],_=>[]
 |p::r,k=>if k=p.1 then r else p::delQ r k
theorem ze5(k:Int)(v:α)(k':Int):∀L,zP (setQ L k v) k'=if k'=k then some v else zP L k'
 | []=>by simp only[setQ,zP]
 |p::r=>by
  have ih:=ze5 k v k' r
  simp only[setQ]
  split
  ·rename_i e
   simp only[zP]
   split
   ·rfl
   ·rename_i e'
    rw[if_neg (by rw[<-e];exact e')]
  ·rename_i e
   simp only[zP]
   split
   ·rename_i e'
    rw[if_neg (by rw[e'];exact λh=>e h.symm)]
   ·exact ih
theorem zcR{k:Int}:∀{L:List (Int×α)},zP L k=none↔k ∉ L.map (·.1)
 | []=>by simp[zP]
 |p::r=>by
  simp only[zP,List.map_cons,List.mem_cons,not_or]
  split
  ·rename_i e
   simp[e]
  ·rename_i e
   rw[zcR (L:=r)]
   simp[e]
theorem zjN(k:Int)(v:α):∀L:List (Int×α),(setQ L k v).map (·.1)=if k∈L.map (·.1) then L.map (·.1) else L.map (·.1)++[k]
 | []=>by simp[setQ]
 |p::r=>by
  simp only[setQ]
  split
  ·rename_i e
   simp[e]
  ·rename_i e
   rw[List.map_cons,zjN k v r,List.map_cons]
   by_cases h:k∈r.map (·.1)
   ·rw[if_pos h,if_pos (List.mem_cons_of_mem _ h)]
   ·rw[if_neg h,if_neg (by rw[List.mem_cons];exact λq=>q.elim e h)]
    rfl
theorem ziS{k:Int}{v:α}{L:List (Int×α)}(h:(L.map (·.1)).Nodup):((setQ L k v).map (·.1)).Nodup:=by
 rw[zjN]
 split
 ·exact h
 ·rename_i e
  exact List.nodup_append.2 ⟨h,by simp,λa ha b hb=>by rw[List.mem_singleton.1 hb];rintro rfl;exact e ha⟩
theorem zkN(k:Int):∀L:List (Int×α),(delQ L k).Sublist L
 | []=>.slnil
 |p::r=>by
  simp only[delQ]
  split
  ·exact List.sublist_cons_self ..
  ·exact(zkN k r).cons_cons p
theorem zi0{k:Int}{L:List (Int×α)}(h:(L.map (·.1)).Nodup):((delQ L k).map (·.1)).Nodup:=h.sublist ((zkN k L).map _)
theorem zjB(k k':Int):∀{L:List (Int×α)},(L.map (·.1)).Nodup->zP (delQ L k) k'=if k'=k then none else zP L k'
 | [],_=>by simp[delQ,zP]
 |p::r,hd=>by
  rw[List.map_cons,List.nodup_cons]at hd
  have ih:=zjB k k' hd.2
  simp only[delQ]
  split
  ·rename_i e
   simp only[zP]
   by_cases e':k'=k
   ·rw[if_pos e',zcR,e',e]
    exact hd.1
   ·rw[if_neg e',if_neg (by rw[<-e];exact e')]
  ·rename_i e
   simp only[zP,ih]
   by_cases e':k'=p.1
   ·rw[if_pos e',if_pos e',if_neg (by rw[e'];exact λh=>e h.symm)]
   ·rw[if_neg e',if_neg e']
theorem zjv{k:Int}:∀{L:List (Int×α)},zP L k=none->delQ L k=L
 | [],_=>rfl
 |p::r,h=>by
  simp only[zP]at h
  split at h
  ·cases h
  ·rename_i e
   simp only[delQ]
   rw[if_neg e,zjv h]
structure IsMq (w:World) (r:Nat) (f:α->Value) (L:List (Int×α)):Prop where
 ex:∃es clock,w.heap[r]? =some (.map es clock)/\es.toList.map (λe=>(e.key,e.val))=(L.map λp=>(Value.int .u32 p.1,f p.2))/\(∀x∈es.toList,x.born<clock)/\(es.toList.map (·.born)).Nodup
 nd:(L.map (·.1)).Nodup
variable {f:α->Value} {w w':World} {r:Nat} {L:List (Int×α)}
theorem IsMq.lt(h:IsMq w r f L):r<w.heap.size:=by
 obtain⟨es,c,h,_⟩:=h.ex
 exact(Array.getElem?_eq_some_iff.1 h).1
theorem IsMq.of_block(h:IsMq w r f L)(hb:w'.heap[r]? =w.heap[r]?):IsMq w' r f L:=by
 obtain⟨es,c,h1,h2⟩:=h.ex
 exact⟨⟨es,c,hb.trans h1,h2⟩,h.nd⟩
theorem IsMq.below(h:IsMq w r f L)(hb:Below w.heap.size w w'):IsMq w' r f L:=h.of_block (hb.block r h.lt)
theorem IsMq.new(w:World)(f:α->Value):IsMq (w.alloc (.map #[] 0)) w.heap.size f []:=⟨⟨#[],0,by show(w.heap.push _)[w.heap.size]? =_;simp,rfl,(by simp),by simp⟩,by simp⟩
theorem IsMq.notBlk(h:IsMq w r f L){b:Nat}{T:TypeId}{cs:List Value}(hB:Blk w b T cs):r≠b:=by
 rintro rfl
 obtain⟨es,c,h,_⟩:=h.ex
 have:=(show w.heap[r]? =_ from hB).symm.trans h
 simp at this
theorem zgl(f:α->Value)(k:Int):∀(es:List MapEntry) (L:List (Int×α)) (i:Nat),es.map (λe=>(e.key,e.val))=(L.map λp=>(Value.int .u32 p.1,f p.2))->
  ∃o,Instr.findNow (.int .u32) (.int .u32 k) es i=some o/\(match o with
   |none=>zP L k=none
   |some (j,v)=>∃m x,j=i+m/\m<es.length/\v=f x/\zP L k=some x/\(es.eraseIdx m).map (λe=>(e.key,e.val))=((delQ L k).map λp=>(Value.int .u32 p.1,f p.2))/\∃e,es[m]? =some e/\e.key =.int .u32 k/\
     ∀v',(es.modify m λe=>{e with key:=.int .u32 k,val:=f v'}).map (λe=>(e.key,e.val))=(setQ L k v').map λp=>(Value.int .u32 p.1,f p.2))
 | [],[],i,_=>⟨none,rfl,rfl⟩
 | [],_::_,_,h=>by simp at h
 |_::_,[],_,h=>by simp at h
 |e::es,p::L,i,h=>by
  simp only[List.map_cons,List.cons.injEq,Prod.mk.injEq]at h
  obtain⟨⟨h1,h2⟩,h3⟩:=h
  unfold Instr.findNow
  rw[h1]
  simp only[Instr.sameNow,if_true]
  by_cases hk:k=p.1
  ·rw[show(k==p.1)=true from beq_iff_eq.2 hk]
   refine⟨some (i,e.val),rfl,0,p.2,rfl,by simp,h2,by simp[zP,hk],by simp[delQ,hk,h3],e,rfl,by rw[h1,hk],λv'=>?_⟩
   simp[setQ,hk,h3]
  ·rw[show(k==p.1)=false from beq_eq_false_iff_ne.2 hk]
   obtain⟨o,ho,hm⟩:=zgl f k es L (i+1) h3
   refine⟨o,ho,?_⟩
   cases o with
   |none=>simpa[zP,hk] using hm
   |some q=>
    obtain⟨j,v⟩:=q
    obtain⟨m,x,g1,g2,g3,g4,gd,e',g5,g6,g7⟩:=hm
    refine⟨m+1,x,by omega,by simp;omega,g3,by simpa[zP,hk] using g4,by simp[delQ,hk,h1,h2,gd],e',by simpa using g5,g6,λv'=>?_⟩
    have:=g7 v'
    simp[setQ,hk,h1,h2,this]
theorem zho{t kt et:TypeId}(ht:P.underlying t=some (.map kt et))(hk:P.underlying kt=some (.int .u32)){d:α}(hz:∃i,P.info? et=some i/\i.zero=some (f d))(h:IsMq w r f L)(k:Int)(ok:Bool) :
  (Instr.lookup t (.map (some r)) (.int .u32 k) ok).run P w =.ok (if ok then .tuple #[f ((zP L k).getD d),.bool (zP L k).isSome] else f ((zP L k).getD d)) w:=by
 obtain⟨es,c,hb,hes,_⟩:=h.ex
 obtain⟨i,hi,hzi⟩:=hz
 obtain⟨o,ho,hm⟩:=zgl f k es.toList L 0 hes
 unfold Instr.lookup
 have hck:∀e,(Instr.checkKey e 10000 kt (.int .u32 k)).run P w =.ok () w:=λe=>run_checkKey (d:=.int .u32) hk (by simp[IsKey]) e 9999
 have hg:(getObj r).run P w =.ok (.map es c) w:=Go.MapKept.run_getObj_map hb
 simp only[Sem.run_bind,run_underlying ht,Result.andThen_ok,hg,Sem.run_pure,hck,run_findKey hk ho]
 cases o with
 |none=>
  have hzr:(zeroValue et).run P w =.ok (f d) w:=by simp[zeroValue,typeInfo,hi,hzi,Result.andThen]
  have hm:zP L k=none:=hm
  simp only[Sem.run_bind,hzr,Result.andThen_ok,Sem.run_pure,hm,Option.getD_none,Option.isSome_none]
 |some q=>
  obtain⟨j,v⟩:=q
  obtain⟨m,x,g1,g2,g3,g4,_⟩:=hm
  simp only[Sem.run_bind,Sem.run_pure,Result.andThen_ok,g3,g4,Option.getD_some,Option.isSome_some]
abbrev aggQ(ks:List BK)(t:HL ks):Value:=.agg (HL.cells ks t).toArray
theorem zmq{ks:List BK}{L:List (Int×HL ks)}{t kt et:TypeId}(ht:P.underlying t=some (.map kt et))(hk:P.underlying kt=some (.int .u32)){d:HL ks}(hz:∃i,P.info? et=some i/\i.zero=some (aggQ ks d))(h:IsMq w r (aggQ ks) L){k:Int}
  {φ:HL ks->Bool->Prop} (hφ:φ ((zP L k).getD d) (zP L k).isSome):ze4 P t (.map (some r)) (.int .u32 k) ks w φ:=⟨(zP L k).getD d,(zP L k).isSome,zho ht hk hz h k true,hφ⟩
theorem zn6{ks:List BK}{L:List (Int×HL ks)}{t kt et:TypeId}(ht:P.underlying t=some (.map kt et))(hk:P.underlying kt=some (.int .u32)){d:HL ks}(hz:∃i,P.info? et=some i/\i.zero=some (aggQ ks d))(h:IsMq w r (aggQ ks) L){k:Int}
  {φ:HL ks->Prop} (hφ:φ ((zP L k).getD d)):ziF P t (.map (some r)) (.int .u32 k) ks w φ:=⟨(zP L k).getD d,zho ht hk hz h k false,hφ⟩
theorem zn7{κ:IntKind}{L:List (Int×Int)}{t kt et:TypeId}(ht:P.underlying t=some (.map kt et))(hk:P.underlying kt=some (.int .u32))(hz:∃i,P.info? et=some i/\i.zero=some (.int κ 0))(h:IsMq w r (Value.int κ) L){k:Int}
  {φ:Int->Prop} (hφ:φ ((zP L k).getD 0)):ziE P t (.map (some r)) (.int .u32 k) (BK.int κ) w φ:=⟨(zP L k).getD 0,zho ht hk hz h k false,hφ⟩
theorem zey(r:Nat)(w:World)(ob:Obj):Go.Proofs.Chg r w {w with heap:=w.heap.setIfInBounds r ob}:=⟨rfl,rfl,rfl,by simp,λi hi=>by simp[Array.getElem?_setIfInBounds_ne (Ne.symm hi)]⟩
theorem zib{t kt et:TypeId}(ht:P.underlying t=some (.map kt et))(hk:P.underlying kt=some (.int .u32))(h:IsMq w r f L){k:Int}{v:α}{y:Value}(hy:y=f v){K:World->Prop}
  (hK:∀w',IsMq w' r f (setQ L k v)->Go.Proofs.Chg r w w'->K w'):updW P t (.map (some r)) (.int .u32 k) y w K:=by
 subst hy
 have hlt:=h.lt
 obtain⟨⟨es,c,hb,hes,hstamp,hnd⟩,hkd⟩:=h
 obtain⟨o,ho,hm⟩:=zgl f k es.toList L 0 hes
 have hck:∀e,(Instr.checkKey e 10000 kt (.int .u32 k)).run P w =.ok () w:=λe=>run_checkKey (d:=.int .u32) hk (by simp[IsKey]) e 9999
 have hg:(getObj r).run P w =.ok (.map es c) w:=Go.MapKept.run_getObj_map hb
 unfold updW Instr.mapUpdate
 simp only[Sem.run_bind,run_underlying ht,Result.andThen_ok,hg,Sem.run_pure,hck,run_findKey hk ho]
 cases o with
 |none=>
  simp only[run_setObj_map _ hb]
  refine⟨_,rfl,hK _ ⟨⟨_,_,(heap_set hb).1,?_,λx hx=>?_,?_⟩,ziS hkd⟩ (zey _ _ _)⟩
  rotate_left
  ·rw[Array.toList_push]at hx
   rcases List.mem_append.1 hx with hx |hx
   ·exact Nat.lt_succ_of_lt (hstamp x hx)
   ·rw[List.mem_singleton.1 hx]
    exact Nat.lt_succ_self c
  ·rw[Array.toList_push,List.map_append]
   refine List.nodup_append.2 ⟨hnd,by simp,?_⟩
   intro a ha b hb e
   obtain⟨x,hx,rfl⟩:=List.mem_map.1 ha
   simp only[List.map_cons,List.map_nil,List.mem_singleton]at hb
   have:=hstamp x hx
   omega
  simp only[Array.toList_push,List.map_append,hes,List.map_cons,List.map_nil]
  have:∀L:List (Int×α),zP L k=none->setQ L k v=L++[(k,v)]:=by
   intro L
   induction L with
   |nil=>intro _;rfl
   |cons p r ih=>
    intro hn
    simp only[zP]at hn
    split at hn
    ·cases hn
    ·rename_i e
     simp only[setQ]
     rw[if_neg e,ih hn]
     rfl
  rw[this L hm]
  simp
 |some q=>
  obtain⟨j,v0⟩:=q
  obtain⟨m,x,g1,g2,g3,g4,_,e,g5,g6,g7⟩:=hm
  have hj:j=m:=by omega
  subst hj
  have hst:(Instr.keyThatStays (((es[j]?).map (·.key)).getD (.int .u32 k)) (.int .u32 k)).run P w =.ok (.int .u32 k) w:=by
   have:((es[j]?).map (·.key)).getD (.int .u32 k) =.int .u32 k:=by
    rw[<-Array.getElem?_toList,g5]
    exact g6
   rw[this]
   unfold Instr.keyThatStays
   rw[if_pos (by simp[Instr.sameBits])]
   rfl
  simp only[Sem.run_bind,hst,Result.andThen_ok,run_setObj_map _ hb]
  have hbn:(es.modify j λe=>{e with key:=.int .u32 k,val:=f v}).toList.map (·.born)=es.toList.map (·.born):=by
   rw[Array.toList_modify]
   apply List.ext_getElem
   ·simp
   ·intro n q1 q2
    simp only[List.getElem_map,List.getElem_modify]
    split<;>rfl
  refine⟨_,rfl,hK _ ⟨⟨_,_,(heap_set hb).1,?_,λx hx=>?_,by rw[hbn];exact hnd⟩,ziS hkd⟩ (zey _ _ _)⟩
  rotate_left
  ·have:x.born∈es.toList.map (·.born):=by rw[<-hbn];exact List.mem_map.2 ⟨x,hx,rfl⟩
   obtain⟨y,hy,e⟩:=List.mem_map.1 this
   rw[<-e]
   exact hstamp y hy
  have:=g7 v
  rw[<-this]
  congr 1
  rw[Array.toList_modify]
theorem zpN{t kt et:TypeId}(ht:P.underlying t=some (.map kt et))(hk:P.underlying kt=some (.int .u32))(h:IsMq w r f L){k:Int}{K:World->Prop}
  (hK:∀w',IsMq w' r f (delQ L k)->Go.Proofs.Chg r w w'->K w') {ts:Array TypeId} (hts:ts[0]? =some t):delS P ts (.map (some r)) (.int .u32 k) w K:=by
 obtain⟨⟨es,c,hb,hes,hstamp,hnd⟩,hkd⟩:=h
 obtain⟨o,ho,hm⟩:=zgl f k es.toList L 0 hes
 have hck:∀e,(Instr.checkKey e 10000 kt (.int .u32 k)).run P w =.ok () w:=λe=>run_checkKey (d:=.int .u32) hk (by simp[IsKey]) e 9999
 have hg:(getObj r).run P w =.ok (.map es c) w:=Go.MapKept.run_getObj_map hb
 unfold delS Builtin.delete_
 rw[hts]
 simp only[List.getElem?_toArray,List.getElem?_cons_zero,List.getElem?_cons_succ,Sem.run_bind,run_underlying ht,Result.andThen_ok,hg,Sem.run_pure,hck,run_findKey hk ho]
 cases o with
 |none=>
  simp only[Sem.run_bind,run_setObj_map _ hb,Result.andThen_ok,Sem.run_pure]
  have hm:zP L k=none:=hm
  exact⟨_,rfl,hK _ ⟨⟨_,_,(heap_set hb).1,by rw[zjv hm];exact hes,hstamp,hnd⟩,zi0 hkd⟩ (zey _ _ _)⟩
 |some q=>
  obtain⟨j,v0⟩:=q
  obtain⟨m,x,g1,g2,g3,g4,gd,_⟩:=hm
  have hj:j=m:=by omega
  subst hj
  simp only[Sem.run_bind,run_setObj_map _ hb,Result.andThen_ok,Sem.run_pure]
  have hl:j<es.size:=by simpa using g2
  have hel:(es.eraseIdxIfInBounds j).toList=es.toList.eraseIdx j:=by
   unfold Array.eraseIdxIfInBounds
   rw[dif_pos hl]
   simp
  refine⟨_,rfl,hK _ ⟨⟨_,_,(heap_set hb).1,by rw[hel];exact gd,λx hx=>?_,?_⟩,zi0 hkd⟩ (zey _ _ _)⟩
  ·rw[hel]at hx
   exact hstamp x (List.mem_of_mem_eraseIdx hx)
  ·rw[hel]
   exact hnd.sublist ((List.eraseIdx_sublist ..).map _)
end Go.Gk
namespace Go.Proofs
open Go.Gk
set_option linter.unusedVariables false
set_option maxRecDepth 100000
def Yv:Ann:=(.q (.q (.q (.q .nil))))
def Yq(p0:Value)(R:VWP)(w:World):Prop:=dn 59 #[p0] w λx2 w1=>cR 60 #[x2.zw] w1 λv3 w2=>v3=(.tuple #[])/\R (x2.zw) w2
theorem zbu(p0)(R)(w)(h:Yq p0 R w):Calls Tryz.prog 26 #[p0] w (Ret R):=lwC Yv Tryz.func26 (by kernel_rfl) (by kernel_rfl) h
def ZZ:Ann:=(.q (.q .nil))
def ZW(p0:Value)(R:VWP)(w:World):Prop:=dn 97 #[.slice none 0 0,p0] w λx2 w1=>R (x2.zw) w1
theorem zaH(p0)(R)(w)(h:ZW p0 R w):Calls Tryz.prog 59 #[p0] w (Ret R):=lwC ZZ Tryz.func59 (by kernel_rfl) (by kernel_rfl) h
def Zl:Ann:=(.q .nil)
def zU(p0:Sl)(R:VWP)(w:World):Prop:=dB 99 #[.int .u64 (IntKind.u64.wrap (p0.l:Int))] w λx2 w1=>cR 98 #[p0.zw,zi 0,zi (p0.l:Int),zi x2] w1 λv3 w2=>v3=(.tuple #[])/\R (.tuple #[]) w2
theorem yO(p0)(R)(w)(h:zU p0 R w):Calls Tryz.prog 60 #[.slice p0.a p0.l p0.c] w (Ret R):=lwC Zl Tryz.func60 (by kernel_rfl) (by kernel_rfl) h
def yI:Ann:=(.q (.seq none (.q (.one (.loop ⟨[],[(7,(.b (.int .u32)))]⟩ (.q (.one .nil))))) (.q .nil)))
def yH(p0:Sl)(p1:Value)(R:VWP)(w:World):Prop:=Nw (w.alloc (.cells #[p0.zw] 26)) λw1=>zfv Tryz.prog Tryz.fs p1 w1 (T:=Int×Unit) (λs1=>[(zu s1.1)]) (λmk2 l3 s1 w2 S4=>w2.heap[l3]? =some (mk2 .ready none)/\Nw (w2.putObj l3 (mk2 .busy none)) λw3=>ldS w3 (zB w) λx6=>Nw (w3.alloc (.cells #[zu s1.1] 22)) λw4=>zC Tryz.prog 26 (x6.zw) (.slice (some (zB w3)) 1 1) w4 λr7 w5=>Wr w5 (zB w)/\Nw (w5.setCell (zB w) (r7.zw)) λw6=>w6.heap[l3]? =some (mk2 .busy none)/\S4 (.bool true) (w6.putObj l3 (mk2 .ready none))) (λmk2 l3 d5 w7=>yF mk2 l3 .ready none w7 λw8=>ldS w8 (zB w) λx8=>Yx (d5::[]) w8 λw9=>R (x8.zw) w9)
theorem Z6(p0:Sl)(p1:Value)(R:VWP)(w:World)(h:yH p0 p1 R w):Calls Tryz.prog 97 #[.slice p0.a p0.l p0.c,p1] w (Ret R):=ze6 (fs:=Tryz.fs) (an:=yI) (args:=[(.slice p0.a p0.l p0.c),p1]) Tryz.fsOK Tryz.mixed Tryz.func97 (by kernel_rfl) (by kernel_rfl) (Eq.mpr (by kernel_rfl:zjC Tryz.prog Tryz.fs Tryz.f97 yI [(.slice p0.a p0.l p0.c),p1] w R=yH p0 p1 R w) h)
def yX:Ann:=(.q (.q (.one (.loop ⟨[0],[(1,(.b (.int .i64))),(2,(.b (.int .i64))),(3,(.b (.int .i64))),(8,(.b .bool)),(9,(.b .bool))]⟩ (.one (.q (.seq none (.q (.cond (.q .nil) .nil)) (.seq none (.q (.cond (.q .nil) .nil)) (.seq (some ⟨[0,1,2,8,9,10],[(3,(.b (.int .i64)))]⟩) (.q (.cond (.q .nil) .nil)) (.q (.seq (some ⟨[0,1,2,3,8,9,10],[(11,(.b (.int .i64))),(12,(.b (.int .i64)))]⟩) (.q (.cond (.q (.q .nil)) .nil)) (.seq (some ⟨[0,1,2,3,8,9,10,11],[]⟩) (.q (.cond (.q .c) .nil)) (.seq (some ⟨[0,2,3,10,11],[(1,(.b (.int .i64)))]⟩) (.q (.cond (.q (.q .nil)) .nil)) (.q (.q (.q (.q (.q (.cond (.q (.q .nil)) (.q (.q .nil)))))))))))))))))))))
def yW(p0:Sl)(p1:Int)(p2:Int)(p3:Int)(R:VWP)(w:World):Prop:=zj (S:=Int×Int×Int×Bool×Bool×Unit) (λs1 w1 n2=>ifB (decide ((IntKind.i64.wrap (s1.2.1-s1.1))<=12)) (cR 127 #[p0.zw,zi s1.1,zi s1.2.1] w1 λv3 w2=>v3=(.tuple #[])/\R (.tuple #[]) w2) (ifB (s1.2.2.1==0) (cR 128 #[p0.zw,zi s1.1,zi s1.2.1] w1 λv4 w3=>v4=(.tuple #[])/\R (.tuple #[]) w3) (zk (S:=Int×Unit) (λm5=>ifB (!s1.2.2.2.1) (cR 129 #[p0.zw,zi s1.1,zi s1.2.1] w1 λv7 w4=>v7=(.tuple #[])/\m5 ((IntKind.i64.wrap (s1.2.2.1-(1:Int))),()) w4) (m5 (s1.2.2.1,()) w1)) (λs6 w5=>dR 130 #[p0.zw,zi s1.1,zi s1.2.1] w5 λx9 x10 w6=>zk (S:=Int×Int×Unit) (λm11=>ifB (x10==2) (cR 131 #[p0.zw,zi s1.1,zi s1.2.1] w6 λv13 w7=>v13=(.tuple #[])/\m11 ((IntKind.i64.wrap ((IntKind.i64.wrap (s1.2.1-(1:Int)))-(IntKind.i64.wrap (x9-s1.1)))),1,()) w7) (m11 (x9,x10,()) w6)) (λs12 w8=>zk (S:=Unit) (λm14=>ifB s1.2.2.2.1 (ifB s1.2.2.2.2.1 (ifB (s12.2.1==1) (dv 132 #[p0.zw,zi s1.1,zi s1.2.1] w8 λx17 w9=>ifB x17 (R (.tuple #[]) w9) (m14 () w9)) (m14 () w8)) (m14 () w8)) (m14 () w8)) (λs15 w10=>zk (S:=Int×Unit) (λm18=>ifB (decide (s1.1>(0:Int))) ((0<=(IntKind.i64.wrap (s1.1-(1:Int)))/\(IntKind.i64.wrap (s1.1-(1:Int)))<(p0.l:Int))/\za p0.a λa20=>ldI w10.drew (a20.add (Int.toNat (IntKind.i64.wrap (s1.1-(1:Int))))) .u32 λx21=>(0<=s12.1/\s12.1<(p0.l:Int))/\za p0.a λa22=>ldI w10.drew (a22.add s12.1.toNat) .u32 λx23=>dv 133 #[zu x21,zu x23] w10.drew λx25 w11=>ifB (!x25) (dB 134 #[p0.zw,zi s1.1,zi s1.2.1,zi s12.1] w11 λx27 w12=>n2 (x27,s1.2.1,s6.1,s1.2.2.2.1,s1.2.2.2.2.1,()) w12) (m18 (s1.1,()) w11)) (m18 (s1.1,()) w10.drew)) (λs19 w13=>dU 135 #[p0.zw,zi s19.1,zi s1.2.1,zi s12.1] w13 λx29 x30 w14=>ifB (decide ((IntKind.i64.wrap (x29-s19.1))<(IntKind.i64.wrap (s1.2.1-x29)))) (cR 98 #[p0.zw,zi s19.1,zi x29,zi s6.1] w14 λv31 w15=>v31=(.tuple #[])/\n2 ((IntKind.i64.wrap (x29+(1:Int))),s1.2.1,s6.1,(decide ((IntKind.i64.wrap (x29-s19.1))≥(IntKind.i64.wrap (Int.tdiv (IntKind.i64.wrap (s1.2.1-s1.1)) 8)))),x30,()) w15) (cR 98 #[p0.zw,zi (IntKind.i64.wrap (x29+(1:Int))),zi s1.2.1,zi s6.1] w14 λv32 w16=>v32=(.tuple #[])/\n2 (s19.1,x29,s6.1,(decide ((IntKind.i64.wrap (s1.2.1-x29))≥(IntKind.i64.wrap (Int.tdiv (IntKind.i64.wrap (s1.2.1-s1.1)) 8)))),x30,()) w16)))))))) (p1,p2,p3,true,true,()) w
theorem zW(p0)(p1)(p2)(p3)(R)(w)(h:yW p0 p1 p2 p3 R w):Calls Tryz.prog 98 #[.slice p0.a p0.l p0.c,.int .i64 p1,.int .i64 p2,.int .i64 p3] w (Ret R):=lwC yX Tryz.func98 (by kernel_rfl) (by kernel_rfl) h
def zd1:Ann:=(.q (.seq none (.cond (.q .nil) .nil) (.q .nil)))
def zdn(p0:Int)(R:VWP)(w:World):Prop:=dB 137 #[.int .u64 p0] w λx2 w1=>R (zi x2) w1
theorem zeP(p0)(R)(w)(h:zdn p0 R w):Calls Tryz.prog 99 #[.int .u64 p0] w (Ret R):=lwC zd1 Tryz.func99 (by kernel_rfl) (by kernel_rfl) h
def y7:Ann:=(.q (.one (.loop ⟨[0,1,2],[(6,(.b (.int .i64)))]⟩ (.seq none (.q .c) (.seq (some ⟨[0,1,2,6],[]⟩) (.one (.q (.one (.loop ⟨[0,1,2,6],[(7,(.b (.int .i64)))]⟩ (.seq (some ⟨[0,1,2,6,7],[]⟩) (.q .c) (.seq none (.one .nil) .nil)))))) .nil)))))
def y4(p0:Sl)(p1:Int)(p2:Int)(R:VWP)(w:World):Prop:=zj (S:=Int×Unit) (λs1 w1 n2=>ifB (decide (s1.1<p2)) (zk (S:=Unit) (λm3=>zj (S:=Int×Unit) (λs5 w2 n6=>zk (S:=Unit) (λm7=>ifB (decide (s5.1>p1)) ((0<=s5.1/\s5.1<(p0.l:Int))/\za p0.a λa9=>ldI w2.drew (a9.add s5.1.toNat) .u32 λx10=>(0<=(IntKind.i64.wrap (s5.1-(1:Int)))/\(IntKind.i64.wrap (s5.1-(1:Int)))<(p0.l:Int))/\za p0.a λa11=>ldI w2.drew (a11.add (Int.toNat (IntKind.i64.wrap (s5.1-(1:Int))))) .u32 λx12=>dv 133 #[zu x10,zu x12] w2.drew λx14 w3=>ifB x14 (m7 () w3) (m3 () w3)) (m3 () w2.drew)) (λs8 w4=>(0<=(IntKind.i64.wrap (s5.1-(1:Int)))/\(IntKind.i64.wrap (s5.1-(1:Int)))<(p0.l:Int))/\za p0.a λa15=>ldI w4.drew (a15.add (Int.toNat (IntKind.i64.wrap (s5.1-(1:Int))))) .u32 λx16=>(0<=s5.1/\s5.1<(p0.l:Int))/\za p0.a λa17=>ldI w4.drew (a17.add s5.1.toNat) .u32 λx18=>(0<=s5.1/\s5.1<(p0.l:Int))/\za p0.a λa19=>Wr w4.drew (a19.add s5.1.toNat)/\Nw (w4.drew.setCell (a19.add s5.1.toNat) (zu x16)) λw5=>(0<=(IntKind.i64.wrap (s5.1-(1:Int)))/\(IntKind.i64.wrap (s5.1-(1:Int)))<(p0.l:Int))/\za p0.a λa20=>Wr w5 (a20.add (Int.toNat (IntKind.i64.wrap (s5.1-(1:Int)))))/\Nw (w5.setCell (a20.add (Int.toNat (IntKind.i64.wrap (s5.1-(1:Int))))) (zu x18)) λw6=>n6 ((IntKind.i64.wrap (s5.1-(1:Int))),()) w6)) (s1.1,()) w1) (λs4 w7=>n2 ((IntKind.i64.wrap (s1.1+(1:Int))),()) w7)) (R (.tuple #[]) w1)) ((IntKind.i64.wrap (p1+(1:Int))),()) w
theorem yi(p0)(p1)(p2)(R)(w)(h:y4 p0 p1 p2 R w):Calls Tryz.prog 127 #[.slice p0.a p0.l p0.c,.int .i64 p1,.int .i64 p2] w (Ret R):=lwC y7 Tryz.func127 (by kernel_rfl) (by kernel_rfl) h
def yS:Ann:=(.q (.q (.q (.seq none (.q (.one (.loop ⟨[0,6,7,8],[(9,(.b (.int .i64)))]⟩ (.seq none (.q .c) (.seq none (.one .nil) .nil))))) (.q (.one (.loop ⟨[0,6,7],[(10,(.b (.int .i64)))]⟩ (.seq none (.q .c) (.seq none (.one (.q .nil)) .nil)))))))))
def yc(p0:Sl)(p1:Int)(p2:Int)(R:VWP)(w:World):Prop:=zj (S:=Int×Unit) (λs1 w1 n2=>ifB (decide (s1.1≥(0:Int))) (cR 161 #[p0.zw,zi s1.1,zi (IntKind.i64.wrap (p2-p1)),zi p1] w1 λv3 w2=>v3=(.tuple #[])/\n2 ((IntKind.i64.wrap (s1.1-(1:Int))),()) w2) (zj (S:=Int×Unit) (λs4 w3 n5=>ifB (decide (s4.1≥(0:Int))) ((0<=(IntKind.i64.wrap (p1+s4.1))/\(IntKind.i64.wrap (p1+s4.1))<(p0.l:Int))/\za p0.a λa6=>ldI w3.drew (a6.add (Int.toNat (IntKind.i64.wrap (p1+s4.1)))) .u32 λx7=>(0<=p1/\p1<(p0.l:Int))/\za p0.a λa8=>ldI w3.drew (a8.add p1.toNat) .u32 λx9=>(0<=p1/\p1<(p0.l:Int))/\za p0.a λa10=>Wr w3.drew (a10.add p1.toNat)/\Nw (w3.drew.setCell (a10.add p1.toNat) (zu x7)) λw4=>(0<=(IntKind.i64.wrap (p1+s4.1))/\(IntKind.i64.wrap (p1+s4.1))<(p0.l:Int))/\za p0.a λa11=>Wr w4 (a11.add (Int.toNat (IntKind.i64.wrap (p1+s4.1))))/\Nw (w4.setCell (a11.add (Int.toNat (IntKind.i64.wrap (p1+s4.1)))) (zu x9)) λw5=>cR 161 #[p0.zw,zi 0,zi s4.1,zi p1] w5 λv12 w6=>v12=(.tuple #[])/\n5 ((IntKind.i64.wrap (s4.1-(1:Int))),()) w6) (R (.tuple #[]) w3)) ((IntKind.i64.wrap ((IntKind.i64.wrap (p2-p1))-1)),()) w1)) ((IntKind.i64.wrap (Int.tdiv (IntKind.i64.wrap ((IntKind.i64.wrap (p2-p1))-1)) 2)),()) w
theorem ZL(p0)(p1)(p2)(R)(w)(h:yc p0 p1 p2 R w):Calls Tryz.prog 128 #[.slice p0.a p0.l p0.c,.int .i64 p1,.int .i64 p2] w (Ret R):=lwC yS Tryz.func128 (by kernel_rfl) (by kernel_rfl) h
def y6:Ann:=(.q (.q (.cond (.q (.q (.q (.one (.loop ⟨[0,1,6,7,8],[(9,(.b (.int .i64)))]⟩ (.seq none (.q .c) (.seq none (.one (.q (.seq (some ⟨[0,1,6,7,8,9],[(10,(.b (.int .i64)))]⟩) (.q .c) .nil))) .nil))))))) .nil)))
def zS(p0:Sl)(p1:Int)(p2:Int)(R:VWP)(w:World):Prop:=ifB (decide ((IntKind.i64.wrap (p2-p1))≥8)) (Nw (w.alloc (.cells #[.int .u64 0] 239)) λw1=>Wr w1 (zB w)/\Nw (w1.setCell (zB w) (.int .u64 (IntKind.u64.wrap (IntKind.i64.wrap (p2-p1))))) λw2=>dx51 162 #[zi (IntKind.i64.wrap (p2-p1))] w2 λx2 w3=>zj (S:=Int×Unit) (λs3 w4 n4=>ifB (decide (s3.1<=(IntKind.i64.wrap ((IntKind.i64.wrap (p1+(IntKind.i64.wrap ((IntKind.i64.wrap (Int.tdiv (IntKind.i64.wrap (p2-p1)) 4))*2))))+1)))) (dx51 163 #[.pointer (some (zB w))] w4 λx6 w5=>zk (S:=Int×Unit) (λm7=>ifB (decide ((IntKind.i64.wrap (IntKind.u64.wrap (BitVec.toNat (BitVec.ofInt (IntKind.bits .u64) x6 &&& BitVec.ofInt (IntKind.bits .u64) (IntKind.u64.wrap (x2-(1:Int)))):Int)))≥(IntKind.i64.wrap (p2-p1)))) (m7 ((IntKind.i64.wrap ((IntKind.i64.wrap (IntKind.u64.wrap (BitVec.toNat (BitVec.ofInt (IntKind.bits .u64) x6 &&& BitVec.ofInt (IntKind.bits .u64) (IntKind.u64.wrap (x2-(1:Int)))):Int)))-(IntKind.i64.wrap (p2-p1)))),()) w5) (m7 ((IntKind.i64.wrap (IntKind.u64.wrap (BitVec.toNat (BitVec.ofInt (IntKind.bits .u64) x6 &&& BitVec.ofInt (IntKind.bits .u64) (IntKind.u64.wrap (x2-(1:Int)))):Int))),()) w5)) (λs8 w6=>(0<=(IntKind.i64.wrap (p1+s8.1))/\(IntKind.i64.wrap (p1+s8.1))<(p0.l:Int))/\za p0.a λa9=>ldI w6.drew (a9.add (Int.toNat (IntKind.i64.wrap (p1+s8.1)))) .u32 λx10=>(0<=s3.1/\s3.1<(p0.l:Int))/\za p0.a λa11=>ldI w6.drew (a11.add s3.1.toNat) .u32 λx12=>(0<=s3.1/\s3.1<(p0.l:Int))/\za p0.a λa13=>Wr w6.drew (a13.add s3.1.toNat)/\Nw (w6.drew.setCell (a13.add s3.1.toNat) (zu x10)) λw7=>(0<=(IntKind.i64.wrap (p1+s8.1))/\(IntKind.i64.wrap (p1+s8.1))<(p0.l:Int))/\za p0.a λa14=>Wr w7 (a14.add (Int.toNat (IntKind.i64.wrap (p1+s8.1))))/\Nw (w7.setCell (a14.add (Int.toNat (IntKind.i64.wrap (p1+s8.1)))) (zu x12)) λw8=>n4 ((IntKind.i64.wrap (s3.1+(1:Int))),()) w8)) (R (.tuple #[]) w4)) ((IntKind.i64.wrap ((IntKind.i64.wrap (p1+(IntKind.i64.wrap ((IntKind.i64.wrap (Int.tdiv (IntKind.i64.wrap (p2-p1)) 4))*2))))-1)),()) w3) (R (.tuple #[]) w)
theorem Zu(p0)(p1)(p2)(R)(w)(h:zS p0 p1 p2 R w):Calls Tryz.prog 129 #[.slice p0.a p0.l p0.c,.int .i64 p1,.int .i64 p2] w (Ret R):=lwC y6 Tryz.func129 (by kernel_rfl) (by kernel_rfl) h
def yE:Ann:=(.q (.q (.q (.q (.q (.q (.seq (some ⟨[9],[(11,(.b (.int .i64)))]⟩) (.q (.cond (.seq (some ⟨[0,9],[(10,(.b (.int .i64))),(11,(.b (.int .i64))),(12,(.b (.int .i64)))]⟩) (.q (.cond (.q (.q .nil)) .nil)) .nil) .nil)) (.q (.one (.q (.cond (.q .nil) (.q (.cond (.q .nil) (.q .nil))))))))))))))
def zV(p0:Sl)(p1:Int)(p2:Int)(R:VWP)(w:World):Prop:=Nw (w.alloc (.cells #[zi 0] 3)) λw1=>zk (S:=Int×Unit) (λm1=>ifB (decide ((IntKind.i64.wrap (p2-p1))≥8)) (zk (S:=Int×Int×Int×Unit) (λm3=>ifB (decide ((IntKind.i64.wrap (p2-p1))≥50)) (dB 164 #[p0.zw,zi (IntKind.i64.wrap (p1+(IntKind.i64.wrap ((IntKind.i64.wrap (Int.tdiv (IntKind.i64.wrap (p2-p1)) 4))*1)))),.pointer (some (zB w))] w1 λx6 w2=>dB 164 #[p0.zw,zi (IntKind.i64.wrap (p1+(IntKind.i64.wrap ((IntKind.i64.wrap (Int.tdiv (IntKind.i64.wrap (p2-p1)) 4))*2)))),.pointer (some (zB w))] w2 λx8 w3=>dB 164 #[p0.zw,zi (IntKind.i64.wrap (p1+(IntKind.i64.wrap ((IntKind.i64.wrap (Int.tdiv (IntKind.i64.wrap (p2-p1)) 4))*3)))),.pointer (some (zB w))] w3 λx10 w4=>m3 (x6,x8,x10,()) w4) (m3 ((IntKind.i64.wrap (p1+(IntKind.i64.wrap ((IntKind.i64.wrap (Int.tdiv (IntKind.i64.wrap (p2-p1)) 4))*1)))),(IntKind.i64.wrap (p1+(IntKind.i64.wrap ((IntKind.i64.wrap (Int.tdiv (IntKind.i64.wrap (p2-p1)) 4))*2)))),(IntKind.i64.wrap (p1+(IntKind.i64.wrap ((IntKind.i64.wrap (Int.tdiv (IntKind.i64.wrap (p2-p1)) 4))*3)))),()) w1)) (λs4 w5=>dB 165 #[p0.zw,zi s4.1,zi s4.2.1,zi s4.2.2.1,.pointer (some (zB w))] w5 λx12 w6=>m1 (x12,()) w6)) (m1 ((IntKind.i64.wrap (p1+(IntKind.i64.wrap ((IntKind.i64.wrap (Int.tdiv (IntKind.i64.wrap (p2-p1)) 4))*2)))),()) w1)) (λs2 w7=>ldI w7 (zB w) .i64 λx13=>ifB (x13==0) (R (.tuple #[zi s2.1,zi 1]) w7) (ifB (x13==12) (R (.tuple #[zi s2.1,zi 2]) w7) (R (.tuple #[zi s2.1,zi 0]) w7)))
theorem Z1(p0)(p1)(p2)(R)(w)(h:zV p0 p1 p2 R w):Calls Tryz.prog 130 #[.slice p0.a p0.l p0.c,.int .i64 p1,.int .i64 p2] w (Ret R):=lwC yE Tryz.func130 (by kernel_rfl) (by kernel_rfl) h
def yB:Ann:=(.q (.q (.one (.loop ⟨[0],[(6,(.b (.int .i64))),(7,(.b (.int .i64)))]⟩ (.seq none (.q .c) (.one (.q (.q .nil))))))))
def zT(p0:Sl)(p1:Int)(p2:Int)(R:VWP)(w:World):Prop:=zj (S:=Int×Int×Unit) (λs1 w1 n2=>ifB (decide (s1.1<s1.2.1)) ((0<=s1.2.1/\s1.2.1<(p0.l:Int))/\za p0.a λa3=>ldI w1.drew (a3.add s1.2.1.toNat) .u32 λx4=>(0<=s1.1/\s1.1<(p0.l:Int))/\za p0.a λa5=>ldI w1.drew (a5.add s1.1.toNat) .u32 λx6=>(0<=s1.1/\s1.1<(p0.l:Int))/\za p0.a λa7=>Wr w1.drew (a7.add s1.1.toNat)/\Nw (w1.drew.setCell (a7.add s1.1.toNat) (zu x4)) λw2=>(0<=s1.2.1/\s1.2.1<(p0.l:Int))/\za p0.a λa8=>Wr w2 (a8.add s1.2.1.toNat)/\Nw (w2.setCell (a8.add s1.2.1.toNat) (zu x6)) λw3=>n2 ((IntKind.i64.wrap (s1.1+(1:Int))),(IntKind.i64.wrap (s1.2.1-(1:Int))),()) w3) (R (.tuple #[]) w1)) (p1,(IntKind.i64.wrap (p2-(1:Int))),()) w
theorem Zx(p0)(p1)(p2)(R)(w)(h:zT p0 p1 p2 R w):Calls Tryz.prog 131 #[.slice p0.a p0.l p0.c,.int .i64 p1,.int .i64 p2] w (Ret R):=lwC yB Tryz.func131 (by kernel_rfl) (by kernel_rfl) h
def zX:Ann:=(.q (.q (.seq none (.q (.one (.loop ⟨[0,1,2],[(7,(.b (.int .i64))),(8,(.b (.int .i64)))]⟩ (.seq none (.q .c) (.seq (some ⟨[0,1,2,8],[(7,(.b (.int .i64)))]⟩) (.one (.seq (some ⟨[0,1,2,8],[(7,(.b (.int .i64)))]⟩) (.one (.loop ⟨[0,1,2,8],[(7,(.b (.int .i64)))]⟩ (.seq (some ⟨[0,1,2,7,8],[]⟩) (.q .c) (.one .nil)))) (.seq none (.q (.cond (.q .nil) .nil)) (.seq none (.q (.cond (.q .nil) .nil)) (.q (.seq (some ⟨[0,1,2,7,8],[]⟩) (.q (.cond (.q (.one (.loop ⟨[0,1,2,7,8],[(9,(.b (.int .i64)))]⟩ (.seq none (.q .c) (.seq none (.one (.seq none (.q .c) .nil)) .nil))))) .nil)) (.q (.cond (.q (.one (.loop ⟨[0,1,2,7,8],[(10,(.b (.int .i64)))]⟩ (.seq none (.q .c) (.seq none (.one (.seq none (.q .c) .nil)) .nil))))) .nil)))))))) .nil))))) (.q .nil))))
def zJ(p0:Sl)(p1:Int)(p2:Int)(R:VWP)(w:World):Prop:=zj (S:=Int×Int×Unit) (λs1 w1 n2=>ifB (decide (s1.2.1<(5:Int))) (zk (S:=Int×Unit) (λm3=>zk (S:=Int×Unit) (λm5=>zj (S:=Int×Unit) (λs7 w2 n8=>zk (S:=Unit) (λm9=>ifB (decide (s7.1<p2)) ((0<=s7.1/\s7.1<(p0.l:Int))/\za p0.a λa11=>ldI w2.drew (a11.add s7.1.toNat) .u32 λx12=>(0<=(IntKind.i64.wrap (s7.1-(1:Int)))/\(IntKind.i64.wrap (s7.1-(1:Int)))<(p0.l:Int))/\za p0.a λa13=>ldI w2.drew (a13.add (Int.toNat (IntKind.i64.wrap (s7.1-(1:Int))))) .u32 λx14=>dv 133 #[zu x12,zu x14] w2.drew λx16 w3=>ifB (!x16) (m9 () w3) (m5 (s7.1,()) w3)) (m5 (s7.1,()) w2.drew)) (λs10 w4=>n8 ((IntKind.i64.wrap (s7.1+(1:Int))),()) w4)) (s1.1,()) w1) (λs6 w5=>ifB (s6.1==p2) (R (.bool true) w5) (ifB (decide ((IntKind.i64.wrap (p2-p1))<50)) (R (.bool false) w5) ((0<=(IntKind.i64.wrap (s6.1-(1:Int)))/\(IntKind.i64.wrap (s6.1-(1:Int)))<(p0.l:Int))/\za p0.a λa17=>ldI w5.drew (a17.add (Int.toNat (IntKind.i64.wrap (s6.1-(1:Int))))) .u32 λx18=>(0<=s6.1/\s6.1<(p0.l:Int))/\za p0.a λa19=>ldI w5.drew (a19.add s6.1.toNat) .u32 λx20=>(0<=s6.1/\s6.1<(p0.l:Int))/\za p0.a λa21=>Wr w5.drew (a21.add s6.1.toNat)/\Nw (w5.drew.setCell (a21.add s6.1.toNat) (zu x18)) λw6=>(0<=(IntKind.i64.wrap (s6.1-(1:Int)))/\(IntKind.i64.wrap (s6.1-(1:Int)))<(p0.l:Int))/\za p0.a λa22=>Wr w6 (a22.add (Int.toNat (IntKind.i64.wrap (s6.1-(1:Int)))))/\Nw (w6.setCell (a22.add (Int.toNat (IntKind.i64.wrap (s6.1-(1:Int))))) (zu x20)) λw7=>zk (S:=Unit) (λm23=>ifB (decide ((IntKind.i64.wrap (s6.1-p1))≥2)) (zj (S:=Int×Unit) (λs25 w8 n26=>ifB (decide (s25.1≥(1:Int))) ((0<=s25.1/\s25.1<(p0.l:Int))/\za p0.a λa27=>ldI w8.drew (a27.add s25.1.toNat) .u32 λx28=>(0<=(IntKind.i64.wrap (s25.1-(1:Int)))/\(IntKind.i64.wrap (s25.1-(1:Int)))<(p0.l:Int))/\za p0.a λa29=>ldI w8.drew (a29.add (Int.toNat (IntKind.i64.wrap (s25.1-(1:Int))))) .u32 λx30=>dv 133 #[zu x28,zu x30] w8.drew λx32 w9=>ifB (!x32) (m23 () w9) ((0<=(IntKind.i64.wrap (s25.1-(1:Int)))/\(IntKind.i64.wrap (s25.1-(1:Int)))<(p0.l:Int))/\za p0.a λa33=>ldI w9.drew (a33.add (Int.toNat (IntKind.i64.wrap (s25.1-(1:Int))))) .u32 λx34=>(0<=s25.1/\s25.1<(p0.l:Int))/\za p0.a λa35=>ldI w9.drew (a35.add s25.1.toNat) .u32 λx36=>(0<=s25.1/\s25.1<(p0.l:Int))/\za p0.a λa37=>Wr w9.drew (a37.add s25.1.toNat)/\Nw (w9.drew.setCell (a37.add s25.1.toNat) (zu x34)) λw10=>(0<=(IntKind.i64.wrap (s25.1-(1:Int)))/\(IntKind.i64.wrap (s25.1-(1:Int)))<(p0.l:Int))/\za p0.a λa38=>Wr w10 (a38.add (Int.toNat (IntKind.i64.wrap (s25.1-(1:Int)))))/\Nw (w10.setCell (a38.add (Int.toNat (IntKind.i64.wrap (s25.1-(1:Int))))) (zu x36)) λw11=>n26 ((IntKind.i64.wrap (s25.1-(1:Int))),()) w11)) (m23 () w8)) ((IntKind.i64.wrap (s6.1-(1:Int))),()) w7) (m23 () w7)) (λs24 w12=>ifB (decide ((IntKind.i64.wrap (p2-s6.1))≥2)) (zj (S:=Int×Unit) (λs39 w13 n40=>ifB (decide (s39.1<p2)) ((0<=s39.1/\s39.1<(p0.l:Int))/\za p0.a λa41=>ldI w13.drew (a41.add s39.1.toNat) .u32 λx42=>(0<=(IntKind.i64.wrap (s39.1-(1:Int)))/\(IntKind.i64.wrap (s39.1-(1:Int)))<(p0.l:Int))/\za p0.a λa43=>ldI w13.drew (a43.add (Int.toNat (IntKind.i64.wrap (s39.1-(1:Int))))) .u32 λx44=>dv 133 #[zu x42,zu x44] w13.drew λx46 w14=>ifB (!x46) (m3 (s6.1,()) w14) ((0<=(IntKind.i64.wrap (s39.1-(1:Int)))/\(IntKind.i64.wrap (s39.1-(1:Int)))<(p0.l:Int))/\za p0.a λa47=>ldI w14.drew (a47.add (Int.toNat (IntKind.i64.wrap (s39.1-(1:Int))))) .u32 λx48=>(0<=s39.1/\s39.1<(p0.l:Int))/\za p0.a λa49=>ldI w14.drew (a49.add s39.1.toNat) .u32 λx50=>(0<=s39.1/\s39.1<(p0.l:Int))/\za p0.a λa51=>Wr w14.drew (a51.add s39.1.toNat)/\Nw (w14.drew.setCell (a51.add s39.1.toNat) (zu x48)) λw15=>(0<=(IntKind.i64.wrap (s39.1-(1:Int)))/\(IntKind.i64.wrap (s39.1-(1:Int)))<(p0.l:Int))/\za p0.a λa52=>Wr w15 (a52.add (Int.toNat (IntKind.i64.wrap (s39.1-(1:Int)))))/\Nw (w15.setCell (a52.add (Int.toNat (IntKind.i64.wrap (s39.1-(1:Int))))) (zu x50)) λw16=>n40 ((IntKind.i64.wrap (s39.1+(1:Int))),()) w16)) (m3 (s6.1,()) w13)) ((IntKind.i64.wrap (s6.1+(1:Int))),()) w12) (m3 (s6.1,()) w12)))))) (λs4 w17=>n2 (s4.1,(IntKind.i64.wrap (s1.2.1+(1:Int))),()) w17)) (R (.bool false) w1)) ((IntKind.i64.wrap (p1+(1:Int))),0,()) w
theorem yP(p0)(p1)(p2)(R)(w)(h:zJ p0 p1 p2 R w):Calls Tryz.prog 132 #[.slice p0.a p0.l p0.c,.int .i64 p1,.int .i64 p2] w (Ret R):=lwC zX Tryz.func132 (by kernel_rfl) (by kernel_rfl) h
def zbD:Ann:=(.q (.q .nil))
def zb3(p0:Int)(p1:Int)(R:VWP)(w:World):Prop:=dv 166 #[zu p0] w λx2 w1=>ifB x2 (dv 166 #[zu p1] w1 λx4 w2=>ifB (!x4) (R (.bool true) w2) (R (.bool (decide (p0<p1))) w2)) (R (.bool (decide (p0<p1))) w1)
theorem zd6(p0)(p1)(R)(w)(h:zb3 p0 p1 R w):Calls Tryz.prog 133 #[.int .u32 p0,.int .u32 p1] w (Ret R):=lwC zbD Tryz.func133 (by kernel_rfl) (by kernel_rfl) h
def yx:Ann:=(.q (.q (.q (.seq none (.one (.loop ⟨[0,1],[(9,(.b (.int .i64))),(10,(.b (.int .i64)))]⟩ (.one (.seq (some ⟨[0,1,10],[(9,(.b (.int .i64)))]⟩) (.one (.loop ⟨[0,1,10],[(9,(.b (.int .i64)))]⟩ (.seq (some ⟨[0,1,9,10],[]⟩) (.q .c) (.one .nil)))) (.seq (some ⟨[0,1,9],[(10,(.b (.int .i64)))]⟩) (.one (.loop ⟨[0,1,9],[(10,(.b (.int .i64)))]⟩ (.seq (some ⟨[0,1,9,10],[]⟩) (.q .c) (.one .nil)))) (.seq none (.q .c) (.q (.q .nil)))))))) (.q .nil)))))
def zR(p0:Sl)(p1:Int)(p2:Int)(p3:Int)(R:VWP)(w:World):Prop:=(0<=p3/\p3<(p0.l:Int))/\za p0.a λa1=>ldI w.drew (a1.add p3.toNat) .u32 λx2=>(0<=p1/\p1<(p0.l:Int))/\za p0.a λa3=>ldI w.drew (a3.add p1.toNat) .u32 λx4=>(0<=p1/\p1<(p0.l:Int))/\za p0.a λa5=>Wr w.drew (a5.add p1.toNat)/\Nw (w.drew.setCell (a5.add p1.toNat) (zu x2)) λw1=>(0<=p3/\p3<(p0.l:Int))/\za p0.a λa6=>Wr w1 (a6.add p3.toNat)/\Nw (w1.setCell (a6.add p3.toNat) (zu x4)) λw2=>zj (S:=Int×Int×Unit) (λs7 w3 n8=>zk (S:=Int×Unit) (λm9=>zj (S:=Int×Unit) (λs11 w4 n12=>zk (S:=Unit) (λm13=>ifB (decide (s11.1<=s7.2.1)) ((0<=p1/\p1<(p0.l:Int))/\za p0.a λa15=>ldI w4.drew (a15.add p1.toNat) .u32 λx16=>(0<=s11.1/\s11.1<(p0.l:Int))/\za p0.a λa17=>ldI w4.drew (a17.add s11.1.toNat) .u32 λx18=>dv 133 #[zu x16,zu x18] w4.drew λx20 w5=>ifB (!x20) (m13 () w5) (m9 (s11.1,()) w5)) (m9 (s11.1,()) w4.drew)) (λs14 w6=>n12 ((IntKind.i64.wrap (s11.1+(1:Int))),()) w6)) (s7.1,()) w3) (λs10 w7=>zk (S:=Int×Unit) (λm21=>zj (S:=Int×Unit) (λs23 w8 n24=>zk (S:=Unit) (λm25=>ifB (decide (s10.1<=s23.1)) ((0<=p1/\p1<(p0.l:Int))/\za p0.a λa27=>ldI w8.drew (a27.add p1.toNat) .u32 λx28=>(0<=s23.1/\s23.1<(p0.l:Int))/\za p0.a λa29=>ldI w8.drew (a29.add s23.1.toNat) .u32 λx30=>dv 133 #[zu x28,zu x30] w8.drew λx32 w9=>ifB x32 (m25 () w9) (m21 (s23.1,()) w9)) (m21 (s23.1,()) w8.drew)) (λs26 w10=>n24 ((IntKind.i64.wrap (s23.1-(1:Int))),()) w10)) (s7.2.1,()) w7) (λs22 w11=>ifB (decide (s10.1>s22.1)) (R (zi s10.1) w11) ((0<=s22.1/\s22.1<(p0.l:Int))/\za p0.a λa33=>ldI w11.drew (a33.add s22.1.toNat) .u32 λx34=>(0<=s10.1/\s10.1<(p0.l:Int))/\za p0.a λa35=>ldI w11.drew (a35.add s10.1.toNat) .u32 λx36=>(0<=s10.1/\s10.1<(p0.l:Int))/\za p0.a λa37=>Wr w11.drew (a37.add s10.1.toNat)/\Nw (w11.drew.setCell (a37.add s10.1.toNat) (zu x34)) λw12=>(0<=s22.1/\s22.1<(p0.l:Int))/\za p0.a λa38=>Wr w12 (a38.add s22.1.toNat)/\Nw (w12.setCell (a38.add s22.1.toNat) (zu x36)) λw13=>n8 ((IntKind.i64.wrap (s10.1+(1:Int))),(IntKind.i64.wrap (s22.1-(1:Int))),()) w13)))) ((IntKind.i64.wrap (p1+(1:Int))),(IntKind.i64.wrap (p2-(1:Int))),()) w2
theorem Zq(p0)(p1)(p2)(p3)(R)(w)(h:zR p0 p1 p2 p3 R w):Calls Tryz.prog 134 #[.slice p0.a p0.l p0.c,.int .i64 p1,.int .i64 p2,.int .i64 p3] w (Ret R):=lwC yx Tryz.func134 (by kernel_rfl) (by kernel_rfl) h
def yM:Ann:=(.q (.q (.q (.seq (some ⟨[0,1,11],[(10,(.b (.int .i64)))]⟩) (.one (.loop ⟨[0,1,11],[(10,(.b (.int .i64)))]⟩ (.seq (some ⟨[0,1,10,11],[]⟩) (.q .c) (.one .nil)))) (.seq (some ⟨[0,1,10],[(11,(.b (.int .i64)))]⟩) (.one (.loop ⟨[0,1,10],[(11,(.b (.int .i64)))]⟩ (.seq (some ⟨[0,1,10,11],[]⟩) (.q .c) (.one .nil)))) (.seq none (.q (.cond (.q (.q .nil)) .nil)) (.q (.q (.q (.seq none (.one (.loop ⟨[0,1],[(10,(.b (.int .i64))),(11,(.b (.int .i64)))]⟩ (.one (.seq (some ⟨[0,1,11],[(10,(.b (.int .i64)))]⟩) (.one (.loop ⟨[0,1,11],[(10,(.b (.int .i64)))]⟩ (.seq (some ⟨[0,1,10,11],[]⟩) (.q .c) (.one .nil)))) (.seq (some ⟨[0,1,10],[(11,(.b (.int .i64)))]⟩) (.one (.loop ⟨[0,1,10],[(11,(.b (.int .i64)))]⟩ (.seq (some ⟨[0,1,10,11],[]⟩) (.q .c) (.one .nil)))) (.seq none (.q .c) (.q (.q .nil)))))))) (.q (.q .nil))))))))))))
def zY(p0:Sl)(p1:Int)(p2:Int)(p3:Int)(R:VWP)(w:World):Prop:=(0<=p3/\p3<(p0.l:Int))/\za p0.a λa1=>ldI w.drew (a1.add p3.toNat) .u32 λx2=>(0<=p1/\p1<(p0.l:Int))/\za p0.a λa3=>ldI w.drew (a3.add p1.toNat) .u32 λx4=>(0<=p1/\p1<(p0.l:Int))/\za p0.a λa5=>Wr w.drew (a5.add p1.toNat)/\Nw (w.drew.setCell (a5.add p1.toNat) (zu x2)) λw1=>(0<=p3/\p3<(p0.l:Int))/\za p0.a λa6=>Wr w1 (a6.add p3.toNat)/\Nw (w1.setCell (a6.add p3.toNat) (zu x4)) λw2=>zk (S:=Int×Unit) (λm7=>zj (S:=Int×Unit) (λs9 w3 n10=>zk (S:=Unit) (λm11=>ifB (decide (s9.1<=(IntKind.i64.wrap (p2-(1:Int))))) ((0<=s9.1/\s9.1<(p0.l:Int))/\za p0.a λa13=>ldI w3.drew (a13.add s9.1.toNat) .u32 λx14=>(0<=p1/\p1<(p0.l:Int))/\za p0.a λa15=>ldI w3.drew (a15.add p1.toNat) .u32 λx16=>dv 133 #[zu x14,zu x16] w3.drew λx18 w4=>ifB x18 (m11 () w4) (m7 (s9.1,()) w4)) (m7 (s9.1,()) w3.drew)) (λs12 w5=>n10 ((IntKind.i64.wrap (s9.1+(1:Int))),()) w5)) ((IntKind.i64.wrap (p1+(1:Int))),()) w2) (λs8 w6=>zk (S:=Int×Unit) (λm19=>zj (S:=Int×Unit) (λs21 w7 n22=>zk (S:=Unit) (λm23=>ifB (decide (s8.1<=s21.1)) ((0<=s21.1/\s21.1<(p0.l:Int))/\za p0.a λa25=>ldI w7.drew (a25.add s21.1.toNat) .u32 λx26=>(0<=p1/\p1<(p0.l:Int))/\za p0.a λa27=>ldI w7.drew (a27.add p1.toNat) .u32 λx28=>dv 133 #[zu x26,zu x28] w7.drew λx30 w8=>ifB (!x30) (m23 () w8) (m19 (s21.1,()) w8)) (m19 (s21.1,()) w7.drew)) (λs24 w9=>n22 ((IntKind.i64.wrap (s21.1-(1:Int))),()) w9)) ((IntKind.i64.wrap (p2-(1:Int))),()) w6) (λs20 w10=>ifB (decide (s8.1>s20.1)) ((0<=p1/\p1<(p0.l:Int))/\za p0.a λa31=>ldI w10.drew (a31.add p1.toNat) .u32 λx32=>(0<=s20.1/\s20.1<(p0.l:Int))/\za p0.a λa33=>ldI w10.drew (a33.add s20.1.toNat) .u32 λx34=>(0<=s20.1/\s20.1<(p0.l:Int))/\za p0.a λa35=>Wr w10.drew (a35.add s20.1.toNat)/\Nw (w10.drew.setCell (a35.add s20.1.toNat) (zu x32)) λw11=>(0<=p1/\p1<(p0.l:Int))/\za p0.a λa36=>Wr w11 (a36.add p1.toNat)/\Nw (w11.setCell (a36.add p1.toNat) (zu x34)) λw12=>R (.tuple #[zi s20.1,.bool true]) w12) ((0<=s20.1/\s20.1<(p0.l:Int))/\za p0.a λa37=>ldI w10.drew (a37.add s20.1.toNat) .u32 λx38=>(0<=s8.1/\s8.1<(p0.l:Int))/\za p0.a λa39=>ldI w10.drew (a39.add s8.1.toNat) .u32 λx40=>(0<=s8.1/\s8.1<(p0.l:Int))/\za p0.a λa41=>Wr w10.drew (a41.add s8.1.toNat)/\Nw (w10.drew.setCell (a41.add s8.1.toNat) (zu x38)) λw13=>(0<=s20.1/\s20.1<(p0.l:Int))/\za p0.a λa42=>Wr w13 (a42.add s20.1.toNat)/\Nw (w13.setCell (a42.add s20.1.toNat) (zu x40)) λw14=>zj (S:=Int×Int×Unit) (λs43 w15 n44=>zk (S:=Int×Unit) (λm45=>zj (S:=Int×Unit) (λs47 w16 n48=>zk (S:=Unit) (λm49=>ifB (decide (s47.1<=s43.2.1)) ((0<=s47.1/\s47.1<(p0.l:Int))/\za p0.a λa51=>ldI w16.drew (a51.add s47.1.toNat) .u32 λx52=>(0<=p1/\p1<(p0.l:Int))/\za p0.a λa53=>ldI w16.drew (a53.add p1.toNat) .u32 λx54=>dv 133 #[zu x52,zu x54] w16.drew λx56 w17=>ifB x56 (m49 () w17) (m45 (s47.1,()) w17)) (m45 (s47.1,()) w16.drew)) (λs50 w18=>n48 ((IntKind.i64.wrap (s47.1+(1:Int))),()) w18)) (s43.1,()) w15) (λs46 w19=>zk (S:=Int×Unit) (λm57=>zj (S:=Int×Unit) (λs59 w20 n60=>zk (S:=Unit) (λm61=>ifB (decide (s46.1<=s59.1)) ((0<=s59.1/\s59.1<(p0.l:Int))/\za p0.a λa63=>ldI w20.drew (a63.add s59.1.toNat) .u32 λx64=>(0<=p1/\p1<(p0.l:Int))/\za p0.a λa65=>ldI w20.drew (a65.add p1.toNat) .u32 λx66=>dv 133 #[zu x64,zu x66] w20.drew λx68 w21=>ifB (!x68) (m61 () w21) (m57 (s59.1,()) w21)) (m57 (s59.1,()) w20.drew)) (λs62 w22=>n60 ((IntKind.i64.wrap (s59.1-(1:Int))),()) w22)) (s43.2.1,()) w19) (λs58 w23=>ifB (decide (s46.1>s58.1)) ((0<=p1/\p1<(p0.l:Int))/\za p0.a λa69=>ldI w23.drew (a69.add p1.toNat) .u32 λx70=>(0<=s58.1/\s58.1<(p0.l:Int))/\za p0.a λa71=>ldI w23.drew (a71.add s58.1.toNat) .u32 λx72=>(0<=s58.1/\s58.1<(p0.l:Int))/\za p0.a λa73=>Wr w23.drew (a73.add s58.1.toNat)/\Nw (w23.drew.setCell (a73.add s58.1.toNat) (zu x70)) λw24=>(0<=p1/\p1<(p0.l:Int))/\za p0.a λa74=>Wr w24 (a74.add p1.toNat)/\Nw (w24.setCell (a74.add p1.toNat) (zu x72)) λw25=>R (.tuple #[zi s58.1,.bool false]) w25) ((0<=s58.1/\s58.1<(p0.l:Int))/\za p0.a λa75=>ldI w23.drew (a75.add s58.1.toNat) .u32 λx76=>(0<=s46.1/\s46.1<(p0.l:Int))/\za p0.a λa77=>ldI w23.drew (a77.add s46.1.toNat) .u32 λx78=>(0<=s46.1/\s46.1<(p0.l:Int))/\za p0.a λa79=>Wr w23.drew (a79.add s46.1.toNat)/\Nw (w23.drew.setCell (a79.add s46.1.toNat) (zu x76)) λw26=>(0<=s58.1/\s58.1<(p0.l:Int))/\za p0.a λa80=>Wr w26 (a80.add s58.1.toNat)/\Nw (w26.setCell (a80.add s58.1.toNat) (zu x78)) λw27=>n44 ((IntKind.i64.wrap (s46.1+(1:Int))),(IntKind.i64.wrap (s58.1-(1:Int))),()) w27)))) ((IntKind.i64.wrap (s8.1+(1:Int))),(IntKind.i64.wrap (s20.1-(1:Int))),()) w14)))
theorem ZD(p0)(p1)(p2)(p3)(R)(w)(h:zY p0 p1 p2 p3 R w):Calls Tryz.prog 135 #[.slice p0.a p0.l p0.c,.int .i64 p1,.int .i64 p2,.int .i64 p3] w (Ret R):=lwC yM Tryz.func135 (by kernel_rfl) (by kernel_rfl) h
def zbN:Ann:=(.q (.seq (some ⟨[],[(0,(.b (.int .u64))),(2,(.b (.int .i64)))]⟩) (.q (.cond (.q .nil) .nil)) (.seq (some ⟨[],[(0,(.b (.int .u64))),(2,(.b (.int .i64)))]⟩) (.q (.cond (.q .nil) .nil)) (.seq (some ⟨[],[(0,(.b (.int .u64))),(2,(.b (.int .i64)))]⟩) (.q (.cond (.q .nil) .nil)) (.q .nil)))))
def zbC(p0:Int)(R:VWP)(w:World):Prop:=zk (S:=Int×Int×Unit) (λm1=>ifB (decide (p0≥(4294967296:Int))) (m1 ((Int.fdiv p0 (2 ^ (min 32 (IntKind.bits .u64)))),32,()) w) (m1 (p0,0,()) w)) (λs2 w1=>zk (S:=Int×Int×Unit) (λm3=>ifB (decide (s2.1≥(65536:Int))) (m3 ((Int.fdiv s2.1 (2 ^ (min 16 (IntKind.bits .u64)))),(IntKind.i64.wrap (s2.2.1+(16:Int))),()) w1) (m3 (s2.1,s2.2.1,()) w1)) (λs4 w2=>zk (S:=Int×Int×Unit) (λm5=>ifB (decide (s4.1≥(256:Int))) (m5 ((Int.fdiv s4.1 (2 ^ (min 8 (IntKind.bits .u64)))),(IntKind.i64.wrap (s4.2.1+(8:Int))),()) w2) (m5 (s4.1,s4.2.1,()) w2)) (λs6 w3=>(0<=(IntKind.u8.wrap s6.1)/\(IntKind.u8.wrap s6.1)<((BM #[0,1,2,2,3,3,3,3,4,4,4,4,4,4,4,4,5,5,5,5,5,5,5,5,5,5,5,5,5,5,5,5,6,6,6,6,6,6,6,6,6,6,6,6,6,6,6,6,6,6,6,6,6,6,6,6,6,6,6,6,6,6,6,6,7,7,7,7,7,7,7,7,7,7,7,7,7,7,7,7,7,7,7,7,7,7,7,7,7,7,7,7,7,7,7,7,7,7,7,7,7,7,7,7,7,7,7,7,7,7,7,7,7,7,7,7,7,7,7,7,7,7,7,7,7,7,7,7,8,8,8,8,8,8,8,8,8,8,8,8,8,8,8,8,8,8,8,8,8,8,8,8,8,8,8,8,8,8,8,8,8,8,8,8,8,8,8,8,8,8,8,8,8,8,8,8,8,8,8,8,8,8,8,8,8,8,8,8,8,8,8,8,8,8,8,8,8,8,8,8,8,8,8,8,8,8,8,8,8,8,8,8,8,8,8,8,8,8,8,8,8,8,8,8,8,8,8,8,8,8,8,8,8,8,8,8,8,8,8,8,8,8,8,8,8,8,8,8,8,8,8,8,8,8,8,8]).size:Int))/\R (zi (IntKind.i64.wrap (s6.2.1+(IntKind.i64.wrap (za8 (BM #[0,1,2,2,3,3,3,3,4,4,4,4,4,4,4,4,5,5,5,5,5,5,5,5,5,5,5,5,5,5,5,5,6,6,6,6,6,6,6,6,6,6,6,6,6,6,6,6,6,6,6,6,6,6,6,6,6,6,6,6,6,6,6,6,7,7,7,7,7,7,7,7,7,7,7,7,7,7,7,7,7,7,7,7,7,7,7,7,7,7,7,7,7,7,7,7,7,7,7,7,7,7,7,7,7,7,7,7,7,7,7,7,7,7,7,7,7,7,7,7,7,7,7,7,7,7,7,7,8,8,8,8,8,8,8,8,8,8,8,8,8,8,8,8,8,8,8,8,8,8,8,8,8,8,8,8,8,8,8,8,8,8,8,8,8,8,8,8,8,8,8,8,8,8,8,8,8,8,8,8,8,8,8,8,8,8,8,8,8,8,8,8,8,8,8,8,8,8,8,8,8,8,8,8,8,8,8,8,8,8,8,8,8,8,8,8,8,8,8,8,8,8,8,8,8,8,8,8,8,8,8,8,8,8,8,8,8,8,8,8,8,8,8,8,8,8,8,8,8,8,8,8,8,8,8,8]) (IntKind.u8.wrap s6.1)))))) w3)))
theorem zdF(p0)(R)(w)(h:zbC p0 R w):Calls Tryz.prog 137 #[.int .u64 p0] w (Ret R):=lwC zbN Tryz.func137 (by kernel_rfl) (by kernel_rfl) h
def yT:Ann:=(.q (.one (.loop ⟨[0,2,3],[(8,(.b (.int .i64)))]⟩ (.one (.q (.seq none (.q .c) (.seq (some ⟨[0,2,3,8],[(9,(.b (.int .i64)))]⟩) (.q .c) (.seq none (.q .c) (.q .nil)))))))))
def yR(p0:Sl)(p1:Int)(p2:Int)(p3:Int)(R:VWP)(w:World):Prop:=zj (S:=Int×Unit) (λs1 w1 n2=>ifB (decide ((IntKind.i64.wrap ((IntKind.i64.wrap (2*s1.1))+1))≥p2)) (R (.tuple #[]) w1) (zk (S:=Int×Unit) (λm3=>ifB (decide ((IntKind.i64.wrap ((IntKind.i64.wrap ((IntKind.i64.wrap (2*s1.1))+1))+1))<p2)) ((0<=(IntKind.i64.wrap (p3+(IntKind.i64.wrap ((IntKind.i64.wrap (2*s1.1))+1))))/\(IntKind.i64.wrap (p3+(IntKind.i64.wrap ((IntKind.i64.wrap (2*s1.1))+1))))<(p0.l:Int))/\za p0.a λa5=>ldI w1.drew (a5.add (Int.toNat (IntKind.i64.wrap (p3+(IntKind.i64.wrap ((IntKind.i64.wrap (2*s1.1))+1)))))) .u32 λx6=>(0<=(IntKind.i64.wrap ((IntKind.i64.wrap (p3+(IntKind.i64.wrap ((IntKind.i64.wrap (2*s1.1))+1))))+1))/\(IntKind.i64.wrap ((IntKind.i64.wrap (p3+(IntKind.i64.wrap ((IntKind.i64.wrap (2*s1.1))+1))))+1))<(p0.l:Int))/\za p0.a λa7=>ldI w1.drew (a7.add (Int.toNat (IntKind.i64.wrap ((IntKind.i64.wrap (p3+(IntKind.i64.wrap ((IntKind.i64.wrap (2*s1.1))+1))))+1)))) .u32 λx8=>dv 133 #[zu x6,zu x8] w1.drew λx10 w2=>ifB x10 (m3 ((IntKind.i64.wrap ((IntKind.i64.wrap ((IntKind.i64.wrap (2*s1.1))+1))+1)),()) w2) (m3 ((IntKind.i64.wrap ((IntKind.i64.wrap (2*s1.1))+1)),()) w2)) (m3 ((IntKind.i64.wrap ((IntKind.i64.wrap (2*s1.1))+1)),()) w1.drew)) (λs4 w3=>(0<=(IntKind.i64.wrap (p3+s1.1))/\(IntKind.i64.wrap (p3+s1.1))<(p0.l:Int))/\za p0.a λa11=>ldI w3.drew (a11.add (Int.toNat (IntKind.i64.wrap (p3+s1.1)))) .u32 λx12=>(0<=(IntKind.i64.wrap (p3+s4.1))/\(IntKind.i64.wrap (p3+s4.1))<(p0.l:Int))/\za p0.a λa13=>ldI w3.drew (a13.add (Int.toNat (IntKind.i64.wrap (p3+s4.1)))) .u32 λx14=>dv 133 #[zu x12,zu x14] w3.drew λx16 w4=>ifB (!x16) (R (.tuple #[]) w4) ((0<=(IntKind.i64.wrap (p3+s4.1))/\(IntKind.i64.wrap (p3+s4.1))<(p0.l:Int))/\za p0.a λa17=>ldI w4.drew (a17.add (Int.toNat (IntKind.i64.wrap (p3+s4.1)))) .u32 λx18=>(0<=(IntKind.i64.wrap (p3+s1.1))/\(IntKind.i64.wrap (p3+s1.1))<(p0.l:Int))/\za p0.a λa19=>ldI w4.drew (a19.add (Int.toNat (IntKind.i64.wrap (p3+s1.1)))) .u32 λx20=>(0<=(IntKind.i64.wrap (p3+s1.1))/\(IntKind.i64.wrap (p3+s1.1))<(p0.l:Int))/\za p0.a λa21=>Wr w4.drew (a21.add (Int.toNat (IntKind.i64.wrap (p3+s1.1))))/\Nw (w4.drew.setCell (a21.add (Int.toNat (IntKind.i64.wrap (p3+s1.1)))) (zu x18)) λw5=>(0<=(IntKind.i64.wrap (p3+s4.1))/\(IntKind.i64.wrap (p3+s4.1))<(p0.l:Int))/\za p0.a λa22=>Wr w5 (a22.add (Int.toNat (IntKind.i64.wrap (p3+s4.1))))/\Nw (w5.setCell (a22.add (Int.toNat (IntKind.i64.wrap (p3+s4.1)))) (zu x20)) λw6=>n2 (s4.1,()) w6)))) (p1,()) w
theorem ZM(p0)(p1)(p2)(p3)(R)(w)(h:yR p0 p1 p2 p3 R w):Calls Tryz.prog 161 #[.slice p0.a p0.l p0.c,.int .i64 p1,.int .i64 p2,.int .i64 p3] w (Ret R):=lwC yT Tryz.func161 (by kernel_rfl) (by kernel_rfl) h
def Yb:Ann:=(.q (.q .nil))
def yV(p0:Int)(R:VWP)(w:World):Prop:=dB 99 #[.int .u64 (IntKind.u64.wrap p0)] w λx2 w1=>ifB (decide (x2<0)) (False) (R (.int .u64 (IntKind.u64.wrap ((1:Int)*2 ^ (min x2.toNat (IntKind.bits .u64))))) w1)
theorem zaJ(p0)(R)(w)(h:yV p0 R w):Calls Tryz.prog 162 #[.int .i64 p0] w (Ret R):=lwC Yb Tryz.func162 (by kernel_rfl) (by kernel_rfl) h
def Yw:Ann:=(.q (.q (.q (.q (.q .nil)))))
def Yr(p0:Option Addr)(R:VWP)(w:World):Prop:=za p0 λa1=>ldI w.drew a1 .u64 λx2=>za p0 λa3=>ldI w.drew a3 .u64 λx4=>za p0 λa5=>Wr w.drew a5/\Nw (w.drew.setCell a5 (.int .u64 (IntKind.u64.wrap (BitVec.toNat (BitVec.ofInt (IntKind.bits .u64) x2 ^^^ BitVec.ofInt (IntKind.bits .u64) (IntKind.u64.wrap (x4*2 ^ (min 13 (IntKind.bits .u64))))):Int)))) λw1=>za p0 λa6=>ldI w1.drew a6 .u64 λx7=>za p0 λa8=>ldI w1.drew a8 .u64 λx9=>za p0 λa10=>Wr w1.drew a10/\Nw (w1.drew.setCell a10 (.int .u64 (IntKind.u64.wrap (BitVec.toNat (BitVec.ofInt (IntKind.bits .u64) x7 ^^^ BitVec.ofInt (IntKind.bits .u64) (Int.fdiv x9 (2 ^ (min 7 (IntKind.bits .u64))))):Int)))) λw2=>za p0 λa11=>ldI w2.drew a11 .u64 λx12=>za p0 λa13=>ldI w2.drew a13 .u64 λx14=>za p0 λa15=>Wr w2.drew a15/\Nw (w2.drew.setCell a15 (.int .u64 (IntKind.u64.wrap (BitVec.toNat (BitVec.ofInt (IntKind.bits .u64) x12 ^^^ BitVec.ofInt (IntKind.bits .u64) (IntKind.u64.wrap (x14*2 ^ (min 17 (IntKind.bits .u64))))):Int)))) λw3=>za p0 λa16=>ldI w3 a16 .u64 λx17=>R (.int .u64 x17) w3
theorem zbv(p0)(R)(w)(h:Yr p0 R w):Calls Tryz.prog 163 #[.pointer p0] w (Ret R):=lwC Yw Tryz.func163 (by kernel_rfl) (by kernel_rfl) h
def yw:Ann:=(.q (.q .nil))
def zQ(p0:Sl)(p1:Int)(p2:Option Addr)(R:VWP)(w:World):Prop:=dB 165 #[p0.zw,zi (IntKind.i64.wrap (p1-(1:Int))),zi p1,zi (IntKind.i64.wrap (p1+(1:Int))),.pointer p2] w λx2 w1=>R (zi x2) w1
theorem Zp(p0)(p1)(p2)(R)(w)(h:zQ p0 p1 p2 R w):Calls Tryz.prog 164 #[.slice p0.a p0.l p0.c,.int .i64 p1,.pointer p2] w (Ret R):=lwC yw Tryz.func164 (by kernel_rfl) (by kernel_rfl) h
def Zh:Ann:=(.q (.q (.q (.q (.q .nil)))))
def Ze(p0:Sl)(p1:Int)(p2:Int)(p3:Int)(p4:Option Addr)(R:VWP)(w:World):Prop:=dR 184 #[p0.zw,zi p1,zi p2,.pointer p4] w λx2 x3 w1=>dR 184 #[p0.zw,zi x3,zi p3,.pointer p4] w1 λx5 x6 w2=>dR 184 #[p0.zw,zi x2,zi x5,.pointer p4] w2 λx8 x9 w3=>R (zi x9) w3
theorem Yj(p0)(p1)(p2)(p3)(p4)(R)(w)(h:Ze p0 p1 p2 p3 p4 R w):Calls Tryz.prog 165 #[.slice p0.a p0.l p0.c,.int .i64 p1,.int .i64 p2,.int .i64 p3,.pointer p4] w (Ret R):=lwC Zh Tryz.func165 (by kernel_rfl) (by kernel_rfl) h
def zaX:Ann:=(.q (.q .nil))
def zaP(p0:Int)(R:VWP)(w:World):Prop:=R (.bool (p0 !=p0)) w
theorem zcG(p0)(R)(w)(h:zaP p0 R w):Calls Tryz.prog 166 #[.int .u32 p0] w (Ret R):=lwC zaX Tryz.func166 (by kernel_rfl) (by kernel_rfl) h
def Zi:Ann:=(.q (.seq none (.q (.cond (.q (.q .nil)) .nil)) (.q .nil)))
def Zf(p0:Sl)(p1:Int)(p2:Int)(p3:Option Addr)(R:VWP)(w:World):Prop:=(0<=p2/\p2<(p0.l:Int))/\za p0.a λa1=>ldI w.drew (a1.add p2.toNat) .u32 λx2=>(0<=p1/\p1<(p0.l:Int))/\za p0.a λa3=>ldI w.drew (a3.add p1.toNat) .u32 λx4=>dv 133 #[zu x2,zu x4] w.drew λx6 w1=>ifB x6 (za p3 λa7=>ldI w1 a7 .i64 λx8=>za p3 λa9=>Wr w1 a9/\Nw (w1.setCell a9 (zi (IntKind.i64.wrap (x8+(1:Int))))) λw2=>R (.tuple #[zi p2,zi p1]) w2) (R (.tuple #[zi p1,zi p2]) w1)
theorem Yk(p0)(p1)(p2)(p3)(R)(w)(h:Zf p0 p1 p2 p3 R w):Calls Tryz.prog 184 #[.slice p0.a p0.l p0.c,.int .i64 p1,.int .i64 p2,.pointer p3] w (Ret R):=lwC Zi Tryz.func184 (by kernel_rfl) (by kernel_rfl) h
end Go.Proofs
