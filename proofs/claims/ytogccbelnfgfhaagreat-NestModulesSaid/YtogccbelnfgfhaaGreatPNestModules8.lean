/- NestModules, part 8; made small by a program. -/
import Derived.Test.YtogccbelnfgfhaaGreatProg
import Derived.Maps.RangeRun
import Derived.Test.YtogccbelnfgfhaaGreatPNestModules7
namespace Go.Proofs
open Go.Gk Go.RowKit Go.Gm
theorem zm6(g:Fl)(ty re:Int)(al:List Ag)(bd:Int):YY g ty re al bd =
  (let e1:=errK g ty re al bd al.length;let e2:=if e1=0 then(if zcj g al.length=true then 0 else 42) else e1;if e2=0 then(if 65535<zaV g al then 25 else 0) else e2):=by
 unfold YY
 dsimp only
 by_cases h1:errK g ty re al bd al.length=0
 ·rw[if_neg (λh=>h h1),if_pos h1]
  cases hw:zcj g al.length
  ·simp
  ·simp
 ·rw[if_pos h1,if_neg h1,if_neg h1]
theorem bnd3{n n' k t C:Nat}(h1:n<=2+k+C*t)(h2:n'<=n+C):n'<=2+(k+1)+C*(t+1):=by
 rw[Nat.mul_add,Nat.mul_one]
 generalize C*t=q at h1
 omega
theorem bnd1{n n' k t C:Nat}(h1:n<=2+k+C*t)(h2:n'<=n+1):n'<=2+(k+1)+C*(t+0):=by
 rw[Nat.add_zero]
 generalize C*t=q at h1
 omega
theorem zrz{x:Ins}{al:List Ag}{bd:Int}{w:World}{R:VWP}(hI:IsAg w x.2.2.2.1 al)(h24:24*al.length<=140737488351232)(hs:∀y∈al,y.2.2.size<=9223372036854775807)
  (hR:∀(r:Sl) (op:Int) w',Below w.heap.size w w'->(zfE x.1 x.2.1 x.2.2.1 al bd=0->1+r.l=zgu (x.1,x.2.1,x.2.2.1,al)/\zgu (x.1,x.2.1,x.2.2.1,al)<=65535)->
   R (.tuple #[.agg #[.int .u16 op,.slice r.a r.l r.c],.int .i64 (zfE x.1 x.2.1 x.2.2.1 al bd)]) w') :
  cR 156 #[inA x,.int .u32 bd] w R:=by
 refine zb.of (zl0 x bd R w ?_) λ_ _ h=>h
 refine zq λw1 hB1 b1 z1=>?_
 have hB1:Blk w1 w.heap.size 41 (inV x):=hB1
 refine zq λw2 hC2 b2 z2=>?_
 have hC2:Blk w2 w1.heap.size 215 [.int .u16 0,.slice none 0 0]:=hC2
 have hB2:=hB1.below b2
 have hb2:=b1.on b2
 refine hB2.rI0 rfl ?_
 refine zjj λw3 b3=>⟨fmO x.1 (frm x.1),(frm x.1).isSome,rfl,?_⟩
 refine box8 rfl λw4 hF4 b4 z4=>?_
 have hF4:Blk w4 w3.heap.size 178 (fmV (fmO x.1 (frm x.1))):=hF4
 have b24:=b3.on b4
 have hb4:=hb2.on b24
 have hB4:=hB2.below b24
 have hC4:=hC2.below b24
 have s1:=b1.size
 have s2:=b2.size
 have s3:=b3.size
 have s4:=b4.size
 have hlen:=hI.len
 refine zm (λhn=>?_) (λhn=>?_)
 ·have hfr:frm x.1=none:=by
   cases h:frm x.1 with
   |none=>rfl
   |some g=>rw[h]at hn;cases hn
  have hfp:zfE x.1 x.2.1 x.2.2.1 al bd=30:=zbP hfr
  rw[hfp]at hR
  refine st2 hC4 rfl λw5 hC5 c5=>?_
  refine hC5.rI (n:=0) rfl (hC5.rS (n:=1) (x:=⟨none,0,0⟩) rfl ?_)
  exact hR ⟨none,0,0⟩ 0 w5 (c5.below hb4 (by omega)) (λh=>by cases h)
 ·obtain⟨g,hfr⟩:∃g,frm x.1=some g:=by
   cases h:frm x.1 with
   |none=>rw[h]at hn;cases hn
   |some g=>exact⟨g,rfl⟩
  have efl:flOf x.1=g:=by unfold flOf;rw[hfr];rfl
  rw[hfr]at hF4
  rw[zbQ hfr,show zgu (x.1,x.2.1,x.2.2.1,al)=zaV g al by unfold zgu;dsimp only;rw[hfr]]at hR
  have hop:(fmO x.1 (some g)).1=x.1:=rfl
  have hty:(fmO x.1 (some g)).2.2.1=g.ty:=rfl
  have hre:(fmO x.1 (some g)).2.2.2.1=g.re:=rfl
  have hwh:=@zqK x.1 g hfr al bd
  generalize fmO x.1 (some g)=fm at hF4 hop hty hre
  refine Fm.load hF4 ?_
  refine zq λw5 hW5 b5 z5=>?_
  have hW5:Blk w5 w4.heap.size 266 (wrV fm bd ⟨none,0,0⟩ 0):=hW5
  have hS5:WtS w4 w5 w4.heap.size fm bd 0 0:=⟨Nat.le_refl _,b5,⟨none,0,0⟩,[],hW5,Own.nil _ _ _,(λa ha=>by cases ha),rfl⟩
  have hF5:=hF4.below b5
  have hB5:=hB4.below b5
  refine hF5.rB (n:=2) rfl (hB5.rI (n:=1) rfl ?_)
  refine zmE hS5 (by omega) (by omega) λw6 room6 n6 hS6 hr6 hn6 he6=>⟨_,rfl,?_⟩
  rw[hty]at he6⊢
  have e0:errK g x.2.1 x.2.2.1 al bd 0=if idP g.ty x.2.1 bd 40=0 then idP g.re x.2.2.1 bd 41 else idP g.ty x.2.1 bd 40:=by
   unfold errK
   rw[zq9]
   by_cases h1:idP g.ty x.2.1 bd 40=0
   ·rw[if_neg (λh=>h h1),if_pos h1]
    by_cases h2:idP g.re x.2.2.1 bd 41=0
    ·rw[if_neg (λh=>h h2),h2]
    ·rw[if_pos h2]
   ·rw[if_pos h1,if_neg h1]
  refine zk.cut (λst w'=>st.1=errK g x.2.1 x.2.2.1 al bd 0/\∃room n,WtS w4 w' w4.heap.size fm bd room n/\(errK g x.2.1 x.2.2.1 al bd 0=0->room=g.ty.toNat +g.re.toNat/\n=room)) ?_ ?_
  ·refine zj (λe=>?_) (λe=>?_)
   ·rw[if_pos e]at e0
    obtain⟨g1,g2⟩:=he6 e (by decide)
    have hF6:=hF4.below hS6.below
    have hB6:=hB4.below hS6.below
    refine hF6.rB (n:=3) rfl (hB6.rI (n:=2) rfl ?_)
    refine zmE hS6 (by omega) (by omega) λw7 room7 n7 hS7 hr7 hn7 he7=>⟨_,rfl,?_,room7,n7,hS7,λh0=>?_⟩
    ·rw[e0,hre]
    ·rw[e0]at h0
     rw[hre]at he7
     obtain⟨g3,g4⟩:=he7 h0 (by decide)
     omega
   ·rw[if_neg e]at e0
    exact⟨e0.symm,room6,n6,hS6,λh0=>absurd (e0.symm.trans h0) e⟩
  ·rintro⟨ev,_⟩ w7 ⟨hev,room7,n7,hS7,hz7⟩
   dsimp only at hev
   subst hev
   have hB7:=hB4.below hS7.below
   refine hB7.rS (n:=3) rfl ?_
   have htn:g.ty.toNat +g.re.toNat<=2:=by cases g.ty<;>cases g.re<;>decide
   refine zl.ghost (λj st w'=>∃k,k<=al.length/\j=al.length-k/\st=(errK g x.2.1 x.2.2.1 al bd k,(k:Int),())/\∃room n,WtS w4 w' w4.heap.size fm bd room n/\
    (errK g x.2.1 x.2.2.1 al bd k=0->room=g.ty.toNat +g.re.toNat +zgt al k/\(n=room\/65535<room)/\n<=2+k+65535*tx al k)) al.length
    ⟨0,Nat.zero_le _,rfl,rfl,room7,n7,hS7,λh=>by obtain⟨g1,g2⟩:=hz7 h;refine⟨by rw[g1];simp[zgt],.inl g2,?_⟩;simp[tx];omega⟩ ?_
   rintro _ _ w8 ⟨k,hk,rfl,rfl,room8,n8,hS8,hz8⟩ next hnext
   refine zi (λh=>?_) (λh=>?_)
   ·have hlt:k<al.length:=by dsimp only at h;omega
    have hI8:=hI.below (hb4.on hS8.below)
    refine zk.cut (λst w'=>st.1=errK g x.2.1 x.2.2.1 al bd (k+1)/\∃room n,WtS w4 w' w4.heap.size fm bd room n/\
     (errK g x.2.1 x.2.2.1 al bd (k+1)=0->room=g.ty.toNat +g.re.toNat +zgt al (k+1)/\(n=room\/65535<room)/\n<=2+(k+1)+65535*tx al (k+1))) ?_ ?_
    ·refine zgI hI8 hlt ?_
     refine box3 rfl λw9 hA9 b9 z9=>?_
     have hS9:=hS8.step b9
     refine zj (λe=>?_) (λe=>?_)
     ·obtain⟨g1,g2,g3⟩:=hz8 e
      obtain⟨_,_,ha⟩:=zeW e
      have hwe:=zeU ha
      have htx:=zn7 hfr (k:=k) (by omega) hwe
      have hcn:=zl1 hs (k:=k) (by omega)
      refine hA9.rI (n:=0) rfl (hA9.rI (n:=1) rfl (hA9.rT (n:=2) rfl ?_))
      refine zr3 hS9 (k:=k) (by omega) (hs _ (List.getElem_mem hlt)) (by omega) (by omega) λw10 room' n' hS10 hz10=>⟨_,rfl,?_,room',n',hS10,λh0=>?_⟩
      ·rw[zcR,if_pos e,hop,efl]
       unfold werr
       rw[zG hlt]
      ·rw[zcR,if_pos e]at h0
       unfold werr at h0
       rw[zG hlt]at h0
       rw[hop,efl]at hz10
       obtain⟨q1,q2,q3⟩:=hz10 h0
       rw[zf9 hlt,zlb hlt]
       refine⟨by omega,by omega,?_⟩
       split at q3<;>rename_i h3
       ·rw[if_pos h3];exact bnd3 g3 q3
       ·rw[if_neg h3];exact bnd1 g3 q3
     ·refine⟨?_,room8,n8,hS9,λh0=>?_⟩
      ·rw[zcR,if_neg e]
      ·rw[zcR,if_neg e]at h0
       exact absurd h0 e
    ·rintro⟨ev,_⟩ w9 ⟨hev,room9,n9,hS9,hz9⟩
     dsimp only at hev
     subst hev
     dsimp only
     rw[zE (by omega)]
     exact hnext (al.length-(k+1)) _ _ (by omega) ⟨k+1,hlt,rfl,rfl,room9,n9,hS9,hz9⟩
   ·have hk':k=al.length:=by dsimp only at h;omega
    subst hk'
    have hff:=zm6 g x.2.1 x.2.2.1 al bd
    dsimp only at hff
    have hb8:=hS8.below
    have hF8:=hF4.below hb8
    have hB8:=hB4.below hb8
    have hI8:=hI.below (hb4.on hb8)
    refine zk.cut (λst w'=>st.1=(if errK g x.2.1 x.2.2.1 al bd al.length=0 then(if zcj g al.length=true then 0 else 42) else errK g x.2.1 x.2.2.1 al bd al.length)/\WtS w4 w' w4.heap.size fm bd room8 n8) ?_ ?_
    ·refine zj (λe=>?_) (λe=>?_)
     ·refine Fm.load hF8 ?_
      refine hB8.rS (n:=3) rfl ?_
      refine zpZ (f:=fm) hI8 h24 λw9 b9=>⟨_,rfl,?_,hS8.step b9⟩
      obtain⟨_,_,ha⟩:=zeW e
      rw[if_pos e,hop,hwh (zeU ha)]
     ·exact⟨by rw[if_neg e],hS8⟩
    ·rintro⟨ev,_⟩ w9 ⟨hev,hS9⟩
     dsimp only at hev
     rw[<-hev]at hff
     have hroom:ev=0->errK g x.2.1 x.2.2.1 al bd al.length=0:=by
      intro h
      rw[h]at hev
      refine Classical.byContradiction λhne=>?_
      rw[if_neg hne]at hev
      exact hne hev.symm
     obtain⟨r,xs,hW9,hO9,hFr9,hrl9⟩:=hS9.own
     refine zk.cut (λst w'=>st.1=YY g x.2.1 x.2.2.1 al bd/\w'=w9) ?_ ?_
     ·refine zj (λe=>?_) (λe=>?_)
      ·have e':ev=0:=e
       rw[if_pos e']at hff
       obtain⟨g1,_,_⟩:=hz8 (hroom e')
       have hrp:zaV g al=1+room8:=by unfold zaV;rw[g1]
       refine hW9.rI (n:=10) rfl (zi (λhge=>⟨?_,rfl⟩) (λhlt=>⟨?_,rfl⟩))
       ·rw[hff,if_pos (by omega)]
       ·rw[hff,if_neg (by omega)];exact e
      ·have e':¬ev=0:=e
       rw[if_neg e']at hff
       exact⟨hff.symm,rfl⟩
     ·rintro⟨ev2,_⟩ w' ⟨hev2,hw'⟩
      dsimp only at hev2
      subst hw'
      have hb9:=hb4.on hS9.below
      have hC9:=hC4.below hS9.below
      have hB9:=hB4.below hS9.below
      refine zr (λe=>?_) (λe=>?_)
      ·refine st2 hC9 rfl λw10 hC10 c10=>?_
       refine hC10.rI (n:=0) rfl (hC10.rS (n:=1) (x:=⟨none,0,0⟩) rfl ?_)
       have:=hR ⟨none,0,0⟩ 0 w10 (c10.below hb9 (by omega)) (λh=>absurd (hev2.trans h) e)
       rw[<-hev2]at this
       exact this
      ·have e':ev2=0:=e
       refine hB9.drew.rI0 rfl (hW9.drew.rS (n:=9) (x:=r) rfl ?_)
       refine st2 hC9.drew rfl λw10 hC10 c10=>?_
       refine hC10.rI (n:=0) rfl (hC10.rS (n:=1) (x:=r) rfl ?_)
       have hf0:YY g x.2.1 x.2.2.1 al bd=0:=hev2.symm.trans e'
       have:=hR r x.1 w10 (c10.below hb9.drew (by omega)) (λ_=>by
        rw[hf0]at hff
        have h0:ev=0:=by
         refine Classical.byContradiction λhne=>?_
         rw[if_neg hne]at hff
         exact hne hff.symm
        rw[if_pos h0]at hff
        have hle:¬65535<zaV g al:=by
         intro h
         rw[if_pos h]at hff
         cases hff
        obtain⟨g1,g2,_⟩:=hz8 (hroom h0)
        have hrp:zaV g al=1+room8:=by unfold zaV;rw[g1]
        omega)
       rw[hf0]at this
       exact this
theorem zoa{w:World}{R:VWP}(hR:∀w',Below w.heap.size w w'->R (.tuple #[.int .i64 5,.agg #[.int .i64 0,.int .i64 0]]) w'):cR 204 #[.slice none 0 0] w R:=by
 refine zb.of (zh4 ⟨none,0,0⟩ R w ?_) λ_ _ h=>h
 refine zq λw1 hB b1 z1=>?_
 have hB:Blk w1 w.heap.size 33 [.int .i64 0,.int .i64 0]:=hB
 refine zl.ghost (λj st w'=>j=0/\st=((5:Int),(0:Int),())/\w'=w1) 0 ⟨rfl,rfl,rfl⟩ ?_
 rintro _ _ w' ⟨rfl,rfl,hw⟩ next hnext
 subst hw
 refine zi (λh=>absurd h (by simp)) (λ_=>?_)
 refine st2 hB rfl λw2 h2 c2=>?_
 exact Sp.load h2 (hR w2 (c2.below b1 (Nat.le_refl _)))
theorem zr0{w:World}{R:VWP}(hR:∀w',Below w.heap.size w w'->R (.tuple #[.int .i64 5,.int .i64 0]) w'):cR 155 #[.slice none 0 0] w R:=by
 refine zb.of (zjU ⟨none,0,0⟩ R w ?_) λ_ _ h=>h
 refine zoa λw1 b1=>⟨5,(0,0,()),rfl,?_⟩
 refine box2 rfl λw2 h2 b2 z2=>?_
 exact h2.drew.rI0 rfl (hR w2.drew (b1.on b2).drew)
theorem eRaw:zao Tryz.prog 170 215 2 32:=⟨by kernel_rfl,Tryz.t215,.agg #[.int .u16 0,.slice none 0 0],by kernel_rfl,rfl,rfl,rfl,rfl⟩
theorem zpK{P:Program}{t e:TypeId}{sz bytes:Nat}(he:zao P t e sz bytes){w0 w:World}{s:Sl}{xs:List Value}(h:Own w e sz s xs)(hb:Below w0.heap.size w0 w)(hF:zw w0.heap.size s){vs:List Value}(hvs:vs.length=sz)(hv:∀u∈vs,u.oneCell'=true){b c:Nat}{T:TypeId}
  (hB:Blk w b T vs) (h63:s.l+1<=9223372036854775807) (hbytes:(s.l+1)*bytes<=140737488355328) {k:Sl->World->Prop}
  (hk:∀r w',Own w' e sz r (xs++vs)->r.l=s.l+1->Below w0.heap.size w0 w'->zw w0.heap.size r->k r w'):zo P t (.slice s.a s.l s.c) (.slice (some (blk b)) 1 c) w k:=by
 refine yF he h (news:=vs) (by omega) (λj u hj=>hB.cell hj) hv h63 hbytes λr w' h1 hl' hg=>?_
 rcases hg with⟨_,_,h3⟩ | ⟨b',h3,h4,h5⟩
 ·rw[h3]at hl';omega
 ·have hbb:w0.heap.size<=b':=by
   rcases h4 with h4 |h4
   ·exact hF _ h4
   ·have:=hb.size
    omega
  exact hk r w' h1 hl' (hb.trans (zM h5 hbb hb.size)) λa ha=>by rw[h3]at ha;cases ha;exact hbb
theorem zrk{x:Mo}{pl:List PI}{w:World}{R:VWP}(hN:IsPl w x.2.2.1 pl)(hp:PlOk pl)(hR:∀(r:Sl) w',Below w.heap.size w w'->R (.tuple #[.slice r.a r.l r.c,.agg #[.int .i64 (zH x.2.1 pl).1,.int .i64 ((zH x.2.1 pl).2:Int)]]) w') :
  cR 118 #[moA x] w R:=by
 refine zb.of (zkQ x R w ?_) λ_ _ h=>h
 refine zq λw1 hB1 b1 z1=>?_
 have hB1:Blk w1 w.heap.size 25 (moV x):=hB1
 refine zq λw2 hC2 b2 z2=>?_
 have hC2:Blk w2 w1.heap.size 33 [.int .i64 0,.int .i64 0]:=hC2
 have hB2:=hB1.below b2
 have hb2:=b1.on b2
 have s1:=b1.size
 have s2:=b2.size
 have hlen:=hN.len
 have h40:=hp.len
 have spot:∀{w' cs},Blk w' w1.heap.size 33 cs->cs.length=2->Below w.heap.size w w'->∀(r:Sl) (e a:Int),(e,a)=((zH x.2.1 pl).1,((zH x.2.1 pl).2:Int))->
   Wr w' (blk w1.heap.size)/\Nw (w'.setCell (blk w1.heap.size) (.int .i64 e)) λw3=>Wr w3 ((blk w1.heap.size).add 1)/\Nw (w3.setCell ((blk w1.heap.size).add 1) (.int .i64 a)) λw4=>
    ldI w4 ((blk w1.heap.size).add 0) .i64 λx4=>ldI w4 ((blk w1.heap.size).add 1) .i64 λx5=>R (.tuple #[.slice r.a r.l r.c,.agg #[.int .i64 x4,.int .i64 x5]]) w4:=by
  intro w' cs hC hl hb r e a hea
  refine st2 hC hl λw3 h3 c3=>Sp.load h3 ?_
  rw[Prod.mk.injEq]at hea
  rw[hea.1,hea.2]
  exact hR r w3 (c3.below hb (by omega))
 refine zk.cut (λ_ w'=>w'=w2/\¬(x.2.1=0\/65536<x.2.1)) ?_ ?_
 ·refine hB2.rI (n:=1) rfl (zj (λe=>?_) (λe=>?_))
  ·exact spot hC2 rfl hb2 ⟨none,0,0⟩ 24 0 (by rw[zet (.inl e)];rfl)
  ·refine hB2.rI (n:=1) rfl (zi (λh=>?_) (λh=>⟨rfl,λh'=>h'.elim e h⟩))
   exact spot hC2 rfl hb2 ⟨none,0,0⟩ 24 0 (by rw[zet (.inr h)];rfl)
 ·rintro _ w' ⟨hw,hbd⟩
  subst hw
  refine zr0 λw3 b3=>⟨_,_,rfl,?_⟩
  have hB3:=hB2.below b3
  have hC3:=hC2.below b3
  have hb3:=hb2.on b3
  refine hB3.rS (n:=2) rfl ?_
  rw[show IntKind.i64.wrap (1048576-5)=1048571 by decide +kernel]
  refine zl.ghost (λj st w4=>∃(k:Nat) (r:Sl) (xs:List Value),k<=pl.length/\j=pl.length-k/\st=((1048576:Int)-(totP pl k:Int),r,(k:Int),())/\totP pl k<=1048576/\(∀i,i<k->badI pl x.2.1 i=false)/\Own w4 215 2 r xs/\zw w'.heap.size r/\r.l=k/\
   Below w'.heap.size w' w4) pl.length ⟨0,⟨none,0,0⟩,[],Nat.zero_le _,rfl,rfl,(by simp[totP]),λi hi=>by omega,Own.nil _ _ _,λa ha=>by(cases ha),rfl,b3⟩ ?_
  rintro _ _ w4 ⟨k,r,xs,hk,rfl,rfl,htot,hj,hO,hF,hrl,hb4⟩ next hnext
  have hbw4:=hb2.on hb4
  have hB4:=hB2.below hb4
  have hC4:=hC2.below hb4
  refine zi (λh=>?_) (λh=>?_)
  ·have hlt:k<pl.length:=by dsimp only at h;omega
   have hmem:=List.getElem_mem hlt
   refine yA (hN.below hbw4) hlt λt ht=>?_
   refine box4 rfl λw5 hI5 b5 z5=>?_
   have hI5:Blk w5 w4.heap.size 41 (inV (mkIn pl[k] t)):=hI5
   refine Ins.load hI5 ?_
   refine(hB4.below b5).rI (n:=1) rfl ?_
   refine zrz (x:=mkIn pl[k] t) (ht.below b5) (hp.args _ hmem) (hp.text _ hmem) λq op w6 b6 hq=>⟨(op,q,()),_,rfl,?_⟩
   refine box2 rfl λw7 h7 b7 z7=>?_
   have h7:Blk w7 w6.heap.size 215 [.int .u16 op,.slice q.a q.l q.c]:=h7
   have b57:=(b5.on b6).on b7
   have hb7:=hb4.on b57
   refine h7.rS (n:=1) (x:=q) rfl ?_
   change yN pl[k] x.2.1=0->1+q.l=zgu pl[k]/\zgu pl[k]<=65535 at hq
   show ifB (yN pl[k] x.2.1 !=0) _ _
   refine zr (λe=>?_) (λe=>?_)
   ·exact spot (hC4.below b57) rfl (hbw4.on b57) ⟨none,0,0⟩ _ _ (by rw[zkH hbd hlt hj e];rfl)
   ·obtain⟨q1,q2⟩:=hq e
    have ht1:=zko hlt
    have hleft:IntKind.i64.wrap (((1048576:Int)-(totP pl k:Int))-IntKind.i64.wrap (1+(q.l:Int)))=(1048576:Int)-(totP pl (k+1):Int):=by
     rw[zt (x:=(1:Int)+(q.l:Int)) (by omega) (by omega),zt (by omega) (by omega)]
     omega
    dsimp only
    rw[hleft]
    refine zi (λhlt0=>?_) (λhge0=>?_)
    ·exact spot (hC4.below b57) rfl (hbw4.on b57) ⟨none,0,0⟩ _ _ (by rw[zkI hbd hlt hj e (by omega)])
    ·have hbk:=zlw hlt e (show ¬1048576<totP pl (k+1) by omega)
     refine h7.rI (n:=0) rfl (h7.rS (n:=1) (x:=q) rfl ?_)
     refine zq λw8 h8 b8 z8=>?_
     have h8:Blk w8 w7.heap.size 215 [.int .u16 op,.slice q.a q.l q.c]:=h8
     refine zpK eRaw ((hO.below b57).below b8) (hb7.on b8) hF rfl (by simp[Value.oneCell']) h8 (by omega) (by omega) λr' w9 hO9 hl9 b9 F9=>?_
     rw[zE (by omega)]
     refine hnext (pl.length-(k+1)) _ _ (by omega) ⟨k+1,r',_,hlt,rfl,rfl,by omega,λi hi=>?_,hO9,F9,by omega,b9⟩
     by_cases e':i=k
     ·subst e';exact hbk
     ·exact hj i (by omega)
  ·have hk':k=pl.length:=by dsimp only at h;omega
   subst hk'
   exact spot hC4 rfl hbw4 r 0 0 (by rw[zlW hbd hj];rfl)
theorem zpo{x:Mo}{pl:List PI}{w:World}{R:VWP}(hN:IsPl w x.2.2.1 pl)(hp:PlOk pl)(hR:∀w',Below w.heap.size w w'->R (.agg #[.int .i64 (zH x.2.1 pl).1,.int .i64 ((zH x.2.1 pl).2:Int)]) w') :
  cR 69 #[moA x] w R:=by
 refine zb.of (zjM x R w ?_) λ_ _ h=>h
 refine zq λw1 hB1 b1 z1=>?_
 have hB1:Blk w1 w.heap.size 25 (moV x):=hB1
 refine zq λw2 hC2 b2 z2=>?_
 have hC2:Blk w2 w1.heap.size 33 [.int .i64 0,.int .i64 0]:=hC2
 have hb2:=b1.on b2
 refine Mo.load (hB1.below b2) ?_
 refine zrk (x:=x) (hN.below hb2) hp λr w3 b3=>⟨r,((zH x.2.1 pl).1,((zH x.2.1 pl).2:Int),()),rfl,?_⟩
 refine box2 rfl λw4 h4 b4 z4=>?_
 refine Sp.load h4 ?_
 refine st2 ((hC2.below b3).below b4) rfl λw5 h5 c5=>?_
 refine Sp.load h5 (hR w5 (c5.below ((hb2.on b3).on b4) (by have:=b1.size;omega)))
end Go.Proofs
namespace Go.Proofs
open Go.Gk Go.RowKit Go.Gm
section
variable {w:World} {R:VWP}
theorem zpQ{n bd:Int}(hR:R (.bool (decide (n=0\/bd<=n))) w):cR 218 #[.int .u32 n,.int .u32 bd] w R:=by
 refine zb.of (ze7 n bd R w ?_) λ_ _ h=>h
 refine zj (λe=>?_) (λe=>?_)
 ·rwa[decide_eq_true (.inl e)]at hR
 ·show R (.bool (decide (n≥bd))) w
  rwa[show decide (n=0\/bd<=n)=decide (n≥bd) by
   rw[Bool.eq_iff_iff,decide_eq_true_iff,decide_eq_true_iff]
   exact⟨λh=>h.resolve_left e,.inr⟩]at hR
theorem zoN{must:Bool}{n bd e:Int}(hR:R (.int .i64 (idP must n bd e)) w):cR 161 #[.bool must,.int .u32 n,.int .u32 bd,.int .i64 e] w R:=by
 refine zb.of (zfL must n bd e R w ?_) λ_ _ h=>h
 unfold idP at hR
 refine zy (zm (λhm=>?_) (λhm=>?_))
 ·rw[if_pos (eq_of_beq hm)]at hR
  refine zm (λht=>zi (λh=>?_) (λh=>?_)) (λhf=>?_)
  ·rwa[if_pos ⟨ht,h⟩]at hR
  ·rwa[if_neg (λh'=>h h'.2)]at hR
  ·rwa[if_neg (λh'=>by rw[hf]at h';cases h'.1)]at hR
 ·rwa[if_neg (λh=>by rw[h]at hm;simp at hm)]at hR
theorem zpR{s:ByteArray}(hs:s.size<=9223372036854775807)(hR:R (.int .i64 ((s.size / 4+1:Nat):Int)) w):cR 166 #[.string s] w R:=by
 refine zb.of (ze2 s R w ?_) λ_ _ h=>h
 show R (.int .i64 _) w
 rw[znN hs]
 exact hR
theorem zqu{s:ByteArray}:nul s=true↔∃k,k<s.size/\YD s (k:Int)=0:=by
 constructor
 ·intro h
  have hm:=List.contains_iff_mem.1 h
  obtain⟨k,hk,e⟩:=List.mem_iff_getElem.1 hm
  refine⟨k,by simpa using hk,?_⟩
  have hk':k<s.data.size:=by simpa using hk
  unfold YD
  rw[Int.toNat_natCast,Array.getD_eq_getD_getElem?,Array.getElem?_eq_getElem hk']
  rw[Array.getElem_toList]at e
  rw[Option.getD_some,e]
  rfl
 ·rintro⟨k,hk,e⟩
  cases h:nul s with
  |true=>rfl
  |false=>exact absurd e (znU h hk)
theorem zoU{c:Nat}{a:Ag}{bd:Int}(hs:a.2.2.size<=9223372036854775807)(hR:∀w',Below w.heap.size w w'->R (.int .i64 (zbj (c:Int) a bd)) w') :
  cR 162 #[.int .u8 (c:Int),.agg #[.int .u8 a.1,.int .u32 a.2.1,.string a.2.2],.int .u32 bd] w R:=by
 refine zb.of (zdK c (a.1,a.2.1,a.2.2,()) bd R w ?_) λ_ _ h=>h
 refine zq λw1 hA1 b1 z1=>?_
 have hA1:Blk w1 w.heap.size 61 [.int .u8 a.1,.int .u32 a.2.1,.string a.2.2]:=hA1
 have key:zbj (c:Int) a bd=if (c:Int)=0\/a.1≠Zt c then 42 else if (a.1=3/\a.2.1≠0)\/(a.1≠3/\a.2.2.size≠0) then 42
   else if a.1=1/\(a.2.1=0\/bd<=a.2.1) then 43 else if a.1=4/\zbO c a.2.1=false then 31 else if nul a.2.2=true then 13 else 0:=rfl
 refine zk.cut (λ_ w'=>Below w1.heap.size w1 w'/\¬((c:Int)=0\/a.1≠Zt c)) ?_ ?_
 ·refine zj (λe=>?_) (λe=>?_)
  ·have:=hR w1.drew b1.drew
   rwa[key,if_pos (.inl e)]at this
  ·refine hA1.drew.rI0 rfl ?_
   refine zlT λw2 b2=>⟨_,rfl,(hA1.drew.below b2).cell0 rfl,?_⟩
   refine zr (λe2=>?_) (λe2=>⟨(Below.refl _ _).drew.on b2,λh=>h.elim e (λh=>h e2)⟩)
   have:=hR w2 (b1.drew.on b2)
   rwa[key,if_pos (.inr e2)]at this
 ·rintro _ w2 ⟨b2,hno⟩
  rw[if_neg hno]at key
  have hA2:=hA1.below b2
  have hb2:=b1.on b2
  refine zk.cut (λ_ w'=>w'=w2/\¬((a.1=3/\a.2.1≠0)\/(a.1≠3/\a.2.2.size≠0))) ?_ ?_
  ·have no:((a.1=3/\a.2.1≠0)\/(a.1≠3/\a.2.2.size≠0))->R (.int .i64 42) w2:=λh=>by
    have:=hR w2 hb2
    rwa[key,if_pos h]at this
   refine hA2.rI0 rfl (zj (λe3=>?_) (λe3=>?_))
   ·refine hA2.rI (n:=1) rfl (zr (λe4=>no (.inl ⟨e3,e4⟩)) (λe4=>?_))
    exact hA2.rI0 rfl (zr (λh=>absurd e3 h) (λ_=>⟨rfl,λh=>h.elim (λh=>h.2 e4) (λh=>h.1 e3)⟩))
   ·refine hA2.rI0 rfl (zr (λ_=>?_) (λh=>absurd h e3))
    refine hA2.rT (n:=2) rfl ?_
    rw[zkz]
    exact zy (zi (λe5=>⟨rfl,λh=>h.elim (λh=>e3 h.1) (λh=>h.2 e5)⟩) (λe5=>no (.inr ⟨e3,e5⟩)))
  ·rintro _ w3 ⟨hw,hno2⟩
   subst hw
   rw[if_neg hno2]at key
   refine zk.cut (λ_ w'=>w'=w3/\¬(a.1=1/\(a.2.1=0\/bd<=a.2.1))) ?_ ?_
   ·refine hA2.rI0 rfl (zj (λe1=>?_) (λe1=>⟨rfl,λh=>e1 h.1⟩))
    refine hA2.rI (n:=1) rfl (zpQ ⟨_,rfl,zi (λh=>?_) (λh=>⟨rfl,λh'=>h h'.2⟩)⟩)
    have:=hR w3 hb2
    rwa[key,if_pos ⟨e1,h⟩]at this
   ·rintro _ w4 ⟨hw,hno3⟩
    subst hw
    rw[if_neg hno3]at key
    refine hA2.rI (n:=1) rfl ?_
    refine zpN λs w5 b5=>⟨s,_,rfl,?_⟩
    have hA5:=hA2.below b5
    have hb5:=hb2.on b5
    refine zk.cut (λ_ w'=>w'=w5/\¬(a.1=4/\zbO c a.2.1=false)) ?_ ?_
    ·refine hA5.rI0 rfl (zj (λe4=>?_) (λe4=>⟨rfl,λh=>e4 h.1⟩))
     refine zy (zm (λh=>⟨rfl,λh'=>?_⟩) (λh=>?_))
     ·have h2:zbO c a.2.1=true:=h
      rw[h'.2]at h2
      cases h2
     ·have:=hR w5 hb5
      rwa[key,if_pos ⟨e4,h⟩]at this
    ·rintro _ w6 ⟨hw,hno4⟩
     subst hw
     rw[if_neg hno4]at key
     refine zl.count a.2.2.size hs (λk w'=>w'=w6/\∀j,j<k->YD a.2.2 (j:Int)≠0) ⟨rfl,λj hj=>by omega⟩ ?_
     rintro k w7 hk ⟨hw,hj⟩ next hnext
     subst hw
     refine hA5.rT (n:=2) rfl (zi (λh=>?_) (λh=>?_))
     ·have hlt:k<a.2.2.size:=by dsimp only at h;omega
      refine hA5.rT (n:=2) rfl ⟨⟨by omega,by omega⟩,zj (λe=>?_) (λe=>hnext _ hlt ⟨rfl,λj hj'=>?_⟩)⟩
      ·have:=hR _ hb5
       rwa[key,if_pos (zqu.2 ⟨k,hlt,e⟩)]at this
      ·by_cases e':j=k
       ·subst e';exact e
       ·exact hj j (by omega)
     ·have hk':k=a.2.2.size:=by dsimp only at h;omega
      have:=hR _ hb5
      rwa[key,if_neg (λh=>by
       obtain⟨j,hj1,hj2⟩:=zqu.1 h
       exact hj j (by omega) hj2)]at this
theorem zoT{f:Fm}{g:Fl}(hf:FmIs f g)(hg:LOk g){n:Nat}(hn:n<=9223372036854775807)(hR:∀w',Below w.heap.size w w'->R (.bool (zcj g n)) w'):cR 164 #[fmA f,.int .i64 (n:Int)] w R:=by
 refine zb.of (zdJ f n R w ?_) λ_ _ h=>h
 refine zq λw1 hB b1 z1=>?_
 have hB:Blk w1 w.heap.size 178 (fmV f):=hB
 have hR':=hR w1 b1
 have h1:=hg.fl
 unfold zcj at hR'
 refine hB.rT (n:=4) rfl ?_
 rw[hf.fixed,zK]
 refine zi (λh=>?_) (λh=>?_)
 ·rwa[if_pos (by omega)]at hR'
 ·rw[if_neg (by omega)]at hR'
  refine hB.rT (n:=5) rfl ?_
  rw[hf.rest,zK]
  refine zj (λe=>?_) (λe=>?_)
  ·refine hB.rT (n:=4) rfl ?_
   rw[hf.fixed,zK]
   rw[if_pos (by omega)]at hR'
   rwa[show((n:Int)==(g.fixed.length:Int))=(n==g.fixed.length) by
    rw[Bool.eq_iff_iff,beq_iff_eq,beq_iff_eq];omega]
  ·refine hB.rT (n:=4) rfl (hB.rT (n:=5) rfl ?_)
   rw[hf.fixed,hf.rest,zK,zK]
   refine zi (λh=>absurd h (by omega)) (λ_=>?_)
   rw[if_neg (by omega)]at hR'
   rw[zt (by omega) (by omega),show(n:Int)-(g.fixed.length:Int)=((n-g.fixed.length:Nat):Int) by omega,
    show Int.tmod ((n-g.fixed.length:Nat):Int) (g.rest.length:Int)=(((n-g.fixed.length) % g.rest.length:Nat):Int) from(Int.ofNat_tmod _ _).symm]
   rwa[show(((((n-g.fixed.length) % g.rest.length:Nat):Int))==(0:Int))=((n-g.fixed.length) % g.rest.length==0) by
    rw[Bool.eq_iff_iff,beq_iff_eq,beq_iff_eq];omega]
theorem zkC{x:Ins}{al:List Ag}{f:Fm}{g:Fl}(hty:f.2.2.1=g.ty)(hre:f.2.2.2.1=g.re)(hI:IsAg w x.2.2.2.1 al)(h24:24*al.length<=140737488351232)(hs:∀y∈al,y.2.2.size<=9223372036854775807)(htx:∀k,k<=al.length->tx al k<=1)
  (hR:∀w',Below w.heap.size w w'->R (.int .i64 (zaV g al:Int)) w'):cR 126 #[inA x,fmA f] w R:=by
 refine zb.of (ze8 x f R w ?_) λ_ _ h=>h
 refine zq λw1 hB1 b1 z1=>?_
 have hB1:Blk w1 w.heap.size 41 (inV x):=hB1
 refine zq λw2 hF2 b2 z2=>?_
 have hF2:Blk w2 w1.heap.size 178 (fmV f):=hF2
 have hB2:=hB1.below b2
 have hb2:=b1.on b2
 have hlen:=hI.len
 refine zk.cut (λst w'=>w'=w2/\st.1=((1+g.ty.toNat:Nat):Int)) ?_ ?_
 ·refine hF2.rB (n:=2) rfl ?_
  rw[hty]
  refine zm (λh=>⟨rfl,?_⟩) (λh=>⟨rfl,?_⟩)
  ·rw[h];decide +kernel
  ·rw[h];rfl
 ·rintro⟨n1,_⟩ w3 ⟨hw,hn1⟩
  subst hw
  dsimp only at hn1
  subst hn1
  refine zk.cut (λst w'=>w'=w3/\st.1=((1+g.ty.toNat +g.re.toNat:Nat):Int)) ?_ ?_
  ·refine hF2.rB (n:=3) rfl ?_
   rw[hre]
   have:g.ty.toNat<=1:=by cases g.ty<;>decide
   refine zm (λh=>⟨rfl,?_⟩) (λh=>⟨rfl,?_⟩)
   ·dsimp only
    rw[h,zt (by omega) (by omega)]
    rfl
   ·rw[h];rfl
  ·rintro⟨n2,_⟩ w4 ⟨hw,hn2⟩
   subst hw
   dsimp only at hn2
   subst hn2
   have htn:g.ty.toNat +g.re.toNat<=2:=by cases g.ty<;>cases g.re<;>decide
   refine zl.ghost (λj st w'=>∃k,k<=al.length/\j=al.length-k/\st=(((1+g.ty.toNat +g.re.toNat +zgt al k:Nat):Int),(k:Int),())/\w'=w4) al.length ⟨0,Nat.zero_le _,rfl,rfl,rfl⟩ ?_
   rintro _ _ w5 ⟨k,hk,rfl,rfl,hw⟩ next hnext
   subst hw
   have hI5:=hI.below hb2
   refine hB2.rS (n:=3) rfl (zi (λh=>?_) (λh=>?_))
   ·have hlt:k<al.length:=by dsimp only at h;omega
    have hcn:=zl1 hs (k:=k) (by omega)
    have htk:=htx k (by omega)
    have hsz:=hs _ (List.getElem_mem hlt)
    refine zk.cut (λst w'=>w'=w5/\st.1=((1+g.ty.toNat +g.re.toNat +zgt al (k+1):Nat):Int)) ?_ ?_
    ·refine hB2.rS (n:=3) rfl (zpx hI5 hlt (zj (λe=>?_) (λe=>?_)))
     ·refine hB2.rS (n:=3) rfl (zth hI5 hlt ?_)
      refine zpR hsz ⟨_,rfl,rfl,?_⟩
      have hc:cost al[k]=al[k].2.2.size / 4+1:=by unfold cost;rw[if_pos e]
      dsimp only
      have hq:al[k].2.2.size / 4<=2305843009213693951:=by omega
      rw[zf9 hlt,hc]
      generalize al[k].2.2.size / 4=q at hq
      rw[zt (by omega) (by omega)]
      omega
     ·refine⟨rfl,?_⟩
      have hc:cost al[k]=1:=by unfold cost;rw[if_neg e]
      dsimp only
      rw[zf9 hlt,hc,zt (by omega) (by omega)]
      omega
    ·rintro⟨n3,_⟩ w6 ⟨hw,hn3⟩
     dsimp only at hn3
     subst hn3
     dsimp only
     rw[zE (by omega)]
     exact hnext (al.length-(k+1)) _ _ (by omega) ⟨k+1,hlt,rfl,rfl,hw⟩
   ·have hk':k=al.length:=by dsimp only at h;omega
    subst hk'
    have:=hR _ hb2
    rwa[show zaV g al=1+g.ty.toNat +g.re.toNat +zgt al al.length by unfold zaV;omega]at this
theorem zoK{x:Ins}{al:List Ag}{bd:Int}(hI:IsAg w x.2.2.2.1 al)(h24:24*al.length<=140737488351232)(hs:∀y∈al,y.2.2.size<=9223372036854775807)
  (hR:∀w',Below w.heap.size w w'->R (.int .i64 (zfE x.1 x.2.1 x.2.2.1 al bd)) w'):cR 124 #[inA x,.int .u32 bd] w R:=by
 refine zb.of (zdH x bd R w ?_) λ_ _ h=>h
 refine zq λw1 hB1 b1 z1=>?_
 have hB1:Blk w1 w.heap.size 41 (inV x):=hB1
 have hlen:=hI.len
 refine hB1.rI0 rfl ?_
 refine zha λw2 b2=>⟨fmO x.1 (frm x.1),(frm x.1).isSome,rfl,?_⟩
 refine box8 rfl λw3 hF3 b3 z3=>?_
 have hF3:Blk w3 w2.heap.size 178 (fmV (fmO x.1 (frm x.1))):=hF3
 have hB3:=(hB1.below b2).below b3
 have hb3:=(b1.on b2).on b3
 refine zm (λhn=>?_) (λhn=>?_)
 ·have hfr:frm x.1=none:=by
   cases h:frm x.1 with
   |none=>rfl
   |some g=>rw[h]at hn;cases hn
  have:=hR w3 hb3
  rwa[zbP hfr]at this
 ·obtain⟨g,hfr⟩:∃g,frm x.1=some g:=by
   cases h:frm x.1 with
   |none=>rw[h]at hn;cases hn
   |some g=>exact⟨g,rfl⟩
  have efl:flOf x.1=g:=by unfold flOf;rw[hfr];rfl
  have hg:=lOk (zje x.1)
  have hfm:=fmIs x.1
  rw[efl]at hg hfm
  rw[hfr]at hF3 hfm
  rw[zbQ hfr]at hR
  have hty:(fmO x.1 (some g)).2.2.1=g.ty:=rfl
  have hre:(fmO x.1 (some g)).2.2.2.1=g.re:=rfl
  generalize fmO x.1 (some g)=fm at hF3 hfm hty hre
  have e0:∀k,k<=al.length->errK g x.2.1 x.2.2.1 al bd k≠0->YY g x.2.1 x.2.2.1 al bd=errK g x.2.1 x.2.2.1 al bd k:=by
   intro k hk h
   have:=zqG hk h
   unfold YY
   rw[this,if_pos h]
  refine hF3.rB (n:=2) rfl (hB3.rI (n:=1) rfl (zoN ⟨_,rfl,?_⟩))
  rw[hty]
  refine zr (λe=>?_) (λe=>?_)
  ·have he:errK g x.2.1 x.2.2.1 al bd 0=idP g.ty x.2.1 bd 40:=by unfold errK;rw[if_pos e]
   have:=hR w3 hb3
   rwa[e0 0 (Nat.zero_le _) (by rw[he];exact e),he]at this
  ·refine hF3.rB (n:=3) rfl (hB3.rI (n:=2) rfl (zoN ⟨_,rfl,?_⟩))
   rw[hre]
   refine zr (λe2=>?_) (λe2=>?_)
   ·have he:errK g x.2.1 x.2.2.1 al bd 0=idP g.re x.2.2.1 bd 41:=by unfold errK;rw[if_neg (λh=>h e),if_pos e2]
    have:=hR w3 hb3
    rwa[e0 0 (Nat.zero_le _) (by rw[he];exact e2),he]at this
   ·have he0:errK g x.2.1 x.2.2.1 al bd 0=0:=by unfold errK;rw[if_neg (λh=>h e),if_neg (λh=>h e2)];rfl
    refine zl.count al.length hI.bound (λk w'=>Below w3.heap.size w3 w'/\errK g x.2.1 x.2.2.1 al bd k=0) ⟨Below.refl _ _,he0⟩ ?_
    rintro k w4 hk ⟨hb,hek⟩ next hnext
    have hB4:=hB3.below hb
    have hF4:=hF3.below hb
    have hb4:=hb3.on hb
    have hI4:=hI.below hb4
    refine hB4.rS (n:=3) rfl (zi (λh=>?_) (λh=>?_))
    ·have hlt:k<al.length:=by dsimp only at h;omega
     obtain⟨a,ha⟩:=hI4.drew.base hlt
     have hc:=λj hj=>hI4.drew.cell a ha k hlt j hj
     refine hB4.drew.rI0 rfl (hB4.drew.rS (n:=3) rfl ⟨⟨by omega,by omega⟩,zf ha ⟨al[k].1,?_,al[k].2.1,?_,al[k].2.2,?_,?_⟩⟩)
     ·rw[zv];exact hc 0 (by omega)
     ·rw[zv];exact hc 1 (by omega)
     ·rw[zv];exact hc 2 (by omega)
     refine zj5 (by omega) λw5 b5=>⟨_,rfl,?_⟩
     have hb5:=hb4.drew.on b5
     have hc5:=λj hj=>(hI.below hb5).cell a ha k hlt j hj
     refine⟨?_,?_,?_,(hB4.drew.below b5).cell (n:=3) rfl,?_⟩
     ·rw[zv];exact hc5 0 (by omega)
     ·rw[zv];exact hc5 1 (by omega)
     ·rw[zv];exact hc5 2 (by omega)
     rw[efl]
     refine zoU (a:=al[k]) (hs _ (List.getElem_mem hlt)) λw6 b6=>⟨_,rfl,?_⟩
     have hw:zbj (letP g k:Int) al[k] bd=werr g al bd k:=by unfold werr;rw[zG hlt]
     rw[hw]
     have hes:=zcR g x.2.1 x.2.2.1 al bd k
     rw[if_pos hek]at hes
     refine zr (λe3=>?_) (λe3=>hnext w6 hlt ⟨((hb.drew.on b5).on b6),hes.trans e3⟩)
     have:=hR w6 (hb5.on b6)
     rwa[e0 (k+1) hlt (by rw[hes];exact e3),hes]at this
    ·have hk':k=al.length:=by dsimp only at h;omega
     subst hk'
     have hff:=zm6 g x.2.1 x.2.2.1 al bd
     dsimp only at hff
     rw[hek,if_pos rfl]at hff
     obtain⟨_,_,ha⟩:=zeW hek
     have hwe:=zeU ha
     refine Fm.load hF4 (hB4.rS (n:=3) rfl ?_)
     rw[hlen]
     refine zoT hfm hg (by omega) λw5 b5=>⟨_,rfl,?_⟩
     have hb5:=hb4.on b5
     refine zy (zm (λhwt=>?_) (λhwf=>?_))
     ·rw[hwt,if_pos rfl,if_pos rfl]at hff
      refine Ins.load (hB4.below b5) (Fm.load (hF4.below b5) ?_)
      refine zkC (x:=x) hty hre (hI.below hb5) h24 hs (λk hk=>zn7 hfr hk (λj hj=>hwe j (by omega))) λw6 b6=>⟨_,rfl,?_⟩
      have:=hR w6 (hb5.on b6)
      refine zi (λhgt=>?_) (λhle=>?_)
      ·rwa[hff,if_pos (by omega)]at this
      ·rwa[hff,if_neg (by omega)]at this
     ·rw[hwf,if_neg (by simp),if_neg (by decide)]at hff
      have:=hR w5 hb5
      rwa[hff]at this
end
theorem zoS{x:Mo}{pl:List PI}{w:World}{R:VWP}(hN:IsPl w x.2.2.1 pl)(hp:PlOk pl)(hR:∀w',Below w.heap.size w w'->R (.agg #[.int .i64 (zH x.2.1 pl).1,.int .i64 ((zH x.2.1 pl).2:Int)]) w') :
  cR 77 #[moA x] w R:=by
 refine zb.of (zdI x R w ?_) λ_ _ h=>h
 refine zq λw1 hB1 b1 z1=>?_
 have hB1:Blk w1 w.heap.size 25 (moV x):=hB1
 refine zq λw2 hC2 b2 z2=>?_
 have hC2:Blk w2 w1.heap.size 33 [.int .i64 0,.int .i64 0]:=hC2
 have hB2:=hB1.below b2
 have hb2:=b1.on b2
 have s1:=b1.size
 have s2:=b2.size
 have hlen:=hN.len
 have h40:=hp.len
 have spot:∀{w' cs},Blk w' w1.heap.size 33 cs->cs.length=2->Below w.heap.size w w'->∀(e a:Int),(e,a)=((zH x.2.1 pl).1,((zH x.2.1 pl).2:Int))->
   Wr w' (blk w1.heap.size)/\Nw (w'.setCell (blk w1.heap.size) (.int .i64 e)) λw3=>Wr w3 ((blk w1.heap.size).add 1)/\Nw (w3.setCell ((blk w1.heap.size).add 1) (.int .i64 a)) λw4=>
    ldI w4 ((blk w1.heap.size).add 0) .i64 λx4=>ldI w4 ((blk w1.heap.size).add 1) .i64 λx5=>R (.agg #[.int .i64 x4,.int .i64 x5]) w4:=by
  intro w' cs hC hl hb e a hea
  refine st2 hC hl λw3 h3 c3=>Sp.load h3 ?_
  rw[Prod.mk.injEq]at hea
  rw[hea.1,hea.2]
  exact hR w3 (c3.below hb (by omega))
 refine zk.cut (λ_ w'=>w'=w2/\¬(x.2.1=0\/65536<x.2.1)) ?_ ?_
 ·refine hB2.rI (n:=1) rfl (zj (λe=>?_) (λe=>?_))
  ·exact spot hC2 rfl hb2 24 0 (by rw[zet (.inl e)];rfl)
  ·refine hB2.rI (n:=1) rfl (zi (λh=>?_) (λh=>⟨rfl,λh'=>h'.elim e h⟩))
   exact spot hC2 rfl hb2 24 0 (by rw[zet (.inr h)];rfl)
 ·rintro _ w' ⟨hw,hbd⟩
  subst hw
  refine zl.ghost (λj st w4=>∃(k:Nat),k<=pl.length/\j=pl.length-k/\st=((totP pl k:Int),(k:Int),())/\totP pl k<=1048576/\(∀i,i<k->badI pl x.2.1 i=false)/\Below w'.heap.size w' w4) pl.length
   ⟨0,Nat.zero_le _,rfl,rfl,(by simp[totP]),λi hi=>by omega,Below.refl _ _⟩ ?_
  rintro _ _ w4 ⟨k,hk,rfl,rfl,htot,hj,hb4⟩ next hnext
  have hbw4:=hb2.on hb4
  have hB4:=hB2.below hb4
  have hC4:=hC2.below hb4
  refine hB4.rS (n:=2) rfl (zi (λh=>?_) (λh=>?_))
  ·have hlt:k<pl.length:=by dsimp only at h;omega
   have hmem:=List.getElem_mem hlt
   refine hB4.drew.rS (n:=2) rfl ?_
   refine yA (hN.below hbw4.drew) hlt λt ht=>?_
   refine hB4.drew.rI (n:=1) rfl ?_
   refine zoK (x:=mkIn pl[k] t) ht (hp.args _ hmem) (hp.text _ hmem) λw6 b6=>⟨_,rfl,?_⟩
   have hb6:=hb4.drew.on b6
   have hbw6:=hb2.on hb6
   have hB6:=hB4.drew.below b6
   have hC6:=hC4.drew.below b6
   show ifB (yN pl[k] x.2.1 !=0) _ _
   refine zr (λe=>?_) (λe=>?_)
   ·exact spot hC6 rfl hbw6 _ _ (by rw[zkH hbd hlt hj e];rfl)
   ·refine hB6.rS (n:=2) rfl (zfB (hN.below hbw6) hlt ?_)
    refine zha λw7 b7=>⟨fmO pl[k].1 (frm pl[k].1),(frm pl[k].1).isSome,rfl,?_⟩
    refine box8 rfl λw8 hF8 b8 z8=>?_
    have hF8:Blk w8 w7.heap.size 178 (fmV (fmO pl[k].1 (frm pl[k].1))):=hF8
    have b68:=b7.on b8
    have hb8:=hb6.on b68
    have hbw8:=hb2.on hb8
    have hB8:=hB6.below b68
    have hC8:=hC6.below b68
    obtain⟨g,hfr⟩:∃g,frm pl[k].1=some g:=by
     cases h:frm pl[k].1 with
     |none=>
      have:yN pl[k] x.2.1=30:=by unfold yN;rw[zbP h]
      rw[e]at this
      cases this
     |some g=>exact⟨g,rfl⟩
    have hff:YY g pl[k].2.1 pl[k].2.2.1 pl[k].2.2.2 x.2.1=0:=by
     have:yN pl[k] x.2.1=YY g pl[k].2.1 pl[k].2.2.1 pl[k].2.2.2 x.2.1:=by unfold yN;rw[zbQ hfr]
     rw[<-this];exact e
    have hek:errK g pl[k].2.1 pl[k].2.2.1 pl[k].2.2.2 x.2.1 pl[k].2.2.2.length=0:=by
     refine Classical.byContradiction λhne=>?_
     unfold YY at hff
     rw[if_pos hne]at hff
     exact hne hff
    obtain⟨_,_,hak⟩:=zeW hek
    have hwe:=zeU hak
    have hroom:zaV g pl[k].2.2.2<=65535:=by
     unfold YY at hff
     rw[if_neg (λh=>h hek)]at hff
     split at hff
     ·cases hff
     ·split at hff
      ·cases hff
      ·rename_i h;omega
    have hri:zgu pl[k]=zaV g pl[k].2.2.2:=by unfold zgu;rw[hfr]
    rw[hfr]at hF8
    have hty:(fmO pl[k].1 (some g)).2.2.1=g.ty:=rfl
    have hre:(fmO pl[k].1 (some g)).2.2.2.1=g.re:=rfl
    generalize fmO pl[k].1 (some g)=fm at hF8 hty hre
    refine hB8.drew.rS (n:=2) rfl ?_
    refine yA (hN.below hbw8.drew) hlt λt' ht'=>?_
    refine Fm.load hF8.drew ?_
    refine zkC (x:=mkIn pl[k] t') hty hre ht' (hp.args _ hmem) (hp.text _ hmem) (λi hi=>zn7 hfr hi (λj hj=>hwe j (by omega))) λw9 b9=>⟨_,rfl,?_⟩
    have hb9:=hb8.drew.on b9
    have hbw9:=hb2.on hb9
    have ht1:=zko hlt
    have hsum:IntKind.i64.wrap ((totP pl k:Int)+(zaV g pl[k].2.2.2:Int))=(totP pl (k+1):Int):=by
     rw[zt (by omega) (by omega)]
     omega
    dsimp only
    rw[hsum]
    refine zi (λhgt=>?_) (λhle=>?_)
    ·exact spot (hC8.drew.below b9) rfl hbw9 _ _ (by rw[zkI hbd hlt hj e (by omega)])
    ·have hbk:=zlw hlt e (show ¬1048576<totP pl (k+1) by omega)
     rw[zE (by omega)]
     refine hnext (pl.length-(k+1)) _ _ (by omega) ⟨k+1,hlt,rfl,rfl,by omega,λi hi=>?_,hb9⟩
     by_cases e':i=k
     ·subst e';exact hbk
     ·exact hj i (by omega)
  ·have hk':k=pl.length:=by dsimp only at h;omega
   subst hk'
   exact spot hC4 rfl hbw4 0 0 (by rw[zlW hbd hj];rfl)
def idsN(ty:Int)(al:List Ag)(k:Nat):List Int:=(if ty=0 then [] else [ty])++((al.take k).filter λa=>a.1==1).map (·.2.1)
def idsP(ty:Int)(al:List Ag):List Int:=idsN ty al al.length
theorem zho{ty:Int}{al:List Ag}{k:Nat}(hk:k<al.length):idsN ty al (k+1)=idsN ty al k++(if al[k].1=1 then [al[k].2.1] else []):=by
 unfold idsN
 rw[List.take_succ_eq_append_getElem hk,List.filter_append,List.map_append,<-List.append_assoc]
 congr 1
 by_cases e:al[k].1=1
 ·rw[if_pos e]
  have:(al[k].1==1)=true:=beq_iff_eq.2 e
  simp[this]
 ·rw[if_neg e]
  have:(al[k].1==1)=false:=beq_eq_false_iff_ne.2 e
  simp[this]
theorem zoq(ty:Int)(al:List Ag)(k:Nat):(idsN ty al k).length<=k+1:=by
 unfold idsN
 rw[List.length_append,List.length_map]
 have h1:=List.length_filter_le (λa:Ag=>a.1==1) (al.take k)
 rw[List.length_take]at h1
 have h2:(if ty=0 then([]:List Int) else [ty]).length<=1:=by split<;>simp
 omega
section
variable {x:Ins} {al:List Ag} {w:World} {R:VWP}
theorem zry(hI:IsAg w x.2.2.2.1 al)(h24:24*al.length<=140737488351232)
  (hR:∀r w',Own w' 22 1 r ((idsP x.2.1 al).map (Value.int .u32))->zw w.heap.size r->Below w.heap.size w w'->R (.slice r.a r.l r.c) w'):cR 102 #[inA x] w R:=by
 refine zb.of (zlz x R w ?_) λ_ _ h=>h
 refine zq λw1 hB b1 z1=>?_
 have hB:Blk w1 w.heap.size 41 (inV x):=hB
 have hlen:=hI.len
 refine zk.cut (λst w'=>Own w' 22 1 st.1 ((idsN x.2.1 al 0).map (Value.int .u32))/\zw w1.heap.size st.1/\Below w1.heap.size w1 w') ?_ ?_
 ·refine hB.rI (n:=1) rfl (zr (λe=>?_) (λe=>?_))
  ·refine hB.rI (n:=1) rfl ?_
   refine zq λw2 h2 b2 z2=>?_
   refine y7 eU32 (Own.nil _ _ _) b2 (λa ha=>by cases ha) (v:=.int .u32 x.2.1) rfl h2 (by decide) (by decide) λr w3 h3 b3 F3=>⟨?_,F3,b3⟩
   unfold idsN
   rw[if_neg e]
   simpa using h3
  ·refine⟨?_,λa ha=>by(cases ha),Below.refl _ _⟩
   unfold idsN
   rw[if_pos e]
   simpa using Own.nil w1 22 1
 ·rintro⟨r0,_⟩ w2 ⟨hO2,hF2,hb2⟩
  dsimp only at hO2 hF2⊢
  refine(hB.below hb2).rS (n:=3) rfl ?_
  refine zl.countSl al.length hI.bound (λk r w'=>Own w' 22 1 r ((idsN x.2.1 al k).map (Value.int .u32))/\zw w1.heap.size r/\Below w1.heap.size w1 w') ⟨hO2,hF2,hb2⟩ ?_
  rintro k r w3 hk ⟨hO,hF,hb⟩ next hnext
  have hb0:=b1.on hb
  have hI3:=hI.below hb0
  refine zi (λh=>?_) (λh=>?_)
  ·have hlt:k<al.length:=by dsimp only at h;omega
   refine zk.cut (λst w'=>Own w' 22 1 st.1 ((idsN x.2.1 al (k+1)).map (Value.int .u32))/\zw w1.heap.size st.1/\Below w1.heap.size w1 w') ?_ ?_
   ·refine zgI hI3 hlt ?_
    refine box3 rfl λw4 h4 b4 z4=>?_
    have hrl:r.l<=k+1:=by have:=hO.1;have h2:=zoq x.2.1 al k;rw[List.length_map]at this;omega
    refine h4.rI0 rfl (zj (λe=>?_) (λe=>?_))
    ·refine h4.rI (n:=1) rfl ?_
     refine zq λw5 h5 b5 z5=>?_
     refine y7 eU32 ((hO.below b4).below b5) ((hb.on b4).on b5) hF (v:=.int .u32 al[k].2.1) rfl h5 (by omega) (by omega) λr' w6 h6 b6 F6=>⟨?_,F6,b6⟩
     rw[zho hlt,if_pos e,List.map_append]
     exact h6
    ·refine⟨?_,hF,hb.on b4⟩
     rw[zho hlt,if_neg e,List.append_nil]
     exact hO.below b4
   ·rintro⟨r',_⟩ w' ⟨h1,h2,h3⟩
    exact hnext r' w' hlt ⟨h1,h2,h3⟩
  ·have hk:k=al.length:=by dsimp only at h;omega
   subst hk
   exact hR r w3 hO (λa ha=>by have:=hF a ha;have:=b1.size;omega) hb0
theorem zrh(hI:IsAg w x.2.2.2.1 al)(h24:24*al.length<=140737488351232)
  (hR:∀r w',Own w' 22 1 r ((idsP x.2.1 al).map (Value.int .u32))->zw w.heap.size r->Below w.heap.size w w'->R (.slice r.a r.l r.c) w'):cR 143 #[inA x] w R:=by
 refine zb.of (zfc x R w ?_) λ_ _ h=>h
 refine zq λw1 hB b1 z1=>?_
 have hB:Blk w1 w.heap.size 41 (inV x):=hB
 have hlen:=hI.len
 refine zk.cut (λst w'=>Own w' 22 1 st.1 ((idsN x.2.1 al 0).map (Value.int .u32))/\zw w1.heap.size st.1/\Below w1.heap.size w1 w') ?_ ?_
 ·refine hB.rI (n:=1) rfl (zr (λe=>?_) (λe=>?_))
  ·refine hB.rI (n:=1) rfl ?_
   refine zq λw2 h2 b2 z2=>?_
   refine y7 eU32 (Own.nil _ _ _) b2 (λa ha=>by cases ha) (v:=.int .u32 x.2.1) rfl h2 (by decide) (by decide) λr w3 h3 b3 F3=>⟨?_,F3,b3⟩
   unfold idsN
   rw[if_neg e]
   simpa using h3
  ·refine⟨?_,λa ha=>by(cases ha),Below.refl _ _⟩
   unfold idsN
   rw[if_pos e]
   simpa using Own.nil w1 22 1
 ·rintro⟨r0,_⟩ w2 ⟨hO2,hF2,hb2⟩
  dsimp only at hO2 hF2⊢
  refine zl.countSl al.length hI.bound (λk r w'=>Own w' 22 1 r ((idsN x.2.1 al k).map (Value.int .u32))/\zw w1.heap.size r/\Below w1.heap.size w1 w') ⟨hO2,hF2,hb2⟩ ?_
  rintro k r w3 hk ⟨hO,hF,hb⟩ next hnext
  have hb0:=b1.on hb
  have hI3:=hI.below hb0
  have hB3:=hB.below hb
  refine hB3.rS (n:=3) rfl (zi (λh=>?_) (λh=>?_))
  ·have hlt:k<al.length:=by dsimp only at h;omega
   refine zk.cut (λst w'=>Own w' 22 1 st.1 ((idsN x.2.1 al (k+1)).map (Value.int .u32))/\zw w1.heap.size st.1/\Below w1.heap.size w1 w') ?_ ?_
   ·have hrl:r.l<=k+1:=by have:=hO.1;have h2:=zoq x.2.1 al k;rw[List.length_map]at this;omega
    refine hB3.rS (n:=3) rfl (zpx hI3 hlt (zj (λe=>?_) (λe=>?_)))
    ·refine hB3.rS (n:=3) rfl (zil hI3 hlt ?_)
     refine zq λw5 h5 b5 z5=>?_
     refine y7 eU32 (hO.below b5) (hb.on b5) hF (v:=.int .u32 al[k].2.1) rfl h5 (by omega) (by omega) λr' w6 h6 b6 F6=>⟨?_,F6,b6⟩
     rw[zho hlt,if_pos e,List.map_append]
     exact h6
    ·refine⟨?_,hF,hb⟩
     rw[zho hlt,if_neg e,List.append_nil]
     exact hO
   ·rintro⟨r',_⟩ w' ⟨h1,h2,h3⟩
    exact hnext r' w' hlt ⟨h1,h2,h3⟩
  ·have hk:k=al.length:=by dsimp only at h;omega
   subst hk
   exact hR r w3 hO (λa ha=>by have:=hF a ha;have:=b1.size;omega) hb0
end
end Go.Proofs
namespace Go.Proofs
open Go.Gk Go.RowKit Go.Gm
theorem Fr.low{B:Nat}{X:Nat->Prop}{w0 w w':World}(h:Fr w.heap.size X w w')(hb:Below B w0 w)(hX:∀k,X k->B<=k)(hB:B<=w.heap.size):Below B w0 w':=
 hb.trans ⟨h.os,h.tape,h.output,h.size,λk hk=>h.block k (by omega) (λx=>by have:=hX k x;omega)⟩
theorem Fr.on{X:Nat->Prop}{w w1 w2:World}(h:Fr w.heap.size X w w1)(k:Fr w1.heap.size X w1 w2):Fr w.heap.size X w w2:=h.trans (k.mono h.size λ_ _ x=>x)
theorem Chg.fr{b:Nat}{w w':World}(h:Chg b w w'){B:Nat}:Fr B (λk=>k=b) w w':=⟨h.os,h.tape,h.output,Nat.le_of_eq h.size.symm,λk _ hk=>h.block k hk⟩
theorem Fr.wide{B:Nat}{X X':Nat->Prop}{w w':World}(h:Fr B X w w')(hX:∀k,X k->X' k):Fr B X' w w':=h.mono (Nat.le_refl _) λk _ x=>hX k x
theorem Fr.own{X:Nat->Prop}{w w':World}(h:Fr w.heap.size X w w'){T:TypeId}{sz:Nat}{s:Sl}{xs:List Value}(hO:Own w T sz s xs)(hX:∀b,s.a=some (blk b)->¬X b):Own w' T sz s xs:=
 hO.of_block λa ha=>by
  obtain⟨e,hlt⟩:=hO.lt ha
  exact h.block _ hlt (hX _ (by rw[<-e];exact ha))
theorem Fr.blk{X:Nat->Prop}{w w':World}(h:Fr w.heap.size X w w'){T:TypeId}{b:Nat}{xs:List Value}(hO:Blk w b T xs)(hX:¬X b):Blk w' b T xs:=hO.of_block (h.block _ hO.lt hX)
theorem zj2{P:Program}{t e:TypeId}{sz bytes:Nat}(he:zao P t e sz bytes){w:World}{s:Sl}{xs vs:List Value}(h:Own w e sz s xs)(hl:vs.length=sz)(hv:∀u∈vs,u.oneCell'=true){b c:Nat}{T:TypeId}
  (hB:Blk w b T vs) (h63:s.l+1<=9223372036854775807) (hbytes:(s.l+1)*bytes<=140737488355328) {k:Sl->World->Prop}
  (hk:∀r w' b',Own w' e sz r (xs++vs)->r.l=s.l+1->r.a=some (blk b')->(s.a=some (blk b')\/b'=w.heap.size)->Fr w.heap.size (λk=>s.a=some (blk k)) w w'->k r w') :
  zo P t (.slice s.a s.l s.c) (.slice (some (blk b)) 1 c) w k:=by
 refine yF he h (news:=vs) (by omega) (λj u hj=>hB.cell hj) hv h63 hbytes λr w' h1 hl' hg=>?_
 rcases hg with⟨_,_,h3⟩ | ⟨b',h3,h4,h5⟩
 ·rw[h3]at hl';omega
 ·refine hk r w' b' h1 hl' h3 h4 ⟨h5.os,h5.tape,h5.output,h5.size,λk hk hx=>h5.block k hk λe=>?_⟩
  cases e
  rcases h4 with h4 |h4
  ·exact hx h4
  ·omega
section
variable {x:Ins} {al:List Ag} {w:World} {R:VWP}
abbrev piOf(x:Ins)(al:List Ag):PI:=(x.1,x.2.1,x.2.2.1,al)
theorem zjZ{p:PI}{h:0<p.2.2.2.length}:zhY p=(p.1==59&&p.2.2.2[0].2.1==7):=by
 obtain⟨o,t,r,l⟩:=p
 cases l with
 |nil=>exact absurd h (Nat.lt_irrefl _)
 |cons a r=>rfl
theorem zmn(hI:IsAg w x.2.2.2.1 al)(hR:∀w',Below w.heap.size w w'->R (.bool (zhY (piOf x al))) w'):cR 257 #[inA x] w R:=by
 refine zb.of (zg0 x R w ?_) λ_ _ h=>h
 refine zq λw1 hB b1 z1=>?_
 have hB:Blk w1 w.heap.size 41 (inV x):=hB
 have hlen:=hI.len
 refine hB.rI0 rfl (zj (λe1=>?_) (λe1=>?_))
 ·refine hB.rS (n:=3) rfl (zi (λh=>?_) (λh=>?_))
  ·have h0:0<al.length:=by omega
   refine hB.rS (n:=3) rfl (zil (hI.below b1) (k:=0) h0 ?_)
   have:=hR w1 b1
   rw[zjZ (p:=piOf x al) (h:=h0),beq_iff_eq.2 e1,Bool.true_and]at this
   exact this
  ·have h0:al=[]:=List.length_eq_zero_iff.1 (by omega)
   have:=hR w1 b1
   subst h0
   unfold zhY at this
   rw[Bool.and_false]at this
   exact this
 ·have:=hR w1 b1
  unfold zhY at this
  rw[beq_eq_false_iff_ne.2 e1,Bool.false_and]at this
  exact this
theorem zoo(op:Int):(fmO op (frm op)).2.2.2.2.2.2.2.1=((zbY op:Nat):Int):=by
 unfold zbY
 cases frm op<;>rfl
theorem zmQ(hI:IsAg w x.2.2.2.1 al)(hR:∀w',Below w.heap.size w w'->R (.int .u8 (zu (piOf x al):Int)) w'):cR 226 #[inA x] w R:=by
 refine zb.of (zjs x R w ?_) λ_ _ h=>h
 refine zq λw1 hB b1 z1=>?_
 have hB:Blk w1 w.heap.size 41 (inV x):=hB
 refine Ins.load hB ?_
 refine zmn (x:=x) (hI.below b1) λw2 b2=>⟨_,rfl,?_⟩
 have hb2:=b1.on b2
 refine zm (λhv=>?_) (λhv=>?_)
 ·have:=hR w2 hb2
  unfold zu at this
  rw[if_pos hv]at this
  exact this
 ·refine(hB.below b2).rI0 rfl (zjj λw3 b3=>⟨fmO x.1 (frm x.1),(frm x.1).isSome,rfl,?_⟩)
  refine box8 rfl λw4 hF4 b4 z4=>?_
  refine hF4.rI (n:=7) rfl ?_
  have:=hR w4 ((hb2.on b3).on b4)
  unfold zu at this
  rw[if_neg (by rw[hv];decide)]at this
  rw[zoo]
  exact this
theorem zq2{op:Int}(hR:R (.bool (zW op)) w):cR 258 #[.int .u16 op] w R:=by
 refine zb.of (zjq op R w ?_) λ_ _ h=>h
 refine zi (λh=>?_) (λh=>?_)
 ·have:zW op=decide (op<=255):=by
   unfold zW
   exact decide_eq_decide.2 ⟨λg=>g.2,λg=>⟨h,g⟩⟩
  rwa[this]at hR
 ·have:zW op=false:=zfD.2 (by omega)
  rwa[this]at hR
theorem zsb{mg en:Int}(hR:R (.bool (mayI mg en)) w):cR 228 #[.int .u16 mg,.int .u16 en] w R:=by
 refine zb.of (zkd mg en R w ?_) λ_ _ h=>h
 unfold mayI at hR
 refine zj (λe=>?_) (λe=>?_)
 ·rwa[if_pos e]at hR
 rw[if_neg e]at hR
 refine zj (λe=>?_) (λe=>?_)
 ·rwa[if_pos e]at hR
 rw[if_neg e]at hR
 refine zj (λe=>?_) (λe=>?_)
 ·rwa[if_pos e]at hR
 ·rwa[if_neg e]at hR
theorem zqS(hI:IsAg w x.2.2.2.1 al)(hR:∀w',Below w.heap.size w w'->R (.int .i64 (kdP (piOf x al))) w'):cR 227 #[inA x] w R:=by
 refine zb.of (zjr x R w ?_) λ_ _ h=>h
 refine zq λw1 hB b1 z1=>?_
 have hB:Blk w1 w.heap.size 41 (inV x):=hB
 refine Ins.load hB ?_
 refine zmQ (x:=x) (hI.below b1) λw2 b2=>⟨_,rfl,?_⟩
 have hb2:=b1.on b2
 have hB2:=hB.below b2
 have hR:=hR w2 hb2
 unfold kdP at hR
 refine zr (λe=>?_) (λe=>?_)
 ·rwa[if_pos (λh=>e (by rw[h];rfl))]at hR
 rw[if_neg (λh=>h (by omega))]at hR
 refine hB2.rI0 rfl ?_
 refine zj (λe=>?_) (λe=>?_)
 ·rwa[if_pos e]at hR
 rw[if_neg e]at hR
 refine zj (λe=>?_) (λe=>?_)
 ·rwa[if_pos e]at hR
 rw[if_neg e]at hR
 refine zj (λe=>?_) (λe=>?_)
 ·rwa[if_pos e]at hR
 rw[if_neg e]at hR
 refine zj (λe=>?_) (λe=>?_)
 ·rwa[if_pos e]at hR
 rw[if_neg e]at hR
 refine zj (λe=>?_) (λe=>?_)
 ·rwa[if_pos e]at hR
 rw[if_neg e]at hR
 refine zj (λe=>?_) (λe=>?_)
 ·rwa[if_pos e]at hR
 rw[if_neg e]at hR
 refine zj (λe=>?_) (λe=>?_)
 ·rwa[if_pos e]at hR
 rw[if_neg e]at hR
 refine zj (λe=>?_) (λe=>?_)
 ·rwa[if_pos e]at hR
 rw[if_neg e]at hR
 refine hB2.rI0 rfl (zq2 ⟨_,rfl,zm (λh=>?_) (λh=>?_)⟩)
 ·rwa[if_pos h]at hR
 ·rwa[if_neg (by rw[h];decide)]at hR
end
abbrev ctV(s:Sl)(n:Int)(ps:List Int)(f:Sl):List Value:=.slice s.a s.l s.c ::.int .i64 n::(ps.map (Value.int .i64)++[.slice f.a f.l f.c])
structure Ct (w0 w:World) (bc:Nat) (s:Sl) (n:Nat) (ps:List Int) (f:Sl):Prop where
 hi:w0.heap.size<=bc
 b0:Below w0.heap.size w0 w
 blk:Blk w bc 151 (ctV s n ps f)
 len:ps.length=20
section
variable {w0 w:World} {bc n:Nat} {s f:Sl} {ps:List Int} {pl:List PI} {R:VWP}
theorem Ct.below{w':World}(h:Ct w0 w bc s n ps f)(hb:Below w.heap.size w w'):Ct w0 w' bc s n ps f:=⟨h.hi,h.b0.on hb,h.blk.below hb,h.len⟩
theorem Ct.fr{w':World}{X:Nat->Prop}(h:Ct w0 w bc s n ps f)(hf:Fr w.heap.size X w w')(hX:∀k,X k->w0.heap.size<=k)(hne:¬X bc):Ct w0 w' bc s n ps f:=
 ⟨h.hi,hf.low h.b0 hX h.b0.size,hf.blk h.blk hne,h.len⟩
theorem Ct.mem(h:Ct w0 w bc s n ps f)(hN:IsPl w0 s pl):IsPl w s pl:=hN.below h.b0
theorem Ct.at_(h:Ct w0 w bc s n ps f){φ:Int->Prop}(hφ:φ n):zc (some (Gk.blk bc)) λa=>ldI w (a.add 1) .i64 φ:=zf rfl (h.blk.rI (n:=1) rfl hφ)
theorem Ct.sl(h:Ct w0 w bc s n ps f){φ:Sl->Prop}(hφ:φ s):zc (some (Gk.blk bc)) λa=>ldS w a φ:=zf rfl ⟨s,h.blk.cell0 rfl,hφ⟩
theorem Ct.drew(h:Ct w0 w bc s n ps f):Ct w0 w.drew bc s n ps f:=⟨h.hi,h.b0.drew,h.blk.drew,h.len⟩
theorem Ct.inc(h:Ct w0 w bc s n ps f)(hn:n<9223372036854775807){K:World->Prop}(hK:∀w',Ct w0 w' bc s (n+1) ps f->Chg bc w w'->K w') :
  zc (some (Gk.blk bc)) λa1=>ldI w (a1.add 1) .i64 λx=>zc (some (Gk.blk bc)) λa2=>Wr w (a2.add 1)/\Nw (w.setCell (a2.add 1) (.int .i64 (IntKind.i64.wrap (x+(1:Int))))) K:=by
 refine h.at_ (zf rfl ⟨h.blk.wr (by simp),Nw.gen λw' e=>?_⟩)
 rw[zE hn]at e
 have c:Chg bc w w':=by rw[e];exact Chg.set _ _ _ _
 refine hK w' ⟨h.hi,c.below h.b0 h.hi,?_,h.len⟩ c
 rw[e]
 exact h.blk.set 1 _
def kn(pl:List PI)(n:Nat):Int:=if n<pl.length then kdP (ix pl n) else -1
theorem zk5{k:Int}(h:kn pl n=k)(hk:k≠-1):n<pl.length/\kdP (ix pl n)=k:=by
 unfold kn at h
 split at h
 ·exact⟨by assumption,h⟩
 ·exact absurd h.symm hk
theorem zjp{k:Int}(h:kn pl n≠k):n<pl.length->kdP (ix pl n)≠k:=by
 intro hn e
 unfold kn at h
 rw[if_pos hn]at h
 exact h e
theorem yR{k:Nat}(h:k<pl.length):ix pl k=pl[k]:=zG h
theorem YG(h:Ct w0 w bc s n ps f)(hN:IsPl w0 s pl)(hn:n<=pl.length)(hR:∀w',Below w.heap.size w w'->R (.int .i64 (kn pl n)) w') :
  cR 173 #[.pointer (some (blk bc))] w R:=by
 refine zb.of (zeC _ R w ?_) λ_ _ h=>h
 have hlen:=hN.len
 have bd:Below w.heap.size w w.drew:=(Below.refl _ _).drew
 refine h.drew.at_ (h.drew.sl ?_)
 unfold kn at hR
 refine zj (λe=>?_) (λe=>?_)
 ·rw[if_neg (by omega)]at hR
  exact hR _ bd
 ·have hlt:n<pl.length:=by omega
  rw[if_pos hlt,yR hlt]at hR
  refine h.drew.drew.sl (h.drew.drew.at_ ?_)
  refine yA (h.drew.drew.mem hN) hlt λt ht=>?_
  refine zqS (x:=mkIn pl[n] t) ht λw1 b1=>⟨_,rfl,hR w1 (bd.drew.on b1)⟩
def zd9(a b:Nat):List Int:=(List.range (b-a)).map λi=>((a+i:Nat):Int)
theorem zpJ(a:Nat):zd9 a a=[]:=by unfold zd9;simp
theorem zpI(a b:Nat):(zd9 a b).length=b-a:=by unfold zd9;simp
theorem zoF{a b:Nat}(h:a<=b):zd9 a (b+1)=zd9 a b++[(b:Int)]:=by
 unfold zd9
 rw[show b+1-a=(b-a)+1 by omega,List.range_succ,List.map_append]
 simp
 omega
theorem zhy{k:Int}(h:Ct w0 w bc s n ps f)(hN:IsPl w0 s pl)(hn:n<=pl.length)(h40:40*pl.length<=140737488351232)(hk:k≠-1)
  (hR:∀(r:Sl) n' w',n<=n'->n'<=pl.length->(∀j,n<=j->j<n'->kdP (ix pl j)=k)->(n'<pl.length->kdP (ix pl n')≠k)->Ct w0 w' bc s n' ps f->Fr w.heap.size (λk=>k=bc) w w'->
   Own w' 3 1 r ((zd9 n n').map (Value.int .i64))->zw w.heap.size r->R (.slice r.a r.l r.c) w') :
  cR 174 #[.pointer (some (blk bc)),.int .i64 k] w R:=by
 refine zb.of (zfj _ k R w ?_) λ_ _ h=>h
 refine zl.ghost (λj (st:Sl×Unit) w'=>∃n',j=pl.length-n'/\n<=n'/\n'<=pl.length/\(∀j,n<=j->j<n'->kdP (ix pl j)=k)/\Ct w0 w' bc s n' ps f/\Fr w.heap.size (λk=>k=bc) w w'/\
   Own w' 3 1 st.1 ((zd9 n n').map (Value.int .i64))/\zw w.heap.size st.1) (pl.length-n)
  ⟨n,rfl,Nat.le_refl _,hn,λj h1 h2=>by omega,h,Fr.refl _ _ _,by rw[zpJ];exact Own.nil _ _ _,λa ha=>by cases ha⟩ ?_
 rintro _ ⟨r,_⟩ w1 ⟨n',rfl,h1,h2,h3,h4,h5,h6,h7⟩ next hnext
 dsimp only at h6 h7
 refine YG h4 hN h2 λw2 b2=>⟨_,rfl,?_⟩
 have h42:=h4.below b2
 have h52:=h5.on (Fr.of_below b2)
 have h62:=h6.below b2
 refine zj (λe=>?_) (λe=>?_)
 ·obtain⟨hlt,hkd⟩:=zk5 e hk
  refine h42.at_ (zq λw3 hB3 b3 z3=>?_)
  have hB3:Blk w3 w2.heap.size 3 [.int .i64 (n':Int)]:=hB3
  have hlr:r.l=n'-n:=by have:=h6.1;rw[List.length_map,zpI]at this;omega
  have hbd:bc<w.heap.size:=h.blk.lt
  refine zj2 eInt (h62.below b3) rfl (by simp[Value.oneCell']) hB3 (by omega) (by omega) λr' w4 b' hO4 hl4 ha4 hw4 f4=>?_
  have s2:=b2.size
  have s5:=h5.size
  have hne:¬(r.a=some (blk bc)):=λe=>by have:=h7 _ e;exact absurd this (Nat.not_le.2 hbd)
  have hfr:∀k,r.a=some (blk k)->w.heap.size<=k:=λk e=>h7 _ e
  have h44:Ct w0 w4 bc s n' ps f:=(h42.below b3).fr f4 (λk e=>Nat.le_trans h.b0.size (hfr k e)) hne
  have h54:Fr w.heap.size (λk=>k=bc) w w4:=(h52.on (Fr.of_below b3)).trans ⟨f4.os,f4.tape,f4.output,f4.size,λk hk hx=>f4.block k (by have:=b3.size;omega) λe=>by have:=hfr k e;omega⟩
  refine h44.inc (by omega) λw5 h55 c5=>?_
  refine hnext (pl.length-(n'+1)) _ _ (by omega) ⟨n'+1,rfl,by omega,hlt,λj g1 g2=>?_,h55,h54.trans c5.fr,?_,?_⟩
  ·by_cases ej:j=n'
   ·subst ej;exact hkd
   ·exact h3 j g1 (by omega)
  ·rw[zoF h1,List.map_append]
   refine hO4.of_block λa ha=>c5.block _ λe=>?_
   rw[ha4]at ha
   cases ha
   have e:b'=bc:=e
   subst e
   rcases hw4 with g |g
   ·exact hne g
   ·have:=b3.size;omega
  ·intro a ha
   rw[ha4]at ha
   cases ha
   show w.heap.size<=b'
   rcases hw4 with g |g
   ·exact hfr _ g
   ·have:=b3.size;omega
 ·exact hR r n' w2 h1 h2 h3 (zjp e) h42 h52 h62 h7
end
end Go.Proofs
namespace Go.Proofs
open Go.Gk Go.RowKit Go.Gm
theorem yx{w w':World}(hb:Below w.heap.size w w'){a:Addr}{v:Value}(h:w.cell? a=some v):w'.cell? a=some v:=by
 rw[World.cell?_of_block (w:=w) (hb.block _ (World.block_lt_of_cell? w _ h))]
 exact h
theorem zqm{w:World}{s:Sl}{pl:List PI}(h:IsPl w s pl){k:Nat}(hk:k<pl.length){φ:Addr->Int->Prop}(hφ:∀a,w.cell? ((a.add (Int.toNat (k:Int)*4)).add 2)=some (.int .u32 pl[k].2.2.1)->φ a pl[k].2.2.1) :
  (0<=(k:Int)/\(k:Int)<(s.l:Int))/\zc s.a λa=>ldI w ((a.add (Int.toNat (k:Int)*4)).add 2) .u32 λx=>φ a x:=by
 obtain⟨a,ha⟩:=h.base hk
 obtain⟨t,h1,h2⟩:=h.elem a ha k hk
 have hc:w.cell? ((a.add (Int.toNat (k:Int)*4)).add 2)=some (.int .u32 pl[k].2.2.1):=by rw[zv];exact h1 2 (by omega)
 exact⟨⟨by omega,by have:=h.len;omega⟩,zf ha ⟨_,hc,hφ a hc⟩⟩
abbrev fnV(f:FnL)(tp tb:Sl):List Value:=[.int .u32 f.id,.int .i64 f.at_,.slice tp.a tp.l tp.c,.slice tb.a tb.l tb.c,.int .i64 f.en]
abbrev blV(b:Int×Int×Int):List Value:=[.int .u32 b.1,.int .i64 b.2.1,.int .i64 b.2.2]
theorem eBlk:zao Tryz.prog 27 69 3 24:=⟨by kernel_rfl,Tryz.t69,.agg #[.int .u32 0,.int .i64 0,.int .i64 0],by kernel_rfl,rfl,rfl,rfl,rfl⟩
theorem eFun:zao Tryz.prog 30 29 5 72:=⟨by kernel_rfl,Tryz.t29,.agg #[.int .u32 0,.int .i64 0,.slice none 0 0,.slice none 0 0,.int .i64 0],by kernel_rfl,rfl,rfl,rfl,rfl⟩
theorem zN{w:World}{T T':TypeId}{sz b:Nat}{s:Sl}{xs cs:List Value}(h:Own w T sz s xs)(hB:Blk w b T' cs)(hT:T≠T'):s.a≠some (Gk.blk b):=λe=>by
 obtain⟨cs',h'⟩:=h.type e
 exact Blk.apart h' hB hT rfl
theorem Za{w:World}{T T':TypeId}{sz sz':Nat}{s t:Sl}{xs ys:List Value}(h:Own w T sz s xs)(k:Own w T' sz' t ys)(hT:T≠T'){b:Nat}(e:s.a=some (Gk.blk b)):t.a≠some (Gk.blk b):=λe'=>by
 obtain⟨cs',h'⟩:=h.type e
 exact zN k h' (λg=>hT g.symm) e'
section
variable {w0 w:World} {bc n:Nat} {s f:Sl} {ps:List Int} {pl:List PI} {R:VWP}
theorem zqj{i:Nat}{v:Int}(hi:i<ps.length):(ctV s n ps f).set (2+i) (.int .i64 v)=ctV s n (ps.set i v) f:=by
 have e:2+i=i+1+1:=by omega
 show(Value.slice s.a s.l s.c::Value.int .i64 n::(ps.map (Value.int .i64)++[.slice f.a f.l f.c])).set (2+i) _=_
 rw[e,List.set_cons_succ,List.set_cons_succ,List.set_append_left _ _ (by simpa using hi),<-List.map_set]
theorem zrC(hps:ps.length=20):(ctV s n ps f)[22]? =some (.slice f.a f.l f.c):=by
 show(Value.slice s.a s.l s.c::Value.int .i64 n::(ps.map (Value.int .i64)++[.slice f.a f.l f.c]))[22]? =_
 rw[List.getElem?_cons_succ,List.getElem?_cons_succ,List.getElem?_append_right (by simp[hps])]
 simp[hps]
theorem zrD{g:Sl}(hps:ps.length=20):(ctV s n ps f).set 22 (.slice g.a g.l g.c)=ctV s n ps g:=by
 show(Value.slice s.a s.l s.c::Value.int .i64 n::(ps.map (Value.int .i64)++[.slice f.a f.l f.c])).set 22 _=_
 rw[List.set_cons_succ,List.set_cons_succ,List.set_append_right _ _ (by simp[hps])]
 simp[hps]
theorem znm(hps:ps.length=20):(ctV s n ps f).length=23:=by simp[hps]
theorem Ct.part(h:Ct w0 w bc s n ps f){p:Nat}(hp:p<10){x y:Int}{K:World->Prop}(hK:∀w',Ct w0 w' bc s n ((ps.set (2*p) x).set (2*p+1) y) f->Chg bc w w'->K w') :
  zc (some (Gk.blk bc)) λa=>(0<=(p:Int)/\(p:Int)<(10:Int))/\Wr w ((a.add 2).add (Int.toNat (p:Int)*2))/\Nw (w.setCell ((a.add 2).add (Int.toNat (p:Int)*2)) (.int .i64 x)) λw8=>
   Wr w8 (((a.add 2).add (Int.toNat (p:Int)*2)).add 1)/\Nw (w8.setCell (((a.add 2).add (Int.toNat (p:Int)*2)).add 1) (.int .i64 y)) K:=by
 have hps:=h.len
 have e1:((Gk.blk bc).add 2).add (Int.toNat (p:Int)*2)=(Gk.blk bc).add (2+2*p):=by rw[zv,Int.toNat_natCast,Nat.mul_comm]
 have e2:(((Gk.blk bc).add 2).add (Int.toNat (p:Int)*2)).add 1=(Gk.blk bc).add (2+(2*p+1)):=by rw[e1,zv];rfl
 have hl:=znm (s:=s) (n:=n) (f:=f) hps
 refine zf rfl ⟨⟨by omega,by omega⟩,?_⟩
 rw[e1]
 refine⟨h.blk.wr (by omega),Nw.gen λw8 e=>?_⟩
 rw[<-e1,e2]
 have c8:Chg bc w w8:=by rw[e];exact Chg.set _ _ _ _
 have hB8:Blk w8 bc 151 (ctV s n (ps.set (2*p) x) f):=by rw[e,<-zqj (by omega)];exact h.blk.set _ _
 clear e
 have hl8:=znm (s:=s) (n:=n) (f:=f) (ps:=ps.set (2*p) x) (by simpa using hps)
 refine⟨hB8.wr (by omega),Nw.gen λw9 e=>?_⟩
 have c9:Chg bc w8 w9:=by rw[e];exact Chg.set _ _ _ _
 refine hK w9 ⟨h.hi,(c8.trans c9).below h.b0 h.hi,?_,by simpa using hps⟩ (c8.trans c9)
 rw[e,<-zqj (by simp;omega)]
 exact hB8.set _ _
theorem zsw(h:Ct w0 w bc s 0 ps f)(hN:IsPl w0 s pl)(hmax:pl.length<9223372036854775807)
  (hok:∀n ps' w',Ct w0 w' bc s n ps' f->Fr w.heap.size (λk=>k=bc) w w'->InvT pl 8 n->ZB pl 8 n ps'->R (.bool true) w')
  (hbad:∀n ps' w',Ct w0 w' bc s n ps' f->Fr w.heap.size (λk=>k=bc) w w'->zeL pl n->R (.bool false) w') :
  cR 172 #[.pointer (some (blk bc))] w R:=by
 refine zb.of (zfk _ R w ?_) λ_ _ h=>h
 have hlen:=hN.len
 refine zl.ghost (λj (st:Int×Unit) w'=>∃(p n:Nat) (ps':List Int),j=8-p/\p<=8/\st=((p:Int),())/\Ct w0 w' bc s n ps' f/\Fr w.heap.size (λk=>k=bc) w w'/\InvT pl p n/\ZB pl p n ps') 8
  ⟨0,0,ps,rfl,by omega,rfl,h,Fr.refl _ _ _,InvT.zero pl,λq hq=>by omega⟩ ?_
 rintro _ _ w1 ⟨p,n,ps',rfl,hp8,rfl,hC,hF,hT,hP⟩ next hnext
 refine zi (λhp=>?_) (λhp=>?_)
 ·have hp:p<8:=by dsimp only at hp;omega
  refine zk.cut (λ_ w'=>∃(n':Nat) (ps2:List Int),Ct w0 w' bc s n' ps2 f/\Fr w.heap.size (λk=>k=bc) w w'/\InvT pl (p+1) n'/\ZB pl (p+1) n' ps2) ?_ ?_
  ·refine hC.at_ ?_
   refine zk.cut (λ_ w'=>∃n',Ct w0 w' bc s n' ps' f/\Fr w.heap.size (λk=>k=bc) w w'/\OutP pl p n n') ?_ ?_
   ·refine zl.ghost (λj _ w'=>∃n',j=pl.length-n'/\Ct w0 w' bc s n' ps' f/\Fr w.heap.size (λk=>k=bc) w w'/\InvP pl p n n') (pl.length-n) ⟨n,rfl,hC,hF,hT.into⟩ ?_
    rintro _ _ w2 ⟨n',rfl,hC2,hF2,hI⟩ next2 hnext2
    have hle:=hI.le
    have outNo:(n'<pl.length->zu (ix pl n')≠p)->OutP pl p n n':=λhno=>
     ⟨hI.lo,hI.le,hI.own,λh1=>hI.out hT h1 hno,λh1=>.inl ⟨hI.one h1,by have:=hI.one h1;subst this;rw[h1]at hno;exact hno⟩⟩
    refine zk.cut (λ_ w'=>Ct w0 w' bc s n' ps' f/\Fr w.heap.size (λk=>k=bc) w w'/\n'<pl.length/\zu (ix pl n')=p) ?_ ?_
    ·have bd:Below w2.heap.size w2 w2.drew:=(Below.refl _ _).drew
     refine YG (hC2.below bd) hN hI.le λw3 b3=>⟨_,rfl,?_⟩
     have hC3:=hC2.below (bd.on b3)
     have hF3:=hF2.trans ((Fr.of_below (bd.on b3)).mono hF2.size λ_ _ x=>x)
     refine zj (λe=>?_) (λe=>?_)
     ·obtain⟨hlt,hk⟩:=zk5 e (by decide)
      refine hC3.sl (hC3.at_ ?_)
      refine yA (hC3.mem hN) hlt λt ht=>?_
      refine zmQ (x:=mkIn pl[n'] t) ht λw4 b4=>⟨_,rfl,?_⟩
      have hC4:=hC3.below b4
      have hF4:=hF3.trans ((Fr.of_below b4).mono hF3.size λ_ _ x=>x)
      have hpart:zu (piOf (mkIn pl[n'] t) pl[n'].2.2.2)=zu (ix pl n'):=by rw[yR hlt]
      rw[hpart]
      refine zj (λe2=>?_) (λe2=>?_)
      ·exact⟨hC4,hF4,hlt,by have e2:((zu (ix pl n'):Nat):Int)=(p:Int):=e2;omega⟩
      ·exact⟨n',hC4,hF4,outNo λ_ h=>e2 (by rw[h])⟩
     ·refine⟨n',hC3,hF3,outNo λhlt h=>zjp e hlt ?_⟩
      unfold kdP
      rw[if_pos (by omega)]
    ·rintro _ w5 ⟨hC5,hF5,hlt,hpart⟩
     refine hC5.inc (by omega) λw6 hC6 c6=>?_
     have hF6:=hF5.trans (c6.fr)
     refine zj (λe=>?_) (λe=>?_)
     ·have hp1:p=1:=by dsimp only at e;omega
      have hnn:=hI.one hp1
      subst hnn
      exact⟨n'+1,hC6,hF6,by omega,by omega,λk k1 k2=>by
                                      have:k=n':=by omega
                                      subst this;exact hpart,λh1=>absurd hp1 h1,λ_=>.inr rfl⟩
     ·have hp1:p≠1:=by dsimp only at e;omega
      exact hnext2 (pl.length-(n'+1)) _ _ (by omega) ⟨n'+1,rfl,hC6,hF6,hI.step hT hp hlt hpart hp1⟩
   ·rintro _ w7 ⟨n',hC7,hF7,hO⟩
    have bd:Below w7.heap.size w7 w7.drew:=(Below.refl _ _).drew
    have hC7:=hC7.drew
    have hF7:=hF7.drew
    refine hC7.at_ (hC7.part (by omega) λw9 hC9 c9=>?_)
    have hF9:=hF7.trans c9.fr
    have fin:(p=1->n'≠n)->∃(n'':Nat) (ps2:List Int),Ct w0 w9 bc s n'' ps2 f/\Fr w.heap.size (λk=>k=bc) w w9/\InvT pl (p+1) n''/\ZB pl (p+1) n'' ps2:=λhne=>
     ⟨n',_,hC9,hF9,hO.go hT hne,hP.step hC.len (by omega) hO.lo hT.low hO.own⟩
    refine zj (λe=>?_) (λe=>?_)
    ·have hp1:p=1:=by dsimp only at e;omega
     refine hC9.at_ (zj (λe2=>?_) (λe2=>fin λ_=>by omega))
     subst hp1
     exact hbad n' _ w9 hC9 hF9 (hO.stop hT (by omega))
    ·exact fin λh1=>absurd (by rw[h1];rfl) e
  ·rintro _ w10 ⟨n',ps2,hC',hF',hT',hP'⟩
   have e:IntKind.u8.wrap ((p:Int)+1)=((p+1:Nat):Int):=by rw[IntKind.wrap_u8];omega
   dsimp only
   rw[e]
   exact hnext (8-(p+1)) _ _ (by omega) ⟨p+1,n',ps2,rfl,by omega,rfl,hC',hF',hT',hP'⟩
 ·have hp:p=8:=by dsimp only at hp;omega
  subst hp
  exact hok n ps' w1 hC hF hT hP
end
end Go.Proofs
namespace Go.Proofs
open Go.Gk Go.RowKit Go.Gm
theorem Chg.frB{b B:Nat}{X:Nat->Prop}{w w':World}(h:Chg b w w')(hB:B<=b):Fr B X w w':=Fr.of_below (h.below (Below.refl _ _) hB)
theorem yd(b:Int×Int×Int):(blV b).length=3:=rfl
theorem zaZ{α:Type}(g:α->List Value)(l:List α)(x:α):flat g (l++[x])=flat g l++g x:=by simp[flat]
section
variable {w0 w:World} {bc n:Nat} {s f:Sl} {ps:List Int} {pl:List PI} {R:VWP}
theorem Ct.chg{b:Nat}{w':World}(h:Ct w0 w bc s n ps f)(c:Chg b w w')(hb:w0.heap.size<=b)(hne:b≠bc):Ct w0 w' bc s n ps f:=
 ⟨h.hi,c.below h.b0 hb,c.blk h.blk (λe=>hne e.symm),h.len⟩
theorem zps{fn:FnL}{tp tb:Sl}{bf:Nat}{ah:Int}{done:List FnL}(h:Ct w0 w bc s n ps f)(hN:IsPl w0 s pl)(h40:40*pl.length<=140737488351232)(hn:n<pl.length)(hkd:kdP (ix pl n)=3)
  (hI:InvF pl n ah) (ha:((ah=54\/ah=55)/\fn.bk=[])\/((249<=ah/\ah<=255)/\fn.bk≠[])) (hbf:Blk w bf 29 (fnV fn tp tb)) (h0f:w0.heap.size<=bf)
  (hO:Own w 69 3 tb (flat blV fn.bk)) (hF0:zw w0.heap.size tb) (hbk:fn.bk.length<=n) (hcut:cutF pl n=done++[fn])
  (hok:∀n' ah' tb' w',n<n'->Ct w0 w' bc s n' ps f->Fr w.heap.size (λk=>k=bc\/k=bf\/tb.a=some (Gk.blk k)) w w'->InvF pl n' ah'->(249<=ah'/\ah'<=255)->Blk w' bf 29 (fnV fn tp tb')->
   Own w' 69 3 tb' (flat blV (fn.bk++[((ix pl n).2.2.1,(n:Int),(n':Int))]))->(∃b',tb'.a=some (Gk.blk b')/\(tb.a=some (Gk.blk b')\/w.heap.size<=b'))->
   cutF pl n'=done++[{fn with bk:=fn.bk++[((ix pl n).2.2.1,(n:Int),(n':Int))]}]->R (.bool true) w')
  (hbad:∀n' w',Ct w0 w' bc s n' ps f->Fr w.heap.size (λk=>k=bc\/k=bf\/tb.a=some (Gk.blk k)) w w'->zeL pl n'->R (.bool false) w') :
  cR 175 #[.pointer (some (blk bc)),.pointer (some (blk bf))] w R:=by
 refine zb.of (zdV _ _ R w ?_) λ_ _ h=>h
 have hlen:=hN.len
 have hbl:fn.bk.length=tb.l:=by have:=hO.1;rw[zI yd]at this;omega
 have hbcf:bc≠bf:=Blk.apart h.blk hbf (by decide)
 have hbcl:bc<w.heap.size:=h.blk.lt
 have hbfl:bf<w.heap.size:=hbf.lt
 have h0w:=h.b0.size
 generalize hX:(λk=>k=bc\/k=bf\/tb.a=some (Gk.blk k))=X at hok hbad
 have hXc:X bc:=by rw[<-hX];exact .inl rfl
 have bd:Below w.heap.size w w.drew:=(Below.refl _ _).drew
 have hD:=h.drew
 refine hD.sl (hD.at_ (zqm (hD.mem hN) hn λa hc=>hD.at_ ?_))
 refine zq λw1 hB1 b1 z1=>⟨yx b1 (hD.blk.cell rfl),yx b1 hc,yx b1 (hD.blk.cell rfl),yx b1 (hD.blk.cell0 rfl),?_⟩
 have hB1:Blk w1 w.drew.heap.size 69 [.int .u32 0,.int .i64 0,.int .i64 0]:=hB1
 have hbb:w.drew.heap.size=w.heap.size:=rfl
 generalize w.drew.heap.size=bb at hB1 hbb z1
 subst hbb
 have b01:Below w.heap.size w w1:=bd.on b1
 have hC1:=h.below b01
 have hbf1:=hbf.below b01
 have hO1:=hO.below b01
 refine st3 hB1 rfl λw4 hB4 c4=>?_
 have hC4:=hC1.chg c4 h0w (by omega)
 have hbf4:=c4.blk hbf1 (by omega)
 have hO4:Own w4 69 3 tb (flat blV fn.bk):=hO1.of_block λa ha=>c4.block _ (by have:=(hO.lt ha).2;omega)
 have f4:Fr w.heap.size X w w4:=(Fr.of_below b01).trans (c4.frB (Nat.le_refl _))
 have z4:w4.heap.size=w.heap.size+1:=by rw[c4.size,z1]
 refine hC4.inc (by omega) λw5 hC5 c5=>?_
 obtain⟨F,hL,hFb⟩:∃F,InvB pl (n+1) F 248/\(F=true↔fn.bk=[]):=by
  rcases ha with⟨g1,g2⟩ | ⟨g1,g2⟩
  ·exact⟨_,hI.label (.inl g1) hn hkd,⟨λ_=>g2,λ_=>by rcases g1 with e |e<;>rw[e]<;>rfl⟩⟩
  ·refine⟨_,hI.label (.inr g1) hn hkd,⟨λe=>?_,λe=>absurd e g2⟩⟩
   rw[beq_eq_false_iff_ne.2 (show ah≠54 by omega),beq_eq_false_iff_ne.2 (show ah≠55 by omega)]at e
   cases e
 have hbf5:=c5.blk hbf4 (λe=>hbcf e.symm)
 have hcut1:=zpw hcut hkd
 have g5:Fr w4.heap.size (λk=>k=bc) w4 w5:=c5.fr
 refine zk.cut (λ_ w8=>∃n1 ah1,n+1<=n1/\InvB pl n1 F ah1/\(n1<pl.length->F=true->kdP (ix pl n1)≠5)/\(n1<pl.length->F=false->kdP (ix pl n1)≠4)/\cutF pl n1=cutF pl (n+1)/\
   Ct w0 w8 bc s n1 ps f/\Fr w4.heap.size (λk=>k=bc) w4 w8) ?_ ?_
 ·refine zf rfl (hbf5.rS (n:=3) rfl (zj (λe=>?_) (λe=>?_)))
  ·have hF:F=true:=hFb.2 (List.length_eq_zero_iff.1 (by omega))
   subst hF
   refine zhy hC5 hN (by omega) h40 (by decide) λr n1 w6 h1 h2 h3 h4' hC6 f6 _ _=>⟨r,rfl,?_⟩
   obtain⟨ah1,hL1,_⟩:=hL.locals (.inl rfl) h1 h2 h3
   exact⟨n1,ah1,h1,hL1,λhl _=>h4' hl,λ_ h=>(by cases h),zeV h1 λj j1 j2=>.inr (.inr (.inr (.inl (h3 j j1 j2)))),hC6,g5.on f6⟩
  ·have hF:F=false:=by
    cases F
    ·rfl
    ·have:=hFb.1 rfl
     rw[this]at hbl
     exact absurd (by rw[<-hbl];rfl) e
   subst hF
   refine zhy hC5 hN (by omega) h40 (by decide) λr n1 w6 h1 h2 h3 h4' hC6 f6 _ _=>⟨r,rfl,?_⟩
   obtain⟨ah1,hL1,_⟩:=hL.phis (.inl rfl) h1 h2 h3
   exact⟨n1,ah1,h1,hL1,λ_ h=>(by cases h),λhl _=>h4' hl,zeV h1 λj j1 j2=>.inr (.inr (.inl (h3 j j1 j2))),hC6,g5.on f6⟩
 ·rintro _ w8 ⟨n1,ah1,hn1,hL1,hk5,hk4,hcut2,hC8,g8⟩
  have hn1l:=hL1.f.le
  refine zhy hC8 hN hn1l h40 (by decide) λr n2 w9 h1 h2 h3 h4' hC9 f9 _ _=>⟨r,rfl,?_⟩
  obtain⟨ah2,hL2,hor⟩:=hL1.plains h1 h2 h3
  have hcut3:cutF pl n2=cutF pl (n+1):=(zeV h1 λj j1 j2=>.inr (.inl (h3 j j1 j2))).trans hcut2
  have g9:=g8.on f9
  refine YG hC9 hN h2 λw10 b10=>⟨_,rfl,?_⟩
  have hC10:=hC9.below b10
  have g10:=g9.on (Fr.of_below b10)
  have toX:∀{w':World},Fr w4.heap.size (λk=>k=bc) w4 w'->Fr w.heap.size X w w':=λg=>f4.trans ((g.wide λk e=>by rw[e];exact hXc).mono (by omega) λ_ _ x=>x)
  refine zk.cut (λ_ w14=>∃n3,n+1<=n3/\n3<pl.length/\kdP (ix pl n3)=7/\InvF pl (n3+1) (ix pl n3).1/\(249<=(ix pl n3).1/\(ix pl n3).1<=255)/\cutF pl n3=cutF pl (n+1)/\
    Ct w0 w14 bc s n3 ps f/\Fr w4.heap.size (λk=>k=bc) w4 w14) ?_ ?_
  ·refine zj (λe=>?_) (λe=>?_)
   ·obtain⟨hlt2,hk6⟩:=zk5 e (by decide)
    obtain⟨hM,hop⟩:=hL2.merge hlt2 hk6
    refine hC10.inc (by omega) λw11 hC11 c11=>?_
    have g11:=g10.on c11.fr
    have bd11:Below w11.heap.size w11 w11.drew:=(Below.refl _ _).drew
    refine YG hC11.drew hN (by omega) λw12 b12=>⟨_,rfl,?_⟩
    have hC12:=hC11.drew.below b12
    have g12:=g11.on (Fr.of_below (bd11.on b12))
    refine zr (λe2=>?_) (λe2=>?_)
    ·exact hbad (n2+1) w12 hC12 (toX g12) (hM.mbad hop λhl hk=>absurd hk (zjp e2 hl))
    ·obtain⟨hlt3,hk7⟩:=zk5 e2 (by decide)
     refine hC12.sl (hC12.at_ ?_)
     have ew:IntKind.i64.wrap (((n2+1:Nat):Int)-1)=(n2:Int):=by rw[zt (by omega) (by omega)];omega
     rw[ew]
     refine zfB (hC12.mem hN) hlt2 (hC12.sl (hC12.at_ (zfB (hC12.mem hN) hlt3 ?_)))
     rw[<-yR hlt2,<-yR hlt3]
     refine zsb ⟨_,rfl,zy (zm (λhm=>?_) (λhm=>?_))⟩
     ·obtain⟨q1,q2⟩:=hM.mender hop hlt3 hk7 hm
      refine⟨n2+1,by omega,hlt3,hk7,q1,q2,?_,hC12,g12⟩
      rw[<-hcut3]
      exact zeV (Nat.le_succ n2) λj j1 j2=>by
       have:j=n2:=by omega
       subst this
       exact .inr (.inr (.inr (.inr hk6)))
     ·exact hbad (n2+1) w12 hC12 (toX g12) (hM.mbad hop λ_ _=>hm)
   ·refine zj (λe2=>?_) (λe2=>?_)
    ·obtain⟨hlt2,hk7⟩:=zk5 e2 (by decide)
     obtain⟨q1,q2⟩:=hL2.ender hlt2 hk7
     exact⟨n2,by omega,hlt2,hk7,q1,q2,hcut3,hC10,g10⟩
    ·refine hbad n2 w10 hC10 (toX g10) (hL2.bad (λhl=>⟨h4' hl,zjp e hl,zjp e2 hl⟩) (λhl h4 hF=>?_) (λhl h5 hF=>?_))
     ·rcases hor with e3 |e3
      ·subst e3;exact absurd h4 (hk4 hl hF)
      ·exact⟨e3.1,e3.2.1⟩
     ·rcases hor with e3 |e3
      ·subst e3;exact absurd h5 (hk5 hl hF)
      ·exact⟨e3.1,e3.2.2⟩
  ·rintro _ w14 ⟨n3,hn3,hlt3,hk7,hI3,hop3,hcut4,hC14,g14⟩
   refine hC14.inc (by omega) λw15 hC15 c15=>?_
   have g15:=g14.on c15.fr
   have hB15:Blk w15 w.heap.size 69 [.int .u32 pl[n].2.2.1,.int .i64 (n:Int),.int .i64 0]:=g15.blk hB4 (by omega)
   refine hC15.at_ ⟨hB15.wr (by simp),Nw.gen λw16 e16=>?_⟩
   have c16:Chg w.heap.size w15 w16:=by rw[e16];exact Chg.set _ _ _ _
   have hB16:Blk w16 w.heap.size 69 [.int .u32 pl[n].2.2.1,.int .i64 (n:Int),.int .i64 ((n3+1:Nat):Int)]:=by rw[e16];exact hB15.set 2 _
   clear e16
   have hC16:=hC15.chg c16 h0w (by omega)
   have hbf16:=c16.blk (g15.blk hbf4 (λe=>hbcf e.symm)) (by omega)
   have hO15:=g15.own hO4 λb e e2=>by subst e2;exact zN hO hD.blk (by decide) e
   have hO16:Own w16 69 3 tb (flat blV fn.bk):=hO15.of_block λa ha=>c16.block _ (by have:=(hO.lt ha).2;omega)
   have f16:Fr w.heap.size X w w16:=(toX g15).trans (c16.frB (Nat.le_refl _))
   have bd16:Below w16.heap.size w16 w16.drew:=(Below.refl _ _).drew
   refine zf rfl (hbf16.drew.rS (n:=3) (x:=tb) rfl (hB16.drew.rI (n:=0) rfl (hB16.drew.rI (n:=1) rfl (hB16.drew.rI (n:=2) rfl ?_))))
   refine zq λw17 hB17 b17 z17=>⟨yx b17 (hbf16.drew.cell rfl),?_⟩
   have hB17:Blk w17 w16.drew.heap.size 69 (blV (pl[n].2.2.1,(n:Int),((n3+1:Nat):Int))):=hB17
   have b167:=bd16.on b17
   have hC17:=hC16.below b167
   have hbf17:=hbf16.below b167
   have hO17:=hO16.below b167
   have f17:Fr w.heap.size X w w17:=f16.trans ((Fr.of_below b167).mono f16.size λ_ _ x=>x)
   refine zj2 eBlk hO17 rfl (by simp[Value.oneCell']) hB17 (by omega) (by omega) λr w18 b' hO18 hl18 ha18 hw18 f18=>?_
   have hXb:∀k,tb.a=some (Gk.blk k)->X k:=λk e=>by rw[<-hX];exact .inr (.inr e)
   have f18':Fr w.heap.size X w w18:=f17.trans ((f18.wide hXb).mono f17.size λ_ _ x=>x)
   have hC18:=hC17.fr f18 (λk e=>hF0 _ e) (zN hO hD.blk (by decide))
   have hbf18:=f18.blk hbf17 (zN hO17 hbf17 (by decide))
   refine zf rfl ⟨hbf18.wr (by simp),Nw.gen λw19 e19=>?_⟩
   have c19:Chg bf w18 w19:=by rw[e19];exact Chg.set _ _ _ _
   have hbf19:Blk w19 bf 29 (fnV fn tp r):=by rw[e19];exact hbf18.set 3 _
   clear e19
   have f19:Fr w.heap.size X w w19:=f18'.trans (c19.fr.wide λk e=>by rw[e,<-hX];exact .inr (.inl rfl))
   have hsz17:=f17.size
   refine hok (n3+1) _ r w19 (by omega) (hC18.chg c19 h0f (λe=>hbcf e.symm)) f19 hI3 hop3 hbf19 ?_ ⟨b',ha18,?_⟩ ?_
   ·rw[zaZ,yR hn]
    refine hO18.of_block λa ha=>c19.block _ λe=>?_
    rw[ha18]at ha
    cases ha
    have e:b'=bf:=e
    subst e
    exact zN hO18 hbf18 (by decide) ha18
   ·rcases hw18 with g |g
    ·exact .inl g
    ·exact .inr (by omega)
   ·have:=zpv (n:=n3) (by rw[hcut4];exact hcut1) hk7
    rw[this]
    rfl
end
end Go.Proofs
namespace Go.Proofs
open Go.Gk Go.RowKit Go.Gm
theorem st5{b:Nat}{T:TypeId}{cs:List Value}{v0 v1 v2 v3 v4:Value}{K:World->Prop}{w:World}(hB:Blk w b T cs)(hl:cs.length=5)(hK:∀w',Blk w' b T [v0,v1,v2,v3,v4]->Chg b w w'->K w') :
  Wr w (blk b)/\Nw (w.setCell (blk b) v0) λw1=>Wr w1 ((blk b).add 1)/\Nw (w1.setCell ((blk b).add 1) v1) λw2=>Wr w2 ((blk b).add 2)/\Nw (w2.setCell ((blk b).add 2) v2) λw3=>Wr w3 ((blk b).add 3)/\Nw (w3.setCell ((blk b).add 3) v3) λw4=>
   Wr w4 ((blk b).add 4)/\Nw (w4.setCell ((blk b).add 4) v4) λw5=>K w5:=
 Yl (vs:=[v0,v1,v2,v3,v4]) hB hl hK
abbrev Fe:=FnL×Sl×Sl
abbrev feV(x:Fe):List Value:=fnV x.1 x.2.1 x.2.2
theorem zbl(x:Fe):(feV x).length=5:=rfl
structure Fns (w:World) (fs:Sl) (L:List Fe):Prop where
 own:Own w 29 5 fs (flat feV L)
 row:∀x∈L,Own w 3 1 x.2.1 (x.1.ps.map (Value.int .i64))/\Own w 69 3 x.2.2 (flat blV x.1.bk)
theorem Fns.nil(w:World):Fns w ⟨none,0,0⟩ []:=⟨Own.nil _ _ _,λx hx=>by cases hx⟩
theorem Fns.len{w:World}{fs:Sl}{L:List Fe}(h:Fns w fs L):L.length=fs.l:=by have:=h.own.1;rw[zI zbl]at this;omega
theorem Fns.below{w w':World}{fs:Sl}{L:List Fe}(h:Fns w fs L)(hb:Below w.heap.size w w'):Fns w' fs L:=
 ⟨h.own.below hb,λx hx=>⟨(h.row x hx).1.below hb,(h.row x hx).2.below hb⟩⟩
theorem Fns.fr{w w':World}{fs:Sl}{L:List Fe}{bc:Nat}{cs:List Value}(h:Fns w fs L)(hf:Fr w.heap.size (λk=>k=bc) w w')(hc:Blk w bc 151 cs):Fns w' fs L:=
 ⟨hf.own h.own λb e e2=>by subst e2;exact zN h.own hc (by decide) e,λx hx=>
  ⟨hf.own (h.row x hx).1 λb e e2=>by subst e2;exact zN (h.row x hx).1 hc (by decide) e,hf.own (h.row x hx).2 λb e e2=>by subst e2;exact zN (h.row x hx).2 hc (by decide) e⟩⟩
theorem zp5(p:PI):0<=kdP p:=by
 unfold kdP
 repeat' split
 all_goals omega
section
variable {w0 w:World} {bc n:Nat} {s f:Sl} {ps:List Int} {pl:List PI} {R:VWP}
theorem zrG(h:Ct w0 w bc s 0 ps ⟨none,0,0⟩)(hN:IsPl w0 s pl)(h40:40*pl.length<=140737488351232)
  (hok:∀ps' fs L w',Ct w0 w' bc s pl.length ps' fs->Fr w.heap.size (λk=>k=bc) w w'->Zx pl pl.length->zaU pl=false->ZB pl 10 pl.length ps'->Fns w' fs L->zw w.heap.size fs->cutF pl pl.length=L.map (·.1)->R (.bool true) w')
  (hbad:∀n ps' fs w',Ct w0 w' bc s n ps' fs->Fr w.heap.size (λk=>k=bc) w w'->zeL pl n->R (.bool false) w') :
  cR 140 #[.pointer (some (blk bc))] w R:=by
 refine zb.of (zfi _ R w ?_) λ_ _ h=>h
 have hlen:=hN.len
 have hbcl:bc<w.heap.size:=h.blk.lt
 have h0w:=h.b0.size
 refine zsw h hN (by omega) (λn0 ps1 w1 hC1 f1 hT hP=>⟨_,rfl,zB rfl ?_⟩) (λn1 ps1 w1 hC1 f1 hS=>⟨_,rfl,zF rfl (hbad n1 ps1 _ w1 hC1 f1 hS)⟩)
 have hC1:=hC1.drew
 have f1:=f1.drew
 refine hC1.at_ (hC1.sl (hC1.part (p:=8) (by omega) λw3 hC3 c3=>?_))
 have f3:=(f1.trans (c3.fr)).drew
 have hC3:=hC3.drew
 refine hC3.sl (hC3.sl (hC3.part (p:=9) (by omega) λw5 hC5 c5=>?_))
 have f5:=f3.trans (c5.fr)
 rw[hlen]at hC5
 generalize hps5:((((ps1.set (2*8) (n0:Int)).set (2*8+1) (pl.length:Int)).set (2*9) (pl.length:Int)).set (2*9+1) (pl.length:Int))=ps5 at hC5
 refine zl.ghost (λj _ w'=>∃n fs L,j=pl.length-n/\Ct w0 w' bc s n ps5 fs/\Fr w.heap.size (λk=>k=bc) w w'/\zw w.heap.size fs/\InvO pl n/\Fns w' fs L/\cutF pl n=L.map (·.1)/\(n0<n->zu (ix pl n0)=8)/\n0<=n/\2*L.length<=n)
  (pl.length-n0) ⟨n0,⟨none,0,0⟩,[],rfl,hC5,f5,λa ha=>(by cases ha),hT.fun,Fns.nil _,?_,λh=>by omega,Nat.le_refl _,Nat.zero_le _⟩ ?_
 ·exact(zeV (n:=0) (Nat.zero_le _) λj _ j2=>.inl (by have:=hT.low j j2;omega))
 rintro _ _ w6 ⟨n,fs,L,rfl,hC6,f6,hF6,hO6,hL6,hcut6,h86,hn06,hLn⟩ next hnext
 have hn:=hO6.le
 refine YG hC6 hN hn λw7 b7=>⟨_,rfl,?_⟩
 have hC7:=hC6.below b7
 have f7:=f6.trans ((Fr.of_below b7).mono f6.size λ_ _ x=>x)
 have hL7:=hL6.below b7
 refine zi (λhlt=>?_) (λhge=>?_)
 ·have e:n=pl.length:=by
   unfold kn at hlt
   split at hlt
   ·have:=zp5 (ix pl n);omega
   ·omega
  subst e
  refine hok ps5 fs L w7 hC7 f7 hO6.good (hO6.shut rfl) ?_ hL7 hF6 hcut6
  rw[<-hps5]
  have hl1:=hC1.len
  exact hP.all hl1 hT.le hT.low hO6.good h86
 ·have hltn:n<pl.length:=by
   unfold kn at hge
   split at hge
   ·assumption
   ·omega
  refine YG hC7 hN hn λw8 b8=>⟨_,rfl,?_⟩
  have hC8:=hC7.below b8
  have f8:=f7.trans ((Fr.of_below b8).mono f7.size λ_ _ x=>x)
  have hL8:=hL7.below b8
  refine zr (λe=>hbad n ps5 fs w8 hC8 f8 (hO6.bad hltn (zjp e hltn))) (λe=>?_)
  obtain⟨_,hk1⟩:=zk5 e (by decide)
  have hp8:=yZ (p:=ix pl n) (by omega)
  have hop1:=(yS hp8).1.1 hk1
  have bd8:Below w8.heap.size w8 w8.drew:=(Below.refl _ _).drew
  have hD:=hC8.drew
  have s08:=hC8.b0.size
  have sw8:=f8.size
  refine hD.sl (hD.at_ (zqm (hD.mem hN) hltn λa hc=>hD.at_ ?_))
  refine zq λw9 hB9 b9 z9=>⟨yx b9 (hD.blk.cell rfl),yx b9 hc,yx b9 (hD.blk.cell rfl),yx b9 (hD.blk.cell0 rfl),?_⟩
  have hB9:Blk w9 w8.drew.heap.size 29 [.int .u32 0,.int .i64 0,.slice none 0 0,.slice none 0 0,.int .i64 0]:=hB9
  have hbb:w8.drew.heap.size=w8.heap.size:=rfl
  generalize hbf:w8.drew.heap.size=bf at hB9 hbb z9
  subst hbb
  have b89:=bd8.on b9
  refine st5 hB9 rfl λw14 hB14 c14=>?_
  have hB14:Blk w14 w8.heap.size 29 (fnV ⟨(ix pl n).2.2.1,n,0,[],[]⟩ ⟨none,0,0⟩ ⟨none,0,0⟩):=by rw[yR hltn];exact hB14
  have hbcf:w8.heap.size≠bc:=by omega
  have hC14:=(hC8.below b89).chg c14 s08 hbcf
  have g14:Fr w8.heap.size (λk=>k=bc) w8 w14:=(Fr.of_below b89).trans (c14.frB (Nat.le_refl _))
  have z14:w14.heap.size=w8.heap.size+1:=by rw[c14.size,z9]
  refine hC14.inc (by omega) λw15 hC15 c15=>?_
  have hI15:=hO6.begin hltn hp8 hop1
  have hcut15:=zrF hcut6 hk1
  have g15:=g14.trans c15.fr
  have hB15:=c15.blk hB14 hbcf
  refine zhy hC15 hN (by omega) h40 (by decide) λtp n2 w16 h1 h2 h3 h4 hC16 f16 hOp hFp=>⟨tp,rfl,?_⟩
  obtain⟨ah2,hI2,ha2⟩:=hI15.params (.inl rfl) h1 h2 h3
  have hcut16:=zob hcut15 h1 h3
  have g16:Fr w8.heap.size (λk=>k=bc) w8 w16:=g15.trans (f16.mono (by rw[c15.size];omega) λ_ _ x=>x)
  have hB16:=f16.blk hB15 hbcf
  have s15:=c15.size
  have s16:=f16.size
  refine⟨hB16.wr (by simp),Nw.gen λw17 e17=>?_⟩
  have c17:Chg w8.heap.size w16 w17:=by rw[e17];exact Chg.set _ _ _ _
  have hB17:Blk w17 w8.heap.size 29 (fnV ⟨(ix pl n).2.2.1,n,0,[],[]⟩ tp ⟨none,0,0⟩):=by rw[e17];exact hB16.set 2 _
  clear e17
  have hC17:=hC16.chg c17 s08 hbcf
  have g17:Fr w8.heap.size (λk=>k=bc) w8 w17:=g16.trans (c17.frB (Nat.le_refl _))
  have hOp17:Own w17 3 1 tp ((zd9 (n+1) n2).map (Value.int .i64)):=hOp.of_block λa ha=>c17.block _ (by have:=hFp a ha;omega)
  generalize hpar:zd9 (n+1) n2=par at hOp17
  have hcut17:cutF pl n2=L.map (·.1)++[⟨(ix pl n).2.2.1,n,0,par,[]⟩]:=by rw[hcut16,<-hpar];rfl
  refine zl.ghost (λj _ w'=>∃n3 ah bk tb,j=pl.length-n3/\n2<=n3/\Ct w0 w' bc s n3 ps5 fs/\Fr w8.heap.size (λk=>k=bc) w8 w'/\Blk w' w8.heap.size 29 (fnV ⟨(ix pl n).2.2.1,n,0,par,bk⟩ tp tb)/\
    Own w' 3 1 tp (par.map (Value.int .i64))/\Own w' 69 3 tb (flat blV bk)/\zw w8.heap.size tb/\InvF pl n3 ah/\(((ah=54\/ah=55)/\bk=[])\/((249<=ah/\ah<=255)/\bk≠[]))/\
    cutF pl n3=L.map (·.1)++[⟨(ix pl n).2.2.1,n,0,par,bk⟩]/\bk.length<=n3/\(bk=[]->n3<pl.length->kdP (ix pl n3)≠2)) (pl.length-n2)
   ⟨n2,ah2,[],⟨none,0,0⟩,rfl,Nat.le_refl _,hC17,g17,hB17,hOp17,Own.nil _ _ _,λa ha=>(by cases ha),hI2,.inl ⟨ha2,rfl⟩,hcut17,Nat.zero_le _,λ_ hl=>h4 hl⟩ ?_
  rintro _ _ w18 ⟨n3,ah,bk,tb,rfl,hn23,hC18,g18,hB18,hOp18,hOb18,hFb18,hI18,ha18,hcut18,hbk18,hk2⟩ next2 hnext2
  have hn3:=hI18.le
  refine YG hC18 hN hn3 λw19 b19=>⟨_,rfl,?_⟩
  have hC19:=hC18.below b19
  have g19:=g18.trans ((Fr.of_below b19).mono g18.size λ_ _ x=>x)
  have hB19:=hB18.below b19
  have hOp19:=hOp18.below b19
  have hOb19:=hOb18.below b19
  have toW:∀{w':World},Fr w8.heap.size (λk=>k=bc) w8 w'->Fr w.heap.size (λk=>k=bc) w w':=λg=>f8.trans (g.mono f8.size λ_ _ x=>x)
  have hblen:bk.length=tb.l:=by have:=hOb19.1;rw[zI yd]at this;omega
  refine zj (λe3=>?_) (λe3=>?_)
  ·obtain⟨hlt3,hk3⟩:=zk5 e3 (by decide)
   have back:∀{w':World},Fr w19.heap.size (λk=>k=bc\/k=w8.heap.size\/tb.a=some (Gk.blk k)) w19 w'->Fr w8.heap.size (λk=>k=bc) w8 w':=λg=>
    g19.trans (g.mono g19.size λk hk x=>by
     rcases x with x |x |x
     ·exact x
     ·omega
     ·have:=hFb18 _ x
      exact absurd this (Nat.not_le.2 hk))
   refine zps (fn:=⟨(ix pl n).2.2.1,n,0,par,bk⟩) (tp:=tp) (tb:=tb) hC19 hN h40 hlt3 hk3 hI18 ha18 hB19 s08 hOb19 (λa ha=>Nat.le_trans s08 (hFb18 a ha)) hbk18 hcut18
    (λn4 ah4 tb4 w20 hn4 hC20 f20 hI4 ha4 hB20 hO20 hb20 hcut20=>⟨_,rfl,zB rfl ?_⟩)
    (λn4 w20 hC20 f20 hS=>⟨_,rfl,zF rfl (hbad n4 ps5 fs w20 hC20 (toW (back f20)) hS)⟩)
   refine hnext2 (pl.length-n4) _ _ (by have:=hI4.le;omega) ⟨n4,ah4,bk++[((ix pl n3).2.2.1,(n3:Int),(n4:Int))],tb4,rfl,by omega,hC20,back f20,hB20,?_,hO20,?_,hI4,.inr ⟨ha4,by simp⟩,hcut20,by simp;omega,λh=>by simp at h⟩
   ·refine f20.own hOp19 λb e x=>?_
    rcases x with x |x |x
    ·subst x;exact zN hOp19 hC19.blk (by decide) e
    ·subst x;exact zN hOp19 hB19 (by decide) e
    ·exact Za hOp19 hOb19 (by decide) e x
   ·intro a ha
    obtain⟨b',q1,q2⟩:=hb20
    rw[q1]at ha
    cases ha
    show w8.heap.size<=b'
    rcases q2 with q2 |q2
    ·exact hFb18 _ q2
    ·have:=g19.size;omega
  ·refine zk.cut (λ_ w21=>Ct w0 w21 bc s n3 ps5 fs/\Fr w8.heap.size (λk=>k=bc) w8 w21/\Blk w21 w8.heap.size 29 (fnV ⟨(ix pl n).2.2.1,n,0,par,bk⟩ tp tb)/\
    Own w21 3 1 tp (par.map (Value.int .i64))/\Own w21 69 3 tb (flat blV bk)/\n3<pl.length/\kdP (ix pl n3)=8/\(249<=ah/\ah<=255)) ?_ ?_
   ·refine hB19.rS (n:=3) (x:=tb) rfl (zj (λe0=>?_) (λe0=>?_))
    ·have hbk0:bk=[]:=List.length_eq_zero_iff.1 (by omega)
     have ha':ah=54\/ah=55:=by
      rcases ha18 with⟨g,_⟩ | ⟨_,g⟩
      ·exact g
      ·exact absurd hbk0 g
     exact hbad n3 ps5 fs w19 hC19 (toW g19) (hI18.noblock ha' (hk2 hbk0) (zjp e3))
    ·have ha':249<=ah/\ah<=255:=by
      rcases ha18 with⟨_,g⟩ | ⟨g,_⟩
      ·rw[g]at hblen;exact absurd (by rw[<-hblen];rfl) e0
      ·exact g
     refine YG hC19 hN hn3 λw21 b21=>⟨_,rfl,?_⟩
     refine zr (λe8=>?_) (λe8=>?_)
     ·exact hbad n3 ps5 fs w21 (hC19.below b21) (toW (g19.trans ((Fr.of_below b21).mono g19.size λ_ _ x=>x))) (hI18.noend ha' (zjp e3) (zjp e8))
     ·obtain⟨q1,q2⟩:=zk5 e8 (by decide)
      exact⟨hC19.below b21,g19.trans ((Fr.of_below b21).mono g19.size λ_ _ x=>x),hB19.below b21,hOp19.below b21,hOb19.below b21,q1,q2,ha'⟩
   ·rintro _ w22 ⟨hC22,g22,hB22,hOp22,hOb22,hlt3,hk8,ha'⟩
    have hI23:=hI18.shut ha' hlt3 hk8
    have hcut23:=zrE hcut18 hk8
    refine hC22.at_ ⟨hB22.wr (by simp),Nw.gen λw23 e23=>?_⟩
    have c23:Chg w8.heap.size w22 w23:=by rw[e23];exact Chg.set _ _ _ _
    have hB23:Blk w23 w8.heap.size 29 (fnV ⟨(ix pl n).2.2.1,n,n3,par,bk⟩ tp tb):=by rw[e23];exact hB22.set 4 _
    clear e23
    have hC23:=hC22.chg c23 s08 hbcf
    have g23:Fr w8.heap.size (λk=>k=bc) w8 w23:=g22.trans (c23.frB (Nat.le_refl _))
    have hOp23:Own w23 3 1 tp (par.map (Value.int .i64)):=hOp22.of_block λa ha=>c23.block _ λe=>zN hOp22 hB22 (by decide) (by rw[ha,(hOp22.lt ha).1,e])
    have hOb23:Own w23 69 3 tb (flat blV bk):=hOb22.of_block λa ha=>c23.block _ λe=>zN hOb22 hB22 (by decide) (by rw[ha,(hOb22.lt ha).1,e])
    refine hC23.inc (by omega) λw24 hC24 c24=>?_
    have g24:=g23.trans c24.fr
    have hB24:=(c24.blk hB23 hbcf).drew
    have hOp24:=(c24.fr.own hOp23 λb e x=>by subst x;exact zN hOp23 hC23.blk (by decide) e).drew
    have hOb24:=(c24.fr.own hOb23 λb e x=>by subst x;exact zN hOb23 hC23.blk (by decide) e).drew
    have hC24:=hC24.drew
    have g24:=g24.drew
    have hL24:=hL8.fr g24 hC8.blk
    refine zf rfl (hC24.blk.rS (n:=22) (x:=fs) (zrC hC24.len) ?_)
    refine hB24.rI (n:=0) rfl (hB24.rI (n:=1) rfl (hB24.rS (n:=2) (x:=tp) rfl (hB24.rS (n:=3) (x:=tb) rfl (hB24.rI (n:=4) rfl ?_))))
    refine zq λw25 hB25 b25 z25=>⟨yx b25 (hC24.blk.cell (zrC hC24.len)),?_⟩
    have hB25:Blk w25 w24.drew.heap.size 29 (fnV ⟨(ix pl n).2.2.1,n,n3,par,bk⟩ tp tb):=hB25
    have hL25:=hL24.below b25
    have hC25:=hC24.below b25
    have hll:=hL25.len
    refine zj2 eFun hL25.own rfl (by simp[Value.oneCell']) hB25 (by omega) (by omega) λr w26 b' hO26 hl26 ha26 hw26 f26=>?_
    have hlow:∀k,fs.a=some (Gk.blk k)->w.heap.size<=k:=λk e=>hF6 _ e
    have hC26:=hC25.fr f26 (λk e=>Nat.le_trans h0w (hlow k e)) (zN hL25.own hC25.blk (by decide))
    have t25:=toW (g24.trans ((Fr.of_below b25).mono g24.size λ_ _ x=>x))
    have t26:Fr w.heap.size (λk=>k=bc) w w26:=t25.trans (f26.mono t25.size λk hk x=>absurd (hlow k x) (Nat.not_le.2 hk))
    have rows26:∀x∈L++[((⟨(ix pl n).2.2.1,n,n3,par,bk⟩:FnL),tp,tb)],Own w26 3 1 x.2.1 (x.1.ps.map (Value.int .i64))/\Own w26 69 3 x.2.2 (flat blV x.1.bk):=by
     intro x hx
     have both:Own w25 3 1 x.2.1 (x.1.ps.map (Value.int .i64))/\Own w25 69 3 x.2.2 (flat blV x.1.bk):=by
      rcases List.mem_append.1 hx with hx |hx
      ·exact hL25.row x hx
      ·rw[List.mem_singleton]at hx
       subst hx
       exact⟨hOp24.below b25,hOb24.below b25⟩
     exact⟨f26.own both.1 λb e x=>Za both.1 hL25.own (by decide) e x,f26.own both.2 λb e x=>Za both.2 hL25.own (by decide) e x⟩
    have hl23:=znm (s:=s) (n:=n3+1) (f:=fs) hC26.len
    refine zf rfl ⟨hC26.blk.wr (by omega),Nw.gen λw27 e27=>?_⟩
    have c27:Chg bc w26 w27:=by rw[e27];exact Chg.set _ _ _ _
    have hB27:Blk w27 bc 151 (ctV s (n3+1:Nat) ps5 r):=by rw[e27,<-zrD hC26.len];exact hC26.blk.set 22 _
    clear e27
    refine hnext (pl.length-(n3+1)) _ _ (by omega) ⟨n3+1,r,L++[(⟨(ix pl n).2.2.1,n,n3,par,bk⟩,tp,tb)],rfl,⟨hC26.hi,c27.below hC26.b0 hC26.hi,hB27,hC26.len⟩,t26.trans c27.fr,?_,hI23.end,⟨?_,?_⟩,?_,λ_=>?_,by omega,by simp;omega⟩
    ·intro a ha
     rw[ha26]at ha
     cases ha
     show w.heap.size<=b'
     rcases hw26 with g |g
     ·exact hlow _ g
     ·have:=t25.size;omega
    ·rw[zaZ]
     refine hO26.of_block λa ha=>c27.block _ λe=>zN hO26 hC26.blk (by decide) (by rw[ha,(hO26.lt ha).1,e])
    ·intro x hx
     obtain⟨q1,q2⟩:=rows26 x hx
     exact⟨c27.fr.own q1 λb e x=>by subst x;exact zN q1 hC26.blk (by decide) e,c27.fr.own q2 λb e x=>by subst x;exact zN q2 hC26.blk (by decide) e⟩
    ·rw[hcut23,List.map_append]
     rfl
    ·by_cases en:n0=n
     ·subst en;exact hp8
     ·exact h86 (by omega)
end
end Go.Proofs
namespace Go.Proofs
open Go.Gk Go.RowKit Go.Gm
theorem zpB{pl:List PI}{n:Nat}(h:mayP pl n=true)(h8:zu (ix pl n)=8):Yh (ix pl n).1 (zP pl n) (yH pl (n-1))=true:=by
 unfold mayP at h
 by_cases e:zkA pl n=true
 ·rw[if_pos e]at h;cases h
 rw[if_neg e,if_neg (by omega)]at h
 by_cases e2:1<zu (ix pl n)/\mdlP pl n=false
 ·rw[if_pos e2]at h;cases h
 rw[if_neg e2,if_neg (by omega)]at h
 exact h
theorem zmD{pl:List PI}:∀{n:Nat},Zx pl n->¬(zP pl n=0\/zP pl n=54\/zP pl n=55\/zP pl n=56\/zW (zP pl n)=true)->∃k,1<=k/\k<n/\(ix pl k).1=248
 | 0,_,h=>absurd (.inl rfl) h
 |m+1,hg,h=>by
  have e0:zP pl (m+1)=if zu (ix pl m)=8 then(ix pl m).1 else 0:=rfl
  by_cases h8:zu (ix pl m)=8
  ·rw[if_pos h8]at e0
   rw[e0]at h
   have hm:=zpB (hg m (Nat.lt_succ_self m)) h8
   by_cases e248:(ix pl m).1=248
   ·refine⟨m,?_,Nat.lt_succ_self m,e248⟩
    cases m with
    |zero=>
     exfalso
     rw[e248]at hm
     have h0:Yh 248 (zP pl 0) (yH pl (0-1))=false:=rfl
     rw[h0]at hm
     cases hm
    |succ m=>omega
   ·have hgm:Zx pl m:=λk hk=>hg k (by omega)
    have:¬(zP pl m=0\/zP pl m=54\/zP pl m=55\/zP pl m=56\/zW (zP pl m)=true):=by
     intro hc
     unfold Yh at hm
     rw[if_neg (λe=>h (.inr (.inl e))),if_neg (λe=>h (.inr (.inr (.inl e)))),if_neg e248,if_neg (λe=>h (.inr (.inr (.inr (.inl e))))),if_pos hc]at hm
     cases hm
    obtain⟨k,h1,h2,h3⟩:=zmD hgm this
    exact⟨k,h1,by omega,h3⟩
  ·rw[if_neg h8]at e0
   exact absurd (.inl e0) h
section
variable {pl:List PI} {w:World} {R:VWP}
theorem Yt{x:Ins}{al:List Ag}(hI:IsAg w x.2.2.2.1 al)(hR:∀w',Below w.heap.size w w'->R (.int .i64 (zu (piOf x al):Int)) w'):cR 79 #[inA x] w R:=by
 refine zb.of (zeA x R w ?_) λ_ _ h=>h
 refine zq λw1 hB b1 z1=>?_
 have hB:Blk w1 w.heap.size 41 (inV x):=hB
 have hlen:=hI.len
 refine zk.cut (λ_ w'=>w'=w1/\zhY (piOf x al)=false) ?_ ?_
 ·refine hB.rI0 rfl (zj (λe1=>?_) (λe1=>⟨rfl,?_⟩))
  ·refine hB.rS (n:=3) rfl (zi (λh=>?_) (λh=>⟨rfl,?_⟩))
   ·have h0:0<al.length:=by omega
    refine hB.rS (n:=3) rfl (zil (hI.below b1) (k:=0) h0 (zj (λe2=>?_) (λe2=>⟨rfl,?_⟩)))
    ·have:=hR w1 b1
     unfold zu at this
     rw[zjZ (p:=piOf x al) (h:=h0),beq_iff_eq.2 e1,beq_iff_eq.2 e2]at this
     exact this
    ·rw[zjZ (p:=piOf x al) (h:=h0),beq_eq_false_iff_ne.2 e2,Bool.and_false]
   ·have h0:al=[]:=List.length_eq_zero_iff.1 (by omega)
    subst h0
    unfold zhY
    rw[Bool.and_false]
  ·unfold zhY
   rw[beq_eq_false_iff_ne.2 e1,Bool.false_and]
 ·rintro _ w2 ⟨rfl,hv⟩
  refine hB.rI0 rfl (zha λw3 b3=>⟨fmO x.1 (frm x.1),(frm x.1).isSome,rfl,?_⟩)
  refine box8 rfl λw4 hF4 b4 z4=>?_
  refine hF4.rI (n:=7) rfl ?_
  have:=hR w4 ((b1.on b3).on b4)
  unfold zu at this
  rw[if_neg (by rw[hv];decide)]at this
  rw[zoo,zt (by omega) (by have:=zoE x.1;omega)]
  exact this
theorem zfU{op:Int}(hR:R (.bool (zW op)) w):cR 31 #[.int .u16 op] w R:=by
 refine zb.of (ze9 op R w ?_) λ_ _ h=>h
 have yes:249<=op->op<=255->R (.bool true) w:=λh1 h2=>by rwa[YX.2 ⟨h1,h2⟩]at hR
 refine zj (λe=>yes (by omega) (by omega)) (λe1=>?_)
 refine zj (λe=>yes (by omega) (by omega)) (λe2=>?_)
 refine zj (λe=>yes (by omega) (by omega)) (λe3=>?_)
 refine zj (λe=>yes (by omega) (by omega)) (λe4=>?_)
 refine zj (λe=>yes (by omega) (by omega)) (λe5=>?_)
 refine zj (λe=>yes (by omega) (by omega)) (λe6=>?_)
 have:zW op=(op==255):=by
  cases h:zW op
  ·have:=zfD.1 h
   exact(beq_eq_false_iff_ne.2 (by omega)).symm
  ·have:=YX.1 h
   exact(beq_iff_eq.2 (by omega)).symm
 rwa[this]at hR
theorem zoL{s:Sl}{n:Nat}(hN:IsPl w s pl)(hmax:pl.length<9223372036854775807)(hn:n<pl.length)(hl:∃k,1<=k/\k<=n/\(ix pl k).1=248)(hR:R (.bool (yH pl n)) w) :
  cR 127 #[.slice s.a s.l s.c,.int .i64 (n:Int)] w R:=by
 refine zb.of (zdM s n R w ?_) λ_ _ h=>h
 refine zl.ghost (λj (st:Int×Unit) w'=>w'=w/\st=((j:Int),())/\j<=n/\yH pl j=yH pl n/\∃k,1<=k/\k<=j/\(ix pl k).1=248) n ⟨rfl,rfl,Nat.le_refl _,rfl,hl⟩ ?_
 rintro j _ w1 ⟨hw,rfl,hj,hf,k,hk1,hk2,hk3⟩ next hnext
 subst hw
 have hjl:j<pl.length:=by omega
 obtain⟨m,rfl⟩:∃m,j=m+1:=⟨j-1,by omega⟩
 have ew:IntKind.i64.wrap (((m+1:Nat):Int)-1)=(m:Int):=by rw[zt (by omega) (by omega)];omega
 dsimp only
 rw[ew]
 refine zfB hN hjl ?_
 rw[<-yR hjl]
 refine zr (λe=>?_) (λe=>?_)
 ·have e':yH pl (m+1)=yH pl m:=if_neg e
  refine hnext m _ _ (by omega) ⟨rfl,rfl,by omega,by rw[<-e',hf],k,hk1,?_,hk3⟩
  by_cases e2:k=m+1
  ·subst e2;exact absurd hk3 e
  ·omega
 ·have e':yH pl (m+1)=((ix pl m).1==54||(ix pl m).1==55):=if_pos e
  rw[<-hf,e']at hR
  have hml:m<pl.length:=by omega
  refine zfB hN hml (zj (λe1=>?_) (λe1=>zfB hN hml ?_))
  ·rw[<-yR hml]at e1
   rw[beq_iff_eq.2 e1,Bool.true_or]at hR
   exact hR
  ·rw[<-yR hml]at e1⊢
   rw[beq_eq_false_iff_ne.2 e1,Bool.false_or]at hR
   exact hR
theorem zht(pl:List PI)(n:Nat):mdlP pl (n+1)=(mdlP pl n||zu (ix pl n)==1):=by unfold mdlP;rw[List.range_succ,List.any_append];simp
theorem zri{s:Sl}{n:Nat}(hN:IsPl w s pl)(hmax:pl.length<9223372036854775807)(hn:n<pl.length)(hg:Zx pl n)(hR:∀w',Below w.heap.size w w'->R (.bool (mayP pl n)) w') :
  cR 78 #[.slice s.a s.l s.c,.int .i64 (n:Int)] w R:=by
 refine zb.of (zfe s n R w ?_) λ_ _ h=>h
 refine yA hN hn λt ht=>?_
 have ep:∀{j:Nat} (hj:j<pl.length) (t:Sl),zu (piOf (mkIn pl[j] t) pl[j].2.2.2)=zu (ix pl j):=λhj t=>by rw[yR hj]
 refine Yt (x:=mkIn pl[n] t) ht λw1 b1=>⟨_,rfl,?_⟩
 rw[ep hn t]
 refine zl.ghost (λj (st:Int×Int×Unit) w'=>∃(k:Nat) (m:Int),j=n-k/\k<=n/\st=(m,(k:Int),())/\Below w.heap.size w w'/\0<=m/\m<=k/\(mdlP pl k=!(m==0))/\∀i,i<k->zu (ix pl i)<=zu (ix pl n)) n
  ⟨0,0,rfl,Nat.zero_le _,rfl,b1,by omega,by omega,rfl,λi hi=>by omega⟩ ?_
 rintro _ _ w2 ⟨k,m,rfl,hk,rfl,hb,hm0,hmk,hmd,hlow⟩ next hnext
 have hN2:=hN.below hb
 refine zi (λh=>?_) (λh=>?_)
 ·have hkn:k<n:=by dsimp only at h;omega
  have hkl:k<pl.length:=by omega
  refine zk.cut (λ(st:Int×Unit) w'=>Below w.heap.size w w'/\zu (ix pl k)<=zu (ix pl n)/\0<=st.1/\st.1<=k+1/\mdlP pl (k+1)=!(st.1==0)) ?_ ?_
  ·refine yA hN2 hkl λt ht=>?_
   refine Yt (x:=mkIn pl[k] t) ht λw3 b3=>⟨_,rfl,?_⟩
   rw[ep hkl t]
   have hb3:=hb.on b3
   refine zi (λhgt=>?_) (λhgt=>?_)
   ·have:=hR w3 hb3
    rw[zfq hkn (by omega)]at this
    exact this
   ·refine yA (hN.below hb3) hkl λt ht=>?_
    refine Yt (x:=mkIn pl[k] t) ht λw4 b4=>⟨_,rfl,?_⟩
    rw[ep hkl t]
    have hb4:=hb3.on b4
    refine zj (λe1=>?_) (λe1=>?_)
    ·have e1:((zu (ix pl k):Nat):Int)=((1:Nat):Int):=e1
     have e1:=Int.ofNat.inj e1
     dsimp only
     rw[zt (by omega) (by omega)]
     refine⟨hb4,by omega,by omega,by omega,?_⟩
     rw[zht,beq_iff_eq.2 e1,Bool.or_true,beq_eq_false_iff_ne.2 (show m+1≠0 by omega)]
     rfl
    ·refine⟨hb4,by omega,hm0,by dsimp only;omega,?_⟩
     rw[zht,hmd,beq_eq_false_iff_ne.2 (show zu (ix pl k)≠1 from λh=>e1 (by rw[h];rfl)),Bool.or_false]
  ·rintro⟨m',_⟩ w5 ⟨hb5,hp5,h05,h15,hmd5⟩
   dsimp only at h05 h15 hmd5⊢
   rw[zt (by omega) (by omega)]
   refine hnext (n-(k+1)) _ _ (by omega) ⟨k+1,m',rfl,by omega,rfl,hb5,h05,by omega,hmd5,λi hi=>?_⟩
   by_cases e:i=k
   ·subst e;exact hp5
   ·exact hlow i (by omega)
 ·have hkn:k=n:=by dsimp only at h;omega
  subst hkn
  have no:¬zkA pl k=true:=zlN hlow
  dsimp only
  refine zj (λe1=>?_) (λe1=>?_)
  ·have:=hR w2 hb
   unfold mayP at this
   rw[if_neg no,if_pos (by omega),hmd,Bool.not_not]at this
   exact this
  have n1:¬zu (ix pl k)=1:=λh=>e1 (by rw[h];rfl)
  refine zk.cut (λ_ w'=>w'=w2/\¬(1<zu (ix pl k)/\mdlP pl k=false)) ?_ ?_
  ·refine zi (λh1=>zj (λe0=>?_) (λe0=>⟨rfl,λ⟨_,g⟩=>?_⟩)) (λh1=>⟨rfl,λ⟨g,_⟩=>by omega⟩)
   ·have:=hR w2 hb
    rw[zk7 (by rw[hmd,e0];rfl) (by omega)]at this
    exact this
   ·rw[hmd,beq_eq_false_iff_ne.2 e0]at g
    cases g
  rintro _ w6 ⟨rfl,n2⟩
  refine zi (λh8=>?_) (λh8=>?_)
  ·have:=hR w6 hb
   unfold mayP at this
   rw[if_neg no,if_neg n1,if_neg n2,if_pos (by omega)]at this
   exact this
  have hR:∀w',Below w.heap.size w w'->R (.bool (Yh (ix pl k).1 (zP pl k) (yH pl (k-1)))) w':=λw' hb'=>by
   have:=hR w' hb'
   unfold mayP at this
   rw[if_neg no,if_neg n1,if_neg n2,if_neg (by omega)]at this
   exact this
  have hlab:=@zmD pl k hg
  refine zfB hN2 hn ?_
  rw[<-yR hn]
  refine zk.cut (λ(st:Int×Unit) w'=>Below w.heap.size w w'/\st.1=zP pl k) ?_ ?_
  ·refine zi (λhp=>?_) (λhp=>?_)
   ·obtain⟨m',rfl⟩:∃m',k=m'+1:=⟨k-1,by omega⟩
    have ew:IntKind.i64.wrap (((m'+1:Nat):Int)-1)=(m':Int):=by rw[zt (by omega) (by omega)];omega
    rw[ew]
    have hml:m'<pl.length:=by omega
    refine yA hN2 hml λt ht=>?_
    refine Yt (x:=mkIn pl[m'] t) ht λw7 b7=>⟨_,rfl,?_⟩
    rw[ep hml t]
    have hb7:=hb.on b7
    refine zj (λe8=>?_) (λe8=>⟨hb7,?_⟩)
    ·refine zfB (hN.below hb7) hml ⟨hb7,?_⟩
     rw[<-yR hml]
     exact(if_pos (by omega)).symm
    ·exact(if_neg (λh=>e8 (by rw[h];rfl))).symm
   ·have:k=0:=by omega
    subst this
    exact⟨hb,rfl⟩
  rintro⟨ah,_⟩ w8 ⟨hb8,hah⟩
  dsimp only at hah⊢
  rw[<-hah]at hR hlab
  have hN8:=hN.below hb8
  have hR8:=hR w8 hb8
  generalize (ix pl k).1=op at hR hR8
  have hfirst:¬(ah=0\/ah=54\/ah=55\/ah=56\/zW ah=true)->∀{S:VWP},S (.bool (yH pl (k-1))) w8->cR 127 #[.slice s.a s.l s.c,.int .i64 (IntKind.i64.wrap ((k:Int)-1))] w8 S:=by
   intro hc S hS
   obtain⟨j,j1,j2,j3⟩:=hlab hc
   obtain⟨m',rfl⟩:∃m',k=m'+1:=⟨k-1,by omega⟩
   have ew:IntKind.i64.wrap (((m'+1:Nat):Int)-1)=(m':Int):=by rw[zt (by omega) (by omega)];omega
   rw[ew]
   exact zoL hN8 hmax (by omega) ⟨j,j1,by omega,j3⟩ hS
  unfold Yh at hR8
  have bt:∀{a b:Int} (c:Bool),a=b->R (.bool ((a==b)||c)) w8->R (.bool true) w8:=λc h g=>by rwa[beq_iff_eq.2 h,Bool.true_or]at g
  have bf:∀{a b:Int} (c:Bool),a≠b->R (.bool ((a==b)||c)) w8->R (.bool c) w8:=λc h g=>by rwa[beq_eq_false_iff_ne.2 h,Bool.false_or]at g
  refine zj (λe=>?_) (λe=>?_)
  ·rw[if_pos e]at hR8
   exact zj (λe2=>bt _ e2 hR8) (λe2=>bf _ e2 hR8)
  rw[if_neg e]at hR8
  refine zj (λe=>?_) (λe=>?_)
  ·rw[if_pos e]at hR8
   exact zj (λe2=>bt _ e2 hR8) (λe2=>bf _ e2 hR8)
  rw[if_neg e]at hR8
  refine zj (λe=>?_) (λe=>?_)
  ·rw[if_pos e,Bool.or_assoc]at hR8
   exact zj (λe2=>bt _ e2 hR8) (λe2=>zj (λe3=>bt _ e3 (bf _ e2 hR8)) (λe3=>zfU ⟨_,rfl,bf _ e3 (bf _ e2 hR8)⟩))
  rw[if_neg e]at hR8
  refine zj (λe=>?_) (λe=>?_)
  ·rw[if_pos e]at hR8
   exact zfU ⟨_,rfl,hR8⟩
  rw[if_neg e]at hR8
  refine zk.cut (λ_ w'=>w'=w8/\¬(ah=0\/ah=54\/ah=55\/ah=56\/zW ah=true)) ?_ ?_
  ·refine zj (λe0=>by rwa[if_pos (.inl e0)]at hR8) (λe0=>?_)
   refine zj (λe1=>by rwa[if_pos (.inr (.inl e1))]at hR8) (λe1=>?_)
   refine zj (λe2=>by rwa[if_pos (.inr (.inr (.inl e2)))]at hR8) (λe2=>?_)
   refine zj (λe3=>by rwa[if_pos (.inr (.inr (.inr (.inl e3))))]at hR8) (λe3=>?_)
   refine zfU ⟨_,rfl,zm (λe4=>by rwa[if_pos (.inr (.inr (.inr (.inr e4))))]at hR8) (λe4=>⟨rfl,?_⟩)⟩
   rintro(g |g |g |g |g)
   ·exact e0 g
   ·exact e1 g
   ·exact e2 g
   ·exact e3 g
   ·rw[e4]at g;cases g
  rintro _ w9 ⟨rfl,hc⟩
  rw[if_neg hc]at hR8
  refine zj (λe=>?_) (λe=>?_)
  ·rw[if_pos e]at hR8
   refine zj (λe2=>?_) (λe2=>zj (λe3=>?_) (λe3=>?_))
   ·rw[beq_iff_eq.2 e2,Bool.true_or,Bool.true_and]at hR8
    exact hfirst hc ⟨_,rfl,hR8⟩
   ·rw[beq_iff_eq.2 e3,Bool.or_true,Bool.true_and]at hR8
    exact hfirst hc ⟨_,rfl,hR8⟩
   ·rw[beq_eq_false_iff_ne.2 e2,beq_eq_false_iff_ne.2 e3,Bool.or_false,Bool.false_and]at hR8
    exact hR8
  rw[if_neg e]at hR8
  refine zj (λe=>?_) (λe=>?_)
  ·rw[if_pos e]at hR8
   refine zj (λe2=>?_) (λe2=>zj (λe3=>?_) (λe3=>?_))
   ·rw[beq_iff_eq.2 e2,Bool.true_or,Bool.true_and]at hR8
    exact hfirst hc ⟨_,rfl,hR8⟩
   ·rw[beq_iff_eq.2 e3,Bool.or_true,Bool.true_and]at hR8
    exact hfirst hc ⟨_,rfl,hR8⟩
   ·rw[beq_eq_false_iff_ne.2 e2,beq_eq_false_iff_ne.2 e3,Bool.or_false,Bool.false_and]at hR8
    exact hR8
  rw[if_neg e]at hR8
  refine zj (λe=>?_) (λe=>?_)
  ·rw[if_pos e]at hR8
   exact zj (λe2=>bt _ e2 hR8) (λe2=>bf _ e2 hR8)
  rw[if_neg e]at hR8
  refine zj (λe=>?_) (λe=>?_)
  ·rw[if_pos e]at hR8
   exact zj (λe2=>bt _ e2 hR8) (λe2=>bf _ e2 hR8)
  ·rw[if_neg e]at hR8
   exact hR8
theorem zj3{x:Mo}(hN:IsPl w x.2.2.1 pl)(hp:PlOk pl)(hR:∀w',Below w.heap.size w w'->R (.agg #[.int .i64 (layP x.2.1 pl).1,.int .i64 ((layP x.2.1 pl).2:Int)]) w') :
  cR 30 #[moA x] w R:=by
 refine zb.of (zdL x R w ?_) λ_ _ h=>h
 refine zq λw1 hB1 b1 z1=>?_
 have hB1:Blk w1 w.heap.size 25 (moV x):=hB1
 refine zq λw2 hC2 b2 z2=>?_
 have hC2:Blk w2 w1.heap.size 33 [.int .i64 0,.int .i64 0]:=hC2
 have hb2:=b1.on b2
 have s1:=b1.size
 have hlen:=hN.len
 have h40:=hp.len
 refine Mo.load (hB1.below b2) ?_
 refine zoS (x:=x) (hN.below hb2) hp λw3 b3=>⟨((zH x.2.1 pl).1,((zH x.2.1 pl).2:Int),()),rfl,?_⟩
 refine box2 rfl λw4 h4 b4 z4=>?_
 have b24:=b3.on b4
 have hb4:=hb2.on b24
 have hB4:=(hB1.below b2).below b24
 have hC4:=hC2.below b24
 refine h4.rI0 rfl (zr (λe=>?_) (λe=>?_))
 ·have e':(zH x.2.1 pl).1≠0:=e
  have hl:layP x.2.1 pl=zH x.2.1 pl:=if_pos e'
  rw[hl]at hR
  refine Sp.load h4 ?_
  refine st2 hC4 rfl λw5 h5 c5=>Sp.load h5 ?_
  exact hR w5 (c5.below hb4 (by omega))
 ·have e':(zH x.2.1 pl).1=0:=e
  have hl:layP x.2.1 pl=chkP pl:=if_neg (λh=>h e')
  rw[hl]at hR
  refine hB4.rS (n:=2) (x:=x.2.2.1) rfl ?_
  have ep:∀{j:Nat} (hj:j<pl.length) (t:Sl),zu (piOf (mkIn pl[j] t) pl[j].2.2.2)=zu (ix pl j):=λhj t=>by rw[yR hj]
  have out:∀{w':World} {a b:Int},Below w4.heap.size w4 w'->(chkP pl).1=a->(((chkP pl).2:Nat):Int)=b->Wr w' (blk w1.heap.size)/\Nw (w'.setCell (blk w1.heap.size) (.int .i64 a)) λw7=>Wr w7 ((blk w1.heap.size).add 1)/\
    Nw (w7.setCell ((blk w1.heap.size).add 1) (.int .i64 b)) λw8=>ldI w8 ((blk w1.heap.size).add 0) .i64 λx9=>ldI w8 ((blk w1.heap.size).add 1) .i64 λx10=>R (.agg #[(.int .i64 x9),(.int .i64 x10)]) w8:=by
   intro w' a b hb e1 e2
   subst e1 e2
   exact st2 (hC4.below hb) rfl λw8 h8 c8=>Sp.load h8 (hR w8 (c8.below (hb4.on hb) (by omega)))
  refine zl.ghost (λj (st:Int×Int×Unit) w'=>∃(k:Nat) (m:Int),j=pl.length-k/\k<=pl.length/\st=(m,(k:Int),())/\Below w4.heap.size w4 w'/\0<=m/\m<=k/\(mdlP pl k=!(m==0))/\Zx pl k) pl.length
   ⟨0,0,rfl,Nat.zero_le _,rfl,Below.refl _ _,by omega,by omega,rfl,λi hi=>by omega⟩ ?_
  rintro _ _ w5 ⟨k,m,rfl,hk,rfl,hb,hm0,hmk,hmd,hg⟩ next hnext
  have hN5:=hN.below (hb4.on hb)
  refine zi (λh=>?_) (λh=>?_)
  ·have hkl:k<pl.length:=by dsimp only at h;omega
   refine zk.cut (λ(st:Int×Unit) w'=>Below w4.heap.size w4 w'/\mayP pl k=true/\0<=st.1/\st.1<=k+1/\mdlP pl (k+1)=!(st.1==0)) ?_ ?_
   ·refine zri hN5 (by omega) hkl hg λw6 b6=>⟨_,rfl,?_⟩
    have hb6:=hb.on b6
    refine zy (zm (λhm=>?_) (λhm=>?_))
    ·refine yA (hN.below (hb4.on hb6)) hkl λt ht=>?_
     refine Yt (x:=mkIn pl[k] t) ht λw7 b7=>⟨_,rfl,?_⟩
     rw[ep hkl t]
     have hb7:=hb6.on b7
     refine zj (λe1=>?_) (λe1=>?_)
     ·have e1:((zu (ix pl k):Nat):Int)=((1:Nat):Int):=e1
      have e1:=Int.ofNat.inj e1
      dsimp only
      rw[zt (by omega) (by omega)]
      refine⟨hb7,hm,by omega,by omega,?_⟩
      rw[zht,beq_iff_eq.2 e1,Bool.or_true,beq_eq_false_iff_ne.2 (show m+1≠0 by omega)]
      rfl
     ·refine⟨hb7,hm,hm0,by dsimp only;omega,?_⟩
      rw[zht,hmd,beq_eq_false_iff_ne.2 (show zu (ix pl k)≠1 from λh=>e1 (by rw[h];rfl)),Bool.or_false]
    ·have hch:=zqi hg hkl hm
     exact out hb6 (by rw[hch]) (by rw[hch])
   ·rintro⟨m',_⟩ w8 ⟨hb8,hm8,h08,h18,hmd8⟩
    dsimp only at h08 h18 hmd8⊢
    rw[zt (by omega) (by omega)]
    exact hnext (pl.length-(k+1)) _ _ (by omega) ⟨k+1,m',rfl,hkl,rfl,hb8,h08,by omega,hmd8,hg.step hm8⟩
  ·have hkl:k=pl.length:=by dsimp only at h;omega
   subst hkl
   have hch:=znk hg
   dsimp only
   have opn:zaU pl=true->∀{w':World},Below w4.heap.size w4 w'->_:=λho {w'} hb'=>out (w':=w') (a:=51) (b:=(pl.length:Int)) hb' (by rw[hch,if_pos ho]) (by rw[hch,if_pos ho])
   rw[hlen]
   refine zk.cut (λ_ w'=>Below w4.heap.size w4 w'/\zaU pl=false) ?_ ?_
   ·refine zj (λe0=>opn (zj0 (by rw[hmd,e0];rfl)) hb) (λe0=>?_)
    have hmt:mdlP pl pl.length=true:=by rw[hmd,beq_eq_false_iff_ne.2 e0];rfl
    obtain⟨j,hj,_⟩:=zgW.1 hmt
    obtain⟨n,hn⟩:∃n,pl.length=n+1:=⟨pl.length-1,by omega⟩
    have hnl:n<pl.length:=by omega
    have ew:IntKind.i64.wrap (((pl.length:Nat):Int)-1)=(n:Int):=by rw[zt (by omega) (by omega)];omega
    have eo:zaU pl=(zu (ix pl n)==8&&(ix pl n).1 !=56):=by
     unfold zaU
     rw[hmt,show pl.length-1=n by omega,decide_eq_true (show 0<pl.length by omega)]
     simp
    rw[ew,<-hlen]
    refine yA hN5 hnl λt ht=>?_
    refine Yt (x:=mkIn pl[n] t) ht λw6 b6=>⟨_,rfl,?_⟩
    rw[ep hnl t]
    have hb6:=hb.on b6
    refine zj (λe8=>?_) (λe8=>⟨hb6,?_⟩)
    ·refine zfB (hN.below (hb4.on hb6)) hnl ?_
     rw[<-yR hnl]
     refine zr (λe56=>?_) (λe56=>⟨hb6,?_⟩)
     ·rw[hlen]
      exact opn (by rw[eo,beq_iff_eq.2 (show zu (ix pl n)=8 by omega),bne_iff_ne.2 e56];rfl) hb6
     ·rw[eo,e56];simp
    ·rw[eo,beq_eq_false_iff_ne.2 (λh=>e8 (by rw[h];rfl)),Bool.false_and]
   ·rintro _ w9 ⟨hb9,ho⟩
    exact out hb9 (by rw[hch,if_neg (by rw[ho];decide)]) (by rw[hch,if_neg (by rw[ho];decide)];rfl)
end
end Go.Proofs
namespace Go.Proofs
open Go.Gk Go.RowKit Go.Gm
theorem zow{bd:Int}{pl:List PI}(h:(layP bd pl).1=0):(zH bd pl).1=0/\Zx pl pl.length/\zaU pl=false:=by
 unfold layP at h
 by_cases h1:(zH bd pl).1≠0
 ·rw[if_pos h1]at h;exact absurd h h1
 rw[if_neg h1]at h
 refine⟨Classical.not_not.1 h1,?_⟩
 unfold chkP at h
 cases hf:(List.range pl.length).find? (λk=>!mayP pl k) with
 |some k=>rw[hf]at h;cases h
 |none=>
  rw[hf]at h
  refine⟨λk hk=>?_,?_⟩
  ·have:=List.find?_eq_none.1 hf k (List.mem_range.2 hk)
   simpa using this
  ·cases ho:zaU pl
   ·rfl
   ·rw[ho]at h;cases h
structure BkOk (pl:List PI) (n:Nat) (b:Int×Int×Int):Prop where
 ex:∃f t:Nat,b=((ix pl f).2.2.1,(f:Int),(t:Int))/\f+2<=t/\t<=n/\(ix pl f).1=248/\zu (ix pl f)=8/\zW (ix pl (t-1)).1=true/\zu (ix pl (t-1))=8
theorem BkOk.mono{pl:List PI}{n m:Nat}{b:Int×Int×Int}(h:BkOk pl n b)(hm:n<=m):BkOk pl m b:=by
 obtain⟨f,t,h1,h2,h3,h4⟩:=h.ex
 exact⟨f,t,h1,h2,by omega,h4⟩
structure FnOk (pl:List PI) (n:Nat) (f:FnL):Prop where
 ne:f.bk≠[]
 ok:∀b∈f.bk,BkOk pl n b
 lt:f.bk.Pairwise λa b=>a.2.1<b.2.1
theorem FnOk.mono{pl:List PI}{n m:Nat}{f:FnL}(h:FnOk pl n f)(hm:n<=m):FnOk pl m f:=⟨h.ne,λb hb=>(h.ok b hb).mono hm,h.lt⟩
inductive znH (pl:List PI) (n:Nat) (ah:Int):List FnL->Prop
 |out (h:ah=0\/ah=56):znH pl n ah []
 |head (f:FnL) (h:ah=54\/ah=55) (hb:f.bk=[]):znH pl n ah [f]
 |shut (f:FnL) (h:zW ah=true) (hf:FnOk pl n f):znH pl n ah [f]
 |open_ (f:FnL) (bs:List (Int×Int×Int)) (k:Nat) (h:¬(ah=0\/ah=54\/ah=55\/ah=56\/zW ah=true)) (hb:f.bk=bs++[((ix pl k).2.2.1,(k:Int),0)])
   (hk:k<n) (h1:(ix pl k).1=248) (h8:zu (ix pl k)=8) (ho:∀b∈bs,BkOk pl n b) (hlt:∀b∈bs,b.2.1<k) (hp:bs.Pairwise λa b=>a.2.1<b.2.1):znH pl n ah [f]
def zjE(pl:List PI)(n:Nat):Prop:=∃done last,cutF pl n=done++last/\(∀f∈done,FnOk pl n f)/\znH pl n (zP pl n) last
theorem yj{op:Int}(h:zW op=true):249<=op/\op<=255:=by unfold zW at h;exact of_decide_eq_true h
theorem zbm{α:Type}{R:α->α->Prop}{l:List α}{x:α}(h:l.Pairwise R)(hx:∀y∈l,R y x):(l++[x]).Pairwise R:=by
 rw[List.pairwise_append]
 exact⟨h,List.pairwise_singleton _ _,λa ha b hb=>by rw[List.mem_singleton.1 hb];exact hx a ha⟩
theorem BkOk.from_lt{pl:List PI}{n:Nat}{b:Int×Int×Int}(h:BkOk pl n b):b.2.1<(n:Int):=by
 obtain⟨f,t,rfl,h2,h3,_⟩:=h.ex
 show(f:Int)<n
 omega
theorem zjE.step{pl:List PI}{n:Nat}(h:zjE pl n)(hm:mayP pl n=true)(hg:Zx pl n)(hn:n<pl.length):zjE pl (n+1):=by
 obtain⟨done,last,hc,hd,hl⟩:=h
 have hd':∀f∈done,FnOk pl (n+1) f:=λf hf=>(hd f hf).mono (by omega)
 have hc':cutF pl (n+1)=cutS (cutF pl n) n (ix pl n):=rfl
 by_cases h8:zu (ix pl n)=8
 ·have ha':zP pl (n+1)=(ix pl n).1:=zih h8
  have ho:=zpB hm h8
  have hne:=zta h8
  generalize hah:zP pl n=ah at hl ho
  generalize yH pl (n-1)=fi at ho
  have hcS:∀f,cutF pl n=done++[f]->∀g:FnL->FnL,modL g (cutF pl n)=done++[g f]:=λf e g=>by rw[e,yw]
  unfold zjE
  rw[ha',hc']
  by_cases e54:(ix pl n).1=54
  ·rw[e54]at ho⊢
   have ho:(ah==0||ah==56)=true:=ho
   have hah2:ah=0\/ah=56:=by simpa using ho
   have hlast:last=[]:=by
    cases hl with
    |out h=>rfl
    |head f h hb=>omega
    |shut f h hf=>have:=yj h;omega
    |open_ f bs k h _ _ _ _ _ _ _=>exact absurd (hah2.elim .inl λe=>.inr (.inr (.inr (.inl e)))) h
   subst hlast
   refine⟨done,[⟨(ix pl n).2.2.1,n,0,[],[]⟩],?_,hd',.head _ (.inl rfl) rfl⟩
   unfold cutS
   rw[if_pos e54,hc,List.append_nil]
  by_cases e55:(ix pl n).1=55
  ·rw[e55]at ho⊢
   have ho:(ah==54||ah==55)=true:=ho
   have hah2:ah=54\/ah=55:=by simpa using ho
   obtain⟨f,rfl,hb⟩:∃f,last=[f]/\f.bk=[]:=by
    cases hl with
    |out h=>omega
    |head f h hb=>exact⟨f,rfl,hb⟩
    |shut f h hf=>have:=yj h;omega
    |open_ f bs k h _ _ _ _ _ _ _=>exact absurd (hah2.elim (λe=>.inr (.inl e)) λe=>.inr (.inr (.inl e))) h
   refine⟨done,_,?_,hd',.head {f with ps:=f.ps++[(n:Int)]} (.inr rfl) hb⟩
   unfold cutS
   rw[if_neg e54,if_pos e55,hcS f hc]
  by_cases e248:(ix pl n).1=248
  ·have ho:(ah==54||ah==55||zW ah)=true:=by rw[e248]at ho;exact ho
   have hin:¬((248:Int)=0\/(248:Int)=54\/(248:Int)=55\/(248:Int)=56\/zW 248=true):=by decide
   obtain⟨f,rfl,hb,hp,hlt⟩:∃f,last=[f]/\(∀b∈f.bk,BkOk pl (n+1) b)/\f.bk.Pairwise (λa b=>a.2.1<b.2.1)/\∀b∈f.bk,b.2.1<(n:Int):=by
    cases hl with
    |out h=>rcases h with rfl |rfl<;>cases ho
    |head f h hb=>exact⟨f,rfl,by rw[hb];exact λ_ h=>(by cases h),by rw[hb];exact List.Pairwise.nil,by rw[hb];exact λ_ h=>(by cases h)⟩
    |shut f h hf=>exact⟨f,rfl,λb hb=>(hf.ok b hb).mono (by omega),hf.lt,λb hb=>(hf.ok b hb).from_lt⟩
    |open_ f bs k h _ _ _ _ _ _ _=>
     refine absurd ?_ h
     rw[Bool.or_eq_true,Bool.or_eq_true,beq_iff_eq,beq_iff_eq]at ho
     rcases ho with(e |e) |e
     ·exact .inr (.inl e)
     ·exact .inr (.inr (.inl e))
     ·exact .inr (.inr (.inr (.inr e)))
   rw[e248]
   refine⟨done,_,?_,hd',.open_ {f with bk:=f.bk++[((ix pl n).2.2.1,(n:Int),0)]} f.bk n hin rfl (by omega) e248 h8 hb hlt hp⟩
   unfold cutS
   rw[if_neg e54,if_neg e55,if_neg (by omega),if_pos e248,hcS f hc]
  by_cases e56:(ix pl n).1=56
  ·have ho:zW ah=true:=by rw[e56]at ho;exact ho
   obtain⟨f,rfl,hf⟩:∃f,last=[f]/\FnOk pl n f:=by
    cases hl with
    |out h=>have:=yj ho;omega
    |head f h hb=>have:=yj ho;omega
    |shut f h hf=>exact⟨f,rfl,hf⟩
    |open_ f bs k h _ _ _ _ _ _ _=>exact absurd (.inr (.inr (.inr (.inr ho)))) h
   have hf':=hf.mono (Nat.le_succ n)
   refine⟨done++[{f with en:=n}],[],?_,λg hg=>?_,by rw[e56];exact .out (.inr rfl)⟩
   ·unfold cutS
    rw[if_neg e54,if_neg e55,if_pos e56,hcS f hc,List.append_nil]
   ·rcases List.mem_append.1 hg with hg |hg
    ·exact hd' g hg
    ·rw[List.mem_singleton.1 hg]
     exact⟨hf'.ne,hf'.ok,hf'.lt⟩
  have hin:¬(ah=0\/ah=54\/ah=55\/ah=56\/zW ah=true):=λhin=>by
   unfold Yh at ho
   rw[if_neg e54,if_neg e55,if_neg e248,if_neg e56,if_pos hin]at ho
   cases ho
  obtain⟨f,bs,k,rfl,hb,hk,h1,h8k,hob,hlt,hp⟩:∃f bs k,last=[f]/\f.bk=bs++[((ix pl k).2.2.1,(k:Int),0)]/\k<n/\(ix pl k).1=248/\zu (ix pl k)=8/\(∀b∈bs,BkOk pl n b)/\(∀b∈bs,b.2.1<(k:Int))/\bs.Pairwise (λa b=>a.2.1<b.2.1):=by
   cases hl with
   |out h=>exact absurd (h.elim .inl λe=>.inr (.inr (.inr (.inl e)))) hin
   |head f h hb=>exact absurd (h.elim (λe=>.inr (.inl e)) λe=>.inr (.inr (.inl e))) hin
   |shut f h hf=>exact absurd (.inr (.inr (.inr (.inr h)))) hin
   |open_ f bs k h hb hk h1 h8 ho hlt hp=>exact⟨f,bs,k,rfl,hb,hk,h1,h8,ho,hlt,hp⟩
  by_cases ee:zW (ix pl n).1=true
  ·refine⟨done,_,?_,hd',.shut {f with bk:=bs++[((ix pl k).2.2.1,(k:Int),((n+1:Nat):Int))]} ee ⟨by simp,λb hb'=>?_,?_⟩⟩
   ·unfold cutS
    rw[if_neg e54,if_neg e55,if_neg e56,if_neg e248,if_pos ee,hcS f hc]
    simp only[hb,yw]
    rfl
   ·rcases List.mem_append.1 hb' with hb' |hb'
    ·exact(hob b hb').mono (by omega)
    ·rw[List.mem_singleton.1 hb']
     exact⟨k,n+1,rfl,by omega,Nat.le_refl _,h1,h8k,by rw[Nat.add_sub_cancel];exact ee,by rw[Nat.add_sub_cancel];exact h8⟩
   ·exact zbm hp λy hy=>hlt y hy
  ·refine⟨done,[f],?_,hd',.open_ f bs k (λg=>?_) hb (by omega) h1 h8k (λb hb'=>(hob b hb').mono (by omega)) hlt hp⟩
   ·unfold cutS
    rw[if_neg e54,if_neg e55,if_neg e56,if_neg e248,if_neg ee,hc]
   ·rcases g with g |g |g |g |g
    ·exact hne g
    ·exact e54 g
    ·exact e55 g
    ·exact e56 g
    ·exact ee g
 ·have ha':zP pl (n+1)=0:=if_neg h8
  have h0:zP pl n=0:=by
   cases n with
   |zero=>rfl
   |succ m=>
    refine if_neg λe=>?_
    have:=zmB (pl:=pl) (n:=m+1+1) (hg.step hm) (i:=m) (j:=m+1) (by omega) (by omega)
    have:=zd8 (ix pl (m+1))
    omega
  have hlast:last=[]:=by
   rw[h0]at hl
   cases hl with
   |out h=>rfl
   |head f h hb=>omega
   |shut f h hf=>have:=yj h;omega
   |open_ f bs k h _ _ _ _ _ _ _=>exact absurd (.inl rfl) h
  subst hlast
  unfold zjE
  rw[ha',hc',zoc (.inl h8),hc]
  exact⟨done,[],rfl,hd',.out (.inl rfl)⟩
theorem znn{pl:List PI}(hg:Zx pl pl.length):∀n,n<=pl.length->zjE pl n
 | 0,_=>⟨[],[],rfl,λ_ h=>(by cases h),.out (.inl rfl)⟩
 |n+1,h=>(znn hg n (by omega)).step (hg n (by omega)) (λk hk=>hg k (by omega)) (by omega)
theorem zno{bd:Int}{pl:List PI}(h:(layP bd pl).1=0):∀f∈cutF pl pl.length,FnOk pl pl.length f:=by
 obtain⟨_,hg,ho⟩:=zow h
 obtain⟨done,last,hc,hd,hl⟩:=znn hg pl.length (Nat.le_refl _)
 have hah:zP pl pl.length=0\/zP pl pl.length=56:=by
  cases hlen:pl.length with
  |zero=>exact .inl rfl
  |succ m=>
   by_cases h8:zu (ix pl m)=8
   ·right
    rw[zih h8]
    unfold zaU at ho
    rw[hlen,Nat.add_sub_cancel]at ho
    simp only[h8,Bool.or_eq_false_iff]at ho
    have:=ho.2
    simpa using this
   ·exact .inl (if_neg h8)
 have hlast:last=[]:=by
  generalize zP pl pl.length=ah at hl hah
  cases hl with
  |out h=>rfl
  |head f h hb=>omega
  |shut f h hf=>have:=yj h;omega
  |open_ f bs k h _ _ _ _ _ _ _=>exact absurd (hah.elim .inl λe=>.inr (.inr (.inr (.inl e)))) h
 subst hlast
 rw[hc,List.append_nil]
 exact hd
end Go.Proofs
namespace Go.Proofs
open Go.Gk
set_option linter.unusedVariables false
set_option maxRecDepth 100000
def zb8:Ann:=(.q (.seq (some ⟨[2,3],[]⟩) (.q (.cond (.q .nil) .nil)) (.seq none (.q (.one (.loop ⟨[2,3],[(5,(.b (.int .i64)))]⟩ (.seq none (.q .c) (.seq none (.one (.q (.cond (.q .nil) .nil))) .nil))))) (.q .nil))))
def zbq(p0:(Int×Int×Sl×Unit))(p1:(Int×Int×Sl×Unit))(R:VWP)(w:World):Prop:=Nw (w.alloc (.cells #[.int .u32 p0.1,.int .u32 p0.2.1,.slice p0.2.2.1.a p0.2.2.1.l p0.2.2.1.c] 25)) λw1=>Nw (w1.alloc (.cells #[.int .u32 p1.1,.int .u32 p1.2.1,.slice p1.2.2.1.a p1.2.2.1.l p1.2.2.1.c] 25)) λw2=>zk (S:=Unit) (λm1=>ldI w2 (blk w.heap.size) .u32 λx3=>ldI w2 (blk w1.heap.size) .u32 λx4=>ifB (x3 !=x4) (R (.bool false) w2) (ldI w2 ((blk w.heap.size).add 1) .u32 λx5=>ldI w2 ((blk w1.heap.size).add 1) .u32 λx6=>ifB (x5 !=x6) (R (.bool false) w2) (ldS w2 ((blk w.heap.size).add 2) λx7=>ldS w2 ((blk w1.heap.size).add 2) λx8=>ifB ((x7.l:Int) !=(x8.l:Int)) (R (.bool false) w2) (m1 () w2)))) (λs2 w3=>zl (S:=Int×Unit) (λs9 w4 n10=>ldS w4 ((blk w.heap.size).add 2) λx11=>ifB (decide (s9.1<(x11.l:Int))) (ldS w4.drew ((blk w.heap.size).add 2) λx12=>(0<=s9.1/\s9.1<(x12.l:Int))/\zc x12.a λa13=>ldI w4.drew ((a13.add (s9.1.toNat *4)).add 0) .u16 λx14=>ldI w4.drew ((a13.add (s9.1.toNat *4)).add 1) .u32 λx15=>ldI w4.drew ((a13.add (s9.1.toNat *4)).add 2) .u32 λx16=>ldS w4.drew ((a13.add (s9.1.toNat *4)).add 3) λx17=>ldS w4.drew ((blk w1.heap.size).add 2) λx18=>(0<=s9.1/\s9.1<(x18.l:Int))/\zc x18.a λa19=>ldI w4.drew ((a19.add (s9.1.toNat *4)).add 0) .u16 λx20=>ldI w4.drew ((a19.add (s9.1.toNat *4)).add 1) .u32 λx21=>ldI w4.drew ((a19.add (s9.1.toNat *4)).add 2) .u32 λx22=>ldS w4.drew ((a19.add (s9.1.toNat *4)).add 3) λx23=>cR 49 #[.agg #[.int .u16 x14,.int .u32 x15,.int .u32 x16,.slice x17.a x17.l x17.c],.agg #[.int .u16 x20,.int .u32 x21,.int .u32 x22,.slice x23.a x23.l x23.c]] w4.drew λv24 w5=>∃x25:Bool,v24=(.bool x25)/\ifB (!x25) (R (.bool false) w5) (n10 ((IntKind.i64.wrap (s9.1+(1:Int))),()) w5)) (R (.bool true) w4)) (0,()) w3)
theorem zez(p0)(p1)(R)(w)(h:zbq p0 p1 R w):Calls Tryz.prog 14 #[.agg #[.int .u32 p0.1,.int .u32 p0.2.1,.slice p0.2.2.1.a p0.2.2.1.l p0.2.2.1.c],.agg #[.int .u32 p1.1,.int .u32 p1.2.1,.slice p1.2.2.1.a p1.2.2.1.l p1.2.2.1.c]] w (Ret R):=lwC zb8 Tryz.func14 (by kernel_rfl) (by kernel_rfl) h
def zkx:Ann:=(.q (.one (.q (.seq none (.q (.cond (.q .nil) .nil)) (.q (.q (.q (.seq none (.q (.one (.loop ⟨[2,5,6,29,30],[(31,(.b (.int .i64)))]⟩ (.q (.seq none .c (.seq (some ⟨[2,5,6,29,30,31],[]⟩) (.one (.q (.seq (some ⟨[2,5,6,7,8,29,30,31],[]⟩) (.q (.cond (.q .nil) .nil)) (.q (.seq none (.q (.one (.loop ⟨[2,5,6,7,29,30,31,50,51],[(9,(.b .bool)),(52,(.b (.int .i64)))]⟩ (.q (.seq none .c (.seq (some ⟨[2,5,6,7,29,30,31,50,51,52],[(9,(.b .bool))]⟩) (.one (.q (.q (.seq none (.q (.cond (.q .nil) .nil)) .nil)))) .nil)))))) (.seq (some ⟨[2,7],[]⟩) (.q .c) (.q .nil))))))) .nil)))))) (.q .nil)))))))))
def zkt(p0:(Int×Int×Sl×Unit))(R:VWP)(w:World):Prop:=Nw (w.alloc (.cells #[.int .u32 p0.1,.int .u32 p0.2.1,.slice p0.2.2.1.a p0.2.2.1.l p0.2.2.1.c] 25)) λw1=>Nw (w1.alloc (.cells #[.int .i64 0,.int .i64 0] 33)) λw2=>ldI w2 ((blk w.heap.size).add 0) .u32 λx1=>ldI w2 ((blk w.heap.size).add 1) .u32 λx2=>ldS w2 ((blk w.heap.size).add 2) λx3=>cR 100 #[.agg #[.int .u32 x1,.int .u32 x2,.slice x3.a x3.l x3.c]] w2 λv4 w3=>∃x5:(Int×Int×Int×Int×Int×Int×Int×Int×Int×Int×Int×Int×Int×Int×Int×Int×Int×Int×Int×Int×Unit),∃x6:(Int×Int×Unit),v4=(.tuple #[.agg #[.int .i64 x5.1,.int .i64 x5.2.1,.int .i64 x5.2.2.1,.int .i64 x5.2.2.2.1,.int .i64 x5.2.2.2.2.1,.int .i64 x5.2.2.2.2.2.1,.int .i64 x5.2.2.2.2.2.2.1,.int .i64 x5.2.2.2.2.2.2.2.1,.int .i64 x5.2.2.2.2.2.2.2.2.1,.int .i64 x5.2.2.2.2.2.2.2.2.2.1,.int .i64 x5.2.2.2.2.2.2.2.2.2.2.1,.int .i64 x5.2.2.2.2.2.2.2.2.2.2.2.1,.int .i64 x5.2.2.2.2.2.2.2.2.2.2.2.2.1,.int .i64 x5.2.2.2.2.2.2.2.2.2.2.2.2.2.1,.int .i64 x5.2.2.2.2.2.2.2.2.2.2.2.2.2.2.1,.int .i64 x5.2.2.2.2.2.2.2.2.2.2.2.2.2.2.2.1,.int .i64 x5.2.2.2.2.2.2.2.2.2.2.2.2.2.2.2.2.1,.int .i64 x5.2.2.2.2.2.2.2.2.2.2.2.2.2.2.2.2.2.1,.int .i64 x5.2.2.2.2.2.2.2.2.2.2.2.2.2.2.2.2.2.2.1,.int .i64 x5.2.2.2.2.2.2.2.2.2.2.2.2.2.2.2.2.2.2.2.1],.agg #[.int .i64 x6.1,.int .i64 x6.2.1]])/\Nw (w3.alloc (.cells (List.toArray (List.replicate 20 (.int .i64 0))) 143)) λw4=>Nw (w4.alloc (.cells #[.int .i64 0,.int .i64 0] 33)) λw5=>Wr w5 (blk w3.heap.size)/\Nw (w5.setCell (blk w3.heap.size) (.int .i64 x5.1)) λw6=>Wr w6 ((blk w3.heap.size).add 1)/\Nw (w6.setCell ((blk w3.heap.size).add 1) (.int .i64 x5.2.1)) λw7=>Wr w7 ((blk w3.heap.size).add 2)/\Nw (w7.setCell ((blk w3.heap.size).add 2) (.int .i64 x5.2.2.1)) λw8=>Wr w8 ((blk w3.heap.size).add 3)/\Nw (w8.setCell ((blk w3.heap.size).add 3) (.int .i64 x5.2.2.2.1)) λw9=>Wr w9 ((blk w3.heap.size).add 4)/\Nw (w9.setCell ((blk w3.heap.size).add 4) (.int .i64 x5.2.2.2.2.1)) λw10=>Wr w10 ((blk w3.heap.size).add 5)/\Nw (w10.setCell ((blk w3.heap.size).add 5) (.int .i64 x5.2.2.2.2.2.1)) λw11=>Wr w11 ((blk w3.heap.size).add 6)/\Nw (w11.setCell ((blk w3.heap.size).add 6) (.int .i64 x5.2.2.2.2.2.2.1)) λw12=>Wr w12 ((blk w3.heap.size).add 7)/\Nw (w12.setCell ((blk w3.heap.size).add 7) (.int .i64 x5.2.2.2.2.2.2.2.1)) λw13=>Wr w13 ((blk w3.heap.size).add 8)/\Nw (w13.setCell ((blk w3.heap.size).add 8) (.int .i64 x5.2.2.2.2.2.2.2.2.1)) λw14=>Wr w14 ((blk w3.heap.size).add 9)/\Nw (w14.setCell ((blk w3.heap.size).add 9) (.int .i64 x5.2.2.2.2.2.2.2.2.2.1)) λw15=>Wr w15 ((blk w3.heap.size).add 10)/\Nw (w15.setCell ((blk w3.heap.size).add 10) (.int .i64 x5.2.2.2.2.2.2.2.2.2.2.1)) λw16=>Wr w16 ((blk w3.heap.size).add 11)/\Nw (w16.setCell ((blk w3.heap.size).add 11) (.int .i64 x5.2.2.2.2.2.2.2.2.2.2.2.1)) λw17=>Wr w17 ((blk w3.heap.size).add 12)/\Nw (w17.setCell ((blk w3.heap.size).add 12) (.int .i64 x5.2.2.2.2.2.2.2.2.2.2.2.2.1)) λw18=>Wr w18 ((blk w3.heap.size).add 13)/\Nw (w18.setCell ((blk w3.heap.size).add 13) (.int .i64 x5.2.2.2.2.2.2.2.2.2.2.2.2.2.1)) λw19=>Wr w19 ((blk w3.heap.size).add 14)/\Nw (w19.setCell ((blk w3.heap.size).add 14) (.int .i64 x5.2.2.2.2.2.2.2.2.2.2.2.2.2.2.1)) λw20=>Wr w20 ((blk w3.heap.size).add 15)/\Nw (w20.setCell ((blk w3.heap.size).add 15) (.int .i64 x5.2.2.2.2.2.2.2.2.2.2.2.2.2.2.2.1)) λw21=>Wr w21 ((blk w3.heap.size).add 16)/\Nw (w21.setCell ((blk w3.heap.size).add 16) (.int .i64 x5.2.2.2.2.2.2.2.2.2.2.2.2.2.2.2.2.1)) λw22=>Wr w22 ((blk w3.heap.size).add 17)/\Nw (w22.setCell ((blk w3.heap.size).add 17) (.int .i64 x5.2.2.2.2.2.2.2.2.2.2.2.2.2.2.2.2.2.1)) λw23=>Wr w23 ((blk w3.heap.size).add 18)/\Nw (w23.setCell ((blk w3.heap.size).add 18) (.int .i64 x5.2.2.2.2.2.2.2.2.2.2.2.2.2.2.2.2.2.2.1)) λw24=>Wr w24 ((blk w3.heap.size).add 19)/\Nw (w24.setCell ((blk w3.heap.size).add 19) (.int .i64 x5.2.2.2.2.2.2.2.2.2.2.2.2.2.2.2.2.2.2.2.1)) λw25=>Wr w25 (blk w4.heap.size)/\Nw (w25.setCell (blk w4.heap.size) (.int .i64 x6.1)) λw26=>Wr w26 ((blk w4.heap.size).add 1)/\Nw (w26.setCell ((blk w4.heap.size).add 1) (.int .i64 x6.2.1)) λw27=>ldI w27 (blk w4.heap.size) .i64 λx7=>ifB (x7 !=0) (ldI w27 ((blk w4.heap.size).add 0) .i64 λx8=>ldI w27 ((blk w4.heap.size).add 1) .i64 λx9=>Wr w27 (blk w1.heap.size)/\Nw (w27.setCell (blk w1.heap.size) (.int .i64 x8)) λw28=>Wr w28 ((blk w1.heap.size).add 1)/\Nw (w28.setCell ((blk w1.heap.size).add 1) (.int .i64 x9)) λw29=>ldI w29 ((blk w1.heap.size).add 0) .i64 λx10=>ldI w29 ((blk w1.heap.size).add 1) .i64 λx11=>R (.agg #[.int .i64 x10,.int .i64 x11]) w29) (ldS w27 ((blk w.heap.size).add 2) λx12=>cR 101 #[.slice x12.a x12.l x12.c] w27 λv13 w30=>∃x14:Option Nat,v13=(.map x14)/\(0<=(7:Int)/\(7:Int)<10)/\ldI w30 (((blk w3.heap.size).add (7*2)).add 0) .i64 λx15=>ldI w30 (((blk w3.heap.size).add (7*2)).add 1) .i64 λx16=>Nw (w30.alloc (.cells #[.int .i64 0,.int .i64 0] 142)) λw31=>Wr w31 (blk w30.heap.size)/\Nw (w31.setCell (blk w30.heap.size) (.int .i64 x15)) λw32=>Wr w32 ((blk w30.heap.size).add 1)/\Nw (w32.setCell ((blk w30.heap.size).add 1) (.int .i64 x16)) λw33=>ldS w33 ((blk w.heap.size).add 2) λx17=>zl (S:=Int×Unit) (λs18 w34 n19=>ifB (decide (s18.1<(x17.l:Int))) (zk (S:=Unit) (λm20=>(0<=s18.1/\s18.1<(x17.l:Int))/\zc x17.a λa22=>ldI w34 ((a22.add (s18.1.toNat *4)).add 0) .u16 λx23=>ldI w34 ((a22.add (s18.1.toNat *4)).add 1) .u32 λx24=>ldI w34 ((a22.add (s18.1.toNat *4)).add 2) .u32 λx25=>ldS w34 ((a22.add (s18.1.toNat *4)).add 3) λx26=>Nw (w34.alloc (.cells #[.int .u16 0,.int .u32 0,.int .u32 0,.slice none 0 0] 41)) λw35=>Wr w35 (blk w34.heap.size)/\Nw (w35.setCell (blk w34.heap.size) (.int .u16 x23)) λw36=>Wr w36 ((blk w34.heap.size).add 1)/\Nw (w36.setCell ((blk w34.heap.size).add 1) (.int .u32 x24)) λw37=>Wr w37 ((blk w34.heap.size).add 2)/\Nw (w37.setCell ((blk w34.heap.size).add 2) (.int .u32 x25)) λw38=>Wr w38 ((blk w34.heap.size).add 3)/\Nw (w38.setCell ((blk w34.heap.size).add 3) (.slice x26.a x26.l x26.c)) λw39=>zk (S:=Unit) (λm27=>ldI w39 ((blk w34.heap.size).add 2) .u32 λx29=>ifB (x29 !=0) (ldI w39 ((blk w34.heap.size).add 2) .u32 λx30=>zrX Tryz.prog 99 (.map x14) (.int .u32 x30) (BK.int .i64) w39 λ(x31:Int)=>ifB (decide (x31<s18.1)) (Wr w39 (blk w1.heap.size)/\Nw (w39.setCell (blk w1.heap.size) (.int .i64 90)) λw40=>Wr w40 ((blk w1.heap.size).add 1)/\Nw (w40.setCell ((blk w1.heap.size).add 1) (.int .i64 s18.1)) λw41=>ldI w41 ((blk w1.heap.size).add 0) .i64 λx32=>ldI w41 ((blk w1.heap.size).add 1) .i64 λx33=>R (.agg #[.int .i64 x32,.int .i64 x33]) w41) (m27 () w39)) (m27 () w39)) (λs28 w42=>ldI w42 ((blk w34.heap.size).add 0) .u16 λx34=>ldI w42 ((blk w34.heap.size).add 1) .u32 λx35=>ldI w42 ((blk w34.heap.size).add 2) .u32 λx36=>ldS w42 ((blk w34.heap.size).add 3) λx37=>cR 102 #[.agg #[.int .u16 x34,.int .u32 x35,.int .u32 x36,.slice x37.a x37.l x37.c]] w42 λv38 w43=>∃x39:Sl,v38=(.slice x39.a x39.l x39.c)/\zl (S:=Bool×Int×Unit) (λs40 w44 n41=>ifB (decide (s40.2.1<(x39.l:Int))) (zk (S:=Bool×Unit) (λm42=>(0<=s40.2.1/\s40.2.1<(x39.l:Int))/\zc x39.a λa44=>ldI w44 (a44.add s40.2.1.toNat) .u32 λx45=>zny Tryz.prog 99 (.map x14) (.int .u32 x45) (BK.int .i64) w44 λ(x46:Int) (b47:Bool)=>ifB (!b47) (Wr w44 (blk w1.heap.size)/\Nw (w44.setCell (blk w1.heap.size) (.int .i64 91)) λw45=>Wr w45 ((blk w1.heap.size).add 1)/\Nw (w45.setCell ((blk w1.heap.size).add 1) (.int .i64 s18.1)) λw46=>ldI w46 ((blk w1.heap.size).add 0) .i64 λx48=>ldI w46 ((blk w1.heap.size).add 1) .i64 λx49=>R (.agg #[.int .i64 x48,.int .i64 x49]) w46) (ifB s40.1 (m42 (true,()) w44) (m42 ((decide (x46≥s18.1)),()) w44))) (λs43 w47=>n41 (s43.1,(IntKind.i64.wrap (s40.2.1+(1:Int))),()) w47)) (zk (S:=Unit) (λm50=>ifB (!s40.1) (m20 () w44) (ldI w44 (blk w30.heap.size) .i64 λx52=>ifB (decide (s18.1<x52)) (m20 () w44) (ldI w44 ((blk w30.heap.size).add 1) .i64 λx53=>ifB (decide (s18.1≥x53)) (m20 () w44) (m50 () w44)))) (λs51 w48=>Wr w48 (blk w1.heap.size)/\Nw (w48.setCell (blk w1.heap.size) (.int .i64 92)) λw49=>Wr w49 ((blk w1.heap.size).add 1)/\Nw (w49.setCell ((blk w1.heap.size).add 1) (.int .i64 s18.1)) λw50=>ldI w50 ((blk w1.heap.size).add 0) .i64 λx54=>ldI w50 ((blk w1.heap.size).add 1) .i64 λx55=>R (.agg #[.int .i64 x54,.int .i64 x55]) w50))) (false,0,()) w43)) (λs21 w51=>n19 ((IntKind.i64.wrap (s18.1+(1:Int))),()) w51)) (Wr w34 (blk w1.heap.size)/\Nw (w34.setCell (blk w1.heap.size) (.int .i64 0)) λw52=>Wr w52 ((blk w1.heap.size).add 1)/\Nw (w52.setCell ((blk w1.heap.size).add 1) (.int .i64 0)) λw53=>ldI w53 ((blk w1.heap.size).add 0) .i64 λx56=>ldI w53 ((blk w1.heap.size).add 1) .i64 λx57=>R (.agg #[.int .i64 x56,.int .i64 x57]) w53)) (0,()) w33)
theorem zkS(p0)(R)(w)(h:zkt p0 R w):Calls Tryz.prog 44 #[.agg #[.int .u32 p0.1,.int .u32 p0.2.1,.slice p0.2.2.1.a p0.2.2.1.l p0.2.2.1.c]] w (Ret R):=lwC zkx Tryz.func44 (by kernel_rfl) (by kernel_rfl) h
def zaJ:Ann:=(.q (.q (.seq none (.q (.cond (.q .nil) .nil)) (.seq none (.q (.one (.loop ⟨[1,2],[(4,(.b (.int .i64)))]⟩ (.seq none (.q .c) (.seq none (.one (.q (.q (.cond (.q .nil) .nil)))) .nil))))) (.q .nil)))))
def zay(p0:(Int×Int×Sl×Unit))(R:VWP)(w:World):Prop:=Nw (w.alloc (.cells #[.int .u32 p0.1,.int .u32 p0.2.1,.slice p0.2.2.1.a p0.2.2.1.l p0.2.2.1.c] 25)) λw1=>Nw (w1.alloc (.cells #[.int .i64 0,.int .i64 0] 33)) λw2=>ldI w2 ((blk w.heap.size).add 0) .u32 λx1=>ldI w2 ((blk w.heap.size).add 1) .u32 λx2=>ldS w2 ((blk w.heap.size).add 2) λx3=>cR 30 #[.agg #[.int .u32 x1,.int .u32 x2,.slice x3.a x3.l x3.c]] w2 λv4 w3=>∃x5:(Int×Int×Unit),v4=(.agg #[.int .i64 x5.1,.int .i64 x5.2.1])/\Nw (w3.alloc (.cells #[.int .i64 0,.int .i64 0] 33)) λw4=>Wr w4 (blk w3.heap.size)/\Nw (w4.setCell (blk w3.heap.size) (.int .i64 x5.1)) λw5=>Wr w5 ((blk w3.heap.size).add 1)/\Nw (w5.setCell ((blk w3.heap.size).add 1) (.int .i64 x5.2.1)) λw6=>ldI w6 (blk w3.heap.size) .i64 λx6=>ifB (x6 !=0) (ldI w6 ((blk w3.heap.size).add 0) .i64 λx7=>ldI w6 ((blk w3.heap.size).add 1) .i64 λx8=>Wr w6 (blk w1.heap.size)/\Nw (w6.setCell (blk w1.heap.size) (.int .i64 x7)) λw7=>Wr w7 ((blk w1.heap.size).add 1)/\Nw (w7.setCell ((blk w1.heap.size).add 1) (.int .i64 x8)) λw8=>ldI w8 ((blk w1.heap.size).add 0) .i64 λx9=>ldI w8 ((blk w1.heap.size).add 1) .i64 λx10=>R (.agg #[.int .i64 x9,.int .i64 x10]) w8) (zl (S:=Int×Unit) (λs11 w9 n12=>ldS w9 ((blk w.heap.size).add 2) λx13=>ifB (decide (s11.1<(x13.l:Int))) (ldS w9 ((blk w.heap.size).add 2) λx14=>cR 105 #[.slice x14.a x14.l x14.c,.int .i64 s11.1] w9 λv15 w10=>∃x16:Int,v15=(.int .i64 x16)/\ifB (x16 !=0) (Wr w10 (blk w1.heap.size)/\Nw (w10.setCell (blk w1.heap.size) (.int .i64 x16)) λw11=>Wr w11 ((blk w1.heap.size).add 1)/\Nw (w11.setCell ((blk w1.heap.size).add 1) (.int .i64 s11.1)) λw12=>ldI w12 ((blk w1.heap.size).add 0) .i64 λx17=>ldI w12 ((blk w1.heap.size).add 1) .i64 λx18=>R (.agg #[.int .i64 x17,.int .i64 x18]) w12) (n12 ((IntKind.i64.wrap (s11.1+(1:Int))),()) w10)) (Wr w9 (blk w1.heap.size)/\Nw (w9.setCell (blk w1.heap.size) (.int .i64 0)) λw13=>Wr w13 ((blk w1.heap.size).add 1)/\Nw (w13.setCell ((blk w1.heap.size).add 1) (.int .i64 0)) λw14=>ldI w14 ((blk w1.heap.size).add 0) .i64 λx19=>ldI w14 ((blk w1.heap.size).add 1) .i64 λx20=>R (.agg #[.int .i64 x19,.int .i64 x20]) w14)) (0,()) w6)
theorem zdN(p0)(R)(w)(h:zay p0 R w):Calls Tryz.prog 47 #[.agg #[.int .u32 p0.1,.int .u32 p0.2.1,.slice p0.2.2.1.a p0.2.2.1.l p0.2.2.1.c]] w (Ret R):=lwC zaJ Tryz.func47 (by kernel_rfl) (by kernel_rfl) h
def zaK:Ann:=(.q (.seq none (.q (.cond (.q .nil) .nil)) (.q (.seq none (.q (.one (.loop ⟨[0,1,5],[(6,(.b (.int .i64)))]⟩ (.seq none (.q .c) (.seq none (.one (.q (.cond (.q .nil) .nil))) .nil))))) (.seq none (.q (.one (.loop ⟨[0,1,5],[(7,(.b (.int .i64)))]⟩ (.seq none (.q .c) (.seq (some ⟨[0,1,5,7],[]⟩) (.one (.q (.cond (.q .nil) .nil))) .nil))))) (.q .nil))))))
def zaz(p0:Sl)(p1:Int)(R:VWP)(w:World):Prop:=(0<=p1/\p1<(p0.l:Int))/\zc p0.a λa1=>ldI w ((a1.add (p1.toNat *4)).add 2) .u32 λx2=>cR 142 #[.slice p0.a p0.l p0.c,.int .u32 x2,.int .i64 p1] w λv3 w1=>∃x4:Int,v3=(.int .i64 x4)/\ifB (decide (x4≥(0:Int))) (R (.int .i64 90) w1) ((0<=p1/\p1<(p0.l:Int))/\zc p0.a λa5=>ldI w1 ((a5.add (p1.toNat *4)).add 0) .u16 λx6=>ldI w1 ((a5.add (p1.toNat *4)).add 1) .u32 λx7=>ldI w1 ((a5.add (p1.toNat *4)).add 2) .u32 λx8=>ldS w1 ((a5.add (p1.toNat *4)).add 3) λx9=>cR 143 #[.agg #[.int .u16 x6,.int .u32 x7,.int .u32 x8,.slice x9.a x9.l x9.c]] w1 λv10 w2=>∃x11:Sl,v10=(.slice x11.a x11.l x11.c)/\zl (S:=Int×Unit) (λs12 w3 n13=>ifB (decide (s12.1<(x11.l:Int))) ((0<=s12.1/\s12.1<(x11.l:Int))/\zc x11.a λa14=>ldI w3 (a14.add s12.1.toNat) .u32 λx15=>cR 142 #[.slice p0.a p0.l p0.c,.int .u32 x15,.int .i64 (p0.l:Int)] w3 λv16 w4=>∃x17:Int,v16=(.int .i64 x17)/\ifB (decide (x17<(0:Int))) (R (.int .i64 91) w4) (n13 ((IntKind.i64.wrap (s12.1+(1:Int))),()) w4)) (zl (S:=Int×Unit) (λs18 w5 n19=>ifB (decide (s18.1<(x11.l:Int))) (zk (S:=Unit) (λm20=>(0<=p1/\p1<(p0.l:Int))/\zc p0.a λa22=>ldI w5 ((a22.add (p1.toNat *4)).add 0) .u16 λx23=>ldI w5 ((a22.add (p1.toNat *4)).add 1) .u32 λx24=>ldI w5 ((a22.add (p1.toNat *4)).add 2) .u32 λx25=>ldS w5 ((a22.add (p1.toNat *4)).add 3) λx26=>cR 79 #[.agg #[.int .u16 x23,.int .u32 x24,.int .u32 x25,.slice x26.a x26.l x26.c]] w5 λv27 w6=>∃x28:Int,v27=(.int .i64 x28)/\ifB (x28==7) ((0<=s18.1/\s18.1<(x11.l:Int))/\zc x11.a λa29=>ldI w6 (a29.add s18.1.toNat) .u32 λx30=>cR 142 #[.slice p0.a p0.l p0.c,.int .u32 x30,.int .i64 p1] w6 λv31 w7=>∃x32:Int,v31=(.int .i64 x32)/\ifB (decide (x32<(0:Int))) (R (.int .i64 92) w7) (m20 () w7)) (m20 () w6)) (λs21 w8=>n19 ((IntKind.i64.wrap (s18.1+(1:Int))),()) w8)) (R (.int .i64 0) w5)) (0,()) w3)) (0,()) w2)
theorem zdO(p0)(p1)(R)(w)(h:zaz p0 p1 R w):Calls Tryz.prog 105 #[.slice p0.a p0.l p0.c,.int .i64 p1] w (Ret R):=lwC zaK Tryz.func105 (by kernel_rfl) (by kernel_rfl) h
end Go.Proofs
namespace Go.Proofs
open Go.Gk
set_option linter.unusedVariables false
set_option maxRecDepth 100000
def ziO:Ann:=(.q (.q (.seq none (.q (.one (.loop ⟨[],[(9,(.b (.int .i64))),(10,(.agg [(.int .u16),(.int .u32),(.int .u32),.slice]))]⟩ (.seq none (.q .nil) (.one (.q .c)))))) (.q .nil))))
def ziB(p0:Sl)(R:VWP)(w:World):Prop:=Nw (w.alloc (.map #[] 0)) λw1=>Nw (w1.alloc (.cells #[.map none] 99)) λw2=>Wr w2 (blk w1.heap.size)/\Nw (w2.setCell (blk w1.heap.size) (.map (some w.heap.size))) λw3=>cR 139 #[.slice p0.a p0.l p0.c] w3 λv1 w4=>∃x2:Value,v1=x2/\zig Tryz.prog Tryz.fs x2 w4 (T:=Int×(Int×Int×Int×Sl×Unit)×Unit) (λs3=>[(.int .i64 s3.1),(.agg #[.int .u16 s3.2.1.1,.int .u32 s3.2.1.2.1,.int .u32 s3.2.1.2.2.1,.slice s3.2.1.2.2.2.1.a s3.2.1.2.2.2.1.l s3.2.1.2.2.2.1.c])]) (λmk4 l5 s3 w5 S6=>Nw (w5.alloc (.cells #[.int .u16 0,.int .u32 0,.int .u32 0,.slice none 0 0] 41)) λw6=>Wr w6 (blk w5.heap.size)/\Nw (w6.setCell (blk w5.heap.size) (.int .u16 s3.2.1.1)) λw7=>Wr w7 ((blk w5.heap.size).add 1)/\Nw (w7.setCell ((blk w5.heap.size).add 1) (.int .u32 s3.2.1.2.1)) λw8=>Wr w8 ((blk w5.heap.size).add 2)/\Nw (w8.setCell ((blk w5.heap.size).add 2) (.int .u32 s3.2.1.2.2.1)) λw9=>Wr w9 ((blk w5.heap.size).add 3)/\Nw (w9.setCell ((blk w5.heap.size).add 3) (.slice s3.2.1.2.2.2.1.a s3.2.1.2.2.2.1.l s3.2.1.2.2.2.1.c)) λw10=>w10.heap[l5]? =some (mk4 .ready none)/\Nw (w10.putObj l5 (mk4 .busy none)) λw11=>ldI w11 ((blk w5.heap.size).add 2) .u32 λx8=>ifB (x8 !=0) (ldM w11 (blk w1.heap.size) λx9=>ldI w11 ((blk w5.heap.size).add 2) .u32 λx10=>updW Tryz.prog 99 (.map x9) (.int .u32 x10) (.int .i64 s3.1) w11 λw12=>w12.heap[l5]? =some (mk4 .busy none)/\S6 (.bool true) (w12.putObj l5 (mk4 .ready none))) (w11.heap[l5]? =some (mk4 .busy none)/\S6 (.bool true) (w11.putObj l5 (mk4 .ready none)))) (λmk4 l5 d7 w13=>ym mk4 l5 .ready none w13 λw14=>ldM w14 (blk w1.heap.size) λx11=>Yp (d7::[]) w14 λw15=>R (.map x11) w15)
theorem zjY(p0:Sl)(R:VWP)(w:World)(h:ziB p0 R w):Calls Tryz.prog 101 #[.slice p0.a p0.l p0.c] w (Ret R):=zhq (fs:=Tryz.fs) (an:=ziO) (args:=[(.slice p0.a p0.l p0.c)]) Tryz.fsOK Tryz.mixed Tryz.func101 (by kernel_rfl) (by kernel_rfl) (Eq.mpr (by kernel_rfl:zmM Tryz.prog Tryz.fs Tryz.f101 ziO [(.slice p0.a p0.l p0.c)] w R=ziB p0 R w) h)
def yl:Ann:=(.q (.q .nil))
def yk(p0:Sl)(R:VWP)(w:World):Prop:=Nw (w.alloc (.cells #[.slice p0.a p0.l p0.c] 23)) λw1=>R (.func (.func 171) #[] #[.pointer (some (blk w.heap.size))]) w1
theorem Zi(p0)(R)(w)(h:yk p0 R w):Calls Tryz.prog 139 #[.slice p0.a p0.l p0.c] w (Ret R):=lwC yl Tryz.func139 (by kernel_rfl) (by kernel_rfl) h
def zaL:Ann:=(.q (.seq none (.q (.one (.loop ⟨[0,1,2],[(7,(.b (.int .i64)))]⟩ (.seq none (.q .c) (.seq (some ⟨[0,1,2,7],[]⟩) (.one (.q (.cond (.q .nil) .nil))) .nil))))) (.q .nil)))
def za0(p0:Sl)(p1:Int)(p2:Int)(R:VWP)(w:World):Prop:=zl (S:=Int×Unit) (λs1 w1 n2=>ifB (decide (s1.1<p2)) (zk (S:=Unit) (λm3=>(0<=s1.1/\s1.1<(p0.l:Int))/\zc p0.a λa5=>ldI w1 ((a5.add (s1.1.toNat *4)).add 2) .u32 λx6=>ifB (x6==p1) (ifB (p1 !=0) (R (.int .i64 s1.1) w1) (m3 () w1)) (m3 () w1)) (λs4 w2=>n2 ((IntKind.i64.wrap (s1.1+(1:Int))),()) w2)) (R (.int .i64 (-1:Int)) w1)) (0,()) w
theorem ZR(p0)(p1)(p2)(R)(w)(h:za0 p0 p1 p2 R w):Calls Tryz.prog 142 #[.slice p0.a p0.l p0.c,.int .u32 p1,.int .i64 p2] w (Ret R):=lwC zaL Tryz.func142 (by kernel_rfl) (by kernel_rfl) h
def yb:Ann:=(.q (.one (.loop ⟨[0,1],[(3,(.b (.int .i64)))]⟩ (.seq none (.q .c) (.seq none (.one (.q .c)) .nil)))))
def zZ(p0:Value)(c0:Addr)(R:VWP)(w:World):Prop:=ldS w c0 λx1=>zl (S:=Int×Unit) (λs2 w1 n3=>ifB (decide (s2.1≥(0:Int))) (ldS w1 c0 λx4=>(0<=s2.1/\s2.1<(x4.l:Int))/\zc x4.a λa5=>ldI w1 ((a5.add (s2.1.toNat *4)).add 0) .u16 λx6=>ldI w1 ((a5.add (s2.1.toNat *4)).add 1) .u32 λx7=>ldI w1 ((a5.add (s2.1.toNat *4)).add 2) .u32 λx8=>ldS w1 ((a5.add (s2.1.toNat *4)).add 3) λx9=>zV Tryz.prog Tryz.fs p0 [(.int .i64 s2.1),(.agg #[.int .u16 x6,.int .u32 x7,.int .u32 x8,.slice x9.a x9.l x9.c])] w1 λv10 w2=>∃x11:Bool,v10=(.bool x11)/\ifB (!x11) (R (.tuple #[]) w2) (n3 ((IntKind.i64.wrap (s2.1-(1:Int))),()) w2)) (R (.tuple #[]) w1)) ((IntKind.i64.wrap ((x1.l:Int)-1)),()) w
theorem yV(p0)(c0)(R)(w)(h:zZ p0 c0 R w):Calls Tryz.prog 171 #[p0,.pointer (some c0)] w (Ret R):=lwC yb Tryz.func171 (by kernel_rfl) (by kernel_rfl) h
end Go.Proofs
namespace Go.Proofs
open Go.Gk
set_option linter.unusedVariables false
set_option maxRecDepth 100000
end Go.Proofs
namespace Go.Proofs
open Go.Gk
set_option linter.unusedVariables false
set_option maxRecDepth 100000
def Yb:Ann:=(.q (.q (.seq none (.q (.one (.loop ⟨[1,2,3],[(4,(.b (.int .i64)))]⟩ (.seq none (.q .c) (.seq none (.one .nil) .nil))))) (.q (.q .nil)))))
def ZW(p0:(Int×Int×Sl×Unit))(R:VWP)(w:World):Prop:=Nw (w.alloc (.cells #[.int .u32 p0.1,.int .u32 p0.2.1,.slice p0.2.2.1.a p0.2.2.1.l p0.2.2.1.c] 25)) λw1=>Nw (w1.alloc (.cells #[.int .u32 0,.int .u32 0,.slice none 0 0] 25)) λw2=>ldS w2 ((blk w.heap.size).add 2) λx1=>(0<=(x1.l:Int)/\(x1.l:Int)<=(x1.l:Int)/\40*(x1.l:Int)<=281474976710656/\(x1.l:Int)<=9223372036854775807)/\Nw (w2.alloc (.cells (madeCells #[.int .u16 0,.int .u32 0,.int .u32 0,.slice none 0 0] (x1.l*4)) 41)) λw3=>zl (S:=Int×Unit) (λs2 w4 n3=>ldS w4 ((blk w.heap.size).add 2) λx4=>ifB (decide (s2.1<(x4.l:Int))) (ldS w4 ((blk w.heap.size).add 2) λx5=>(0<=s2.1/\s2.1<(x5.l:Int))/\zc x5.a λa6=>ldI w4 ((a6.add (s2.1.toNat *4)).add 0) .u16 λx7=>ldI w4 ((a6.add (s2.1.toNat *4)).add 1) .u32 λx8=>ldI w4 ((a6.add (s2.1.toNat *4)).add 2) .u32 λx9=>ldS w4 ((a6.add (s2.1.toNat *4)).add 3) λx10=>cR 43 #[.agg #[.int .u16 x7,.int .u32 x8,.int .u32 x9,.slice x10.a x10.l x10.c]] w4 λv11 w5=>∃x12:(Int×Int×Int×Sl×Unit),v11=(.agg #[.int .u16 x12.1,.int .u32 x12.2.1,.int .u32 x12.2.2.1,.slice x12.2.2.2.1.a x12.2.2.2.1.l x12.2.2.2.1.c])/\(0<=s2.1/\s2.1<(x1.l:Int))/\Wr w5 ((blk w2.heap.size).add (s2.1.toNat *4))/\Nw (w5.setCell ((blk w2.heap.size).add (s2.1.toNat *4)) (.int .u16 x12.1)) λw6=>Wr w6 (((blk w2.heap.size).add (s2.1.toNat *4)).add 1)/\Nw (w6.setCell (((blk w2.heap.size).add (s2.1.toNat *4)).add 1) (.int .u32 x12.2.1)) λw7=>Wr w7 (((blk w2.heap.size).add (s2.1.toNat *4)).add 2)/\Nw (w7.setCell (((blk w2.heap.size).add (s2.1.toNat *4)).add 2) (.int .u32 x12.2.2.1)) λw8=>Wr w8 (((blk w2.heap.size).add (s2.1.toNat *4)).add 3)/\Nw (w8.setCell (((blk w2.heap.size).add (s2.1.toNat *4)).add 3) (.slice x12.2.2.2.1.a x12.2.2.2.1.l x12.2.2.2.1.c)) λw9=>n3 ((IntKind.i64.wrap (s2.1+(1:Int))),()) w9) (Wr w4 ((blk w.heap.size).add 2)/\Nw (w4.setCell ((blk w.heap.size).add 2) (.slice (some (blk w2.heap.size)) x1.l x1.l)) λw10=>ldI w10 ((blk w.heap.size).add 0) .u32 λx13=>ldI w10 ((blk w.heap.size).add 1) .u32 λx14=>ldS w10 ((blk w.heap.size).add 2) λx15=>Wr w10 (blk w1.heap.size)/\Nw (w10.setCell (blk w1.heap.size) (.int .u32 x13)) λw11=>Wr w11 ((blk w1.heap.size).add 1)/\Nw (w11.setCell ((blk w1.heap.size).add 1) (.int .u32 x14)) λw12=>Wr w12 ((blk w1.heap.size).add 2)/\Nw (w12.setCell ((blk w1.heap.size).add 2) (.slice x15.a x15.l x15.c)) λw13=>ldI w13 ((blk w1.heap.size).add 0) .u32 λx16=>ldI w13 ((blk w1.heap.size).add 1) .u32 λx17=>ldS w13 ((blk w1.heap.size).add 2) λx18=>R (.agg #[.int .u32 x16,.int .u32 x17,.slice x18.a x18.l x18.c]) w13)) (0,()) w3
theorem zce(p0)(R)(w)(h:ZW p0 R w):Calls Tryz.prog 11 #[.agg #[.int .u32 p0.1,.int .u32 p0.2.1,.slice p0.2.2.1.a p0.2.2.1.l p0.2.2.1.c]] w (Ret R):=lwC Yb Tryz.func11 (by kernel_rfl) (by kernel_rfl) h
end Go.Proofs
namespace Go.Proofs
open Go.Gk Go.RowKit Go.Gm
def Cpy(w:World)(b:Nat)(pl:List PI):Prop:=
 ∃hs:List Ins,hs.length=pl.length/\Blk w b 41 (flat inV hs)/\∀(j:Nat) (h:j<hs.length) (h':j<pl.length),∃c,b<c/\hs[j]=mkIn pl[j] ⟨some (blk c),pl[j].2.2.2.length,pl[j].2.2.2.length⟩/\Blk w c 61 (flat agV pl[j].2.2.2)
theorem Cpy.isPl{w:World}{b:Nat}{pl:List PI}(h:Cpy w b pl)(hm:pl.length<=9223372036854775807)(hm':∀p∈pl,p.2.2.2.length<=9223372036854775807):IsPl w ⟨some (blk b),pl.length,pl.length⟩ pl:=by
 obtain⟨hs,h1,h2,h3⟩:=h
 refine⟨rfl,Nat.le_refl _,hm,(λh=>by cases h),λa ha k hk=>?_⟩
 cases ha
 obtain⟨c,h4,h5,h6⟩:=h3 k (by omega) hk
 refine⟨⟨some (blk c),pl[k].2.2.2.length,pl[k].2.2.2.length⟩,λj hj=>?_,Blk.isC ziV (by omega) h6 (hm' _ (List.getElem_mem hk))⟩
 rw[<-h5]
 have hg:=zjf zqp hs k (by omega) j hj
 have hlt:j<(inV (hs[k]'(by omega))).length:=hj
 rw[List.getElem?_eq_getElem hlt]at hg⊢
 exact h2.cell hg
theorem zkN{x:Mo}{pl:List PI}{w:World}{R:VWP}(hN:IsPl w x.2.2.1 pl)(hp:PlOk pl)
  (hR:∀b w',w.heap.size<=b->Cpy w' b pl->IsPl w' ⟨some (blk b),pl.length,pl.length⟩ pl->Below w.heap.size w w'->R (moA (x.1,x.2.1,⟨some (blk b),pl.length,pl.length⟩,())) w') :
  cR 11 #[moA x] w R:=by
 refine zb.of (zce x R w ?_) λ_ _ h=>h
 refine zq λw1 hB1 b1 z1=>?_
 have hB1:Blk w1 w.heap.size 25 (moV x):=hB1
 refine zq λw2 hC2 b2 z2=>?_
 have hC2:Blk w2 w1.heap.size 25 [.int .u32 0,.int .u32 0,.slice none 0 0]:=hC2
 have hB2:=hB1.below b2
 have hl:=hN.len
 have h40:=hp.len
 refine hB2.rS (n:=2) rfl ⟨⟨by omega,by omega,by omega,by omega⟩,?_⟩
 refine zq λw3 hD3 b3 z3=>?_
 have hb3:=(b1.on b2).on b3
 have hB3:=hB2.below b3
 have hC3:=hC2.below b3
 have hargs:∀p∈pl,p.2.2.2.length<=9223372036854775807:=λp h=>by have:=hp.args p h;omega
 refine zl.count pl.length hN.bound (λk w'=>Below w.heap.size w w'/\w3.heap.size<=w'.heap.size/\Blk w' w.heap.size 25 (moV x)/\Blk w' w1.heap.size 25 [.int .u32 0,.int .u32 0,.slice none 0 0]/\
   ∃(hs:List Ins) (r:List Value),hs.length=k/\Blk w' w2.heap.size 41 (flat inV hs++r)/\r.length=(pl.length-k)*4/\
    ∀(j:Nat) (h:j<hs.length) (h':j<pl.length),∃c,w2.heap.size<c/\hs[j]=mkIn pl[j] ⟨some (blk c),pl[j].2.2.2.length,pl[j].2.2.2.length⟩/\Blk w' c 61 (flat agV pl[j].2.2.2))
  ⟨hb3,Nat.le_refl _,hB3,hC3,[],_,rfl,by simpa[flat] using hD3,by rw[Array.length_toList,size_madeCells,hl];simp,λj h _=>by cases h⟩ ?_
 rintro k w4 hk ⟨hb,hz,hB,hC,hs,r,hhl,hD,hr,hrow⟩ next hnext
 refine hB.rS (n:=2) rfl (zi (λhlt=>?_) (λhge=>?_))
 ·have hlt:k<pl.length:=by dsimp only at hlt;omega
  refine hB.rS (n:=2) rfl (yA (hN.below hb) hlt λt ht=>?_)
  refine zmd (x:=mkIn pl[k] t) ht (hp.args _ (List.getElem_mem hlt)) λc w5 hc hA5 hI5 b5=>⟨mkIn pl[k] ⟨some (blk c),pl[k].2.2.2.length,pl[k].2.2.2.length⟩,rfl,?_⟩
  have hb5:=hb.on b5
  have hD5:=hD.below b5
  have hB5:=hB.below b5
  have hC5:=hC.below b5
  have s5:=b5.size
  refine⟨⟨by omega,by dsimp only;omega⟩,?_⟩
  have hfl:(flat inV hs).length=k*4:=by rw[zI zqp,hhl]
  obtain⟨r',hr',e⟩:=set4 (flat inV hs) (cs:=r) (m:=pl.length-(k+1)) (by rw[hr];congr 1;omega) (.int .u16 pl[k].1) (.int .u32 pl[k].2.1) (.int .u32 pl[k].2.2.1) (.slice (some (blk c)) pl[k].2.2.2.length pl[k].2.2.2.length)
  rw[hfl]at e
  have hcl:(flat inV hs++r).length=pl.length*4:=by rw[List.length_append,hfl,hr,<-Nat.add_mul];congr 1;omega
  dsimp only
  rw[show Int.toNat (k:Int)=k from rfl]
  simp only[zv]
  have hD1:=hD5.set (k*4) (.int .u16 pl[k].1)
  have hD2:=hD1.set (k*4+1) (.int .u32 pl[k].2.1)
  have hD3:=hD2.set (k*4+2) (.int .u32 pl[k].2.2.1)
  have hD4:=hD3.set (k*4+3) (.slice (some (blk c)) pl[k].2.2.2.length pl[k].2.2.2.length)
  have c1:=(((Chg.set w2.heap.size (k*4) w5 (.int .u16 pl[k].1)).trans (Chg.set w2.heap.size (k*4+1) _ (.int .u32 pl[k].2.1))).trans (Chg.set w2.heap.size (k*4+2) _ (.int .u32 pl[k].2.2.1))).trans
   (Chg.set w2.heap.size (k*4+3) _ (.slice (some (blk c)) pl[k].2.2.2.length pl[k].2.2.2.length))
  refine⟨hD5.wr (by omega),hD1.wr (by rw[List.length_set];omega),hD2.wr (by rw[List.length_set,List.length_set];omega),hD3.wr (by rw[List.length_set,List.length_set,List.length_set];omega),?_⟩
  refine hnext _ hlt ⟨c1.below hb5 (by omega),by rw[c1.size];omega,c1.blk hB5 (by omega),c1.blk hC5 (by omega),hs++[mkIn pl[k] ⟨some (blk c),pl[k].2.2.2.length,pl[k].2.2.2.length⟩],r',by simp[hhl],?_,hr',?_⟩
  ·rw[e]at hD4
   have e2:flat inV (hs++[mkIn pl[k] ⟨some (blk c),pl[k].2.2.2.length,pl[k].2.2.2.length⟩])=flat inV hs++inV (mkIn pl[k] ⟨some (blk c),pl[k].2.2.2.length,pl[k].2.2.2.length⟩):=by
    simp[flat]
   rw[e2]
   exact hD4
  ·intro j h h'
   by_cases hj:j<hs.length
   ·obtain⟨c',g1,g2,g3⟩:=hrow j hj h'
    refine⟨c',g1,?_,c1.blk (g3.below b5) (by omega)⟩
    rw[List.getElem_append_left hj]
    exact g2
   ·have hj':j=k:=by simp at h;omega
    subst hj'
    refine⟨c,by omega,?_,c1.blk hA5 (by omega)⟩
    rw[List.getElem_append_right (by omega)]
    simp[hhl]
 ·have hk':k=pl.length:=by dsimp only at hge;omega
  subst hk'
  simp only[Nat.sub_self,Nat.zero_mul]at hr
  have:r=[]:=List.eq_nil_of_length_eq_zero hr
  subst this
  rw[List.append_nil]at hD
  refine⟨hB.wr (n:=2) (by simp),?_⟩
  rw[hl]
  have c1:=Chg.set w.heap.size 2 w4 (.slice (some (blk w2.heap.size)) pl.length pl.length)
  have hB5:Blk _ w.heap.size 25 (moV (x.1,x.2.1,⟨some (blk w2.heap.size),pl.length,pl.length⟩,())):=hB.set 2 (.slice (some (blk w2.heap.size)) pl.length pl.length)
  have hb5:=c1.below hb (Nat.le_refl _)
  have hC5:=c1.blk hC (by omega)
  have hD5:=c1.blk hD (by omega)
  refine Nw.mk (Mo.load hB5 ?_)
  refine st3 hC5 rfl λw6 hC6 c6=>?_
  have hC6:Blk w6 w1.heap.size 25 (moV (x.1,x.2.1,⟨some (blk w2.heap.size),pl.length,pl.length⟩,())):=hC6
  have hcp:Cpy w6 w2.heap.size pl:=⟨hs,hhl,c6.blk hD5 (by omega),λj h h'=>by
   obtain⟨c',g1,g2,g3⟩:=hrow j h h'
   exact⟨c',g1,g2,c6.blk (c1.blk g3 (by omega)) (by omega)⟩⟩
  refine Mo.load hC6 ?_
  exact hR w2.heap.size w6 (by omega) hcp (hcp.isPl hN.bound hargs) (c6.below hb5 (by omega))
end Go.Proofs
namespace Go.Proofs
open Go.Gk Go.RowKit Go.Gm
abbrev idsA(l:List Ag):List Int:=(l.filter λa=>a.1==1).map (·.2.1)
def allI(p:PI):List Int:=p.2.1::p.2.2.1::idsA p.2.2.2
def allP(pl:List PI):List Int:=pl.flatMap allI
open Classical in
theorem zqI{p:PI}{bd:Int}(h:yN p bd=0)(hb:0<bd)(h0:0<=p.2.1/\0<=p.2.2.1/\∀x∈p.2.2.2,0<=x.2.1) :
  (∀n∈allI p,0<=n/\n<bd)/\∀x∈p.2.2.2,x.1=1->x.2.2.size=0:=by
 unfold yN at h
 cases hfr:frm p.1 with
 |none=>rw[zbP hfr]at h;cases h
 |some g=>
  rw[zbQ hfr]at h
  have hek:errK g p.2.1 p.2.2.1 p.2.2.2 bd p.2.2.2.length=0:=by
   refine Classical.byContradiction λhne=>?_
   unfold YY at h
   rw[if_pos hne]at h
   exact hne h
  obtain⟨e1,e2,e3⟩:=zeW hek
  have hw:=zeU e3
  have idlt:∀{must:Bool} {n e:Int},idP must n bd e=0->e≠0->n<bd:=by
   intro must n e hi he
   unfold idP at hi
   split at hi
   ·rename_i hm
    split at hi
    ·cases hi
    ·rename_i hno
     cases must with
     |true=>exact Int.not_le.1 λhle=>hno ⟨rfl,hle⟩
     |false=>
      have:n=0:=by
       refine Classical.byContradiction λhn=>?_
       rw[bne_iff_ne.2 hn]at hm
       cases hm
      omega
   ·exact absurd hi he
  have hx:∀x∈p.2.2.2,x.1=1->(x.2.1<bd)/\x.2.2.size=0:=by
   intro x hx h1
   obtain⟨j,hj,rfl⟩:=List.mem_iff_getElem.1 hx
   have:=hw j hj
   unfold werr at this
   rw[zG hj]at this
   unfold zbj at this
   split at this
   ·cases this
   ·split at this
    ·cases this
    ·rename_i n1
     split at this
     ·cases this
     ·rename_i n2
      refine⟨Int.not_le.1 λhle=>n2 ⟨h1,.inr hle⟩,?_⟩
      refine Classical.byContradiction λhne=>n1 (.inr ⟨by rw[h1];decide,hne⟩)
  refine⟨λn hn=>?_,λx hx' h1=>(hx x hx' h1).2⟩
  unfold allI at hn
  rcases List.mem_cons.1 hn with rfl |hn
  ·exact⟨h0.1,idlt e1 (by decide)⟩
  ·rcases List.mem_cons.1 hn with rfl |hn
   ·exact⟨h0.2.1,idlt e2 (by decide)⟩
   ·obtain⟨x,hx',rfl⟩:=List.mem_map.1 hn
    obtain⟨hx1,hx2⟩:=List.mem_filter.1 hx'
    exact⟨h0.2.2 x hx1,(hx x hx1 (by simpa using hx2)).1⟩
end Go.Proofs
namespace Go.Proofs
open Go.Gk Go.RowKit Go.Gm
theorem _root_.Go.Gk.Blk.rM0{w:World}{b:Nat}{T:TypeId}{cs:List Value}(h:Blk w b T cs){x:Option Nat}(hn:cs[0]? =some (.map x)){φ:Option Nat->Prop}(hφ:φ x):ldM w (blk b) φ:=⟨x,h.cell0 hn,hφ⟩
theorem uU32:Tryz.prog.underlying 22=some (.int .u32):=by kernel_rfl
end Go.Proofs
namespace Go.Proofs
open Go.Gk Go.RowKit Go.Gm
def KeyN(L:List (Int×Int)):Prop:=(L.map (·.1)).Nodup
theorem zot(k v:Int):∀L:List (Int×Int),(setL L k v).map (·.1)=L.map (·.1)\/((setL L k v).map (·.1)=L.map (·.1)++[k]/\k ∉ L.map (·.1))
 | []=>.inr ⟨rfl,by simp⟩
 |p::r=>by
  simp only[setL]
  split
  ·rename_i e
   left
   simp[e]
  ·rename_i e
   rcases zot k v r with h | ⟨h1,h2⟩
   ·left
    simp[h]
   ·right
    refine⟨by simp[h1],?_⟩
    rw[List.map_cons,List.mem_cons,not_or]
    exact⟨e,h2⟩
theorem KeyN.set{L:List (Int×Int)}(h:KeyN L)(k v:Int):KeyN (setL L k v):=by
 unfold KeyN at h⊢
 rcases zot k v L with e | ⟨e,hk⟩
 ·rw[e];exact h
 ·rw[e]
  refine List.nodup_append.2 ⟨h,by simp,?_⟩
  intro a ha b hb e'
  rw[List.mem_singleton]at hb
  rw[e',hb]at ha
  exact hk ha
def mk1(pl:List PI)(id:Int)(k:Nat):Bool:=(pl.getD k pi0).2.2.1==id&&id !=0
def zL(pl:List PI)(id:Int)(n:Nat):Int:=match (List.range n).find? (mk1 pl id) with
 |some k=>(k:Int)
 |none=>-1
def MkOk(L:List (Int×Int))(pl:List PI)(k:Nat):Prop:=∀id,(zC L id=none->∀j,k<=j->j<pl.length->mk1 pl id j=false)/\
 ∀v,zC L id=some v->∃j:Nat,v=(j:Int)/\k<=j/\j<pl.length/\mk1 pl id j=true/\∀i,k<=i->i<j->mk1 pl id i=false
theorem MkOk.end(pl:List PI):MkOk [] pl pl.length:=λ_=>⟨λ_ j h1 h2=>by omega,λv h=>by cases h⟩
theorem MkOk.step{L:List (Int×Int)}{pl:List PI}{k:Nat}(h:MkOk L pl (k+1))(hk:k<pl.length):MkOk (if pl[k].2.2.1≠0 then setL L pl[k].2.2.1 k else L) pl k:=by
 have hm:∀id,mk1 pl id k=(pl[k].2.2.1==id&&id !=0):=λid=>by unfold mk1;rw[zG hk]
 intro id
 obtain⟨h1,h2⟩:=h id
 by_cases e0:pl[k].2.2.1=0
 ·rw[if_neg (λh=>h e0)]
  have hf:mk1 pl id k=false:=by
   rw[hm,e0]
   by_cases e:id=0
   ·rw[e];rfl
   ·rw[beq_eq_false_iff_ne.2 (λh=>e h.symm),Bool.false_and]
  refine⟨λhn j g1 g2=>?_,λv hv=>?_⟩
  ·by_cases e:j=k
   ·subst e;exact hf
   ·exact h1 hn j (by omega) g2
  ·obtain⟨j,q1,q2,q3,q4,q5⟩:=h2 v hv
   refine⟨j,q1,by omega,q3,q4,λi g1 g2=>?_⟩
   by_cases e:i=k
   ·subst e;exact hf
   ·exact q5 i (by omega) g2
 ·rw[if_pos e0,zfo]
  by_cases e:id=pl[k].2.2.1
  ·rw[if_pos e]
   refine⟨λhn=>by(cases hn),λv hv=>⟨k,(Option.some.inj hv).symm,Nat.le_refl _,hk,?_,λi g1 g2=>by omega⟩⟩
   rw[hm,e]
   simp[e0]
  ·rw[if_neg e]
   have hf:mk1 pl id k=false:=by rw[hm,beq_eq_false_iff_ne.2 (λh=>e h.symm),Bool.false_and]
   refine⟨λhn j g1 g2=>?_,λv hv=>?_⟩
   ·by_cases e:j=k
    ·subst e;exact hf
    ·exact h1 hn j (by omega) g2
   ·obtain⟨j,q1,q2,q3,q4,q5⟩:=h2 v hv
    refine⟨j,q1,by omega,q3,q4,λi g1 g2=>?_⟩
    by_cases e:i=k
    ·subst e;exact hf
    ·exact q5 i (by omega) g2
theorem zsx:Tryz.prog.underlying 99=some (.map 22 3):=by kernel_rfl
theorem zld{y:Value}{s:Sl}{pl:List PI}{pb:Nat}{w:World}(Inv:Nat->World->Prop)(S:World->Prop)(h0:Inv pl.length w)
  (hkeep:∀k w',Inv k w'->w'.cell? (blk pb)=some (.slice s.a s.l s.c)/\IsPl w' s pl)
  (hround:∀k (hk:k<pl.length) t w',Inv (k+1) w'->zV Tryz.prog Tryz.fs y [.int .i64 (k:Int),inA (mkIn pl[k] t)] w' λv w''=>(v =.bool true/\Inv k w'')\/(v =.bool false/\S w''))
  (hend:∀w',Inv 0 w'->S w'):Calls Tryz.prog 171 #[y,.pointer (some (blk pb))] w (Ret λ_ w'=>S w'):=by
 refine yV y (blk pb) _ w ⟨s,(hkeep _ _ h0).1,?_⟩
 have hlen:=(hkeep _ _ h0).2.len
 have hmax:=(hkeep _ _ h0).2.bound
 dsimp only
 rw[hlen,zt (by omega) (by omega)]
 refine zl.ghost (λj st w'=>j<=pl.length/\st=((j:Int)-1,())/\Inv j w') pl.length ⟨Nat.le_refl _,rfl,h0⟩ ?_
 rintro k _ w1 ⟨hk,rfl,hI⟩ next hnext
 refine zi (λh=>?_) (λh=>?_)
 ·obtain⟨j,rfl⟩:∃j,k=j+1:=⟨k-1,by dsimp only at h;omega⟩
  have hlt:j<pl.length:=by omega
  obtain⟨c1,c2⟩:=hkeep _ _ hI
  have ej:(((j+1:Nat):Int)-1)=(j:Int):=by omega
  dsimp only
  rw[ej]
  refine⟨s,c1,yA c2 hlt λt _=>?_⟩
  refine zV.mono (hround j hlt t w1 hI) λv w2 hv=>?_
  rcases hv with⟨rfl,hv⟩ | ⟨rfl,hv⟩
  ·refine⟨true,rfl,zB rfl ?_⟩
   rw[zt (by omega) (by omega)]
   exact hnext j _ _ (by omega) ⟨by omega,rfl,hv⟩
  ·exact⟨false,rfl,zF rfl hv⟩
 ·have hk0:k=0:=by dsimp only at h;omega
  subst hk0
  exact hend w1 hI
theorem zo3{s:Sl}{pl:List PI}{w:World}{R:VWP}(hN:IsPl w s pl)
  (hR:∀w' L,IsMp w' w.heap.size .i64 L->MkOk L pl 0->KeyN L->Below w.heap.size w w'->R (.map (some w.heap.size)) w'):cR 101 #[.slice s.a s.l s.c] w R:=by
 refine zb.of (zjY s R w ?_) λ_ _ h=>h
 refine Nw.gen λw1 e1=>?_
 have m1:IsMp w1 w.heap.size .i64 []:=by rw[e1];exact IsMp.new _ _
 have b1:Below w.heap.size w w1:=by rw[e1];exact(Below.refl _ _).alloc (Nat.le_refl _) _
 have z1:w1.heap.size=w.heap.size+1:=by rw[e1];simp
 clear e1
 refine Nw.gen λw2 e2=>?_
 have hB2:Blk w2 w1.heap.size 99 [.map none]:=by rw[e2];exact Blk.new _ _ _
 have b2:Below w1.heap.size w1 w2:=by rw[e2];exact(Below.refl _ _).alloc (Nat.le_refl _) _
 have z2:w2.heap.size=w.heap.size+2:=by rw[e2];simp[z1]
 clear e2
 refine⟨hB2.wr0 (by simp),Nw.gen λw3 e3=>?_⟩
 have c3:Chg w1.heap.size w2 w3:=by rw[e3];exact Chg.set w1.heap.size 0 w2 _
 have hB3:Blk w3 w1.heap.size 99 [.map (some w.heap.size)]:=by rw[e3];exact hB2.set0 _
 clear e3
 have m3:=(m1.below b2).of_block (c3.block _ (by omega))
 have hb3:Below w.heap.size w w3:=c3.below (b1.on b2) (by omega)
 have z3:=c3.size
 refine zb.of (Zi s _ w3 ?_) λ_ _ h=>h
 refine zq λw4 hC4 b4 z4=>⟨_,rfl,?_⟩
 have hC4:Blk w4 w3.heap.size 23 [.slice s.a s.l s.c]:=hC4
 intro mk hy
 have hcf:Tryz.fs.contains 171=true:=by kernel_rfl
 unfold znW
 simp only[hcf]
 generalize hw5:((w4.alloc (.deferred (some []))).alloc (mk .ready none))=w5
 have b5:Below w4.heap.size w4 w5:=by rw[<-hw5];exact zd5 w4 _ _
 have hd5:w5.heap[w4.heap.size]? =some (.deferred (some [])):=by rw[<-hw5];exact znv w4 _ _
 have hl5:w5.heap[w4.heap.size+1]? =some (mk .ready none):=by rw[<-hw5];exact znw w4 _ _
 clear hw5
 have b35:=b4.on b5
 refine zld (y:=.func (.yield (w4.heap.size+1)) #[] #[]) (s:=s) (pl:=pl)
  (λk w'=>w'.heap[w4.heap.size+1]? =some (mk .ready none)/\w'.heap[w4.heap.size]? =some (.deferred (some []))/\Blk w' w1.heap.size 99 [.map (some w.heap.size)]/\Blk w' w3.heap.size 23 [.slice s.a s.l s.c]/\Below w.heap.size w w'/\
   ∃L,IsMp w' w.heap.size .i64 L/\MkOk L pl k/\KeyN L) _
  ⟨hl5,hd5,hB3.below b35,hC4.below b5,hb3.on b35,[],m3.below b35,MkOk.end pl,by simp[KeyN]⟩ ?_ ?_ ?_
 ·rintro k w' ⟨h1,h2,h3,h4,h5,_⟩
  exact⟨h4.cell0 rfl,hN.below h5⟩
 ·rintro k hk t w' ⟨h1,h2,h3,h4,h5,L,h6,h7,h8⟩
  have hlt':w4.heap.size+1<w'.heap.size:=(Array.getElem?_eq_some_iff.1 h1).1
  refine hy ((k:Int),mkIn pl[k] t,()) w' _ h1 ?_
  refine box4 rfl λw6 hI6 b6 z6=>?_
  have hI6:Blk w6 w'.heap.size 41 (inV (mkIn pl[k] t)):=hI6
  have hl6:w6.heap[w4.heap.size+1]? =some (mk .ready none):=(b6.block _ hlt').trans h1
  refine⟨hl6,Nw.gen λw7 e7=>?_⟩
  have s6:=b6.size
  have hlt6:w4.heap.size+1<w6.heap.size:=by omega
  have ho7:∀b,b≠w4.heap.size+1->w7.heap[b]? =w6.heap[b]?:=λb hb=>by rw[e7];exact World.putObj_heap_other hb
  have z7:w7.heap.size=w6.heap.size:=by rw[e7];simp
  have hl7:w7.heap[w4.heap.size+1]? =some (mk .busy none):=by rw[e7];exact zgZ hlt6 _
  have hb7:Below w.heap.size w w7:=by rw[e7];exact(h5.on b6).putObj (by omega) _
  clear e7
  have d7:w7.heap[w4.heap.size]? =some (.deferred (some [])):=by rw[ho7 _ (by omega),b6.block _ (by omega)];exact h2
  have k3:=(h3.below b6).of_block (ho7 _ (by have:=b4.size;omega))
  have k4:=(h4.below b6).of_block (ho7 _ (by omega))
  have k6:=(h6.below b6).of_block (ho7 _ (by omega))
  have kI:=hI6.of_block (ho7 _ (by omega))
  have hst:=h7.step hk
  have hput:∀{w8:World},w8.heap[w4.heap.size+1]? =some (mk .busy none)->w4.heap.size+1<w8.heap.size:=λh=>(Array.getElem?_eq_some_iff.1 h).1
  refine kI.rI (n:=2) rfl (zr (λe=>?_) (λe=>?_))
  ·have e':pl[k].2.2.1≠0:=e
   rw[if_pos e']at hst
   refine k3.rM0 rfl (kI.rI (n:=2) rfl ?_)
   refine zq1 zsx uU32 k6 λw8 m8 c8=>?_
   have hl8:w8.heap[w4.heap.size+1]? =some (mk .busy none):=by rw[c8.block _ (by omega)];exact hl7
   refine⟨hl8,.inl ⟨rfl,zgZ (hput hl8) _,?_,?_,?_,?_,_,?_,hst,h8.set _ _⟩⟩
   ·rw[World.putObj_heap_other (by omega),c8.block _ (by omega)];exact d7
   ·exact(c8.blk k3 (by omega)).put (by omega) _
   ·exact(c8.blk k4 (by omega)).put (by omega) _
   ·exact(c8.below hb7 (Nat.le_refl _)).putObj (by omega) _
   ·exact m8.of_block (World.putObj_heap_other (by omega))
  ·have e':¬pl[k].2.2.1≠0:=λh=>h e
   rw[if_neg e']at hst
   refine⟨hl7,.inl ⟨rfl,zgZ (by omega) _,?_,?_,?_,?_,L,?_,hst,h8⟩⟩
   ·rw[World.putObj_heap_other (by omega)];exact d7
   ·exact k3.put (by omega) _
   ·exact k4.put (by omega) _
   ·exact hb7.putObj (by omega) _
   ·exact k6.of_block (World.putObj_heap_other (by omega))
 ·rintro w' ⟨h1,h2,h3,h4,h5,L,h6,h7,h8⟩
  refine⟨h1,?_⟩
  have k3:=h3.put (l:=w4.heap.size+1) (by omega) (mk .exhausted none)
  refine k3.rM0 rfl (zdy (by rw[World.putObj_heap_other (by omega)];exact h2) ?_)
  refine hR _ L ?_ h7 h8 ?_
  ·exact(h6.of_block (World.putObj_heap_other (by omega))).of_block (World.putObj_heap_other (by omega))
  ·exact(h5.putObj (by omega) _).putObj (by omega) _
end Go.Proofs
namespace Go.Proofs
open Go.Gk Go.RowKit Go.Gm
section
variable {x:Mo} {pl:List PI} {w:World} {R:VWP}
theorem zoP{s:Sl}{id n:Int}(hN:IsPl w s pl)(hn:n=(pl.length:Int))(hR:R (.int .i64 (zL pl id pl.length)) w):cR 142 #[.slice s.a s.l s.c,.int .u32 id,.int .i64 n] w R:=by
 subst hn
 refine zb.of (ZR s id pl.length R w ?_) λ_ _ h=>h
 have hlen:=hN.len
 refine zl.count pl.length hN.bound (λk w'=>w'=w/\∀j,j<k->mk1 pl id j=false) ⟨rfl,λj hj=>by omega⟩ ?_
 rintro k w1 hk ⟨hw,hj⟩ next hnext
 subst hw
 refine zi (λh=>?_) (λh=>?_)
 ·have hlt:k<pl.length:=by dsimp only at h;omega
  have hm:mk1 pl id k=(pl[k].2.2.1==id&&id !=0):=by unfold mk1;rw[zG hlt]
  refine zk.cut (λ_ w'=>w'=w1/\mk1 pl id k=false) ?_ ?_
  ·refine zpz hN hlt (zj (λe1=>?_) (λe1=>⟨rfl,by rw[hm,beq_eq_false_iff_ne.2 e1,Bool.false_and]⟩))
   refine zr (λe2=>?_) (λe2=>⟨rfl,by rw[hm,e2];simp⟩)
   have:zL pl id pl.length=(k:Int):=by
    unfold zL
    rw[Yr hlt (by rw[hm,beq_iff_eq.2 e1,bne_iff_ne.2 e2];rfl) hj]
   rwa[this]at hR
  ·rintro _ w2 ⟨hw,hno⟩
   refine hnext w2 hlt ⟨hw,λj hj'=>?_⟩
   by_cases e:j=k
   ·subst e;exact hno
   ·exact hj j (by omega)
 ·have hk':k=pl.length:=by dsimp only at h;omega
  have:zL pl id pl.length=-1:=by
   unfold zL
   have:(List.range pl.length).find? (mk1 pl id)=none:=by
    rw[List.find?_eq_none]
    intro j hj'
    rw[hj j (by rw[hk'];exact List.mem_range.1 hj')]
    simp
   rw[this]
  rwa[this]at hR
end
end Go.Proofs
namespace Go.Proofs
open Go.Gk Go.RowKit Go.Gm
abbrev T20:=Int×Int×Int×Int×Int×Int×Int×Int×Int×Int×Int×Int×Int×Int×Int×Int×Int×Int×Int×Int×Unit
abbrev l20(x:T20):List Int:=[x.1,x.2.1,x.2.2.1,x.2.2.2.1,x.2.2.2.2.1,x.2.2.2.2.2.1,x.2.2.2.2.2.2.1,x.2.2.2.2.2.2.2.1,x.2.2.2.2.2.2.2.2.1,x.2.2.2.2.2.2.2.2.2.1,x.2.2.2.2.2.2.2.2.2.2.1,x.2.2.2.2.2.2.2.2.2.2.2.1,x.2.2.2.2.2.2.2.2.2.2.2.2.1,x.2.2.2.2.2.2.2.2.2.2.2.2.2.1,x.2.2.2.2.2.2.2.2.2.2.2.2.2.2.1,x.2.2.2.2.2.2.2.2.2.2.2.2.2.2.2.1,x.2.2.2.2.2.2.2.2.2.2.2.2.2.2.2.2.1,x.2.2.2.2.2.2.2.2.2.2.2.2.2.2.2.2.2.1,x.2.2.2.2.2.2.2.2.2.2.2.2.2.2.2.2.2.2.1,x.2.2.2.2.2.2.2.2.2.2.2.2.2.2.2.2.2.2.2.1]
abbrev sp20(x:T20):List Value:=[.int .i64 x.1,.int .i64 x.2.1,.int .i64 x.2.2.1,.int .i64 x.2.2.2.1,.int .i64 x.2.2.2.2.1,.int .i64 x.2.2.2.2.2.1,.int .i64 x.2.2.2.2.2.2.1,.int .i64 x.2.2.2.2.2.2.2.1,.int .i64 x.2.2.2.2.2.2.2.2.1,.int .i64 x.2.2.2.2.2.2.2.2.2.1,.int .i64 x.2.2.2.2.2.2.2.2.2.2.1,.int .i64 x.2.2.2.2.2.2.2.2.2.2.2.1,.int .i64 x.2.2.2.2.2.2.2.2.2.2.2.2.1,.int .i64 x.2.2.2.2.2.2.2.2.2.2.2.2.2.1,.int .i64 x.2.2.2.2.2.2.2.2.2.2.2.2.2.2.1,.int .i64 x.2.2.2.2.2.2.2.2.2.2.2.2.2.2.2.1,.int .i64 x.2.2.2.2.2.2.2.2.2.2.2.2.2.2.2.2.1,.int .i64 x.2.2.2.2.2.2.2.2.2.2.2.2.2.2.2.2.2.1,.int .i64 x.2.2.2.2.2.2.2.2.2.2.2.2.2.2.2.2.2.2.1,.int .i64 x.2.2.2.2.2.2.2.2.2.2.2.2.2.2.2.2.2.2.2.1]
abbrev ag20(x:T20):Value:=.agg #[.int .i64 x.1,.int .i64 x.2.1,.int .i64 x.2.2.1,.int .i64 x.2.2.2.1,.int .i64 x.2.2.2.2.1,.int .i64 x.2.2.2.2.2.1,.int .i64 x.2.2.2.2.2.2.1,.int .i64 x.2.2.2.2.2.2.2.1,.int .i64 x.2.2.2.2.2.2.2.2.1,.int .i64 x.2.2.2.2.2.2.2.2.2.1,.int .i64 x.2.2.2.2.2.2.2.2.2.2.1,.int .i64 x.2.2.2.2.2.2.2.2.2.2.2.1,.int .i64 x.2.2.2.2.2.2.2.2.2.2.2.2.1,.int .i64 x.2.2.2.2.2.2.2.2.2.2.2.2.2.1,.int .i64 x.2.2.2.2.2.2.2.2.2.2.2.2.2.2.1,.int .i64 x.2.2.2.2.2.2.2.2.2.2.2.2.2.2.2.1,.int .i64 x.2.2.2.2.2.2.2.2.2.2.2.2.2.2.2.2.1,.int .i64 x.2.2.2.2.2.2.2.2.2.2.2.2.2.2.2.2.2.1,.int .i64 x.2.2.2.2.2.2.2.2.2.2.2.2.2.2.2.2.2.2.1,.int .i64 x.2.2.2.2.2.2.2.2.2.2.2.2.2.2.2.2.2.2.2.1]
theorem ztk{ps:List Int}(h:ps.length=20):∃x:T20,ps=l20 x:=by
 match ps,h with
 | [a0,a1,a2,a3,a4,a5,a6,a7,a8,a9,a10,a11,a12,a13,a14,a15,a16,a17,a18,a19],_=>exact⟨(a0,a1,a2,a3,a4,a5,a6,a7,a8,a9,a10,a11,a12,a13,a14,a15,a16,a17,a18,a19,()),rfl⟩
theorem _root_.Go.Gk.Blk.rI2{w:World}{b:Nat}{T:TypeId}{cs:List Value}(h:Blk w b T cs){m n:Nat}{κ:IntKind}{x:Int}(hn:cs[m+n]? =some (.int κ x)){φ:Int->Prop}(hφ:φ x):ldI w (((Gk.blk b).add m).add n) κ φ:=by
 rw[zv];exact h.rI hn hφ
theorem ld20{w:World}{b:Nat}{T:TypeId}{x:T20}(h:Blk w b T (sp20 x)){φ:Int->Int->Int->Int->Int->Int->Int->Int->Int->Int->Int->Int->Int->Int->Int->Int->Int->Int->Int->Int->Prop}(hφ:φ x.1 x.2.1 x.2.2.1 x.2.2.2.1 x.2.2.2.2.1 x.2.2.2.2.2.1 x.2.2.2.2.2.2.1 x.2.2.2.2.2.2.2.1 x.2.2.2.2.2.2.2.2.1 x.2.2.2.2.2.2.2.2.2.1 x.2.2.2.2.2.2.2.2.2.2.1 x.2.2.2.2.2.2.2.2.2.2.2.1 x.2.2.2.2.2.2.2.2.2.2.2.2.1 x.2.2.2.2.2.2.2.2.2.2.2.2.2.1 x.2.2.2.2.2.2.2.2.2.2.2.2.2.2.1 x.2.2.2.2.2.2.2.2.2.2.2.2.2.2.2.1 x.2.2.2.2.2.2.2.2.2.2.2.2.2.2.2.2.1 x.2.2.2.2.2.2.2.2.2.2.2.2.2.2.2.2.2.1 x.2.2.2.2.2.2.2.2.2.2.2.2.2.2.2.2.2.2.1 x.2.2.2.2.2.2.2.2.2.2.2.2.2.2.2.2.2.2.2.1) :
   ldI w ((blk b).add 0) .i64 λx0=>
   ldI w ((blk b).add 1) .i64 λx1=>
   ldI w ((blk b).add 2) .i64 λx2=>
   ldI w ((blk b).add 3) .i64 λx3=>
   ldI w ((blk b).add 4) .i64 λx4=>
   ldI w ((blk b).add 5) .i64 λx5=>
   ldI w ((blk b).add 6) .i64 λx6=>
   ldI w ((blk b).add 7) .i64 λx7=>
   ldI w ((blk b).add 8) .i64 λx8=>
   ldI w ((blk b).add 9) .i64 λx9=>
   ldI w ((blk b).add 10) .i64 λx10=>
   ldI w ((blk b).add 11) .i64 λx11=>
   ldI w ((blk b).add 12) .i64 λx12=>
   ldI w ((blk b).add 13) .i64 λx13=>
   ldI w ((blk b).add 14) .i64 λx14=>
   ldI w ((blk b).add 15) .i64 λx15=>
   ldI w ((blk b).add 16) .i64 λx16=>
   ldI w ((blk b).add 17) .i64 λx17=>
   ldI w ((blk b).add 18) .i64 λx18=>
   ldI w ((blk b).add 19) .i64 λx19=>
   φ x0 x1 x2 x3 x4 x5 x6 x7 x8 x9 x10 x11 x12 x13 x14 x15 x16 x17 x18 x19:=
 h.rI (n:=0) rfl (h.rI (n:=1) rfl (h.rI (n:=2) rfl (h.rI (n:=3) rfl (h.rI (n:=4) rfl (h.rI (n:=5) rfl (h.rI (n:=6) rfl (h.rI (n:=7) rfl (h.rI (n:=8) rfl (h.rI (n:=9) rfl (h.rI (n:=10) rfl (h.rI (n:=11) rfl (h.rI (n:=12) rfl (h.rI (n:=13) rfl (h.rI (n:=14) rfl (h.rI (n:=15) rfl (h.rI (n:=16) rfl (h.rI (n:=17) rfl (h.rI (n:=18) rfl (h.rI (n:=19) rfl (hφ))))))))))))))))))))
theorem ztv{w:World}{b:Nat}{T:TypeId}{v0 v1:Value}{r:List Value}{x:T20}(h:Blk w b T (v0::v1::(sp20 x++r))){φ:Int->Int->Int->Int->Int->Int->Int->Int->Int->Int->Int->Int->Int->Int->Int->Int->Int->Int->Int->Int->Prop}(hφ:φ x.1 x.2.1 x.2.2.1 x.2.2.2.1 x.2.2.2.2.1 x.2.2.2.2.2.1 x.2.2.2.2.2.2.1 x.2.2.2.2.2.2.2.1 x.2.2.2.2.2.2.2.2.1 x.2.2.2.2.2.2.2.2.2.1 x.2.2.2.2.2.2.2.2.2.2.1 x.2.2.2.2.2.2.2.2.2.2.2.1 x.2.2.2.2.2.2.2.2.2.2.2.2.1 x.2.2.2.2.2.2.2.2.2.2.2.2.2.1 x.2.2.2.2.2.2.2.2.2.2.2.2.2.2.1 x.2.2.2.2.2.2.2.2.2.2.2.2.2.2.2.1 x.2.2.2.2.2.2.2.2.2.2.2.2.2.2.2.2.1 x.2.2.2.2.2.2.2.2.2.2.2.2.2.2.2.2.2.1 x.2.2.2.2.2.2.2.2.2.2.2.2.2.2.2.2.2.2.1 x.2.2.2.2.2.2.2.2.2.2.2.2.2.2.2.2.2.2.2.1) :
   ldI w (((blk b).add 2).add 0) .i64 λx0=>
   ldI w (((blk b).add 2).add 1) .i64 λx1=>
   ldI w (((blk b).add 2).add 2) .i64 λx2=>
   ldI w (((blk b).add 2).add 3) .i64 λx3=>
   ldI w (((blk b).add 2).add 4) .i64 λx4=>
   ldI w (((blk b).add 2).add 5) .i64 λx5=>
   ldI w (((blk b).add 2).add 6) .i64 λx6=>
   ldI w (((blk b).add 2).add 7) .i64 λx7=>
   ldI w (((blk b).add 2).add 8) .i64 λx8=>
   ldI w (((blk b).add 2).add 9) .i64 λx9=>
   ldI w (((blk b).add 2).add 10) .i64 λx10=>
   ldI w (((blk b).add 2).add 11) .i64 λx11=>
   ldI w (((blk b).add 2).add 12) .i64 λx12=>
   ldI w (((blk b).add 2).add 13) .i64 λx13=>
   ldI w (((blk b).add 2).add 14) .i64 λx14=>
   ldI w (((blk b).add 2).add 15) .i64 λx15=>
   ldI w (((blk b).add 2).add 16) .i64 λx16=>
   ldI w (((blk b).add 2).add 17) .i64 λx17=>
   ldI w (((blk b).add 2).add 18) .i64 λx18=>
   ldI w (((blk b).add 2).add 19) .i64 λx19=>
   φ x0 x1 x2 x3 x4 x5 x6 x7 x8 x9 x10 x11 x12 x13 x14 x15 x16 x17 x18 x19:=
 h.rI2 (m:=2) (n:=0) rfl (h.rI2 (m:=2) (n:=1) rfl (h.rI2 (m:=2) (n:=2) rfl (h.rI2 (m:=2) (n:=3) rfl (h.rI2 (m:=2) (n:=4) rfl (h.rI2 (m:=2) (n:=5) rfl (h.rI2 (m:=2) (n:=6) rfl (h.rI2 (m:=2) (n:=7) rfl (h.rI2 (m:=2) (n:=8) rfl (h.rI2 (m:=2) (n:=9) rfl (h.rI2 (m:=2) (n:=10) rfl (h.rI2 (m:=2) (n:=11) rfl (h.rI2 (m:=2) (n:=12) rfl (h.rI2 (m:=2) (n:=13) rfl (h.rI2 (m:=2) (n:=14) rfl (h.rI2 (m:=2) (n:=15) rfl (h.rI2 (m:=2) (n:=16) rfl (h.rI2 (m:=2) (n:=17) rfl (h.rI2 (m:=2) (n:=18) rfl (h.rI2 (m:=2) (n:=19) rfl (hφ))))))))))))))))))))
theorem st20{b:Nat}{T:TypeId}{cs:List Value}{x:T20}{K:World->Prop}{w:World}(hB:Blk w b T cs)(hl:cs.length=20)(hK:∀w',Blk w' b T (sp20 x)->Chg b w w'->K w') :
   Wr w (blk b)/\Nw (w.setCell (blk b) (.int .i64 x.1)) λu0=>
   Wr u0 ((blk b).add 1)/\Nw (u0.setCell ((blk b).add 1) (.int .i64 x.2.1)) λu1=>
   Wr u1 ((blk b).add 2)/\Nw (u1.setCell ((blk b).add 2) (.int .i64 x.2.2.1)) λu2=>
   Wr u2 ((blk b).add 3)/\Nw (u2.setCell ((blk b).add 3) (.int .i64 x.2.2.2.1)) λu3=>
   Wr u3 ((blk b).add 4)/\Nw (u3.setCell ((blk b).add 4) (.int .i64 x.2.2.2.2.1)) λu4=>
   Wr u4 ((blk b).add 5)/\Nw (u4.setCell ((blk b).add 5) (.int .i64 x.2.2.2.2.2.1)) λu5=>
   Wr u5 ((blk b).add 6)/\Nw (u5.setCell ((blk b).add 6) (.int .i64 x.2.2.2.2.2.2.1)) λu6=>
   Wr u6 ((blk b).add 7)/\Nw (u6.setCell ((blk b).add 7) (.int .i64 x.2.2.2.2.2.2.2.1)) λu7=>
   Wr u7 ((blk b).add 8)/\Nw (u7.setCell ((blk b).add 8) (.int .i64 x.2.2.2.2.2.2.2.2.1)) λu8=>
   Wr u8 ((blk b).add 9)/\Nw (u8.setCell ((blk b).add 9) (.int .i64 x.2.2.2.2.2.2.2.2.2.1)) λu9=>
   Wr u9 ((blk b).add 10)/\Nw (u9.setCell ((blk b).add 10) (.int .i64 x.2.2.2.2.2.2.2.2.2.2.1)) λu10=>
   Wr u10 ((blk b).add 11)/\Nw (u10.setCell ((blk b).add 11) (.int .i64 x.2.2.2.2.2.2.2.2.2.2.2.1)) λu11=>
   Wr u11 ((blk b).add 12)/\Nw (u11.setCell ((blk b).add 12) (.int .i64 x.2.2.2.2.2.2.2.2.2.2.2.2.1)) λu12=>
   Wr u12 ((blk b).add 13)/\Nw (u12.setCell ((blk b).add 13) (.int .i64 x.2.2.2.2.2.2.2.2.2.2.2.2.2.1)) λu13=>
   Wr u13 ((blk b).add 14)/\Nw (u13.setCell ((blk b).add 14) (.int .i64 x.2.2.2.2.2.2.2.2.2.2.2.2.2.2.1)) λu14=>
   Wr u14 ((blk b).add 15)/\Nw (u14.setCell ((blk b).add 15) (.int .i64 x.2.2.2.2.2.2.2.2.2.2.2.2.2.2.2.1)) λu15=>
   Wr u15 ((blk b).add 16)/\Nw (u15.setCell ((blk b).add 16) (.int .i64 x.2.2.2.2.2.2.2.2.2.2.2.2.2.2.2.2.1)) λu16=>
   Wr u16 ((blk b).add 17)/\Nw (u16.setCell ((blk b).add 17) (.int .i64 x.2.2.2.2.2.2.2.2.2.2.2.2.2.2.2.2.2.1)) λu17=>
   Wr u17 ((blk b).add 18)/\Nw (u17.setCell ((blk b).add 18) (.int .i64 x.2.2.2.2.2.2.2.2.2.2.2.2.2.2.2.2.2.2.1)) λu18=>
   Wr u18 ((blk b).add 19)/\Nw (u18.setCell ((blk b).add 19) (.int .i64 x.2.2.2.2.2.2.2.2.2.2.2.2.2.2.2.2.2.2.2.1)) λu19=>
   K u19:=
 Yl (vs:=sp20 x) hB hl hK
end Go.Proofs
namespace Go.Proofs
open Go.Gk Go.RowKit Go.Gm
theorem Fns.chg{w w':World}{fs:Sl}{L:List Fe}{b:Nat}{T:TypeId}{cs:List Value}(h:Fns w fs L)(c:Chg b w w')(hB:Blk w b T cs)(h1:29≠T)(h2:3≠T)(h3:69≠T):Fns w' fs L:=by
 have f:Fr w.heap.size (λk=>k=b) w w':=c.fr
 exact⟨f.own h.own λb e e2=>by subst e2;exact zN h.own hB h1 e,λx hx=>
  ⟨f.own (h.row x hx).1 λb e e2=>by subst e2;exact zN (h.row x hx).1 hB h2 e,f.own (h.row x hx).2 λb e e2=>by subst e2;exact zN (h.row x hx).2 hB h3 e⟩⟩
section
variable {x:Mo} {pl:List PI} {w:World} {R:VWP}
theorem zmT(hN:IsPl w x.2.2.1 pl)(hp:PlOk pl)
  (hok:∀bc ps fs L w',layP x.2.1 pl=(0,0)->Ct w w' bc x.2.2.1 pl.length ps fs->ZB pl 10 pl.length ps->Fns w' fs L->zw w.heap.size fs->cutF pl pl.length=L.map (·.1)->Zx pl pl.length->
   R (.tuple #[.pointer (some (blk bc)),.agg #[.int .i64 0,.int .i64 0]]) w')
  (hbad:∀w',Below w.heap.size w w'->(layP x.2.1 pl).1≠0->R (.tuple #[.pointer none,.agg #[.int .i64 (layP x.2.1 pl).1,.int .i64 ((layP x.2.1 pl).2:Int)]]) w') :
  cR 103 #[moA x] w R:=by
 refine zb.of (zjt x R w ?_) λ_ _ h=>h
 refine zq λw1 hB1 b1 z1=>?_
 have hB1:Blk w1 w.heap.size 25 (moV x):=hB1
 refine zq λw2 hC2 b2 z2=>?_
 have hC2:Blk w2 w1.heap.size 33 [.int .i64 0,.int .i64 0]:=hC2
 have hb2:=b1.on b2
 have s1:=b1.size
 have hlen:=hN.len
 have h40:=hp.len
 refine Mo.load (hB1.below b2) ?_
 refine zpo (x:=x) (hN.below hb2) hp λw3 b3=>⟨((zH x.2.1 pl).1,((zH x.2.1 pl).2:Int),()),rfl,?_⟩
 refine box2 rfl λw4 h4 b4 z4=>?_
 have b24:=b3.on b4
 have hb4:=hb2.on b24
 have hB4:=(hB1.below b2).below b24
 have hC4:=hC2.below b24
 have s24:=b24.size
 refine h4.rI0 rfl (zr (λe=>?_) (λe=>?_))
 ·have e':(zH x.2.1 pl).1≠0:=e
  have hl:layP x.2.1 pl=zH x.2.1 pl:=if_pos e'
  rw[hl]at hbad
  refine Sp.load h4.drew ?_
  refine st2 hC4.drew rfl λw5 h5 c5=>Sp.load h5 ?_
  exact hbad w5 (c5.below hb4.drew (by omega)) e'
 ·have e':(zH x.2.1 pl).1=0:=e
  have hl:layP x.2.1 pl=chkP pl:=if_neg (λh=>h e')
  refine hB4.rS (n:=2) (x:=x.2.2.1) rfl ?_
  refine zq λw9 h9 b9 z9=>?_
  have h9:Blk w9 w4.heap.size 151 (ctV x.2.2.1 (0:Nat) (List.replicate 20 0) ⟨none,0,0⟩):=h9
  have hCt:Ct w4 w9 w4.heap.size x.2.2.1 0 (List.replicate 20 0) ⟨none,0,0⟩:=⟨Nat.le_refl _,b9,h9,List.length_replicate⟩
  have s4:=hb4.size
  generalize hbc:w4.heap.size=bc at hCt z9
  refine zrG hCt (hN.below hb4) h40 (λps fs L w10 hC10 f10 hg ho hP hL hF hcut=>?_) (λn ps fs w10 hC10 f10 hS=>?_)
  ·refine⟨true,rfl,zF rfl ?_⟩
   have hlay:layP x.2.1 pl=(0,0):=by rw[hl,znk hg,if_neg (by rw[ho];decide)]
   have hR1:=hC4.below hC10.b0
   have hCw:Ct w w10 bc x.2.2.1 pl.length ps fs:=⟨by omega,hb4.on hC10.b0,hC10.blk,hC10.len⟩
   refine st2 hR1 rfl λw12 h12 c12=>Sp.load h12 ?_
   exact hok bc ps fs L w12 hlay (hCw.chg c12 (by omega) (by omega)) hP (hL.chg c12 hR1 (by decide) (by decide) (by decide)) (λa ha=>by have:=hF a ha;have:=b9.size;omega) hcut hg
  ·refine⟨false,rfl,zB rfl ?_⟩
   have bd:Below w10.heap.size w10 w10.drew:=(Below.refl _ _).drew
   have hlay:layP x.2.1 pl=(if n<pl.length then 50 else 51,n):=by rw[hl];exact hS.chk
   rw[hlay]at hbad
   have hBm:=(hB4.below hC10.b0)
   have hR1:=hC4.below hC10.b0
   have hbw:Below w.heap.size w w10:=hb4.on hC10.b0
   refine hC10.blk.drew.rI (n:=1) rfl (hBm.drew.rS (n:=2) (x:=x.2.2.1) rfl (zi (λh=>?_) (λh=>?_)))
   ·have hlt:n<pl.length:=by omega
    rw[if_pos hlt]at hbad
    refine hC10.blk.drew.drew.rI (n:=1) rfl (st2 hR1.drew.drew rfl λw13 h13 c13=>Sp.load h13 ?_)
    exact hbad w13 (c13.below hbw.drew.drew (by omega)) (show(50:Int)≠0 by decide)
   ·have hlt:¬n<pl.length:=by omega
    rw[if_neg hlt]at hbad
    refine hC10.blk.drew.drew.rI (n:=1) rfl (st2 hR1.drew.drew rfl λw13 h13 c13=>Sp.load h13 ?_)
    exact hbad w13 (c13.below hbw.drew.drew (by omega)) (show(51:Int)≠0 by decide)
theorem zpn(hN:IsPl w x.2.2.1 pl)(hp:PlOk pl)
  (hR:∀(y:T20) w',Below w.heap.size w w'->((layP x.2.1 pl).1=0->ZB pl 10 pl.length (l20 y)/\Zx pl pl.length)->R (.tuple #[ag20 y,.agg #[.int .i64 (layP x.2.1 pl).1,.int .i64 ((layP x.2.1 pl).2:Int)]]) w') :
  cR 100 #[moA x] w R:=by
 refine zb.of (zit x R w ?_) λ_ _ h=>h
 refine zq λw1 hB1 b1 z1=>?_
 have hB1:Blk w1 w.heap.size 25 (moV x):=hB1
 refine zq λw2 hA2 b2 z2=>?_
 refine zq λw3 hC3 b3 z3=>?_
 have hC3:Blk w3 w2.heap.size 33 [.int .i64 0,.int .i64 0]:=hC3
 have hb23:=b2.on b3
 have hb3:=b1.on hb23
 have s1:=b1.size
 refine Mo.load (hB1.below hb23) ?_
 refine zmT (x:=x) (hN.below hb3) hp (λbc ps fs L w4 hlay hC4 hP hL hF hcut hg=>⟨some (blk bc),(0,0,()),rfl,?_⟩) (λw4 b4 hne=>⟨none,((layP x.2.1 pl).1,((layP x.2.1 pl).2:Int),()),rfl,?_⟩)
 ·rw[hlay]at hR
  refine box2 rfl λw7 h7 b7 z7=>?_
  have hC7:=hC4.below b7
  have b37:=hC4.b0.on b7
  have hA7:=((hA2.below b3).below b37).drew
  have hS7:=(hC3.below b37).drew
  have hbw:=(hb3.on b37).drew
  have s37:=b37.size
  have h7:=h7.drew
  obtain⟨y,rfl⟩:=ztk hC7.len
  have hct:=hC7.blk.drew
  generalize w7.drew=w8 at hct hA7 hS7 hbw h7
  refine zB rfl (zf rfl (ztv (x:=y) hct ?_))
  refine Sp.load h7 ?_
  refine st20 (x:=y) hA7 rfl λw49 h49 c49=>?_
  have hS49:=c49.blk hS7 (by omega)
  have h7':=c49.blk h7 (by have:=hC4.b0.size;omega)
  refine⟨h7'.cell (n:=0) rfl,h7'.cell (n:=1) rfl,?_⟩
  refine st2 hS49 rfl λw51 h51 c51=>?_
  refine ld20 (x:=y) (c51.blk h49 (by omega)) (Sp.load h51 ?_)
  exact hR y w51 (c51.below (c49.below hbw (by omega)) (by omega)) λ_=>⟨hP,hg⟩
 ·refine box2 rfl λw7 h7 b7 z7=>?_
  have b37:=b4.on b7
  have hA7:=((hA2.below b3).below b37).drew
  have hS7:=(hC3.below b37).drew
  have hbw:=(hb3.on b37).drew
  have s37:=b37.size
  have s34:=b4.size
  have h7:=h7.drew
  generalize w7.drew=w8 at hA7 hS7 hbw h7
  refine zF rfl (Sp.load h7 ?_)
  refine st20 (x:=(0,0,0,0,0,0,0,0,0,0,0,0,0,0,0,0,0,0,0,0,())) hA7 rfl λw49 h49 c49=>?_
  have hS49:=c49.blk hS7 (by omega)
  have h7':=c49.blk h7 (by omega)
  refine⟨h7'.cell (n:=0) rfl,h7'.cell (n:=1) rfl,?_⟩
  refine st2 hS49 rfl λw51 h51 c51=>?_
  refine ld20 (x:=(0,0,0,0,0,0,0,0,0,0,0,0,0,0,0,0,0,0,0,0,())) (c51.blk h49 (by omega)) (Sp.load h51 ?_)
  exact hR _ w51 (c51.below (c49.below hbw (by omega)) (by omega)) λh=>absurd h hne
end
end Go.Proofs
namespace Go.Proofs
open Go.Gk Go.RowKit Go.Gm
theorem zbe{pl:List PI}{id:Int}{n:Nat}:0<=zL pl id n↔∃k,k<n/\mk1 pl id k=true:=by
 unfold zL
 constructor
 ·intro h
  cases e:(List.range n).find? (mk1 pl id) with
  |none=>rw[e]at h;exact absurd h (by decide)
  |some k=>exact⟨k,List.mem_range.1 (List.mem_of_find?_eq_some e),List.find?_some e⟩
 ·rintro⟨k,h1,h2⟩
  cases e:(List.range n).find? (mk1 pl id) with
  |none=>
   rw[List.find?_eq_none]at e
   exact absurd h2 (e k (List.mem_range.2 h1))
  |some k=>exact Int.natCast_nonneg k
theorem zse(pl:List PI)(k:Nat):mk1 pl 0 k=false:=by unfold mk1;simp
theorem MkOk.lt{L:List (Int×Int)}{pl:List PI}(h:MkOk L pl 0){id v:Int}(hv:zC L id=some v)(n:Nat):v<n↔0<=zL pl id n:=by
 obtain⟨j,rfl,_,q3,q4,q5⟩:=(h id).2 v hv
 rw[zbe]
 constructor
 ·intro hh
  exact⟨j,by omega,q4⟩
 ·rintro⟨k,h1,h2⟩
  rcases Nat.lt_or_ge k j with g |g
  ·rw[q5 k (Nat.zero_le _) g]at h2;cases h2
  ·omega
theorem MkOk.none{L:List (Int×Int)}{pl:List PI}(h:MkOk L pl 0){id:Int}(hv:zC L id=none):zL pl id pl.length<0:=by
 rcases Int.lt_or_le (zL pl id pl.length) 0 with g |g
 ·exact g
 ·obtain⟨k,h1,h2⟩:=zbe.1 g
  rw[(h id).1 hv k (Nat.zero_le _) h1]at h2
  cases h2
theorem MkOk.some{L:List (Int×Int)}{pl:List PI}(h:MkOk L pl 0){id v:Int}(hv:zC L id=some v):0<=zL pl id pl.length:=by
 obtain⟨j,_,_,q3,q4,_⟩:=(h id).2 v hv
 exact zbe.2 ⟨j,q3,q4⟩
def zd0(pl:List PI)(n:Nat):List Int:=idsP (ix pl n).2.1 (ix pl n).2.2.2
def fltP(pl:List PI)(n:Nat):Int:=
 if 0<=zL pl (ix pl n).2.2.1 n then 90
 else if (zd0 pl n).any (λid=>decide (zL pl id pl.length<0))=true then 91
 else if zu (ix pl n)=7/\(zd0 pl n).any (λid=>decide (zL pl id n<0))=true then 92 else 0
def zQ(bound:Int)(pl:List PI):Int×Nat:=if (layP bound pl).1≠0 then layP bound pl else match (List.range pl.length).find? (λk=>fltP pl k !=0) with
 |some k=>(fltP pl k,k)
 |none=>(0,0)
theorem znX{bound:Int}{pl:List PI}(h:(layP bound pl).1≠0):zQ bound pl=layP bound pl:=if_pos h
theorem ziY{bound:Int}{pl:List PI}(h:¬(layP bound pl).1≠0){n:Nat}(hn:n<pl.length)(hj:∀j,j<n->fltP pl j=0)(hf:fltP pl n≠0):zQ bound pl=(fltP pl n,n):=by
 unfold zQ
 rw[if_neg h,Yr hn (by rw[bne_iff_ne.2 hf]) λj hj'=>by rw[hj j hj'];rfl]
theorem zm1{bound:Int}{pl:List PI}(h:¬(layP bound pl).1≠0)(hj:∀j,j<pl.length->fltP pl j=0):zQ bound pl=(0,0):=by
 unfold zQ
 have:(List.range pl.length).find? (λk=>fltP pl k !=0)=none:=by
  rw[List.find?_eq_none]
  intro j hj'
  rw[hj j (List.mem_range.1 hj')]
  simp
 rw[if_neg h,this]
theorem zni{α:Type}{l:List α}{p:α->Bool}{k:Nat}(hk:k<l.length)(h:p l[k]=true):l.any p=true:=List.any_eq_true.2 ⟨l[k],List.getElem_mem hk,h⟩
theorem znP{α:Type}{l:List α}{p:α->Bool}(h:∀k (hk:k<l.length),p l[k]=false):l.any p=false:=by
 cases e:l.any p
 ·rfl
 ·obtain⟨x,h1,h2⟩:=List.any_eq_true.1 e
  obtain⟨k,hk,rfl⟩:=List.mem_iff_getElem.1 h1
  rw[h k hk]at h2
  cases h2
section
variable {x:Mo} {pl:List PI} {w:World} {R:VWP}
theorem zj6{s:Sl}{id:Int}{n:Nat}(hN:IsPl w s pl)(hn:n<=pl.length)(hR:R (.int .i64 (zL pl id n)) w):cR 142 #[.slice s.a s.l s.c,.int .u32 id,.int .i64 (n:Int)] w R:=by
 refine zb.of (ZR s id n R w ?_) λ_ _ h=>h
 have hlen:=hN.len
 have hbd:=hN.bound
 refine zl.count n (by omega) (λk w'=>w'=w/\∀j,j<k->mk1 pl id j=false) ⟨rfl,λj hj=>by omega⟩ ?_
 rintro k w1 hk ⟨hw,hj⟩ next hnext
 subst hw
 refine zi (λh=>?_) (λh=>?_)
 ·have hkn:k<n:=by dsimp only at h;omega
  have hlt:k<pl.length:=by omega
  have hm:mk1 pl id k=(pl[k].2.2.1==id&&id !=0):=by unfold mk1;rw[zG hlt]
  refine zk.cut (λ_ w'=>w'=w1/\mk1 pl id k=false) ?_ ?_
  ·refine zpz hN hlt (zj (λe1=>?_) (λe1=>⟨rfl,by rw[hm,beq_eq_false_iff_ne.2 e1,Bool.false_and]⟩))
   refine zr (λe2=>?_) (λe2=>⟨rfl,by rw[hm,e2];simp⟩)
   have:zL pl id n=(k:Int):=by
    unfold zL
    rw[Yr hkn (by rw[hm,beq_iff_eq.2 e1,bne_iff_ne.2 e2];rfl) hj]
   rwa[this]at hR
  ·rintro _ w2 ⟨hw,hno⟩
   refine hnext w2 hkn ⟨hw,λj hj'=>?_⟩
   by_cases e:j=k
   ·subst e;exact hno
   ·exact hj j (by omega)
 ·have hk':k=n:=by dsimp only at h;omega
  have:zL pl id n=-1:=by
   unfold zL
   have:(List.range n).find? (mk1 pl id)=none:=by
    rw[List.find?_eq_none]
    intro j hj'
    rw[hj j (by rw[hk'];exact List.mem_range.1 hj')]
    simp
   rw[this]
  rwa[this]at hR
theorem zn4{s:Sl}{n:Nat}(hN:IsPl w s pl)(hp:PlOk pl)(hn:n<pl.length)(hR:∀w',Below w.heap.size w w'->R (.int .i64 (fltP pl n)) w') :
  cR 105 #[.slice s.a s.l s.c,.int .i64 (n:Int)] w R:=by
 refine zb.of (zdO s n R w ?_) λ_ _ h=>h
 have hlen:=hN.len
 have h40:=hp.len
 unfold fltP at hR
 have eix:pl[n]=ix pl n:=(yR hn).symm
 refine zpz hN hn ?_
 rw[eix]
 refine zj6 hN (by omega) ⟨_,rfl,zi (λh=>?_) (λh=>?_)⟩
 ·have:=hR w (Below.refl _ _)
  rwa[if_pos h]at this
 have hR:∀w',Below w.heap.size w w'->R (.int .i64 (if (zd0 pl n).any (λid=>decide (zL pl id pl.length<0))=true then 91 else if zu (ix pl n)=7/\(zd0 pl n).any (λid=>decide (zL pl id n<0))=true then 92 else 0)) w':=λw' hb=>by
  have:=hR w' hb
  rwa[if_neg h]at this
 refine yA hN hn λt ht=>?_
 refine zrh (x:=mkIn pl[n] t) ht (hp.args _ (List.getElem_mem hn)) λr w2 hO hF b2=>⟨r,rfl,?_⟩
 have hO:Own w2 22 1 r ((zd0 pl n).map (Value.int .u32)):=by unfold zd0;rw[<-eix];exact hO
 generalize zd0 pl n=ids at hO hR
 have hI2:=hO.isS
 have hrl:=hI2.len
 have hib:=hI2.bound
 refine zl.count ids.length hib (λk w'=>w'=w2/\∀j (hj:j<ids.length),j<k->decide (zL pl ids[j] pl.length<0)=false) ⟨rfl,λj hj h=>by omega⟩ ?_
 rintro k w3 hk ⟨hw,hj⟩ next hnext
 subst hw
 have hN3:=hN.below b2
 refine zi (λh=>?_) (λh=>?_)
 ·have hlt:k<ids.length:=by dsimp only at h;omega
  refine zoi hI2 hlt ?_
  refine zoP hN3 (by rw[hlen]) ⟨_,rfl,zi (λhneg=>?_) (λhneg=>?_)⟩
  ·have:=hR w3 b2
   rwa[if_pos (zni hlt (decide_eq_true hneg))]at this
  ·refine hnext w3 hlt ⟨rfl,λj hjl hjk=>?_⟩
   by_cases e:j=k
   ·subst e;exact decide_eq_false hneg
   ·exact hj j hjl (by omega)
 ·have hk':k=ids.length:=by dsimp only at h;omega
  have n91:¬ids.any (λid=>decide (zL pl id pl.length<0))=true:=by rw[znP λj hjl=>hj j hjl (by omega)];decide
  refine zl.count ids.length hib (λk w'=>Below w3.heap.size w3 w'/\∀j (hj:j<ids.length),j<k->¬(zu (ix pl n)=7/\zL pl ids[j] n<0)) ⟨Below.refl _ _,λj hj h=>by omega⟩ ?_
  rintro k w5 hk ⟨hb5,hj5⟩ next hnext
  have hb25:=b2.on hb5
  have hI5:=hI2.below hb5
  refine zi (λh=>?_) (λh=>?_)
  ·have hlt:k<ids.length:=by dsimp only at h;omega
   refine zk.cut (λ_ w'=>Below w3.heap.size w3 w'/\¬(zu (ix pl n)=7/\zL pl ids[k] n<0)) ?_ ?_
   ·refine yA (hN.below hb25) hn λt ht=>?_
    refine Yt (x:=mkIn pl[n] t) ht λw6 b6=>⟨_,rfl,?_⟩
    rw[show zu (piOf (mkIn pl[n] t) pl[n].2.2.2)=zu (ix pl n) by rw[<-eix]]
    have hb6:=hb5.on b6
    refine zj (λe7=>?_) (λe7=>⟨hb6,λ⟨g,_⟩=>e7 (by rw[g];rfl)⟩)
    refine zoi (hI5.below b6) hlt ?_
    refine zj6 (hN.below (b2.on hb6)) (by omega) ⟨_,rfl,zi (λhneg=>?_) (λhneg=>⟨hb6,λ⟨_,g⟩=>hneg g⟩)⟩
    have:=hR w6 (b2.on hb6)
    rwa[if_neg n91,if_pos ⟨by omega,zni hlt (decide_eq_true hneg)⟩]at this
   ·rintro _ w8 ⟨hb8,hno⟩
    refine hnext w8 hlt ⟨hb8,λj hjl hjk=>?_⟩
    by_cases e:j=k
    ·subst e;exact hno
    ·exact hj5 j hjl (by omega)
  ·have hk':k=ids.length:=by dsimp only at h;omega
   have n92:¬(zu (ix pl n)=7/\ids.any (λid=>decide (zL pl id n<0))=true):=by
    rintro⟨g1,g2⟩
    obtain⟨y,y1,y2⟩:=List.any_eq_true.1 g2
    obtain⟨j,hjl,rfl⟩:=List.mem_iff_getElem.1 y1
    exact hj5 j hjl (by omega) ⟨g1,of_decide_eq_true y2⟩
   have:=hR w5 hb25
   rwa[if_neg n91,if_neg n92]at this
theorem zj4(hN:IsPl w x.2.2.1 pl)(hp:PlOk pl)(hR:∀w',Below w.heap.size w w'->R (.agg #[.int .i64 (zQ x.2.1 pl).1,.int .i64 ((zQ x.2.1 pl).2:Int)]) w') :
  cR 47 #[moA x] w R:=by
 refine zb.of (zdN x R w ?_) λ_ _ h=>h
 refine zq λw1 hB1 b1 z1=>?_
 have hB1:Blk w1 w.heap.size 25 (moV x):=hB1
 refine zq λw2 hC2 b2 z2=>?_
 have hC2:Blk w2 w1.heap.size 33 [.int .i64 0,.int .i64 0]:=hC2
 have hb2:=b1.on b2
 have s1:=b1.size
 have hlen:=hN.len
 have h40:=hp.len
 refine Mo.load (hB1.below b2) ?_
 refine zj3 (x:=x) (hN.below hb2) hp λw3 b3=>⟨((layP x.2.1 pl).1,((layP x.2.1 pl).2:Int),()),rfl,?_⟩
 refine box2 rfl λw4 h4 b4 z4=>?_
 have b24:=b3.on b4
 have hb4:=hb2.on b24
 have hB4:=(hB1.below b2).below b24
 have hC4:=hC2.below b24
 have out:∀{w':World} {a b:Int},Below w4.heap.size w4 w'->(zQ x.2.1 pl).1=a->(((zQ x.2.1 pl).2:Nat):Int)=b->Wr w' (blk w1.heap.size)/\Nw (w'.setCell (blk w1.heap.size) (.int .i64 a)) λw7=>Wr w7 ((blk w1.heap.size).add 1)/\
   Nw (w7.setCell ((blk w1.heap.size).add 1) (.int .i64 b)) λw8=>ldI w8 ((blk w1.heap.size).add 0) .i64 λx9=>ldI w8 ((blk w1.heap.size).add 1) .i64 λx10=>R (.agg #[(.int .i64 x9),(.int .i64 x10)]) w8:=by
  intro w' a b hb e1 e2
  subst e1 e2
  exact st2 (hC4.below hb) rfl λw8 h8 c8=>Sp.load h8 (hR w8 (c8.below (hb4.on hb) (by omega)))
 refine h4.rI0 rfl (zr (λe=>?_) (λe=>?_))
 ·have e':(layP x.2.1 pl).1≠0:=e
  have hl:=znX e'
  exact Sp.load h4 (out (Below.refl _ _) (by rw[hl]) (by rw[hl]))
 ·have e':¬(layP x.2.1 pl).1≠0:=λh=>h e
  refine zl.count pl.length hN.bound (λk w'=>Below w4.heap.size w4 w'/\∀j,j<k->fltP pl j=0) ⟨Below.refl _ _,λj hj=>by omega⟩ ?_
  rintro k w5 hk ⟨hb5,hj5⟩ next hnext
  have hN5:=hN.below (hb4.on hb5)
  refine(hB4.below hb5).rS (n:=2) (x:=x.2.2.1) rfl (zi (λh=>?_) (λh=>?_))
  ·have hlt:k<pl.length:=by dsimp only at h;omega
   refine(hB4.below hb5).rS (n:=2) (x:=x.2.2.1) rfl ?_
   refine zn4 hN5 hp hlt λw6 b6=>⟨_,rfl,?_⟩
   have hb6:=hb5.on b6
   refine zr (λe1=>?_) (λe1=>?_)
   ·have hb:=ziY e' hlt hj5 e1
    exact out hb6 (by rw[hb]) (by rw[hb])
   ·refine hnext w6 hlt ⟨hb6,λj hjk=>?_⟩
    by_cases ej:j=k
    ·subst ej;exact e1
    ·exact hj5 j (by omega)
  ·have hk':k=pl.length:=by dsimp only at h;omega
   have hg:=zm1 e' (λj hj=>hj5 j (by omega))
   exact out hb5 (by rw[hg]) (by rw[hg];rfl)
end
end Go.Proofs
