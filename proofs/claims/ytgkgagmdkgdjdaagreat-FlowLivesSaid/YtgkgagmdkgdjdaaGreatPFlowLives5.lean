/- FlowLives, part 5; made small by a program. -/
import Derived.Test.YtgkgagmdkgdjdaaGreatProg
import Derived.Test.YtgkgagmdkgdjdaaGreatPFlowLives4
namespace Go.Proofs
open Go.Gk Go.RowKit Go.Gm
theorem zm4(g:Fl)(ty re:Int)(al:List Ag)(bd:Int):za6 g ty re al bd =
  (let e1:=errK g ty re al bd al.length;let e2:=if e1=0 then(if YS g al.length=true then 0 else 42) else e1;if e2=0 then(if 65535<zbp g al then 25 else 0) else e2):=by
 unfold za6
 dsimp only
 by_cases h1:errK g ty re al bd al.length=0
 ·rw[if_neg (λh=>h h1),if_pos h1]
  cases hw:YS g al.length
  ·simp
  ·simp
 ·rw[if_pos h1,if_neg h1,if_neg h1]
theorem bnd3{n n' k t C:Nat}(h1:n<=2+k+C*t)(h2:n'<=n+C):n'<=2+(k+1)+C*(t+1):=by
 rw[Nat.mul_add,Nat.mul_one]
 generalize C*t=q at h1
 omega
theorem bnd1{n n' k t C:Nat}(h1:n<=2+k+C*t)(h2:n'<=n+1):n'<=2+(k+1)+C*(t+0):=by
 rw[Nat.add_zero]
 generalize C*t=q at h1
 omega
theorem zrC{x:Ins}{al:List Ag}{bd:Int}{w:World}{R:VWP}(hI:IsAg w x.2.2.2.1 al)(h24:24*al.length<=140737488351232)(hs:∀y∈al,y.2.2.size<=9223372036854775807)
  (hR:∀(r:Sl) (op:Int) w',Below w.heap.size w w'->(zf7 x.1 x.2.1 x.2.2.1 al bd=0->1+r.l=zgx (x.1,x.2.1,x.2.2.1,al)/\zgx (x.1,x.2.1,x.2.2.1,al)<=65535)->
   R (.tuple #[.agg #[.int .u16 op,.slice r.a r.l r.c],.int .i64 (zf7 x.1 x.2.1 x.2.2.1 al bd)]) w') :
  cR 114 #[inA x,.int .u32 bd] w R:=by
 refine za.of (zlv x bd R w ?_) λ_ _ h=>h
 refine zn λw1 hB1 b1 z1=>?_
 have hB1:Blk w1 w.heap.size 50 (inV x):=hB1
 refine zn λw2 hC2 b2 z2=>?_
 have hC2:Blk w2 w1.heap.size 197 [.int .u16 0,.slice none 0 0]:=hC2
 have hB2:=hB1.below b2
 have hb2:=b1.on b2
 refine hB2.rI0 rfl ?_
 refine zjf λw3 b3=>⟨fmO x.1 (frm x.1),(frm x.1).isSome,rfl,?_⟩
 refine box8 rfl λw4 hF4 b4 z4=>?_
 have hF4:Blk w4 w3.heap.size 187 (fmV (fmO x.1 (frm x.1))):=hF4
 have b24:=b3.on b4
 have hb4:=hb2.on b24
 have hB4:=hB2.below b24
 have hC4:=hC2.below b24
 have s1:=b1.size
 have s2:=b2.size
 have s3:=b3.size
 have s4:=b4.size
 have hlen:=hI.len
 refine zo (λhn=>?_) (λhn=>?_)
 ·have hfr:frm x.1=none:=by
   cases h:frm x.1 with
   |none=>rfl
   |some g=>rw[h]at hn;cases hn
  have hfp:zf7 x.1 x.2.1 x.2.2.1 al bd=30:=zcb hfr
  rw[hfp]at hR
  refine st2 hC4 rfl λw5 hC5 c5=>?_
  refine hC5.rI (n:=0) rfl (hC5.rS (n:=1) (x:=⟨none,0,0⟩) rfl ?_)
  exact hR ⟨none,0,0⟩ 0 w5 (c5.below hb4 (by omega)) (λh=>by cases h)
 ·obtain⟨g,hfr⟩:∃g,frm x.1=some g:=by
   cases h:frm x.1 with
   |none=>rw[h]at hn;cases hn
   |some g=>exact⟨g,rfl⟩
  have efl:flOf x.1=g:=by unfold flOf;rw[hfr];rfl
  rw[hfr]at hF4
  rw[zcc hfr,show zgx (x.1,x.2.1,x.2.2.1,al)=zbp g al by unfold zgx;dsimp only;rw[hfr]]at hR
  have hop:(fmO x.1 (some g)).1=x.1:=rfl
  have hty:(fmO x.1 (some g)).2.2.1=g.ty:=rfl
  have hre:(fmO x.1 (some g)).2.2.2.1=g.re:=rfl
  have hwh:=@zqW x.1 g hfr al bd
  generalize fmO x.1 (some g)=fm at hF4 hop hty hre
  refine Fm.load hF4 ?_
  refine zn λw5 hW5 b5 z5=>?_
  have hW5:Blk w5 w4.heap.size 228 (wrV fm bd ⟨none,0,0⟩ 0):=hW5
  have hS5:WtS w4 w5 w4.heap.size fm bd 0 0:=⟨Nat.le_refl _,b5,⟨none,0,0⟩,[],hW5,Own.nil _ _ _,(λa ha=>by cases ha),rfl⟩
  have hF5:=hF4.below b5
  have hB5:=hB4.below b5
  refine hF5.rB (n:=2) rfl (hB5.rI (n:=1) rfl ?_)
  refine zmC hS5 (by omega) (by omega) λw6 room6 n6 hS6 hr6 hn6 he6=>⟨_,rfl,?_⟩
  rw[hty]at he6⊢
  have e0:errK g x.2.1 x.2.2.1 al bd 0=if idP g.ty x.2.1 bd 40=0 then idP g.re x.2.2.1 bd 41 else idP g.ty x.2.1 bd 40:=by
   unfold errK
   rw[zqP]
   by_cases h1:idP g.ty x.2.1 bd 40=0
   ·rw[if_neg (λh=>h h1),if_pos h1]
    by_cases h2:idP g.re x.2.2.1 bd 41=0
    ·rw[if_neg (λh=>h h2),h2]
    ·rw[if_pos h2]
   ·rw[if_pos h1,if_neg h1]
  refine zl.cut (λst w'=>st.1=errK g x.2.1 x.2.2.1 al bd 0/\∃room n,WtS w4 w' w4.heap.size fm bd room n/\(errK g x.2.1 x.2.2.1 al bd 0=0->room=g.ty.toNat +g.re.toNat/\n=room)) ?_ ?_
  ·refine zm (λe=>?_) (λe=>?_)
   ·rw[if_pos e]at e0
    obtain⟨g1,g2⟩:=he6 e (by decide)
    have hF6:=hF4.below hS6.below
    have hB6:=hB4.below hS6.below
    refine hF6.rB (n:=3) rfl (hB6.rI (n:=2) rfl ?_)
    refine zmC hS6 (by omega) (by omega) λw7 room7 n7 hS7 hr7 hn7 he7=>⟨_,rfl,?_,room7,n7,hS7,λh0=>?_⟩
    ·rw[e0,hre]
    ·rw[e0]at h0
     rw[hre]at he7
     obtain⟨g3,g4⟩:=he7 h0 (by decide)
     omega
   ·rw[if_neg e]at e0
    exact⟨e0.symm,room6,n6,hS6,λh0=>absurd (e0.symm.trans h0) e⟩
  ·rintro⟨ev,_⟩ w7 ⟨hev,room7,n7,hS7,hz7⟩
   dsimp only at hev
   subst hev
   have hB7:=hB4.below hS7.below
   refine hB7.rS (n:=3) rfl ?_
   have htn:g.ty.toNat +g.re.toNat<=2:=by cases g.ty<;>cases g.re<;>decide
   refine zk.ghost (λj st w'=>∃k,k<=al.length/\j=al.length-k/\st=(errK g x.2.1 x.2.2.1 al bd k,(k:Int),())/\∃room n,WtS w4 w' w4.heap.size fm bd room n/\
    (errK g x.2.1 x.2.2.1 al bd k=0->room=g.ty.toNat +g.re.toNat +zgw al k/\(n=room\/65535<room)/\n<=2+k+65535*tx al k)) al.length
    ⟨0,Nat.zero_le _,rfl,rfl,room7,n7,hS7,λh=>by obtain⟨g1,g2⟩:=hz7 h;refine⟨by rw[g1];simp[zgw],.inl g2,?_⟩;simp[tx];omega⟩ ?_
   rintro _ _ w8 ⟨k,hk,rfl,rfl,room8,n8,hS8,hz8⟩ next hnext
   refine zf (λh=>?_) (λh=>?_)
   ·have hlt:k<al.length:=by dsimp only at h;omega
    have hI8:=hI.below (hb4.on hS8.below)
    refine zl.cut (λst w'=>st.1=errK g x.2.1 x.2.2.1 al bd (k+1)/\∃room n,WtS w4 w' w4.heap.size fm bd room n/\
     (errK g x.2.1 x.2.2.1 al bd (k+1)=0->room=g.ty.toNat +g.re.toNat +zgw al (k+1)/\(n=room\/65535<room)/\n<=2+(k+1)+65535*tx al (k+1))) ?_ ?_
    ·refine zir hI8 hlt ?_
     refine box3 rfl λw9 hA9 b9 z9=>?_
     have hS9:=hS8.step b9
     refine zm (λe=>?_) (λe=>?_)
     ·obtain⟨g1,g2,g3⟩:=hz8 e
      obtain⟨_,_,ha⟩:=zeZ e
      have hwe:=zeV ha
      have htx:=znL hfr (k:=k) (by omega) hwe
      have hcn:=zlw hs (k:=k) (by omega)
      refine hA9.rI (n:=0) rfl (hA9.rI (n:=1) rfl (hA9.rT (n:=2) rfl ?_))
      refine zrG hS9 (k:=k) (by omega) (hs _ (List.getElem_mem hlt)) (by omega) (by omega) λw10 room' n' hS10 hz10=>⟨_,rfl,?_,room',n',hS10,λh0=>?_⟩
      ·rw[zcX,if_pos e,hop,efl]
       unfold werr
       rw[zs hlt]
      ·rw[zcX,if_pos e]at h0
       unfold werr at h0
       rw[zs hlt]at h0
       rw[hop,efl]at hz10
       obtain⟨q1,q2,q3⟩:=hz10 h0
       rw[zf2 hlt,zkY hlt]
       refine⟨by omega,by omega,?_⟩
       split at q3<;>rename_i h3
       ·rw[if_pos h3];exact bnd3 g3 q3
       ·rw[if_neg h3];exact bnd1 g3 q3
     ·refine⟨?_,room8,n8,hS9,λh0=>?_⟩
      ·rw[zcX,if_neg e]
      ·rw[zcX,if_neg e]at h0
       exact absurd h0 e
    ·rintro⟨ev,_⟩ w9 ⟨hev,room9,n9,hS9,hz9⟩
     dsimp only at hev
     subst hev
     dsimp only
     rw[zr (by omega)]
     exact hnext (al.length-(k+1)) _ _ (by omega) ⟨k+1,hlt,rfl,rfl,room9,n9,hS9,hz9⟩
   ·have hk':k=al.length:=by dsimp only at h;omega
    subst hk'
    have hff:=zm4 g x.2.1 x.2.2.1 al bd
    dsimp only at hff
    have hb8:=hS8.below
    have hF8:=hF4.below hb8
    have hB8:=hB4.below hb8
    have hI8:=hI.below (hb4.on hb8)
    refine zl.cut (λst w'=>st.1=(if errK g x.2.1 x.2.2.1 al bd al.length=0 then(if YS g al.length=true then 0 else 42) else errK g x.2.1 x.2.2.1 al bd al.length)/\WtS w4 w' w4.heap.size fm bd room8 n8) ?_ ?_
    ·refine zm (λe=>?_) (λe=>?_)
     ·refine Fm.load hF8 ?_
      refine hB8.rS (n:=3) rfl ?_
      refine zqs (f:=fm) hI8 h24 λw9 b9=>⟨_,rfl,?_,hS8.step b9⟩
      obtain⟨_,_,ha⟩:=zeZ e
      rw[if_pos e,hop,hwh (zeV ha)]
     ·exact⟨by rw[if_neg e],hS8⟩
    ·rintro⟨ev,_⟩ w9 ⟨hev,hS9⟩
     dsimp only at hev
     rw[<-hev]at hff
     have hroom:ev=0->errK g x.2.1 x.2.2.1 al bd al.length=0:=by
      intro h
      rw[h]at hev
      refine Classical.byContradiction λhne=>?_
      rw[if_neg hne]at hev
      exact hne hev.symm
     obtain⟨r,xs,hW9,hO9,hFr9,hrl9⟩:=hS9.own
     refine zl.cut (λst w'=>st.1=za6 g x.2.1 x.2.2.1 al bd/\w'=w9) ?_ ?_
     ·refine zm (λe=>?_) (λe=>?_)
      ·have e':ev=0:=e
       rw[if_pos e']at hff
       obtain⟨g1,_,_⟩:=hz8 (hroom e')
       have hrp:zbp g al=1+room8:=by unfold zbp;rw[g1]
       refine hW9.rI (n:=10) rfl (zf (λhge=>⟨?_,rfl⟩) (λhlt=>⟨?_,rfl⟩))
       ·rw[hff,if_pos (by omega)]
       ·rw[hff,if_neg (by omega)];exact e
      ·have e':¬ev=0:=e
       rw[if_neg e']at hff
       exact⟨hff.symm,rfl⟩
     ·rintro⟨ev2,_⟩ w' ⟨hev2,hw'⟩
      dsimp only at hev2
      subst hw'
      have hb9:=hb4.on hS9.below
      have hC9:=hC4.below hS9.below
      have hB9:=hB4.below hS9.below
      refine zt (λe=>?_) (λe=>?_)
      ·refine st2 hC9 rfl λw10 hC10 c10=>?_
       refine hC10.rI (n:=0) rfl (hC10.rS (n:=1) (x:=⟨none,0,0⟩) rfl ?_)
       have:=hR ⟨none,0,0⟩ 0 w10 (c10.below hb9 (by omega)) (λh=>absurd (hev2.trans h) e)
       rw[<-hev2]at this
       exact this
      ·have e':ev2=0:=e
       refine hB9.drew.rI0 rfl (hW9.drew.rS (n:=9) (x:=r) rfl ?_)
       refine st2 hC9.drew rfl λw10 hC10 c10=>?_
       refine hC10.rI (n:=0) rfl (hC10.rS (n:=1) (x:=r) rfl ?_)
       have hf0:za6 g x.2.1 x.2.2.1 al bd=0:=hev2.symm.trans e'
       have:=hR r x.1 w10 (c10.below hb9.drew (by omega)) (λ_=>by
        rw[hf0]at hff
        have h0:ev=0:=by
         refine Classical.byContradiction λhne=>?_
         rw[if_neg hne]at hff
         exact hne hff.symm
        rw[if_pos h0]at hff
        have hle:¬65535<zbp g al:=by
         intro h
         rw[if_pos h]at hff
         cases hff
        obtain⟨g1,g2,_⟩:=hz8 (hroom h0)
        have hrp:zbp g al=1+room8:=by unfold zbp;rw[g1]
        omega)
       rw[hf0]at this
       exact this
theorem zoh{w:World}{R:VWP}(hR:∀w',Below w.heap.size w w'->R (.tuple #[.int .i64 5,.agg #[.int .i64 0,.int .i64 0]]) w'):cR 147 #[.slice none 0 0] w R:=by
 refine za.of (zh8 ⟨none,0,0⟩ R w ?_) λ_ _ h=>h
 refine zn λw1 hB b1 z1=>?_
 have hB:Blk w1 w.heap.size 29 [.int .i64 0,.int .i64 0]:=hB
 refine zk.ghost (λj st w'=>j=0/\st=((5:Int),(0:Int),())/\w'=w1) 0 ⟨rfl,rfl,rfl⟩ ?_
 rintro _ _ w' ⟨rfl,rfl,hw⟩ next hnext
 subst hw
 refine zf (λh=>absurd h (by simp)) (λ_=>?_)
 refine st2 hB rfl λw2 h2 c2=>?_
 exact Sp.load h2 (hR w2 (c2.below b1 (Nat.le_refl _)))
theorem zrD{w:World}{R:VWP}(hR:∀w',Below w.heap.size w w'->R (.tuple #[.int .i64 5,.int .i64 0]) w'):cR 113 #[.slice none 0 0] w R:=by
 refine za.of (zjP ⟨none,0,0⟩ R w ?_) λ_ _ h=>h
 refine zoh λw1 b1=>⟨5,(0,0,()),rfl,?_⟩
 refine box2 rfl λw2 h2 b2 z2=>?_
 exact h2.drew.rI0 rfl (hR w2.drew (b1.on b2).drew)
theorem eRaw:YT Tryz.prog 149 197 2 32:=⟨by kernel_rfl,Tryz.t197,.agg #[.int .u16 0,.slice none 0 0],by kernel_rfl,rfl,rfl,rfl,rfl⟩
theorem zqb{P:Program}{t e:TypeId}{sz bytes:Nat}(he:YT P t e sz bytes){w0 w:World}{s:Sl}{xs:List Value}(h:Own w e sz s xs)(hb:Below w0.heap.size w0 w)(hF:zz w0.heap.size s){vs:List Value}(hvs:vs.length=sz)(hv:∀u∈vs,u.oneCell'=true){b c:Nat}{T:TypeId}
  (hB:Blk w b T vs) (h63:s.l+1<=9223372036854775807) (hbytes:(s.l+1)*bytes<=140737488355328) {k:Sl->World->Prop}
  (hk:∀r w',Own w' e sz r (xs++vs)->r.l=s.l+1->Below w0.heap.size w0 w'->zz w0.heap.size r->k r w'):zp P t (.slice s.a s.l s.c) (.slice (some (blk b)) 1 c) w k:=by
 refine ZX he h (news:=vs) (by omega) (λj u hj=>hB.cell hj) hv h63 hbytes λr w' h1 hl' hg=>?_
 rcases hg with⟨_,_,h3⟩ | ⟨b',h3,h4,h5⟩
 ·rw[h3]at hl';omega
 ·have hbb:w0.heap.size<=b':=by
   rcases h4 with h4 |h4
   ·exact hF _ h4
   ·have:=hb.size
    omega
  exact hk r w' h1 hl' (hb.trans (yf h5 hbb hb.size)) λa ha=>by rw[h3]at ha;cases ha;exact hbb
theorem zrw{x:Mo}{pl:List PI}{w:World}{R:VWP}(hN:IsPl w x.2.2.1 pl)(hp:PlOk pl)(hR:∀(r:Sl) w',Below w.heap.size w w'->R (.tuple #[.slice r.a r.l r.c,.agg #[.int .i64 (zG x.2.1 pl).1,.int .i64 ((zG x.2.1 pl).2:Int)]]) w') :
  cR 76 #[moA x] w R:=by
 refine za.of (zkL x R w ?_) λ_ _ h=>h
 refine zn λw1 hB1 b1 z1=>?_
 have hB1:Blk w1 w.heap.size 25 (moV x):=hB1
 refine zn λw2 hC2 b2 z2=>?_
 have hC2:Blk w2 w1.heap.size 29 [.int .i64 0,.int .i64 0]:=hC2
 have hB2:=hB1.below b2
 have hb2:=b1.on b2
 have s1:=b1.size
 have s2:=b2.size
 have hlen:=hN.len
 have h40:=hp.len
 have spot:∀{w' cs},Blk w' w1.heap.size 29 cs->cs.length=2->Below w.heap.size w w'->∀(r:Sl) (e a:Int),(e,a)=((zG x.2.1 pl).1,((zG x.2.1 pl).2:Int))->
   Wr w' (blk w1.heap.size)/\Nw (w'.setCell (blk w1.heap.size) (.int .i64 e)) λw3=>Wr w3 ((blk w1.heap.size).add 1)/\Nw (w3.setCell ((blk w1.heap.size).add 1) (.int .i64 a)) λw4=>
    ldI w4 ((blk w1.heap.size).add 0) .i64 λx4=>ldI w4 ((blk w1.heap.size).add 1) .i64 λx5=>R (.tuple #[.slice r.a r.l r.c,.agg #[.int .i64 x4,.int .i64 x5]]) w4:=by
  intro w' cs hC hl hb r e a hea
  refine st2 hC hl λw3 h3 c3=>Sp.load h3 ?_
  rw[Prod.mk.injEq]at hea
  rw[hea.1,hea.2]
  exact hR r w3 (c3.below hb (by omega))
 refine zl.cut (λ_ w'=>w'=w2/\¬(x.2.1=0\/65536<x.2.1)) ?_ ?_
 ·refine hB2.rI (n:=1) rfl (zm (λe=>?_) (λe=>?_))
  ·exact spot hC2 rfl hb2 ⟨none,0,0⟩ 24 0 (by rw[zex (.inl e)];rfl)
  ·refine hB2.rI (n:=1) rfl (zf (λh=>?_) (λh=>⟨rfl,λh'=>h'.elim e h⟩))
   exact spot hC2 rfl hb2 ⟨none,0,0⟩ 24 0 (by rw[zex (.inr h)];rfl)
 ·rintro _ w' ⟨hw,hbd⟩
  subst hw
  refine zrD λw3 b3=>⟨_,_,rfl,?_⟩
  have hB3:=hB2.below b3
  have hC3:=hC2.below b3
  have hb3:=hb2.on b3
  refine hB3.rS (n:=2) rfl ?_
  rw[show IntKind.i64.wrap (1048576-5)=1048571 by decide +kernel]
  refine zk.ghost (λj st w4=>∃(k:Nat) (r:Sl) (xs:List Value),k<=pl.length/\j=pl.length-k/\st=((1048576:Int)-(totP pl k:Int),r,(k:Int),())/\totP pl k<=1048576/\(∀i,i<k->badI pl x.2.1 i=false)/\Own w4 197 2 r xs/\zz w'.heap.size r/\r.l=k/\
   Below w'.heap.size w' w4) pl.length ⟨0,⟨none,0,0⟩,[],Nat.zero_le _,rfl,rfl,(by simp[totP]),λi hi=>by omega,Own.nil _ _ _,λa ha=>by(cases ha),rfl,b3⟩ ?_
  rintro _ _ w4 ⟨k,r,xs,hk,rfl,rfl,htot,hj,hO,hF,hrl,hb4⟩ next hnext
  have hbw4:=hb2.on hb4
  have hB4:=hB2.below hb4
  have hC4:=hC2.below hb4
  refine zf (λh=>?_) (λh=>?_)
  ·have hlt:k<pl.length:=by dsimp only at h;omega
   have hmem:=List.getElem_mem hlt
   refine yu (hN.below hbw4) hlt λt ht=>?_
   refine box4 rfl λw5 hI5 b5 z5=>?_
   have hI5:Blk w5 w4.heap.size 50 (inV (mkIn pl[k] t)):=hI5
   refine Ins.load hI5 ?_
   refine(hB4.below b5).rI (n:=1) rfl ?_
   refine zrC (x:=mkIn pl[k] t) (ht.below b5) (hp.args _ hmem) (hp.text _ hmem) λq op w6 b6 hq=>⟨(op,q,()),_,rfl,?_⟩
   refine box2 rfl λw7 h7 b7 z7=>?_
   have h7:Blk w7 w6.heap.size 197 [.int .u16 op,.slice q.a q.l q.c]:=h7
   have b57:=(b5.on b6).on b7
   have hb7:=hb4.on b57
   refine h7.rS (n:=1) (x:=q) rfl ?_
   change Ze pl[k] x.2.1=0->1+q.l=zgx pl[k]/\zgx pl[k]<=65535 at hq
   show ifB (Ze pl[k] x.2.1 !=0) _ _
   refine zt (λe=>?_) (λe=>?_)
   ·exact spot (hC4.below b57) rfl (hbw4.on b57) ⟨none,0,0⟩ _ _ (by rw[zkC hbd hlt hj e];rfl)
   ·obtain⟨q1,q2⟩:=hq e
    have ht1:=zkl hlt
    have hleft:IntKind.i64.wrap (((1048576:Int)-(totP pl k:Int))-IntKind.i64.wrap (1+(q.l:Int)))=(1048576:Int)-(totP pl (k+1):Int):=by
     rw[zq (x:=(1:Int)+(q.l:Int)) (by omega) (by omega),zq (by omega) (by omega)]
     omega
    dsimp only
    rw[hleft]
    refine zf (λhlt0=>?_) (λhge0=>?_)
    ·exact spot (hC4.below b57) rfl (hbw4.on b57) ⟨none,0,0⟩ _ _ (by rw[zkD hbd hlt hj e (by omega)])
    ·have hbk:=zlr hlt e (show ¬1048576<totP pl (k+1) by omega)
     refine h7.rI (n:=0) rfl (h7.rS (n:=1) (x:=q) rfl ?_)
     refine zn λw8 h8 b8 z8=>?_
     have h8:Blk w8 w7.heap.size 197 [.int .u16 op,.slice q.a q.l q.c]:=h8
     refine zqb eRaw ((hO.below b57).below b8) (hb7.on b8) hF rfl (by simp[Value.oneCell']) h8 (by omega) (by omega) λr' w9 hO9 hl9 b9 F9=>?_
     rw[zr (by omega)]
     refine hnext (pl.length-(k+1)) _ _ (by omega) ⟨k+1,r',_,hlt,rfl,rfl,by omega,λi hi=>?_,hO9,F9,by omega,b9⟩
     by_cases e':i=k
     ·subst e';exact hbk
     ·exact hj i (by omega)
  ·have hk':k=pl.length:=by dsimp only at h;omega
   subst hk'
   exact spot hC4 rfl hbw4 r 0 0 (by rw[zlV hbd hj];rfl)
theorem zpz{x:Mo}{pl:List PI}{w:World}{R:VWP}(hN:IsPl w x.2.2.1 pl)(hp:PlOk pl)(hR:∀w',Below w.heap.size w w'->R (.agg #[.int .i64 (zG x.2.1 pl).1,.int .i64 ((zG x.2.1 pl).2:Int)]) w') :
  cR 43 #[moA x] w R:=by
 refine za.of (zjI x R w ?_) λ_ _ h=>h
 refine zn λw1 hB1 b1 z1=>?_
 have hB1:Blk w1 w.heap.size 25 (moV x):=hB1
 refine zn λw2 hC2 b2 z2=>?_
 have hC2:Blk w2 w1.heap.size 29 [.int .i64 0,.int .i64 0]:=hC2
 have hb2:=b1.on b2
 refine Mo.load (hB1.below b2) ?_
 refine zrw (x:=x) (hN.below hb2) hp λr w3 b3=>⟨r,((zG x.2.1 pl).1,((zG x.2.1 pl).2:Int),()),rfl,?_⟩
 refine box2 rfl λw4 h4 b4 z4=>?_
 refine Sp.load h4 ?_
 refine st2 ((hC2.below b3).below b4) rfl λw5 h5 c5=>?_
 refine Sp.load h5 (hR w5 (c5.below ((hb2.on b3).on b4) (by have:=b1.size;omega)))
section
variable {w:World} {R:VWP}
theorem zqg{n bd:Int}(hR:R (.bool (decide (n=0\/bd<=n))) w):cR 189 #[.int .u32 n,.int .u32 bd] w R:=by
 refine za.of (ze7 n bd R w ?_) λ_ _ h=>h
 refine zm (λe=>?_) (λe=>?_)
 ·rwa[decide_eq_true (.inl e)]at hR
 ·show R (.bool (decide (n≥bd))) w
  rwa[show decide (n=0\/bd<=n)=decide (n≥bd) by
   rw[Bool.eq_iff_iff,decide_eq_true_iff,decide_eq_true_iff]
   exact⟨λh=>h.resolve_left e,.inr⟩]at hR
theorem zoU{must:Bool}{n bd e:Int}(hR:R (.int .i64 (idP must n bd e)) w):cR 177 #[.bool must,.int .u32 n,.int .u32 bd,.int .i64 e] w R:=by
 refine za.of (zfD must n bd e R w ?_) λ_ _ h=>h
 unfold idP at hR
 refine zF (zo (λhm=>?_) (λhm=>?_))
 ·rw[if_pos (eq_of_beq hm)]at hR
  refine zo (λht=>zf (λh=>?_) (λh=>?_)) (λhf=>?_)
  ·rwa[if_pos ⟨ht,h⟩]at hR
  ·rwa[if_neg (λh'=>h h'.2)]at hR
  ·rwa[if_neg (λh'=>by rw[hf]at h';cases h'.1)]at hR
 ·rwa[if_neg (λh=>by rw[h]at hm;simp at hm)]at hR
theorem zqh{s:ByteArray}(hs:s.size<=9223372036854775807)(hR:R (.int .i64 ((s.size / 4+1:Nat):Int)) w):cR 181 #[.string s] w R:=by
 refine za.of (ze2 s R w ?_) λ_ _ h=>h
 show R (.int .i64 _) w
 rw[znZ hs]
 exact hR
theorem zqC{s:ByteArray}:nul s=true↔∃k,k<s.size/\Yu s (k:Int)=0:=by
 constructor
 ·intro h
  have hm:=List.contains_iff_mem.1 h
  obtain⟨k,hk,e⟩:=List.mem_iff_getElem.1 hm
  refine⟨k,by simpa using hk,?_⟩
  have hk':k<s.data.size:=by simpa using hk
  unfold Yu
  rw[Int.toNat_natCast,Array.getD_eq_getD_getElem?,Array.getElem?_eq_getElem hk']
  rw[Array.getElem_toList]at e
  rw[Option.getD_some,e]
  rfl
 ·rintro⟨k,hk,e⟩
  cases h:nul s with
  |true=>rfl
  |false=>exact absurd e (zod h hk)
theorem zpb{c:Nat}{a:Ag}{bd:Int}(hs:a.2.2.size<=9223372036854775807)(hR:∀w',Below w.heap.size w w'->R (.int .i64 (zb4 (c:Int) a bd)) w') :
  cR 178 #[.int .u8 (c:Int),.agg #[.int .u8 a.1,.int .u32 a.2.1,.string a.2.2],.int .u32 bd] w R:=by
 refine za.of (zdJ c (a.1,a.2.1,a.2.2,()) bd R w ?_) λ_ _ h=>h
 refine zn λw1 hA1 b1 z1=>?_
 have hA1:Blk w1 w.heap.size 136 [.int .u8 a.1,.int .u32 a.2.1,.string a.2.2]:=hA1
 have key:zb4 (c:Int) a bd=if (c:Int)=0\/a.1≠ZI c then 42 else if (a.1=3/\a.2.1≠0)\/(a.1≠3/\a.2.2.size≠0) then 42
   else if a.1=1/\(a.2.1=0\/bd<=a.2.1) then 43 else if a.1=4/\zca c a.2.1=false then 31 else if nul a.2.2=true then 13 else 0:=rfl
 refine zl.cut (λ_ w'=>Below w1.heap.size w1 w'/\¬((c:Int)=0\/a.1≠ZI c)) ?_ ?_
 ·refine zm (λe=>?_) (λe=>?_)
  ·have:=hR w1.drew b1.drew
   rwa[key,if_pos (.inl e)]at this
  ·refine hA1.drew.rI0 rfl ?_
   refine zlR λw2 b2=>⟨_,rfl,(hA1.drew.below b2).cell0 rfl,?_⟩
   refine zt (λe2=>?_) (λe2=>⟨(Below.refl _ _).drew.on b2,λh=>h.elim e (λh=>h e2)⟩)
   have:=hR w2 (b1.drew.on b2)
   rwa[key,if_pos (.inr e2)]at this
 ·rintro _ w2 ⟨b2,hno⟩
  rw[if_neg hno]at key
  have hA2:=hA1.below b2
  have hb2:=b1.on b2
  refine zl.cut (λ_ w'=>w'=w2/\¬((a.1=3/\a.2.1≠0)\/(a.1≠3/\a.2.2.size≠0))) ?_ ?_
  ·have no:((a.1=3/\a.2.1≠0)\/(a.1≠3/\a.2.2.size≠0))->R (.int .i64 42) w2:=λh=>by
    have:=hR w2 hb2
    rwa[key,if_pos h]at this
   refine hA2.rI0 rfl (zm (λe3=>?_) (λe3=>?_))
   ·refine hA2.rI (n:=1) rfl (zt (λe4=>no (.inl ⟨e3,e4⟩)) (λe4=>?_))
    exact hA2.rI0 rfl (zt (λh=>absurd e3 h) (λ_=>⟨rfl,λh=>h.elim (λh=>h.2 e4) (λh=>h.1 e3)⟩))
   ·refine hA2.rI0 rfl (zt (λ_=>?_) (λh=>absurd h e3))
    refine hA2.rT (n:=2) rfl ?_
    rw[zkv]
    exact zF (zf (λe5=>⟨rfl,λh=>h.elim (λh=>e3 h.1) (λh=>h.2 e5)⟩) (λe5=>no (.inr ⟨e3,e5⟩)))
  ·rintro _ w3 ⟨hw,hno2⟩
   subst hw
   rw[if_neg hno2]at key
   refine zl.cut (λ_ w'=>w'=w3/\¬(a.1=1/\(a.2.1=0\/bd<=a.2.1))) ?_ ?_
   ·refine hA2.rI0 rfl (zm (λe1=>?_) (λe1=>⟨rfl,λh=>e1 h.1⟩))
    refine hA2.rI (n:=1) rfl (zqg ⟨_,rfl,zf (λh=>?_) (λh=>⟨rfl,λh'=>h h'.2⟩)⟩)
    have:=hR w3 hb2
    rwa[key,if_pos ⟨e1,h⟩]at this
   ·rintro _ w4 ⟨hw,hno3⟩
    subst hw
    rw[if_neg hno3]at key
    refine hA2.rI (n:=1) rfl ?_
    refine zqc λs w5 b5=>⟨s,_,rfl,?_⟩
    have hA5:=hA2.below b5
    have hb5:=hb2.on b5
    refine zl.cut (λ_ w'=>w'=w5/\¬(a.1=4/\zca c a.2.1=false)) ?_ ?_
    ·refine hA5.rI0 rfl (zm (λe4=>?_) (λe4=>⟨rfl,λh=>e4 h.1⟩))
     refine zF (zo (λh=>⟨rfl,λh'=>?_⟩) (λh=>?_))
     ·have h2:zca c a.2.1=true:=h
      rw[h'.2]at h2
      cases h2
     ·have:=hR w5 hb5
      rwa[key,if_pos ⟨e4,h⟩]at this
    ·rintro _ w6 ⟨hw,hno4⟩
     subst hw
     rw[if_neg hno4]at key
     refine zk.count a.2.2.size hs (λk w'=>w'=w6/\∀j,j<k->Yu a.2.2 (j:Int)≠0) ⟨rfl,λj hj=>by omega⟩ ?_
     rintro k w7 hk ⟨hw,hj⟩ next hnext
     subst hw
     refine hA5.rT (n:=2) rfl (zf (λh=>?_) (λh=>?_))
     ·have hlt:k<a.2.2.size:=by dsimp only at h;omega
      refine hA5.rT (n:=2) rfl ⟨⟨by omega,by omega⟩,zm (λe=>?_) (λe=>hnext _ hlt ⟨rfl,λj hj'=>?_⟩)⟩
      ·have:=hR _ hb5
       rwa[key,if_pos (zqC.2 ⟨k,hlt,e⟩)]at this
      ·by_cases e':j=k
       ·subst e';exact e
       ·exact hj j (by omega)
     ·have hk':k=a.2.2.size:=by dsimp only at h;omega
      have:=hR _ hb5
      rwa[key,if_neg (λh=>by
       obtain⟨j,hj1,hj2⟩:=zqC.1 h
       exact hj j (by omega) hj2)]at this
theorem zpa{f:Fm}{g:Fl}(hf:FmIs f g)(hg:LOk g){n:Nat}(hn:n<=9223372036854775807)(hR:∀w',Below w.heap.size w w'->R (.bool (YS g n)) w'):cR 179 #[fmA f,.int .i64 (n:Int)] w R:=by
 refine za.of (zdI f n R w ?_) λ_ _ h=>h
 refine zn λw1 hB b1 z1=>?_
 have hB:Blk w1 w.heap.size 187 (fmV f):=hB
 have hR':=hR w1 b1
 have h1:=hg.fl
 unfold YS at hR'
 refine hB.rT (n:=4) rfl ?_
 rw[hf.fixed,zP]
 refine zf (λh=>?_) (λh=>?_)
 ·rwa[if_pos (by omega)]at hR'
 ·rw[if_neg (by omega)]at hR'
  refine hB.rT (n:=5) rfl ?_
  rw[hf.rest,zP]
  refine zm (λe=>?_) (λe=>?_)
  ·refine hB.rT (n:=4) rfl ?_
   rw[hf.fixed,zP]
   rw[if_pos (by omega)]at hR'
   rwa[show((n:Int)==(g.fixed.length:Int))=(n==g.fixed.length) by
    rw[Bool.eq_iff_iff,beq_iff_eq,beq_iff_eq];omega]
  ·refine hB.rT (n:=4) rfl (hB.rT (n:=5) rfl ?_)
   rw[hf.fixed,hf.rest,zP,zP]
   refine zf (λh=>absurd h (by omega)) (λ_=>?_)
   rw[if_neg (by omega)]at hR'
   rw[zq (by omega) (by omega),show(n:Int)-(g.fixed.length:Int)=((n-g.fixed.length:Nat):Int) by omega,
    show Int.tmod ((n-g.fixed.length:Nat):Int) (g.rest.length:Int)=(((n-g.fixed.length) % g.rest.length:Nat):Int) from(Int.ofNat_tmod _ _).symm]
   rwa[show(((((n-g.fixed.length) % g.rest.length:Nat):Int))==(0:Int))=((n-g.fixed.length) % g.rest.length==0) by
    rw[Bool.eq_iff_iff,beq_iff_eq,beq_iff_eq];omega]
theorem zk7{x:Ins}{al:List Ag}{f:Fm}{g:Fl}(hty:f.2.2.1=g.ty)(hre:f.2.2.2.1=g.re)(hI:IsAg w x.2.2.2.1 al)(h24:24*al.length<=140737488351232)(hs:∀y∈al,y.2.2.size<=9223372036854775807)(htx:∀k,k<=al.length->tx al k<=1)
  (hR:∀w',Below w.heap.size w w'->R (.int .i64 (zbp g al:Int)) w'):cR 153 #[inA x,fmA f] w R:=by
 refine za.of (ze8 x f R w ?_) λ_ _ h=>h
 refine zn λw1 hB1 b1 z1=>?_
 have hB1:Blk w1 w.heap.size 50 (inV x):=hB1
 refine zn λw2 hF2 b2 z2=>?_
 have hF2:Blk w2 w1.heap.size 187 (fmV f):=hF2
 have hB2:=hB1.below b2
 have hb2:=b1.on b2
 have hlen:=hI.len
 refine zl.cut (λst w'=>w'=w2/\st.1=((1+g.ty.toNat:Nat):Int)) ?_ ?_
 ·refine hF2.rB (n:=2) rfl ?_
  rw[hty]
  refine zo (λh=>⟨rfl,?_⟩) (λh=>⟨rfl,?_⟩)
  ·rw[h];decide +kernel
  ·rw[h];rfl
 ·rintro⟨n1,_⟩ w3 ⟨hw,hn1⟩
  subst hw
  dsimp only at hn1
  subst hn1
  refine zl.cut (λst w'=>w'=w3/\st.1=((1+g.ty.toNat +g.re.toNat:Nat):Int)) ?_ ?_
  ·refine hF2.rB (n:=3) rfl ?_
   rw[hre]
   have:g.ty.toNat<=1:=by cases g.ty<;>decide
   refine zo (λh=>⟨rfl,?_⟩) (λh=>⟨rfl,?_⟩)
   ·dsimp only
    rw[h,zq (by omega) (by omega)]
    rfl
   ·rw[h];rfl
  ·rintro⟨n2,_⟩ w4 ⟨hw,hn2⟩
   subst hw
   dsimp only at hn2
   subst hn2
   have htn:g.ty.toNat +g.re.toNat<=2:=by cases g.ty<;>cases g.re<;>decide
   refine zk.ghost (λj st w'=>∃k,k<=al.length/\j=al.length-k/\st=(((1+g.ty.toNat +g.re.toNat +zgw al k:Nat):Int),(k:Int),())/\w'=w4) al.length ⟨0,Nat.zero_le _,rfl,rfl,rfl⟩ ?_
   rintro _ _ w5 ⟨k,hk,rfl,rfl,hw⟩ next hnext
   subst hw
   have hI5:=hI.below hb2
   refine hB2.rS (n:=3) rfl (zf (λh=>?_) (λh=>?_))
   ·have hlt:k<al.length:=by dsimp only at h;omega
    have hcn:=zlw hs (k:=k) (by omega)
    have htk:=htx k (by omega)
    have hsz:=hs _ (List.getElem_mem hlt)
    refine zl.cut (λst w'=>w'=w5/\st.1=((1+g.ty.toNat +g.re.toNat +zgw al (k+1):Nat):Int)) ?_ ?_
    ·refine hB2.rS (n:=3) rfl (zp8 hI5 hlt (zm (λe=>?_) (λe=>?_)))
     ·refine hB2.rS (n:=3) rfl (ztM hI5 hlt ?_)
      refine zqh hsz ⟨_,rfl,rfl,?_⟩
      have hc:cost al[k]=al[k].2.2.size / 4+1:=by unfold cost;rw[if_pos e]
      dsimp only
      have hq:al[k].2.2.size / 4<=2305843009213693951:=by omega
      rw[zf2 hlt,hc]
      generalize al[k].2.2.size / 4=q at hq
      rw[zq (by omega) (by omega)]
      omega
     ·refine⟨rfl,?_⟩
      have hc:cost al[k]=1:=by unfold cost;rw[if_neg e]
      dsimp only
      rw[zf2 hlt,hc,zq (by omega) (by omega)]
      omega
    ·rintro⟨n3,_⟩ w6 ⟨hw,hn3⟩
     dsimp only at hn3
     subst hn3
     dsimp only
     rw[zr (by omega)]
     exact hnext (al.length-(k+1)) _ _ (by omega) ⟨k+1,hlt,rfl,rfl,hw⟩
   ·have hk':k=al.length:=by dsimp only at h;omega
    subst hk'
    have:=hR _ hb2
    rwa[show zbp g al=1+g.ty.toNat +g.re.toNat +zgw al al.length by unfold zbp;omega]at this
theorem zoS{x:Ins}{al:List Ag}{bd:Int}(hI:IsAg w x.2.2.2.1 al)(h24:24*al.length<=140737488351232)(hs:∀y∈al,y.2.2.size<=9223372036854775807)
  (hR:∀w',Below w.heap.size w w'->R (.int .i64 (zf7 x.1 x.2.1 x.2.2.1 al bd)) w'):cR 151 #[inA x,.int .u32 bd] w R:=by
 refine za.of (zdG x bd R w ?_) λ_ _ h=>h
 refine zn λw1 hB1 b1 z1=>?_
 have hB1:Blk w1 w.heap.size 50 (inV x):=hB1
 have hlen:=hI.len
 refine hB1.rI0 rfl ?_
 refine zhe λw2 b2=>⟨fmO x.1 (frm x.1),(frm x.1).isSome,rfl,?_⟩
 refine box8 rfl λw3 hF3 b3 z3=>?_
 have hF3:Blk w3 w2.heap.size 187 (fmV (fmO x.1 (frm x.1))):=hF3
 have hB3:=(hB1.below b2).below b3
 have hb3:=(b1.on b2).on b3
 refine zo (λhn=>?_) (λhn=>?_)
 ·have hfr:frm x.1=none:=by
   cases h:frm x.1 with
   |none=>rfl
   |some g=>rw[h]at hn;cases hn
  have:=hR w3 hb3
  rwa[zcb hfr]at this
 ·obtain⟨g,hfr⟩:∃g,frm x.1=some g:=by
   cases h:frm x.1 with
   |none=>rw[h]at hn;cases hn
   |some g=>exact⟨g,rfl⟩
  have efl:flOf x.1=g:=by unfold flOf;rw[hfr];rfl
  have hg:=lOk (zjb x.1)
  have hfm:=fmIs x.1
  rw[efl]at hg hfm
  rw[hfr]at hF3 hfm
  rw[zcc hfr]at hR
  have hty:(fmO x.1 (some g)).2.2.1=g.ty:=rfl
  have hre:(fmO x.1 (some g)).2.2.2.1=g.re:=rfl
  generalize fmO x.1 (some g)=fm at hF3 hfm hty hre
  have e0:∀k,k<=al.length->errK g x.2.1 x.2.2.1 al bd k≠0->za6 g x.2.1 x.2.2.1 al bd=errK g x.2.1 x.2.2.1 al bd k:=by
   intro k hk h
   have:=zqV hk h
   unfold za6
   rw[this,if_pos h]
  refine hF3.rB (n:=2) rfl (hB3.rI (n:=1) rfl (zoU ⟨_,rfl,?_⟩))
  rw[hty]
  refine zt (λe=>?_) (λe=>?_)
  ·have he:errK g x.2.1 x.2.2.1 al bd 0=idP g.ty x.2.1 bd 40:=by unfold errK;rw[if_pos e]
   have:=hR w3 hb3
   rwa[e0 0 (Nat.zero_le _) (by rw[he];exact e),he]at this
  ·refine hF3.rB (n:=3) rfl (hB3.rI (n:=2) rfl (zoU ⟨_,rfl,?_⟩))
   rw[hre]
   refine zt (λe2=>?_) (λe2=>?_)
   ·have he:errK g x.2.1 x.2.2.1 al bd 0=idP g.re x.2.2.1 bd 41:=by unfold errK;rw[if_neg (λh=>h e),if_pos e2]
    have:=hR w3 hb3
    rwa[e0 0 (Nat.zero_le _) (by rw[he];exact e2),he]at this
   ·have he0:errK g x.2.1 x.2.2.1 al bd 0=0:=by unfold errK;rw[if_neg (λh=>h e),if_neg (λh=>h e2)];rfl
    refine zk.count al.length hI.bound (λk w'=>Below w3.heap.size w3 w'/\errK g x.2.1 x.2.2.1 al bd k=0) ⟨Below.refl _ _,he0⟩ ?_
    rintro k w4 hk ⟨hb,hek⟩ next hnext
    have hB4:=hB3.below hb
    have hF4:=hF3.below hb
    have hb4:=hb3.on hb
    have hI4:=hI.below hb4
    refine hB4.rS (n:=3) rfl (zf (λh=>?_) (λh=>?_))
    ·have hlt:k<al.length:=by dsimp only at h;omega
     obtain⟨a,ha⟩:=hI4.drew.base hlt
     have hc:=λj hj=>hI4.drew.cell a ha k hlt j hj
     refine hB4.drew.rI0 rfl (hB4.drew.rS (n:=3) rfl ⟨⟨by omega,by omega⟩,zj ha ⟨al[k].1,?_,al[k].2.1,?_,al[k].2.2,?_,?_⟩⟩)
     ·rw[zy];exact hc 0 (by omega)
     ·rw[zy];exact hc 1 (by omega)
     ·rw[zy];exact hc 2 (by omega)
     refine zjz (by omega) λw5 b5=>⟨_,rfl,?_⟩
     have hb5:=hb4.drew.on b5
     have hc5:=λj hj=>(hI.below hb5).cell a ha k hlt j hj
     refine⟨?_,?_,?_,(hB4.drew.below b5).cell (n:=3) rfl,?_⟩
     ·rw[zy];exact hc5 0 (by omega)
     ·rw[zy];exact hc5 1 (by omega)
     ·rw[zy];exact hc5 2 (by omega)
     rw[efl]
     refine zpb (a:=al[k]) (hs _ (List.getElem_mem hlt)) λw6 b6=>⟨_,rfl,?_⟩
     have hw:zb4 (letP g k:Int) al[k] bd=werr g al bd k:=by unfold werr;rw[zs hlt]
     rw[hw]
     have hes:=zcX g x.2.1 x.2.2.1 al bd k
     rw[if_pos hek]at hes
     refine zt (λe3=>?_) (λe3=>hnext w6 hlt ⟨((hb.drew.on b5).on b6),hes.trans e3⟩)
     have:=hR w6 (hb5.on b6)
     rwa[e0 (k+1) hlt (by rw[hes];exact e3),hes]at this
    ·have hk':k=al.length:=by dsimp only at h;omega
     subst hk'
     have hff:=zm4 g x.2.1 x.2.2.1 al bd
     dsimp only at hff
     rw[hek,if_pos rfl]at hff
     obtain⟨_,_,ha⟩:=zeZ hek
     have hwe:=zeV ha
     refine Fm.load hF4 (hB4.rS (n:=3) rfl ?_)
     rw[hlen]
     refine zpa hfm hg (by omega) λw5 b5=>⟨_,rfl,?_⟩
     have hb5:=hb4.on b5
     refine zF (zo (λhwt=>?_) (λhwf=>?_))
     ·rw[hwt,if_pos rfl,if_pos rfl]at hff
      refine Ins.load (hB4.below b5) (Fm.load (hF4.below b5) ?_)
      refine zk7 (x:=x) hty hre (hI.below hb5) h24 hs (λk hk=>znL hfr hk (λj hj=>hwe j (by omega))) λw6 b6=>⟨_,rfl,?_⟩
      have:=hR w6 (hb5.on b6)
      refine zf (λhgt=>?_) (λhle=>?_)
      ·rwa[hff,if_pos (by omega)]at this
      ·rwa[hff,if_neg (by omega)]at this
     ·rw[hwf,if_neg (by simp),if_neg (by decide)]at hff
      have:=hR w5 hb5
      rwa[hff]at this
end
theorem zoZ{x:Mo}{pl:List PI}{w:World}{R:VWP}(hN:IsPl w x.2.2.1 pl)(hp:PlOk pl)(hR:∀w',Below w.heap.size w w'->R (.agg #[.int .i64 (zG x.2.1 pl).1,.int .i64 ((zG x.2.1 pl).2:Int)]) w') :
  cR 115 #[moA x] w R:=by
 refine za.of (zdH x R w ?_) λ_ _ h=>h
 refine zn λw1 hB1 b1 z1=>?_
 have hB1:Blk w1 w.heap.size 25 (moV x):=hB1
 refine zn λw2 hC2 b2 z2=>?_
 have hC2:Blk w2 w1.heap.size 29 [.int .i64 0,.int .i64 0]:=hC2
 have hB2:=hB1.below b2
 have hb2:=b1.on b2
 have s1:=b1.size
 have s2:=b2.size
 have hlen:=hN.len
 have h40:=hp.len
 have spot:∀{w' cs},Blk w' w1.heap.size 29 cs->cs.length=2->Below w.heap.size w w'->∀(e a:Int),(e,a)=((zG x.2.1 pl).1,((zG x.2.1 pl).2:Int))->
   Wr w' (blk w1.heap.size)/\Nw (w'.setCell (blk w1.heap.size) (.int .i64 e)) λw3=>Wr w3 ((blk w1.heap.size).add 1)/\Nw (w3.setCell ((blk w1.heap.size).add 1) (.int .i64 a)) λw4=>
    ldI w4 ((blk w1.heap.size).add 0) .i64 λx4=>ldI w4 ((blk w1.heap.size).add 1) .i64 λx5=>R (.agg #[.int .i64 x4,.int .i64 x5]) w4:=by
  intro w' cs hC hl hb e a hea
  refine st2 hC hl λw3 h3 c3=>Sp.load h3 ?_
  rw[Prod.mk.injEq]at hea
  rw[hea.1,hea.2]
  exact hR w3 (c3.below hb (by omega))
 refine zl.cut (λ_ w'=>w'=w2/\¬(x.2.1=0\/65536<x.2.1)) ?_ ?_
 ·refine hB2.rI (n:=1) rfl (zm (λe=>?_) (λe=>?_))
  ·exact spot hC2 rfl hb2 24 0 (by rw[zex (.inl e)];rfl)
  ·refine hB2.rI (n:=1) rfl (zf (λh=>?_) (λh=>⟨rfl,λh'=>h'.elim e h⟩))
   exact spot hC2 rfl hb2 24 0 (by rw[zex (.inr h)];rfl)
 ·rintro _ w' ⟨hw,hbd⟩
  subst hw
  refine zk.ghost (λj st w4=>∃(k:Nat),k<=pl.length/\j=pl.length-k/\st=((totP pl k:Int),(k:Int),())/\totP pl k<=1048576/\(∀i,i<k->badI pl x.2.1 i=false)/\Below w'.heap.size w' w4) pl.length
   ⟨0,Nat.zero_le _,rfl,rfl,(by simp[totP]),λi hi=>by omega,Below.refl _ _⟩ ?_
  rintro _ _ w4 ⟨k,hk,rfl,rfl,htot,hj,hb4⟩ next hnext
  have hbw4:=hb2.on hb4
  have hB4:=hB2.below hb4
  have hC4:=hC2.below hb4
  refine hB4.rS (n:=2) rfl (zf (λh=>?_) (λh=>?_))
  ·have hlt:k<pl.length:=by dsimp only at h;omega
   have hmem:=List.getElem_mem hlt
   refine hB4.drew.rS (n:=2) rfl ?_
   refine yu (hN.below hbw4.drew) hlt λt ht=>?_
   refine hB4.drew.rI (n:=1) rfl ?_
   refine zoS (x:=mkIn pl[k] t) ht (hp.args _ hmem) (hp.text _ hmem) λw6 b6=>⟨_,rfl,?_⟩
   have hb6:=hb4.drew.on b6
   have hbw6:=hb2.on hb6
   have hB6:=hB4.drew.below b6
   have hC6:=hC4.drew.below b6
   show ifB (Ze pl[k] x.2.1 !=0) _ _
   refine zt (λe=>?_) (λe=>?_)
   ·exact spot hC6 rfl hbw6 _ _ (by rw[zkC hbd hlt hj e];rfl)
   ·refine hB6.rS (n:=2) rfl (zco (hN.below hbw6) hlt ?_)
    refine zhe λw7 b7=>⟨fmO pl[k].1 (frm pl[k].1),(frm pl[k].1).isSome,rfl,?_⟩
    refine box8 rfl λw8 hF8 b8 z8=>?_
    have hF8:Blk w8 w7.heap.size 187 (fmV (fmO pl[k].1 (frm pl[k].1))):=hF8
    have b68:=b7.on b8
    have hb8:=hb6.on b68
    have hbw8:=hb2.on hb8
    have hB8:=hB6.below b68
    have hC8:=hC6.below b68
    obtain⟨g,hfr⟩:∃g,frm pl[k].1=some g:=by
     cases h:frm pl[k].1 with
     |none=>
      have:Ze pl[k] x.2.1=30:=by unfold Ze;rw[zcb h]
      rw[e]at this
      cases this
     |some g=>exact⟨g,rfl⟩
    have hff:za6 g pl[k].2.1 pl[k].2.2.1 pl[k].2.2.2 x.2.1=0:=by
     have:Ze pl[k] x.2.1=za6 g pl[k].2.1 pl[k].2.2.1 pl[k].2.2.2 x.2.1:=by unfold Ze;rw[zcc hfr]
     rw[<-this];exact e
    have hek:errK g pl[k].2.1 pl[k].2.2.1 pl[k].2.2.2 x.2.1 pl[k].2.2.2.length=0:=by
     refine Classical.byContradiction λhne=>?_
     unfold za6 at hff
     rw[if_pos hne]at hff
     exact hne hff
    obtain⟨_,_,hak⟩:=zeZ hek
    have hwe:=zeV hak
    have hroom:zbp g pl[k].2.2.2<=65535:=by
     unfold za6 at hff
     rw[if_neg (λh=>h hek)]at hff
     split at hff
     ·cases hff
     ·split at hff
      ·cases hff
      ·rename_i h;omega
    have hri:zgx pl[k]=zbp g pl[k].2.2.2:=by unfold zgx;rw[hfr]
    rw[hfr]at hF8
    have hty:(fmO pl[k].1 (some g)).2.2.1=g.ty:=rfl
    have hre:(fmO pl[k].1 (some g)).2.2.2.1=g.re:=rfl
    generalize fmO pl[k].1 (some g)=fm at hF8 hty hre
    refine hB8.drew.rS (n:=2) rfl ?_
    refine yu (hN.below hbw8.drew) hlt λt' ht'=>?_
    refine Fm.load hF8.drew ?_
    refine zk7 (x:=mkIn pl[k] t') hty hre ht' (hp.args _ hmem) (hp.text _ hmem) (λi hi=>znL hfr hi (λj hj=>hwe j (by omega))) λw9 b9=>⟨_,rfl,?_⟩
    have hb9:=hb8.drew.on b9
    have hbw9:=hb2.on hb9
    have ht1:=zkl hlt
    have hsum:IntKind.i64.wrap ((totP pl k:Int)+(zbp g pl[k].2.2.2:Int))=(totP pl (k+1):Int):=by
     rw[zq (by omega) (by omega)]
     omega
    dsimp only
    rw[hsum]
    refine zf (λhgt=>?_) (λhle=>?_)
    ·exact spot (hC8.drew.below b9) rfl hbw9 _ _ (by rw[zkD hbd hlt hj e (by omega)])
    ·have hbk:=zlr hlt e (show ¬1048576<totP pl (k+1) by omega)
     rw[zr (by omega)]
     refine hnext (pl.length-(k+1)) _ _ (by omega) ⟨k+1,hlt,rfl,rfl,by omega,λi hi=>?_,hb9⟩
     by_cases e':i=k
     ·subst e';exact hbk
     ·exact hj i (by omega)
  ·have hk':k=pl.length:=by dsimp only at h;omega
   subst hk'
   exact spot hC4 rfl hbw4 0 0 (by rw[zlV hbd hj];rfl)
def idsN(ty:Int)(al:List Ag)(k:Nat):List Int:=(if ty=0 then [] else [ty])++((al.take k).filter λa=>a.1==1).map (·.2.1)
def idsP(ty:Int)(al:List Ag):List Int:=idsN ty al al.length
theorem zhq{ty:Int}{al:List Ag}{k:Nat}(hk:k<al.length):idsN ty al (k+1)=idsN ty al k++(if al[k].1=1 then [al[k].2.1] else []):=by
 unfold idsN
 rw[List.take_succ_eq_append_getElem hk,List.filter_append,List.map_append,<-List.append_assoc]
 congr 1
 by_cases e:al[k].1=1
 ·rw[if_pos e]
  have:(al[k].1==1)=true:=beq_iff_eq.2 e
  simp[this]
 ·rw[if_neg e]
  have:(al[k].1==1)=false:=beq_eq_false_iff_ne.2 e
  simp[this]
theorem zoz(ty:Int)(al:List Ag)(k:Nat):(idsN ty al k).length<=k+1:=by
 unfold idsN
 rw[List.length_append,List.length_map]
 have h1:=List.length_filter_le (λa:Ag=>a.1==1) (al.take k)
 rw[List.length_take]at h1
 have h2:(if ty=0 then([]:List Int) else [ty]).length<=1:=by split<;>simp
 omega
section
variable {x:Ins} {al:List Ag} {w:World} {R:VWP}
theorem zi7(hI:IsAg w x.2.2.2.1 al)(h24:24*al.length<=140737488351232)
  (hR:∀r w',Own w' 22 1 r ((idsP x.2.1 al).map (Value.int .u32))->zz w.heap.size r->Below w.heap.size w w'->R (.slice r.a r.l r.c) w'):cR 69 #[inA x] w R:=by
 refine za.of (zlu x R w ?_) λ_ _ h=>h
 refine zn λw1 hB b1 z1=>?_
 have hB:Blk w1 w.heap.size 50 (inV x):=hB
 have hlen:=hI.len
 refine zl.cut (λst w'=>Own w' 22 1 st.1 ((idsN x.2.1 al 0).map (Value.int .u32))/\zz w1.heap.size st.1/\Below w1.heap.size w1 w') ?_ ?_
 ·refine hB.rI (n:=1) rfl (zt (λe=>?_) (λe=>?_))
  ·refine hB.rI (n:=1) rfl ?_
   refine zn λw2 h2 b2 z2=>?_
   refine y8 eU32 (Own.nil _ _ _) b2 (λa ha=>by cases ha) (v:=.int .u32 x.2.1) rfl h2 (by decide) (by decide) λr w3 h3 b3 F3=>⟨?_,F3,b3⟩
   unfold idsN
   rw[if_neg e]
   simpa using h3
  ·refine⟨?_,λa ha=>by(cases ha),Below.refl _ _⟩
   unfold idsN
   rw[if_pos e]
   simpa using Own.nil w1 22 1
 ·rintro⟨r0,_⟩ w2 ⟨hO2,hF2,hb2⟩
  dsimp only at hO2 hF2⊢
  refine(hB.below hb2).rS (n:=3) rfl ?_
  refine zk.countSl al.length hI.bound (λk r w'=>Own w' 22 1 r ((idsN x.2.1 al k).map (Value.int .u32))/\zz w1.heap.size r/\Below w1.heap.size w1 w') ⟨hO2,hF2,hb2⟩ ?_
  rintro k r w3 hk ⟨hO,hF,hb⟩ next hnext
  have hb0:=b1.on hb
  have hI3:=hI.below hb0
  refine zf (λh=>?_) (λh=>?_)
  ·have hlt:k<al.length:=by dsimp only at h;omega
   refine zl.cut (λst w'=>Own w' 22 1 st.1 ((idsN x.2.1 al (k+1)).map (Value.int .u32))/\zz w1.heap.size st.1/\Below w1.heap.size w1 w') ?_ ?_
   ·refine zir hI3 hlt ?_
    refine box3 rfl λw4 h4 b4 z4=>?_
    have hrl:r.l<=k+1:=by have:=hO.1;have h2:=zoz x.2.1 al k;rw[List.length_map]at this;omega
    refine h4.rI0 rfl (zm (λe=>?_) (λe=>?_))
    ·refine h4.rI (n:=1) rfl ?_
     refine zn λw5 h5 b5 z5=>?_
     refine y8 eU32 ((hO.below b4).below b5) ((hb.on b4).on b5) hF (v:=.int .u32 al[k].2.1) rfl h5 (by omega) (by omega) λr' w6 h6 b6 F6=>⟨?_,F6,b6⟩
     rw[zhq hlt,if_pos e,List.map_append]
     exact h6
    ·refine⟨?_,hF,hb.on b4⟩
     rw[zhq hlt,if_neg e,List.append_nil]
     exact hO.below b4
   ·rintro⟨r',_⟩ w' ⟨h1,h2,h3⟩
    exact hnext r' w' hlt ⟨h1,h2,h3⟩
  ·have hk:k=al.length:=by dsimp only at h;omega
   subst hk
   exact hR r w3 hO (λa ha=>by have:=hF a ha;have:=b1.size;omega) hb0
theorem zke(hI:IsAg w x.2.2.2.1 al)(h24:24*al.length<=140737488351232)
  (hR:∀r w',Own w' 22 1 r ((idsP x.2.1 al).map (Value.int .u32))->zz w.heap.size r->Below w.heap.size w w'->R (.slice r.a r.l r.c) w'):cR 88 #[inA x] w R:=by
 refine za.of (zff x R w ?_) λ_ _ h=>h
 refine zn λw1 hB b1 z1=>?_
 have hB:Blk w1 w.heap.size 50 (inV x):=hB
 have hlen:=hI.len
 refine zl.cut (λst w'=>Own w' 22 1 st.1 ((idsN x.2.1 al 0).map (Value.int .u32))/\zz w1.heap.size st.1/\Below w1.heap.size w1 w') ?_ ?_
 ·refine hB.rI (n:=1) rfl (zt (λe=>?_) (λe=>?_))
  ·refine hB.rI (n:=1) rfl ?_
   refine zn λw2 h2 b2 z2=>?_
   refine y8 eU32 (Own.nil _ _ _) b2 (λa ha=>by cases ha) (v:=.int .u32 x.2.1) rfl h2 (by decide) (by decide) λr w3 h3 b3 F3=>⟨?_,F3,b3⟩
   unfold idsN
   rw[if_neg e]
   simpa using h3
  ·refine⟨?_,λa ha=>by(cases ha),Below.refl _ _⟩
   unfold idsN
   rw[if_pos e]
   simpa using Own.nil w1 22 1
 ·rintro⟨r0,_⟩ w2 ⟨hO2,hF2,hb2⟩
  dsimp only at hO2 hF2⊢
  refine zk.countSl al.length hI.bound (λk r w'=>Own w' 22 1 r ((idsN x.2.1 al k).map (Value.int .u32))/\zz w1.heap.size r/\Below w1.heap.size w1 w') ⟨hO2,hF2,hb2⟩ ?_
  rintro k r w3 hk ⟨hO,hF,hb⟩ next hnext
  have hb0:=b1.on hb
  have hI3:=hI.below hb0
  have hB3:=hB.below hb
  refine hB3.rS (n:=3) rfl (zf (λh=>?_) (λh=>?_))
  ·have hlt:k<al.length:=by dsimp only at h;omega
   refine zl.cut (λst w'=>Own w' 22 1 st.1 ((idsN x.2.1 al (k+1)).map (Value.int .u32))/\zz w1.heap.size st.1/\Below w1.heap.size w1 w') ?_ ?_
   ·have hrl:r.l<=k+1:=by have:=hO.1;have h2:=zoz x.2.1 al k;rw[List.length_map]at this;omega
    refine hB3.rS (n:=3) rfl (zp8 hI3 hlt (zm (λe=>?_) (λe=>?_)))
    ·refine hB3.rS (n:=3) rfl (zbt hI3 hlt ?_)
     refine zn λw5 h5 b5 z5=>?_
     refine y8 eU32 (hO.below b5) (hb.on b5) hF (v:=.int .u32 al[k].2.1) rfl h5 (by omega) (by omega) λr' w6 h6 b6 F6=>⟨?_,F6,b6⟩
     rw[zhq hlt,if_pos e,List.map_append]
     exact h6
    ·refine⟨?_,hF,hb⟩
     rw[zhq hlt,if_neg e,List.append_nil]
     exact hO
   ·rintro⟨r',_⟩ w' ⟨h1,h2,h3⟩
    exact hnext r' w' hlt ⟨h1,h2,h3⟩
  ·have hk:k=al.length:=by dsimp only at h;omega
   subst hk
   exact hR r w3 hO (λa ha=>by have:=hF a ha;have:=b1.size;omega) hb0
end
theorem Fr.low{B:Nat}{X:Nat->Prop}{w0 w w':World}(h:Fr w.heap.size X w w')(hb:Below B w0 w)(hX:∀k,X k->B<=k)(hB:B<=w.heap.size):Below B w0 w':=
 hb.trans ⟨h.os,h.tape,h.output,h.size,λk hk=>h.block k (by omega) (λx=>by have:=hX k x;omega)⟩
theorem Fr.on{X:Nat->Prop}{w w1 w2:World}(h:Fr w.heap.size X w w1)(k:Fr w1.heap.size X w1 w2):Fr w.heap.size X w w2:=h.trans (k.mono h.size λ_ _ x=>x)
theorem Chg.fr{b:Nat}{w w':World}(h:Chg b w w'){B:Nat}:Fr B (λk=>k=b) w w':=⟨h.os,h.tape,h.output,Nat.le_of_eq h.size.symm,λk _ hk=>h.block k hk⟩
theorem Fr.wide{B:Nat}{X X':Nat->Prop}{w w':World}(h:Fr B X w w')(hX:∀k,X k->X' k):Fr B X' w w':=h.mono (Nat.le_refl _) λk _ x=>hX k x
theorem Fr.own{X:Nat->Prop}{w w':World}(h:Fr w.heap.size X w w'){T:TypeId}{sz:Nat}{s:Sl}{xs:List Value}(hO:Own w T sz s xs)(hX:∀b,s.a=some (blk b)->¬X b):Own w' T sz s xs:=
 hO.of_block λa ha=>by
  obtain⟨e,hlt⟩:=hO.lt ha
  exact h.block _ hlt (hX _ (by rw[<-e];exact ha))
theorem Fr.blk{X:Nat->Prop}{w w':World}(h:Fr w.heap.size X w w'){T:TypeId}{b:Nat}{xs:List Value}(hO:Blk w b T xs)(hX:¬X b):Blk w' b T xs:=hO.of_block (h.block _ hO.lt hX)
theorem zcR{P:Program}{t e:TypeId}{sz bytes:Nat}(he:YT P t e sz bytes){w:World}{s:Sl}{xs vs:List Value}(h:Own w e sz s xs)(hl:vs.length=sz)(hv:∀u∈vs,u.oneCell'=true){b c:Nat}{T:TypeId}
  (hB:Blk w b T vs) (h63:s.l+1<=9223372036854775807) (hbytes:(s.l+1)*bytes<=140737488355328) {k:Sl->World->Prop}
  (hk:∀r w' b',Own w' e sz r (xs++vs)->r.l=s.l+1->r.a=some (blk b')->(s.a=some (blk b')\/b'=w.heap.size)->Fr w.heap.size (λk=>s.a=some (blk k)) w w'->k r w') :
  zp P t (.slice s.a s.l s.c) (.slice (some (blk b)) 1 c) w k:=by
 refine ZX he h (news:=vs) (by omega) (λj u hj=>hB.cell hj) hv h63 hbytes λr w' h1 hl' hg=>?_
 rcases hg with⟨_,_,h3⟩ | ⟨b',h3,h4,h5⟩
 ·rw[h3]at hl';omega
 ·refine hk r w' b' h1 hl' h3 h4 ⟨h5.os,h5.tape,h5.output,h5.size,λk hk hx=>h5.block k hk λe=>?_⟩
  cases e
  rcases h4 with h4 |h4
  ·exact hx h4
  ·omega
section
variable {x:Ins} {al:List Ag} {w:World} {R:VWP}
abbrev piOf(x:Ins)(al:List Ag):PI:=(x.1,x.2.1,x.2.2.1,al)
theorem zjW{p:PI}{h:0<p.2.2.2.length}:zic p=(p.1==59&&p.2.2.2[0].2.1==7):=by
 obtain⟨o,t,r,l⟩:=p
 cases l with
 |nil=>exact absurd h (Nat.lt_irrefl _)
 |cons a r=>rfl
theorem zmn(hI:IsAg w x.2.2.2.1 al)(hR:∀w',Below w.heap.size w w'->R (.bool (zic (piOf x al))) w'):cR 167 #[inA x] w R:=by
 refine za.of (zg7 x R w ?_) λ_ _ h=>h
 refine zn λw1 hB b1 z1=>?_
 have hB:Blk w1 w.heap.size 50 (inV x):=hB
 have hlen:=hI.len
 refine hB.rI0 rfl (zm (λe1=>?_) (λe1=>?_))
 ·refine hB.rS (n:=3) rfl (zf (λh=>?_) (λh=>?_))
  ·have h0:0<al.length:=by omega
   refine hB.rS (n:=3) rfl (zbt (hI.below b1) (k:=0) h0 ?_)
   have:=hR w1 b1
   rw[zjW (p:=piOf x al) (h:=h0),beq_iff_eq.2 e1,Bool.true_and]at this
   exact this
  ·have h0:al=[]:=List.length_eq_zero_iff.1 (by omega)
   have:=hR w1 b1
   subst h0
   unfold zic at this
   rw[Bool.and_false]at this
   exact this
 ·have:=hR w1 b1
  unfold zic at this
  rw[beq_eq_false_iff_ne.2 e1,Bool.false_and]at this
  exact this
theorem zox(op:Int):(fmO op (frm op)).2.2.2.2.2.2.2.1=((zci op:Nat):Int):=by
 unfold zci
 cases frm op<;>rfl
theorem zmQ(hI:IsAg w x.2.2.2.1 al)(hR:∀w',Below w.heap.size w w'->R (.int .u8 (zx (piOf x al):Int)) w'):cR 138 #[inA x] w R:=by
 refine za.of (zjo x R w ?_) λ_ _ h=>h
 refine zn λw1 hB b1 z1=>?_
 have hB:Blk w1 w.heap.size 50 (inV x):=hB
 refine Ins.load hB ?_
 refine zmn (x:=x) (hI.below b1) λw2 b2=>⟨_,rfl,?_⟩
 have hb2:=b1.on b2
 refine zo (λhv=>?_) (λhv=>?_)
 ·have:=hR w2 hb2
  unfold zx at this
  rw[if_pos hv]at this
  exact this
 ·refine(hB.below b2).rI0 rfl (zjf λw3 b3=>⟨fmO x.1 (frm x.1),(frm x.1).isSome,rfl,?_⟩)
  refine box8 rfl λw4 hF4 b4 z4=>?_
  refine hF4.rI (n:=7) rfl ?_
  have:=hR w4 ((hb2.on b3).on b4)
  unfold zx at this
  rw[if_neg (by rw[hv];decide)]at this
  rw[zox]
  exact this
theorem zqJ{op:Int}(hR:R (.bool (zZ op)) w):cR 168 #[.int .u16 op] w R:=by
 refine za.of (zjm op R w ?_) λ_ _ h=>h
 refine zf (λh=>?_) (λh=>?_)
 ·have:zZ op=decide (op<=255):=by
   unfold zZ
   exact decide_eq_decide.2 ⟨λg=>g.2,λg=>⟨h,g⟩⟩
  rwa[this]at hR
 ·have:zZ op=false:=zf6.2 (by omega)
  rwa[this]at hR
theorem zsr{mg en:Int}(hR:R (.bool (mayI mg en)) w):cR 140 #[.int .u16 mg,.int .u16 en] w R:=by
 refine za.of (zjZ mg en R w ?_) λ_ _ h=>h
 unfold mayI at hR
 refine zm (λe=>?_) (λe=>?_)
 ·rwa[if_pos e]at hR
 rw[if_neg e]at hR
 refine zm (λe=>?_) (λe=>?_)
 ·rwa[if_pos e]at hR
 rw[if_neg e]at hR
 refine zm (λe=>?_) (λe=>?_)
 ·rwa[if_pos e]at hR
 ·rwa[if_neg e]at hR
theorem zrd(hI:IsAg w x.2.2.2.1 al)(hR:∀w',Below w.heap.size w w'->R (.int .i64 (kdP (piOf x al))) w'):cR 139 #[inA x] w R:=by
 refine za.of (zjn x R w ?_) λ_ _ h=>h
 refine zn λw1 hB b1 z1=>?_
 have hB:Blk w1 w.heap.size 50 (inV x):=hB
 refine Ins.load hB ?_
 refine zmQ (x:=x) (hI.below b1) λw2 b2=>⟨_,rfl,?_⟩
 have hb2:=b1.on b2
 have hB2:=hB.below b2
 have hR:=hR w2 hb2
 unfold kdP at hR
 refine zt (λe=>?_) (λe=>?_)
 ·rwa[if_pos (λh=>e (by rw[h];rfl))]at hR
 rw[if_neg (λh=>h (by omega))]at hR
 refine hB2.rI0 rfl ?_
 refine zm (λe=>?_) (λe=>?_)
 ·rwa[if_pos e]at hR
 rw[if_neg e]at hR
 refine zm (λe=>?_) (λe=>?_)
 ·rwa[if_pos e]at hR
 rw[if_neg e]at hR
 refine zm (λe=>?_) (λe=>?_)
 ·rwa[if_pos e]at hR
 rw[if_neg e]at hR
 refine zm (λe=>?_) (λe=>?_)
 ·rwa[if_pos e]at hR
 rw[if_neg e]at hR
 refine zm (λe=>?_) (λe=>?_)
 ·rwa[if_pos e]at hR
 rw[if_neg e]at hR
 refine zm (λe=>?_) (λe=>?_)
 ·rwa[if_pos e]at hR
 rw[if_neg e]at hR
 refine zm (λe=>?_) (λe=>?_)
 ·rwa[if_pos e]at hR
 rw[if_neg e]at hR
 refine zm (λe=>?_) (λe=>?_)
 ·rwa[if_pos e]at hR
 rw[if_neg e]at hR
 refine hB2.rI0 rfl (zqJ ⟨_,rfl,zo (λh=>?_) (λh=>?_)⟩)
 ·rwa[if_pos h]at hR
 ·rwa[if_neg (by rw[h];decide)]at hR
end
abbrev ctV(s:Sl)(n:Int)(ps:List Int)(f:Sl):List Value:=.slice s.a s.l s.c ::.int .i64 n::(ps.map (Value.int .i64)++[.slice f.a f.l f.c])
structure Ct (w0 w:World) (bc:Nat) (s:Sl) (n:Nat) (ps:List Int) (f:Sl):Prop where
 hi:w0.heap.size<=bc
 b0:Below w0.heap.size w0 w
 blk:Blk w bc 100 (ctV s n ps f)
 len:ps.length=20
section
variable {w0 w:World} {bc n:Nat} {s f:Sl} {ps:List Int} {pl:List PI} {R:VWP}
theorem Ct.below{w':World}(h:Ct w0 w bc s n ps f)(hb:Below w.heap.size w w'):Ct w0 w' bc s n ps f:=⟨h.hi,h.b0.on hb,h.blk.below hb,h.len⟩
theorem Ct.fr{w':World}{X:Nat->Prop}(h:Ct w0 w bc s n ps f)(hf:Fr w.heap.size X w w')(hX:∀k,X k->w0.heap.size<=k)(hne:¬X bc):Ct w0 w' bc s n ps f:=
 ⟨h.hi,hf.low h.b0 hX h.b0.size,hf.blk h.blk hne,h.len⟩
theorem Ct.mem(h:Ct w0 w bc s n ps f)(hN:IsPl w0 s pl):IsPl w s pl:=hN.below h.b0
theorem Ct.at_(h:Ct w0 w bc s n ps f){φ:Int->Prop}(hφ:φ n):zc (some (Gk.blk bc)) λa=>ldI w (a.add 1) .i64 φ:=zj rfl (h.blk.rI (n:=1) rfl hφ)
theorem Ct.sl(h:Ct w0 w bc s n ps f){φ:Sl->Prop}(hφ:φ s):zc (some (Gk.blk bc)) λa=>ldS w a φ:=zj rfl ⟨s,h.blk.cell0 rfl,hφ⟩
theorem Ct.drew(h:Ct w0 w bc s n ps f):Ct w0 w.drew bc s n ps f:=⟨h.hi,h.b0.drew,h.blk.drew,h.len⟩
theorem Ct.inc(h:Ct w0 w bc s n ps f)(hn:n<9223372036854775807){K:World->Prop}(hK:∀w',Ct w0 w' bc s (n+1) ps f->Chg bc w w'->K w') :
  zc (some (Gk.blk bc)) λa1=>ldI w (a1.add 1) .i64 λx=>zc (some (Gk.blk bc)) λa2=>Wr w (a2.add 1)/\Nw (w.setCell (a2.add 1) (.int .i64 (IntKind.i64.wrap (x+(1:Int))))) K:=by
 refine h.at_ (zj rfl ⟨h.blk.wr (by simp),Nw.gen λw' e=>?_⟩)
 rw[zr hn]at e
 have c:Chg bc w w':=by rw[e];exact Chg.set _ _ _ _
 refine hK w' ⟨h.hi,c.below h.b0 h.hi,?_,h.len⟩ c
 rw[e]
 exact h.blk.set 1 _
def kn(pl:List PI)(n:Nat):Int:=if n<pl.length then kdP (ix pl n) else -1
theorem zkz{k:Int}(h:kn pl n=k)(hk:k≠-1):n<pl.length/\kdP (ix pl n)=k:=by
 unfold kn at h
 split at h
 ·exact⟨by assumption,h⟩
 ·exact absurd h.symm hk
theorem zjk{k:Int}(h:kn pl n≠k):n<pl.length->kdP (ix pl n)≠k:=by
 intro hn e
 unfold kn at h
 rw[if_pos hn]at h
 exact h e
theorem yg{k:Nat}(h:k<pl.length):ix pl k=pl[k]:=zs h
theorem zag(h:Ct w0 w bc s n ps f)(hN:IsPl w0 s pl)(hn:n<=pl.length)(hR:∀w',Below w.heap.size w w'->R (.int .i64 (kn pl n)) w') :
  cR 104 #[.pointer (some (blk bc))] w R:=by
 refine za.of (zeC _ R w ?_) λ_ _ h=>h
 have hlen:=hN.len
 have bd:Below w.heap.size w w.drew:=(Below.refl _ _).drew
 refine h.drew.at_ (h.drew.sl ?_)
 unfold kn at hR
 refine zm (λe=>?_) (λe=>?_)
 ·rw[if_neg (by omega)]at hR
  exact hR _ bd
 ·have hlt:n<pl.length:=by omega
  rw[if_pos hlt,yg hlt]at hR
  refine h.drew.drew.sl (h.drew.drew.at_ ?_)
  refine yu (h.drew.drew.mem hN) hlt λt ht=>?_
  refine zrd (x:=mkIn pl[n] t) ht λw1 b1=>⟨_,rfl,hR w1 (bd.drew.on b1)⟩
def zd5(a b:Nat):List Int:=(List.range (b-a)).map λi=>((a+i:Nat):Int)
theorem zqa(a:Nat):zd5 a a=[]:=by unfold zd5;simp
theorem zpZ(a b:Nat):(zd5 a b).length=b-a:=by unfold zd5;simp
theorem zoO{a b:Nat}(h:a<=b):zd5 a (b+1)=zd5 a b++[(b:Int)]:=by
 unfold zd5
 rw[show b+1-a=(b-a)+1 by omega,List.range_succ,List.map_append]
 simp
 omega
theorem zhz{k:Int}(h:Ct w0 w bc s n ps f)(hN:IsPl w0 s pl)(hn:n<=pl.length)(h40:40*pl.length<=140737488351232)(hk:k≠-1)
  (hR:∀(r:Sl) n' w',n<=n'->n'<=pl.length->(∀j,n<=j->j<n'->kdP (ix pl j)=k)->(n'<pl.length->kdP (ix pl n')≠k)->Ct w0 w' bc s n' ps f->Fr w.heap.size (λk=>k=bc) w w'->
   Own w' 3 1 r ((zd5 n n').map (Value.int .i64))->zz w.heap.size r->R (.slice r.a r.l r.c) w') :
  cR 105 #[.pointer (some (blk bc)),.int .i64 k] w R:=by
 refine za.of (zfl _ k R w ?_) λ_ _ h=>h
 refine zk.ghost (λj (st:Sl×Unit) w'=>∃n',j=pl.length-n'/\n<=n'/\n'<=pl.length/\(∀j,n<=j->j<n'->kdP (ix pl j)=k)/\Ct w0 w' bc s n' ps f/\Fr w.heap.size (λk=>k=bc) w w'/\
   Own w' 3 1 st.1 ((zd5 n n').map (Value.int .i64))/\zz w.heap.size st.1) (pl.length-n)
  ⟨n,rfl,Nat.le_refl _,hn,λj h1 h2=>by omega,h,Fr.refl _ _ _,by rw[zqa];exact Own.nil _ _ _,λa ha=>by cases ha⟩ ?_
 rintro _ ⟨r,_⟩ w1 ⟨n',rfl,h1,h2,h3,h4,h5,h6,h7⟩ next hnext
 dsimp only at h6 h7
 refine zag h4 hN h2 λw2 b2=>⟨_,rfl,?_⟩
 have h42:=h4.below b2
 have h52:=h5.on (Fr.of_below b2)
 have h62:=h6.below b2
 refine zm (λe=>?_) (λe=>?_)
 ·obtain⟨hlt,hkd⟩:=zkz e hk
  refine h42.at_ (zn λw3 hB3 b3 z3=>?_)
  have hB3:Blk w3 w2.heap.size 3 [.int .i64 (n':Int)]:=hB3
  have hlr:r.l=n'-n:=by have:=h6.1;rw[List.length_map,zpZ]at this;omega
  have hbd:bc<w.heap.size:=h.blk.lt
  refine zcR eInt (h62.below b3) rfl (by simp[Value.oneCell']) hB3 (by omega) (by omega) λr' w4 b' hO4 hl4 ha4 hw4 f4=>?_
  have s2:=b2.size
  have s5:=h5.size
  have hne:¬(r.a=some (blk bc)):=λe=>by have:=h7 _ e;exact absurd this (Nat.not_le.2 hbd)
  have hfr:∀k,r.a=some (blk k)->w.heap.size<=k:=λk e=>h7 _ e
  have h44:Ct w0 w4 bc s n' ps f:=(h42.below b3).fr f4 (λk e=>Nat.le_trans h.b0.size (hfr k e)) hne
  have h54:Fr w.heap.size (λk=>k=bc) w w4:=(h52.on (Fr.of_below b3)).trans ⟨f4.os,f4.tape,f4.output,f4.size,λk hk hx=>f4.block k (by have:=b3.size;omega) λe=>by have:=hfr k e;omega⟩
  refine h44.inc (by omega) λw5 h55 c5=>?_
  refine hnext (pl.length-(n'+1)) _ _ (by omega) ⟨n'+1,rfl,by omega,hlt,λj g1 g2=>?_,h55,h54.trans c5.fr,?_,?_⟩
  ·by_cases ej:j=n'
   ·subst ej;exact hkd
   ·exact h3 j g1 (by omega)
  ·rw[zoO h1,List.map_append]
   refine hO4.of_block λa ha=>c5.block _ λe=>?_
   rw[ha4]at ha
   cases ha
   have e:b'=bc:=e
   subst e
   rcases hw4 with g |g
   ·exact hne g
   ·have:=b3.size;omega
  ·intro a ha
   rw[ha4]at ha
   cases ha
   show w.heap.size<=b'
   rcases hw4 with g |g
   ·exact hfr _ g
   ·have:=b3.size;omega
 ·exact hR r n' w2 h1 h2 h3 (zjk e) h42 h52 h62 h7
end
theorem yP{w w':World}(hb:Below w.heap.size w w'){a:Addr}{v:Value}(h:w.cell? a=some v):w'.cell? a=some v:=by
 rw[World.cell?_of_block (w:=w) (hb.block _ (World.block_lt_of_cell? w _ h))]
 exact h
theorem zq1{w:World}{s:Sl}{pl:List PI}(h:IsPl w s pl){k:Nat}(hk:k<pl.length){φ:Addr->Int->Prop}(hφ:∀a,w.cell? ((a.add (Int.toNat (k:Int)*4)).add 2)=some (.int .u32 pl[k].2.2.1)->φ a pl[k].2.2.1) :
  (0<=(k:Int)/\(k:Int)<(s.l:Int))/\zc s.a λa=>ldI w ((a.add (Int.toNat (k:Int)*4)).add 2) .u32 λx=>φ a x:=by
 obtain⟨a,ha⟩:=h.base hk
 obtain⟨t,h1,h2⟩:=h.elem a ha k hk
 have hc:w.cell? ((a.add (Int.toNat (k:Int)*4)).add 2)=some (.int .u32 pl[k].2.2.1):=by rw[zy];exact h1 2 (by omega)
 exact⟨⟨by omega,by have:=h.len;omega⟩,zj ha ⟨_,hc,hφ a hc⟩⟩
abbrev fnV(f:FnL)(tp tb:Sl):List Value:=[.int .u32 f.id,.int .i64 f.at_,.slice tp.a tp.l tp.c,.slice tb.a tb.l tb.c,.int .i64 f.en]
abbrev blV(b:Int×Int×Int):List Value:=[.int .u32 b.1,.int .i64 b.2.1,.int .i64 b.2.2]
theorem eBlk:YT Tryz.prog 44 42 3 24:=⟨by kernel_rfl,Tryz.t42,.agg #[.int .u32 0,.int .i64 0,.int .i64 0],by kernel_rfl,rfl,rfl,rfl,rfl⟩
theorem eFun:YT Tryz.prog 38 46 5 72:=⟨by kernel_rfl,Tryz.t46,.agg #[.int .u32 0,.int .i64 0,.slice none 0 0,.slice none 0 0,.int .i64 0],by kernel_rfl,rfl,rfl,rfl,rfl⟩
theorem zR{w:World}{T T':TypeId}{sz b:Nat}{s:Sl}{xs cs:List Value}(h:Own w T sz s xs)(hB:Blk w b T' cs)(hT:T≠T'):s.a≠some (Gk.blk b):=λe=>by
 obtain⟨cs',h'⟩:=h.type e
 exact Blk.apart h' hB hT rfl
theorem Zy{w:World}{T T':TypeId}{sz sz':Nat}{s t:Sl}{xs ys:List Value}(h:Own w T sz s xs)(k:Own w T' sz' t ys)(hT:T≠T'){b:Nat}(e:s.a=some (Gk.blk b)):t.a≠some (Gk.blk b):=λe'=>by
 obtain⟨cs',h'⟩:=h.type e
 exact zR k h' (λg=>hT g.symm) e'
section
variable {w0 w:World} {bc n:Nat} {s f:Sl} {ps:List Int} {pl:List PI} {R:VWP}
theorem zqz{i:Nat}{v:Int}(hi:i<ps.length):(ctV s n ps f).set (2+i) (.int .i64 v)=ctV s n (ps.set i v) f:=by
 have e:2+i=i+1+1:=by omega
 show(Value.slice s.a s.l s.c::Value.int .i64 n::(ps.map (Value.int .i64)++[.slice f.a f.l f.c])).set (2+i) _=_
 rw[e,List.set_cons_succ,List.set_cons_succ,List.set_append_left _ _ (by simpa using hi),<-List.map_set]
theorem zrN(hps:ps.length=20):(ctV s n ps f)[22]? =some (.slice f.a f.l f.c):=by
 show(Value.slice s.a s.l s.c::Value.int .i64 n::(ps.map (Value.int .i64)++[.slice f.a f.l f.c]))[22]? =_
 rw[List.getElem?_cons_succ,List.getElem?_cons_succ,List.getElem?_append_right (by simp[hps])]
 simp[hps]
theorem zrO{g:Sl}(hps:ps.length=20):(ctV s n ps f).set 22 (.slice g.a g.l g.c)=ctV s n ps g:=by
 show(Value.slice s.a s.l s.c::Value.int .i64 n::(ps.map (Value.int .i64)++[.slice f.a f.l f.c])).set 22 _=_
 rw[List.set_cons_succ,List.set_cons_succ,List.set_append_right _ _ (by simp[hps])]
 simp[hps]
theorem znr(hps:ps.length=20):(ctV s n ps f).length=23:=by simp[hps]
theorem Ct.part(h:Ct w0 w bc s n ps f){p:Nat}(hp:p<10){x y:Int}{K:World->Prop}(hK:∀w',Ct w0 w' bc s n ((ps.set (2*p) x).set (2*p+1) y) f->Chg bc w w'->K w') :
  zc (some (Gk.blk bc)) λa=>(0<=(p:Int)/\(p:Int)<(10:Int))/\Wr w ((a.add 2).add (Int.toNat (p:Int)*2))/\Nw (w.setCell ((a.add 2).add (Int.toNat (p:Int)*2)) (.int .i64 x)) λw8=>
   Wr w8 (((a.add 2).add (Int.toNat (p:Int)*2)).add 1)/\Nw (w8.setCell (((a.add 2).add (Int.toNat (p:Int)*2)).add 1) (.int .i64 y)) K:=by
 have hps:=h.len
 have e1:((Gk.blk bc).add 2).add (Int.toNat (p:Int)*2)=(Gk.blk bc).add (2+2*p):=by rw[zy,Int.toNat_natCast,Nat.mul_comm]
 have e2:(((Gk.blk bc).add 2).add (Int.toNat (p:Int)*2)).add 1=(Gk.blk bc).add (2+(2*p+1)):=by rw[e1,zy];rfl
 have hl:=znr (s:=s) (n:=n) (f:=f) hps
 refine zj rfl ⟨⟨by omega,by omega⟩,?_⟩
 rw[e1]
 refine⟨h.blk.wr (by omega),Nw.gen λw8 e=>?_⟩
 rw[<-e1,e2]
 have c8:Chg bc w w8:=by rw[e];exact Chg.set _ _ _ _
 have hB8:Blk w8 bc 100 (ctV s n (ps.set (2*p) x) f):=by rw[e,<-zqz (by omega)];exact h.blk.set _ _
 clear e
 have hl8:=znr (s:=s) (n:=n) (f:=f) (ps:=ps.set (2*p) x) (by simpa using hps)
 refine⟨hB8.wr (by omega),Nw.gen λw9 e=>?_⟩
 have c9:Chg bc w8 w9:=by rw[e];exact Chg.set _ _ _ _
 refine hK w9 ⟨h.hi,(c8.trans c9).below h.b0 h.hi,?_,by simpa using hps⟩ (c8.trans c9)
 rw[e,<-zqz (by simp;omega)]
 exact hB8.set _ _
theorem zsP(h:Ct w0 w bc s 0 ps f)(hN:IsPl w0 s pl)(hmax:pl.length<9223372036854775807)
  (hok:∀n ps' w',Ct w0 w' bc s n ps' f->Fr w.heap.size (λk=>k=bc) w w'->InvT pl 8 n->Yh pl 8 n ps'->R (.bool true) w')
  (hbad:∀n ps' w',Ct w0 w' bc s n ps' f->Fr w.heap.size (λk=>k=bc) w w'->zeK pl n->R (.bool false) w') :
  cR 103 #[.pointer (some (blk bc))] w R:=by
 refine za.of (zfm _ R w ?_) λ_ _ h=>h
 have hlen:=hN.len
 refine zk.ghost (λj (st:Int×Unit) w'=>∃(p n:Nat) (ps':List Int),j=8-p/\p<=8/\st=((p:Int),())/\Ct w0 w' bc s n ps' f/\Fr w.heap.size (λk=>k=bc) w w'/\InvT pl p n/\Yh pl p n ps') 8
  ⟨0,0,ps,rfl,by omega,rfl,h,Fr.refl _ _ _,InvT.zero pl,λq hq=>by omega⟩ ?_
 rintro _ _ w1 ⟨p,n,ps',rfl,hp8,rfl,hC,hF,hT,hP⟩ next hnext
 refine zf (λhp=>?_) (λhp=>?_)
 ·have hp:p<8:=by dsimp only at hp;omega
  refine zl.cut (λ_ w'=>∃(n':Nat) (ps2:List Int),Ct w0 w' bc s n' ps2 f/\Fr w.heap.size (λk=>k=bc) w w'/\InvT pl (p+1) n'/\Yh pl (p+1) n' ps2) ?_ ?_
  ·refine hC.at_ ?_
   refine zl.cut (λ_ w'=>∃n',Ct w0 w' bc s n' ps' f/\Fr w.heap.size (λk=>k=bc) w w'/\OutP pl p n n') ?_ ?_
   ·refine zk.ghost (λj _ w'=>∃n',j=pl.length-n'/\Ct w0 w' bc s n' ps' f/\Fr w.heap.size (λk=>k=bc) w w'/\InvP pl p n n') (pl.length-n) ⟨n,rfl,hC,hF,hT.into⟩ ?_
    rintro _ _ w2 ⟨n',rfl,hC2,hF2,hI⟩ next2 hnext2
    have hle:=hI.le
    have outNo:(n'<pl.length->zx (ix pl n')≠p)->OutP pl p n n':=λhno=>
     ⟨hI.lo,hI.le,hI.own,λh1=>hI.out hT h1 hno,λh1=>.inl ⟨hI.one h1,by have:=hI.one h1;subst this;rw[h1]at hno;exact hno⟩⟩
    refine zl.cut (λ_ w'=>Ct w0 w' bc s n' ps' f/\Fr w.heap.size (λk=>k=bc) w w'/\n'<pl.length/\zx (ix pl n')=p) ?_ ?_
    ·have bd:Below w2.heap.size w2 w2.drew:=(Below.refl _ _).drew
     refine zag (hC2.below bd) hN hI.le λw3 b3=>⟨_,rfl,?_⟩
     have hC3:=hC2.below (bd.on b3)
     have hF3:=hF2.trans ((Fr.of_below (bd.on b3)).mono hF2.size λ_ _ x=>x)
     refine zm (λe=>?_) (λe=>?_)
     ·obtain⟨hlt,hk⟩:=zkz e (by decide)
      refine hC3.sl (hC3.at_ ?_)
      refine yu (hC3.mem hN) hlt λt ht=>?_
      refine zmQ (x:=mkIn pl[n'] t) ht λw4 b4=>⟨_,rfl,?_⟩
      have hC4:=hC3.below b4
      have hF4:=hF3.trans ((Fr.of_below b4).mono hF3.size λ_ _ x=>x)
      have hpart:zx (piOf (mkIn pl[n'] t) pl[n'].2.2.2)=zx (ix pl n'):=by rw[yg hlt]
      rw[hpart]
      refine zm (λe2=>?_) (λe2=>?_)
      ·exact⟨hC4,hF4,hlt,by have e2:((zx (ix pl n'):Nat):Int)=(p:Int):=e2;omega⟩
      ·exact⟨n',hC4,hF4,outNo λ_ h=>e2 (by rw[h])⟩
     ·refine⟨n',hC3,hF3,outNo λhlt h=>zjk e hlt ?_⟩
      unfold kdP
      rw[if_pos (by omega)]
    ·rintro _ w5 ⟨hC5,hF5,hlt,hpart⟩
     refine hC5.inc (by omega) λw6 hC6 c6=>?_
     have hF6:=hF5.trans (c6.fr)
     refine zm (λe=>?_) (λe=>?_)
     ·have hp1:p=1:=by dsimp only at e;omega
      have hnn:=hI.one hp1
      subst hnn
      exact⟨n'+1,hC6,hF6,by omega,by omega,λk k1 k2=>by
                                      have:k=n':=by omega
                                      subst this;exact hpart,λh1=>absurd hp1 h1,λ_=>.inr rfl⟩
     ·have hp1:p≠1:=by dsimp only at e;omega
      exact hnext2 (pl.length-(n'+1)) _ _ (by omega) ⟨n'+1,rfl,hC6,hF6,hI.step hT hp hlt hpart hp1⟩
   ·rintro _ w7 ⟨n',hC7,hF7,hO⟩
    have bd:Below w7.heap.size w7 w7.drew:=(Below.refl _ _).drew
    have hC7:=hC7.drew
    have hF7:=hF7.drew
    refine hC7.at_ (hC7.part (by omega) λw9 hC9 c9=>?_)
    have hF9:=hF7.trans c9.fr
    have fin:(p=1->n'≠n)->∃(n'':Nat) (ps2:List Int),Ct w0 w9 bc s n'' ps2 f/\Fr w.heap.size (λk=>k=bc) w w9/\InvT pl (p+1) n''/\Yh pl (p+1) n'' ps2:=λhne=>
     ⟨n',_,hC9,hF9,hO.go hT hne,hP.step hC.len (by omega) hO.lo hT.low hO.own⟩
    refine zm (λe=>?_) (λe=>?_)
    ·have hp1:p=1:=by dsimp only at e;omega
     refine hC9.at_ (zm (λe2=>?_) (λe2=>fin λ_=>by omega))
     subst hp1
     exact hbad n' _ w9 hC9 hF9 (hO.stop hT (by omega))
    ·exact fin λh1=>absurd (by rw[h1];rfl) e
  ·rintro _ w10 ⟨n',ps2,hC',hF',hT',hP'⟩
   have e:IntKind.u8.wrap ((p:Int)+1)=((p+1:Nat):Int):=by rw[IntKind.wrap_u8];omega
   dsimp only
   rw[e]
   exact hnext (8-(p+1)) _ _ (by omega) ⟨p+1,n',ps2,rfl,by omega,rfl,hC',hF',hT',hP'⟩
 ·have hp:p=8:=by dsimp only at hp;omega
  subst hp
  exact hok n ps' w1 hC hF hT hP
end
theorem Chg.frB{b B:Nat}{X:Nat->Prop}{w w':World}(h:Chg b w w')(hB:B<=b):Fr B X w w':=Fr.of_below (h.below (Below.refl _ _) hB)
theorem zU(b:Int×Int×Int):(blV b).length=3:=rfl
theorem zbu{α:Type}(g:α->List Value)(l:List α)(x:α):flat g (l++[x])=flat g l++g x:=by simp[flat]
section
variable {w0 w:World} {bc n:Nat} {s f:Sl} {ps:List Int} {pl:List PI} {R:VWP}
theorem Ct.chg{b:Nat}{w':World}(h:Ct w0 w bc s n ps f)(c:Chg b w w')(hb:w0.heap.size<=b)(hne:b≠bc):Ct w0 w' bc s n ps f:=
 ⟨h.hi,c.below h.b0 hb,c.blk h.blk (λe=>hne e.symm),h.len⟩
theorem zp2{fn:FnL}{tp tb:Sl}{bf:Nat}{ah:Int}{done:List FnL}(h:Ct w0 w bc s n ps f)(hN:IsPl w0 s pl)(h40:40*pl.length<=140737488351232)(hn:n<pl.length)(hkd:kdP (ix pl n)=3)
  (hI:InvF pl n ah) (ha:((ah=54\/ah=55)/\fn.bk=[])\/((249<=ah/\ah<=255)/\fn.bk≠[])) (hbf:Blk w bf 46 (fnV fn tp tb)) (h0f:w0.heap.size<=bf)
  (hO:Own w 42 3 tb (flat blV fn.bk)) (hF0:zz w0.heap.size tb) (hbk:fn.bk.length<=n) (hcut:cutF pl n=done++[fn])
  (hok:∀n' ah' tb' w',n<n'->Ct w0 w' bc s n' ps f->Fr w.heap.size (λk=>k=bc\/k=bf\/tb.a=some (Gk.blk k)) w w'->InvF pl n' ah'->(249<=ah'/\ah'<=255)->Blk w' bf 46 (fnV fn tp tb')->
   Own w' 42 3 tb' (flat blV (fn.bk++[((ix pl n).2.2.1,(n:Int),(n':Int))]))->(∃b',tb'.a=some (Gk.blk b')/\(tb.a=some (Gk.blk b')\/w.heap.size<=b'))->
   cutF pl n'=done++[{fn with bk:=fn.bk++[((ix pl n).2.2.1,(n:Int),(n':Int))]}]->R (.bool true) w')
  (hbad:∀n' w',Ct w0 w' bc s n' ps f->Fr w.heap.size (λk=>k=bc\/k=bf\/tb.a=some (Gk.blk k)) w w'->zeK pl n'->R (.bool false) w') :
  cR 106 #[.pointer (some (blk bc)),.pointer (some (blk bf))] w R:=by
 refine za.of (zdS _ _ R w ?_) λ_ _ h=>h
 have hlen:=hN.len
 have hbl:fn.bk.length=tb.l:=by have:=hO.1;rw[zO zU]at this;omega
 have hbcf:bc≠bf:=Blk.apart h.blk hbf (by decide)
 have hbcl:bc<w.heap.size:=h.blk.lt
 have hbfl:bf<w.heap.size:=hbf.lt
 have h0w:=h.b0.size
 generalize hX:(λk=>k=bc\/k=bf\/tb.a=some (Gk.blk k))=X at hok hbad
 have hXc:X bc:=by rw[<-hX];exact .inl rfl
 have bd:Below w.heap.size w w.drew:=(Below.refl _ _).drew
 have hD:=h.drew
 refine hD.sl (hD.at_ (zq1 (hD.mem hN) hn λa hc=>hD.at_ ?_))
 refine zn λw1 hB1 b1 z1=>⟨yP b1 (hD.blk.cell rfl),yP b1 hc,yP b1 (hD.blk.cell rfl),yP b1 (hD.blk.cell0 rfl),?_⟩
 have hB1:Blk w1 w.drew.heap.size 42 [.int .u32 0,.int .i64 0,.int .i64 0]:=hB1
 have hbb:w.drew.heap.size=w.heap.size:=rfl
 generalize w.drew.heap.size=bb at hB1 hbb z1
 subst hbb
 have b01:Below w.heap.size w w1:=bd.on b1
 have hC1:=h.below b01
 have hbf1:=hbf.below b01
 have hO1:=hO.below b01
 refine st3 hB1 rfl λw4 hB4 c4=>?_
 have hC4:=hC1.chg c4 h0w (by omega)
 have hbf4:=c4.blk hbf1 (by omega)
 have hO4:Own w4 42 3 tb (flat blV fn.bk):=hO1.of_block λa ha=>c4.block _ (by have:=(hO.lt ha).2;omega)
 have f4:Fr w.heap.size X w w4:=(Fr.of_below b01).trans (c4.frB (Nat.le_refl _))
 have z4:w4.heap.size=w.heap.size+1:=by rw[c4.size,z1]
 refine hC4.inc (by omega) λw5 hC5 c5=>?_
 obtain⟨F,hL,hFb⟩:∃F,InvB pl (n+1) F 248/\(F=true↔fn.bk=[]):=by
  rcases ha with⟨g1,g2⟩ | ⟨g1,g2⟩
  ·exact⟨_,hI.label (.inl g1) hn hkd,⟨λ_=>g2,λ_=>by rcases g1 with e |e<;>rw[e]<;>rfl⟩⟩
  ·refine⟨_,hI.label (.inr g1) hn hkd,⟨λe=>?_,λe=>absurd e g2⟩⟩
   rw[beq_eq_false_iff_ne.2 (show ah≠54 by omega),beq_eq_false_iff_ne.2 (show ah≠55 by omega)]at e
   cases e
 have hbf5:=c5.blk hbf4 (λe=>hbcf e.symm)
 have hcut1:=zp7 hcut hkd
 have g5:Fr w4.heap.size (λk=>k=bc) w4 w5:=c5.fr
 refine zl.cut (λ_ w8=>∃n1 ah1,n+1<=n1/\InvB pl n1 F ah1/\(n1<pl.length->F=true->kdP (ix pl n1)≠5)/\(n1<pl.length->F=false->kdP (ix pl n1)≠4)/\cutF pl n1=cutF pl (n+1)/\
   Ct w0 w8 bc s n1 ps f/\Fr w4.heap.size (λk=>k=bc) w4 w8) ?_ ?_
 ·refine zj rfl (hbf5.rS (n:=3) rfl (zm (λe=>?_) (λe=>?_)))
  ·have hF:F=true:=hFb.2 (List.length_eq_zero_iff.1 (by omega))
   subst hF
   refine zhz hC5 hN (by omega) h40 (by decide) λr n1 w6 h1 h2 h3 h4' hC6 f6 _ _=>⟨r,rfl,?_⟩
   obtain⟨ah1,hL1,_⟩:=hL.locals (.inl rfl) h1 h2 h3
   exact⟨n1,ah1,h1,hL1,λhl _=>h4' hl,λ_ h=>(by cases h),zeX h1 λj j1 j2=>.inr (.inr (.inr (.inl (h3 j j1 j2)))),hC6,g5.on f6⟩
  ·have hF:F=false:=by
    cases F
    ·rfl
    ·have:=hFb.1 rfl
     rw[this]at hbl
     exact absurd (by rw[<-hbl];rfl) e
   subst hF
   refine zhz hC5 hN (by omega) h40 (by decide) λr n1 w6 h1 h2 h3 h4' hC6 f6 _ _=>⟨r,rfl,?_⟩
   obtain⟨ah1,hL1,_⟩:=hL.phis (.inl rfl) h1 h2 h3
   exact⟨n1,ah1,h1,hL1,λ_ h=>(by cases h),λhl _=>h4' hl,zeX h1 λj j1 j2=>.inr (.inr (.inl (h3 j j1 j2))),hC6,g5.on f6⟩
 ·rintro _ w8 ⟨n1,ah1,hn1,hL1,hk5,hk4,hcut2,hC8,g8⟩
  have hn1l:=hL1.f.le
  refine zhz hC8 hN hn1l h40 (by decide) λr n2 w9 h1 h2 h3 h4' hC9 f9 _ _=>⟨r,rfl,?_⟩
  obtain⟨ah2,hL2,hor⟩:=hL1.plains h1 h2 h3
  have hcut3:cutF pl n2=cutF pl (n+1):=(zeX h1 λj j1 j2=>.inr (.inl (h3 j j1 j2))).trans hcut2
  have g9:=g8.on f9
  refine zag hC9 hN h2 λw10 b10=>⟨_,rfl,?_⟩
  have hC10:=hC9.below b10
  have g10:=g9.on (Fr.of_below b10)
  have toX:∀{w':World},Fr w4.heap.size (λk=>k=bc) w4 w'->Fr w.heap.size X w w':=λg=>f4.trans ((g.wide λk e=>by rw[e];exact hXc).mono (by omega) λ_ _ x=>x)
  refine zl.cut (λ_ w14=>∃n3,n+1<=n3/\n3<pl.length/\kdP (ix pl n3)=7/\InvF pl (n3+1) (ix pl n3).1/\(249<=(ix pl n3).1/\(ix pl n3).1<=255)/\cutF pl n3=cutF pl (n+1)/\
    Ct w0 w14 bc s n3 ps f/\Fr w4.heap.size (λk=>k=bc) w4 w14) ?_ ?_
  ·refine zm (λe=>?_) (λe=>?_)
   ·obtain⟨hlt2,hk6⟩:=zkz e (by decide)
    obtain⟨hM,hop⟩:=hL2.merge hlt2 hk6
    refine hC10.inc (by omega) λw11 hC11 c11=>?_
    have g11:=g10.on c11.fr
    have bd11:Below w11.heap.size w11 w11.drew:=(Below.refl _ _).drew
    refine zag hC11.drew hN (by omega) λw12 b12=>⟨_,rfl,?_⟩
    have hC12:=hC11.drew.below b12
    have g12:=g11.on (Fr.of_below (bd11.on b12))
    refine zt (λe2=>?_) (λe2=>?_)
    ·exact hbad (n2+1) w12 hC12 (toX g12) (hM.mbad hop λhl hk=>absurd hk (zjk e2 hl))
    ·obtain⟨hlt3,hk7⟩:=zkz e2 (by decide)
     refine hC12.sl (hC12.at_ ?_)
     have ew:IntKind.i64.wrap (((n2+1:Nat):Int)-1)=(n2:Int):=by rw[zq (by omega) (by omega)];omega
     rw[ew]
     refine zco (hC12.mem hN) hlt2 (hC12.sl (hC12.at_ (zco (hC12.mem hN) hlt3 ?_)))
     rw[<-yg hlt2,<-yg hlt3]
     refine zsr ⟨_,rfl,zF (zo (λhm=>?_) (λhm=>?_))⟩
     ·obtain⟨q1,q2⟩:=hM.mender hop hlt3 hk7 hm
      refine⟨n2+1,by omega,hlt3,hk7,q1,q2,?_,hC12,g12⟩
      rw[<-hcut3]
      exact zeX (Nat.le_succ n2) λj j1 j2=>by
       have:j=n2:=by omega
       subst this
       exact .inr (.inr (.inr (.inr hk6)))
     ·exact hbad (n2+1) w12 hC12 (toX g12) (hM.mbad hop λ_ _=>hm)
   ·refine zm (λe2=>?_) (λe2=>?_)
    ·obtain⟨hlt2,hk7⟩:=zkz e2 (by decide)
     obtain⟨q1,q2⟩:=hL2.ender hlt2 hk7
     exact⟨n2,by omega,hlt2,hk7,q1,q2,hcut3,hC10,g10⟩
    ·refine hbad n2 w10 hC10 (toX g10) (hL2.bad (λhl=>⟨h4' hl,zjk e hl,zjk e2 hl⟩) (λhl h4 hF=>?_) (λhl h5 hF=>?_))
     ·rcases hor with e3 |e3
      ·subst e3;exact absurd h4 (hk4 hl hF)
      ·exact⟨e3.1,e3.2.1⟩
     ·rcases hor with e3 |e3
      ·subst e3;exact absurd h5 (hk5 hl hF)
      ·exact⟨e3.1,e3.2.2⟩
  ·rintro _ w14 ⟨n3,hn3,hlt3,hk7,hI3,hop3,hcut4,hC14,g14⟩
   refine hC14.inc (by omega) λw15 hC15 c15=>?_
   have g15:=g14.on c15.fr
   have hB15:Blk w15 w.heap.size 42 [.int .u32 pl[n].2.2.1,.int .i64 (n:Int),.int .i64 0]:=g15.blk hB4 (by omega)
   refine hC15.at_ ⟨hB15.wr (by simp),Nw.gen λw16 e16=>?_⟩
   have c16:Chg w.heap.size w15 w16:=by rw[e16];exact Chg.set _ _ _ _
   have hB16:Blk w16 w.heap.size 42 [.int .u32 pl[n].2.2.1,.int .i64 (n:Int),.int .i64 ((n3+1:Nat):Int)]:=by rw[e16];exact hB15.set 2 _
   clear e16
   have hC16:=hC15.chg c16 h0w (by omega)
   have hbf16:=c16.blk (g15.blk hbf4 (λe=>hbcf e.symm)) (by omega)
   have hO15:=g15.own hO4 λb e e2=>by subst e2;exact zR hO hD.blk (by decide) e
   have hO16:Own w16 42 3 tb (flat blV fn.bk):=hO15.of_block λa ha=>c16.block _ (by have:=(hO.lt ha).2;omega)
   have f16:Fr w.heap.size X w w16:=(toX g15).trans (c16.frB (Nat.le_refl _))
   have bd16:Below w16.heap.size w16 w16.drew:=(Below.refl _ _).drew
   refine zj rfl (hbf16.drew.rS (n:=3) (x:=tb) rfl (hB16.drew.rI (n:=0) rfl (hB16.drew.rI (n:=1) rfl (hB16.drew.rI (n:=2) rfl ?_))))
   refine zn λw17 hB17 b17 z17=>⟨yP b17 (hbf16.drew.cell rfl),?_⟩
   have hB17:Blk w17 w16.drew.heap.size 42 (blV (pl[n].2.2.1,(n:Int),((n3+1:Nat):Int))):=hB17
   have b167:=bd16.on b17
   have hC17:=hC16.below b167
   have hbf17:=hbf16.below b167
   have hO17:=hO16.below b167
   have f17:Fr w.heap.size X w w17:=f16.trans ((Fr.of_below b167).mono f16.size λ_ _ x=>x)
   refine zcR eBlk hO17 rfl (by simp[Value.oneCell']) hB17 (by omega) (by omega) λr w18 b' hO18 hl18 ha18 hw18 f18=>?_
   have hXb:∀k,tb.a=some (Gk.blk k)->X k:=λk e=>by rw[<-hX];exact .inr (.inr e)
   have f18':Fr w.heap.size X w w18:=f17.trans ((f18.wide hXb).mono f17.size λ_ _ x=>x)
   have hC18:=hC17.fr f18 (λk e=>hF0 _ e) (zR hO hD.blk (by decide))
   have hbf18:=f18.blk hbf17 (zR hO17 hbf17 (by decide))
   refine zj rfl ⟨hbf18.wr (by simp),Nw.gen λw19 e19=>?_⟩
   have c19:Chg bf w18 w19:=by rw[e19];exact Chg.set _ _ _ _
   have hbf19:Blk w19 bf 46 (fnV fn tp r):=by rw[e19];exact hbf18.set 3 _
   clear e19
   have f19:Fr w.heap.size X w w19:=f18'.trans (c19.fr.wide λk e=>by rw[e,<-hX];exact .inr (.inl rfl))
   have hsz17:=f17.size
   refine hok (n3+1) _ r w19 (by omega) (hC18.chg c19 h0f (λe=>hbcf e.symm)) f19 hI3 hop3 hbf19 ?_ ⟨b',ha18,?_⟩ ?_
   ·rw[zbu,yg hn]
    refine hO18.of_block λa ha=>c19.block _ λe=>?_
    rw[ha18]at ha
    cases ha
    have e:b'=bf:=e
    subst e
    exact zR hO18 hbf18 (by decide) ha18
   ·rcases hw18 with g |g
    ·exact .inl g
    ·exact .inr (by omega)
   ·have:=zp6 (n:=n3) (by rw[hcut4];exact hcut1) hk7
    rw[this]
    rfl
end
theorem st5{b:Nat}{T:TypeId}{cs:List Value}{v0 v1 v2 v3 v4:Value}{K:World->Prop}{w:World}(hB:Blk w b T cs)(hl:cs.length=5)(hK:∀w',Blk w' b T [v0,v1,v2,v3,v4]->Chg b w w'->K w') :
  Wr w (blk b)/\Nw (w.setCell (blk b) v0) λw1=>Wr w1 ((blk b).add 1)/\Nw (w1.setCell ((blk b).add 1) v1) λw2=>Wr w2 ((blk b).add 2)/\Nw (w2.setCell ((blk b).add 2) v2) λw3=>Wr w3 ((blk b).add 3)/\Nw (w3.setCell ((blk b).add 3) v3) λw4=>
   Wr w4 ((blk b).add 4)/\Nw (w4.setCell ((blk b).add 4) v4) λw5=>K w5:=
 Ym (vs:=[v0,v1,v2,v3,v4]) hB hl hK
abbrev Fe:=FnL×Sl×Sl
abbrev feV(x:Fe):List Value:=fnV x.1 x.2.1 x.2.2
theorem Yj(x:Fe):(feV x).length=5:=rfl
structure Fns (w:World) (fs:Sl) (L:List Fe):Prop where
 own:Own w 46 5 fs (flat feV L)
 row:∀x∈L,Own w 3 1 x.2.1 (x.1.ps.map (Value.int .i64))/\Own w 42 3 x.2.2 (flat blV x.1.bk)
theorem Fns.nil(w:World):Fns w ⟨none,0,0⟩ []:=⟨Own.nil _ _ _,λx hx=>by cases hx⟩
theorem Fns.len{w:World}{fs:Sl}{L:List Fe}(h:Fns w fs L):L.length=fs.l:=by have:=h.own.1;rw[zO Yj]at this;omega
theorem Fns.below{w w':World}{fs:Sl}{L:List Fe}(h:Fns w fs L)(hb:Below w.heap.size w w'):Fns w' fs L:=
 ⟨h.own.below hb,λx hx=>⟨(h.row x hx).1.below hb,(h.row x hx).2.below hb⟩⟩
theorem Fns.fr{w w':World}{fs:Sl}{L:List Fe}{bc:Nat}{cs:List Value}(h:Fns w fs L)(hf:Fr w.heap.size (λk=>k=bc) w w')(hc:Blk w bc 100 cs):Fns w' fs L:=
 ⟨hf.own h.own λb e e2=>by subst e2;exact zR h.own hc (by decide) e,λx hx=>
  ⟨hf.own (h.row x hx).1 λb e e2=>by subst e2;exact zR (h.row x hx).1 hc (by decide) e,hf.own (h.row x hx).2 λb e e2=>by subst e2;exact zR (h.row x hx).2 hc (by decide) e⟩⟩
theorem zpH(p:PI):0<=kdP p:=by
 unfold kdP
 repeat' split
 all_goals omega
section
variable {w0 w:World} {bc n:Nat} {s f:Sl} {ps:List Int} {pl:List PI} {R:VWP}
theorem zrR(h:Ct w0 w bc s 0 ps ⟨none,0,0⟩)(hN:IsPl w0 s pl)(h40:40*pl.length<=140737488351232)
  (hok:∀ps' fs L w',Ct w0 w' bc s pl.length ps' fs->Fr w.heap.size (λk=>k=bc) w w'->Z0 pl pl.length->zaA pl=false->Yh pl 10 pl.length ps'->Fns w' fs L->zz w.heap.size fs->cutF pl pl.length=L.map (·.1)->R (.bool true) w')
  (hbad:∀n ps' fs w',Ct w0 w' bc s n ps' fs->Fr w.heap.size (λk=>k=bc) w w'->zeK pl n->R (.bool false) w') :
  cR 66 #[.pointer (some (blk bc))] w R:=by
 refine za.of (zfk _ R w ?_) λ_ _ h=>h
 have hlen:=hN.len
 have hbcl:bc<w.heap.size:=h.blk.lt
 have h0w:=h.b0.size
 refine zsP h hN (by omega) (λn0 ps1 w1 hC1 f1 hT hP=>⟨_,rfl,zE rfl ?_⟩) (λn1 ps1 w1 hC1 f1 hS=>⟨_,rfl,zD rfl (hbad n1 ps1 _ w1 hC1 f1 hS)⟩)
 have hC1:=hC1.drew
 have f1:=f1.drew
 refine hC1.at_ (hC1.sl (hC1.part (p:=8) (by omega) λw3 hC3 c3=>?_))
 have f3:=(f1.trans (c3.fr)).drew
 have hC3:=hC3.drew
 refine hC3.sl (hC3.sl (hC3.part (p:=9) (by omega) λw5 hC5 c5=>?_))
 have f5:=f3.trans (c5.fr)
 rw[hlen]at hC5
 generalize hps5:((((ps1.set (2*8) (n0:Int)).set (2*8+1) (pl.length:Int)).set (2*9) (pl.length:Int)).set (2*9+1) (pl.length:Int))=ps5 at hC5
 refine zk.ghost (λj _ w'=>∃n fs L,j=pl.length-n/\Ct w0 w' bc s n ps5 fs/\Fr w.heap.size (λk=>k=bc) w w'/\zz w.heap.size fs/\InvO pl n/\Fns w' fs L/\cutF pl n=L.map (·.1)/\(n0<n->zx (ix pl n0)=8)/\n0<=n/\2*L.length<=n)
  (pl.length-n0) ⟨n0,⟨none,0,0⟩,[],rfl,hC5,f5,λa ha=>(by cases ha),hT.fun,Fns.nil _,?_,λh=>by omega,Nat.le_refl _,Nat.zero_le _⟩ ?_
 ·exact(zeX (n:=0) (Nat.zero_le _) λj _ j2=>.inl (by have:=hT.low j j2;omega))
 rintro _ _ w6 ⟨n,fs,L,rfl,hC6,f6,hF6,hO6,hL6,hcut6,h86,hn06,hLn⟩ next hnext
 have hn:=hO6.le
 refine zag hC6 hN hn λw7 b7=>⟨_,rfl,?_⟩
 have hC7:=hC6.below b7
 have f7:=f6.trans ((Fr.of_below b7).mono f6.size λ_ _ x=>x)
 have hL7:=hL6.below b7
 refine zf (λhlt=>?_) (λhge=>?_)
 ·have e:n=pl.length:=by
   unfold kn at hlt
   split at hlt
   ·have:=zpH (ix pl n);omega
   ·omega
  subst e
  refine hok ps5 fs L w7 hC7 f7 hO6.good (hO6.shut rfl) ?_ hL7 hF6 hcut6
  rw[<-hps5]
  have hl1:=hC1.len
  exact hP.all hl1 hT.le hT.low hO6.good h86
 ·have hltn:n<pl.length:=by
   unfold kn at hge
   split at hge
   ·assumption
   ·omega
  refine zag hC7 hN hn λw8 b8=>⟨_,rfl,?_⟩
  have hC8:=hC7.below b8
  have f8:=f7.trans ((Fr.of_below b8).mono f7.size λ_ _ x=>x)
  have hL8:=hL7.below b8
  refine zt (λe=>hbad n ps5 fs w8 hC8 f8 (hO6.bad hltn (zjk e hltn))) (λe=>?_)
  obtain⟨_,hk1⟩:=zkz e (by decide)
  have hp8:=Zx (p:=ix pl n) (by omega)
  have hop1:=(Zi hp8).1.1 hk1
  have bd8:Below w8.heap.size w8 w8.drew:=(Below.refl _ _).drew
  have hD:=hC8.drew
  have s08:=hC8.b0.size
  have sw8:=f8.size
  refine hD.sl (hD.at_ (zq1 (hD.mem hN) hltn λa hc=>hD.at_ ?_))
  refine zn λw9 hB9 b9 z9=>⟨yP b9 (hD.blk.cell rfl),yP b9 hc,yP b9 (hD.blk.cell rfl),yP b9 (hD.blk.cell0 rfl),?_⟩
  have hB9:Blk w9 w8.drew.heap.size 46 [.int .u32 0,.int .i64 0,.slice none 0 0,.slice none 0 0,.int .i64 0]:=hB9
  have hbb:w8.drew.heap.size=w8.heap.size:=rfl
  generalize hbf:w8.drew.heap.size=bf at hB9 hbb z9
  subst hbb
  have b89:=bd8.on b9
  refine st5 hB9 rfl λw14 hB14 c14=>?_
  have hB14:Blk w14 w8.heap.size 46 (fnV ⟨(ix pl n).2.2.1,n,0,[],[]⟩ ⟨none,0,0⟩ ⟨none,0,0⟩):=by rw[yg hltn];exact hB14
  have hbcf:w8.heap.size≠bc:=by omega
  have hC14:=(hC8.below b89).chg c14 s08 hbcf
  have g14:Fr w8.heap.size (λk=>k=bc) w8 w14:=(Fr.of_below b89).trans (c14.frB (Nat.le_refl _))
  have z14:w14.heap.size=w8.heap.size+1:=by rw[c14.size,z9]
  refine hC14.inc (by omega) λw15 hC15 c15=>?_
  have hI15:=hO6.begin hltn hp8 hop1
  have hcut15:=zrQ hcut6 hk1
  have g15:=g14.trans c15.fr
  have hB15:=c15.blk hB14 hbcf
  refine zhz hC15 hN (by omega) h40 (by decide) λtp n2 w16 h1 h2 h3 h4 hC16 f16 hOp hFp=>⟨tp,rfl,?_⟩
  obtain⟨ah2,hI2,ha2⟩:=hI15.params (.inl rfl) h1 h2 h3
  have hcut16:=zoi hcut15 h1 h3
  have g16:Fr w8.heap.size (λk=>k=bc) w8 w16:=g15.trans (f16.mono (by rw[c15.size];omega) λ_ _ x=>x)
  have hB16:=f16.blk hB15 hbcf
  have s15:=c15.size
  have s16:=f16.size
  refine⟨hB16.wr (by simp),Nw.gen λw17 e17=>?_⟩
  have c17:Chg w8.heap.size w16 w17:=by rw[e17];exact Chg.set _ _ _ _
  have hB17:Blk w17 w8.heap.size 46 (fnV ⟨(ix pl n).2.2.1,n,0,[],[]⟩ tp ⟨none,0,0⟩):=by rw[e17];exact hB16.set 2 _
  clear e17
  have hC17:=hC16.chg c17 s08 hbcf
  have g17:Fr w8.heap.size (λk=>k=bc) w8 w17:=g16.trans (c17.frB (Nat.le_refl _))
  have hOp17:Own w17 3 1 tp ((zd5 (n+1) n2).map (Value.int .i64)):=hOp.of_block λa ha=>c17.block _ (by have:=hFp a ha;omega)
  generalize hpar:zd5 (n+1) n2=par at hOp17
  have hcut17:cutF pl n2=L.map (·.1)++[⟨(ix pl n).2.2.1,n,0,par,[]⟩]:=by rw[hcut16,<-hpar];rfl
  refine zk.ghost (λj _ w'=>∃n3 ah bk tb,j=pl.length-n3/\n2<=n3/\Ct w0 w' bc s n3 ps5 fs/\Fr w8.heap.size (λk=>k=bc) w8 w'/\Blk w' w8.heap.size 46 (fnV ⟨(ix pl n).2.2.1,n,0,par,bk⟩ tp tb)/\
    Own w' 3 1 tp (par.map (Value.int .i64))/\Own w' 42 3 tb (flat blV bk)/\zz w8.heap.size tb/\InvF pl n3 ah/\(((ah=54\/ah=55)/\bk=[])\/((249<=ah/\ah<=255)/\bk≠[]))/\
    cutF pl n3=L.map (·.1)++[⟨(ix pl n).2.2.1,n,0,par,bk⟩]/\bk.length<=n3/\(bk=[]->n3<pl.length->kdP (ix pl n3)≠2)) (pl.length-n2)
   ⟨n2,ah2,[],⟨none,0,0⟩,rfl,Nat.le_refl _,hC17,g17,hB17,hOp17,Own.nil _ _ _,λa ha=>(by cases ha),hI2,.inl ⟨ha2,rfl⟩,hcut17,Nat.zero_le _,λ_ hl=>h4 hl⟩ ?_
  rintro _ _ w18 ⟨n3,ah,bk,tb,rfl,hn23,hC18,g18,hB18,hOp18,hOb18,hFb18,hI18,ha18,hcut18,hbk18,hk2⟩ next2 hnext2
  have hn3:=hI18.le
  refine zag hC18 hN hn3 λw19 b19=>⟨_,rfl,?_⟩
  have hC19:=hC18.below b19
  have g19:=g18.trans ((Fr.of_below b19).mono g18.size λ_ _ x=>x)
  have hB19:=hB18.below b19
  have hOp19:=hOp18.below b19
  have hOb19:=hOb18.below b19
  have toW:∀{w':World},Fr w8.heap.size (λk=>k=bc) w8 w'->Fr w.heap.size (λk=>k=bc) w w':=λg=>f8.trans (g.mono f8.size λ_ _ x=>x)
  have hblen:bk.length=tb.l:=by have:=hOb19.1;rw[zO zU]at this;omega
  refine zm (λe3=>?_) (λe3=>?_)
  ·obtain⟨hlt3,hk3⟩:=zkz e3 (by decide)
   have back:∀{w':World},Fr w19.heap.size (λk=>k=bc\/k=w8.heap.size\/tb.a=some (Gk.blk k)) w19 w'->Fr w8.heap.size (λk=>k=bc) w8 w':=λg=>
    g19.trans (g.mono g19.size λk hk x=>by
     rcases x with x |x |x
     ·exact x
     ·omega
     ·have:=hFb18 _ x
      exact absurd this (Nat.not_le.2 hk))
   refine zp2 (fn:=⟨(ix pl n).2.2.1,n,0,par,bk⟩) (tp:=tp) (tb:=tb) hC19 hN h40 hlt3 hk3 hI18 ha18 hB19 s08 hOb19 (λa ha=>Nat.le_trans s08 (hFb18 a ha)) hbk18 hcut18
    (λn4 ah4 tb4 w20 hn4 hC20 f20 hI4 ha4 hB20 hO20 hb20 hcut20=>⟨_,rfl,zE rfl ?_⟩)
    (λn4 w20 hC20 f20 hS=>⟨_,rfl,zD rfl (hbad n4 ps5 fs w20 hC20 (toW (back f20)) hS)⟩)
   refine hnext2 (pl.length-n4) _ _ (by have:=hI4.le;omega) ⟨n4,ah4,bk++[((ix pl n3).2.2.1,(n3:Int),(n4:Int))],tb4,rfl,by omega,hC20,back f20,hB20,?_,hO20,?_,hI4,.inr ⟨ha4,by simp⟩,hcut20,by simp;omega,λh=>by simp at h⟩
   ·refine f20.own hOp19 λb e x=>?_
    rcases x with x |x |x
    ·subst x;exact zR hOp19 hC19.blk (by decide) e
    ·subst x;exact zR hOp19 hB19 (by decide) e
    ·exact Zy hOp19 hOb19 (by decide) e x
   ·intro a ha
    obtain⟨b',q1,q2⟩:=hb20
    rw[q1]at ha
    cases ha
    show w8.heap.size<=b'
    rcases q2 with q2 |q2
    ·exact hFb18 _ q2
    ·have:=g19.size;omega
  ·refine zl.cut (λ_ w21=>Ct w0 w21 bc s n3 ps5 fs/\Fr w8.heap.size (λk=>k=bc) w8 w21/\Blk w21 w8.heap.size 46 (fnV ⟨(ix pl n).2.2.1,n,0,par,bk⟩ tp tb)/\
    Own w21 3 1 tp (par.map (Value.int .i64))/\Own w21 42 3 tb (flat blV bk)/\n3<pl.length/\kdP (ix pl n3)=8/\(249<=ah/\ah<=255)) ?_ ?_
   ·refine hB19.rS (n:=3) (x:=tb) rfl (zm (λe0=>?_) (λe0=>?_))
    ·have hbk0:bk=[]:=List.length_eq_zero_iff.1 (by omega)
     have ha':ah=54\/ah=55:=by
      rcases ha18 with⟨g,_⟩ | ⟨_,g⟩
      ·exact g
      ·exact absurd hbk0 g
     exact hbad n3 ps5 fs w19 hC19 (toW g19) (hI18.noblock ha' (hk2 hbk0) (zjk e3))
    ·have ha':249<=ah/\ah<=255:=by
      rcases ha18 with⟨_,g⟩ | ⟨g,_⟩
      ·rw[g]at hblen;exact absurd (by rw[<-hblen];rfl) e0
      ·exact g
     refine zag hC19 hN hn3 λw21 b21=>⟨_,rfl,?_⟩
     refine zt (λe8=>?_) (λe8=>?_)
     ·exact hbad n3 ps5 fs w21 (hC19.below b21) (toW (g19.trans ((Fr.of_below b21).mono g19.size λ_ _ x=>x))) (hI18.noend ha' (zjk e3) (zjk e8))
     ·obtain⟨q1,q2⟩:=zkz e8 (by decide)
      exact⟨hC19.below b21,g19.trans ((Fr.of_below b21).mono g19.size λ_ _ x=>x),hB19.below b21,hOp19.below b21,hOb19.below b21,q1,q2,ha'⟩
   ·rintro _ w22 ⟨hC22,g22,hB22,hOp22,hOb22,hlt3,hk8,ha'⟩
    have hI23:=hI18.shut ha' hlt3 hk8
    have hcut23:=zrP hcut18 hk8
    refine hC22.at_ ⟨hB22.wr (by simp),Nw.gen λw23 e23=>?_⟩
    have c23:Chg w8.heap.size w22 w23:=by rw[e23];exact Chg.set _ _ _ _
    have hB23:Blk w23 w8.heap.size 46 (fnV ⟨(ix pl n).2.2.1,n,n3,par,bk⟩ tp tb):=by rw[e23];exact hB22.set 4 _
    clear e23
    have hC23:=hC22.chg c23 s08 hbcf
    have g23:Fr w8.heap.size (λk=>k=bc) w8 w23:=g22.trans (c23.frB (Nat.le_refl _))
    have hOp23:Own w23 3 1 tp (par.map (Value.int .i64)):=hOp22.of_block λa ha=>c23.block _ λe=>zR hOp22 hB22 (by decide) (by rw[ha,(hOp22.lt ha).1,e])
    have hOb23:Own w23 42 3 tb (flat blV bk):=hOb22.of_block λa ha=>c23.block _ λe=>zR hOb22 hB22 (by decide) (by rw[ha,(hOb22.lt ha).1,e])
    refine hC23.inc (by omega) λw24 hC24 c24=>?_
    have g24:=g23.trans c24.fr
    have hB24:=(c24.blk hB23 hbcf).drew
    have hOp24:=(c24.fr.own hOp23 λb e x=>by subst x;exact zR hOp23 hC23.blk (by decide) e).drew
    have hOb24:=(c24.fr.own hOb23 λb e x=>by subst x;exact zR hOb23 hC23.blk (by decide) e).drew
    have hC24:=hC24.drew
    have g24:=g24.drew
    have hL24:=hL8.fr g24 hC8.blk
    refine zj rfl (hC24.blk.rS (n:=22) (x:=fs) (zrN hC24.len) ?_)
    refine hB24.rI (n:=0) rfl (hB24.rI (n:=1) rfl (hB24.rS (n:=2) (x:=tp) rfl (hB24.rS (n:=3) (x:=tb) rfl (hB24.rI (n:=4) rfl ?_))))
    refine zn λw25 hB25 b25 z25=>⟨yP b25 (hC24.blk.cell (zrN hC24.len)),?_⟩
    have hB25:Blk w25 w24.drew.heap.size 46 (fnV ⟨(ix pl n).2.2.1,n,n3,par,bk⟩ tp tb):=hB25
    have hL25:=hL24.below b25
    have hC25:=hC24.below b25
    have hll:=hL25.len
    refine zcR eFun hL25.own rfl (by simp[Value.oneCell']) hB25 (by omega) (by omega) λr w26 b' hO26 hl26 ha26 hw26 f26=>?_
    have hlow:∀k,fs.a=some (Gk.blk k)->w.heap.size<=k:=λk e=>hF6 _ e
    have hC26:=hC25.fr f26 (λk e=>Nat.le_trans h0w (hlow k e)) (zR hL25.own hC25.blk (by decide))
    have t25:=toW (g24.trans ((Fr.of_below b25).mono g24.size λ_ _ x=>x))
    have t26:Fr w.heap.size (λk=>k=bc) w w26:=t25.trans (f26.mono t25.size λk hk x=>absurd (hlow k x) (Nat.not_le.2 hk))
    have rows26:∀x∈L++[((⟨(ix pl n).2.2.1,n,n3,par,bk⟩:FnL),tp,tb)],Own w26 3 1 x.2.1 (x.1.ps.map (Value.int .i64))/\Own w26 42 3 x.2.2 (flat blV x.1.bk):=by
     intro x hx
     have both:Own w25 3 1 x.2.1 (x.1.ps.map (Value.int .i64))/\Own w25 42 3 x.2.2 (flat blV x.1.bk):=by
      rcases List.mem_append.1 hx with hx |hx
      ·exact hL25.row x hx
      ·rw[List.mem_singleton]at hx
       subst hx
       exact⟨hOp24.below b25,hOb24.below b25⟩
     exact⟨f26.own both.1 λb e x=>Zy both.1 hL25.own (by decide) e x,f26.own both.2 λb e x=>Zy both.2 hL25.own (by decide) e x⟩
    have hl23:=znr (s:=s) (n:=n3+1) (f:=fs) hC26.len
    refine zj rfl ⟨hC26.blk.wr (by omega),Nw.gen λw27 e27=>?_⟩
    have c27:Chg bc w26 w27:=by rw[e27];exact Chg.set _ _ _ _
    have hB27:Blk w27 bc 100 (ctV s (n3+1:Nat) ps5 r):=by rw[e27,<-zrO hC26.len];exact hC26.blk.set 22 _
    clear e27
    refine hnext (pl.length-(n3+1)) _ _ (by omega) ⟨n3+1,r,L++[(⟨(ix pl n).2.2.1,n,n3,par,bk⟩,tp,tb)],rfl,⟨hC26.hi,c27.below hC26.b0 hC26.hi,hB27,hC26.len⟩,t26.trans c27.fr,?_,hI23.end,⟨?_,?_⟩,?_,λ_=>?_,by omega,by simp;omega⟩
    ·intro a ha
     rw[ha26]at ha
     cases ha
     show w.heap.size<=b'
     rcases hw26 with g |g
     ·exact hlow _ g
     ·have:=t25.size;omega
    ·rw[zbu]
     refine hO26.of_block λa ha=>c27.block _ λe=>zR hO26 hC26.blk (by decide) (by rw[ha,(hO26.lt ha).1,e])
    ·intro x hx
     obtain⟨q1,q2⟩:=rows26 x hx
     exact⟨c27.fr.own q1 λb e x=>by subst x;exact zR q1 hC26.blk (by decide) e,c27.fr.own q2 λb e x=>by subst x;exact zR q2 hC26.blk (by decide) e⟩
    ·rw[hcut23,List.map_append]
     rfl
    ·by_cases en:n0=n
     ·subst en;exact hp8
     ·exact h86 (by omega)
end
theorem zn8{pl:List PI}{n:Nat}(h:mayP pl n=true)(h8:zx (ix pl n)=8):Yx (ix pl n).1 (zN pl n) (yO pl (n-1))=true:=by
 unfold mayP at h
 by_cases e:zk5 pl n=true
 ·rw[if_pos e]at h;cases h
 rw[if_neg e,if_neg (by omega)]at h
 by_cases e2:1<zx (ix pl n)/\mdlP pl n=false
 ·rw[if_pos e2]at h;cases h
 rw[if_neg e2,if_neg (by omega)]at h
 exact h
theorem zmB{pl:List PI}:∀{n:Nat},Z0 pl n->¬(zN pl n=0\/zN pl n=54\/zN pl n=55\/zN pl n=56\/zZ (zN pl n)=true)->∃k,1<=k/\k<n/\(ix pl k).1=248
 | 0,_,h=>absurd (.inl rfl) h
 |m+1,hg,h=>by
  have e0:zN pl (m+1)=if zx (ix pl m)=8 then(ix pl m).1 else 0:=rfl
  by_cases h8:zx (ix pl m)=8
  ·rw[if_pos h8]at e0
   rw[e0]at h
   have hm:=zn8 (hg m (Nat.lt_succ_self m)) h8
   by_cases e248:(ix pl m).1=248
   ·refine⟨m,?_,Nat.lt_succ_self m,e248⟩
    cases m with
    |zero=>
     exfalso
     rw[e248]at hm
     have h0:Yx 248 (zN pl 0) (yO pl (0-1))=false:=rfl
     rw[h0]at hm
     cases hm
    |succ m=>omega
   ·have hgm:Z0 pl m:=λk hk=>hg k (by omega)
    have:¬(zN pl m=0\/zN pl m=54\/zN pl m=55\/zN pl m=56\/zZ (zN pl m)=true):=by
     intro hc
     unfold Yx at hm
     rw[if_neg (λe=>h (.inr (.inl e))),if_neg (λe=>h (.inr (.inr (.inl e)))),if_neg e248,if_neg (λe=>h (.inr (.inr (.inr (.inl e))))),if_pos hc]at hm
     cases hm
    obtain⟨k,h1,h2,h3⟩:=zmB hgm this
    exact⟨k,h1,by omega,h3⟩
  ·rw[if_neg h8]at e0
   exact absurd (.inl e0) h
section
variable {pl:List PI} {w:World} {R:VWP}
theorem YQ{x:Ins}{al:List Ag}(hI:IsAg w x.2.2.2.1 al)(hR:∀w',Below w.heap.size w w'->R (.int .i64 (zx (piOf x al):Int)) w'):cR 117 #[inA x] w R:=by
 refine za.of (zeA x R w ?_) λ_ _ h=>h
 refine zn λw1 hB b1 z1=>?_
 have hB:Blk w1 w.heap.size 50 (inV x):=hB
 have hlen:=hI.len
 refine zl.cut (λ_ w'=>w'=w1/\zic (piOf x al)=false) ?_ ?_
 ·refine hB.rI0 rfl (zm (λe1=>?_) (λe1=>⟨rfl,?_⟩))
  ·refine hB.rS (n:=3) rfl (zf (λh=>?_) (λh=>⟨rfl,?_⟩))
   ·have h0:0<al.length:=by omega
    refine hB.rS (n:=3) rfl (zbt (hI.below b1) (k:=0) h0 (zm (λe2=>?_) (λe2=>⟨rfl,?_⟩)))
    ·have:=hR w1 b1
     unfold zx at this
     rw[zjW (p:=piOf x al) (h:=h0),beq_iff_eq.2 e1,beq_iff_eq.2 e2]at this
     exact this
    ·rw[zjW (p:=piOf x al) (h:=h0),beq_eq_false_iff_ne.2 e2,Bool.and_false]
   ·have h0:al=[]:=List.length_eq_zero_iff.1 (by omega)
    subst h0
    unfold zic
    rw[Bool.and_false]
  ·unfold zic
   rw[beq_eq_false_iff_ne.2 e1,Bool.false_and]
 ·rintro _ w2 ⟨rfl,hv⟩
  refine hB.rI0 rfl (zhe λw3 b3=>⟨fmO x.1 (frm x.1),(frm x.1).isSome,rfl,?_⟩)
  refine box8 rfl λw4 hF4 b4 z4=>?_
  refine hF4.rI (n:=7) rfl ?_
  have:=hR w4 ((b1.on b3).on b4)
  unfold zx at this
  rw[if_neg (by rw[hv];decide)]at this
  rw[zox,zq (by omega) (by have:=zoN x.1;omega)]
  exact this
theorem zfK{op:Int}(hR:R (.bool (zZ op)) w):cR 81 #[.int .u16 op] w R:=by
 refine za.of (ze9 op R w ?_) λ_ _ h=>h
 have yes:249<=op->op<=255->R (.bool true) w:=λh1 h2=>by rwa[za5.2 ⟨h1,h2⟩]at hR
 refine zm (λe=>yes (by omega) (by omega)) (λe1=>?_)
 refine zm (λe=>yes (by omega) (by omega)) (λe2=>?_)
 refine zm (λe=>yes (by omega) (by omega)) (λe3=>?_)
 refine zm (λe=>yes (by omega) (by omega)) (λe4=>?_)
 refine zm (λe=>yes (by omega) (by omega)) (λe5=>?_)
 refine zm (λe=>yes (by omega) (by omega)) (λe6=>?_)
 have:zZ op=(op==255):=by
  cases h:zZ op
  ·have:=zf6.1 h
   exact(beq_eq_false_iff_ne.2 (by omega)).symm
  ·have:=za5.1 h
   exact(beq_iff_eq.2 (by omega)).symm
 rwa[this]at hR
theorem zoT{s:Sl}{n:Nat}(hN:IsPl w s pl)(hmax:pl.length<9223372036854775807)(hn:n<pl.length)(hl:∃k,1<=k/\k<=n/\(ix pl k).1=248)(hR:R (.bool (yO pl n)) w) :
  cR 154 #[.slice s.a s.l s.c,.int .i64 (n:Int)] w R:=by
 refine za.of (zdL s n R w ?_) λ_ _ h=>h
 refine zk.ghost (λj (st:Int×Unit) w'=>w'=w/\st=((j:Int),())/\j<=n/\yO pl j=yO pl n/\∃k,1<=k/\k<=j/\(ix pl k).1=248) n ⟨rfl,rfl,Nat.le_refl _,rfl,hl⟩ ?_
 rintro j _ w1 ⟨hw,rfl,hj,hf,k,hk1,hk2,hk3⟩ next hnext
 subst hw
 have hjl:j<pl.length:=by omega
 obtain⟨m,rfl⟩:∃m,j=m+1:=⟨j-1,by omega⟩
 have ew:IntKind.i64.wrap (((m+1:Nat):Int)-1)=(m:Int):=by rw[zq (by omega) (by omega)];omega
 dsimp only
 rw[ew]
 refine zco hN hjl ?_
 rw[<-yg hjl]
 refine zt (λe=>?_) (λe=>?_)
 ·have e':yO pl (m+1)=yO pl m:=if_neg e
  refine hnext m _ _ (by omega) ⟨rfl,rfl,by omega,by rw[<-e',hf],k,hk1,?_,hk3⟩
  by_cases e2:k=m+1
  ·subst e2;exact absurd hk3 e
  ·omega
 ·have e':yO pl (m+1)=((ix pl m).1==54||(ix pl m).1==55):=if_pos e
  rw[<-hf,e']at hR
  have hml:m<pl.length:=by omega
  refine zco hN hml (zm (λe1=>?_) (λe1=>zco hN hml ?_))
  ·rw[<-yg hml]at e1
   rw[beq_iff_eq.2 e1,Bool.true_or]at hR
   exact hR
  ·rw[<-yg hml]at e1⊢
   rw[beq_eq_false_iff_ne.2 e1,Bool.false_or]at hR
   exact hR
theorem zhw(pl:List PI)(n:Nat):mdlP pl (n+1)=(mdlP pl n||zx (ix pl n)==1):=by unfold mdlP;rw[List.range_succ,List.any_append];simp
theorem zrv{s:Sl}{n:Nat}(hN:IsPl w s pl)(hmax:pl.length<9223372036854775807)(hn:n<pl.length)(hg:Z0 pl n)(hR:∀w',Below w.heap.size w w'->R (.bool (mayP pl n)) w') :
  cR 116 #[.slice s.a s.l s.c,.int .i64 (n:Int)] w R:=by
 refine za.of (zfh s n R w ?_) λ_ _ h=>h
 refine yu hN hn λt ht=>?_
 have ep:∀{j:Nat} (hj:j<pl.length) (t:Sl),zx (piOf (mkIn pl[j] t) pl[j].2.2.2)=zx (ix pl j):=λhj t=>by rw[yg hj]
 refine YQ (x:=mkIn pl[n] t) ht λw1 b1=>⟨_,rfl,?_⟩
 rw[ep hn t]
 refine zk.ghost (λj (st:Int×Int×Unit) w'=>∃(k:Nat) (m:Int),j=n-k/\k<=n/\st=(m,(k:Int),())/\Below w.heap.size w w'/\0<=m/\m<=k/\(mdlP pl k=!(m==0))/\∀i,i<k->zx (ix pl i)<=zx (ix pl n)) n
  ⟨0,0,rfl,Nat.zero_le _,rfl,b1,by omega,by omega,rfl,λi hi=>by omega⟩ ?_
 rintro _ _ w2 ⟨k,m,rfl,hk,rfl,hb,hm0,hmk,hmd,hlow⟩ next hnext
 have hN2:=hN.below hb
 refine zf (λh=>?_) (λh=>?_)
 ·have hkn:k<n:=by dsimp only at h;omega
  have hkl:k<pl.length:=by omega
  refine zl.cut (λ(st:Int×Unit) w'=>Below w.heap.size w w'/\zx (ix pl k)<=zx (ix pl n)/\0<=st.1/\st.1<=k+1/\mdlP pl (k+1)=!(st.1==0)) ?_ ?_
  ·refine yu hN2 hkl λt ht=>?_
   refine YQ (x:=mkIn pl[k] t) ht λw3 b3=>⟨_,rfl,?_⟩
   rw[ep hkl t]
   have hb3:=hb.on b3
   refine zf (λhgt=>?_) (λhgt=>?_)
   ·have:=hR w3 hb3
    rw[zfr hkn (by omega)]at this
    exact this
   ·refine yu (hN.below hb3) hkl λt ht=>?_
    refine YQ (x:=mkIn pl[k] t) ht λw4 b4=>⟨_,rfl,?_⟩
    rw[ep hkl t]
    have hb4:=hb3.on b4
    refine zm (λe1=>?_) (λe1=>?_)
    ·have e1:((zx (ix pl k):Nat):Int)=((1:Nat):Int):=e1
     have e1:=Int.ofNat.inj e1
     dsimp only
     rw[zq (by omega) (by omega)]
     refine⟨hb4,by omega,by omega,by omega,?_⟩
     rw[zhw,beq_iff_eq.2 e1,Bool.or_true,beq_eq_false_iff_ne.2 (show m+1≠0 by omega)]
     rfl
    ·refine⟨hb4,by omega,hm0,by dsimp only;omega,?_⟩
     rw[zhw,hmd,beq_eq_false_iff_ne.2 (show zx (ix pl k)≠1 from λh=>e1 (by rw[h];rfl)),Bool.or_false]
  ·rintro⟨m',_⟩ w5 ⟨hb5,hp5,h05,h15,hmd5⟩
   dsimp only at h05 h15 hmd5⊢
   rw[zq (by omega) (by omega)]
   refine hnext (n-(k+1)) _ _ (by omega) ⟨k+1,m',rfl,by omega,rfl,hb5,h05,by omega,hmd5,λi hi=>?_⟩
   by_cases e:i=k
   ·subst e;exact hp5
   ·exact hlow i (by omega)
 ·have hkn:k=n:=by dsimp only at h;omega
  subst hkn
  have no:¬zk5 pl k=true:=zlM hlow
  dsimp only
  refine zm (λe1=>?_) (λe1=>?_)
  ·have:=hR w2 hb
   unfold mayP at this
   rw[if_neg no,if_pos (by omega),hmd,Bool.not_not]at this
   exact this
  have n1:¬zx (ix pl k)=1:=λh=>e1 (by rw[h];rfl)
  refine zl.cut (λ_ w'=>w'=w2/\¬(1<zx (ix pl k)/\mdlP pl k=false)) ?_ ?_
  ·refine zf (λh1=>zm (λe0=>?_) (λe0=>⟨rfl,λ⟨_,g⟩=>?_⟩)) (λh1=>⟨rfl,λ⟨g,_⟩=>by omega⟩)
   ·have:=hR w2 hb
    rw[zk1 (by rw[hmd,e0];rfl) (by omega)]at this
    exact this
   ·rw[hmd,beq_eq_false_iff_ne.2 e0]at g
    cases g
  rintro _ w6 ⟨rfl,n2⟩
  refine zf (λh8=>?_) (λh8=>?_)
  ·have:=hR w6 hb
   unfold mayP at this
   rw[if_neg no,if_neg n1,if_neg n2,if_pos (by omega)]at this
   exact this
  have hR:∀w',Below w.heap.size w w'->R (.bool (Yx (ix pl k).1 (zN pl k) (yO pl (k-1)))) w':=λw' hb'=>by
   have:=hR w' hb'
   unfold mayP at this
   rw[if_neg no,if_neg n1,if_neg n2,if_neg (by omega)]at this
   exact this
  have hlab:=@zmB pl k hg
  refine zco hN2 hn ?_
  rw[<-yg hn]
  refine zl.cut (λ(st:Int×Unit) w'=>Below w.heap.size w w'/\st.1=zN pl k) ?_ ?_
  ·refine zf (λhp=>?_) (λhp=>?_)
   ·obtain⟨m',rfl⟩:∃m',k=m'+1:=⟨k-1,by omega⟩
    have ew:IntKind.i64.wrap (((m'+1:Nat):Int)-1)=(m':Int):=by rw[zq (by omega) (by omega)];omega
    rw[ew]
    have hml:m'<pl.length:=by omega
    refine yu hN2 hml λt ht=>?_
    refine YQ (x:=mkIn pl[m'] t) ht λw7 b7=>⟨_,rfl,?_⟩
    rw[ep hml t]
    have hb7:=hb.on b7
    refine zm (λe8=>?_) (λe8=>⟨hb7,?_⟩)
    ·refine zco (hN.below hb7) hml ⟨hb7,?_⟩
     rw[<-yg hml]
     exact(if_pos (by omega)).symm
    ·exact(if_neg (λh=>e8 (by rw[h];rfl))).symm
   ·have:k=0:=by omega
    subst this
    exact⟨hb,rfl⟩
  rintro⟨ah,_⟩ w8 ⟨hb8,hah⟩
  dsimp only at hah⊢
  rw[<-hah]at hR hlab
  have hN8:=hN.below hb8
  have hR8:=hR w8 hb8
  generalize (ix pl k).1=op at hR hR8
  have hfirst:¬(ah=0\/ah=54\/ah=55\/ah=56\/zZ ah=true)->∀{S:VWP},S (.bool (yO pl (k-1))) w8->cR 154 #[.slice s.a s.l s.c,.int .i64 (IntKind.i64.wrap ((k:Int)-1))] w8 S:=by
   intro hc S hS
   obtain⟨j,j1,j2,j3⟩:=hlab hc
   obtain⟨m',rfl⟩:∃m',k=m'+1:=⟨k-1,by omega⟩
   have ew:IntKind.i64.wrap (((m'+1:Nat):Int)-1)=(m':Int):=by rw[zq (by omega) (by omega)];omega
   rw[ew]
   exact zoT hN8 hmax (by omega) ⟨j,j1,by omega,j3⟩ hS
  unfold Yx at hR8
  have bt:∀{a b:Int} (c:Bool),a=b->R (.bool ((a==b)||c)) w8->R (.bool true) w8:=λc h g=>by rwa[beq_iff_eq.2 h,Bool.true_or]at g
  have bf:∀{a b:Int} (c:Bool),a≠b->R (.bool ((a==b)||c)) w8->R (.bool c) w8:=λc h g=>by rwa[beq_eq_false_iff_ne.2 h,Bool.false_or]at g
  refine zm (λe=>?_) (λe=>?_)
  ·rw[if_pos e]at hR8
   exact zm (λe2=>bt _ e2 hR8) (λe2=>bf _ e2 hR8)
  rw[if_neg e]at hR8
  refine zm (λe=>?_) (λe=>?_)
  ·rw[if_pos e]at hR8
   exact zm (λe2=>bt _ e2 hR8) (λe2=>bf _ e2 hR8)
  rw[if_neg e]at hR8
  refine zm (λe=>?_) (λe=>?_)
  ·rw[if_pos e,Bool.or_assoc]at hR8
   exact zm (λe2=>bt _ e2 hR8) (λe2=>zm (λe3=>bt _ e3 (bf _ e2 hR8)) (λe3=>zfK ⟨_,rfl,bf _ e3 (bf _ e2 hR8)⟩))
  rw[if_neg e]at hR8
  refine zm (λe=>?_) (λe=>?_)
  ·rw[if_pos e]at hR8
   exact zfK ⟨_,rfl,hR8⟩
  rw[if_neg e]at hR8
  refine zl.cut (λ_ w'=>w'=w8/\¬(ah=0\/ah=54\/ah=55\/ah=56\/zZ ah=true)) ?_ ?_
  ·refine zm (λe0=>by rwa[if_pos (.inl e0)]at hR8) (λe0=>?_)
   refine zm (λe1=>by rwa[if_pos (.inr (.inl e1))]at hR8) (λe1=>?_)
   refine zm (λe2=>by rwa[if_pos (.inr (.inr (.inl e2)))]at hR8) (λe2=>?_)
   refine zm (λe3=>by rwa[if_pos (.inr (.inr (.inr (.inl e3))))]at hR8) (λe3=>?_)
   refine zfK ⟨_,rfl,zo (λe4=>by rwa[if_pos (.inr (.inr (.inr (.inr e4))))]at hR8) (λe4=>⟨rfl,?_⟩)⟩
   rintro(g |g |g |g |g)
   ·exact e0 g
   ·exact e1 g
   ·exact e2 g
   ·exact e3 g
   ·rw[e4]at g;cases g
  rintro _ w9 ⟨rfl,hc⟩
  rw[if_neg hc]at hR8
  refine zm (λe=>?_) (λe=>?_)
  ·rw[if_pos e]at hR8
   refine zm (λe2=>?_) (λe2=>zm (λe3=>?_) (λe3=>?_))
   ·rw[beq_iff_eq.2 e2,Bool.true_or,Bool.true_and]at hR8
    exact hfirst hc ⟨_,rfl,hR8⟩
   ·rw[beq_iff_eq.2 e3,Bool.or_true,Bool.true_and]at hR8
    exact hfirst hc ⟨_,rfl,hR8⟩
   ·rw[beq_eq_false_iff_ne.2 e2,beq_eq_false_iff_ne.2 e3,Bool.or_false,Bool.false_and]at hR8
    exact hR8
  rw[if_neg e]at hR8
  refine zm (λe=>?_) (λe=>?_)
  ·rw[if_pos e]at hR8
   refine zm (λe2=>?_) (λe2=>zm (λe3=>?_) (λe3=>?_))
   ·rw[beq_iff_eq.2 e2,Bool.true_or,Bool.true_and]at hR8
    exact hfirst hc ⟨_,rfl,hR8⟩
   ·rw[beq_iff_eq.2 e3,Bool.or_true,Bool.true_and]at hR8
    exact hfirst hc ⟨_,rfl,hR8⟩
   ·rw[beq_eq_false_iff_ne.2 e2,beq_eq_false_iff_ne.2 e3,Bool.or_false,Bool.false_and]at hR8
    exact hR8
  rw[if_neg e]at hR8
  refine zm (λe=>?_) (λe=>?_)
  ·rw[if_pos e]at hR8
   exact zm (λe2=>bt _ e2 hR8) (λe2=>bf _ e2 hR8)
  rw[if_neg e]at hR8
  refine zm (λe=>?_) (λe=>?_)
  ·rw[if_pos e]at hR8
   exact zm (λe2=>bt _ e2 hR8) (λe2=>bf _ e2 hR8)
  ·rw[if_neg e]at hR8
   exact hR8
theorem zjx{x:Mo}(hN:IsPl w x.2.2.1 pl)(hp:PlOk pl)(hR:∀w',Below w.heap.size w w'->R (.agg #[.int .i64 (layP x.2.1 pl).1,.int .i64 ((layP x.2.1 pl).2:Int)]) w') :
  cR 79 #[moA x] w R:=by
 refine za.of (zdK x R w ?_) λ_ _ h=>h
 refine zn λw1 hB1 b1 z1=>?_
 have hB1:Blk w1 w.heap.size 25 (moV x):=hB1
 refine zn λw2 hC2 b2 z2=>?_
 have hC2:Blk w2 w1.heap.size 29 [.int .i64 0,.int .i64 0]:=hC2
 have hb2:=b1.on b2
 have s1:=b1.size
 have hlen:=hN.len
 have h40:=hp.len
 refine Mo.load (hB1.below b2) ?_
 refine zoZ (x:=x) (hN.below hb2) hp λw3 b3=>⟨((zG x.2.1 pl).1,((zG x.2.1 pl).2:Int),()),rfl,?_⟩
 refine box2 rfl λw4 h4 b4 z4=>?_
 have b24:=b3.on b4
 have hb4:=hb2.on b24
 have hB4:=(hB1.below b2).below b24
 have hC4:=hC2.below b24
 refine h4.rI0 rfl (zt (λe=>?_) (λe=>?_))
 ·have e':(zG x.2.1 pl).1≠0:=e
  have hl:layP x.2.1 pl=zG x.2.1 pl:=if_pos e'
  rw[hl]at hR
  refine Sp.load h4 ?_
  refine st2 hC4 rfl λw5 h5 c5=>Sp.load h5 ?_
  exact hR w5 (c5.below hb4 (by omega))
 ·have e':(zG x.2.1 pl).1=0:=e
  have hl:layP x.2.1 pl=chkP pl:=if_neg (λh=>h e')
  rw[hl]at hR
  refine hB4.rS (n:=2) (x:=x.2.2.1) rfl ?_
  have ep:∀{j:Nat} (hj:j<pl.length) (t:Sl),zx (piOf (mkIn pl[j] t) pl[j].2.2.2)=zx (ix pl j):=λhj t=>by rw[yg hj]
  have out:∀{w':World} {a b:Int},Below w4.heap.size w4 w'->(chkP pl).1=a->(((chkP pl).2:Nat):Int)=b->Wr w' (blk w1.heap.size)/\Nw (w'.setCell (blk w1.heap.size) (.int .i64 a)) λw7=>Wr w7 ((blk w1.heap.size).add 1)/\
    Nw (w7.setCell ((blk w1.heap.size).add 1) (.int .i64 b)) λw8=>ldI w8 ((blk w1.heap.size).add 0) .i64 λx9=>ldI w8 ((blk w1.heap.size).add 1) .i64 λx10=>R (.agg #[(.int .i64 x9),(.int .i64 x10)]) w8:=by
   intro w' a b hb e1 e2
   subst e1 e2
   exact st2 (hC4.below hb) rfl λw8 h8 c8=>Sp.load h8 (hR w8 (c8.below (hb4.on hb) (by omega)))
  refine zk.ghost (λj (st:Int×Int×Unit) w'=>∃(k:Nat) (m:Int),j=pl.length-k/\k<=pl.length/\st=(m,(k:Int),())/\Below w4.heap.size w4 w'/\0<=m/\m<=k/\(mdlP pl k=!(m==0))/\Z0 pl k) pl.length
   ⟨0,0,rfl,Nat.zero_le _,rfl,Below.refl _ _,by omega,by omega,rfl,λi hi=>by omega⟩ ?_
  rintro _ _ w5 ⟨k,m,rfl,hk,rfl,hb,hm0,hmk,hmd,hg⟩ next hnext
  have hN5:=hN.below (hb4.on hb)
  refine zf (λh=>?_) (λh=>?_)
  ·have hkl:k<pl.length:=by dsimp only at h;omega
   refine zl.cut (λ(st:Int×Unit) w'=>Below w4.heap.size w4 w'/\mayP pl k=true/\0<=st.1/\st.1<=k+1/\mdlP pl (k+1)=!(st.1==0)) ?_ ?_
   ·refine zrv hN5 (by omega) hkl hg λw6 b6=>⟨_,rfl,?_⟩
    have hb6:=hb.on b6
    refine zF (zo (λhm=>?_) (λhm=>?_))
    ·refine yu (hN.below (hb4.on hb6)) hkl λt ht=>?_
     refine YQ (x:=mkIn pl[k] t) ht λw7 b7=>⟨_,rfl,?_⟩
     rw[ep hkl t]
     have hb7:=hb6.on b7
     refine zm (λe1=>?_) (λe1=>?_)
     ·have e1:((zx (ix pl k):Nat):Int)=((1:Nat):Int):=e1
      have e1:=Int.ofNat.inj e1
      dsimp only
      rw[zq (by omega) (by omega)]
      refine⟨hb7,hm,by omega,by omega,?_⟩
      rw[zhw,beq_iff_eq.2 e1,Bool.or_true,beq_eq_false_iff_ne.2 (show m+1≠0 by omega)]
      rfl
     ·refine⟨hb7,hm,hm0,by dsimp only;omega,?_⟩
      rw[zhw,hmd,beq_eq_false_iff_ne.2 (show zx (ix pl k)≠1 from λh=>e1 (by rw[h];rfl)),Bool.or_false]
    ·have hch:=zqy hg hkl hm
     exact out hb6 (by rw[hch]) (by rw[hch])
   ·rintro⟨m',_⟩ w8 ⟨hb8,hm8,h08,h18,hmd8⟩
    dsimp only at h08 h18 hmd8⊢
    rw[zq (by omega) (by omega)]
    exact hnext (pl.length-(k+1)) _ _ (by omega) ⟨k+1,m',rfl,hkl,rfl,hb8,h08,by omega,hmd8,hg.step hm8⟩
  ·have hkl:k=pl.length:=by dsimp only at h;omega
   subst hkl
   have hch:=znp hg
   dsimp only
   have opn:zaA pl=true->∀{w':World},Below w4.heap.size w4 w'->_:=λho {w'} hb'=>out (w':=w') (a:=51) (b:=(pl.length:Int)) hb' (by rw[hch,if_pos ho]) (by rw[hch,if_pos ho])
   rw[hlen]
   refine zl.cut (λ_ w'=>Below w4.heap.size w4 w'/\zaA pl=false) ?_ ?_
   ·refine zm (λe0=>opn (zju (by rw[hmd,e0];rfl)) hb) (λe0=>?_)
    have hmt:mdlP pl pl.length=true:=by rw[hmd,beq_eq_false_iff_ne.2 e0];rfl
    obtain⟨j,hj,_⟩:=zhc.1 hmt
    obtain⟨n,hn⟩:∃n,pl.length=n+1:=⟨pl.length-1,by omega⟩
    have hnl:n<pl.length:=by omega
    have ew:IntKind.i64.wrap (((pl.length:Nat):Int)-1)=(n:Int):=by rw[zq (by omega) (by omega)];omega
    have eo:zaA pl=(zx (ix pl n)==8&&(ix pl n).1 !=56):=by
     unfold zaA
     rw[hmt,show pl.length-1=n by omega,decide_eq_true (show 0<pl.length by omega)]
     simp
    rw[ew,<-hlen]
    refine yu hN5 hnl λt ht=>?_
    refine YQ (x:=mkIn pl[n] t) ht λw6 b6=>⟨_,rfl,?_⟩
    rw[ep hnl t]
    have hb6:=hb.on b6
    refine zm (λe8=>?_) (λe8=>⟨hb6,?_⟩)
    ·refine zco (hN.below (hb4.on hb6)) hnl ?_
     rw[<-yg hnl]
     refine zt (λe56=>?_) (λe56=>⟨hb6,?_⟩)
     ·rw[hlen]
      exact opn (by rw[eo,beq_iff_eq.2 (show zx (ix pl n)=8 by omega),bne_iff_ne.2 e56];rfl) hb6
     ·rw[eo,e56];simp
    ·rw[eo,beq_eq_false_iff_ne.2 (λh=>e8 (by rw[h];rfl)),Bool.false_and]
   ·rintro _ w9 ⟨hb9,ho⟩
    exact out hb9 (by rw[hch,if_neg (by rw[ho];decide)]) (by rw[hch,if_neg (by rw[ho];decide)];rfl)
end
theorem zlE{bd:Int}{pl:List PI}(h:(layP bd pl).1=0):(zG bd pl).1=0/\Z0 pl pl.length/\zaA pl=false:=by
 unfold layP at h
 by_cases h1:(zG bd pl).1≠0
 ·rw[if_pos h1]at h;exact absurd h h1
 rw[if_neg h1]at h
 refine⟨Classical.not_not.1 h1,?_⟩
 unfold chkP at h
 cases hf:(List.range pl.length).find? (λk=>!mayP pl k) with
 |some k=>rw[hf]at h;cases h
 |none=>
  rw[hf]at h
  refine⟨λk hk=>?_,?_⟩
  ·have:=List.find?_eq_none.1 hf k (List.mem_range.2 hk)
   simpa using this
  ·cases ho:zaA pl
   ·rfl
   ·rw[ho]at h;cases h
structure BkOk (pl:List PI) (n:Nat) (b:Int×Int×Int):Prop where
 ex:∃f t:Nat,b=((ix pl f).2.2.1,(f:Int),(t:Int))/\f+2<=t/\t<=n/\(ix pl f).1=248/\zx (ix pl f)=8/\zZ (ix pl (t-1)).1=true/\zx (ix pl (t-1))=8
theorem BkOk.mono{pl:List PI}{n m:Nat}{b:Int×Int×Int}(h:BkOk pl n b)(hm:n<=m):BkOk pl m b:=by
 obtain⟨f,t,h1,h2,h3,h4⟩:=h.ex
 exact⟨f,t,h1,h2,by omega,h4⟩
structure FnOk (pl:List PI) (n:Nat) (f:FnL):Prop where
 ne:f.bk≠[]
 ok:∀b∈f.bk,BkOk pl n b
 lt:f.bk.Pairwise λa b=>a.2.1<b.2.1
theorem FnOk.mono{pl:List PI}{n m:Nat}{f:FnL}(h:FnOk pl n f)(hm:n<=m):FnOk pl m f:=⟨h.ne,λb hb=>(h.ok b hb).mono hm,h.lt⟩
inductive znT (pl:List PI) (n:Nat) (ah:Int):List FnL->Prop
 |out (h:ah=0\/ah=56):znT pl n ah []
 |head (f:FnL) (h:ah=54\/ah=55) (hb:f.bk=[]):znT pl n ah [f]
 |shut (f:FnL) (h:zZ ah=true) (hf:FnOk pl n f):znT pl n ah [f]
 |open_ (f:FnL) (bs:List (Int×Int×Int)) (k:Nat) (h:¬(ah=0\/ah=54\/ah=55\/ah=56\/zZ ah=true)) (hb:f.bk=bs++[((ix pl k).2.2.1,(k:Int),0)])
   (hk:k<n) (h1:(ix pl k).1=248) (h8:zx (ix pl k)=8) (ho:∀b∈bs,BkOk pl n b) (hlt:∀b∈bs,b.2.1<k) (hp:bs.Pairwise λa b=>a.2.1<b.2.1):znT pl n ah [f]
def zjA(pl:List PI)(n:Nat):Prop:=∃done last,cutF pl n=done++last/\(∀f∈done,FnOk pl n f)/\znT pl n (zN pl n) last
theorem zT{op:Int}(h:zZ op=true):249<=op/\op<=255:=by unfold zZ at h;exact of_decide_eq_true h
theorem Z9{α:Type}{R:α->α->Prop}{l:List α}{x:α}(h:l.Pairwise R)(hx:∀y∈l,R y x):(l++[x]).Pairwise R:=by
 rw[List.pairwise_append]
 exact⟨h,List.pairwise_singleton _ _,λa ha b hb=>by rw[List.mem_singleton.1 hb];exact hx a ha⟩
theorem BkOk.from_lt{pl:List PI}{n:Nat}{b:Int×Int×Int}(h:BkOk pl n b):b.2.1<(n:Int):=by
 obtain⟨f,t,rfl,h2,h3,_⟩:=h.ex
 show(f:Int)<n
 omega
theorem zjA.step{pl:List PI}{n:Nat}(h:zjA pl n)(hm:mayP pl n=true)(hg:Z0 pl n)(hn:n<pl.length):zjA pl (n+1):=by
 obtain⟨done,last,hc,hd,hl⟩:=h
 have hd':∀f∈done,FnOk pl (n+1) f:=λf hf=>(hd f hf).mono (by omega)
 have hc':cutF pl (n+1)=cutS (cutF pl n) n (ix pl n):=rfl
 by_cases h8:zx (ix pl n)=8
 ·have ha':zN pl (n+1)=(ix pl n).1:=zdv h8
  have ho:=zn8 hm h8
  have hne:=zs5 h8
  generalize hah:zN pl n=ah at hl ho
  generalize yO pl (n-1)=fi at ho
  have hcS:∀f,cutF pl n=done++[f]->∀g:FnL->FnL,modL g (cutF pl n)=done++[g f]:=λf e g=>by rw[e,yj]
  unfold zjA
  rw[ha',hc']
  by_cases e54:(ix pl n).1=54
  ·rw[e54]at ho⊢
   have ho:(ah==0||ah==56)=true:=ho
   have hah2:ah=0\/ah=56:=by simpa using ho
   have hlast:last=[]:=by
    cases hl with
    |out h=>rfl
    |head f h hb=>omega
    |shut f h hf=>have:=zT h;omega
    |open_ f bs k h _ _ _ _ _ _ _=>exact absurd (hah2.elim .inl λe=>.inr (.inr (.inr (.inl e)))) h
   subst hlast
   refine⟨done,[⟨(ix pl n).2.2.1,n,0,[],[]⟩],?_,hd',.head _ (.inl rfl) rfl⟩
   unfold cutS
   rw[if_pos e54,hc,List.append_nil]
  by_cases e55:(ix pl n).1=55
  ·rw[e55]at ho⊢
   have ho:(ah==54||ah==55)=true:=ho
   have hah2:ah=54\/ah=55:=by simpa using ho
   obtain⟨f,rfl,hb⟩:∃f,last=[f]/\f.bk=[]:=by
    cases hl with
    |out h=>omega
    |head f h hb=>exact⟨f,rfl,hb⟩
    |shut f h hf=>have:=zT h;omega
    |open_ f bs k h _ _ _ _ _ _ _=>exact absurd (hah2.elim (λe=>.inr (.inl e)) λe=>.inr (.inr (.inl e))) h
   refine⟨done,_,?_,hd',.head {f with ps:=f.ps++[(n:Int)]} (.inr rfl) hb⟩
   unfold cutS
   rw[if_neg e54,if_pos e55,hcS f hc]
  by_cases e248:(ix pl n).1=248
  ·have ho:(ah==54||ah==55||zZ ah)=true:=by rw[e248]at ho;exact ho
   have hin:¬((248:Int)=0\/(248:Int)=54\/(248:Int)=55\/(248:Int)=56\/zZ 248=true):=by decide
   obtain⟨f,rfl,hb,hp,hlt⟩:∃f,last=[f]/\(∀b∈f.bk,BkOk pl (n+1) b)/\f.bk.Pairwise (λa b=>a.2.1<b.2.1)/\∀b∈f.bk,b.2.1<(n:Int):=by
    cases hl with
    |out h=>rcases h with rfl |rfl<;>cases ho
    |head f h hb=>exact⟨f,rfl,by rw[hb];exact λ_ h=>(by cases h),by rw[hb];exact List.Pairwise.nil,by rw[hb];exact λ_ h=>(by cases h)⟩
    |shut f h hf=>exact⟨f,rfl,λb hb=>(hf.ok b hb).mono (by omega),hf.lt,λb hb=>(hf.ok b hb).from_lt⟩
    |open_ f bs k h _ _ _ _ _ _ _=>
     refine absurd ?_ h
     rw[Bool.or_eq_true,Bool.or_eq_true,beq_iff_eq,beq_iff_eq]at ho
     rcases ho with(e |e) |e
     ·exact .inr (.inl e)
     ·exact .inr (.inr (.inl e))
     ·exact .inr (.inr (.inr (.inr e)))
   rw[e248]
   refine⟨done,_,?_,hd',.open_ {f with bk:=f.bk++[((ix pl n).2.2.1,(n:Int),0)]} f.bk n hin rfl (by omega) e248 h8 hb hlt hp⟩
   unfold cutS
   rw[if_neg e54,if_neg e55,if_neg (by omega),if_pos e248,hcS f hc]
  by_cases e56:(ix pl n).1=56
  ·have ho:zZ ah=true:=by rw[e56]at ho;exact ho
   obtain⟨f,rfl,hf⟩:∃f,last=[f]/\FnOk pl n f:=by
    cases hl with
    |out h=>have:=zT ho;omega
    |head f h hb=>have:=zT ho;omega
    |shut f h hf=>exact⟨f,rfl,hf⟩
    |open_ f bs k h _ _ _ _ _ _ _=>exact absurd (.inr (.inr (.inr (.inr ho)))) h
   have hf':=hf.mono (Nat.le_succ n)
   refine⟨done++[{f with en:=n}],[],?_,λg hg=>?_,by rw[e56];exact .out (.inr rfl)⟩
   ·unfold cutS
    rw[if_neg e54,if_neg e55,if_pos e56,hcS f hc,List.append_nil]
   ·rcases List.mem_append.1 hg with hg |hg
    ·exact hd' g hg
    ·rw[List.mem_singleton.1 hg]
     exact⟨hf'.ne,hf'.ok,hf'.lt⟩
  have hin:¬(ah=0\/ah=54\/ah=55\/ah=56\/zZ ah=true):=λhin=>by
   unfold Yx at ho
   rw[if_neg e54,if_neg e55,if_neg e248,if_neg e56,if_pos hin]at ho
   cases ho
  obtain⟨f,bs,k,rfl,hb,hk,h1,h8k,hob,hlt,hp⟩:∃f bs k,last=[f]/\f.bk=bs++[((ix pl k).2.2.1,(k:Int),0)]/\k<n/\(ix pl k).1=248/\zx (ix pl k)=8/\(∀b∈bs,BkOk pl n b)/\(∀b∈bs,b.2.1<(k:Int))/\bs.Pairwise (λa b=>a.2.1<b.2.1):=by
   cases hl with
   |out h=>exact absurd (h.elim .inl λe=>.inr (.inr (.inr (.inl e)))) hin
   |head f h hb=>exact absurd (h.elim (λe=>.inr (.inl e)) λe=>.inr (.inr (.inl e))) hin
   |shut f h hf=>exact absurd (.inr (.inr (.inr (.inr h)))) hin
   |open_ f bs k h hb hk h1 h8 ho hlt hp=>exact⟨f,bs,k,rfl,hb,hk,h1,h8,ho,hlt,hp⟩
  by_cases ee:zZ (ix pl n).1=true
  ·refine⟨done,_,?_,hd',.shut {f with bk:=bs++[((ix pl k).2.2.1,(k:Int),((n+1:Nat):Int))]} ee ⟨by simp,λb hb'=>?_,?_⟩⟩
   ·unfold cutS
    rw[if_neg e54,if_neg e55,if_neg e56,if_neg e248,if_pos ee,hcS f hc]
    simp only[hb,yj]
    rfl
   ·rcases List.mem_append.1 hb' with hb' |hb'
    ·exact(hob b hb').mono (by omega)
    ·rw[List.mem_singleton.1 hb']
     exact⟨k,n+1,rfl,by omega,Nat.le_refl _,h1,h8k,by rw[Nat.add_sub_cancel];exact ee,by rw[Nat.add_sub_cancel];exact h8⟩
   ·exact Z9 hp λy hy=>hlt y hy
  ·refine⟨done,[f],?_,hd',.open_ f bs k (λg=>?_) hb (by omega) h1 h8k (λb hb'=>(hob b hb').mono (by omega)) hlt hp⟩
   ·unfold cutS
    rw[if_neg e54,if_neg e55,if_neg e56,if_neg e248,if_neg ee,hc]
   ·rcases g with g |g |g |g |g
    ·exact hne g
    ·exact e54 g
    ·exact e55 g
    ·exact e56 g
    ·exact ee g
 ·have ha':zN pl (n+1)=0:=if_neg h8
  have h0:zN pl n=0:=by
   cases n with
   |zero=>rfl
   |succ m=>
    refine if_neg λe=>?_
    have:=zjS (pl:=pl) (n:=m+1+1) (hg.step hm) (i:=m) (j:=m+1) (by omega) (by omega)
    have:=zcj (ix pl (m+1))
    omega
  have hlast:last=[]:=by
   rw[h0]at hl
   cases hl with
   |out h=>rfl
   |head f h hb=>omega
   |shut f h hf=>have:=zT h;omega
   |open_ f bs k h _ _ _ _ _ _ _=>exact absurd (.inl rfl) h
  subst hlast
  unfold zjA
  rw[ha',hc',zly (.inl h8),hc]
  exact⟨done,[],rfl,hd',.out (.inl rfl)⟩
theorem zns{pl:List PI}(hg:Z0 pl pl.length):∀n,n<=pl.length->zjA pl n
 | 0,_=>⟨[],[],rfl,λ_ h=>(by cases h),.out (.inl rfl)⟩
 |n+1,h=>(zns hg n (by omega)).step (hg n (by omega)) (λk hk=>hg k (by omega)) (by omega)
theorem znt{bd:Int}{pl:List PI}(h:(layP bd pl).1=0):∀f∈cutF pl pl.length,FnOk pl pl.length f:=by
 obtain⟨_,hg,ho⟩:=zlE h
 obtain⟨done,last,hc,hd,hl⟩:=zns hg pl.length (Nat.le_refl _)
 have hah:zN pl pl.length=0\/zN pl pl.length=56:=by
  cases hlen:pl.length with
  |zero=>exact .inl rfl
  |succ m=>
   by_cases h8:zx (ix pl m)=8
   ·right
    rw[zdv h8]
    unfold zaA at ho
    rw[hlen,Nat.add_sub_cancel]at ho
    simp only[h8,Bool.or_eq_false_iff]at ho
    have:=ho.2
    simpa using this
   ·exact .inl (if_neg h8)
 have hlast:last=[]:=by
  generalize zN pl pl.length=ah at hl hah
  cases hl with
  |out h=>rfl
  |head f h hb=>omega
  |shut f h hf=>have:=zT h;omega
  |open_ f bs k h _ _ _ _ _ _ _=>exact absurd (hah.elim .inl λe=>.inr (.inr (.inr (.inl e)))) h
 subst hlast
 rw[hc,List.append_nil]
 exact hd
end Go.Proofs
namespace Go.Proofs
open Go.Gk
set_option linter.unusedVariables false
set_option maxRecDepth 100000
def zem:Ann:=Z1N
def zeb(p0:Option Addr)(R:VWP)(w:World):Prop:=ifB (Option.isNone p0) (R (zi 0) w) (zc p0 λa1=>ldS w a1 λx2=>R (zi (x2.l:Int)) w)
theorem zbo(p0)(R)(w)(h:zeb p0 R w):cC 15 #[.pointer p0] w R:=lwC zem Tryz.func15 h
def zaY:Ann:=Z16
def zaI(p0:Option Addr)(p1:Int)(R:VWP)(w:World):Prop:=dz 40 #[.pointer p0,zi p1] w λx2 w1=>ifB x2 (zc p0 λa3=>dz 41 #[.pointer (some (a3.add 4)),zi p1] w1 λx5 w2=>R (.bool x5) w2) (R (.bool false) w1)
theorem Yv(p0)(p1)(R)(w)(h:zaI p0 p1 R w):cC 16 #[.pointer p0,.int .i64 p1] w R:=lwC zaY Tryz.func16 h
def zc9:Ann:=Z1N
def zcx(p0:Option Addr)(p1:Int)(R:VWP)(w:World):Prop:=dz 40 #[.pointer p0,zi p1] w λx2 w1=>ifB (!x2) (R (.slice none 0 0) w1) (zc p0 λa3=>ldS w1 (a3.add 1) λx4=>(0<=p1/\p1<(x4.l:Int))/\zc x4.a λa5=>ldS w1 (a5.add p1.toNat) λx6=>dk 42 #[x6.zw] w1 λx8 w2=>R (x8.zw) w2)
theorem zad(p0)(p1)(R)(w)(h:zcx p0 p1 R w):cC 17 #[.pointer p0,.int .i64 p1] w R:=lwC zc9 Tryz.func17 h
def zlo:Ann:=(.q (.seq none Z1T (.seq (some ⟨[0],[(4,(.b .ptr))]⟩) .nil (.seq none (.q (.one (.loop ⟨[0,4,26,27],[(28,(.b (.int .i64)))]⟩ (.q (.seq none .c (.seq none (.one (.q (.q (.q (.one (.loop ⟨[0,4,5,7,26,27,28,33,34],[(35,(.b (.int .i64)))]⟩ (.q (.seq none .c (.seq (some ⟨[0,4,5,7,26,27,28,33,34,35],[]⟩) (.one (.q (.seq (some ⟨[0,4,5,7,9,26,27,28,33,34,35],[]⟩) Z10 Z1F))) .nil))))))))) .nil)))))) Z16))))
def zij(p0:Sl)(R:VWP)(w:World):Prop:=ifB ((p0.l:Int)==0) (R (.tuple #[.pointer none,zi 2]) w) (ifB (decide ((p0.l:Int)>4096)) (R (.tuple #[.pointer none,zi 4]) w) (zl (S:=(Option Addr)×Unit) (λm1=>((0<=(p0.l:Int)/\(p0.l:Int)<=(p0.l:Int)/\24*(p0.l:Int)<=281474976710656/\(p0.l:Int)<=9223372036854775807)/\Nw (w.drew.alloc (.cells (madeCells #[.slice none 0 0] (p0.l*1)) 43)) λw1=>(0<=(p0.l:Int)/\(p0.l:Int)<=(p0.l:Int)/\24*(p0.l:Int)<=281474976710656/\(p0.l:Int)<=9223372036854775807)/\Nw (w1.alloc (.cells (madeCells #[.slice none 0 0] (p0.l*1)) 43)) λw2=>Nw (w2.alloc (.cells (List.toArray ([(.slice (some (blk w.drew.heap.size)) p0.l p0.l),(.slice (some (zB w1)) p0.l p0.l),(.slice none 0 0),(.slice none 0 0)]++List.replicate 64 (.int .u64 0))) 118)) λw3=>m1 ((some (zB w2)),()) w3)/\(0<=(p0.l:Int)/\(p0.l:Int)<=(p0.l:Int)/\24*(p0.l:Int)<=281474976710656/\(p0.l:Int)<=9223372036854775807)/\Nw (w.drew.alloc (.cells (madeCells #[.slice none 0 0] (p0.l*1)) 43)) λw4=>(0<=(p0.l:Int)/\(p0.l:Int)<=(p0.l:Int)/\24*(p0.l:Int)<=281474976710656/\(p0.l:Int)<=9223372036854775807)/\Nw (w4.alloc (.cells (madeCells #[.slice none 0 0] (p0.l*1)) 43)) λw5=>Nw (w5.alloc (.cells (List.toArray ([(.slice (some (zB w4)) p0.l p0.l),(.slice (some (blk w.drew.heap.size)) p0.l p0.l),(.slice none 0 0),(.slice none 0 0)]++List.replicate 64 (.int .u64 0))) 118)) λw6=>m1 ((some (zB w5)),()) w6) (λs2 w7=>zk (S:=Int×Unit) (λs3 w8 n4=>ifB (decide (s3.1<(p0.l:Int))) ((0<=s3.1/\s3.1<(p0.l:Int))/\zc p0.a λa5=>ldS w8 (a5.add s3.1.toNat) λx6=>Nw (w8.alloc (.cells (List.toArray (List.replicate 64 (.int .u64 0))) 116)) λw9=>zk (S:=Int×Unit) (λs7 w10 n8=>ifB (decide (s7.1<(x6.l:Int))) (zl (S:=Unit) (λm9=>(0<=s7.1/\s7.1<(x6.l:Int))/\zc x6.a λa11=>ldI w10 (a11.add s7.1.toNat) .i64 λx12=>zl (S:=Unit) (λm13=>ifB (decide (x12<(0:Int))) (R (.tuple #[.pointer none,zi 141]) w10) (ifB (decide (x12≥(p0.l:Int))) (R (.tuple #[.pointer none,zi 141]) w10) (m13 () w10))) (λs14 w11=>dz 41 #[.pointer (some (zB w8)),zi x12] w11 λx16 w12=>ifB (!x16) (cR 74 #[.pointer (some (zB w8)),zi x12] w12 λv17 w13=>v17=(.tuple #[])/\zc s2.1 λa18=>ldS w13.drew a18 λx19=>zc s2.1 λa20=>ldS w13.drew a20 λx21=>(0<=s3.1/\s3.1<(x21.l:Int))/\zc x21.a λa22=>ldS w13.drew (a22.add s3.1.toNat) λx23=>Nw (w13.drew.alloc (.cells #[zi x12] 3)) λw14=>w14.cell? (a22.add s3.1.toNat)=some (x23.zw)/\w14.cell? a20=some (x21.zw)/\w14.cell? a18=some (x19.zw)/\zp Tryz.prog 43 (x23.zw) (.slice (some (blk w13.drew.heap.size)) 1 1) w14 λr24 w15=>w15.cell? a18=some (x19.zw)/\(0<=s3.1/\s3.1<(x19.l:Int))/\zc x19.a λa25=>Wr w15 (a25.add s3.1.toNat)/\Nw (w15.setCell (a25.add s3.1.toNat) (r24.zw)) λw16=>zc s2.1 λa26=>ldS w16.drew (a26.add 1) λx27=>zc s2.1 λa28=>ldS w16.drew (a28.add 1) λx29=>(0<=x12/\x12<(x29.l:Int))/\zc x29.a λa30=>ldS w16.drew (a30.add x12.toNat) λx31=>Nw (w16.drew.alloc (.cells #[zi s3.1] 3)) λw17=>w17.cell? (a30.add x12.toNat)=some (x31.zw)/\w17.cell? (a28.add 1)=some (x29.zw)/\w17.cell? (a26.add 1)=some (x27.zw)/\zp Tryz.prog 43 (x31.zw) (.slice (some (blk w16.drew.heap.size)) 1 1) w17 λr32 w18=>w18.cell? (a26.add 1)=some (x27.zw)/\(0<=x12/\x12<(x27.l:Int))/\zc x27.a λa33=>Wr w18 (a33.add x12.toNat)/\Nw (w18.setCell (a33.add x12.toNat) (r32.zw)) λw19=>m9 () w19) (m9 () w12))) (λs10 w20=>n8 ((IntKind.i64.wrap (s7.1+(1:Int))),()) w20)) (n4 ((IntKind.i64.wrap (s3.1+(1:Int))),()) w10)) (0,()) w9) (cR 75 #[.pointer s2.1] w8 λv34 w21=>v34=(.tuple #[])/\R (.tuple #[.pointer s2.1,zi 0]) w21)) (0,()) w7)))
theorem zl7(p0)(R)(w)(h:zij p0 R w):cC 39 #[.slice p0.a p0.l p0.c] w R:=lwC zlo Tryz.func39 h
def zeR:Ann:=Z16
def zeJ(p0:Option Addr)(p1:Int)(R:VWP)(w:World):Prop:=ifB (decide (p1≥(0:Int))) (dl 15 #[.pointer p0] w λx2 w1=>R (.bool (decide (p1<x2))) w1) (R (.bool false) w)
theorem zcd(p0)(p1)(R)(w)(h:zeJ p0 p1 R w):cC 40 #[.pointer p0,.int .i64 p1] w R:=lwC zeR Tryz.func40 h
def zeT:Ann:=Z16
def zbs(p0:Option Addr)(p1:Int)(R:VWP)(w:World):Prop:=zc p0 λa1=>(0<=(IntKind.i64.wrap (Int.tdiv p1 64))/\(IntKind.i64.wrap (Int.tdiv p1 64))<64)/\ldI w (a1.add (Int.toNat (IntKind.i64.wrap (Int.tdiv p1 64)))) .u64 λx2=>ifB (decide ((Int.tmod p1 64)<0)) (False) (R (.bool ((IntKind.u64.wrap (BitVec.toNat (BitVec.ofInt (IntKind.bits .u64) (Int.fdiv x2 (2 ^ (min (Int.toNat (Int.tmod p1 64)) (IntKind.bits .u64)))) &&& BitVec.ofInt (IntKind.bits .u64) 1):Int))==1)) w)
theorem zgV(p0)(p1)(R)(w)(h:zbs p0 p1 R w):cC 41 #[.pointer p0,.int .i64 p1] w R:=lwC zeT Tryz.func41 h
def YZ:Ann:=Z1N
def YV(p0:Sl)(R:VWP)(w:World):Prop:=ifB (Option.isNone p0.a) (R (.slice none 0 0) w) (Nw (w.alloc (.cells #[] 3)) λw1=>zp Tryz.prog 43 (.slice (some (zB w)) 0 0) (p0.zw) w1 λr1 w2=>R (r1.zw) w2)
theorem zcS(p0)(R)(w)(h:YV p0 R w):cC 42 #[.slice p0.a p0.l p0.c] w R:=lwC YZ Tryz.func42 h
def ZS:Ann:=(.q (.q (.seq (some ⟨[0,1,5],[]⟩) Z10 (.seq none (.q (.one (.loop ⟨[0,1],[(5,(.b .slice)),(6,(.b (.int .i64)))]⟩ Z18))) Z11))))
def ZN(p0:Option Addr)(p1:Int)(R:VWP)(w:World):Prop:=zl (S:=Unit) (λm1=>ifB (decide (p1<(0:Int))) (R (.slice none 0 0) w) (dl 87 #[.pointer p0] w λx4 w1=>ifB (decide (p1≥x4)) (R (.slice none 0 0) w1) (m1 () w1))) (λs2 w2=>zk (S:=Sl×Int×Unit) (λs5 w3 n6=>zc p0 λa7=>ldS w3 a7 λx8=>(0<=p1/\p1<(x8.l:Int))/\zc x8.a λa9=>ldS w3 (a9.add p1.toNat) λx10=>ifB (decide (s5.2.1<(x10.l:Int))) (zc p0 λa11=>ldS w3 a11 λx12=>(0<=p1/\p1<(x12.l:Int))/\zc x12.a λa13=>ldS w3 (a13.add p1.toNat) λx14=>(0<=s5.2.1/\s5.2.1<(x14.l:Int))/\zc x14.a λa15=>ldI w3 (a15.add s5.2.1.toNat) .i64 λx16=>Nw (w3.alloc (.cells #[zi x16] 3)) λw4=>zp Tryz.prog 43 (s5.1.zw) (.slice (some (zB w3)) 1 1) w4 λr17 w5=>n6 (r17,(IntKind.i64.wrap (s5.2.1+(1:Int))),()) w5) (R (s5.1.zw) w3)) ((Sl.mk none 0 0),0,()) w2)
theorem Zh(p0)(p1)(R)(w)(h:ZN p0 p1 R w):cC 50 #[.pointer p0,.int .i64 p1] w R:=lwC ZS Tryz.func50 h
def zdp:Ann:=Z1N
def zdg(p0:Option Addr)(p1:Int)(R:VWP)(w:World):Prop:=dz 40 #[.pointer p0,zi p1] w λx2 w1=>ifB (!x2) (R (.slice none 0 0) w1) (zc p0 λa3=>ldS w1 a3 λx4=>(0<=p1/\p1<(x4.l:Int))/\zc x4.a λa5=>ldS w1 (a5.add p1.toNat) λx6=>dk 42 #[x6.zw] w1 λx8 w2=>R (x8.zw) w2)
theorem za7(p0)(p1)(R)(w)(h:zdg p0 p1 R w):cC 63 #[.pointer p0,.int .i64 p1] w R:=lwC zdp Tryz.func63 h
def zeS:Ann:=.nil
def zbr(p0:Option Addr)(p1:Int)(R:VWP)(w:World):Prop:=zc p0 λa1=>(0<=(IntKind.i64.wrap (Int.tdiv p1 64))/\(IntKind.i64.wrap (Int.tdiv p1 64))<64)/\ldI w.drew (a1.add (Int.toNat (IntKind.i64.wrap (Int.tdiv p1 64)))) .u64 λx2=>ifB (decide ((Int.tmod p1 64)<0)) (False) (zc p0 λa3=>(0<=(IntKind.i64.wrap (Int.tdiv p1 64))/\(IntKind.i64.wrap (Int.tdiv p1 64))<64)/\Wr w.drew (a3.add (Int.toNat (IntKind.i64.wrap (Int.tdiv p1 64))))/\Nw (w.drew.setCell (a3.add (Int.toNat (IntKind.i64.wrap (Int.tdiv p1 64)))) (.int .u64 (IntKind.u64.wrap (BitVec.toNat (BitVec.ofInt (IntKind.bits .u64) x2 ||| BitVec.ofInt (IntKind.bits .u64) (IntKind.u64.wrap ((1:Int)*2 ^ (min (Int.toNat (Int.tmod p1 64)) (IntKind.bits .u64))))):Int)))) λw1=>R (.tuple #[]) w1)
theorem zgU(p0)(p1)(R)(w)(h:zbr p0 p1 R w):cC 74 #[.pointer p0,.int .i64 p1] w R:=lwC zeS Tryz.func74 h
def zbM:Ann:=Z1i
def zb7(p0:Option Addr)(R:VWP)(w:World):Prop:=Nw (w.alloc (.cells #[.pointer p0] 51)) λw1=>Nw (w1.alloc (.cells #[.nilFunc] 147)) λw2=>Wr w2 (zB w1)/\Nw (w2.setCell (zB w1) (.func (.func 111) #[] #[.pointer (some (zB w)),.pointer (some (zB w1))])) λw3=>ldR w3 (zB w1) λx1=>ZH Tryz.prog Tryz.fs x1 [(zi 0)] w3 λv2 w4=>v2=(.tuple #[])/\ldP w4 (zB w) λx3=>zc x3 λa4=>ldS w4 (a4.add 3) λx5=>cR 112 #[x5.zw] w4 λv6 w5=>v6=(.tuple #[])/\R (.tuple #[]) w5
theorem ze0(p0)(R)(w)(h:zb7 p0 R w):cC 75 #[.pointer p0] w R:=lwC zbM Tryz.func75 h
def zdt:Ann:=(.q (.seq none Z10 (.seq none Z10 (.q (.seq none (.q (.one (.loop ⟨[0,4],[(5,(.b (.int .i64)))]⟩ (.seq none Z13 (.seq none (.one (.q (.seq none (.q (.one (.loop ⟨[0,4,5],[(6,(.b .slice)),(7,(.b (.int .i64)))]⟩ (.seq none Z13 (.seq (some ⟨[0,4,5,7],[(6,(.b .slice))]⟩) (.one (.q (.seq (some ⟨[0,4,5,6,7,8],[]⟩) Z10 Z13))) .nil))))) .nil))) .nil))))) Z11)))))
def YL(p0:Sl)(R:VWP)(w:World):Prop:=ifB ((p0.l:Int)==0) (R (.tuple #[.pointer none,zi 2]) w) (ifB (decide ((p0.l:Int)>4096)) (R (.tuple #[.pointer none,zi 4]) w) (Nw (w.alloc (.cells #[.slice none 0 0] 161)) λw1=>zk (S:=Int×Unit) (λs1 w2 n2=>ifB (decide (s1.1<(p0.l:Int))) (zk (S:=Sl×Int×Unit) (λs3 w3 n4=>(0<=s1.1/\s1.1<(p0.l:Int))/\zc p0.a λa5=>ldS w3 (a5.add s1.1.toNat) λx6=>ifB (decide (s3.2.1<(x6.l:Int))) (zl (S:=Sl×Unit) (λm7=>(0<=s1.1/\s1.1<(p0.l:Int))/\zc p0.a λa9=>ldS w3 (a9.add s1.1.toNat) λx10=>(0<=s3.2.1/\s3.2.1<(x10.l:Int))/\zc x10.a λa11=>ldI w3 (a11.add s3.2.1.toNat) .i64 λx12=>zl (S:=Unit) (λm13=>ifB (decide (x12<(0:Int))) (R (.tuple #[.pointer none,zi 141]) w3) (ifB (decide (x12≥(p0.l:Int))) (R (.tuple #[.pointer none,zi 141]) w3) (m13 () w3))) (λs14 w4=>dz 120 #[s3.1.zw,zi x12] w4 λx16 w5=>ifB (!x16) (Nw (w5.alloc (.cells #[zi x12] 3)) λw6=>zp Tryz.prog 43 (s3.1.zw) (.slice (some (zB w5)) 1 1) w6 λr17 w7=>m7 (r17,()) w7) (m7 (s3.1,()) w5))) (λs8 w8=>n4 (s8.1,(IntKind.i64.wrap (s3.2.1+(1:Int))),()) w8)) (ldS w3 (zB w) λx18=>Nw (w3.alloc (.cells #[s3.1.zw] 43)) λw9=>zp Tryz.prog 67 (x18.zw) (.slice (some (zB w3)) 1 1) w9 λr19 w10=>Wr w10 (zB w)/\Nw (w10.setCell (zB w) (r19.zw)) λw11=>n2 ((IntKind.i64.wrap (s1.1+(1:Int))),()) w11)) ((Sl.mk none 0 0),0,()) w2) (R (.tuple #[.pointer (some (zB w)),zi 0]) w2)) (0,()) w1))
theorem zfE(p0)(R)(w)(h:YL p0 R w):cC 86 #[.slice p0.a p0.l p0.c] w R:=lwC zdt Tryz.func86 h
def Yr:Ann:=Z1N
def Yo(p0:Option Addr)(R:VWP)(w:World):Prop:=ifB (Option.isNone p0) (R (zi 0) w) (zc p0 λa1=>ldS w a1 λx2=>R (zi (x2.l:Int)) w)
theorem Zu(p0)(R)(w)(h:Yo p0 R w):cC 87 #[.pointer p0] w R:=lwC Yr Tryz.func87 h
def zcA:Ann:=Z1N
def zcy(p0:Option Addr)(R:VWP)(w:World):Prop:=ifB (Option.isNone p0) (R (.slice none 0 0) w) (zc p0 λa1=>ldS w (a1.add 3) λx2=>dk 42 #[x2.zw] w λx4 w1=>R (x4.zw) w1)
theorem zfd(p0)(R)(w)(h:zcy p0 R w):cC 94 #[.pointer p0] w R:=lwC zcA Tryz.func94 h
def zax:Ann:=(.q (.q (.seq none (.q (.one (.loop ⟨[0,1,2,27,28],[(29,(.b (.int .i64)))]⟩ (.q (.seq none .c (.seq (some ⟨[0,1,2,27,28,29],[]⟩) Z1I .nil)))))) .nil)))
def zaq(p0:Int)(c0:Addr)(c1:Addr)(R:VWP)(w:World):Prop:=ldP w c0 λx1=>zc x1 λa2=>cR 74 #[.pointer (some (a2.add 4)),zi p0] w λv3 w1=>v3=(.tuple #[])/\ldP w1.drew c0 λx4=>ldP w1.drew c0 λx5=>zc x5 λa6=>ldS w1.drew (a6.add 2) λx7=>Nw (w1.drew.alloc (.cells #[zi p0] 3)) λw2=>w2.cell? (a6.add 2)=some (x7.zw)/\w2.cell? c0=some (.pointer x5)/\w2.cell? c0=some (.pointer x4)/\zp Tryz.prog 43 (x7.zw) (.slice (some (blk w1.drew.heap.size)) 1 1) w2 λr8 w3=>w3.cell? c0=some (.pointer x4)/\zc x4 λa9=>Wr w3 (a9.add 2)/\Nw (w3.setCell (a9.add 2) (r8.zw)) λw4=>ldP w4 c0 λx10=>zc x10 λa11=>ldS w4 a11 λx12=>(0<=p0/\p0<(x12.l:Int))/\zc x12.a λa13=>ldS w4 (a13.add p0.toNat) λx14=>zk (S:=Int×Unit) (λs15 w5 n16=>ifB (decide (s15.1<(x14.l:Int))) (zl (S:=Unit) (λm17=>(0<=s15.1/\s15.1<(x14.l:Int))/\zc x14.a λa19=>ldI w5 (a19.add s15.1.toNat) .i64 λx20=>ldP w5 c0 λx21=>zc x21 λa22=>dz 41 #[.pointer (some (a22.add 4)),zi x20] w5 λx24 w6=>ifB (!x24) (ldR w6 c1 λx25=>ZH Tryz.prog Tryz.fs x25 [(zi x20)] w6 λv26 w7=>v26=(.tuple #[])/\m17 () w7) (m17 () w6)) (λs18 w8=>n16 ((IntKind.i64.wrap (s15.1+(1:Int))),()) w8)) (ldP w5.drew c0 λx27=>ldP w5.drew c0 λx28=>zc x28 λa29=>ldS w5.drew (a29.add 3) λx30=>Nw (w5.drew.alloc (.cells #[zi p0] 3)) λw9=>w9.cell? (a29.add 3)=some (x30.zw)/\w9.cell? c0=some (.pointer x28)/\w9.cell? c0=some (.pointer x27)/\zp Tryz.prog 43 (x30.zw) (.slice (some (blk w5.drew.heap.size)) 1 1) w9 λr31 w10=>w10.cell? c0=some (.pointer x27)/\zc x27 λa32=>Wr w10 (a32.add 3)/\Nw (w10.setCell (a32.add 3) (r31.zw)) λw11=>R (.tuple #[]) w11)) (0,()) w4
theorem zd0(p0)(c0)(c1)(R)(w)(h:zaq p0 c0 c1 R w):cC 111 #[.int .i64 p0,.pointer (some c0),.pointer (some c1)] w R:=lwC zax Tryz.func111 h
def Yt:Ann:=(.q (.one (.loop ⟨[0],[(2,(.b (.int .i64))),(3,(.b (.int .i64)))]⟩ Z18)))
def yN(p0:Sl)(R:VWP)(w:World):Prop:=zk (S:=Int×Int×Unit) (λs1 w1 n2=>ifB (decide (s1.1<s1.2.1)) ((0<=s1.2.1/\s1.2.1<(p0.l:Int))/\zc p0.a λa3=>ldI w1.drew (a3.add s1.2.1.toNat) .i64 λx4=>(0<=s1.1/\s1.1<(p0.l:Int))/\zc p0.a λa5=>ldI w1.drew (a5.add s1.1.toNat) .i64 λx6=>(0<=s1.1/\s1.1<(p0.l:Int))/\zc p0.a λa7=>Wr w1.drew (a7.add s1.1.toNat)/\Nw (w1.drew.setCell (a7.add s1.1.toNat) (zi x4)) λw2=>(0<=s1.2.1/\s1.2.1<(p0.l:Int))/\zc p0.a λa8=>Wr w2 (a8.add s1.2.1.toNat)/\Nw (w2.setCell (a8.add s1.2.1.toNat) (zi x6)) λw3=>n2 ((IntKind.i64.wrap (s1.1+(1:Int))),(IntKind.i64.wrap (s1.2.1-(1:Int))),()) w3) (R (.tuple #[]) w1)) (0,(IntKind.i64.wrap ((p0.l:Int)-1)),()) w
theorem zck(p0)(R)(w)(h:yN p0 R w):cC 112 #[.slice p0.a p0.l p0.c] w R:=lwC Yt Tryz.func112 h
def zdu:Ann:=(.q Z1R)
def zdj(p0:Sl)(p1:Int)(R:VWP)(w:World):Prop:=zk (S:=Int×Unit) (λs1 w1 n2=>ifB (decide (s1.1<(p0.l:Int))) ((0<=s1.1/\s1.1<(p0.l:Int))/\zc p0.a λa3=>ldI w1 (a3.add s1.1.toNat) .i64 λx4=>ifB (x4==p1) (R (.bool true) w1) (n2 ((IntKind.i64.wrap (s1.1+(1:Int))),()) w1)) (R (.bool false) w1)) (0,()) w
theorem zfF(p0)(p1)(R)(w)(h:zdj p0 p1 R w):cC 120 #[.slice p0.a p0.l p0.c,.int .i64 p1] w R:=lwC zdu Tryz.func120 h
end Go.Proofs
namespace Go.Gr
def za3(acc:List Nat)(x:Nat):List Nat:=if acc.contains x then acc else acc++[x]
def ZY(l:List Nat):List Nat:=l.foldl za3 []
def zM(nx:List (List Nat)):List (List Nat):=(List.range nx.length).map λj=>(List.range nx.length).filter λi=>(nx.getD i []).contains j
def yw(nx:List (List Nat)):Nat->Nat->List Nat×List Nat->List Nat×List Nat
 | 0,_,s=>s
 |f+1,i,s=>let r:=(nx.getD i []).foldl (λs t=>if s.1.contains t then s else yw nx f t s) (s.1++[i],s.2);(r.1,r.2++[i])
def zJ(nx:List (List Nat))(f:Nat)(l:List Nat)(s:List Nat×List Nat):List Nat×List Nat:=l.foldl (λs t=>if s.1.contains t then s else yw nx f t s) s
theorem zdC(nx:List (List Nat))(f i:Nat)(s:List Nat×List Nat) :
  yw nx (f+1) i s=((zJ nx f (nx.getD i []) (s.1++[i],s.2)).1,(zJ nx f (nx.getD i []) (s.1++[i],s.2)).2++[i]):=rfl
theorem zmo(nx:List (List Nat))(f:Nat)(l:List Nat)(t:Nat)(s:List Nat×List Nat) :
  zJ nx f (l++[t]) s=if (zJ nx f l s).1.contains t then zJ nx f l s else yw nx f t (zJ nx f l s):=by
 simp[zJ,List.foldl_append]
def yK(nx:List (List Nat)):List Nat:=(yw nx nx.length 0 ([],[])).1
def zC(nx:List (List Nat)):List Nat:=(yw nx nx.length 0 ([],[])).2.reverse
structure Came (n:Nat) (s s':List Nat×List Nat):Prop where
 nodup:s'.1.Nodup
 lt:∀x∈s'.1,x<n
 more:∃l,s'.1=s.1++l
theorem zfO{nx:List (List Nat)}(hnx:∀i,∀t∈nx.getD i [],t<nx.length):∀(f i:Nat) (s:List Nat×List Nat),i<nx.length->s.1.Nodup->(∀x∈s.1,x<nx.length)->i ∉ s.1->
  Came nx.length s (yw nx f i s):=by
 intro f
 induction f with
 |zero=>intro i s _ h1 h2 _;exact⟨h1,h2,[],by simp[yw]⟩
 |succ f ih=>
  intro i s hi h1 h2 h3
  have base:Came nx.length s (s.1++[i],s.2):=⟨by
    rw[List.nodup_append]
    exact⟨h1,by simp,λx hx y hy=>by simp at hy;subst hy;intro e;subst e;exact h3 hx⟩,λx hx=>by
    simp at hx
    rcases hx with hx |rfl
    ·exact h2 x hx
    ·exact hi,[i],rfl⟩
  have all:∀(l:List Nat) (s':List Nat×List Nat),(∀t∈l,t<nx.length)->Came nx.length s s'->Came nx.length s (zJ nx f l s'):=by
   intro l
   induction l with
   |nil=>intro s' _ h;exact h
   |cons t r ihl=>
    intro s' hl h
    show Came nx.length s (zJ nx f r (if s'.1.contains t then s' else yw nx f t s'))
    refine ihl _ (λx hx=>hl x (List.mem_cons_of_mem _ hx)) ?_
    split
    ·exact h
    ·rename_i hc
     have hv:=ih t s' (hl t (List.mem_cons_self ..)) h.nodup h.lt (by simpa using hc)
     obtain⟨l1,e1⟩:=h.more
     obtain⟨l2,e2⟩:=hv.more
     exact⟨hv.nodup,hv.lt,l1++l2,by rw[e2,e1,List.append_assoc]⟩
  rw[zdC]
  have:=all (nx.getD i []) _ (hnx i) base
  exact⟨this.nodup,this.lt,this.more⟩
theorem YF:∀{n:Nat} {l:List Nat},l.Nodup->(∀x∈l,x<n)->l.length<=n
 | 0,l,_,hl=>by
  cases l with
  |nil=>simp
  |cons x r=>exact absurd (hl x (List.mem_cons_self ..)) (by omega)
 |n+1,l,h,hl=>by
  by_cases hn:n∈l
  ·have h1:=YF (n:=n) (l:=l.erase n) (h.erase n) (λx hx=>by
    have h2:=(h.mem_erase_iff).1 hx
    have:=hl x h2.2
    omega)
   rw[List.length_erase_of_mem hn]at h1
   omega
  ·have:=YF (n:=n) (l:=l) h (λx hx=>by
    have h1:=hl x hx
    have h2:x≠n:=λe=>hn (e▸hx)
    omega)
   omega
theorem zfs{n i:Nat}{l:List Nat}(h:l.Nodup)(hl:∀x∈l,x<n)(hi:i<n)(hni:i ∉ l):l.length<n:=by
 have:(l++[i]).length<=n:=YF (by
  rw[List.nodup_append]
  exact⟨h,by simp,λx hx y hy=>by simp at hy;subst hy;intro e;subst e;exact hni hx⟩) (λx hx=>by
  simp at hx
  rcases hx with hx |rfl
  ·exact hl x hx
  ·exact hi)
 simp at this
 omega
def nxP(rows:List (List Nat))(i k:Nat):List (List Nat):=(List.range rows.length).map λj=>if j<i then ZY (rows.getD j []) else if j=i then ZY ((rows.getD j []).take k) else []
theorem zi1(rows:List (List Nat))(i k:Nat):(nxP rows i k).length=rows.length:=by simp[nxP]
theorem zft{rows:List (List Nat)}{i k j:Nat}(hj:j<rows.length):(nxP rows i k).getD j []=if j<i then ZY (rows.getD j []) else if j=i then ZY ((rows.getD j []).take k) else []:=by
 simp[nxP,List.getD,hj]
theorem zs3(rows:List (List Nat)):nxP rows 0 0=List.replicate rows.length []:=by
 apply List.ext_getElem
 ·simp[nxP]
 ·intro j h1 h2
  simp only[nxP,List.getElem_map,List.getElem_range,List.getElem_replicate,List.take_zero]
  split
  ·omega
  ·split<;>rfl
theorem zs0(rows:List (List Nat))(i:Nat):nxP rows i (rows.getD i []).length=nxP rows (i+1) 0:=by
 apply List.ext_getElem
 ·simp[nxP]
 ·intro j h1 h2
  simp only[nxP,List.getElem_map,List.getElem_range,List.take_zero]
  by_cases h:j<i
  ·rw[if_pos h,if_pos (by omega)]
  ·rw[if_neg h]
   by_cases h':j=i
   ·subst h';rw[if_pos rfl,if_pos (by omega),List.take_length]
   ·rw[if_neg h',if_neg (by omega)];split<;>rfl
theorem ztw(rows:List (List Nat)):nxP rows rows.length 0=rows.map ZY:=by
 apply List.ext_getElem
 ·simp[nxP]
 ·intro j h1 h2
  have hj:j<rows.length:=by simpa using h2
  simp only[nxP,List.getElem_map,List.getElem_range,if_pos hj]
  simp[List.getD,hj]
theorem zio(l:List Nat)(x:Nat):ZY (l++[x])=za3 (ZY l) x:=by simp[ZY,List.foldl_append]
theorem zs2{rows:List (List Nat)}{i k:Nat}(hi:i<rows.length)(hk:k<(rows.getD i []).length)(h:((nxP rows i k).getD i []).contains ((rows.getD i [])[k])=true):nxP rows i (k+1)=nxP rows i k:=by
 apply List.ext_getElem
 ·simp[nxP]
 ·intro j h1 h2
  simp only[nxP,List.getElem_map,List.getElem_range]
  by_cases hji:j<i
  ·rw[if_pos hji,if_pos hji]
  ·rw[if_neg hji,if_neg hji]
   by_cases h':j=i
   ·subst h'
    rw[if_pos rfl,if_pos rfl,List.take_succ_eq_append_getElem hk,zio]
    rw[zft hi,if_neg (by omega),if_pos rfl]at h
    unfold za3
    rw[if_pos h]
   ·rw[if_neg h',if_neg h']
theorem zs1{rows:List (List Nat)}{i k:Nat}(hi:i<rows.length)(hk:k<(rows.getD i []).length)(h:((nxP rows i k).getD i []).contains ((rows.getD i [])[k])=false) :
  nxP rows i (k+1)=(nxP rows i k).set i ((nxP rows i k).getD i []++[(rows.getD i [])[k]]):=by
 apply List.ext_getElem
 ·simp[nxP]
 ·intro j h1 h2
  by_cases h':j=i
  ·subst h'
   rw[List.getElem_set_self,zft hi]
   rw[zft hi,if_neg (by omega),if_pos rfl]at h
   rw[if_neg (by omega),if_pos rfl]
   simp only[nxP,List.getElem_map,List.getElem_range]
   rw[if_neg (by omega),if_pos trivial,List.take_succ_eq_append_getElem hk,zio]
   unfold za3
   rw[if_neg (by rw[h];simp)]
  ·rw[List.getElem_set_ne (by omega)]
   simp only[nxP,List.getElem_map,List.getElem_range]
   rw[if_neg h',if_neg h']
theorem Yi(nx:List (List Nat)):(zM nx).length=nx.length:=by simp[zM]
theorem zin{nx:List (List Nat)}{j:Nat}(hj:j<nx.length):(zM nx).getD j []=(List.range nx.length).filter λi=>(nx.getD i []).contains j:=by
 simp[zM,List.getD,hj]
theorem zp0{nx:List (List Nat)}{i x:Nat}(hi:i<nx.length)(hx:x<nx.length)(hni:(nx.getD i []).contains x=false)(hgt:∀j,i<j->nx.getD j []=[]) :
  zM (nx.set i (nx.getD i []++[x]))=(zM nx).set x ((zM nx).getD x []++[i]):=by
 have hget:∀a,(nx.set i (nx.getD i []++[x])).getD a []=if a=i then nx.getD i []++[x] else nx.getD a []:=by
  intro a
  by_cases h:a=i
  ·subst h;rw[if_pos rfl];simp[List.getD,hi]
  ·rw[if_neg h];simp only[List.getD];rw[List.getElem?_set_ne (by omega)]
 apply List.ext_getElem
 ·simp[zM]
 ·intro j h1 h2
  have hj:j<nx.length:=by simpa[zM] using h1
  by_cases h:j=x
  ·subst h
   rw[List.getElem_set_self,zin hj]
   simp only[zM,List.getElem_map,List.getElem_range,List.length_set]
   have e1:List.range nx.length=List.range i++i::(List.range (nx.length-i-1)).map (·+(i+1)):=by
    apply List.ext_getElem
    ·simp;omega
    ·intro a g1 g2
     rw[List.getElem_range]
     rcases Nat.lt_trichotomy a i with g |g |g
     ·rw[List.getElem_append_left (by simpa using g)];simp
     ·subst g;rw[List.getElem_append_right (by simp)];simp
     ·rw[List.getElem_append_right (by simp;omega),List.getElem_cons]
      simp only[List.length_range]
      rw[dif_neg (by omega)]
      simp;omega
   rw[e1,List.filter_append,List.filter_append,List.filter_cons,List.filter_cons,hget i,if_pos rfl,hni]
   have e2:∀(p:Nat->Bool),(∀a,i<a->p a=false)->((List.range (nx.length-i-1)).map (·+(i+1))).filter p=[]:=by
    intro p hp
    rw[List.filter_eq_nil_iff]
    intro a ha
    simp only[List.mem_map]at ha
    obtain⟨b,_,rfl⟩:=ha
    rw[hp _ (by omega)]
    simp
   rw[e2 _ (λa ha=>by rw[hget a,if_neg (by omega),hgt a ha];rfl),e2 _ (λa ha=>by rw[hgt a ha];rfl)]
   have e3:(List.range i).filter (λa=>((nx.set i (nx.getD i []++[j])).getD a []).contains j)=(List.range i).filter (λa=>(nx.getD a []).contains j):=by
    apply List.filter_congr
    intro a ha
    have:=List.mem_range.1 ha
    rw[hget a,if_neg (by omega)]
   rw[e3]
   simp
  ·rw[List.getElem_set_ne (by omega)]
   simp only[zM,List.getElem_map,List.getElem_range,List.length_set]
   apply List.filter_congr
   intro a _
   rw[hget a]
   split
   ·rename_i g;subst g
    rw[Bool.eq_iff_iff]
    simp[h]
   ·rfl
theorem zkc{l:List Nat}{x:Nat}:x∈ZY l↔x∈l:=by
 have:∀(l acc:List Nat),x∈l.foldl za3 acc↔x∈acc\/x∈l:=by
  intro l
  induction l with
  |nil=>simp
  |cons y r ih=>
   intro acc
   rw[List.foldl_cons,ih]
   unfold za3
   split
   ·rename_i h
    have h:y∈acc:=by simpa using h
    constructor
    ·rintro(h1 |h1)
     ·exact .inl h1
     ·exact .inr (List.mem_cons_of_mem _ h1)
    ·rintro(h1 |h1)
     ·exact .inl h1
     ·cases h1 with
      |head=>exact .inl h
      |tail _ h1=>exact .inr h1
   ·simp[or_assoc]
 unfold ZY
 simpa using this l []
theorem zkw(l:List Nat):(ZY l).Nodup:=by
 have:∀(l acc:List Nat),acc.Nodup->(l.foldl za3 acc).Nodup:=by
  intro l
  induction l with
  |nil=>exact λ_ h=>h
  |cons y r ih=>
   intro acc h
   rw[List.foldl_cons]
   refine ih _ ?_
   unfold za3
   split
   ·exact h
   ·rename_i hc
    rw[List.nodup_append]
    refine⟨h,by simp,λa ha b hb=>?_⟩
    simp at hb
    subst hb
    intro e
    subst e
    exact hc (by simpa using ha)
 exact this l [] List.nodup_nil
theorem zok{n:Nat}{l:List Nat}(h:∀x∈l,x<n):(ZY l).length<=n:=YF (zkw l) λx hx=>h x (zkc.1 hx)
theorem zlp(nx:List (List Nat))(j:Nat):((zM nx).getD j []).length<=nx.length:=by
 by_cases hj:j<nx.length
 ·rw[zin hj]
  have:=List.length_filter_le (λi=>(nx.getD i []).contains j) (List.range nx.length)
  simpa using this
 ·simp[List.getD,Yi,hj]
theorem znf(nx:List (List Nat)):∀(f i:Nat) (s:List Nat×List Nat),(yw nx f i s).1.length+s.2.length=s.1.length+(yw nx f i s).2.length:=by
 intro f
 induction f with
 |zero=>intro i s;rfl
 |succ f ih=>
  intro i s
  have all:∀(l:List Nat) (s:List Nat×List Nat),(zJ nx f l s).1.length+s.2.length=s.1.length+(zJ nx f l s).2.length:=by
   intro l
   induction l with
   |nil=>intro s;rfl
   |cons t r ihl=>
    intro s
    have h1:=ihl (if s.1.contains t then s else yw nx f t s)
    have h2:zJ nx f (t::r) s=zJ nx f r (if s.1.contains t then s else yw nx f t s):=rfl
    rw[h2]
    split at h1<;>split
    ·exact h1
    ·rename_i a b;exact absurd a b
    ·rename_i a b;exact absurd b a
    ·have:=ih t s;omega
  have:=all (nx.getD i []) (s.1++[i],s.2)
  rw[zdC]
  simp only[List.length_append,List.length_cons,List.length_nil]at this⊢
  omega
end Go.Gr
