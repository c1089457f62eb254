/- FlowSeen, part 10; made small by a program. -/
import Derived.Test.YtijgeifjccoieaaGreatPFlowSeen9
namespace Go.Proofs
open Go.Gk Go.RowKit Go.Gm Go.Gr Go.Dm
def inF(o:Option Nat)(n:Nat):Bool:=match o with
 |none=>true
 |some m=>decide (m=n)
noncomputable def zgr(pl:List PI)(fl:List FnL)(n k:Nat)(id q:Int):Bool:=
 decide (0<=mkA pl id)&&(inF (fnO fl (mkA pl id)) n&&mayU pl fl (nxF pl fl n) n id k q)
def zrA(fl:List FnL)(q:Int):Option Nat:=(List.range fl.length).find? λn=>(bkO (fx fl n).bk q).isSome
noncomputable def Yv(x:Mo)(pl:List PI)(fl:List FnL)(id q:Int):Bool×Int×Int:=if (floE x pl).1≠0 then(false,floE x pl) else
 match zrA fl q with
 |none=>(false,3,0)
 |some n=>(zgr pl fl n ((bkO (fx fl n).bk q).getD 0) id q,0,0)
section
variable {x:Mo} {pl:List PI} {fl:List FnL} {w:World} {R:VWP} {id q:Int}
theorem zof(h:(floE x pl).1≠0):Yv x pl fl id q=(false,floE x pl):=by unfold Yv;rw[if_pos h]
theorem zp8(h:(floE x pl).1=0){n k:Nat}(hn:n<fl.length)(hk:bkO (fx fl n).bk q=some k)(hj:∀j,j<n->(bkO (fx fl j).bk q).isSome=false):Yv x pl fl id q=(zgr pl fl n k id q,0,0):=by
 unfold Yv
 rw[if_neg (λg=>g h),show zrA fl q=some n from Zs hn (by rw[hk];rfl) hj]
 show(zgr pl fl n ((bkO (fx fl n).bk q).getD 0) id q,_)=_
 rw[hk]
 rfl
theorem zp9(h:(floE x pl).1=0)(hj:∀j,j<fl.length->(bkO (fx fl j).bk q).isSome=false):Yv x pl fl id q=(false,3,0):=by
 unfold Yv
 rw[if_neg (λg=>g h),show zrA fl q=none from zba hj]
theorem zsP(hp:PlOk pl)(h0:0<=x.2.1)(hs:(zD x.2.1 pl).1=0)(h:0<=mkA pl id):0<=id/\id<x.2.1:=by
 unfold mkA zK at h
 cases hq:(List.range pl.length).find? (mk1 pl id) with
 |none=>rw[hq]at h;exact absurd h (by decide)
 |some k=>
  obtain⟨hk,hm,_⟩:=ZN hq
  unfold mk1 at hm
  rw[Bool.and_eq_true,beq_iff_eq]at hm
  have:=zhp hp h0 hs pl[k] (List.getElem_mem hk)
  have e:(ix pl k).2.2.1=id:=hm.1
  rw[yo hk]at e
  rwa[e]at this
theorem zo8(hN:IsPl w x.2.2.1 pl)(hp:PlOk pl)(h0:0<=x.2.1)(hid:0<=id/\id<=4294967295)
  (hR:∀w',Below w.heap.size w w'->R (.tuple #[.bool (Yv x pl (cutF pl pl.length) id q).1,.agg #[.int .i64 (Yv x pl (cutF pl pl.length) id q).2.1,.int .i64 (Yv x pl (cutF pl pl.length) id q).2.2]]) w') :
  cR 21 #[moA x,.int .u32 id,.int .i64 q] w R:=by
 refine za.of (zjR x id q R w ?_) λ_ _ h=>h
 refine zn λw1 hB1 b1 z1=>?_
 have hB1:Blk w1 w.heap.size 25 (moV x):=hB1
 refine zn λw2 hS2 b2 z2=>?_
 have hS2:Blk w2 w1.heap.size 29 [.int .i64 0,.int .i64 0]:=hS2
 have hb2:=b1.on b2
 have s1:=b1.size
 have out:∀{w':World} (b:Bool) (e a:Int),Blk w' w1.heap.size 29 [.int .i64 0,.int .i64 0]->Below w.heap.size w w'->Yv x pl (cutF pl pl.length) id q=(b,e,a)->
   Wr w' (blk w1.heap.size)/\Nw (w'.setCell (blk w1.heap.size) (.int .i64 e)) λw8=>Wr w8 ((blk w1.heap.size).add 1)/\Nw (w8.setCell ((blk w1.heap.size).add 1) (.int .i64 a)) λw9=>ldI w9 ((blk w1.heap.size).add 0) .i64 λx9=>ldI w9 ((blk w1.heap.size).add 1) .i64 λx10=>
    R (.tuple #[.bool b,.agg #[.int .i64 x9,.int .i64 x10]]) w9:=λ{w'} b e a hS hb he=>
  st2 hS rfl λw9 hS9 c9=>Sp.load hS9 (by
   have:=hR w9 (c9.below hb (by omega))
   rw[he]at this
   exact this)
 refine Mo.load (hB1.below b2) (znc (x:=x) (hN.below hb2) hp h0 (λw3 hne b3=>⟨⟨none,0,0⟩,((floE x pl).1,(floE x pl).2,()),rfl,?_⟩) (λw3 s hF hBs b3=>⟨s,(0,0,()),rfl,?_⟩))
 ·refine box2 rfl λw6 h6 b6 z6=>h6.rI0 rfl (zI (by simpa using hne) (Sp.load h6.drew ?_))
  have b26:=b3.on b6
  exact out false _ _ (hS2.below b26).drew (hb2.on b26).drew (zof hne)
 refine box2 rfl λw6 h6 b6 z6=>h6.rI0 rfl (zF rfl ?_)
 have b26:=b3.on b6
 have hb6:=hb2.on b26
 have hS6:=hS2.below b26
 have hB6:=(hB1.below b2).below b26
 have hz:(floE x pl).1=0:=by rw[zqR hF]
 obtain⟨_,k2,_⟩:=ze9 hF.ok
 have hsh:=zg1 k2
 have F:=Fls.of hp h0 hF.ok
 obtain⟨nb,_⟩:=Yw hsh
 obtain⟨bs,hbl,hbS,hbB⟩:=(hBs.below b6).ex
 generalize cutF pl pl.length=fl at *
 have hbound:=hbS.bound
 have hsl:=hbS.len
 refine zk.count bs.length hbound (λn w'=>Below w6.heap.size w6 w'/\∀j,j<n->(bkO (fx fl j).bk q).isSome=false) ⟨Below.refl _ _,λj h=>by omega⟩ ?_
 rintro n w9 hn ⟨b9,hj⟩ next hnext
 have hb9:=hb6.on b9
 refine zf (λg=>?_) (λg=>?_)
 rotate_left
 ·exact out false 3 0 (hS6.below b9) hb9 (zp9 hz λj h1=>hj j (by dsimp only at g;omega))
 have hnb:n<bs.length:=by dsimp only at g;omega
 have hnf:n<fl.length:=by omega
 have hBd:=(hbB n hnb).below b9
 refine(hbS.below b9).addr hnb λa ha hc=>⟨some (Gk.blk bs[n]),hc,?_⟩
 obtain⟨v,hr,gb,tb,M,ov,dp,hBB,hN9,hFn,hM,hl,hG,hD⟩:=hBd.ex
 refine zg rfl (zgx hBB ?_)
 have hbk:=hFn.bk
 have hbkl:=hbk.len
 refine zk.count (fx fl n).bk.length hbk.bound (λk w'=>Below w9.heap.size w9 w'/\∀j,j<k->decide ((bx (fx fl n).bk j).2.1<=q/\q<(bx (fx fl n).bk j).2.2)=false) ⟨Below.refl _ _,λj h=>by omega⟩ ?_
 rintro k w10 hk ⟨b10,hkj⟩ next2 hnext2
 have hb10:=hb9.on b10
 refine zf (λg2=>?_) (λg2=>?_)
 rotate_left
 ·have hno:bkO (fx fl n).bk q=none:=zba λj h1=>hkj j (by dsimp only at g2;omega)
  refine hnext w10 hnb ⟨b9.on b10,λj h1=>?_⟩
  by_cases e:j=n
  ·subst e;rw[hno];rfl
  ·exact hj j (by omega)
 have hkl:k<(fx fl n).bk.length:=by dsimp only at g2;omega
 have hbx:bx (fx fl n).bk k=(fx fl n).bk[k]:=zs hkl
 refine zm.all (zeG (IsC.below zT hbk b10) hkl (box3 rfl λw14 h14 b14 z14=>?_))
 rw[<-hbx]at h14
 have b1014:=b10.on b14
 have go:∀{w':World},Below w14.heap.size w14 w'->¬((bx (fx fl n).bk k).2.1<=q/\q<(bx (fx fl n).bk k).2.2)->next2 (IntKind.i64.wrap ((k:Int)+1),()) w':=λ{w'} hb hno=>hnext2 w' hkl ⟨b1014.on hb,λj h1=>by
  by_cases e:j=k
  ·subst e;exact decide_eq_false hno
  ·exact hkj j (by omega)⟩
 refine zm.cut (λ(_:Unit) w'=>w14=w'/\(bx (fx fl n).bk k).2.1<=q/\q<(bx (fx fl n).bk k).2.2) ?_ ?_
 ·refine h14.rI (n:=1) rfl (zf (λe=>go (Below.refl _ _) λh=>by have e:q<(bx (fx fl n).bk k).2.1:=e;omega) (λe=>h14.rI (n:=2) rfl (zf (λe2=>go (Below.refl _ _) λh=>by have e2:q≥(bx (fx fl n).bk k).2.2:=e2;omega) (λe2=>⟨rfl,?_,?_⟩))))
  ·have e:¬q<(bx (fx fl n).bk k).2.1:=e
   omega
  ·have e2:¬q≥(bx (fx fl n).bk k).2.2:=e2
   omega
 rintro _ _ ⟨rfl,hin⟩
 have hat:bkO (fx fl n).bk q=some k:=Zs hkl (decide_eq_true hin) hkj
 have hsE:Yv x pl fl id q=(zgr pl fl n k id q,0,0):=zp8 hz hnf hat hj
 clear hnext hnext2 go
 have b914:=b10.on b14
 have b614:=b9.on b914
 have hb14:=hb6.on b614
 refine Mo.load (hB6.below b614) (zpH (x:=x) (hN.below hb14) hp h0 λs16 w16 hMd b16=>⟨s16,((zD x.2.1 pl).1,((zD x.2.1 pl).2:Int),()),rfl,box2 rfl λw19 h19 b19 z19=>?_⟩)
 have b1419:=b16.on b19
 have hb19:=hb14.on b1419
 have hBd19:=(hBd.below b914).below b1419
 refine zg rfl ⟨some hr,((hBB.below b914).below b1419).cell (n:=9) rfl,zrf ((hM.below b914).below b1419) ?_⟩
 rw[hl]
 refine box4 rfl λw24 h24 b24 z24=>?_
 have b1924:=b24
 have hMd24:=(hMd.below b19).below b24
 have hS24:=((hS6.below b614).below b1419).below b24
 have hb24:=hb19.on b24
 have hmadeL:(ziu x.2.1 pl).length=x.2.1.toNat:=by unfold ziu;rw[if_pos hsh];simp
 have hMl:=hMd24.len
 have hwid:IntKind.i64.wrap id=id:=zq (by omega) (by omega)
 rw[hwid]
 have no:¬0<=mkA pl id->Yv x pl fl id q=(false,0,0):=λh=>by rw[hsE];unfold zgr;rw[decide_eq_false h];rfl
 refine zf (λg3=>?_) (λg3=>?_)
 rotate_left
 ·refine out false 0 0 hS24.drew hb24.drew (no λh=>?_)
  have:=zsP hp h0 hsh h
  omega
 obtain⟨i,rfl⟩:=Int.eq_ofNat_of_zero_le hid.1
 have hil:i<(ziu x.2.1 pl).length:=by omega
 have hgm:(ziu x.2.1 pl)[i]=mkA pl (i:Int):=by
  unfold ziu mkA
  simp only[if_pos hsh,List.getElem_map,List.getElem_range]
 refine zcl hMd24.drew hil ?_
 rw[hgm]
 have hown:=hBd19.below b24
 have b24d:=hb24.drew
 refine zf (λg4=>?_) (λg4=>out false 0 0 hS24.drew b24d (no g4))
 have hV:∀b,inF (fnO fl (mkA pl (i:Int))) n=b->zgr pl fl n k (i:Int) q=(b&&mayU pl fl (nxF pl fl n) n (i:Int) k q):=λb hb=>by
  unfold zgr
  rw[hb,decide_eq_true g4,Bool.true_and]
 have ask:∀{φ:Bool->World->Prop},(∀w',Below w24.heap.size w24 w'->φ (mayU pl fl (nxF pl fl n) n (i:Int) k q) w')->cR 52 #[.pointer (some (Gk.blk bs[n])),.int .u32 (i:Int),.int .i64 (k:Int),.int .i64 q] w24.drew λv w'=>∃b:Bool,v =.bool b/\φ b w':=λ{φ} h=>by
  have bd:Below w24.heap.size w24 w24.drew:=(Below.refl _ _).drew
  exact ziR (hown.below bd) λw' hb=>⟨_,rfl,h w' (bd.on hb)⟩
 cases ho:fnO fl (mkA pl (i:Int)) with
 |none=>
  have hh:hmO pl fl (i:Int)=none:=by unfold hmO;rw[ho];rfl
  rw[hh]
  refine zI rfl (ask λw' hb=>?_)
  exact out _ 0 0 (hS24.below hb) (hb24.on hb) (by rw[hsE,hV true (by rw[ho];rfl),Bool.true_and])
 |some m=>
  obtain⟨hh,hhe,hh1⟩:∃hh,hmO pl fl (i:Int)=some hh/\hh.1=(m:Int):=by unfold hmO;rw[ho];exact⟨_,rfl,rfl⟩
  rw[hhe]
  rw[hhe]at h24
  refine zF rfl (h24.drew.rI0 rfl (zg rfl ((((hBB.below b914).below b1419).below b24).drew.rI (n:=3) rfl ?_)))
  show ifB (hh.1==(n:Int)) _ _
  rw[hh1]
  refine zl (λe=>ask λw' hb=>?_) (λe=>?_)
  ·exact out _ 0 0 (hS24.below hb) (hb24.on hb) (by rw[hsE,hV true (by rw[ho];exact decide_eq_true (by omega)),Bool.true_and])
  ·exact out false 0 0 hS24.drew b24d (by rw[hsE,hV false (by rw[ho];exact decide_eq_false (by omega)),Bool.false_and])
end
end Go.Proofs
namespace Go.Proofs
open Go.Gk Go.RowKit Go.Gm Go.Gr Go.Dm
theorem zs3{w:World}{s:Sl}{ps:List Bv}(h:IsC 11 bvL w s ps){k:Nat}(hk:k<ps.length){φ:Int->Int->Sl->Sl->Int->Int->Int->Sl->Sl->Int->Sl->Prop}(hφ:φ ps[k].1 ps[k].2.1 ps[k].2.2.1 ps[k].2.2.2.1 ps[k].2.2.2.2.1 ps[k].2.2.2.2.2.1 ps[k].2.2.2.2.2.2.1 ps[k].2.2.2.2.2.2.2.1 ps[k].2.2.2.2.2.2.2.2.1 ps[k].2.2.2.2.2.2.2.2.2.1 ps[k].2.2.2.2.2.2.2.2.2.2.1) :
  (0<=(k:Int)/\(k:Int)<(s.l:Int))/\zc s.a λa=>ldI w ((a.add (Int.toNat (k:Int)*11)).add 0) .u32 λx1=>ldI w ((a.add (Int.toNat (k:Int)*11)).add 1) .u32 λx2=>ldS w ((a.add (Int.toNat (k:Int)*11)).add 2) λx3=>ldS w ((a.add (Int.toNat (k:Int)*11)).add 3) λx4=>ldI w ((a.add (Int.toNat (k:Int)*11)).add 4) .i64 λx5=>
   ldI w ((a.add (Int.toNat (k:Int)*11)).add 5) .u32 λx6=>ldI w ((a.add (Int.toNat (k:Int)*11)).add 6) .i64 λx7=>ldS w ((a.add (Int.toNat (k:Int)*11)).add 7) λx8=>ldS w ((a.add (Int.toNat (k:Int)*11)).add 8) λx9=>ldI w ((a.add (Int.toNat (k:Int)*11)).add 9) .i64 λx10=>ldS w ((a.add (Int.toNat (k:Int)*11)).add 10) λx11=>φ x1 x2 x3 x4 x5 x6 x7 x8 x9 x10 x11:=by
 obtain⟨a,ha⟩:=h.base hk
 have hc:∀j,j<11->w.cell? ((a.add (Int.toNat (k:Int)*11)).add j)=(bvL ps[k])[j]?:=λj hj=>by rw[zz];exact h.cell a ha k hk j hj
 exact⟨⟨by omega,by have:=h.len;omega⟩,zg ha ⟨_,hc 0 (by omega),_,hc 1 (by omega),ps[k].2.2.1,hc 2 (by omega),ps[k].2.2.2.1,hc 3 (by omega),_,hc 4 (by omega),_,hc 5 (by omega),_,hc 6 (by omega),ps[k].2.2.2.2.2.2.2.1,hc 7 (by omega),ps[k].2.2.2.2.2.2.2.2.1,hc 8 (by omega),_,hc 9 (by omega),ps[k].2.2.2.2.2.2.2.2.2.2.1,hc 10 (by omega),hφ⟩⟩
section
variable {x:Mo} {pl:List PI} {w:World} {R:VWP} {id q:Int}
set_option maxHeartbeats 1000000 in
theorem zph(hN:IsPl w x.2.2.1 pl)(hp:PlOk pl)(h0:0<=x.2.1)
  (hR:∀w',Below w.heap.size w w'->R (.tuple #[.bool (Yv x pl (cutF pl pl.length) id q).1,.agg #[.int .i64 (Yv x pl (cutF pl pl.length) id q).2.1,.int .i64 (Yv x pl (cutF pl pl.length) id q).2.2]]) w') :
  cR 20 #[moA x,.int .u32 id,.int .i64 q] w R:=by
 refine za.of (zdU x id q R w ?_) λ_ _ h=>h
 refine zn λw1 hB1 b1 z1=>?_
 have hB1:Blk w1 w.heap.size 25 (moV x):=hB1
 refine zn λw2 hS2 b2 z2=>?_
 have hS2:Blk w2 w1.heap.size 29 [.int .i64 0,.int .i64 0]:=hS2
 have hb2:=b1.on b2
 have s1:=b1.size
 have out:∀{w':World} (b:Bool) (e a:Int),Blk w' w1.heap.size 29 [.int .i64 0,.int .i64 0]->Below w.heap.size w w'->Yv x pl (cutF pl pl.length) id q=(b,e,a)->
   Wr w' (blk w1.heap.size)/\Nw (w'.setCell (blk w1.heap.size) (.int .i64 e)) λw8=>Wr w8 ((blk w1.heap.size).add 1)/\Nw (w8.setCell ((blk w1.heap.size).add 1) (.int .i64 a)) λw9=>ldI w9 ((blk w1.heap.size).add 0) .i64 λx9=>ldI w9 ((blk w1.heap.size).add 1) .i64 λx10=>
    R (.tuple #[.bool b,.agg #[.int .i64 x9,.int .i64 x10]]) w9:=λ{w'} b e a hS hb he=>
  st2 hS rfl λw9 hS9 c9=>Sp.load hS9 (by
   have:=hR w9 (c9.below hb (by omega))
   rw[he]at this
   exact this)
 refine Mo.load (hB1.below b2) (zmJ (x:=x) (hN.below hb2) hp h0 (λw3 hne b3=>⟨⟨none,0,0⟩,((floE x pl).1,(floE x pl).2,()),rfl,?_⟩) (λw3 s hF hBs b3=>⟨s,(0,0,()),rfl,?_⟩))
 ·refine box2 rfl λw6 h6 b6 z6=>h6.rI0 rfl (zI (by simpa using hne) (Sp.load h6.drew ?_))
  have b26:=b3.on b6
  exact out false _ _ (hS2.below b26).drew (hb2.on b26).drew (zof hne)
 refine box2 rfl λw6 h6 b6 z6=>h6.rI0 rfl (zF rfl ?_)
 have b26:=b3.on b6
 have hb6:=hb2.on b26
 have hS6:=hS2.below b26
 have hz:(floE x pl).1=0:=by rw[zqR hF]
 have F:=Fls.of hp h0 hF.ok
 obtain⟨ps,hpl,hpS,hpB⟩:=hBs.ex
 have hpS:=IsC.below zia hpS b6
 generalize cutF pl pl.length=fl at *
 have hbound:=hpS.bound
 have hsl:=hpS.len
 refine zk.count ps.length hbound (λn w'=>Below w6.heap.size w6 w'/\∀j,j<n->(bkO (fx fl j).bk q).isSome=false) ⟨Below.refl _ _,λj h=>by omega⟩ ?_
 rintro n w9 hn ⟨b9,hj⟩ next hnext
 have hb9:=hb6.on b9
 refine zf (λg=>?_) (λg=>?_)
 rotate_left
 ·exact out false 3 0 (hS6.below b9) hb9 (zp9 hz λj h1=>hj j (by dsimp only at g;omega))
 have hnb:n<ps.length:=by dsimp only at g;omega
 have hnf:n<fl.length:=by omega
 obtain⟨hRb,ok⟩:=hpB n hnb
 have hRb9:=(hRb.below b6).below b9
 refine zs3 (IsC.below zia hpS b9) hnb (zn λw10 hZ10 b10 z10=>st11 hZ10 rfl λw21 hP21 c21=>?_)
 have hP21:Blk w21 w9.heap.size 113 (bvL ps[n]):=hP21
 have b921:Below w9.heap.size w9 w21:=c21.below b10 (Nat.le_refl _)
 have hR21:=hRb9.below b921
 refine Bv.load hP21 (zjD hR21 λw22 b22=>⟨_,rfl,?_⟩)
 have b922:=b921.on b22
 have hb22:=hb9.on b922
 have hS22:=(hS6.below b9).below b922
 have hP22:=hP21.below b22
 cases hat:bkO (fx fl n).bk q with
 |none=>
  refine zF (decide_eq_false (by show ¬((-1:Int)≥0);decide)) (hnext w22 hnb ⟨b9.on b922,λj h1=>?_⟩)
  by_cases e:j=n
  ·subst e;rw[hat];rfl
  ·exact hj j (by omega)
 |some k=>
  obtain⟨hkl,_,_⟩:=ZN hat
  have hsE:Yv x pl fl id q=(zgr pl fl n k id q,0,0):=zp8 hz hnf hat hj
  refine zI (decide_eq_true (by show(k:Int)≥0;omega)) (Bv.load hP22 (zdE (hR21.below b22) λw23 b23=>⟨_,rfl,?_⟩))
  have hP23:=hP22.below b23
  have hR23:=(hR21.below b22).below b23
  obtain⟨L,hL,hLc⟩:=hR23.hL
  refine hP23.rS (n:=3) (x:=ps[n].2.2.2.1) rfl (zdH hL hLc ⟨_,rfl,?_⟩)
  have hb23:=hb22.on b23
  have hS23:=hS22.below b23
  refine zf (λg4=>?_) (λg4=>out false 0 0 hS23 hb23 (by rw[hsE];unfold zgr;rw[decide_eq_false g4];rfl))
  have hV:∀b,inF (fnO fl (mkA pl id)) n=b->zgr pl fl n k id q=(b&&mayU pl fl (nxF pl fl n) n id k q):=λb hb=>by
   unfold zgr
   rw[hb,decide_eq_true g4,Bool.true_and]
  cases ho:fnO fl (mkA pl id) with
  |none=>
   refine zI (by decide) (Bv.load hP23 (zg7 F hR23 ok hkl λw25 b25=>⟨_,rfl,?_⟩))
   exact out _ 0 0 (hS23.below b25) (hb23.on b25) (by rw[hsE,hV true (by rw[ho];rfl),Bool.true_and])
  |some m=>
   refine zF (decide_eq_false (by show ¬((m:Int)<0);omega)) ?_
   show ifB ((m:Int)==(n:Int)) _ _
   refine zl (λe=>Bv.load hP23 (zg7 F hR23 ok hkl λw28 b28=>⟨_,rfl,?_⟩)) (λe=>?_)
   ·exact out _ 0 0 (hS23.below b28) (hb23.on b28) (by rw[hsE,hV true (by rw[ho];exact decide_eq_true (by omega)),Bool.true_and])
   ·exact out false 0 0 hS23 hb23 (by rw[hsE,hV false (by rw[ho];exact decide_eq_false (by omega)),Bool.false_and])
theorem zlj(hN:IsPl w x.2.2.1 pl)(hp:PlOk pl)(hbd:0<=x.2.1/\x.2.1<=4294967295)(hid:0<=id/\id<=4294967295)(hR:∀w',Below w.heap.size w w'->R (.bool true) w') :
  cR 5 #[moA x,.int .u32 id,.int .i64 q] w R:=by
 refine za.of (zbJ x id q R w ?_) λ_ _ h=>h
 refine zn λw1 hB1 b1 z1=>?_
 have hB1:Blk w1 w.heap.size 25 (moV x):=hB1
 refine Mo.load hB1 (zph (x:=x) (hN.below b1) hp hbd.1 λw2 b2=>⟨_,((Yv x pl (cutF pl pl.length) id q).2.1,(Yv x pl (cutF pl pl.length) id q).2.2,()),rfl,box2 rfl λw5 h5 b5 z5=>?_⟩)
 have hb5:=b1.on (b2.on b5)
 refine Mo.load (hB1.below (b2.on b5)) (zjO (x:=x) (hN.below hb5) hp λcb w6 _ _ hC6 b6=>⟨(x.1,x.2.1,⟨some (blk cb),pl.length,pl.length⟩,()),rfl,?_⟩)
 refine zo8 (x:=(x.1,x.2.1,⟨some (blk cb),pl.length,pl.length⟩,())) hC6 hp hbd.1 hid λw7 b7=>⟨_,((Yv x pl (cutF pl pl.length) id q).2.1,(Yv x pl (cutF pl pl.length) id q).2.2,()),rfl,box2 rfl λw10 h10 b10 z10=>?_⟩
 have b510:=(b6.on b7).on b10
 refine zI (beq_self_eq_true _) (Sp.load (h5.below b510) (Sp.load h10 ?_))
 simp only[beq_self_eq_true,Bool.true_and]
 exact hR w10 (hb5.on b510)
end
end Go.Proofs
