/- FlowLives, part 7; made small by a program. -/
import Derived.Test.YtgkgagmdkgdjdaaGreatProg
import Derived.Test.YtgkgagmdkgdjdaaGreatPFlowLives6
namespace Go.Proofs
open Go.Gk Go.RowKit Go.Gm
def lblN(bk:List (Int×Int×Int)):Nat->List (Int×Int)
 | 0=>[]
 |k+1=>setL (lblN bk k) (bk.getD (k+1) (0,0,0)).1 ((k:Int)+1)
abbrev lblM(bk:List (Int×Int×Int)):List (Int×Int):=lblN bk (bk.length-1)
def fndP(M:List (Int×Int))(ls:List Int):Option (List Int):=if ls.all (λn=>(zI M n).isSome)=true then some (ls.map λn=>(zI M n).getD 0) else none
def blkM(pl:List PI)(bk:List (Int×Int×Int))(b:Int×Int×Int):Option Mg:=mrgP (lblM bk) (ix pl (b.2.2.toNat-2)).1 (ix pl (b.2.2.toNat-2)).2.2.2 (ix pl (b.2.2.toNat-1)).1
def blkT(pl:List PI)(b:Int×Int×Int):List Int:=tgtP (ix pl (b.2.2.toNat-1)).1 (ix pl (b.2.2.toNat-1)).2.2.2
def blkE(pl:List PI)(bk:List (Int×Int×Int))(b:Int×Int×Int):Option Int:=match blkM pl bk b with
 |none=>some (b.2.2-2)
 |some _=>match fndP (lblM bk) (blkT pl b) with
  |none=>some (b.2.2-1)
  |some _=>none
noncomputable def gnwE(x:Mo)(pl:List PI)(f:FnL):Int×Int:=
 if (zV x.2.1 pl).1≠0 then((zV x.2.1 pl).1,((zV x.2.1 pl).2:Int)) else if f ∉ cutF pl pl.length then(2,0) else if 4096<f.bk.length then(4,f.at_) else
  match f.bk.findSome? (blkE pl f.bk) with
  |some a=>(140,a)
  |none=>(0,0)
def mgsP(pl:List PI)(bk:List (Int×Int×Int)):List Mg:=bk.map λb=>(blkM pl bk b).getD (0,-1,-1)
def Yd(pl:List PI)(bk:List (Int×Int×Int)):List (List Int):=bk.map λb=>(fndP (lblM bk) (blkT pl b)).getD []
theorem zgY(bk:List (Int×Int×Int)):∀k n v,zI (lblN bk k) n=some v->1<=v/\v<=k
 | 0,n,v,h=>by cases h
 |k+1,n,v,h=>by
  simp only[lblN]at h
  rw[zfp]at h
  split at h
  ·cases h;omega
  ·have:=zgY bk k n v h;omega
theorem zjO{M:List (Int×Int)}{ls:List Int}(h:∀n∈ls,(zI M n).isSome=true):fndP M ls=some (ls.map λn=>(zI M n).getD 0):=by
 unfold fndP
 rw[if_pos (List.all_eq_true.2 h)]
theorem zm8{M:List (Int×Int)}{ls:List Int}(h:∃n∈ls,zI M n=none):fndP M ls=none:=by
 unfold fndP
 obtain⟨n,hn,e⟩:=h
 rw[if_neg]
 intro ha
 have:=List.all_eq_true.1 ha n hn
 rw[e]at this
 cases this
theorem Zf{α β:Type}{f:α->Option β}:∀{l:List α} {k:Nat} (hk:k<l.length) {v:β},f l[k]=some v->(∀j (h:j<l.length),j<k->f l[j]=none)->l.findSome? f=some v
 |a::l,0,_,v,h,_=>by
  rw[List.findSome?_cons]
  have h:f a=some v:=h
  rw[h]
 |a::l,k+1,hk,v,h,hj=>by
  rw[List.findSome?_cons]
  have h0:f a=none:=hj 0 (by simp) (by omega)
  rw[h0]
  exact Zf (l:=l) (k:=k) (by simpa using hk) h λj h1 h2=>hj (j+1) (by simpa using h1) (by omega)
theorem zgN{α β:Type}{f:α->Option β}{l:List α}(hj:∀j (h:j<l.length),f l[j]=none):l.findSome? f=none:=by
 rw[List.findSome?_eq_none_iff]
 intro a ha
 obtain⟨j,h,rfl⟩:=List.getElem_of_mem ha
 exact hj j h
theorem zlZ(op:Int)(al:List Ag):(tgtP op al).length<=al.length:=by
 unfold tgtP
 split
 ·exact zlY op al al.length
 ·simp
theorem zrI:(match frm 247 with |some f=>decide (1<=f.fixed.length) |none=>false)=true:=by decide +kernel
theorem zrH:(match frm 246 with |some f=>decide (2<=f.fixed.length) |none=>false)=true:=by decide +kernel
theorem zsT{f:Fl}{n:Nat}(h:YS f n=true):f.fixed.length<=n:=by
 unfold YS at h
 split at h
 ·cases h
 ·omega
theorem zlI{p:PI}{b:Int}(h:Ze p b=0):(p.1=247->0<p.2.2.2.length)/\(p.1=246->1<p.2.2.2.length):=by
 obtain⟨f,hf,_,_,_,hw,_⟩:=zfa h
 have hl:=zsT hw
 refine⟨λe=>?_,λe=>?_⟩
 ·have h1:=zrI
  rw[e]at hf
  rw[hf]at h1
  have:=of_decide_eq_true h1
  omega
 ·have h1:=zrH
  rw[e]at hf
  rw[hf]at h1
  have:=of_decide_eq_true h1
  omega
theorem IsGB.mono{w:World}{B B' gb:Nat}{nx:List (List Nat)}(h:IsGB w B gb nx)(hb:B'<=B):IsGB w B' gb nx:=by
 obtain⟨hg,sn,sa,wk,od,bs,hn,ha,h1,h2,h3,h4,h5,h6,f1,f2,f3,f4,f5,f6⟩:=h
 have st:∀{s:Sl},zz B s->zz B' s:=λh a ha=>Nat.le_trans hb (h a ha)
 exact⟨Nat.le_trans hb hg,sn,sa,wk,od,bs,hn,ha,h1,h2,h3,h4,h5,h6,st f1,st f2,st f3,st f4,λi h=>st (f5 i h),λi h=>st (f6 i h)⟩
section
variable {x:Mo} {pl:List PI} {w:World} {R:VWP} {v:Fv} {f:FnL}
theorem ztQ{w:World}{s:Sl}{pl:List PI}(h:IsPl w s pl){k:Nat}(hk:k<pl.length){φ:Addr->Int->Int->Int->Sl->Prop}
  (hφ:∀a t,(∀j,j<4->w.cell? ((a.add (Int.toNat (k:Int)*4)).add j)=(inV (mkIn pl[k] t))[j]?)->IsAg w t pl[k].2.2.2->φ a pl[k].1 pl[k].2.1 pl[k].2.2.1 t) :
  (0<=(k:Int)/\(k:Int)<(s.l:Int))/\zc s.a λa=>ldI w ((a.add (Int.toNat (k:Int)*4)).add 0) .u16 λx=>ldI w ((a.add (Int.toNat (k:Int)*4)).add 1) .u32 λy=>ldI w ((a.add (Int.toNat (k:Int)*4)).add 2) .u32 λz=>ldS w ((a.add (Int.toNat (k:Int)*4)).add 3) λt=>φ a x y z t:=by
 obtain⟨a,ha⟩:=h.base hk
 obtain⟨t,h1,h2⟩:=h.elem a ha k hk
 have hc:∀j,j<4->w.cell? ((a.add (Int.toNat (k:Int)*4)).add j)=(inV (mkIn pl[k] t))[j]?:=λj hj=>by rw[zy];exact h1 j hj
 exact⟨⟨by omega,by have:=h.len;omega⟩,zj ha ⟨_,hc 0 (by omega),_,hc 1 (by omega),_,hc 2 (by omega),t,hc 3 (by omega),hφ a t hc h2⟩⟩
theorem eRow:YT Tryz.prog 67 43 1 24:=⟨by kernel_rfl,Tryz.t43,.slice none 0 0,by kernel_rfl,rfl,rfl,rfl,rfl⟩
set_option maxHeartbeats 1000000 in
theorem zpC(hN:IsPl w x.2.2.1 pl)(hp:PlOk pl)(h0:0<=x.2.1)(hf:IsFn w v f)
  (hbad:∀w' e a,Below w.heap.size w w'->(e,a)=gnwE x pl f->e≠0->R (.tuple #[.pointer none,.slice none 0 0,.agg #[.int .i64 e,.int .i64 a]]) w')
  (hok:∀w' gb ms,Below w.heap.size w w'->gnwE x pl f=(0,0)->f∈cutF pl pl.length->IsGB w' w.heap.size gb (Zd (Yd pl f.bk))->NxOk (Zd (Yd pl f.bk))->IsM w' ms (mgsP pl f.bk)->R (.tuple #[.pointer (some (blk gb)),.slice ms.a ms.l ms.c,.agg #[.int .i64 0,.int .i64 0]]) w') :
  cR 14 #[moA x,fvA v] w R:=by
 refine za.of (zkO x v R w ?_) λ_ _ h=>h
 refine zn λw1 hB1 b1 z1=>?_
 have hB1:Blk w1 w.heap.size 25 (moV x):=hB1
 refine zn λw2 hV2 b2 z2=>?_
 have hV2:Blk w2 w1.heap.size 46 (fvV v):=hV2
 refine zn λw3 hS3 b3 z3=>?_
 have hS3:Blk w3 w2.heap.size 29 [.int .i64 0,.int .i64 0]:=hS3
 have b13:=b2.on b3
 have hb3:=b1.on b13
 refine Mo.load (hB1.below b13) ?_
 refine zlc (x:=x) (hN.below hb3) hp λw4 b4=>⟨((zV x.2.1 pl).1,((zV x.2.1 pl).2:Int),()),rfl,?_⟩
 refine box2 rfl λw7 h7 b7 z7=>?_
 have b37:=b4.on b7
 have hb7:=hb3.on b37
 have hB7:=(hB1.below b13).below b37
 have hV7:=(hV2.below b3).below b37
 have hS7:=hS3.below b37
 have s2:=b1.size
 have bad:∀{w':World} (e a:Int),Blk w' w2.heap.size 29 [.int .i64 0,.int .i64 0]->Below w.heap.size w w'->(e,a)=gnwE x pl f->e≠0->
   Wr w' (blk w2.heap.size)/\Nw (w'.setCell (blk w2.heap.size) (.int .i64 e)) λw8=>Wr w8 ((blk w2.heap.size).add 1)/\Nw (w8.setCell ((blk w2.heap.size).add 1) (.int .i64 a)) λw9=>ldI w9 ((blk w2.heap.size).add 0) .i64 λx9=>ldI w9 ((blk w2.heap.size).add 1) .i64 λx10=>
    R (.tuple #[.pointer none,.slice none 0 0,.agg #[.int .i64 x9,.int .i64 x10]]) w9:=λ{w'} e a hS hb he hne=>
  st2 hS rfl λw9 hS9 c9=>Sp.load hS9 (hbad w9 e a (c9.below hb (by omega)) he hne)
 refine h7.rI0 rfl (zt (λe=>?_) (λe=>?_))
 ·have e':(zV x.2.1 pl).1≠0:=e
  exact Sp.load h7.drew (bad _ _ hS7.drew hb7.drew (by unfold gnwE;rw[if_pos e']) e')
 have e':(zV x.2.1 pl).1=0:=e
 obtain⟨k1,k2,k3⟩:=zeq e'
 have hsh:=zfj k2
 refine Mo.load hB7 ?_
 refine znQ (x:=x) (hN.below hb7) hp (λfs L w10 _ b10 hL hLc=>⟨fs,(0,0,()),rfl,?_⟩) (λw10 hne _=>absurd k2 hne)
 refine box2 rfl λw13 h13 b13' z13=>?_
 have b713:=b10.on b13'
 have hb13:=hb7.on b713
 refine znP (v:=v) (f:=f) (hL.below b13') (hV7.below b713) (hf.below hb13) λw14 b14=>⟨_,rfl,?_⟩
 rw[hLc]
 have b714:=b713.on b14
 have hb14:=hb7.on b714
 have hB14:=hB7.below b714
 have hV14:=hV7.below b714
 have hS14:=hS7.below b714
 refine zF (zf (λhin=>?_) (λhin=>?_))
 rotate_left
 ·exact bad 2 0 hS14 hb14 (by unfold gnwE;rw[if_neg (λh=>h e'),if_pos hin]) (by decide)
 have hFn:=znt k2 f hin
 have hbl:=(hf.bk).len
 have hbc:=(hf.bk).cap
 have hbmax:=(hf.bk).bound
 refine hV14.rS (n:=3) (x:=v.2.2.2.1) rfl (zf (λhgt=>?_) (λhle=>?_))
 ·refine hV14.drew.rI (n:=1) (x:=v.2.1) rfl ?_
  exact bad 4 v.2.1 hS14.drew hb14.drew (by unfold gnwE;rw[if_neg (λh=>h e'),if_neg (λh=>h hin),if_pos (by omega),hf.at_]) (by decide)
 have hle:f.bk.length<=4096:=by omega
 have hpos:0<f.bk.length:=List.length_pos_iff.2 hFn.ne
 have hgn:gnwE x pl f=(match f.bk.findSome? (blkE pl f.bk) with
   |some a=>(140,a)
   |none=>(0,0)):=by unfold gnwE;rw[if_neg (λh=>h e'),if_neg (λh=>h hin),if_neg (by omega)]
 refine Nw.gen λw19 e19=>?_
 have m19:IsMp w19 w14.heap.size .i64 []:=by rw[e19];exact IsMp.new _ _
 have b19:Below w14.heap.size w14 w19:=by rw[e19];exact(Below.refl _ _).alloc (Nat.le_refl _) _
 have z19:w19.heap.size=w14.heap.size+1:=by rw[e19];simp
 clear e19
 have hV19:=hV14.below b19
 refine hV19.rS (n:=3) (x:=v.2.2.2.1) rfl ⟨⟨by omega,by omega,by omega⟩,?_⟩
 obtain⟨ab,hab⟩:=(hf.bk).base hpos
 have hb19:=hb14.on b19
 refine zk.count (f.bk.length-1) (by omega) (λk w'=>Below w14.heap.size w19 w'/\IsMp w' w14.heap.size .i64 (lblN f.bk k)) ⟨Below.refl _ _,m19⟩ ?_
 rintro k w20 hk ⟨f20,m20⟩ next hnext
 have b20:Below w14.heap.size w14 w20:=b19.trans f20
 have hb20:=hb14.on b20
 have s20:=f20.size
 rw[hbl]
 refine zf (λh=>?_) (λh=>?_)
 ·have hlt:k+1<f.bk.length:=by dsimp only at h;omega
  have hcell:=(IsC.below zU hf.bk hb20).cell ab hab (k+1) hlt
  refine⟨⟨by omega,by omega⟩,?_⟩
  rw[if_neg (by omega),hab]
  refine zj rfl ?_
  have ec:∀j,((ab.add (1*3)).add (Int.toNat (k:Int)*3)).add j=ab.add ((k+1)*3+j):=λj=>by
   rw[zy,zy,show Int.toNat (k:Int)=k from rfl]
   congr 1
   omega
  dsimp only[ds,dt,zB,Go.Gk.Sl.zw,zi,zu,zb,zh];rw[ec,ec,ec]
  refine⟨_,hcell 0 (by omega),_,hcell 1 (by omega),_,hcell 2 (by omega),?_⟩
  refine box3 rfl λw24 h24 b24 z24=>?_
  refine h24.rI0 rfl ?_
  rw[zr (by omega)]
  refine zqI ztF uU32 (m20.below b24) λw25 m25 c25=>?_
  have hn25:=hnext w25 (by omega)
  rw[zr (by omega)]at hn25
  refine hn25 ⟨f20.trans (c25.below (b24.mono (by omega)) (Nat.le_refl _)),?_⟩
  simp only[lblN]
  rw[zs hlt]
  exact m25
 have hk':k=f.bk.length-1:=by dsimp only at h;omega
 subst hk'
 have m20:IsMp w20 w14.heap.size .i64 (lblM f.bk):=m20
 have hV20:=hV14.below b20
 have hB20:=hB14.below b20
 have hS20:=hS14.below b20
 have lM:=m20.lt
 have hN20:=hN.below hb20
 have hbk20:IsBk w20 v.2.2.2.1 f.bk:=IsC.below zU hf.bk hb20
 have hl:=hN.len
 have h40:=hp.len
 refine hV20.rS (n:=3) (x:=v.2.2.2.1) rfl ?_
 rw[hbl]
 refine zk.ghost (λj (st:Sl×Sl×Int×Unit) w'=>∃(k:Nat) (nx mg:Sl) (hs:List Sl),st=(nx,mg,(k:Int),())/\j=f.bk.length-k/\k<=f.bk.length/\Below w20.heap.size w20 w'/\hs.length=k/\Own w' 43 1 nx (hs.map Sl.val)/\zz w20.heap.size nx/\
  (∀i (h:i<hs.length) (h':i<(Yd pl f.bk).length),Own w' 3 1 hs[i] ((Yd pl f.bk)[i].map (Value.int .i64))/\zz w20.heap.size hs[i])/\Own w' 106 3 mg (flat mgV ((mgsP pl f.bk).take k))/\zz w20.heap.size mg/\
  ∀i (h:i<f.bk.length),i<k->blkE pl f.bk f.bk[i]=none) f.bk.length
  ⟨0,⟨none,0,0⟩,⟨none,0,0⟩,[],rfl,rfl,Nat.zero_le _,Below.refl _ _,rfl,Own.nil _ _ _,λa ha=>(by cases ha),λi h=>(by cases h),Own.nil _ _ _,λa ha=>(by cases ha),λi _ h=>by omega⟩ ?_
 clear hnext
 rintro _ _ w26 ⟨k,nx,mg,hs,rfl,rfl,hk,b26,hhl,hnx,hnxF,hrow,hmg,hmgF,hgood⟩ next hnext
 have hb26:=hb20.on b26
 dsimp only
 refine zf (λh=>?_) (λh=>?_)
 ·have hkl:k<f.bk.length:=by omega
  obtain⟨fr,to_,hbq,hft,htl,h248,h8f,hend,h8t⟩:=(hFn.ok _ (List.getElem_mem hkl)).ex
  have hto:f.bk[k].2.2=(to_:Int):=by rw[hbq]
  have elB:∀{φ:Int->Int->Int->Prop},φ f.bk[k].1 f.bk[k].2.1 f.bk[k].2.2->(0<=(k:Int)/\(k:Int)<((f.bk.length:Nat):Int))/\zc v.2.2.2.1.a λa=>ldI w26 ((a.add (Int.toNat (k:Int)*3)).add 0) .u32 λx=>ldI w26 ((a.add (Int.toNat (k:Int)*3)).add 1) .i64 λy=>ldI w26 ((a.add (Int.toNat (k:Int)*3)).add 2) .i64 λz=>φ x y z:=λhφ=>by
   have:=zf4 (IsC.below zU hbk20 b26) hkl hφ
   rwa[hbl]at this
  refine elB ?_
  refine box3 rfl λw30 hK30 b30 z30=>?_
  have hK30:Blk w30 w26.heap.size 42 (blV f.bk[k]):=hK30
  have b2030:=b26.on b30
  have hB30:=hB20.below b2030
  refine hB30.rS (n:=2) (x:=x.2.2.1) rfl (hK30.rI (n:=2) (x:=f.bk[k].2.2) rfl ?_)
  rw[hto]
  have et1:IntKind.i64.wrap ((to_:Int)-1)=((to_-1:Nat):Int):=by rw[zq (by omega) (by omega)];omega
  have et2:IntKind.i64.wrap ((to_:Int)-2)=((to_-2:Nat):Int):=by rw[zq (by omega) (by omega)];omega
  rw[et1]
  have h1l:to_-1<pl.length:=by omega
  have h2l:to_-2<pl.length:=by omega
  have ei1:ix pl (to_-1)=pl[to_-1]:=yg h1l
  have ei2:ix pl (to_-2)=pl[to_-2]:=yg h2l
  refine yu (hN20.below b2030) h1l λtl htl'=>?_
  refine box4 rfl λw35 hL35 b35 z35=>?_
  have hL35:Blk w35 w30.heap.size 50 (inV (mkIn pl[to_-1] tl)):=hL35
  have b2035:=b2030.on b35
  have bd:Below w35.heap.size w35 w35.drew:=(Below.refl _ _).drew
  have b2035d:=b2035.on bd
  have hMargs:=zlI ((Ye hsh).2 (to_-2) h2l)
  have hbM:blkM pl f.bk f.bk[k]=mrgP (lblM f.bk) pl[to_-2].1 pl[to_-2].2.2.2 pl[to_-1].1:=by
   unfold blkM
   rw[hto,Int.toNat_natCast,ei1,ei2]
  have hbT:blkT pl f.bk[k]=tgtP pl[to_-1].1 pl[to_-1].2.2.2:=by
   unfold blkT
   rw[hto,Int.toNat_natCast,ei1]
  have s26:=b26.size
  have s30:=b30.size
  have s35:=b35.size
  refine zl.cut (λ(st:(Option Addr)×Bool×Unit) w'=>∃(mb:Nat) (m:Mg) (ok:Bool),st=(some (blk mb),ok,())/\Blk w' mb 106 (mgV m)/\Below w35.heap.size w35 w'/\(ok=true->blkM pl f.bk f.bk[k]=some m)/\(ok=false->blkM pl f.bk f.bk[k]=none)) ?_ ?_
  ·refine(hB30.below b35).drew.rS (n:=2) (x:=x.2.2.1) rfl ((hK30.below b35).drew.rI (n:=2) (x:=f.bk[k].2.2) rfl ?_)
   rw[hto,et2]
   refine ztQ ((hN20.below b2035d)) h2l λaM ti hcM hti=>?_
   refine Ins.load (x:=mkIn pl[to_-1] tl) hL35.drew ⟨?_,?_⟩
   ·refine zlJ (i:=mkIn pl[to_-2] ti) (last:=mkIn pl[to_-1] tl) (m20.below b2035d) hti hMargs.1 hMargs.2 λm b w36 b36 hm1 hm2=>⟨(m.1,m.2.1,m.2.2,()),b,rfl,?_⟩
    refine box3 rfl λw40 hX40 b40 z40=>?_
    exact⟨w36.heap.size,m,b,rfl,hX40,(bd.on b36).on b40,λhb=>by rw[hbM];exact hm1 hb,λhb=>by rw[hbM];exact hm2 hb⟩
   ·refine zn λw41 hX41 b41 z41=>?_
    have hX41:Blk w41 w35.drew.heap.size 106 [.int .u8 0,.int .i64 0,.int .i64 0]:=hX41
    have hL41:=hL35.drew.below b41
    have hK41:=((hK30.below b35).drew).below b41
    have hB41:=((hB30.below b35).drew).below b41
    have hcM41:∀j vv,(inV (mkIn pl[to_-2] ti))[j]? =some vv->j<4->w41.cell? ((aM.add (Int.toNat ((to_-2:Nat):Int)*4)).add j)=some vv:=λj vv hv hj=>yP b41 ((hcM j hj).trans hv)
    refine⟨hL41.cell (n:=0) rfl,hL41.cell (n:=1) rfl,hL41.cell (n:=2) rfl,hL41.cell (n:=3) rfl,hcM41 0 _ rfl (by omega),hcM41 1 _ rfl (by omega),hcM41 2 _ rfl (by omega),hcM41 3 _ rfl (by omega),?_,hB41.cell (n:=2) rfl,?_⟩
    ·rw[<-hto]
     exact hK41.cell (n:=2) rfl
    refine zlJ (i:=mkIn pl[to_-2] ti) (last:=mkIn pl[to_-1] tl) ((m20.below b2035d).below b41) (IsAg.below hti b41) hMargs.1 hMargs.2 λm b w42 b42 hm1 hm2=>⟨(m.1,m.2.1,m.2.2,()),b,rfl,?_⟩
    have b4142:=b41.on b42
    refine st3 (hX41.below b42) rfl λw45 hX45 c45=>?_
    exact⟨w35.drew.heap.size,m,b,rfl,hX45,c45.below (bd.on b4142) (Nat.le_refl _),λhb=>by rw[hbM];exact hm1 hb,λhb=>by rw[hbM];exact hm2 hb⟩
  rintro _ w46 ⟨mb,m,ok,rfl,hX46,b46,hm1,hm2⟩
  have b2046:=b2035.on b46
  have b2646:=(b30.on b35).on b46
  have hb46:=hb20.on b2046
  have hK46:=(hK30.below b35).below b46
  have hS46:=hS20.below b2046
  dsimp only
  refine zF (zo (λhokt=>?_) (λhokf=>?_))
  rotate_left
  ·have hnone:=hm2 hokf
   have hE:blkE pl f.bk f.bk[k]=some ((to_:Int)-2):=by unfold blkE;rw[hnone,hto]
   refine hK46.drew.rI (n:=2) (x:=f.bk[k].2.2) rfl ?_
   rw[hto,et2]
   refine bad 140 ((to_-2:Nat):Int) hS46.drew hb46.drew ?_ (by decide)
   rw[hgn,Zf hkl hE λj h1 h2=>hgood j h1 h2]
   dsimp only
   congr 1
   omega
  have hsome:=hm1 hokt
  have hL46:=hL35.below b46
  have hal24:=hp.args _ (List.getElem_mem h1l)
  refine Ins.load (x:=mkIn pl[to_-1] tl) hL46 ?_
  refine znk (x:=mkIn pl[to_-1] tl) ((IsAg.below htl' b35).below b46) hal24 λtg w49 htg htgF b49=>⟨tg,rfl,?_⟩
  have htg:Own w49 22 1 tg ((tgtP pl[to_-1].1 pl[to_-1].2.2.2).map (Value.int .u32)):=htg
  have hlenT:=zlZ pl[to_-1].1 pl[to_-1].2.2.2
  have b2049:=b2046.on b49
  refine zlq (M:=lblM f.bk) (m20.below b2049) htg.isS (by omega) (λt w50 hall hO50 hF50 b50=>⟨t,true,rfl,zE rfl ?_⟩) (λw50 hnone b50=>⟨⟨none,0,0⟩,false,rfl,zD rfl ?_⟩)
  rotate_left
  ·have b4650:=b49.on b50
   have hE:blkE pl f.bk f.bk[k]=some ((to_:Int)-1):=by unfold blkE;rw[hsome,hbT,zm8 hnone,hto]
   refine(hK46.below b4650).drew.rI (n:=2) (x:=f.bk[k].2.2) rfl ?_
   rw[hto,et1]
   refine bad 140 ((to_-1:Nat):Int) (hS46.below b4650).drew (hb46.on b4650).drew ?_ (by decide)
   rw[hgn,Zf hkl hE λj h1 h2=>hgood j h1 h2]
   dsimp only
   congr 1
   omega
  have b4650:=b49.on b50
  have hX50:=hX46.below b4650
  have hE:blkE pl f.bk f.bk[k]=none:=by unfold blkE;rw[hsome,hbT,zjO hall]
  refine zj rfl ?_
  refine hX50.rI (n:=0) (x:=m.1) rfl (hX50.rI (n:=1) (x:=m.2.1) rfl (hX50.rI (n:=2) (x:=m.2.2) rfl ?_))
  refine zn λw53 hY53 b53 z53=>?_
  have hY53:Blk w53 w50.heap.size 106 (mgV m):=hY53
  have b2653:=(b2646.on b4650).on b53
  have b2053:=b26.on b2653
  have hmgl:mg.l=k:=by
   have:=hmg.1
   rw[zO zkV,List.length_take]at this
   unfold mgsP at this
   rw[List.length_map]at this
   omega
  refine zb2 (w0:=w20) eMg (hmg.below b2653) b2053 hmgF rfl (by simp[Value.oneCell']) hY53 (by omega) (by omega) λmg' w54 q1 q2 q3 q4 q5=>?_
  refine zn λw55 hZ55 b55 z55=>?_
  have hZ55:Blk w55 w54.heap.size 43 [Sl.val t]:=hZ55
  have hnx54:Own w54 43 1 nx (hs.map Sl.val):=(hnx.below b2653).of_block λa ha=>q5 _ ((hnx.below b2653).lt ha).2 (Zz (hmg.below b2653) (hnx.below b2653) (by decide) ha)
  have ht53:=hO50.below b53
  have ht54:Own w54 3 1 t _:=ht53.of_block λa ha=>q5 _ (ht53.lt ha).2 (Zz (hmg.below b2653) ht53 (by decide) ha)
  have hnxl:nx.l=k:=by
   have:=hnx.1
   rw[List.length_map]at this
   omega
  have q2':=q2.on b55
  refine zb2 (w0:=w20) eRow (hnx54.below b55) q2' hnxF rfl (by simp[Value.oneCell',Sl.val]) hZ55 (by omega) (by omega) λnx' w56 u1 u2 u3 u4 u5=>?_
  have hnx55:=hnx54.below b55
  rw[zr (by omega)]
  refine hnext (f.bk.length-(k+1)) _ _ (by omega) ⟨k+1,nx',mg',hs++[t],rfl,rfl,hkl,u2,by simp[hhl],?_,u3,λi h1 h2=>?_,?_,q3,λi h1 h2=>?_⟩
  ·rw[List.map_append]
   exact u1
  ·have keepI:∀{s:Sl} {xs:List Value},Own w53 3 1 s xs->Own w56 3 1 s xs:=λ{s xs} ho=>by
    have ho54:Own w54 3 1 s xs:=ho.of_block λa ha=>q5 _ (ho.lt ha).2 (Zz (hmg.below b2653) ho (by decide) ha)
    have ho55:=ho54.below b55
    exact ho55.of_block λa ha=>u5 _ (ho55.lt ha).2 (Zz hnx55 ho55 (by decide) ha)
   by_cases e:i<hs.length
   ·rw[List.getElem_append_left e]
    obtain⟨g1,g2⟩:=hrow i e h2
    exact⟨keepI (g1.below b2653),g2⟩
   ·have ei:i=k:=by simp at h1;omega
    subst ei
    have er:(hs++[t])[i]'h1=t:=by rw[List.getElem_append_right (by omega)];simp[hhl]
    rw[er]
    refine⟨?_,λa ha=>by have:=hF50 a ha;have:=b2049.size;omega⟩
    have:(Yd pl f.bk)[i]=(tgtP pl[to_-1].1 pl[to_-1].2.2.2).map λn=>(zI (lblM f.bk) n).getD 0:=by
     refine(List.getElem_map (λb=>(fndP (lblM f.bk) (blkT pl b)).getD [])).trans ?_
     rw[hbT,zjO hall]
     rfl
    rw[this]
    exact keepI ht53
  ·have hmk:(mgsP pl f.bk).take (k+1)=(mgsP pl f.bk).take k++[m]:=by
    have hlm:k<(mgsP pl f.bk).length:=by unfold mgsP;rw[List.length_map];exact hkl
    rw[List.take_succ_eq_append_getElem hlm]
    congr 2
    refine(List.getElem_map (λb=>(blkM pl f.bk b).getD (0,-1,-1))).trans ?_
    rw[hsome]
    rfl
   rw[hmk,zbu]
   have q1':=q1.below b55
   exact q1'.of_block λa ha=>u5 _ (q1'.lt ha).2 (Zz hnx55 q1' (by decide) ha)
  ·by_cases e:i=k
   ·subst e;exact hE
   ·exact hgood i h1 (by omega)
 ·have hkk:k=f.bk.length:=by omega
  subst hkk
  have hrl:(Yd pl f.bk).length=f.bk.length:=by unfold Yd;rw[List.length_map]
  have hml:(mgsP pl f.bk).length=f.bk.length:=by unfold mgsP;rw[List.length_map]
  have hg0:gnwE x pl f=(0,0):=by rw[hgn,zgN λj hj=>hgood j hj hj]
  rw[<-hml,List.take_length]at hmg
  have hII:IsII w26 nx hs (Yd pl f.bk):=⟨hnx.isS,by rw[hhl,hrl],λi h1 h2=>(hrow i h1 h2).1.isS⟩
  have hGood:Good (Yd pl f.bk):=by
   intro l hl' y hy
   obtain⟨b,hb,rfl⟩:=List.mem_map.1 hl'
   cases hfd:fndP (lblM f.bk) (blkT pl b) with
   |none=>rw[hfd]at hy;cases hy
   |some l=>
    rw[hfd]at hy
    unfold fndP at hfd
    split at hfd
    ·rename_i hall
     cases hfd
     obtain⟨n,hn,rfl⟩:=List.mem_map.1 hy
     have hs1:=List.all_eq_true.1 hall n hn
     obtain⟨u,hu⟩:=Option.isSome_iff_exists.1 hs1
     rw[hu,Option.getD_some]
     have:=zgY f.bk _ n u hu
     rw[hrl]
     omega
    ·cases hfd
  refine zmh hII (λh=>by rw[hrl]at h;omega) (λh=>by rw[hrl]at h;omega) (λ_ _ hng=>absurd hGood hng) λq1 q2 q3 w57 gb b57 hG _=>⟨some (blk gb),0,rfl,?_⟩
  have b2057:=b26.on b57
  refine st2 (hS20.below b2057) rfl λw59 hS59 c59=>Sp.load hS59 ?_
  have hb57:=hb20.on b2057
  have hM57:=hmg.below b57
  refine hok w59 gb mg (c59.below hb57 (by omega)) hg0 hin ?_ (zoo q1 q2 q3) ?_
  ·exact(hG.keep λk k1 _=>c59.block k (by have:=b26.size;have:=hS20.lt;omega)).mono (hb20.on b26).size
  ·exact Own.isC zkV (by omega) (hM57.of_block λa ha=>c59.block _ λe=>by
    obtain⟨cs,hc⟩:=hM57.type ha
    exact Blk.apart hc (hS20.below b2057) (by decide) e)
end
theorem Chg.same{b:Nat}{T:TypeId}{cs:List Value}{w w':World}(c:Chg b w w')(h:Blk w b T cs)(h':Blk w' b T cs):Below w.heap.size w w':=
 ⟨c.os,c.tape,c.output,Nat.le_of_eq c.size.symm,λk _=>by
  by_cases e:k=b
  ·subst e;exact h'.trans h.symm
  ·exact c.block k e⟩
theorem zo8{bk:List (Int×Int×Int)}(hd:(bk.map (·.1)).Nodup){i:Nat}(h1:1<=i)(hi:i<bk.length):∀k,i<=k->k<bk.length->zI (lblN bk k) (bk[i]).1=some (i:Int)
 | 0,h,_=>by omega
 |k+1,h,hk=>by
  simp only[lblN]
  rw[zfp,zs hk]
  by_cases e:i=k+1
  ·subst e
   rw[if_pos rfl]
   rfl
  ·rw[if_neg λq=>e ?_]
   ·exact zo8 hd h1 hi k (by omega) (by omega)
   ·have:=List.pairwise_iff_getElem.1 (List.nodup_iff_pairwise_ne.1 hd) i (k+1) (by rwa[List.length_map]) (by rwa[List.length_map]) (by omega)
    simp only[List.getElem_map]at this
    exact(this q).elim
theorem zo7{bk:List (Int×Int×Int)}{n:Int}:∀k,k<bk.length->(∀i (h:i<bk.length),1<=i->i<=k->bk[i].1≠n)->zI (lblN bk k) n=none
 | 0,_,_=>rfl
 |k+1,hk,h=>by
  simp only[lblN]
  rw[zfp,zs hk,if_neg (λe=>h (k+1) hk (by omega) (Nat.le_refl _) e.symm)]
  exact zo7 k (by omega) λi h1 h2 h3=>h i h1 h2 (by omega)
def lblI(bk:List (Int×Int×Int))(n:Int):Int:=(zI (lblM bk) n).getD (-1)
theorem zpJ:(match frm 248 with |some f=>f.re |none=>false)=true:=by decide +kernel
theorem zo5{bd:Int}{pl:List PI}(hs:(zG bd pl).1=0){k:Nat}(hk:k<pl.length)(h:(ix pl k).1=248):(ix pl k).2.2.1≠0:=by
 have hf:=(Ye hs).2 k hk
 rw[yg hk]at h⊢
 obtain⟨f,hf,_,h2,_⟩:=zfa hf
 have h1:=zpJ
 rw[h]at hf
 rw[hf]at h1
 have h1:f.re=true:=h1
 rw[h1]at h2
 intro e
 rw[e]at h2
 simp[idP]at h2
theorem BkOk.label{pl:List PI}{n:Nat}{b:Int×Int×Int}(h:BkOk pl n b):∃f:Nat,b.1=(ix pl f).2.2.1/\b.2.1=(f:Int)/\f<n/\(ix pl f).1=248:=by
 obtain⟨f,t,rfl,h2,h3,h4,_⟩:=h.ex
 exact⟨f,rfl,rfl,by omega,h4⟩
theorem zjl{bd:Int}{pl:List PI}(hp:PlOk pl)(h0:0<=bd)(h:(zV bd pl).1=0){f:FnL}(hf:FnOk pl pl.length f):(f.bk.map (·.1)).Nodup:=by
 have hw:=znl.of hp h0 h
 rw[List.nodup_iff_pairwise_ne,List.pairwise_map,List.pairwise_iff_getElem]
 intro i j hi hj hij e
 have hlt:=List.pairwise_iff_getElem.1 hf.lt i j hi hj hij
 obtain⟨a,a1,a2,a3,a4⟩:=(hf.ok _ (List.getElem_mem hi)).label
 obtain⟨b,b1,b2,b3,b4⟩:=(hf.ok _ (List.getElem_mem hj)).label
 rw[a2,b2]at hlt
 rw[a1,b1]at e
 exact hw.new b b3 (zo5 hw.shape b3 b4) a (by omega) a3 e
abbrev Bk3:=Int×Int×Int
structure Tile (pl:List PI) (a n:Nat) (ps:List Int) (bk:List Bk3):Prop where
 all:∀i:Nat,a<i->i<n->(i:Int)∈ps\/∃b∈bk,b.2.1<=(i:Int)/\(i:Int)<b.2.2
 par:∀p∈ps,∃k:Nat,p=(k:Int)/\a<k/\k<n/\(ix pl k).1=55
 pb:∀p∈ps,∀b∈bk,p<b.2.1
 bks:∀b∈bk,(a:Int)<b.2.1/\b.2.2<=(n:Int)
 lt:bk.Pairwise λb c=>b.2.2<=c.2.1
 nl:∀b∈bk,∀i:Nat,b.2.1<(i:Int)->(i:Int)<b.2.2->(ix pl i).1≠248
structure FnT (pl:List PI) (n:Nat) (f:FnL):Prop where
 ex:∃a e:Nat,f.at_=(a:Int)/\f.en=(e:Int)/\a<e/\e<n/\(ix pl a).1=54/\(ix pl e).1=56/\Tile pl a e f.ps f.bk
theorem FnT.mono{pl:List PI}{n m:Nat}{f:FnL}(h:FnT pl n f)(hm:n<=m):FnT pl m f:=by
 obtain⟨a,e,h1,h2,h3,h4,h5⟩:=h.ex
 exact⟨a,e,h1,h2,h3,by omega,h5⟩
theorem FnT.en_lt{pl:List PI}{n:Nat}{f:FnL}(h:FnT pl n f):f.en<(n:Int):=by
 obtain⟨a,e,h1,h2,h3,h4,h5⟩:=h.ex
 omega
inductive znU (pl:List PI) (n:Nat) (ah:Int):List FnL->Prop
 |out (h:ah=0\/ah=56):znU pl n ah []
 |head (f:FnL) (a:Nat) (h:ah=54\/ah=55) (hf:f.at_=(a:Int)/\a<n/\(ix pl a).1=54) (hb:f.bk=[]) (T:Tile pl a n f.ps []):znU pl n ah [f]
 |shut (f:FnL) (a:Nat) (h:zZ ah=true) (hf:f.at_=(a:Int)/\a<n/\(ix pl a).1=54) (T:Tile pl a n f.ps f.bk):znU pl n ah [f]
 |open_ (f:FnL) (a:Nat) (bs:List Bk3) (k:Nat) (h:¬(ah=0\/ah=54\/ah=55\/ah=56\/zZ ah=true)) (hf:f.at_=(a:Int)/\a<k/\(ix pl a).1=54) (hk:k<n)
   (hb:f.bk=bs++[((ix pl k).2.2.1,(k:Int),0)]) (T:Tile pl a k f.ps bs) (hnl:∀i:Nat,k<i->i<n->(ix pl i).1≠248):znU pl n ah [f]
structure CutT (pl:List PI) (n:Nat):Prop where
 ex:∃done last,cutF pl n=done++last/\(∀f∈done,FnT pl n f)/\done.Pairwise (λf g=>f.en<g.at_)/\(∀f∈done,∀g∈last,f.en<g.at_)/\znU pl n (zN pl n) last
theorem Tile.nil(pl:List PI)(n:Nat):Tile pl n (n+1) [] []:=
 ⟨λi _ _=>absurd ‹n<i› (by omega),λ_ h=>(by cases h),λ_ h=>(by cases h),λ_ h=>(by cases h),.nil,λ_ h=>(by cases h)⟩
theorem Tile.param{pl:List PI}{a n:Nat}{ps:List Int}(T:Tile pl a n ps [])(han:a<n)(h:(ix pl n).1=55):Tile pl a (n+1) (ps++[(n:Int)]) []:=by
 refine⟨λi h1 h2=>?_,λp hp=>?_,λ_ _ _ hb=>(by cases hb),λ_ hb=>(by cases hb),.nil,λ_ hb=>(by cases hb)⟩
 ·by_cases e:i=n
  ·subst e;exact .inl (List.mem_append_right _ (List.mem_singleton_self _))
  ·rcases T.all i h1 (by omega) with h | ⟨b,hb,_⟩
   ·exact .inl (List.mem_append_left _ h)
   ·cases hb
 ·rcases List.mem_append.1 hp with hp |hp
  ·obtain⟨k,h1,h2,h3,h4⟩:=T.par p hp
   exact⟨k,h1,h2,by omega,h4⟩
  ·exact⟨n,List.mem_singleton.1 hp,han,by omega,h⟩
theorem Tile.block{pl:List PI}{a k n:Nat}{ps:List Int}{bs:List Bk3}(T:Tile pl a k ps bs)(hak:a<k)(hkn:k<n)(hnl:∀i:Nat,k<i->i<n+1->(ix pl i).1≠248)(x:Int):Tile pl a (n+1) ps (bs++[(x,(k:Int),(n:Int)+1)]):=by
 refine⟨λi h1 h2=>?_,λp hp=>?_,λp hp b hb=>?_,λb hb=>?_,Z9 T.lt λy hy=>(T.bks y hy).2,λb hb i h1 h2=>?_⟩
 ·by_cases e:i<k
  ·rcases T.all i h1 e with h | ⟨b,hb,h⟩
   ·exact .inl h
   ·exact .inr ⟨b,List.mem_append_left _ hb,h⟩
  ·exact .inr ⟨_,List.mem_append_right _ (List.mem_singleton_self _),by dsimp only;omega,by dsimp only;omega⟩
 ·obtain⟨j,h1,h2,h3,h4⟩:=T.par p hp
  exact⟨j,h1,h2,by omega,h4⟩
 ·rcases List.mem_append.1 hb with hb |hb
  ·exact T.pb p hp b hb
  ·rw[List.mem_singleton.1 hb]
   obtain⟨j,h1,h2,h3,h4⟩:=T.par p hp
   dsimp only
   omega
 ·rcases List.mem_append.1 hb with hb |hb
  ·have:=T.bks b hb
   omega
  ·rw[List.mem_singleton.1 hb]
   dsimp only
   omega
 ·rcases List.mem_append.1 hb with hb |hb
  ·exact T.nl b hb i h1 h2
  ·rw[List.mem_singleton.1 hb]at h1 h2
   dsimp only at h1 h2
   exact hnl i (by omega) (by omega)
theorem CutT.step{pl:List PI}{n:Nat}(h:CutT pl n)(hm:mayP pl n=true)(hg:Z0 pl n):CutT pl (n+1):=by
 obtain⟨done,last,hc,hd,hpw,hx,hl⟩:=h.ex
 have hd':∀f∈done,FnT pl (n+1) f:=λf hf=>(hd f hf).mono (by omega)
 have hc':cutF pl (n+1)=cutS (cutF pl n) n (ix pl n):=rfl
 refine⟨?_⟩
 by_cases h8:zx (ix pl n)=8
 ·have ha':zN pl (n+1)=(ix pl n).1:=zdv h8
  have ho:=zn8 hm h8
  have hne:=zs5 h8
  generalize hah:zN pl n=ah at hl ho
  generalize yO pl (n-1)=fi at ho
  have hcS:∀f,cutF pl n=done++[f]->∀g:FnL->FnL,modL g (cutF pl n)=done++[g f]:=λf e g=>by rw[e,yj]
  rw[ha',hc']
  by_cases e54:(ix pl n).1=54
  ·rw[e54]at ho⊢
   have ho:(ah==0||ah==56)=true:=ho
   have hah2:ah=0\/ah=56:=by simpa using ho
   have hlast:last=[]:=by
    cases hl with
    |out h=>rfl
    |head f a h hb=>omega
    |shut f a h hf=>have:=zT h;omega
    |open_ f a bs k h _ _ _ _ _=>exact absurd (hah2.elim .inl λe=>.inr (.inr (.inr (.inl e)))) h
   subst hlast
   refine⟨done,[⟨(ix pl n).2.2.1,n,0,[],[]⟩],?_,hd',hpw,λf hf g hg=>?_,.head _ n (.inl rfl) ⟨rfl,by omega,e54⟩ rfl (Tile.nil pl n)⟩
   ·unfold cutS
    rw[if_pos e54,hc,List.append_nil]
   ·rw[List.mem_singleton.1 hg]
    exact(hd f hf).en_lt
  by_cases e55:(ix pl n).1=55
  ·have ho:(ah==54||ah==55)=true:=by rw[e55]at ho;exact ho
   have hah2:ah=54\/ah=55:=by simpa using ho
   obtain⟨f,a,rfl,hf,hb,T⟩:∃f a,last=[f]/\(f.at_=((a:Nat):Int)/\a<n/\(ix pl a).1=54)/\f.bk=[]/\Tile pl a n f.ps []:=by
    cases hl with
    |out h=>omega
    |head f a h hf hb T=>exact⟨f,a,rfl,hf,hb,T⟩
    |shut f a h hf=>have:=zT h;omega
    |open_ f a bs k h _ _ _ _ _=>exact absurd (hah2.elim (λe=>.inr (.inl e)) λe=>.inr (.inr (.inl e))) h
   rw[e55]
   refine⟨done,_,?_,hd',hpw,λg hg g' hg'=>?_,.head {f with ps:=f.ps++[(n:Int)]} a (.inr rfl) ⟨hf.1,by omega,hf.2.2⟩ hb (T.param hf.2.1 e55)⟩
   ·unfold cutS
    rw[if_neg e54,if_pos e55,hcS f hc]
   ·rw[List.mem_singleton.1 hg']
    exact hx g hg f (List.mem_singleton_self _)
  by_cases e248:(ix pl n).1=248
  ·have ho:(ah==54||ah==55||zZ ah)=true:=by rw[e248]at ho;exact ho
   have hin:¬((248:Int)=0\/(248:Int)=54\/(248:Int)=55\/(248:Int)=56\/zZ 248=true):=by decide
   obtain⟨f,a,rfl,hf,T⟩:∃f a,last=[f]/\(f.at_=((a:Nat):Int)/\a<n/\(ix pl a).1=54)/\Tile pl a n f.ps f.bk:=by
    cases hl with
    |out h=>rcases h with rfl |rfl<;>cases ho
    |head f a h hf hb T=>exact⟨f,a,rfl,hf,by rw[hb];exact T⟩
    |shut f a h hf T=>exact⟨f,a,rfl,hf,T⟩
    |open_ f a bs k h _ _ _ _ _=>
     refine absurd ?_ h
     rw[Bool.or_eq_true,Bool.or_eq_true,beq_iff_eq,beq_iff_eq]at ho
     rcases ho with(e |e) |e
     ·exact .inr (.inl e)
     ·exact .inr (.inr (.inl e))
     ·exact .inr (.inr (.inr (.inr e)))
   rw[e248]
   refine⟨done,_,?_,hd',hpw,λg hg g' hg'=>?_,.open_ {f with bk:=f.bk++[((ix pl n).2.2.1,(n:Int),0)]} a f.bk n hin hf (by omega) rfl T λi h1 h2=>absurd h1 (by omega)⟩
   ·unfold cutS
    rw[if_neg e54,if_neg e55,if_neg (by omega),if_pos e248,hcS f hc]
   ·rw[List.mem_singleton.1 hg']
    exact hx g hg f (List.mem_singleton_self _)
  by_cases e56:(ix pl n).1=56
  ·have ho:zZ ah=true:=by rw[e56]at ho;exact ho
   obtain⟨f,a,rfl,hf,T⟩:∃f a,last=[f]/\(f.at_=((a:Nat):Int)/\a<n/\(ix pl a).1=54)/\Tile pl a n f.ps f.bk:=by
    cases hl with
    |out h=>have:=zT ho;omega
    |head f a h hb=>have:=zT ho;omega
    |shut f a h hf T=>exact⟨f,a,rfl,hf,T⟩
    |open_ f a bs k h _ _ _ _ _=>exact absurd (.inr (.inr (.inr (.inr ho)))) h
   refine⟨done++[{f with en:=n}],[],?_,λg hg=>?_,Z9 hpw λy hy=>hx y hy f (List.mem_singleton_self _),λ_ _ _ h=>(by cases h),by rw[e56];exact .out (.inr rfl)⟩
   ·unfold cutS
    rw[if_neg e54,if_neg e55,if_pos e56,hcS f hc,List.append_nil]
   ·rcases List.mem_append.1 hg with hg |hg
    ·exact hd' g hg
    ·rw[List.mem_singleton.1 hg]
     exact⟨a,n,hf.1,rfl,hf.2.1,by omega,hf.2.2,e56,T⟩
  have hin:¬(ah=0\/ah=54\/ah=55\/ah=56\/zZ ah=true):=λhin=>by
   unfold Yx at ho
   rw[if_neg e54,if_neg e55,if_neg e248,if_neg e56,if_pos hin]at ho
   cases ho
  obtain⟨f,a,bs,k,rfl,hf,hk,hb,T,hnl⟩:∃f a bs k,last=[f]/\(f.at_=((a:Nat):Int)/\a<k/\(ix pl a).1=54)/\k<n/\f.bk=bs++[((ix pl k).2.2.1,(k:Int),0)]/\Tile pl a k f.ps bs/\∀i:Nat,k<i->i<n+1->(ix pl i).1≠248:=by
   cases hl with
   |out h=>exact absurd (h.elim .inl λe=>.inr (.inr (.inr (.inl e)))) hin
   |head f a h hf hb=>exact absurd (h.elim (λe=>.inr (.inl e)) λe=>.inr (.inr (.inl e))) hin
   |shut f a h hf=>exact absurd (.inr (.inr (.inr (.inr h)))) hin
   |open_ f a bs k h hf hk hb T hnl=>exact⟨f,a,bs,k,rfl,hf,hk,hb,T,λi h1 h2=>by
    by_cases e:i=n
    ·subst e;exact e248
    ·exact hnl i h1 (by omega)⟩
  by_cases ee:zZ (ix pl n).1=true
  ·refine⟨done,_,?_,hd',hpw,λg hg g' hg'=>?_,.shut {f with bk:=bs++[((ix pl k).2.2.1,(k:Int),(n:Int)+1)]} a ee ⟨hf.1,by omega,hf.2.2⟩ (T.block hf.2.1 hk hnl _)⟩
   ·unfold cutS
    rw[if_neg e54,if_neg e55,if_neg e56,if_neg e248,if_pos ee,hcS f hc]
    simp only[hb,yj]
   ·rw[List.mem_singleton.1 hg']
    exact hx g hg f (List.mem_singleton_self _)
  ·refine⟨done,[f],?_,hd',hpw,hx,.open_ f a bs k (λg=>?_) hf (by omega) hb T hnl⟩
   ·unfold cutS
    rw[if_neg e54,if_neg e55,if_neg e56,if_neg e248,if_neg ee,hc]
   ·rcases g with g |g |g |g |g
    ·exact hne g
    ·exact e54 g
    ·exact e55 g
    ·exact e56 g
    ·exact ee g
 ·have ha':zN pl (n+1)=0:=if_neg h8
  have h0:zN pl n=0:=by
   cases n with
   |zero=>rfl
   |succ m=>
    refine if_neg λe=>?_
    have:=zjS (pl:=pl) (n:=m+1+1) (hg.step hm) (i:=m) (j:=m+1) (by omega) (by omega)
    have:=zcj (ix pl (m+1))
    omega
  have hlast:last=[]:=by
   rw[h0]at hl
   cases hl with
   |out h=>rfl
   |head f a h hb=>omega
   |shut f a h hf=>have:=zT h;omega
   |open_ f a bs k h _ _ _ _ _=>exact absurd (.inl rfl) h
  subst hlast
  rw[ha',hc',zly (.inl h8),hc]
  exact⟨done,[],rfl,hd',hpw,hx,.out (.inl rfl)⟩
theorem zoj{pl:List PI}(hg:Z0 pl pl.length):∀n,n<=pl.length->CutT pl n
 | 0,_=>⟨[],[],rfl,λ_ h=>(by cases h),.nil,λ_ h=>(by cases h),.out (.inl rfl)⟩
 |n+1,h=>(zoj hg n (by omega)).step (hg n (by omega)) λk hk=>hg k (by omega)
theorem zqT{bd:Int}{pl:List PI}(h:(layP bd pl).1=0):(∀f∈cutF pl pl.length,FnT pl pl.length f)/\(cutF pl pl.length).Pairwise (λf g=>f.en<g.at_):=by
 obtain⟨_,hg,ho⟩:=zlE h
 obtain⟨done,last,hc,hd,hpw,_,hl⟩:=(zoj hg pl.length (Nat.le_refl _)).ex
 have hah:zN pl pl.length=0\/zN pl pl.length=56:=by
  cases hlen:pl.length with
  |zero=>exact .inl rfl
  |succ m=>
   by_cases h8:zx (ix pl m)=8
   ·right
    rw[zdv h8]
    unfold zaA at ho
    rw[hlen,Nat.add_sub_cancel]at ho
    simp only[h8,Bool.or_eq_false_iff]at ho
    have:=ho.2
    simpa using this
   ·exact .inl (if_neg h8)
 have hlast:last=[]:=by
  generalize zN pl pl.length=ah at hl hah
  cases hl with
  |out h=>rfl
  |head f a h hb=>omega
  |shut f a h hf=>have:=zT h;omega
  |open_ f a bs k h _ _ _ _ _=>exact absurd (hah.elim .inl λe=>.inr (.inr (.inr (.inl e)))) h
 subst hlast
 rw[hc,List.append_nil]
 exact⟨hd,hpw⟩
end Go.Proofs
namespace Go.Gr
inductive zS (nx:List (List Nat)) (wo:Int):Nat->Prop
 |zero:wo≠0->0<nx.length->zS nx wo 0
 |step {i t:Nat}:zS nx wo i->t∈nx.getD i []->(t:Int)≠wo->zS nx wo t
structure Clo (nx:List (List Nat)) (Q:Nat->Prop) (s s':List Nat×List Nat):Prop where
 came:∀x∈s.1,x∈s'.1
 closed:∀x∈s'.1,x∈s.1\/∀t∈nx.getD x [],t∈s'.1
 sound:∀x∈s'.1,x∈s.1\/Q x
theorem zr5{nx:List (List Nat)}(hnx:∀i,∀t∈nx.getD i [],t<nx.length){Q:Nat->Prop}(hQ:∀i,Q i->∀t∈nx.getD i [],Q t) :
  ∀(f i:Nat) (s:List Nat×List Nat),i<nx.length->s.1.Nodup->(∀x∈s.1,x<nx.length)->i ∉ s.1->nx.length<=s.1.length+f->Q i->Clo nx Q s (yw nx f i s)/\i∈(yw nx f i s).1:=by
 intro f
 induction f with
 |zero=>
  intro i s hi hnd hlt hni hf
  have:=zfs hnd hlt hi hni
  omega
 |succ f ih=>
  intro i s hi hnd hlt hni hf hq
  have hslt:=zfs hnd hlt hi hni
  have all:∀(l:List Nat) (s1:List Nat×List Nat),(∀t∈l,t<nx.length/\Q t)->s1.1.Nodup->(∀x∈s1.1,x<nx.length)->nx.length<=s1.1.length+f->Clo nx Q s1 (zJ nx f l s1)/\∀t∈l,t∈(zJ nx f l s1).1:=by
   intro l
   induction l with
   |nil=>intro s1 _ _ _ _;exact⟨⟨λ_ h=>h,λ_ h=>.inl h,λ_ h=>.inl h⟩,by simp⟩
   |cons t r ihl=>
    intro s1 hl h1 h2 h3
    have e:zJ nx f (t::r) s1=zJ nx f r (if s1.1.contains t then s1 else yw nx f t s1):=rfl
    rw[e]
    have ht:=hl t (by simp)
    by_cases hc:t∈s1.1
    ·rw[if_pos (by simpa using hc)]
     obtain⟨g1,g2⟩:=ihl s1 (λu hu=>hl u (by simp[hu])) h1 h2 h3
     refine⟨g1,λu hu=>?_⟩
     rcases List.mem_cons.1 hu with rfl |hu
     ·exact g1.came _ hc
     ·exact g2 u hu
    ·rw[if_neg (by simpa using hc)]
     obtain⟨v1,v2⟩:=ih t s1 ht.1 h1 h2 hc h3 ht.2
     have hv:=zfO hnx f t s1 ht.1 h1 h2 hc
     have hm:s1.1.length<=(yw nx f t s1).1.length:=by obtain⟨l,e⟩:=hv.more;rw[e];simp
     obtain⟨g1,g2⟩:=ihl (yw nx f t s1) (λu hu=>hl u (by simp[hu])) hv.nodup hv.lt (by omega)
     refine⟨⟨λx hx=>g1.came x (v1.came x hx),λx hx=>?_,λx hx=>?_⟩,λu hu=>?_⟩
     ·rcases g1.closed x hx with h |h
      ·rcases v1.closed x h with h |h
       ·exact .inl h
       ·exact .inr λu hu=>g1.came u (h u hu)
      ·exact .inr h
     ·rcases g1.sound x hx with h |h
      ·exact v1.sound x h
      ·exact .inr h
     ·rcases List.mem_cons.1 hu with rfl |hu
      ·exact g1.came _ v2
      ·exact g2 u hu
  rw[zdC]
  have hb:(s.1++[i]).Nodup:=by
   rw[List.nodup_append]
   exact⟨hnd,by simp,λx hx y hy=>by simp at hy;subst hy;intro e;subst e;exact hni hx⟩
  obtain⟨a1,a2⟩:=all (nx.getD i []) (s.1++[i],s.2) (λt ht=>⟨hnx i t ht,hQ i hq t ht⟩) hb (λx hx=>by
   rcases List.mem_append.1 hx with h |h
   ·exact hlt x h
   ·simp at h;subst h;exact hi) (by simp;omega)
  refine⟨⟨λx hx=>a1.came x (List.mem_append.2 (.inl hx)),λx hx=>?_,λx hx=>?_⟩,a1.came i (by simp)⟩
  ·rcases a1.closed x hx with h |h
   ·rcases List.mem_append.1 h with h |h
    ·exact .inl h
    ·simp at h;subst h;exact .inr a2
   ·exact .inr h
  ·rcases a1.sound x hx with h |h
   ·rcases List.mem_append.1 h with h |h
    ·exact .inl h
    ·simp at h;subst h;exact .inr hq
   ·exact .inr h
theorem zfP{nx:List (List Nat)}(hnx:∀i,∀t∈nx.getD i [],t<nx.length)(h0:0<nx.length)(j:Nat):j∈yK nx↔zS nx (-1) j:=by
 obtain⟨c,c0⟩:=zr5 hnx (Q:=zS nx (-1)) (λi hi t ht=>.step hi ht (by omega)) nx.length 0 ([],[]) h0 (by simp) (by simp) (by simp) (by simp) (.zero (by decide) h0)
 constructor
 ·intro h
  rcases c.sound j h with h |h
  ·cases h
  ·exact h
 ·intro h
  induction h with
  |zero=>exact c0
  |step _ ht _ ih=>
   rcases c.closed _ ih with h |h
   ·cases h
   ·exact h _ ht
end Go.Gr
namespace Go.Gr
def Pe(nx:List (List Nat))(l:List Nat):Prop:=∀a b x,l=a++x::b->a=[]\/∃y∈a,x∈nx.getD y []
def Pl(nx:List (List Nat))(m:List Nat):Prop:=∀a b x,m=a++x::b->b=[]\/∃y∈b,x∈nx.getD y []
theorem zrr{a b:List Nat}(h:(a++b).Nodup):a.Nodup/\b.Nodup/\∀x∈a,x ∉ b:=by
 rw[List.nodup_append]at h
 exact⟨h.1,h.2.1,λx hx hy=>h.2.2 x hx x hy rfl⟩
theorem zr6{nx:List (List Nat)}(hnx:∀i,∀t∈nx.getD i [],t<nx.length) :
  ∀(f i:Nat) (s:List Nat×List Nat),i<nx.length->s.1.Nodup->(∀x∈s.1,x<nx.length)->i ∉ s.1->nx.length<=s.1.length+f->
   ∃l m,(yw nx f i s).1=s.1++i::l/\(yw nx f i s).2=s.2++(m++[i])/\(∀x,x∈m↔x∈l)/\m.Nodup/\Pe nx (i::l)/\Pl nx (m++[i]):=by
 intro f
 induction f with
 |zero=>
  intro i s hi hnd hlt hni hf
  have:=zfs hnd hlt hi hni
  omega
 |succ f ih=>
  intro i s hi hnd hlt hni hf
  have hslt:=zfs hnd hlt hi hni
  have all:∀(r:List Nat) (s1:List Nat×List Nat),(∀t∈r,t<nx.length/\t∈nx.getD i [])->s1.1.Nodup->(∀x∈s1.1,x<nx.length)->nx.length<=s1.1.length+f->
    (∃l m,s1.1=s.1++i::l/\s1.2=s.2++m/\(∀x,x∈m↔x∈l)/\m.Nodup/\Pe nx (i::l)/\∀a b x,m=a++x::b->(∃y∈b,x∈nx.getD y [])\/x∈nx.getD i [])->
    ∃l m,(zJ nx f r s1).1=s.1++i::l/\(zJ nx f r s1).2=s.2++m/\(∀x,x∈m↔x∈l)/\m.Nodup/\Pe nx (i::l)/\∀a b x,m=a++x::b->(∃y∈b,x∈nx.getD y [])\/x∈nx.getD i []:=by
   intro r
   induction r with
   |nil=>intro s1 _ _ _ _ h;exact h
   |cons t r ihl=>
    intro s1 hl h1 h2 h3 h
    have e:zJ nx f (t::r) s1=zJ nx f r (if s1.1.contains t then s1 else yw nx f t s1):=rfl
    rw[e]
    have ht:=hl t (by simp)
    by_cases hc:t∈s1.1
    ·rw[if_pos (by simpa using hc)]
     exact ihl s1 (λu hu=>hl u (by simp[hu])) h1 h2 h3 h
    ·rw[if_neg (by simpa using hc)]
     obtain⟨l2,m2,v1,v2,v3,v4,v5,v6⟩:=ih t s1 ht.1 h1 h2 hc h3
     have hv:=zfO hnx f t s1 ht.1 h1 h2 hc
     have hm:s1.1.length<=(yw nx f t s1).1.length:=by obtain⟨l,e⟩:=hv.more;rw[e];simp
     refine ihl (yw nx f t s1) (λu hu=>hl u (by simp[hu])) hv.nodup hv.lt (by omega) ?_
     obtain⟨l,m,g1,g2,g3,g4,g5,g6⟩:=h
     have hnd':=hv.nodup
     rw[v1,g1]at hnd'
     obtain⟨_,n2,n3⟩:=zrr hnd'
     have n2':=List.nodup_cons.1 n2
     refine⟨l++t::l2,m++(m2++[t]),by rw[v1,g1];simp,by rw[v2,g2];simp,λx=>?_,?_,?_,?_⟩
     ·simp only[List.mem_append,List.mem_cons,List.not_mem_nil,or_false,g3 x,v3 x]
      constructor<;>(rintro(h |h |h)<;>simp[h])
     ·rw[List.nodup_append]
      refine⟨g4,?_,λx hx y hy=>?_⟩
      ·rw[List.nodup_append]
       exact⟨v4,by simp,λx hx y hy=>by
        simp at hy;subst hy
        intro e;subst e
        exact n2'.1 ((v3 _).1 hx)⟩
      ·intro e;subst e
       refine n3 x (by simp[(g3 x).1 hx]) ?_
       rcases List.mem_append.1 hy with hy |hy
       ·exact List.mem_cons_of_mem _ ((v3 x).1 hy)
       ·simp at hy;subst hy;exact List.mem_cons_self ..
     ·intro a b x hx
      have hx:(i::l)++(t::l2)=a++x::b:=by simpa using hx
      rcases List.append_eq_append_iff.1 hx with⟨a',ha,hb⟩ | ⟨c',ha,hb⟩
      ·rcases v5 a' b x hb with e | ⟨y,hy,hxy⟩
       ·subst e
        simp at hb
        exact .inr ⟨i,by rw[ha];simp,by rw[<-hb.1];exact ht.2⟩
       ·exact .inr ⟨y,by rw[ha];simp[hy],hxy⟩
      ·cases c' with
       |nil=>
        simp at hb ha
        exact .inr ⟨i,by rw[<-ha];simp,by rw[hb.1];exact ht.2⟩
       |cons z c'=>
        simp at hb
        rw[<-hb.1]at ha
        exact g5 a c' x ha
     ·intro a b x hx
      rcases List.append_eq_append_iff.1 hx with⟨a',ha,hb⟩ | ⟨c',ha,hb⟩
      ·rcases v6 a' b x hb with e |h
       ·subst e
        have:x=t:=by have:=congrArg List.getLast? hb;simpa using this.symm
        subst this
        exact .inr ht.2
       ·exact .inl h
      ·cases c' with
       |nil=>
        simp at hb
        rcases v6 [] b x (by simp[hb]) with e |h
        ·subst e
         have:x=t:=by
          have:=congrArg List.getLast? hb
          simpa using this
         subst this
         exact .inr ht.2
        ·exact .inl h
       |cons z c'=>
        simp at hb
        obtain⟨rfl,rfl⟩:=hb
        rcases g6 a c' x ha with⟨y,hy,hxy⟩ |h
        ·exact .inl ⟨y,by simp[hy],hxy⟩
        ·exact .inr h
  have hb:(s.1++[i]).Nodup:=by
   rw[List.nodup_append]
   exact⟨hnd,by simp,λx hx y hy=>by simp at hy;subst hy;intro e;subst e;exact hni hx⟩
  rw[zdC]
  obtain⟨l,m,g1,g2,g3,g4,g5,g6⟩:=all (nx.getD i []) (s.1++[i],s.2) (λt ht=>⟨hnx i t ht,ht⟩) hb (λx hx=>by
   rcases List.mem_append.1 hx with h |h
   ·exact hlt x h
   ·simp at h;subst h;exact hi) (by simp;omega)
   ⟨[],[],by simp,by simp,by simp,by simp,λa b x hx=>by
    cases a with
    |nil=>exact .inl rfl
    |cons _ a=>simp at hx,λa b x hx=>by simp at hx⟩
  refine⟨l,m,g1,by rw[g2];simp,g3,g4,g5,λa b x hx=>?_⟩
  rcases List.append_eq_append_iff.1 hx with⟨a',ha,hb⟩ | ⟨c',ha,hb⟩
  ·cases a' with
   |nil=>simp at hb;exact .inl hb.2
   |cons z a'=>simp at hb
  ·cases c' with
   |nil=>simp at hb;exact .inl hb.2
   |cons z c'=>
    simp at hb
    obtain⟨rfl,rfl⟩:=hb
    rcases g6 a c' x ha with⟨y,hy,hxy⟩ |h
    ·exact .inr ⟨y,by simp[hy],hxy⟩
    ·exact .inr ⟨i,by simp,h⟩
end Go.Gr
namespace Go.Proofs
open Go.Gk Go.RowKit Go.Gr
structure ztI (nx:List (List Nat)):Prop where
 head:∃l,yK nx=0::l
 par:∀k (hk:k<(yK nx).length),0<k->∃j,∃hj:j<k,(yK nx)[k]∈nx.getD ((yK nx)[j]'(by omega)) []
 ohead:∃l,zC nx=0::l
 mem:∀x,x∈zC nx↔x∈yK nx
 nodup:(zC nx).Nodup
 opar:∀k (hk:k<(zC nx).length),0<k->∃j,∃hj:j<k,(zC nx)[k]∈nx.getD ((zC nx)[j]'(by omega)) []
 closed:∀x∈yK nx,∀t∈nx.getD x [],t∈yK nx
theorem _root_.Go.Proofs.NxOk.walkOk{nx:List (List Nat)}(h:NxOk nx):ztI nx:=by
 obtain⟨l,m,g1,g2,g3,g4,g5,g6⟩:=zr6 h.rows nx.length 0 ([],[]) h.pos (by simp) (by simp) (by simp) (by simp)
 have hw:yK nx=0::l:=by simpa[yK] using g1
 have ho:zC nx=0::m.reverse:=by simp[zC,g2]
 have hnd:=h.came.nodup
 have hw':(0::l).Nodup:=by rw[<-hw];exact hnd
 have hmem:∀x,x∈zC nx↔x∈yK nx:=λx=>by rw[ho,hw];simp[g3 x]
 refine⟨⟨l,hw⟩,λk hk h0=>?_,⟨_,ho⟩,hmem,?_,λk hk h0=>?_,λx hx t ht=>?_⟩
 ·have hk':k<(0::l).length:=by rw[<-hw];exact hk
  have e:(0::l)=(0::l).take k++(0::l)[k]::(0::l).drop (k+1):=by rw[<-List.drop_eq_getElem_cons hk',List.take_append_drop]
  rcases g5 _ _ _ e with e | ⟨y,hy,hxy⟩
  ·have:=congrArg List.length e;simp at this;omega
  ·obtain⟨j,hj,rfl⟩:=List.mem_iff_getElem.1 hy
   have hjk:j<k:=by rw[List.length_take]at hj;omega
   refine⟨j,hjk,?_⟩
   rw[List.getElem_take]at hxy
   simp only[hw]
   exact hxy
 ·rw[ho,List.nodup_cons]
  refine⟨λhx=>?_,List.pairwise_reverse.2 (g4.imp λh=>h.symm)⟩
  have:=(g3 0).1 (List.mem_reverse.1 hx)
  exact(List.nodup_cons.1 hw').1 this
 ·have ho':zC nx=(m++[0]).reverse:=by simp[ho]
  obtain⟨q,hq⟩:∃q,q=m++[0]:=⟨_,rfl⟩
  rw[<-hq]at g6 ho'
  have hl:(zC nx).length=q.length:=by rw[ho'];simp
  have hk2:q.length-1-k<q.length:=by omega
  have e:q=q.take (q.length-1-k)++q[q.length-1-k]::q.drop (q.length-1-k+1):=by rw[<-List.drop_eq_getElem_cons hk2,List.take_append_drop]
  have ek:∀j (hj:j<(zC nx).length),(zC nx)[j]=q[q.length-1-j]'(by omega):=λj hj=>by simp only[ho',List.getElem_reverse]
  rcases g6 _ _ _ e with e | ⟨y,hy,hxy⟩
  ·have:=congrArg List.length e;simp at this;omega
  ·obtain⟨j,hj,rfl⟩:=List.mem_iff_getElem.1 hy
   rw[List.length_drop]at hj
   rw[List.getElem_drop]at hxy
   refine⟨q.length-1-(q.length-1-k+1+j),by omega,?_⟩
   rw[ek k hk,ek _ (by omega)]
   have e9:q.length-1-(q.length-1-(q.length-1-k+1+j))=q.length-1-k+1+j:=by omega
   simp only[e9]
   exact hxy
 ·exact(zfP h.rows h.pos t).2 (.step ((zfP h.rows h.pos x).1 hx) ht (by omega))
end Go.Proofs
namespace Go.Proofs
open Go.Gk
set_option linter.unusedVariables false
set_option maxRecDepth 100000
def zmv:Ann:=(.q (.seq none Z10 (.q (.seq (some ⟨[0],[(5,(.b .ptr))]⟩) .nil (.q (.seq none (.q (.one (.loop ⟨[5,6,28,29],[(30,(.b (.int .i64)))]⟩ Z15))) (.q (.seq none (.q (.one (.loop ⟨[5,46,47],[(48,(.b (.int .i64)))]⟩ (.q (.seq none .c (.seq (some ⟨[5,46,47,48],[]⟩) (.one (.q (.q Z13))) .nil)))))) Z11))))))))
def zjD(p0:Option Addr)(R:VWP)(w:World):Prop:=ifB (Option.isNone p0) (R (.tuple #[.pointer none,zi 1]) w) (dl 15 #[.pointer p0] w λx2 w1=>zl (S:=(Option Addr)×Unit) (λm3=>(Nw (w1.drew.alloc (.cells #[zi (-1:Int)] 3)) λw2=>(dk 93 #[.slice (some (blk w1.drew.heap.size)) 1 1,zi x2] w2 λx6 w3=>(Nw (w3.alloc (.cells #[zi (-1:Int)] 3)) λw4=>(dk 93 #[.slice (some (zB w3)) 1 1,zi x2] w4 λx8 w5=>(0<=x2/\x2<=x2/\8*x2<=281474976710656/\x2<=9223372036854775807)/\Nw (w5.alloc (.cells (madeCells #[zi 0] (x2.toNat *1)) 3)) λw6=>Nw (w6.alloc (.cells #[.pointer p0,x6.zw,x8.zw,.slice (some (zB w5)) x2.toNat x2.toNat] 168)) λw7=>m3 ((some (zB w6)),()) w7)/\(0<=x2/\x2<=x2/\8*x2<=281474976710656/\x2<=9223372036854775807)/\Nw (w4.alloc (.cells (madeCells #[zi 0] (x2.toNat *1)) 3)) λw8=>dk 93 #[.slice (some (zB w3)) 1 1,zi x2] w8 λx10 w9=>Nw (w9.alloc (.cells #[.pointer p0,x6.zw,x10.zw,.slice (some (zB w4)) x2.toNat x2.toNat] 168)) λw10=>m3 ((some (zB w9)),()) w10)/\(0<=x2/\x2<=x2/\8*x2<=281474976710656/\x2<=9223372036854775807)/\Nw (w3.alloc (.cells (madeCells #[zi 0] (x2.toNat *1)) 3)) λw11=>Nw (w11.alloc (.cells #[zi (-1:Int)] 3)) λw12=>dk 93 #[.slice (some (zB w11)) 1 1,zi x2] w12 λx12 w13=>Nw (w13.alloc (.cells #[.pointer p0,x6.zw,x12.zw,.slice (some (zB w3)) x2.toNat x2.toNat] 168)) λw14=>m3 ((some (zB w13)),()) w14)/\(Nw (w2.alloc (.cells #[zi (-1:Int)] 3)) λw15=>(dk 93 #[.slice (some (blk w1.drew.heap.size)) 1 1,zi x2] w15 λx14 w16=>(dk 93 #[.slice (some (zB w2)) 1 1,zi x2] w16 λx16 w17=>(0<=x2/\x2<=x2/\8*x2<=281474976710656/\x2<=9223372036854775807)/\Nw (w17.alloc (.cells (madeCells #[zi 0] (x2.toNat *1)) 3)) λw18=>Nw (w18.alloc (.cells #[.pointer p0,x14.zw,x16.zw,.slice (some (zB w17)) x2.toNat x2.toNat] 168)) λw19=>m3 ((some (zB w18)),()) w19)/\(0<=x2/\x2<=x2/\8*x2<=281474976710656/\x2<=9223372036854775807)/\Nw (w16.alloc (.cells (madeCells #[zi 0] (x2.toNat *1)) 3)) λw20=>dk 93 #[.slice (some (zB w2)) 1 1,zi x2] w20 λx18 w21=>Nw (w21.alloc (.cells #[.pointer p0,x14.zw,x18.zw,.slice (some (zB w16)) x2.toNat x2.toNat] 168)) λw22=>m3 ((some (zB w21)),()) w22)/\(0<=x2/\x2<=x2/\8*x2<=281474976710656/\x2<=9223372036854775807)/\Nw (w15.alloc (.cells (madeCells #[zi 0] (x2.toNat *1)) 3)) λw23=>dk 93 #[.slice (some (blk w1.drew.heap.size)) 1 1,zi x2] w23 λx20 w24=>dk 93 #[.slice (some (zB w2)) 1 1,zi x2] w24 λx22 w25=>Nw (w25.alloc (.cells #[.pointer p0,x20.zw,x22.zw,.slice (some (zB w15)) x2.toNat x2.toNat] 168)) λw26=>m3 ((some (zB w25)),()) w26)/\(0<=x2/\x2<=x2/\8*x2<=281474976710656/\x2<=9223372036854775807)/\Nw (w2.alloc (.cells (madeCells #[zi 0] (x2.toNat *1)) 3)) λw27=>(dk 93 #[.slice (some (blk w1.drew.heap.size)) 1 1,zi x2] w27 λx24 w28=>Nw (w28.alloc (.cells #[zi (-1:Int)] 3)) λw29=>dk 93 #[.slice (some (zB w28)) 1 1,zi x2] w29 λx26 w30=>Nw (w30.alloc (.cells #[.pointer p0,x24.zw,x26.zw,.slice (some (zB w2)) x2.toNat x2.toNat] 168)) λw31=>m3 ((some (zB w30)),()) w31)/\Nw (w27.alloc (.cells #[zi (-1:Int)] 3)) λw32=>dk 93 #[.slice (some (blk w1.drew.heap.size)) 1 1,zi x2] w32 λx28 w33=>dk 93 #[.slice (some (zB w27)) 1 1,zi x2] w33 λx30 w34=>Nw (w34.alloc (.cells #[.pointer p0,x28.zw,x30.zw,.slice (some (zB w2)) x2.toNat x2.toNat] 168)) λw35=>m3 ((some (zB w34)),()) w35)/\(Nw (w1.drew.alloc (.cells #[zi (-1:Int)] 3)) λw36=>(Nw (w36.alloc (.cells #[zi (-1:Int)] 3)) λw37=>(dk 93 #[.slice (some (zB w36)) 1 1,zi x2] w37 λx32 w38=>(dk 93 #[.slice (some (blk w1.drew.heap.size)) 1 1,zi x2] w38 λx34 w39=>(0<=x2/\x2<=x2/\8*x2<=281474976710656/\x2<=9223372036854775807)/\Nw (w39.alloc (.cells (madeCells #[zi 0] (x2.toNat *1)) 3)) λw40=>Nw (w40.alloc (.cells #[.pointer p0,x32.zw,x34.zw,.slice (some (zB w39)) x2.toNat x2.toNat] 168)) λw41=>m3 ((some (zB w40)),()) w41)/\(0<=x2/\x2<=x2/\8*x2<=281474976710656/\x2<=9223372036854775807)/\Nw (w38.alloc (.cells (madeCells #[zi 0] (x2.toNat *1)) 3)) λw42=>dk 93 #[.slice (some (blk w1.drew.heap.size)) 1 1,zi x2] w42 λx36 w43=>Nw (w43.alloc (.cells #[.pointer p0,x32.zw,x36.zw,.slice (some (zB w38)) x2.toNat x2.toNat] 168)) λw44=>m3 ((some (zB w43)),()) w44)/\(0<=x2/\x2<=x2/\8*x2<=281474976710656/\x2<=9223372036854775807)/\Nw (w37.alloc (.cells (madeCells #[zi 0] (x2.toNat *1)) 3)) λw45=>dk 93 #[.slice (some (zB w36)) 1 1,zi x2] w45 λx38 w46=>dk 93 #[.slice (some (blk w1.drew.heap.size)) 1 1,zi x2] w46 λx40 w47=>Nw (w47.alloc (.cells #[.pointer p0,x38.zw,x40.zw,.slice (some (zB w37)) x2.toNat x2.toNat] 168)) λw48=>m3 ((some (zB w47)),()) w48)/\(0<=x2/\x2<=x2/\8*x2<=281474976710656/\x2<=9223372036854775807)/\Nw (w36.alloc (.cells (madeCells #[zi 0] (x2.toNat *1)) 3)) λw49=>Nw (w49.alloc (.cells #[zi (-1:Int)] 3)) λw50=>dk 93 #[.slice (some (zB w49)) 1 1,zi x2] w50 λx42 w51=>dk 93 #[.slice (some (blk w1.drew.heap.size)) 1 1,zi x2] w51 λx44 w52=>Nw (w52.alloc (.cells #[.pointer p0,x42.zw,x44.zw,.slice (some (zB w36)) x2.toNat x2.toNat] 168)) λw53=>m3 ((some (zB w52)),()) w53)/\(0<=x2/\x2<=x2/\8*x2<=281474976710656/\x2<=9223372036854775807)/\Nw (w1.drew.alloc (.cells (madeCells #[zi 0] (x2.toNat *1)) 3)) λw54=>(Nw (w54.alloc (.cells #[zi (-1:Int)] 3)) λw55=>(dk 93 #[.slice (some (zB w54)) 1 1,zi x2] w55 λx46 w56=>Nw (w56.alloc (.cells #[zi (-1:Int)] 3)) λw57=>dk 93 #[.slice (some (zB w56)) 1 1,zi x2] w57 λx48 w58=>Nw (w58.alloc (.cells #[.pointer p0,x46.zw,x48.zw,.slice (some (blk w1.drew.heap.size)) x2.toNat x2.toNat] 168)) λw59=>m3 ((some (zB w58)),()) w59)/\Nw (w55.alloc (.cells #[zi (-1:Int)] 3)) λw60=>dk 93 #[.slice (some (zB w54)) 1 1,zi x2] w60 λx50 w61=>dk 93 #[.slice (some (zB w55)) 1 1,zi x2] w61 λx52 w62=>Nw (w62.alloc (.cells #[.pointer p0,x50.zw,x52.zw,.slice (some (blk w1.drew.heap.size)) x2.toNat x2.toNat] 168)) λw63=>m3 ((some (zB w62)),()) w63)/\Nw (w54.alloc (.cells #[zi (-1:Int)] 3)) λw64=>Nw (w64.alloc (.cells #[zi (-1:Int)] 3)) λw65=>dk 93 #[.slice (some (zB w64)) 1 1,zi x2] w65 λx54 w66=>dk 93 #[.slice (some (zB w54)) 1 1,zi x2] w66 λx56 w67=>Nw (w67.alloc (.cells #[.pointer p0,x54.zw,x56.zw,.slice (some (blk w1.drew.heap.size)) x2.toNat x2.toNat] 168)) λw68=>m3 ((some (zB w67)),()) w68) (λs4 w69=>dk 94 #[.pointer p0] w69 λx58 w70=>zk (S:=Int×Unit) (λs59 w71 n60=>ifB (decide (s59.1<(x58.l:Int))) ((0<=s59.1/\s59.1<(x58.l:Int))/\zc x58.a λa61=>ldI w71 (a61.add s59.1.toNat) .i64 λx62=>zc s4.1 λa63=>ldS w71 (a63.add 3) λx64=>(0<=x62/\x62<(x64.l:Int))/\zc x64.a λa65=>Wr w71 (a65.add x62.toNat)/\Nw (w71.setCell (a65.add x62.toNat) (zi s59.1)) λw72=>n60 ((IntKind.i64.wrap (s59.1+(1:Int))),()) w72) (cR 95 #[.pointer s4.1,x58.zw] w71 λv66 w73=>v66=(.tuple #[])/\zk (S:=Int×Unit) (λs67 w74 n68=>ifB (decide (s67.1<(x58.l:Int))) (zl (S:=Unit) (λm69=>(0<=s67.1/\s67.1<(x58.l:Int))/\zc x58.a λa71=>ldI w74 (a71.add s67.1.toNat) .i64 λx72=>zc s4.1 λa73=>ldS w74 (a73.add 2) λx74=>(0<=x72/\x72<(x74.l:Int))/\zc x74.a λa75=>Wr w74 (a75.add x72.toNat)/\Nw (w74.setCell (a75.add x72.toNat) (zi 0)) λw75=>zc s4.1 λa76=>ldS w75 (a76.add 1) λx77=>(0<=x72/\x72<(x77.l:Int))/\zc x77.a λa78=>ldI w75 (a78.add x72.toNat) .i64 λx79=>ifB (x79 !=(-1:Int)) (zc s4.1 λa80=>ldS w75.drew (a80.add 2) λx81=>zc s4.1 λa82=>ldS w75.drew (a82.add 2) λx83=>zc s4.1 λa84=>ldS w75.drew (a84.add 1) λx85=>(0<=x72/\x72<(x85.l:Int))/\zc x85.a λa86=>ldI w75.drew (a86.add x72.toNat) .i64 λx87=>(0<=x87/\x87<(x83.l:Int))/\zc x83.a λa88=>ldI w75.drew (a88.add x87.toNat) .i64 λx89=>(0<=x72/\x72<(x81.l:Int))/\zc x81.a λa90=>Wr w75.drew (a90.add x72.toNat)/\Nw (w75.drew.setCell (a90.add x72.toNat) (zi (IntKind.i64.wrap (x89+(1:Int))))) λw76=>m69 () w76) (m69 () w75)) (λs70 w77=>n68 ((IntKind.i64.wrap (s67.1+(1:Int))),()) w77)) (R (.tuple #[.pointer s4.1,zi 0]) w74)) (0,()) w73)) (0,()) w70))
theorem zmf(p0)(R)(w)(h:zjD p0 R w):cC 57 #[.pointer p0] w R:=lwC zmv Tryz.func57 h
def zeh:Ann:=(.one (.q (.one (.loop ⟨[0,1],[]⟩ (.one (.seq none (.q (.one (.loop ⟨[0,1,9,10],[(11,(.b (.int .i64)))]⟩ (.q (.seq none .c (.seq (some ⟨[0,1,9,10,11],[]⟩) (.one (.q (.seq none Z13 (.q (.seq none (.q (.one (.loop ⟨[0,1,5,9,10,11,22,23],[(6,(.b (.int .i64))),(24,(.b (.int .i64)))]⟩ (.q (.seq none .c (.seq (some ⟨[0,1,5,9,10,11,22,23,24],[(6,(.b (.int .i64)))]⟩) (.one (.q (.seq (some ⟨[0,1,5,6,8,9,10,11,22,23,24],[]⟩) Z13 Z13))) .nil)))))) Z10))))) .nil)))))) .nil))))))
def zap(p0:Option Addr)(p1:Sl)(R:VWP)(w:World):Prop:=zk (S:=Unit) (λs1 w1 n2=>zk (S:=Int×Unit) (λs3 w2 n4=>ifB (decide (s3.1<(p1.l:Int))) (zl (S:=Unit) (λm5=>(0<=s3.1/\s3.1<(p1.l:Int))/\zc p1.a λa7=>ldI w2 (a7.add s3.1.toNat) .i64 λx8=>ifB (x8==0) (m5 () w2) (zc p0 λa9=>ldP w2 a9 λx10=>dk 17 #[.pointer x10,zi x8] w2 λx12 w3=>zk (S:=Int×Int×Unit) (λs13 w4 n14=>ifB (decide (s13.2.1<(x12.l:Int))) (zl (S:=Int×Unit) (λm15=>(0<=s13.2.1/\s13.2.1<(x12.l:Int))/\zc x12.a λa17=>ldI w4 (a17.add s13.2.1.toNat) .i64 λx18=>zl (S:=Unit) (λm19=>ifB (x18 !=0) (zc p0 λa21=>ldS w4 (a21.add 1) λx22=>(0<=x18/\x18<(x22.l:Int))/\zc x22.a λa23=>ldI w4 (a23.add x18.toNat) .i64 λx24=>ifB (x24==(-1:Int)) (m15 (s13.1,()) w4) (m19 () w4)) (m19 () w4)) (λs20 w5=>ifB (s13.1==(-1:Int)) (m15 (x18,()) w5) (dl 123 #[.pointer p0,zi s13.1,zi x18] w5 λx26 w6=>m15 (x26,()) w6))) (λs16 w7=>n14 (s16.1,(IntKind.i64.wrap (s13.2.1+(1:Int))),()) w7)) (zc p0 λa27=>ldS w4 (a27.add 1) λx28=>(0<=x8/\x8<(x28.l:Int))/\zc x28.a λa29=>ldI w4 (a29.add x8.toNat) .i64 λx30=>ifB (s13.1 !=x30) (zc p0 λa31=>ldS w4 (a31.add 1) λx32=>(0<=x8/\x8<(x32.l:Int))/\zc x32.a λa33=>Wr w4 (a33.add x8.toNat)/\Nw (w4.setCell (a33.add x8.toNat) (zi s13.1)) λw8=>n2 () w8) (m5 () w4))) ((-1:Int),0,()) w3)) (λs6 w9=>n4 ((IntKind.i64.wrap (s3.1+(1:Int))),()) w9)) (R (.tuple #[]) w2)) (0,()) w1) () w
theorem zg2(p0)(p1)(R)(w)(h:zap p0 p1 R w):cC 95 #[.pointer p0,.slice p1.a p1.l p1.c] w R:=lwC zeh Tryz.func95 h
def zgi:Ann:=(.q (.seq none (.one (.loop ⟨[0],[(1,(.b (.int .i64))),(2,(.b (.int .i64)))]⟩ (.seq none Z13 (.one (.seq (some ⟨[0],[(1,(.b (.int .i64))),(2,(.b (.int .i64)))]⟩) Z13 .nil))))) Z11))
def zfX(p0:Option Addr)(p1:Int)(p2:Int)(R:VWP)(w:World):Prop:=zk (S:=Int×Int×Unit) (λs1 w1 n2=>ifB (s1.1 !=s1.2.1) (zl (S:=Int×Int×Unit) (λm3=>zc p0 λa5=>ldS w1.drew (a5.add 3) λx6=>(0<=s1.1/\s1.1<(x6.l:Int))/\zc x6.a λa7=>ldI w1.drew (a7.add s1.1.toNat) .i64 λx8=>zc p0 λa9=>ldS w1.drew (a9.add 3) λx10=>(0<=s1.2.1/\s1.2.1<(x10.l:Int))/\zc x10.a λa11=>ldI w1.drew (a11.add s1.2.1.toNat) .i64 λx12=>ifB (decide (x8<x12)) (m3 (s1.2.1,s1.1,()) w1.drew) (m3 (s1.1,s1.2.1,()) w1.drew)) (λs4 w2=>zc p0 λa13=>ldS w2 (a13.add 1) λx14=>(0<=s4.1/\s4.1<(x14.l:Int))/\zc x14.a λa15=>ldI w2 (a15.add s4.1.toNat) .i64 λx16=>n2 (x16,s4.2.1,()) w2)) (R (zi s1.1) w1)) (p1,p2,()) w
theorem zh3(p0)(p1)(p2)(R)(w)(h:zfX p0 p1 p2 R w):cC 123 #[.pointer p0,.int .i64 p1,.int .i64 p2] w R:=lwC zgi Tryz.func123 h
def zbK:Ann:=(.q (.seq none (.q (.one (.loop ⟨[],[(11,(.b (.int .i64)))]⟩ (.q Z1L)))) Z11))
def ZM(p0:Option Addr)(p1:Int)(p2:Int)(R:VWP)(w:World):Prop:=Nw (w.alloc (.cells #[zi p1] 3)) λw1=>Nw (w1.alloc (.cells #[.bool false] 4)) λw2=>dQ 191 #[.pointer p0,zi p2] w2 λx2 w3=>zik Tryz.prog Tryz.fs x2 w3 (T:=Int×Unit) (λs3=>[(zi s3.1)]) (λmk4 l5 s3 w4 S6=>w4.heap[l5]? =some (mk4 .ready none)/\Nw (w4.putObj l5 (mk4 .busy none)) λw5=>ldI w5 (zB w) .i64 λx8=>ifB (s3.1==x8) (Wr w5 (zB w1)/\Nw (w5.setCell (zB w1) (.bool true)) λw6=>w6.heap[l5]? =some (mk4 .busy none)/\S6 (.bool false) (w6.putObj l5 (mk4 .done (some .ret)))) (w5.heap[l5]? =some (mk4 .busy none)/\S6 (.bool true) (w5.putObj l5 (mk4 .ready none)))) (λmk4 l5 d7 w7=>(yJ mk4 l5 .ready none w7 λw8=>Wr w8 (zB w1)/\Nw (w8.setCell (zB w1) (.bool false)) λw9=>za4 (d7::[]) w9 λw10=>ldB w10 (zB w1) λx9=>R (.bool x9) w10)\/(yJ mk4 l5 .done (some .ret) w7 λw11=>za4 (d7::[]) w11 λw12=>ldB w12 (zB w1) λx10=>R (.bool x10) w12))
theorem zey(p0:Option Addr)(p1:Int)(p2:Int)(R:VWP)(w:World)(h:ZM p0 p1 p2 R w):Calls Tryz.prog 183 #[.pointer p0,.int .i64 p1,.int .i64 p2] w (Ret R):=zht (fs:=Tryz.fs) (an:=zbK) (args:=[(.pointer p0),(.int .i64 p1),(.int .i64 p2)]) Tryz.fsOK Tryz.mixed Tryz.func183 (by kernel_rfl) (by kernel_rfl) (Eq.mpr (by kernel_rfl:zmM Tryz.prog Tryz.fs Tryz.f183 zbK [(.pointer p0),(.int .i64 p1),(.int .i64 p2)] w R=ZM p0 p1 p2 R w) h)
def zhO:Ann:=Z16
def zhF(p0:Option Addr)(p1:Int)(R:VWP)(w:World):Prop:=Nw (w.alloc (.cells #[.pointer p0] 81)) λw1=>Nw (w1.alloc (.cells #[zi p1] 3)) λw2=>R (.func (.func 194) #[] #[.pointer (some (zB w)),.pointer (some (zB w1))]) w2
theorem ziY(p0)(p1)(R)(w)(h:zhF p0 p1 R w):cC 191 #[.pointer p0,.int .i64 p1] w R:=lwC zhO Tryz.func191 h
def zgh:Ann:=(.seq none Z13 (.q (.one (.loop ⟨[0,1],[(4,(.b (.int .i64)))]⟩ Z1g))))
def zfW(p0:Value)(c0:Addr)(c1:Addr)(R:VWP)(w:World):Prop:=ldP w c0 λx1=>ldI w c1 .i64 λx2=>dz 195 #[.pointer x1,zi x2] w λx4 w1=>ifB (!x4) (R (.tuple #[]) w1) (ldI w1 c1 .i64 λx5=>zk (S:=Int×Unit) (λs6 w2 n7=>ifB (s6.1 !=(-1:Int)) (ZH Tryz.prog Tryz.fs p0 [(zi s6.1)] w2 λv8 w3=>∃x9:Bool,v8=(.bool x9)/\ifB (!x9) (R (.tuple #[]) w3) (ldP w3 c0 λx10=>zc x10 λa11=>ldS w3 (a11.add 1) λx12=>(0<=s6.1/\s6.1<(x12.l:Int))/\zc x12.a λa13=>ldI w3 (a13.add s6.1.toNat) .i64 λx14=>n7 (x14,()) w3)) (R (.tuple #[]) w2)) (x5,()) w1)
theorem zh2(p0)(c0)(c1)(R)(w)(h:zfW p0 c0 c1 R w):cC 194 #[p0,.pointer (some c0),.pointer (some c1)] w R:=lwC zgh Tryz.func194 h
def zdn:Ann:=Z16
def zde(p0:Option Addr)(p1:Int)(R:VWP)(w:World):Prop:=ifB (!(Option.isNone p0)) (ifB (decide (p1≥(0:Int))) (zc p0 λa1=>ldS w (a1.add 2) λx2=>ifB (decide (p1<(x2.l:Int))) (zc p0 λa3=>ldS w (a3.add 2) λx4=>(0<=p1/\p1<(x4.l:Int))/\zc x4.a λa5=>ldI w (a5.add p1.toNat) .i64 λx6=>R (.bool (x6 !=(-1:Int))) w) (R (.bool false) w)) (R (.bool false) w)) (R (.bool false) w)
theorem zf3(p0)(p1)(R)(w)(h:zde p0 p1 R w):cC 195 #[.pointer p0,.int .i64 p1] w R:=lwC zdn Tryz.func195 h
end Go.Proofs
namespace Go.Gk
theorem zk.countS{α:Type}{body:α×Int×Unit->World->(α×Int×Unit->World->Prop)->Prop}{w:World}{a0:α}(n:Nat)(hn:n<=9223372036854775807)(I:Nat->α->World->Prop)(h0:I 0 a0 w)
  (h:∀k a w,k<=n->I k a w->∀next:α×Int×Unit->World->Prop,(∀a' w',k<n->I (k+1) a' w'->next (a',IntKind.i64.wrap ((k:Int)+1),()) w')->body (a,(k:Int),()) w next):zk body (a0,(0:Int),()) w:=by
 refine zk.ghost (λj s w=>∃k:Nat,k<=n/\j=n-k/\∃a,s=(a,(k:Int),())/\I k a w) n ⟨0,Nat.zero_le _,rfl,a0,rfl,h0⟩ ?_
 rintro _ _ w ⟨k,hk,rfl,a,rfl,hI⟩ next hnext
 refine h k a w hk hI next λa' w' hlt hI'=>?_
 rw[zr (by omega)]
 exact hnext (n-(k+1)) _ _ (by omega) ⟨k+1,by omega,rfl,a',rfl,hI'⟩
end Go.Gk
namespace Go.Proofs
open Go.Gk Go.RowKit Go.Gr
theorem eII:YT Tryz.prog 67 43 1 24:=⟨by kernel_rfl,Tryz.t43,.slice none 0 0,by kernel_rfl,rfl,rfl,rfl,rfl⟩
theorem zoP{B0:Nat}{w0 w:World}{r:Sl}{l:List Nat}{x:Int}{y:Nat}(hx:x=(y:Int))(hb:Below B0 w0 w)(hB:B0<=w.heap.size)(ho:Own w 3 1 r (l.map iN))(hf:zz B0 r)(hl:l.length<1099511627776)
  {k:Sl->World->Prop} (hk:∀r' w',Below B0 w0 w'->B0<=w'.heap.size->Own w' 3 1 r' ((l++[y]).map iN)->zz B0 r'->k r' w') :
  Nw (w.alloc (.cells #[.int .i64 x] 3)) λw1=>zp Tryz.prog 43 (.slice r.a r.l r.c) (.slice (some (blk w.heap.size)) 1 1) w1 k:=by
 subst hx
 refine Nw.gen λw1 hw1=>?_
 have hB1:Blk w1 w.heap.size 3 [iN y]:=by rw[hw1];exact Blk.new w _ #[_]
 have ho1:Own w1 3 1 r (l.map iN):=by rw[hw1];exact ho.alloc _
 have hb1:Below B0 w0 w1:=by rw[hw1];exact hb.alloc hB _
 have hz1:w1.heap.size=w.heap.size+1:=by rw[hw1];simp
 have hl1:=zet ho1
 refine YM eInt ho1 rfl hB1 (by omega) (by omega) λr' w' hr hrl ⟨b,hrb,hbo,hg⟩=>?_
 have hbB:B0<=b:=by
  rcases hbo with hb |rfl
  ·exact hf _ hb
  ·omega
 refine hk r' w' (hb1.trans (yf hg hbB (by omega))) ?_ (by simpa using hr) (λa ha=>by rw[hrb]at ha;cases ha;exact hbB)
 have:=hg.size
 omega
def IsR(w:World)(rb:Nat)(nx:List (List Nat)):Prop:=∃s hs,Blk w rb 161 [s.val]/\IsNN w s hs nx
theorem IsR.below{w w':World}{rb:Nat}{nx:List (List Nat)}(h:IsR w rb nx)(hb:Below w.heap.size w w'):IsR w' rb nx:=
 let⟨s,hs,h1,h2⟩:=h
 ⟨s,hs,h1.below hb,h2.below hb⟩
set_option maxHeartbeats 1000000 in
theorem zqk{s:Sl}{hs:List Sl}{ll:List (List Int)}{w:World}{R:VWP}(h:IsII w s hs ll)(h8:∀l∈ll,8*l.length<=281474976710656)
  (h2:ll.length=0->R (.tuple #[.pointer none,.int .i64 2]) w)
  (h4:4096<ll.length->R (.tuple #[.pointer none,.int .i64 4]) w)
  (hbad:0<ll.length->ll.length<=4096->¬Good ll->∀w',Below w.heap.size w w'->R (.tuple #[.pointer none,.int .i64 141]) w')
  (hok:0<ll.length->ll.length<=4096->Good ll->∀w' rb,Below w.heap.size w w'->IsR w' rb (Zd ll)->R (.tuple #[.pointer (some (blk rb)),.int .i64 0]) w') :
  cR 86 #[.slice s.a s.l s.c] w R:=by
 refine za.of (zfE s R w ?_) λ_ _ h=>h
 have hsl:s.l=hs.length:=h.top.len
 have hhl:hs.length=ll.length:=h.len
 have hn:s.l=ll.length:=by omega
 unfold YL
 rw[hn]
 refine zm (λhe=>h2 (by omega)) (λhne=>zf (λhgt=>h4 (by omega)) (λhle=>?_))
 have hn0:0<ll.length:=by omega
 have hn1:ll.length<=4096:=by omega
 refine Nw.gen λw1 hw1=>?_
 have hb1:Below w.heap.size w w1:=by rw[hw1];exact(Below.refl _ _).alloc (Nat.le_refl _) _
 have hg1:Blk w1 w.heap.size 161 [(⟨none,0,0⟩:Sl).val]:=by rw[hw1];exact Blk.new w _ #[_]
 have hz1:w1.heap.size=w.heap.size+1:=by rw[hw1];simp
 clear hw1
 have natlen:(zH ll).length=ll.length:=by simp
 refine zk.count ll.length (by omega) (λi w'=>Below w.heap.size w w'/\w.heap.size<w'.heap.size/\(∃(r:Sl) (rs:List Sl),Blk w' w.heap.size 161 [r.val]/\Own w' 43 1 r (rs.map Sl.val)/\zz (w.heap.size+1) r/\rs.length=i/\
   ∀(j:Nat) (hj:j<rs.length),Own w' 3 1 rs[j] (((Zd ll).getD j []).map iN))/\∀j,j<i->∀(hj:j<ll.length),∀x∈ll[j],0<=x/\x<(ll.length:Int))
  ⟨hb1,by omega,⟨⟨none,0,0⟩,[],hg1,Own.nil _ _ _,(λa ha=>by cases ha),rfl,λj hj=>by cases hj⟩,λj hj=>by omega⟩ ?_
 rintro i w2 hi ⟨hb2,hz2,⟨r,rs,hg2,hr2,hf2,hrs,hrows2⟩,hgood⟩ next hnext
 refine zf (λhlt=>?_) (λhge=>?_)
 ·have hlt:i<ll.length:=by dsimp only at hlt;omega
  have hrow:∀{w':World},Below w.heap.size w w'->IsI w' (hs[i]'(by omega)) ll[i]:=λhb=>(h.below hb).row i (by omega) hlt
  have hbw:∀{w':World},Below w2.heap.size w2 w'->Below w.heap.size w w':=λhb=>hb2.trans (hb.mono (by omega))
  have hrn:(hs[i]'(by omega)).l=(ll[i]).length:=(hrow hb2).len
  have h8i:=h8 _ (List.getElem_mem hlt)
  refine zk.countS (ll[i]).length (hrow hb2).bound (λk l w'=>Below w2.heap.size w2 w'/\w2.heap.size<=w'.heap.size/\Own w' 3 1 l ((ZY ((ll[i].take k).map Int.toNat)).map iN)/\zz w2.heap.size l/\∀j,j<k->∀(hj:j<(ll[i]).length),0<=ll[i][j]/\ll[i][j]<(ll.length:Int))
   ⟨Below.refl _ _,Nat.le_refl _,by simpa[ZY] using Own.nil _ _ _,(λa ha=>by cases ha),λj hj=>by omega⟩ ?_
  rintro k l w3 hk ⟨hb3,hz3,ho3,hf3,hgood3⟩ nxt hnxt
  refine zny (h.below (hbw hb3)).top hn (k:=i) (by omega) ?_
  refine zf (λhltk=>?_) (λhgek=>?_)
  ·have hltk:k<(ll[i]).length:=by dsimp only at hltk;omega
   refine zl.cut (λst w'=>Below w2.heap.size w2 w'/\w2.heap.size<=w'.heap.size/\Own w' 3 1 st.1 ((ZY ((ll[i].take (k+1)).map Int.toNat)).map iN)/\zz w2.heap.size st.1/\0<=ll[i][k]/\ll[i][k]<(ll.length:Int)) ?_
    λst w' hh=>hnxt st.1 w' hltk ⟨hh.1,hh.2.1,hh.2.2.1,hh.2.2.2.1,λj hj hjl=>by
     by_cases e:j=k
     ·subst e;exact hh.2.2.2.2
     ·exact hgood3 j (by omega) hjl⟩
   refine zny (h.below (hbw hb3)).top hn (k:=i) (by omega) ?_
   refine zdz (hrow (hbw hb3)) hltk ?_
   have bad:¬(0<=ll[i][k]/\ll[i][k]<(ll.length:Int))->R (.tuple #[.pointer none,.int .i64 141]) w3:=λhx=>
    hbad hn0 hn1 (λhG=>hx (hG _ (List.getElem_mem hlt) _ (List.getElem_mem hltk))) w3 (hbw hb3)
   refine zl.cut (λ_ w'=>w'=w3/\0<=ll[i][k]/\ll[i][k]<(ll.length:Int)) (zf (λhx=>bad (by omega)) (λhx=>zf (λhx'=>bad (by omega)) (λhx'=>⟨rfl,by omega,by omega⟩))) ?_
   rintro _ wx ⟨ewx,hx0,hx1⟩
   subst wx
   obtain⟨x,hx⟩:=Int.eq_ofNat_of_zero_le hx0
   have hsnoc:ZY ((ll[i].take (k+1)).map Int.toNat)=za3 (ZY ((ll[i].take k).map Int.toNat)) x:=by
    rw[List.take_succ_eq_append_getElem hltk,List.map_append,<-zio,hx];rfl
   rw[hsnoc,hx]
   refine zto (IsS.toI ho3.isS) ⟨_,rfl,zF ?_⟩
   rw[zqR]
   refine zo (λhc=>?_) (λhc=>?_)
   ·refine⟨hb3,hz3,?_,hf3,by omega,by omega⟩
    unfold za3
    rw[if_pos hc];exact ho3
   ·have hd:(ZY ((ll[i].take k).map Int.toNat)).length<=ll.length:=zok λy hy=>by
     obtain⟨z,hz,rfl⟩:=List.mem_map.1 hy
     obtain⟨j,hj,rfl⟩:=List.mem_iff_getElem.1 hz
     have hj':j<k/\j<(ll[i]).length:=by rw[List.length_take]at hj;omega
     have:=hgood3 j hj'.1 hj'.2
     rw[List.getElem_take]
     omega
    refine zoP rfl hb3 hz3 ho3 hf3 (by omega) λr' w' g1 g2 g3 g4=>⟨g1,g2,?_,g4,by omega,by omega⟩
    unfold za3
    rw[if_neg (by rw[hc];decide)];exact g3
  ·have hkk:k=(ll[i]).length:=by dsimp only at hgek;omega
   subst hkk
   rw[List.take_length]at ho3
   have hg3:=hg2.below hb3
   have hr3:=hr2.below hb3
   refine⟨r,hg3.cell0 rfl,Nw.gen λw4 hw4=>?_⟩
   have hb4:Below w3.heap.size w3 w4:=by rw[hw4];exact(Below.refl _ _).alloc (Nat.le_refl _) _
   have hB4:Blk w4 w3.heap.size 43 [l.val]:=by rw[hw4];exact Blk.new w3 _ #[_]
   have hz4:w4.heap.size=w3.heap.size+1:=by rw[hw4];simp
   have hr4:=hr3.below hb4
   have hrl:r.l=rs.length:=by have:=hr4.1;simp at this;omega
   refine YM eII hr4 rfl hB4 (by omega) (by omega) λr5 w5 hr5 hrl5 ⟨b,hrb,hbo,hgr⟩=>?_
   have hbB:w.heap.size+1<=b:=by
    rcases hbo with hb |rfl
    ·exact hf2 _ hb
    ·omega
   have hg5:Blk w5 w.heap.size 161 [r.val]:=(hg3.below hb4).of_block (hgr.block _ (hg3.below hb4).lt (λe=>by have:=Option.some.inj e;omega))
   have hbt:∀{sl:Sl} {xs:List Value},Own w4 3 1 sl xs->Own w5 3 1 sl xs:=λho=>ho.of_block λa ha=>hgr.block _ (ho.lt ha).2 (λe=>by
    have e:=Option.some.inj e
    obtain⟨c2,t2⟩:=ho.type ha
    rcases hbo with hb |hb
    ·obtain⟨c1,t1⟩:=hr4.type hb
     have e':(blk b).block=a.block:=Eq.symm e
     rw[e']at t1
     exact absurd (t1.type t2) (by decide)
    ·have:=(ho.lt ha).2;omega)
   refine⟨hg5.wr0 (by simp),Nw.gen λw6 hw6=>?_⟩
   have hg6:Blk w6 w.heap.size 161 [r5.val]:=by rw[hw6];exact hg5.set0 _
   have st6:∀{T:TypeId} {sl:Sl} {xs:List Value},T≠161->Own w5 T 1 sl xs->Own w6 T 1 sl xs:=λhT ho=>ho.of_block λa ha=>by
    rw[hw6]
    refine Below.heap_setCell _ _ _ _ λe=>hT ?_
    obtain⟨c2,t2⟩:=ho.type ha
    have e':a.block=w.heap.size:=e
    rw[e']at t2
    exact t2.type hg5
   have hb45:Below w.heap.size w w5:=(hbw (hb3.trans (hb4.mono hz3))).trans (yf hgr (by omega) (by omega))
   have hz5:w4.heap.size<=w5.heap.size:=hgr.size
   refine hnext w6 hlt ⟨by rw[hw6];exact hb45.setCell (Nat.le_refl _) _,by rw[hw6];simp[World.setCell];omega,⟨r5,rs++[l],hg6,by simpa using st6 (by decide) hr5,(λa ha=>by rw[hrb]at ha;cases ha;exact hbB),by simp[hrs],λj hj=>?_⟩,λj hj hjl x hx=>?_⟩
   ·by_cases e:j<rs.length
    ·rw[List.getElem_append_left e]
     exact st6 (by decide) (hbt (((hrows2 j e).below hb3).below hb4))
    ·have hj':j=rs.length:=by simp at hj;omega
     subst hj'
     rw[List.getElem_append_right (Nat.le_refl _)]
     simp only[Nat.sub_self,List.getElem_cons_zero]
     rw[show(Zd ll).getD rs.length []=ZY (ll[i].map Int.toNat) by rw[hrs];exact ziq hlt]
     exact st6 (by decide) (hbt (ho3.below hb4))
   ·by_cases e:j=i
    ·subst e
     obtain⟨m,hm,rfl⟩:=List.mem_iff_getElem.1 hx
     exact hgood3 m hm hm
    ·exact hgood j (by omega) hjl x hx
 ·have hi':i=ll.length:=by dsimp only at hge;omega
  subst hi'
  have hG:Good ll:=λl hl x hx=>by
   obtain⟨j,hj,rfl⟩:=List.mem_iff_getElem.1 hl
   exact hgood j hj hj x hx
  refine hok hn0 hn1 hG w2 _ hb2 ⟨r,rs,hg2,hr2.isS,by rw[Zw];omega,λj hj hj'=>?_⟩
  have:=(hrows2 j hj).isS
  have e:(Zd ll)[j]=(Zd ll).getD j []:=by simp only[List.getD,List.getElem?_eq_getElem hj',Option.getD_some]
  rw[e];exact this
theorem zmS{rb:Nat}{nx:List (List Nat)}{w:World}{R:VWP}(h:IsR w rb nx)(hR:R (.int .i64 (nx.length:Int)) w) :
  cR 87 #[.pointer (some (blk rb))] w R:=by
 refine za.of (Zu _ R w ?_) λ_ _ h=>h
 obtain⟨s,hs,h1,h2⟩:=h
 refine⟨s,h1.cell0 rfl,?_⟩
 have e:s.l=nx.length:=by have:=h2.top.len;have:=h2.len;omega
 show R (.int .i64 (s.l:Int)) w
 rw[e];exact hR
theorem rRow{w:World}{rb:Nat}{s:Sl}{hs:List Sl}{nx:List (List Nat)}(h1:Blk w rb 161 [s.val])(h2:IsNN w s hs nx){i:Nat}(hi:i<nx.length){φ:Sl->Prop}(hφ:∀(hi':i<hs.length),φ hs[i]) :
  zc (some (blk rb)) λa=>ldS w a λx=>(0<=(i:Int)/\(i:Int)<(x.l:Int))/\zc x.a λa=>ldS w (a.add (Int.toNat (i:Int))) φ:=by
 have hl:=h2.len
 exact⟨s,h1.cell0 rfl,zeY h2.top (k:=i) (by omega) (hφ (by omega))⟩
theorem zqf{rb:Nat}{nx:List (List Nat)}(hx:NxOk nx){i:Int}{w:World}{R:VWP}(h:IsR w rb nx)
  (hR:∀r w',Own w' 3 1 r ((zgy nx i).map iN)->Below w.heap.size w w'->R (.slice r.a r.l r.c) w') :
  cR 50 #[.pointer (some (blk rb)),.int .i64 i] w R:=by
 refine za.of (Zh _ i R w ?_) λ_ _ h=>h
 have none:¬(0<=i/\i<nx.length)->R (.slice none 0 0) w:=λhn=>hR ⟨none,0,0⟩ w (by rw[zkh hn];exact Own.nil _ _ _) (Below.refl _ _)
 refine zl.cut (λ_ w'=>w'=w/\0<=i/\i<nx.length) (zf (λh0=>none (by omega)) λh0=>zmS h ⟨_,rfl,zf (λh1=>none (by omega)) λh1=>⟨rfl,by omega,by omega⟩⟩) ?_
 rintro _ wx ⟨ewx,h0,h1⟩
 subst wx
 obtain⟨k,rfl⟩:=Int.eq_ofNat_of_zero_le h0
 have hk:k<nx.length:=by omega
 have hgd:nx.getD k []=nx[k]:=by simp[List.getD,hk]
 have hrl:=hx.row_le k
 have hmx:=hx.max
 rw[zb3]at hR
 obtain⟨s,hs,g1,g2⟩:=h
 have hrow:∀{w':World},Below w.heap.size w w'->∀(h':k<hs.length),IsN w' hs[k] (nx.getD k []):=λhb h'=>by rw[hgd];exact(g2.below hb).row k h' hk
 refine zk.countS (nx.getD k []).length (by omega) (λj l w'=>Below w.heap.size w w'/\w.heap.size<=w'.heap.size/\Own w' 3 1 l (((nx.getD k []).take j).map iN)/\zz w.heap.size l)
  ⟨Below.refl _ _,Nat.le_refl _,by simpa using Own.nil _ _ _,λa ha=>by cases ha⟩ ?_
 rintro j l w2 hj ⟨hb,hz,ho,hf⟩ next hnext
 refine rRow (g1.below hb) (g2.below hb) hk λhh=>?_
 have hrn:hs[k].l=(nx.getD k []).length:=(hrow hb hh).len
 refine zf (λhlt=>?_) (λhge=>?_)
 ·have hlt:j<(nx.getD k []).length:=by dsimp only at hlt;omega
  refine rRow (g1.below hb) (g2.below hb) hk λhh=>?_
  refine ziZ (hrow hb hh) hlt ?_
  refine zoP rfl hb hz ho hf (by simp;omega) λr' w' k1 k2 k3 k4=>hnext r' w' hlt ⟨k1,k2,?_,k4⟩
  rw[List.take_succ_eq_append_getElem hlt];exact k3
 ·have hj':j=(nx.getD k []).length:=by dsimp only at hge;omega
  subst hj'
  rw[List.take_length]at ho
  exact hR l w2 ho hb
theorem zog{bl:List Bool}{t:Nat}(ht:t<bl.length)(hf:bl.getD t false=false):bl.count true<(bl.set t true).count true:=by
 have e:bl[t]=false:=by simpa[List.getD,ht] using hf
 rw[List.count_set ht,e]
 simp
structure Mk (w0:World) (nx:List (List Nat)) (wo:Int) (w:World) (bl:List Bool):Prop where
 below:Below w0.heap.size w0 w
 blk:Blk w w0.heap.size 4 (bl.map Value.bool)
 len:bl.length=nx.length
 sound:∀j,bl.getD j false=true->zS nx wo j
 zero:bl.getD 0 false=true
end Go.Proofs
namespace Go.Gk
end Go.Gk
namespace Go.Proofs
open Go.Gk Go.RowKit Go.Gr
def GP(w:World)(p:Option Addr)(nx:List (List Nat)):Prop:=(p=none/\nx=[])\/∃gb,p=some (blk gb)/\NxOk nx/\IsG w gb nx
def RP(w:World)(p:Option Addr)(nx:List (List Nat)):Prop:=(p=none/\nx=[])\/∃rb,p=some (blk rb)/\NxOk nx/\IsR w rb nx
variable {w:World} {R:VWP} {p:Option Addr} {nx:List (List Nat)} {i:Int}
theorem GP.len(h:GP w p nx)(hR:R (.int .i64 (nx.length:Int)) w):cR 15 #[.pointer p] w R:=by
 rcases h with⟨rfl,rfl⟩ | ⟨gb,rfl,hx,hg⟩
 ·exact za.of (zbo none R w (zD rfl hR)) λ_ _ h=>h
 ·exact zjQ hg hR
theorem zpG(hR:R (.bool false) w):cR 40 #[.pointer none,.int .i64 i] w R:=by
 refine za.of (zcd none i R w ?_) λ_ _ h=>h
 refine zf (λh0=>GP.len (nx:=[]) (.inl ⟨rfl,rfl⟩) ⟨_,rfl,?_⟩) (λh0=>hR)
 have:decide (i<(([]:List (List Nat)).length:Int))=false:=by rw[decide_eq_false_iff_not];simp;omega
 dsimp only[zB,Go.Gk.Sl.zw,zi,zu,zb,zh];rw[this];exact hR
theorem zkg(i:Int):zgy [] i=[]:=by unfold zgy;split<;>simp
theorem GP.next(h:GP w p nx)(hR:∀r w',Own w' 3 1 r ((zgy nx i).map iN)->zz w.heap.size r->Below w.heap.size w w'->R (.slice r.a r.l r.c) w') :
  cR 63 #[.pointer p,.int .i64 i] w R:=by
 rcases h with⟨rfl,rfl⟩ | ⟨gb,rfl,hx,hg⟩
 ·refine za.of (za7 none i R w (zpG ⟨_,rfl,zD rfl ?_⟩)) λ_ _ h=>h
  exact hR ⟨none,0,0⟩ w (by rw[zkg];exact Own.nil _ _ _) (λa ha=>by cases ha) (Below.refl _ _)
 ·exact zqN hx hg hR
theorem GP.ahead(h:GP w p nx)(hR:∀r w',Own w' 3 1 r ((zgy (zM nx) i).map iN)->zz w.heap.size r->Below w.heap.size w w'->R (.slice r.a r.l r.c) w') :
  cR 17 #[.pointer p,.int .i64 i] w R:=by
 rcases h with⟨rfl,rfl⟩ | ⟨gb,rfl,hx,hg⟩
 ·refine za.of (zad none i R w (zpG ⟨_,rfl,zD rfl ?_⟩)) λ_ _ h=>h
  exact hR ⟨none,0,0⟩ w (by rw[show zM []=[] from rfl,zkg];exact Own.nil _ _ _) (λa ha=>by cases ha) (Below.refl _ _)
 ·exact zla hx hg hR
theorem zpd(i:Int):Yk [] i=false:=by simp[Yk,yK,yw]
theorem GP.reached(h:GP w p nx)(hR:R (.bool (Yk nx i)) w):cR 16 #[.pointer p,.int .i64 i] w R:=by
 rcases h with⟨rfl,rfl⟩ | ⟨gb,rfl,hx,hg⟩
 ·rw[zpd]at hR
  exact za.of (Yv none i R w (zpG ⟨_,rfl,zE rfl hR⟩)) λ_ _ h=>h
 ·exact znh hx hg hR
theorem RP.len(h:RP w p nx)(hR:R (.int .i64 (nx.length:Int)) w):cR 87 #[.pointer p] w R:=by
 rcases h with⟨rfl,rfl⟩ | ⟨gb,rfl,hx,hg⟩
 ·exact za.of (Zu none R w (zD rfl hR)) λ_ _ h=>h
 ·exact zmS hg hR
theorem RP.next(h:RP w p nx)(hR:∀r w',Own w' 3 1 r ((zgy nx i).map iN)->Below w.heap.size w w'->R (.slice r.a r.l r.c) w') :
  cR 50 #[.pointer p,.int .i64 i] w R:=by
 rcases h with⟨rfl,rfl⟩ | ⟨gb,rfl,hx,hg⟩
 ·have hN:R (.slice none 0 0) w:=hR ⟨none,0,0⟩ w (by rw[zkg];exact Own.nil _ _ _) (Below.refl _ _)
  refine za.of (Zh none i R w ?_) λ_ _ h=>h
  refine zl.cut (λ_ _=>False) (zf (λ_=>hN) λh0=>RP.len (nx:=[]) (.inl ⟨rfl,rfl⟩) ⟨_,rfl,zD ?_ hN⟩) λ_ _ h=>h.elim
  rw[decide_eq_true_iff];simp;omega
 ·exact zqf hx hg hR
end Go.Proofs
namespace Go.Dm
inductive Anc (ov:Nat->Option Nat) (a:Nat):Nat->Prop
 |refl:Anc ov a a
 |step {x y:Nat}:ov x=some y->Anc ov a y->Anc ov a x
def PR(ov:Nat->Option Nat)(x:Nat):Prop:=x=0\/ov x≠none
structure Tr (rk:Nat->Nat) (ov:Nat->Option Nat):Prop where
 root:ov 0=none
 up:∀x y,ov x=some y->rk y<rk x/\PR ov y
section
variable {rk:Nat->Nat} {ov:Nat->Option Nat} {a b x y:Nat}
theorem Anc.inv(h:Anc ov a x):a=x\/∃y,ov x=some y/\Anc ov a y:=by
 cases h with
 |refl=>exact .inl rfl
 |step h1 h2=>exact .inr ⟨_,h1,h2⟩
theorem Anc.trans(h:Anc ov a b)(k:Anc ov b x):Anc ov a x:=by
 induction k with
 |refl=>exact h
 |step h1 _ ih=>exact .step h1 ih
theorem Anc.le(t:Tr rk ov)(h:Anc ov a x):a=x\/rk a<rk x:=by
 induction h with
 |refl=>exact .inl rfl
 |step h1 _ ih=>
  have:=(t.up _ _ h1).1
  rcases ih with rfl |ih
  ·exact .inr this
  ·exact .inr (by omega)
theorem Anc.anti(t:Tr rk ov)(h:Anc ov a x)(k:Anc ov x a):a=x:=by
 rcases h.le t with e |h
 ·exact e
 ·rcases k.le t with e |k
  ·exact e.symm
  ·omega
theorem Anc.pr(t:Tr rk ov)(h:Anc ov a x)(hx:PR ov x):PR ov a:=by
 induction h with
 |refl=>exact hx
 |step h1 _ ih=>exact ih (t.up _ _ h1).2
theorem Anc.none(hx:ov x=none)(h:Anc ov a x):a=x:=by
 rcases h.inv with e | ⟨y,hy,_⟩
 ·exact e
 ·rw[hx]at hy;cases hy
theorem Tr.zero(t:Tr rk ov):∀(n x:Nat),rk x<=n->PR ov x->Anc ov 0 x:=by
 intro n
 induction n with
 |zero=>
  intro x hn hx
  cases hx with
  |inl h=>subst h;exact .refl
  |inr h=>
   cases e:ov x with
   |none=>exact absurd e h
   |some y=>have:=(t.up x y e).1;omega
 |succ n ih=>
  intro x hn hx
  cases hx with
  |inl h=>subst h;exact .refl
  |inr h=>
   cases e:ov x with
   |none=>exact absurd e h
   |some y=>
    have:=t.up x y e
    exact .step e (ih y (by omega) this.2)
end
def YJ(ov:Nat->Option Nat)(ps:Nat->Prop)(m:Nat):Prop:=∀d,Anc ov d m↔∀p,ps p->Anc ov d p
def pt(ov:Nat->Option Nat)(k m:Nat):Nat->Option Nat:=λx=>if x=k then some m else ov x
theorem zaB(ov:Nat->Option Nat)(k m:Nat):pt ov k m k=some m:=by simp[pt]
theorem zcM{ov:Nat->Option Nat}{k m x:Nat}(h:x≠k):pt ov k m x=ov x:=by simp[pt,h]
structure IsA (ov0:Nat->Option Nat) (v x y:Nat):Prop where
 over:Anc ov0 y x
 c:Anc ov0 y v
 deep:∀d,Anc ov0 d x->Anc ov0 d v->Anc ov0 d y
structure Ph (rk:Nat->Nat) (E:Nat->Nat->Prop) (v:Nat) (ov0 ov:Nat->Option Nat):Prop where
 tr0:Tr rk ov0
 pv:PR ov0 v
 cons:∀k o,ov0 k=some o->YJ ov0 (λp=>E p k/\PR ov0 p/\p≠v) o
 st:∀x,ov x=ov0 x\/(¬Anc ov0 x v/\∃y o,ov x=some y/\ov0 x=some o/\y≠o/\IsA ov0 v x y/\∃p,E p x/\PR ov0 p/\¬Anc ov o p)
section
variable {rk:Nat->Nat} {E:Nat->Nat->Prop} {v:Nat} {ov0 ov:Nat->Option Nat}
theorem Ph.none_iff(h:Ph rk E v ov0 ov)(x:Nat):ov x=none↔ov0 x=none:=by
 rcases h.st x with e | ⟨_,y,o,h1,h2,_⟩
 ·rw[e]
 ·simp[h1,h2]
theorem Ph.pr(h:Ph rk E v ov0 ov)(x:Nat):PR ov x↔PR ov0 x:=by unfold PR;rw[Ne,Ne,h.none_iff]
theorem Ph.tr(h:Ph rk E v ov0 ov):Tr rk ov:=by
 refine⟨(h.none_iff 0).2 h.tr0.root,λx y hy=>?_⟩
 rcases h.st x with e | ⟨hc,z,o,h1,h2,hne,ha,_⟩
 ·rw[e]at hy
  have:=h.tr0.up x y hy
  exact⟨this.1,(h.pr y).2 this.2⟩
 ·rw[h1]at hy
  cases hy
  refine⟨?_,(h.pr y).2 (ha.over.pr h.tr0 (.inr (by rw[h2];simp)))⟩
  rcases ha.over.le h.tr0 with e |h'
  ·subst e;exact absurd ha.c hc
  ·exact h'
theorem Ph.old(h:Ph rk E v ov0 ov){d x:Nat}(ha:Anc ov d x):Anc ov0 d x:=by
 induction ha with
 |refl=>exact .refl
 |step h1 _ ih=>
  rename_i x y _
  rcases h.st x with e | ⟨_,z,o,g1,_,_,ga,_⟩
  ·exact .step (e▸h1) ih
  ·rw[g1]at h1
   cases h1
   exact ih.trans ga.over
theorem Ph.new(h:Ph rk E v ov0 ov):∀(n:Nat) {d x:Nat},rk x<=n->Anc ov0 d x->Anc ov0 d v->Anc ov d x:=by
 intro n
 induction n using Nat.strongRecOn with
 |_ n ih=>
  intro d x hn ha hc
  rcases ha.inv with rfl | ⟨y,hy,hay⟩
  ·exact .refl
  ·rcases h.st x with e | ⟨hcx,z,o,g1,g2,_,ga,_⟩
   ·have:=(h.tr0.up x y hy).1
    exact .step (e.trans hy) (ih (rk y) (by omega) (Nat.le_refl _) hay hc)
   ·have hlt:rk z<rk x:=by
     rcases ga.over.le h.tr0 with e |h'
     ·subst e;exact absurd ga.c hcx
     ·exact h'
    exact .step g1 (ih (rk z) (by omega) (Nat.le_refl _) (ga.deep d ha hc) hc)
theorem Ph.new'(h:Ph rk E v ov0 ov){d x:Nat}(ha:Anc ov0 d x)(hc:Anc ov0 d v):Anc ov d x:=h.new (rk x) (Nat.le_refl _) ha hc
theorem Ph.left(h:Ph rk E v ov0 ov):∀(n:Nat) {d x e:Nat},rk x<=n->Anc ov0 d x->¬Anc ov d x->Anc ov e x->Anc ov0 e d->Anc ov0 e v:=by
 intro n
 induction n using Nat.strongRecOn with
 |_ n ih=>
  intro d x e hn ha hna he hed
  have hex:e≠x:=by
   rintro rfl
   exact hna (by rw[Anc.anti h.tr0 ha hed];exact .refl)
  rcases ha.inv with rfl | ⟨y,hy,hay⟩
  ·exact absurd .refl hna
  rcases he.inv with rfl | ⟨z,hz,hez⟩
  ·exact absurd rfl hex
  rcases h.st x with e1 | ⟨hcx,z',o,g1,g2,_,ga,_⟩
  ·rw[e1,hy]at hz
   cases hz
   have:=(h.tr0.up x y hy).1
   exact ih (rk y) (by omega) (Nat.le_refl _) hay (λhh=>hna (.step (e1.trans hy) hh)) hez hed
  ·rw[g1]at hz
   cases hz
   exact(h.old hez).trans ga.c
theorem Ph.move(h:Ph rk E v ov0 ov){k c m:Nat}(hk:ov k=some c)(hm:YJ ov (λp=>E p k/\PR ov p) m)(hne:m≠c) :
  ov k=ov0 k/\Ph rk E v ov0 (pt ov k m)/\(∀d x,Anc ov0 d x->Anc ov0 d v->Anc ov d x)/\Anc ov m k:=by
 obtain⟨o,ho⟩:∃o,ov0 k=some o:=by
  cases e:ov0 k with
  |none=>rw[(h.none_iff k).2 e]at hk;cases hk
  |some o=>exact⟨o,rfl⟩
 have hcons:=h.cons k o ho
 have hmo:Anc ov0 m o:=(hcons m).2 λp hp=>h.old ((hm m).1 .refl p ⟨hp.1,(h.pr p).2 hp.2.1⟩)
 have hleft:(∀p,E p k->PR ov p->Anc ov o p)->m=o:=λhall=>by
  have:Anc ov o m:=(hm o).2 λp hp=>hall p hp.1 hp.2
  exact Anc.anti h.tr0 hmo (h.old this)
 have hex:∃p,E p k/\PR ov0 p/\¬Anc ov o p:=by
  refine Classical.byContradiction λhn=>?_
  have hall:∀p,E p k->PR ov p->Anc ov o p:=λp h1 h2=>Classical.byContradiction λh3=>hn ⟨p,h1,(h.pr p).1 h2,h3⟩
  have e:=hleft hall
  rcases h.st k with e1 | ⟨_,y,o',g1,g2,g3,g4,p,g5,g6,g7⟩
  ·rw[hk,ho]at e1
   cases e1
   exact hne e
  ·rw[ho]at g2
   cases g2
   exact g7 (hall p g5 ((h.pr p).2 g6))
 obtain⟨p,hp1,hp2,hp3⟩:=hex
 have hcm:Anc ov0 m v:=by
  have hmp:=(hm m).1 .refl p ⟨hp1,(h.pr p).2 hp2⟩
  by_cases e:p=v
  ·subst e;exact h.old hmp
  ·exact h.left (rk p) (Nat.le_refl _) ((hcons o).1 .refl p ⟨hp1,hp2,e⟩) hp3 hmp hmo
 have hnc:¬Anc ov0 k v:=λhc=>by
  have hco:Anc ov0 o v:=(Anc.step ho .refl:Anc ov0 o k).trans hc
  refine hp3 ?_
  by_cases e:p=v
  ·subst e;exact h.new' hco hco
  ·exact h.new' ((hcons o).1 .refl p ⟨hp1,hp2,e⟩) hco
 have hisA:IsA ov0 v k m:=by
  refine⟨hmo.trans (.step ho .refl),hcm,λd hd hdv=>?_⟩
  have hdo:Anc ov0 d o:=by
   rcases hd.inv with rfl | ⟨y,hy,hd⟩
   ·exact absurd hdv hnc
   ·rw[ho]at hy;cases hy;exact hd
  refine h.old ((hm d).2 λq hq=>?_)
  by_cases e:q=v
  ·subst e;exact h.new' hdv hdv
  ·exact h.new' ((hcons d).1 hdo q ⟨hq.1,(h.pr q).1 hq.2,e⟩) hdv
 have hmk:Anc ov m k:=h.new' hisA.over hcm
 have hun:ov k=ov0 k:=by
  rcases h.st k with e1 | ⟨_,y,o',g1,g2,g3,g4,_⟩
  ·exact e1
  ·exfalso
   rw[hk]at g1
   cases g1
   exact hne (Anc.anti h.tr0 (g4.deep m hisA.over hcm) (hisA.deep _ g4.over g4.c))
 have shr:∀{d x:Nat},Anc (pt ov k m) d x->Anc ov d x:=λha=>by
  induction ha with
  |refl=>exact .refl
  |step h1 _ ih=>
   rename_i x y _
   by_cases e:x=k
   ·subst e
    rw[zaB]at h1
    cases h1
    exact ih.trans hmk
   ·rw[zcM e]at h1
    exact .step h1 ih
 refine⟨hun,⟨h.tr0,h.pv,h.cons,λx=>?_⟩,λd x h1 h2=>h.new' h1 h2,hmk⟩
 by_cases e:x=k
 ·subst e
  refine .inr ⟨hnc,m,o,zaB _ _ _,ho,?_,hisA,p,hp1,hp2,λha=>hp3 (shr ha)⟩
  rintro rfl
  rw[hun,ho]at hk
  cases hk
  exact hne rfl
 ·rw[zcM e]
  rcases h.st x with e1 | ⟨g0,y,o',g1,g2,g3,g4,p',g5,g6,g7⟩
  ·exact .inl e1
  ·exact .inr ⟨g0,y,o',g1,g2,g3,g4,p',g5,g6,λha=>g7 (shr ha)⟩
theorem Ph.start{k m:Nat}(t:Tr rk ov)(hc:∀x c,ov x=some c->YJ ov (λp=>E p x/\PR ov p) c)(hk:ov k=none)(hk0:k≠0)(hm:YJ ov (λp=>E p k/\PR ov p) m)(hpm:PR ov m)(hlt:rk m<rk k) :
  Ph rk E k (pt ov k m) (pt ov k m):=by
 have hnk:¬PR ov k:=λh=>h.elim hk0 (λh=>h hk)
 have hprI:∀{x},PR ov x->PR (pt ov k m) x:=λ{x} h=>by
  by_cases e:x=k
  ·subst e;exact .inr (by rw[zaB];simp)
  ·exact h.imp id λh=>by rw[zcM e];exact h
 have hprE:∀{x},PR (pt ov k m) x->x≠k->PR ov x:=λh e=>h.imp id λh=>by rw[zcM e]at h;exact h
 have hanc:∀{d x},PR ov x->(Anc (pt ov k m) d x↔Anc ov d x):=λ{d x} hx=>by
  constructor
  ·intro h
   induction h with
   |refl=>exact .refl
   |step h1 _ ih=>
    rename_i x y _
    have e:x≠k:=λe=>hnk (e▸hx)
    rw[zcM e]at h1
    exact .step h1 (ih (t.up _ _ h1).2)
  ·intro h
   induction h with
   |refl=>exact .refl
   |step h1 _ ih=>
    rename_i x y _
    have e:x≠k:=λe=>hnk (e▸hx)
    exact .step (by rw[zcM e];exact h1) (ih (t.up _ _ h1).2)
 refine⟨⟨by rw[zcM (Ne.symm hk0)];exact t.root,λx y hy=>?_⟩,.inr (by rw[zaB];simp),λx o ho d=>?_,λx=>.inl rfl⟩
 ·by_cases e:x=k
  ·subst e;rw[zaB]at hy;cases hy;exact⟨hlt,hprI hpm⟩
  ·rw[zcM e]at hy
   have:=t.up x y hy
   exact⟨this.1,hprI this.2⟩
 ·have key:∀o,PR ov o->YJ ov (λp=>E p x/\PR ov p) o->(Anc (pt ov k m) d o↔∀p,(E p x/\PR (pt ov k m) p/\p≠k)->Anc (pt ov k m) d p):=λo hpo hmo=>by
   rw[hanc hpo,hmo d]
   constructor
   ·intro hh p hp
    have:=hprE hp.2.1 hp.2.2
    exact(hanc this).2 (hh p ⟨hp.1,this⟩)
   ·intro hh p hp
    exact(hanc hp.2).1 (hh p ⟨hp.1,hprI hp.2,λe=>hnk (e▸hp.2)⟩)
  by_cases e:x=k
  ·subst e
   rw[zaB]at ho
   cases ho
   exact key m hpm hm
  ·rw[zcM e]at ho
   exact key o (t.up _ _ ho).2 (hc x o ho)
theorem Ph.empty(h0:∀x,ov x=none):Ph rk E 0 ov ov:=
 ⟨⟨h0 0,λx y h=>(by rw[h0]at h;cases h)⟩,.inl rfl,λk o h=>(by rw[h0]at h;cases h),λ_=>.inl rfl⟩
end
end Go.Dm
namespace Go.Dm
open Go.Gr
abbrev Ed(nx:List (List Nat))(p x:Nat):Prop:=x∈nx.getD p []
structure DI (nx:List (List Nat)) (rk:Nat->Nat) (ov:Nat->Option Nat):Prop where
 b:∀x y,ov x=some y->∀d:Nat,rk d<rk y->zS nx (d:Int) y->zS nx (d:Int) x
 dom:∀x,PR ov x->∀d:Nat,d≠x->¬zS nx (d:Int) x->Anc ov d x
section
variable {nx:List (List Nat)} {rk:Nat->Nat} {ov:Nat->Option Nat}
theorem DI.down(h:DI nx rk ov)(t:Tr rk ov){y x d:Nat}(ha:Anc ov y x)(hd:rk d<rk y)(hr:zS nx (d:Int) y):zS nx (d:Int) x:=by
 induction ha with
 |refl=>exact hr
 |step h1 h2 ih=>
  refine h.b _ _ h1 d ?_ ih
  rcases h2.le t with e |e
  ·subst e;exact hd
  ·omega
theorem DI.empty(h0:∀x,ov x=none)(hn:0<nx.length):DI nx rk ov:=by
 refine⟨λx y h=>(by rw[h0]at h;cases h),λx hx d hd hr=>?_⟩
 rcases hx with rfl |hx
 ·exact absurd (.zero (by omega) hn) hr
 ·exact absurd (h0 x) hx
theorem DI.pt(h:DI nx rk ov)(t:Tr rk ov){k m:Nat}(hm:YJ ov (λp=>Ed nx p k/\PR ov p) m)(hex:∃p,Ed nx p k/\PR ov p)(hlt:rk m<rk k):DI nx rk (pt ov k m):=by
 have keepm:∀{d z},rk z<rk k->Anc ov d z->Anc (Dm.pt ov k m) d z:=λhz ha=>by
  induction ha with
  |refl=>exact .refl
  |step h1 _ ih=>
   rename_i x y _
   have e:x≠k:=by rintro rfl;omega
   have:=(t.up x y h1).1
   exact .step (by rw[zcM e];exact h1) (ih (by omega))
 have atk:∀d:Nat,d≠k->¬zS nx (d:Int) k->Anc (Dm.pt ov k m) d k:=λd hd hr=>by
  refine .step (zaB _ _ _) (keepm hlt ((hm d).2 λp hp=>?_))
  by_cases e:d=p
  ·subst e;exact .refl
  ·exact h.dom p hp.2 d e λhw=>hr (.step hw hp.1 (by omega))
 have move:∀{d x},Anc ov d x->¬zS nx (d:Int) x->Anc (Dm.pt ov k m) d x:=λha=>by
  induction ha with
  |refl=>exact λ_=>.refl
  |step h1 h2 ih=>
   rename_i d _ x y
   intro hr
   by_cases e:x=k
   ·subst e
    by_cases ed:d=x
    ·subst ed;exact .refl
    ·exact atk d ed hr
   ·refine .step (by rw[zcM e];exact h1) ?_
    rcases h2.le t with ed |ed
    ·subst ed;exact .refl
    ·exact ih λhw=>hr (h.b _ _ h1 d ed hw)
 refine⟨λx y hy d hd hr=>?_,λx hx d hd hr=>?_⟩
 ·by_cases e:x=k
  ·subst e
   rw[zaB]at hy
   cases hy
   obtain⟨p,hp⟩:=hex
   exact .step (h.down t ((hm m).1 .refl p hp) hd hr) hp.1 (λe=>by
    have e:x=d:=by omega
    subst e
    omega)
  ·rw[zcM e]at hy
   exact h.b x y hy d hd hr
 ·by_cases e:x=k
  ·subst e;exact atk d hd hr
  ·exact move (h.dom x (hx.imp id λh=>by rw[zcM e]at h;exact h) d hd hr) hr
theorem DI.iff(h:DI nx rk ov)(t:Tr rk ov)(hpr:∀x,zS nx (-1) x->PR ov x)(hfix:∀x c,ov x=some c->YJ ov (λp=>Ed nx p x/\PR ov p) c){d x:Nat}(hx:zS nx (-1) x) :
  Anc ov d x↔d=x\/¬zS nx (d:Int) x:=by
 constructor
 ·intro ha
  refine Classical.or_iff_not_imp_left.2 λhne hw=>?_
  have all:∀{wo:Int} {z:Nat},zS nx wo z->wo=(d:Int)->zS nx (-1) z:=λ{wo z} hz=>by
   induction hz with
   |zero _ h2=>exact λ_=>.zero (by decide) h2
   |step _ ht _ ih=>exact λe=>.step (ih e) ht (by omega)
  have key:∀{wo:Int} {z:Nat},zS nx wo z->wo=(d:Int)->d≠z->¬Anc ov d z:=λ{wo z} hz=>by
   induction hz with
   |zero h1 h2=>exact λe hdz ha=>hdz (ha.none t.root)
   |step hi ht hw ih=>
    rename_i i u
    intro e hdu ha
    rcases ha.inv with e' | ⟨c,hc,ha⟩
    ·exact hdu e'
    ·have hdi:d≠i:=by
      rintro rfl
      cases hi with
      |zero h1 h2=>exact h1 (by omega)
      |step _ _ h3=>exact h3 (by omega)
     exact ih e hdi ((hfix u c hc d).1 ha i ⟨ht,hpr i (all hi e)⟩)
  exact key hw rfl hne ha
 ·rintro(rfl |hw)
  ·exact .refl
  ·by_cases e:d=x
   ·subst e;exact .refl
   ·exact h.dom x (hpr x hx) d e hw
end
theorem countP_lt{p q:Nat->Bool}:∀{l:List Nat},(∀x,p x=true->q x=true)->(∃x∈l,q x=true/\p x=false)->l.countP p<l.countP q
 | [],_,⟨_,h,_⟩=>by cases h
 |y::r,hpq,⟨x,hx,h1,h2⟩=>by
  have hle:r.countP p<=r.countP q:=List.countP_mono_left λx _ h=>hpq x h
  rcases List.mem_cons.1 hx with rfl |hx
  ·rw[List.countP_cons_of_neg (by simp[h2]),List.countP_cons_of_pos h1]
   omega
  ·have:=countP_lt hpq ⟨x,hx,h1,h2⟩
   by_cases hp:p y=true
   ·rw[List.countP_cons_of_pos hp,List.countP_cons_of_pos (hpq y hp)]
    omega
   ·rw[List.countP_cons_of_neg hp]
    by_cases hq:q y=true
    ·rw[List.countP_cons_of_pos hq];omega
    ·rw[List.countP_cons_of_neg hq];exact this
def rkOf(od:List Nat)(x:Nat):Nat:=od.idxOf x
structure SS (nx:List (List Nat)) (od:List Nat) (ov:Nat->Option Nat) (j:Nat):Prop where
 di:DI nx (rkOf od) ov
 ph:∃v ov0 K,Ph (rkOf od) (Ed nx) v ov0 ov/\1<=K/\K<=od.length/\(∀x,PR ov x↔x∈od.take K)/\j=(od.length-K)*(od.length+1)+od.countP λx=>decide (ov x=ov0 x)
structure OdOk (nx:List (List Nat)) (od:List Nat):Prop where
 head:∃l,od=0::l
 nodup:od.Nodup
 par:∀k (hk:k<od.length),0<k->∃j,∃hj:j<k,od[k]∈nx.getD (od[j]'(by omega)) []
section
variable {nx:List (List Nat)} {od:List Nat} {ov:Nat->Option Nat} {j:Nat}
theorem YG(h:od.Nodup){k:Nat}(hk:k<od.length):rkOf od od[k]=k:=List.Nodup.idxOf_getElem h k hk
theorem SS.tr(h:SS nx od ov j):Tr (rkOf od) ov:=let⟨_,_,_,h1,_⟩:=h.ph;h1.tr
theorem SS.start(ok:OdOk nx od)(hn:0<nx.length)(h0:∀x,ov x=none):∃j,SS nx od ov j:=by
 obtain⟨l,hl⟩:=ok.head
 refine⟨_,.empty h0 hn,0,ov,1,.empty h0,Nat.le_refl _,by rw[hl];simp,λx=>?_,rfl⟩
 rw[hl]
 simp[PR,h0]
theorem SS.next(ok:OdOk nx od)(h:SS nx od ov j){i m:Nat}(hi:i<od.length)(h0:od[i]≠0)
  (hpre:∀k (hk:k<i),od[k]≠0->∃c,ov od[k]=some c/\YJ ov (λp=>Ed nx p od[k]/\PR ov p) c)
  (hm:YJ ov (λp=>Ed nx p od[i]/\PR ov p) m) (hpm:PR ov m) (hne:ov od[i]≠some m):∃j',j'<j/\SS nx od (pt ov od[i] m) j':=by
 obtain⟨hdi,v,ov0,K,hph,hK1,hK,hpr,rfl⟩:=h
 have t:=hph.tr
 have hi0:0<i:=by
  obtain⟨l,hl⟩:=ok.head
  rcases Nat.eq_zero_or_pos i with e |e
  ·subst e;exact absurd (by simp[hl]) h0
  ·exact e
 have hprei:∀k (hk:k<i),PR ov od[k]:=λk hk=>by
  by_cases e:od[k]=0
  ·exact .inl e
  ·obtain⟨c,hc,_⟩:=hpre k hk e
   exact .inr (by rw[hc];simp)
 obtain⟨q,hq,hqe⟩:=ok.par i hi hi0
 have hex:∃p,Ed nx p od[i]/\PR ov p:=⟨_,hqe,hprei q hq⟩
 have hlt:rkOf od m<rkOf od od[i]:=by
  rw[YG ok.nodup hi]
  have ha:=(hm m).1 .refl _ ⟨hqe,hprei q hq⟩
  rcases ha.le t with e |e
  ·rw[e,YG ok.nodup];exact hq
  ·rw[YG ok.nodup]at e;omega
 have hdi':=hdi.pt t hm hex hlt
 have memtake:∀k (hk:k<od.length),od[k]∈od.take K↔k<K:=λk hk=>by
  constructor
  ·intro hh
   obtain⟨k',hk',e⟩:=List.mem_iff_getElem.1 hh
   rw[List.getElem_take]at e
   have h1:=YG ok.nodup hk
   have h2:=YG ok.nodup (k:=k') (by rw[List.length_take]at hk';omega)
   rw[e,h1]at h2
   rw[List.length_take]at hk'
   omega
  ·intro hh
   exact List.mem_iff_getElem.2 ⟨k,by rw[List.length_take];omega,by simp⟩
 have hmul:(od.length-K)*(od.length+1)=(od.length-K)*od.length+(od.length-K):=Nat.mul_succ _ _
 by_cases hiK:i<K
 ·
  have hpi:PR ov od[i]:=(hpr _).2 ((memtake i hi).2 hiK)
  obtain⟨c,hc⟩:∃c,ov od[i]=some c:=by
   rcases hpi with e |e
   ·exact absurd e h0
   ·cases e':ov od[i] with
    |none=>exact absurd e' e
    |some c=>exact⟨c,rfl⟩
  obtain⟨g1,g2,_,_⟩:=hph.move hc hm (λe=>hne (by rw[hc,e]))
  refine⟨_,?_,hdi',v,ov0,K,g2,hK1,hK,λx=>?_,rfl⟩
  ·refine Nat.add_lt_add_left (countP_lt (λx hx=>?_) ⟨od[i],List.getElem_mem hi,by simp[g1],?_⟩) _
   ·by_cases e:x=od[i]
    ·subst e
     simp[g1]
    ·simpa[zcM e] using hx
   ·rw[zaB,decide_eq_false_iff_not,<-g1]
    exact λe=>hne e.symm
  ·rw[<-hpr x]
   unfold PR
   by_cases e:x=od[i]
   ·subst e;rw[zaB,hc];simp
   ·rw[zcM e]
 ·
  have hiK':i=K:=by
   have:¬K<i:=λhKi=>by
    have:=(memtake K (by omega)).1 ((hpr _).1 (hprei K hKi))
    omega
   omega
  have hnone:ov od[i]=none:=by
   have:¬PR ov od[i]:=λhh=>hiK ((memtake i hi).1 ((hpr _).1 hh))
   cases e:ov od[i] with
   |none=>rfl
   |some c=>exact absurd (.inr (by rw[e];simp)) this
  have hall:∀x c,ov x=some c->YJ ov (λp=>Ed nx p x/\PR ov p) c:=λx c hc=>by
   obtain⟨k,hk,e⟩:=List.mem_iff_getElem.1 ((hpr x).1 (.inr (by rw[hc];simp)))
   rw[List.getElem_take]at e
   rw[List.length_take]at hk
   have hx0:x≠0:=by rintro rfl;rw[t.root]at hc;cases hc
   obtain⟨c',hc',hm'⟩:=hpre k (by omega) (by rw[e];exact hx0)
   simp only[e]at hc' hm'
   rw[hc]at hc'
   cases hc'
   exact hm'
  refine⟨_,?_,hdi',od[i],pt ov od[i] m,K+1,Ph.start t hall hnone h0 hm hpm hlt,by omega,by omega,λx=>?_,rfl⟩
  ·have hcl:od.countP (λx=>decide (pt ov od[i] m x=pt ov od[i] m x))<=od.length:=List.countP_le_length
   have h2:(od.length-K)*(od.length+1)=(od.length-(K+1))*(od.length+1)+(od.length+1):=by
    rw[show od.length-K=od.length-(K+1)+1 by omega,Nat.succ_mul]
   omega
  ·have e1:od.take (K+1)=od.take K++[od[i]]:=by
    subst hiK'
    exact List.take_succ_eq_append_getElem hi
   rw[e1,List.mem_append,List.mem_singleton,<-hpr x]
   unfold PR
   by_cases e:x=od[i]
   ·subst e;rw[zaB];simp
   ·rw[zcM e];simp[e]
end
end Go.Dm
namespace Go.Proofs
open Go.Gk
set_option linter.unusedVariables false
set_option maxRecDepth 100000
end Go.Proofs
namespace Go.Proofs
open Go.Gk Go.RowKit Go.Gr
end Go.Proofs
namespace Go.Proofs
open Go.Gk Go.RowKit Go.Gr Go.Dm
def ovI:Option Nat->Int
 |none=>-1
 |some y=>(y:Int)
def natL(n:Nat)(f:Nat->Int):List Value:=(List.range n).map λi=>.int .i64 (f i)
theorem zjq{n i:Nat}{f:Nat->Int}(hi:i<n):(natL n f)[i]? =some (.int .i64 (f i)):=by simp[natL,hi]
theorem zlL{n i:Nat}{f:Nat->Int}(v:Int):(natL n f).set i (.int .i64 v)=natL n λj=>if j=i then v else f j:=by
 apply List.ext_getElem
 ·simp[natL]
 ·intro j h1 h2
  rw[List.getElem_set]
  by_cases e:i=j
  ·subst e;simp[natL]
  ·rw[if_neg e];simp[natL,Ne.symm e]
theorem zfJ{n:Nat}{f g:Nat->Int}(h:∀i,i<n->f i=g i):natL n f=natL n g:=List.map_congr_left λi hi=>by rw[h i (List.mem_range.1 hi)]
theorem zi0(n:Nat)(v:Int):natL n (λ_=>v)=List.replicate n (.int .i64 v):=by
 apply List.ext_getElem<;>simp[natL]
structure TB (w:World) (tb gb ob db rb n:Nat) (o d r:Nat->Int):Prop where
 t:Blk w tb 168 [.pointer (some (Gk.blk gb)),.slice (some (Gk.blk ob)) n n,.slice (some (Gk.blk db)) n n,.slice (some (Gk.blk rb)) n n]
 o:Blk w ob 3 (natL n o)
 d:Blk w db 3 (natL n d)
 r:Blk w rb 3 (natL n r)
 ne:ob≠db/\ob≠rb/\db≠rb
section
variable {w w':World} {tb gb ob db rb n:Nat} {o d r:Nat->Int}
theorem TB.below(h:TB w tb gb ob db rb n o d r)(hb:Below w.heap.size w w'):TB w' tb gb ob db rb n o d r:=⟨h.t.below hb,h.o.below hb,h.d.below hb,h.r.below hb,h.ne⟩
theorem TB.of_o{o':Nat->Int}(h:TB w tb gb ob db rb n o d r)(he:∀i,i<n->o i=o' i):TB w tb gb ob db rb n o' d r:=⟨h.t,zfJ he▸h.o,h.d,h.r,h.ne⟩
theorem TB.setO(h:TB w tb gb ob db rb n o d r)(i:Nat)(v:Int):TB (w.setCell ((Gk.blk ob).add i) (.int .i64 v)) tb gb ob db rb n (λj=>if j=i then v else o j) d r:=by
 obtain⟨n1,n2,n3⟩:=h.ne
 exact⟨h.t.other (by rw[z0];exact h.t.apart h.o (by decide)) _,zlL (f:=o) v▸h.o.set i _,h.d.other (by rw[z0];exact n1.symm) _,h.r.other (by rw[z0];exact n2.symm) _,h.ne⟩
theorem TB.setD(h:TB w tb gb ob db rb n o d r)(i:Nat)(v:Int):TB (w.setCell ((Gk.blk db).add i) (.int .i64 v)) tb gb ob db rb n o (λj=>if j=i then v else d j) r:=by
 obtain⟨n1,n2,n3⟩:=h.ne
 exact⟨h.t.other (by rw[z0];exact h.t.apart h.d (by decide)) _,h.o.other (by rw[z0];exact n1) _,zlL (f:=d) v▸h.d.set i _,h.r.other (by rw[z0];exact n3.symm) _,h.ne⟩
theorem TB.setR(h:TB w tb gb ob db rb n o d r)(i:Nat)(v:Int):TB (w.setCell ((Gk.blk rb).add i) (.int .i64 v)) tb gb ob db rb n o d (λj=>if j=i then v else r j):=by
 obtain⟨n1,n2,n3⟩:=h.ne
 exact⟨h.t.other (by rw[z0];exact h.t.apart h.r (by decide)) _,h.o.other (by rw[z0];exact n2) _,h.d.other (by rw[z0];exact n3) _,zlL (f:=r) v▸h.r.set i _,h.ne⟩
theorem TB.getO(h:TB w tb gb ob db rb n o d r){i:Nat}(hi:i<n){φ:Int->Prop}(hφ:φ (o i)) :
  zc (some (Gk.blk tb)) λa=>ldS w (a.add 1) λx=>(0<=(i:Int)/\(i:Int)<(x.l:Int))/\zc x.a λa'=>ldI w (a'.add (Int.toNat (i:Int))) .i64 φ:=
 ⟨⟨_,n,n⟩,h.t.cell (n:=1) rfl,⟨by omega,by first |omega | (dsimp only;omega)⟩,zj rfl ⟨_,h.o.cell (zjq hi),hφ⟩⟩
theorem TB.getD(h:TB w tb gb ob db rb n o d r){i:Nat}(hi:i<n){φ:Int->Prop}(hφ:φ (d i)) :
  zc (some (Gk.blk tb)) λa=>ldS w (a.add 2) λx=>(0<=(i:Int)/\(i:Int)<(x.l:Int))/\zc x.a λa'=>ldI w (a'.add (Int.toNat (i:Int))) .i64 φ:=
 ⟨⟨_,n,n⟩,h.t.cell (n:=2) rfl,⟨by omega,by first |omega | (dsimp only;omega)⟩,zj rfl ⟨_,h.d.cell (zjq hi),hφ⟩⟩
theorem TB.getR(h:TB w tb gb ob db rb n o d r){i:Nat}(hi:i<n){φ:Int->Prop}(hφ:φ (r i)) :
  zc (some (Gk.blk tb)) λa=>ldS w (a.add 3) λx=>(0<=(i:Int)/\(i:Int)<(x.l:Int))/\zc x.a λa'=>ldI w (a'.add (Int.toNat (i:Int))) .i64 φ:=
 ⟨⟨_,n,n⟩,h.t.cell (n:=3) rfl,⟨by omega,by first |omega | (dsimp only;omega)⟩,zj rfl ⟨_,h.r.cell (zjq hi),hφ⟩⟩
theorem TB.putO(h:TB w tb gb ob db rb n o d r){i:Nat}(hi:i<n){v:Int}{K:World->Prop}(hK:K (w.setCell ((Gk.blk ob).add i) (.int .i64 v))) :
  zc (some (Gk.blk tb)) λa=>ldS w (a.add 1) λx=>(0<=(i:Int)/\(i:Int)<(x.l:Int))/\zc x.a λa'=>Wr w (a'.add (Int.toNat (i:Int)))/\Nw (w.setCell (a'.add (Int.toNat (i:Int))) (.int .i64 v)) K:=
 ⟨⟨_,n,n⟩,h.t.cell (n:=1) rfl,⟨by omega,by first |omega | (dsimp only;omega)⟩,zj rfl ⟨h.o.wr (by simpa[natL] using hi),Nw.mk hK⟩⟩
theorem TB.putD(h:TB w tb gb ob db rb n o d r){i:Nat}(hi:i<n){v:Int}{K:World->Prop}(hK:K (w.setCell ((Gk.blk db).add i) (.int .i64 v))) :
  zc (some (Gk.blk tb)) λa=>ldS w (a.add 2) λx=>(0<=(i:Int)/\(i:Int)<(x.l:Int))/\zc x.a λa'=>Wr w (a'.add (Int.toNat (i:Int)))/\Nw (w.setCell (a'.add (Int.toNat (i:Int))) (.int .i64 v)) K:=
 ⟨⟨_,n,n⟩,h.t.cell (n:=2) rfl,⟨by omega,by first |omega | (dsimp only;omega)⟩,zj rfl ⟨h.d.wr (by simpa[natL] using hi),Nw.mk hK⟩⟩
theorem TB.putR(h:TB w tb gb ob db rb n o d r){i:Nat}(hi:i<n){v:Int}{K:World->Prop}(hK:K (w.setCell ((Gk.blk rb).add i) (.int .i64 v))) :
  zc (some (Gk.blk tb)) λa=>ldS w (a.add 3) λx=>(0<=(i:Int)/\(i:Int)<(x.l:Int))/\zc x.a λa'=>Wr w (a'.add (Int.toNat (i:Int)))/\Nw (w.setCell (a'.add (Int.toNat (i:Int))) (.int .i64 v)) K:=
 ⟨⟨_,n,n⟩,h.t.cell (n:=3) rfl,⟨by omega,by first |omega | (dsimp only;omega)⟩,zj rfl ⟨h.r.wr (by simpa[natL] using hi),Nw.mk hK⟩⟩
end
def rkI(od:List Nat)(i:Nat):Int:=if i∈od then(rkOf od i:Int) else 0
theorem zqE{od:List Nat}{i:Nat}(h:i∈od):rkI od i=(rkOf od i:Int):=by simp[rkI,h]
theorem zua{od:List Nat}{a b:Nat}(ha:a∈od)(hb:b∈od)(h:rkOf od a=rkOf od b):a=b:=by
 have h1:=List.idxOf_lt_length_of_mem ha
 have h2:=List.idxOf_lt_length_of_mem hb
 have e1:od[od.idxOf a]=a:=List.getElem_idxOf h1
 have e2:od[od.idxOf b]=b:=List.getElem_idxOf h2
 unfold rkOf at h
 rw[<-e1,<-e2]
 simp only[h]
theorem zrq{tb gb ob db rb n:Nat}{d:Nat->Int}{ov:Nat->Option Nat}{od:List Nat}(t:Tr (rkOf od) ov)(hpo:∀x,PR ov x->x∈od)(hlt:∀x∈od,x<n){a b:Nat}{w:World}{R:VWP}
  (h:TB w tb gb ob db rb n (λi=>ovI (ov i)) d (rkI od)) (ha:PR ov a) (hb:PR ov b)
  (hR:∀c w',Below w.heap.size w w'->PR ov c->(∀e,Anc ov e c↔Anc ov e a/\Anc ov e b)->R (.int .i64 (c:Int)) w') :
  cR 123 #[.pointer (some (Gk.blk tb)),.int .i64 (a:Int),.int .i64 (b:Int)] w R:=by
 refine za.of (zh3 _ _ _ R w ?_) λ_ _ h=>h
 refine zk.ghost (λj s w'=>∃x y:Nat,j=rkOf od x+rkOf od y/\s=((x:Int),(y:Int),())/\PR ov x/\PR ov y/\(∀e,Anc ov e x/\Anc ov e y↔Anc ov e a/\Anc ov e b)/\Below w.heap.size w w') _ ⟨a,b,rfl,rfl,ha,hb,λ_=>Iff.rfl,Below.refl _ _⟩ ?_
 rintro _ _ w' ⟨x,y,rfl,rfl,hx,hy,hxy,hbw⟩ next hnext
 refine zt (λhne=>?_) (λhe=>?_)
 ·have hne:x≠y:=by rintro rfl;exact hne rfl
  have h':=h.below hbw.drew
  have mx:=hpo x hx
  have my:=hpo y hy
  refine zl.cut (λs w2=>w2=w'.drew/\∃p q:Nat,s=((p:Int),(q:Int),())/\((p=x/\q=y)\/(p=y/\q=x))/\rkOf od q<rkOf od p) ?_ ?_
  ·dsimp only
   refine h'.getR (hlt x mx) (h'.getR (hlt y my) ?_)
   rw[zqE mx,zqE my]
   refine zf (λhl=>⟨rfl,y,x,rfl,.inr ⟨rfl,rfl⟩,by omega⟩) (λhl=>⟨rfl,x,y,rfl,.inl ⟨rfl,rfl⟩,?_⟩)
   have:rkOf od x≠rkOf od y:=λe=>hne (zua mx my e)
   omega
  ·rintro _ _ ⟨rfl,p,q,rfl,hpq,hrk⟩
   have hp:PR ov p:=by rcases hpq with⟨rfl,_⟩ | ⟨rfl,_⟩<;>assumption
   have hq:PR ov q:=by rcases hpq with⟨_,rfl⟩ | ⟨_,rfl⟩<;>assumption
   have hsum:rkOf od x+rkOf od y=rkOf od p+rkOf od q:=by rcases hpq with⟨rfl,rfl⟩ | ⟨rfl,rfl⟩<;>omega
   obtain⟨z,hz⟩:∃z,ov p=some z:=by
    cases e:ov p with
    |some z=>exact⟨z,rfl⟩
    |none=>
     rcases hp with rfl |hp
     ·have hz:=t.zero _ q (Nat.le_refl _) hq
      rcases hz.le t with e |e
      ·subst e;omega
      ·omega
     ·exact absurd e hp
   have hzt:=t.up p z hz
   dsimp only
   refine h'.getO (hlt p (hpo p hp)) ?_
   rw[hz]
   refine hnext (rkOf od z+rkOf od q) _ _ (by omega) ⟨z,q,rfl,rfl,hzt.2,hq,λe=>?_,hbw.drew⟩
   rw[<-hxy e]
   have:(Anc ov e x/\Anc ov e y)↔(Anc ov e p/\Anc ov e q):=by
    rcases hpq with⟨rfl,rfl⟩ | ⟨rfl,rfl⟩
    ·exact Iff.rfl
    ·exact And.comm
   rw[this]
   constructor
   ·rintro⟨h1,h2⟩;exact⟨.step hz h1,h2⟩
   ·rintro⟨h1,h2⟩
    refine⟨?_,h2⟩
    rcases h1.inv with rfl | ⟨z',hz',h1⟩
    ·rcases h2.le t with e |e
     ·subst e;omega
     ·omega
    ·rw[hz]at hz';cases hz';exact h1
 ·have he:x=y:=by exact Int.ofNat.inj he
  subst he
  exact hR x w' hbw hx λe=>by rw[<-hxy e];exact⟨λh=>⟨h,h⟩,λh=>h.1⟩
theorem zjv{o:Option Nat}:ovI o=-1↔o=none:=by
 cases o with
 |none=>simp[ovI]
 |some y=>simp[ovI]
theorem ztY(ov:Nat->Option Nat)(k m:Nat)(j:Nat):(if j=k then(m:Int) else ovI (ov j))=ovI (pt ov k m j):=by
 unfold pt
 split<;>rfl
structure znj (nx:List (List Nat)) (od:List Nat) (ov:Nat->Option Nat):Prop where
 tr:Tr (rkOf od) ov
 di:DI nx (rkOf od) ov
 pr:∀x,PR ov x↔x∈od
 fix:∀x c,ov x=some c->YJ ov (λp=>Ed nx p x/\PR ov p) c
def Fo(ov:Nat->Option Nat)(l:List Nat)(o:Int):Prop:=
 (o=-1/\∀p∈l,¬PR ov p)\/∃m:Nat,o=(m:Int)/\PR ov m/\(∃p∈l,PR ov p)/\YJ ov (λp=>p∈l/\PR ov p) m
theorem Fo.skip{ov:Nat->Option Nat}{l:List Nat}{o:Int}{p:Nat}(h:Fo ov l o)(hp:¬PR ov p):Fo ov (l++[p]) o:=by
 rcases h with⟨rfl,h⟩ | ⟨m,rfl,h1,⟨q,hq,hq'⟩,h3⟩
 ·exact .inl ⟨rfl,λq hq=>by
   rcases List.mem_append.1 hq with hq |hq
   ·exact h q hq
   ·simp at hq;subst hq;exact hp⟩
 ·refine .inr ⟨m,rfl,h1,⟨q,by simp[hq],hq'⟩,λd=>?_⟩
  rw[h3 d]
  constructor
  ·rintro hh q ⟨hq,hqp⟩
   rcases List.mem_append.1 hq with hq |hq
   ·exact hh q ⟨hq,hqp⟩
   ·simp at hq;subst hq;exact absurd hqp hp
  ·exact λhh q hq=>hh q ⟨by simp[hq.1],hq.2⟩
theorem Fo.first{ov:Nat->Option Nat}{l:List Nat}{p:Nat}(h:Fo ov l (-1))(hp:PR ov p):Fo ov (l++[p]) (p:Int):=by
 rcases h with⟨_,h⟩ | ⟨m,e,_⟩
 ·refine .inr ⟨p,rfl,hp,⟨p,by simp,hp⟩,λd=>⟨?_,λhh=>hh p ⟨by simp,hp⟩⟩⟩
  rintro hd q ⟨hq,hqp⟩
  rcases List.mem_append.1 hq with hq |hq
  ·exact absurd hqp (h q hq)
  ·simp at hq;subst hq;exact hd
 ·omega
theorem Fo.more{ov:Nat->Option Nat}{l:List Nat}{o:Nat}{p c:Nat}(h:Fo ov l (o:Int))(hp:PR ov p)(hc:PR ov c)(hm:∀e,Anc ov e c↔Anc ov e o/\Anc ov e p):Fo ov (l++[p]) (c:Int):=by
 rcases h with⟨e,_⟩ | ⟨m,e,h1,⟨q,hq,hq'⟩,h3⟩
 ·omega
 ·have e:o=m:=by omega
  subst e
  refine .inr ⟨c,rfl,hc,⟨p,by simp,hp⟩,λd=>?_⟩
  rw[hm d,h3 d]
  constructor
  ·rintro⟨hh,hd⟩ q ⟨hq,hqp⟩
   rcases List.mem_append.1 hq with hq |hq
   ·exact hh q ⟨hq,hqp⟩
   ·simp at hq;subst hq;exact hd
  ·exact λhh=>⟨λq hq=>hh q ⟨by simp[hq.1],hq.2⟩,hh p ⟨by simp,hp⟩⟩
set_option maxHeartbeats 4000000 in
theorem zpj{nx:List (List Nat)}(hx:NxOk nx){tb gb ob db rb B:Nat}{d:Nat->Int}{od:List Nat}(ok:OdOk nx od)(hod:∀x∈od,x<nx.length){p1:Sl}{w0 w:World}{R:VWP}
  (hG:IsG w0 gb nx) (hB:B=w0.heap.size) (hob:B<=ob) (hb0:Below B w0 w) (h:TB w tb gb ob db rb nx.length (λ_=>-1) d (rkI od)) (hp1:Own w 3 1 p1 (od.map iN)) (hp2:∀a,p1.a=some a->a.block≠ob)
  (hR:∀w' ov,Below B w0 w'->w.heap.size<=w'.heap.size->(∀k,k<w.heap.size->k≠ob->w'.heap[k]? =w.heap[k]?)->TB w' tb gb ob db rb nx.length (λi=>ovI (ov i)) d (rkI od)->znj nx od ov->R (.tuple #[]) w') :
  cR 95 #[.pointer (some (Gk.blk tb)),.slice p1.a p1.l p1.c] w R:=by
 refine za.of (zg2 _ p1 R w ?_) λ_ _ h=>h
 unfold zap
 have hpl:=zet hp1
 have hmax:=hx.max
 have hodl:od.length<=nx.length:=YF ok.nodup hod
 obtain⟨j0,hs0⟩:=SS.start (od:=od) (ov:=λ_=>none) ok hx.pos (λ_=>rfl)
 let St:(Nat->Option Nat)->World->Prop:=λov w'=>Below B w0 w'/\w.heap.size<=w'.heap.size/\(∀k,k<w.heap.size->k≠ob->w'.heap[k]? =w.heap[k]?)/\TB w' tb gb ob db rb nx.length (λi=>ovI (ov i)) d (rkI od)/\Own w' 3 1 p1 (od.map iN)
 have hBw:B<=w.heap.size:=by rw[hB];rw[hB]at hb0;exact hb0.size
 have grow:∀{ov w1 w2},St ov w1->Below w1.heap.size w1 w2->St ov w2:=λ{ov w1 w2} h hb=>by
  obtain⟨h1,h2,h3,h4,h5⟩:=h
  exact⟨h1.trans (hb.mono (by omega)),by have:=hb.size;omega,λk hk hne=>(hb.block k (by omega)).trans (h3 k hk hne),h4.below hb,h5.below hb⟩
 refine zk.ghost (λj _ w'=>∃ov,SS nx od ov j/\St ov w') j0 ⟨_,hs0,hb0,Nat.le_refl _,λ_ _ _=>rfl,h,hp1⟩ ?_
 rintro j _ w1 ⟨ov,hs,hst⟩ nextR hnextR
 have t:=hs.tr
 have hpo:∀x,PR ov x->x∈od:=λx hxp=>by
  obtain⟨v,ov0,K,_,_,_,hpr,_⟩:=hs.ph
  exact List.mem_of_mem_take ((hpr x).1 hxp)
 let Ok:Nat->Prop:=λk=>∀q (hq:q<od.length),q<k->od[q]≠0->∃c,ov od[q]=some c/\YJ ov (λp=>Ed nx p od[q]/\PR ov p) c
 refine zk.count od.length (by omega) (λk w'=>Ok k/\St ov w') ⟨λq hq h=>absurd h (by omega),hst⟩ ?_
 rintro i w2 hi ⟨hok,hst⟩ next hnext
 refine zf (λhlt=>?_) (λhge=>?_)
 ·have hlt:i<od.length:=by dsimp only at hlt;omega
  refine zl.cut (λ_ w'=>Ok (i+1)/\St ov w') ?_ λ_ w' hh=>hnext w' hlt hh
  refine zdz hst.2.2.2.2.isS.toI (k:=i) (by simpa using hlt) ?_
  rw[List.getElem_map]
  refine zm (λhe=>?_) (λhne=>?_)
  ·refine⟨λq hq hlt' hq0=>?_,hst⟩
   by_cases e:q=i
   ·subst e;exact absurd (by exact Int.ofNat.inj he) hq0
   ·exact hok q hq (by omega) hq0
  ·have hne0:od[i]≠0:=λe=>hne (by rw[e];rfl)
   have hT:=hst.2.2.2.1
   refine zj rfl ⟨_,hT.t.cell0 rfl,?_⟩
   have hg2:IsG w2 gb nx:=hG.below (hB▸hst.1)
   refine zla hx hg2 λr w3 a1 a2 a3=>⟨r,rfl,?_⟩
   rw[zb3]at a1
   have hst3:=grow hst a3
   clear a3 hT
   obtain⟨ah,hah⟩:∃ah,ah=(zM nx).getD od[i] []:=⟨_,rfl⟩
   have hahn:∀p∈ah,p<nx.length:=λp hp=>by
    rw[hah]at hp
    have:=(zon hx).1 hp
    by_cases hpn:p<nx.length
    ·exact hpn
    ·simp[List.getD,hpn]at this
   have hahl:=zlp nx od[i]
   rw[<-hah]at a1 hahl
   have hrl:=zet a1
   refine zk.ghost (λg st w'=>∃m:Nat,∃o:Int,m<=ah.length/\g=ah.length-m/\st=(o,(m:Int),())/\Fo ov (ah.take m) o/\St ov w'/\Own w' 3 1 r (ah.map iN)) ah.length
    ⟨0,-1,by omega,rfl,rfl,.inl ⟨rfl,by simp⟩,hst3,a1⟩ ?_
   rintro _ _ w4 ⟨m,o,hm,rfl,rfl,hF,hst,a1⟩ nxt hnxt
   have hT:=hst.2.2.2.1
   refine zf (λhltm=>?_) (λhgem=>?_)
   ·have hltm:m<ah.length:=by dsimp only at hltm;omega
    have etk:ah.take (m+1)=ah.take m++[ah[m]]:=List.take_succ_eq_append_getElem hltm
    have hpn:=hahn _ (List.getElem_mem hltm)
    refine zl.cut (λst w'=>∃o':Int,st=(o',())/\Fo ov (ah.take (m+1)) o'/\St ov w'/\Own w' 3 1 r (ah.map iN)) ?_ ?_
    ·refine zdz a1.isS.toI (k:=m) (by simpa using hltm) ?_
     rw[List.getElem_map]
     refine zl.cut (λ_ w'=>w'=w4/\PR ov ah[m]) ?_ ?_
     ·refine zt (λhne=>?_) (λhe=>⟨rfl,.inl (Int.ofNat.inj he)⟩)
      refine hT.getO hpn (zm (λhe=>?_) λhne'=>⟨rfl,.inr λe=>hne' (zjv.2 e)⟩)
      refine⟨o,rfl,?_,hst,a1⟩
      rw[etk]
      refine hF.skip λhp=>?_
      rcases hp with hp |hp
      ·exact hne (by rw[hp];rfl)
      ·exact hp (zjv.1 he)
     ·rintro _ _ ⟨rfl,hp⟩
      refine zm (λhe=>⟨_,rfl,?_,hst,a1⟩) (λhne=>?_)
      ·rw[etk]
       dsimp only at he
       exact(he▸hF).first hp
      ·rcases hF with⟨e,_⟩ | ⟨mm,rfl,hF1,hF2,hF3⟩
       ·exact absurd e hne
       ·refine zrq t hpo hod hT hF1 hp λc w5 hb5 hc hce=>⟨_,rfl,_,rfl,?_,grow hst hb5,a1.below hb5⟩
        rw[etk]
        exact Fo.more (.inr ⟨mm,rfl,hF1,hF2,hF3⟩) hp hc hce
    ·rintro _ w7 ⟨o',rfl,hF',hst',a1'⟩
     dsimp only
     rw[zr (by omega)]
     exact hnxt (ah.length-(m+1)) _ _ (by omega) ⟨m+1,o',by omega,rfl,rfl,hF',hst',a1'⟩
   ·have:m=ah.length:=by dsimp only at hgem;omega
    subst this
    rw[List.take_length]at hF
    have hpre:∀k (hk:k<i),PR ov od[k]:=λk hk=>by
     by_cases e:od[k]=0
     ·exact .inl e
     ·obtain⟨c,hc,_⟩:=hok k (by omega) hk e
      exact .inr (by rw[hc];simp)
    have hi0:0<i:=by
     obtain⟨l,hl⟩:=ok.head
     rcases Nat.eq_zero_or_pos i with e |e
     ·subst e;exact absurd (by simp[hl]) hne0
     ·exact e
    obtain⟨q,hq,hqe⟩:=ok.par i hlt hi0
    have hedge:∀p,p∈ah↔Ed nx p od[i]:=λp=>by rw[hah];exact zon hx
    rcases hF with⟨_,hF⟩ | ⟨mm,rfl,hF1,_,hF3⟩
    ·exact absurd (hpre q hq) (hF _ ((hedge _).2 hqe))
    have hM:YJ ov (λp=>Ed nx p od[i]/\PR ov p) mm:=λe=>by
     rw[hF3 e]
     exact⟨λhh p hp=>hh p ⟨(hedge p).2 hp.1,hp.2⟩,λhh p hp=>hh p ⟨(hedge p).1 hp.1,hp.2⟩⟩
    have hin:od[i]<nx.length:=hod _ (List.getElem_mem hlt)
    dsimp only
    refine hT.getO hin (zt (λhne'=>?_) (λhe=>?_))
    ·refine hT.putO hin ?_
     have hne2:ov od[i]≠some mm:=λe=>hne' (by rw[e];rfl)
     obtain⟨j',hj',hs'⟩:=hs.next ok hlt hne0 (λk hk h0=>hok k (by omega) hk h0) hM hF1 hne2
     refine hnextR j' _ _ hj' ⟨_,hs',?_⟩
     obtain⟨g1,g2,g3,g4,g5⟩:=hst
     refine⟨g1.setCell (by rw[z0];exact hob) _,by simpa[World.setCell] using g2,λk hk hne=>(yv hne _ _).trans (g3 k hk hne),(g4.setO od[i] mm).of_o λj _=>ztY ov od[i] mm j,g5.of_block λa ha=>yv (hp2 a ha) _ _⟩
    ·refine⟨λq hq hlt' hq0=>?_,hst⟩
     by_cases e:q=i
     ·subst e
      refine⟨mm,?_,hM⟩
      cases e:ov od[q] with
      |none=>rw[e]at he;have he:(mm:Int)=-1:=he;omega
      |some y=>rw[e]at he;have he:(mm:Int)=(y:Int):=he;rw[show y=mm by omega]
     ·exact hok q hq (by omega) hq0
 ·have:i=od.length:=by dsimp only at hge;omega
  subst this
  obtain⟨g1,g2,g3,g4,g5⟩:=hst
  have hall:∀x∈od,x≠0->∃c,ov x=some c/\YJ ov (λp=>Ed nx p x/\PR ov p) c:=λx hx h0=>by
   obtain⟨q,hq,rfl⟩:=List.mem_iff_getElem.1 hx
   exact hok q hq hq h0
  refine hR w2 ov g1 g2 g3 g4 ⟨t,hs.di,λx=>⟨hpo x,λhx=>?_⟩,λx c hc=>?_⟩
  ·by_cases e:x=0
   ·exact .inl e
   ·obtain⟨c,hc,_⟩:=hall x hx e
    exact .inr (by rw[hc];simp)
  ·have hx0:x≠0:=by rintro rfl;rw[t.root]at hc;cases hc
   obtain⟨c',hc',hm⟩:=hall x (hpo x (.inr (by rw[hc];simp))) hx0
   rw[hc]at hc'
   cases hc'
   exact hm
structure Rs (w1 w:World) (n:Nat) (us rs:List Nat) (rb:Option Nat):Prop where
 below:Below w1.heap.size w1 w
 a:∀b∈us,Blk w b 3 [.int .i64 (-1)]
 r:∀b∈rs,Blk w b 3 (List.replicate n (.int .i64 (-1)))/\w1.heap.size<=b
 nd:rs.Nodup
 m:∀b,rb=some b->Blk w b 3 (List.replicate n (.int .i64 0))/\w1.heap.size<=b/\b ∉ rs
section
variable {w1 w w':World} {n:Nat} {us rs:List Nat} {rb:Option Nat}
theorem Rs.grow(h:Rs w1 w n us rs rb)(hb:Below w.heap.size w w'):Rs w1 w' n us rs rb:=
 ⟨h.below.trans (hb.mono h.below.size),λb hm=>(h.a b hm).below hb,λb hm=>⟨(h.r b hm).1.below hb,(h.r b hm).2⟩,h.nd,λb e=>⟨(h.m b e).1.below hb,(h.m b e).2⟩⟩
theorem Rs.stepA(h:Rs w1 w n us rs rb){K:World->Prop}(hK:∀w',Rs w1 w' n (w.heap.size::us) rs rb->K w'):Nw (w.alloc (.cells #[(.int .i64 (-1:Int))] 3)) K:=by
 refine Nw.mk (hK _ ?_)
 have g:=h.grow (w':=w.alloc (.cells #[(.int .i64 (-1:Int))] 3)) ((Below.refl _ _).alloc (Nat.le_refl _) _)
 refine⟨g.below,λb hb=>?_,g.r,g.nd,g.m⟩
 rcases List.mem_cons.1 hb with rfl |hb
 ·exact Blk.new w 3 #[_]
 ·exact g.a b hb
theorem Rs.stepR(h:Rs w1 w n us rs rb)(hn:n<=4096)(hn1:1<=n){b:Nat}(hb:b∈us){K:Sl->World->Prop}(hK:∀r w',Rs w1 w' n us (r::rs) rb->K ⟨some (Gk.blk r),n,n⟩ w') :
  cR 93 #[.slice (some (Gk.blk b)) 1 1,.int .i64 (n:Int)] w λv w'=>∃x:Sl,v =.slice x.a x.l x.c/\K x w':=by
 refine znY (by omega) hn1 (h.a b hb) λr w' hr hf hbw=>⟨⟨some (Gk.blk r),n,n⟩,rfl,hK r w' ?_⟩
 have g:=h.grow hbw
 refine⟨g.below,g.a,λb hb=>?_,List.nodup_cons.2 ⟨λhm=>?_,g.nd⟩,λb e=>⟨(g.m b e).1,(g.m b e).2.1,λhm=>?_⟩⟩
 ·rcases List.mem_cons.1 hb with rfl |hb
  ·exact⟨hr,by have:=h.below.size;omega⟩
  ·exact g.r b hb
 ·have:=(h.r r hm).1.lt;omega
 ·rcases List.mem_cons.1 hm with rfl |hm
  ·have:=(h.m b e).1.lt;omega
  ·exact(g.m b e).2.2 hm
theorem Rs.stepM(h:Rs w1 w n us rs none)(hn:n<=4096){K:World->Prop}(hK:∀w',Rs w1 w' n us rs (some w.heap.size)->K w') :
  (0<=(n:Int)/\(n:Int)<=(n:Int)/\(8:Int)*(n:Int)<=281474976710656/\(n:Int)<=9223372036854775807)/\Nw (w.alloc (.cells (madeCells #[(.int .i64 (0:Int))] ((Int.toNat (n:Int))*1)) 3)) K:=by
 refine⟨⟨by omega,by omega,by omega,by omega⟩,Nw.mk (hK _ ?_)⟩
 have g:=h.grow (w':=w.alloc (.cells (madeCells #[(.int .i64 (0:Int))] ((Int.toNat (n:Int))*1)) 3)) ((Below.refl _ _).alloc (Nat.le_refl _) _)
 refine⟨g.below,g.a,g.r,g.nd,λb e=>?_⟩
 cases e
 exact⟨Blk.made w 3 (.int .i64 0) n,h.below.size,λhm=>by have:=(h.r _ hm).1.lt;omega⟩
def Mt(w1:World)(n gb:Nat)(p:Option Addr)(w':World):Prop:=
 ∃tb ob db rb,p=some (Gk.blk tb)/\w1.heap.size<=ob/\w1.heap.size<=db/\w1.heap.size<=rb/\TB w' tb gb ob db rb n (λ_=>-1) (λ_=>-1) (λ_=>0)/\Below w1.heap.size w1 w'/\ob<tb
theorem Rs.stepF{b:Nat}(h:Rs w1 w n us rs (some b)){gb:Nat}{r1 r2:Nat}(h1:r1∈rs)(h2:r2∈rs)(hne:r1≠r2) :
  Nw (w.alloc (.cells #[(.pointer (some (Gk.blk gb))),(.slice (some (Gk.blk r1)) n n),(.slice (some (Gk.blk r2)) n n),(.slice (some (Gk.blk b)) (Int.toNat (n:Int)) (Int.toNat (n:Int)))] 168)) λw7=>Mt w1 n gb (some (Gk.blk w.heap.size)) w7:=by
 refine Nw.mk ?_
 have hb:Below w.heap.size w (w.alloc (.cells #[(.pointer (some (Gk.blk gb))),(.slice (some (Gk.blk r1)) n n),(.slice (some (Gk.blk r2)) n n),(.slice (some (Gk.blk b)) (Int.toNat (n:Int)) (Int.toNat (n:Int)))] 168)):=(Below.refl _ _).alloc (Nat.le_refl _) _
 have g:=h.grow hb
 obtain⟨m1,m2,m3⟩:=g.m b rfl
 refine⟨w.heap.size,r1,r2,b,rfl,(g.r r1 h1).2,(g.r r2 h2).2,m2,⟨Blk.new w 168 #[_,_,_,_],?_,?_,?_,hne,λe=>m3 (e▸h1),λe=>m3 (e▸h2)⟩,g.below,(h.r r1 h1).1.lt⟩
 ·rw[zi0];exact(g.r r1 h1).1
 ·rw[zi0];exact(g.r r2 h2).1
 ·rw[zi0];exact m1
end
structure DpOk (od:List Nat) (ov:Nat->Option Nat) (dp:Nat->Int):Prop where
 mem:∀x∈od,0<=dp x/\dp x<=(rkOf od x:Int)
 out:∀x,x ∉ od->dp x=-1
 root:∀x∈od,ov x=none->dp x=0
 up:∀x∈od,∀y,ov x=some y->dp x=dp y+1
def IsD(w:World)(tb:Nat)(nx:List (List Nat))(ov:Nat->Option Nat)(dp:Nat->Int):Prop:=
 ∃gb ob db rb,TB w tb gb ob db rb nx.length (λi=>ovI (ov i)) dp (rkI (zC nx))/\IsG w gb nx
theorem IsD.below{w w':World}{tb:Nat}{nx:List (List Nat)}{ov:Nat->Option Nat}{dp:Nat->Int}(h:IsD w tb nx ov dp)(hb:Below w.heap.size w w'):IsD w' tb nx ov dp:=
 let⟨gb,ob,db,rb,h1,h2⟩:=h
 ⟨gb,ob,db,rb,h1.below hb,h2.below hb⟩
theorem odOk{nx:List (List Nat)}(hx:NxOk nx):OdOk nx (zC nx):=⟨hx.walkOk.ohead,hx.walkOk.nodup,hx.walkOk.opar⟩
theorem ztE{nx:List (List Nat)}(hx:NxOk nx):∀x∈zC nx,x<nx.length:=λx h=>hx.came.lt x ((hx.walkOk.mem x).1 h)
set_option maxHeartbeats 8000000 in
theorem zqM{nx:List (List Nat)}(hx:NxOk nx){gb:Nat}{w:World}{R:VWP}(hG:IsG w gb nx)
  (hR:∀w' tb ov dp,Below w.heap.size w w'->(∃ob db rb,TB w' tb gb ob db rb nx.length (λi=>ovI (ov i)) dp (rkI (zC nx)))->znj nx (zC nx) ov->DpOk (zC nx) ov dp->R (.tuple #[.pointer (some (Gk.blk tb)),.int .i64 0]) w') :
  cR 57 #[.pointer (some (Gk.blk gb))] w R:=by
 refine za.of (zmf _ R w ?_) λ_ _ h=>h
 unfold zjD
 have hm:=hx.max
 have hp:=hx.pos
 refine zE rfl (zjQ hG ⟨_,rfl,?_⟩)
 refine zl.cut (λs w'=>Mt w nx.length gb s.1 w') ?_ ?_
 ·have h0:Rs w w.drew nx.length [] [] none:=⟨(Below.refl _ _).drew,λ_ h=>(by cases h),λ_ h=>(by cases h),List.nodup_nil,λ_ h=>(by cases h)⟩
  repeat' first
   |exact Rs.stepF (by assumption) (by simp) (by simp) (by
     have:=Rs.nd (by assumption)
     simp at this
     first |exact this |exact λe=>this e.symm)
   |refine Rs.stepM (by assumption) hm λw' h=>?_
   |refine Rs.stepR (by assumption) hm hp (by simp) λr w' h=>?_
   |refine Rs.stepA (by assumption) λw' h=>?_
   |refine And.intro ?_ ?_
 ·rintro⟨p,_⟩ w69 ⟨tb,ob,db,rb,hpe,hob,hdb,hrb,hT,hb69,hobt⟩
  dsimp only at hpe
  subst hpe
  obtain⟨od,hod⟩:∃od,od=zC nx:=⟨_,rfl⟩
  have ok:OdOk nx od:=hod▸odOk hx
  have hlt:∀x∈od,x<nx.length:=hod▸ztE hx
  have hodl:od.length<=nx.length:=YF ok.nodup hlt
  refine zpx hx (hG.below hb69) λr w70 o1 o2 o3=>⟨r,rfl,?_⟩
  rw[<-hod]at o1 hR
  have hrl:=zet o1
  have hT70:=hT.below o3
  have hb70:Below w.heap.size w w70:=hb69.trans (o3.mono hb69.size)
  have hrb':∀a,r.a=some a->a.block≠ob/\a.block≠db/\a.block≠rb:=λa ha=>by
   have h1:=o2 a ha
   have h2:=hT.o.lt
   have h3:=hT.d.lt
   have h4:=hT.r.lt
   exact⟨by omega,by omega,by omega⟩
  refine zk.count od.length (by omega) (λk w'=>Below w.heap.size w w'/\TB w' tb gb ob db rb nx.length (λ_=>-1) (λ_=>-1) (λi=>if i∈od.take k then(rkOf od i:Int) else 0)/\Own w' 3 1 r (od.map iN)) ⟨hb70,?_,o1⟩ ?_
  ·refine⟨hT70.t,hT70.o,hT70.d,?_,hT70.ne⟩
   rw[zfJ (g:=λ_=>0) (λi _=>by simp)]
   exact hT70.r
  rintro k w71 hk ⟨hb71,hT71,ho71⟩ next hnext
  refine zf (λhltk=>?_) (λhgek=>?_)
  ·have hltk:k<od.length:=by dsimp only at hltk;omega
   have hkn:=hlt _ (List.getElem_mem hltk)
   refine zdz ho71.isS.toI (k:=k) (by simpa using hltk) ?_
   rw[List.getElem_map]
   refine hT71.putR hkn (hnext _ hltk ⟨hb71.setCell (by rw[z0];exact hrb) _,?_,ho71.of_block λa ha=>yv (hrb' a ha).2.2 _ _⟩)
   have g:=hT71.setR od[k] (k:Int)
   refine⟨g.t,g.o,g.d,?_,g.ne⟩
   rw[zfJ (g:=λj=>if j=od[k] then(k:Int) else if j∈od.take k then(rkOf od j:Int) else 0) (λj _=>?_)]
   ·exact g.r
   ·have hmem:j∈od.take (k+1)↔j∈od.take k\/j=od[k]:=by
     rw[List.take_succ_eq_append_getElem hltk,List.mem_append,List.mem_singleton]
    by_cases e:j=od[k]
    ·rw[if_pos (hmem.2 (.inr e)),if_pos e,e,YG ok.nodup hltk]
    ·rw[if_neg e]
     by_cases e2:j∈od.take k
     ·rw[if_pos (hmem.2 (.inl e2)),if_pos e2]
     ·rw[if_neg (λh=>(hmem.1 h).elim e2 e),if_neg e2]
  ·have hkk:k=od.length:=by dsimp only at hgek;omega
   subst hkk
   have hT71':TB w71 tb gb ob db rb nx.length (λ_=>-1) (λ_=>-1) (rkI od):=by
    refine⟨hT71.t,hT71.o,hT71.d,?_,hT71.ne⟩
    rw[zfJ (g:=λi=>if i∈od.take od.length then(rkOf od i:Int) else 0) (λj _=>by rw[List.take_length];rfl)]
    exact hT71.r
   refine zpj hx ok hlt hG rfl hob hb71 hT71' ho71 (λa ha=>(hrb' a ha).1) λw73 ov hb73 hz73 hf73 hT73 hS=>⟨rfl,?_⟩
   have ho73:Own w73 3 1 r (od.map iN):=ho71.of_block λa ha=>hf73 _ (ho71.lt ha).2 (hrb' a ha).1
   have t:=hS.tr
   refine zk.count od.length (by omega) (λk w'=>Below w.heap.size w w'/\Own w' 3 1 r (od.map iN)/\∃dp,TB w' tb gb ob db rb nx.length (λi=>ovI (ov i)) dp (rkI od)/\
     (∀q (hq:q<od.length),q<k->0<=dp od[q]/\dp od[q]<=(q:Int)/\(ov od[q]=none->dp od[q]=0)/\∀y,ov od[q]=some y->dp od[q]=dp y+1)/\∀x,x ∉ od->dp x=-1)
    ⟨hb73,ho73,_,hT73,λq hq h=>absurd h (by omega),λ_ _=>rfl⟩ ?_
   rintro k w74 hk ⟨hb74,ho74,dp,hT74,hD,hout⟩ next2 hnext2
   refine zf (λhltk=>?_) (λhgek=>?_)
   ·have hltk:k<od.length:=by dsimp only at hltk;omega
    have hkn:=hlt _ (List.getElem_mem hltk)
    refine zl.cut (λ_ w'=>Below w.heap.size w w'/\Own w' 3 1 r (od.map iN)/\∃dp,TB w' tb gb ob db rb nx.length (λi=>ovI (ov i)) dp (rkI od)/\
     (∀q (hq:q<od.length),q<k+1->0<=dp od[q]/\dp od[q]<=(q:Int)/\(ov od[q]=none->dp od[q]=0)/\∀y,ov od[q]=some y->dp od[q]=dp y+1)/\∀x,x ∉ od->dp x=-1) ?_ λ_ w' hh=>hnext2 w' hltk hh
    refine zdz ho74.isS.toI (k:=k) (by simpa using hltk) ?_
    rw[List.getElem_map]
    refine hT74.putD hkn ?_
    have hT75:=hT74.setD od[k] 0
    have hb75:Below w.heap.size w (w74.setCell ((Gk.blk db).add od[k]) (.int .i64 0)):=hb74.setCell (by rw[z0];exact hdb) _
    have ho75:Own (w74.setCell ((Gk.blk db).add od[k]) (.int .i64 0)) 3 1 r (od.map iN):=ho74.of_block λa ha=>yv (hrb' a ha).2.1 _ _
    generalize w74.setCell ((Gk.blk db).add od[k]) (.int .i64 0)=w75 at hT75 hb75 ho75
    have hneq:∀q (hq:q<od.length),q≠k->od[q]≠od[k]:=λq hq hne e=>hne (by
     have h1:=YG ok.nodup hq
     have h2:=YG ok.nodup hltk
     rw[e,h2]at h1
     exact h1.symm)
    have hbef:∀{q y},(hq:q<od.length)->q<=k->ov od[q]=some y->∃q':Nat,∃h:q'<od.length,q'<q/\od[q']=y:=λ{q y} hq _ hy=>by
     obtain⟨h1,h2⟩:=t.up _ _ hy
     have hm2:=(hS.pr y).1 h2
     have h3:=List.idxOf_lt_length_of_mem hm2
     refine⟨od.idxOf y,h3,?_,List.getElem_idxOf h3⟩
     have:=YG ok.nodup hq
     rw[this]at h1
     exact h1
    refine hT75.getO hkn (zt (λhne=>?_) (λhe=>?_))
    ·obtain⟨y,hy⟩:∃y,ov od[k]=some y:=by
      cases e:ov od[k] with
      |none=>exact absurd (zjv.2 e) hne
      |some y=>exact⟨y,rfl⟩
     obtain⟨q',hq'l,hq'k,hq'y⟩:=hbef hltk (Nat.le_refl _) hy
     have hyn:y<nx.length:=hq'y▸hlt _ (List.getElem_mem hq'l)
     have hyk:y≠od[k]:=hq'y▸hneq q' hq'l (by omega)
     have hT76:=hT75.below (w':=w75.drew) (Below.refl _ _).drew
     refine zj rfl ⟨⟨_,nx.length,nx.length⟩,hT76.t.cell (n:=2) rfl,zj rfl ⟨⟨_,nx.length,nx.length⟩,hT76.t.cell (n:=2) rfl,hT76.getO hkn ?_⟩⟩
     rw[hy]
     refine⟨⟨by simp[ovI],by simpa[ovI] using hyn⟩,zj rfl ⟨_,hT76.d.cell (zjq hyn),⟨⟨by omega,by first |omega | (dsimp only;omega)⟩,zj rfl ⟨hT76.d.wr (by simpa[natL] using hkn),Nw.mk ?_⟩⟩⟩⟩
     have hv:=hD q' hq'l hq'k
     rw[hq'y]at hv
     rw[show Int.toNat (ovI (some y))=y from rfl,if_neg hyk,zq (by omega) (by omega)]
     refine⟨hb75.drew.setCell (by rw[z0];exact hdb) _,ho75.drew.of_block λa ha=>yv (hrb' a ha).2.1 _ _,_,hT76.setD od[k] (dp y+1),λq hq hqk=>?_,λx hx=>?_⟩
     ·by_cases e:q=k
      ·subst e
       simp only[if_true]
       refine⟨by omega,by omega,λe=>(by rw[hy]at e;cases e),λy' hy'=>?_⟩
       rw[hy]at hy'
       cases hy'
       simp[hyk]
      ·have h1:=hD q hq (by omega)
       have h2:=hneq q hq e
       simp only[h2,if_false]
       refine⟨h1.1,h1.2.1,h1.2.2.1,λy' hy'=>?_⟩
       obtain⟨q2,hq2l,hq2k,hq2y⟩:=hbef hq (by omega) hy'
       have:y'≠od[k]:=hq2y▸hneq q2 hq2l (by omega)
       simp only[this,if_false]
       exact h1.2.2.2 y' hy'
     ·have:x≠od[k]:=λe=>hx (e▸List.getElem_mem hltk)
      simp only[this,if_false]
      exact hout x hx
    ·have hnone:ov od[k]=none:=zjv.1 he
     refine⟨hb75,ho75,_,hT75,λq hq hqk=>?_,λx hx=>?_⟩
     ·by_cases e:q=k
      ·subst e
       simp only[if_true]
       exact⟨by omega,by omega,λ_=>trivial,λy' hy'=>by rw[hnone]at hy';cases hy'⟩
      ·have h1:=hD q hq (by omega)
       have h2:=hneq q hq e
       simp only[h2,if_false]
       refine⟨h1.1,h1.2.1,h1.2.2.1,λy' hy'=>?_⟩
       obtain⟨q2,hq2l,hq2k,hq2y⟩:=hbef hq (by omega) hy'
       have:y'≠od[k]:=hq2y▸hneq q2 hq2l (by omega)
       simp only[this,if_false]
       exact h1.2.2.2 y' hy'
     ·have:x≠od[k]:=λe=>hx (e▸List.getElem_mem hltk)
      simp only[this,if_false]
      exact hout x hx
   ·have hkk:k=od.length:=by dsimp only at hgek;omega
    subst hkk
    have hget:∀x∈od,∃q:Nat,∃h:q<od.length,od[q]=x/\rkOf od x=q:=λx hxm=>by
     obtain⟨q,hq,e⟩:=List.mem_iff_getElem.1 hxm
     exact⟨q,hq,e,e▸YG ok.nodup hq⟩
    refine hR w74 tb ov dp hb74 ⟨ob,db,rb,hod▸hT74⟩ hS ⟨λx hxm=>?_,hout,λx hxm hn=>?_,λx hxm y hy=>?_⟩
    ·obtain⟨q,hq,rfl,e⟩:=hget x hxm
     have:=hD q hq hq
     rw[e]
     exact⟨this.1,this.2.1⟩
    ·obtain⟨q,hq,rfl,e⟩:=hget x hxm
     exact(hD q hq hq).2.2.1 hn
    ·obtain⟨q,hq,rfl,e⟩:=hget x hxm
     exact(hD q hq hq).2.2.2 y hy
def inOd(od:List Nat)(i:Int):Bool:=decide (0<=i)&&od.contains i.toNat
theorem zsa(od:List Nat)(i:Nat):inOd od (i:Int)=od.contains i:=by simp[inOd]
theorem zgW{od:List Nat}{i:Int}:inOd od i=true↔∃k:Nat,i=(k:Int)/\k∈od:=by
 unfold inOd
 rw[Bool.and_eq_true,decide_eq_true_iff,List.contains_iff_mem]
 constructor
 ·rintro⟨h1,h2⟩;exact⟨i.toNat,by omega,h2⟩
 ·rintro⟨k,rfl,h⟩;exact⟨by omega,by simpa using h⟩
structure Dt (w:World) (tb:Nat) (nx:List (List Nat)) (ov:Nat->Option Nat) (dp:Nat->Int):Prop where
 ok:NxOk nx
 d:IsD w tb nx ov dp
 s:znj nx (zC nx) ov
 dpo:DpOk (zC nx) ov dp
theorem Dt.below{w w':World}{tb:Nat}{nx:List (List Nat)}{ov:Nat->Option Nat}{dp:Nat->Int}(h:Dt w tb nx ov dp)(hb:Below w.heap.size w w'):Dt w' tb nx ov dp:=⟨h.ok,h.d.below hb,h.s,h.dpo⟩
section
variable {w:World} {R:VWP} {tb:Nat} {nx:List (List Nat)} {ov:Nat->Option Nat} {dp:Nat->Int} {i:Int}
theorem Dt.lt(h:Dt w tb nx ov dp){x:Nat}(hx:x∈zC nx):x<nx.length:=ztE h.ok x hx
theorem znI(h:Dt w tb nx ov dp)(hR:R (.bool (inOd (zC nx) i)) w):cR 195 #[.pointer (some (Gk.blk tb)),.int .i64 i] w R:=by
 refine za.of (zf3 _ i R w ?_) λ_ _ h=>h
 obtain⟨gb,ob,db,rb,hT,hG⟩:=h.d
 refine zD rfl (zf (λh0=>zj rfl ⟨⟨_,nx.length,nx.length⟩,hT.t.cell (n:=2) rfl,zf (λh1=>?_) (λh1=>?_)⟩) (λh0=>?_))
 ·obtain⟨k,rfl⟩:=Int.eq_ofNat_of_zero_le h0
  have hk:k<nx.length:=by dsimp only at h1;omega
  refine hT.getD hk ?_
  have:(dp k !=(-1:Int))=inOd (zC nx) (k:Int):=by
   rw[zsa,Bool.eq_iff_iff,bne_iff_ne,List.contains_iff_mem]
   constructor
   ·intro hne;exact Classical.byContradiction λhn=>hne (h.dpo.out k hn)
   ·intro hm e;have:=(h.dpo.mem k hm).1;omega
  rw[this];exact hR
 ·have:inOd (zC nx) i=false:=by
   rw[<-Bool.not_eq_true,zgW]
   rintro⟨k,rfl,hk⟩
   have:=h.lt hk
   dsimp only at h1
   omega
  rw[this]at hR;exact hR
 ·have:inOd (zC nx) i=false:=by
   rw[<-Bool.not_eq_true,zgW]
   rintro⟨k,rfl,hk⟩
   omega
  rw[this]at hR;exact hR
end
theorem zsY{p:Option Addr}{i:Int}{w:World}{R:VWP}
  (hR:∀w',Blk w' w.heap.size 81 [.pointer p]->Blk w' (w.heap.size+1) 3 [.int .i64 i]->Below w.heap.size w w'->w'.heap.size=w.heap.size+2->R (.func (.func 194) #[] #[.pointer (some (Gk.blk w.heap.size)),.pointer (some (Gk.blk (w.heap.size+1)))]) w') :
  cR 191 #[.pointer p,.int .i64 i] w R:=by
 refine za.of (ziY p i R w ?_) λ_ _ h=>h
 refine Nw.gen λw1 hw1=>Nw.gen λw2 hw2=>?_
 have z1:w1.heap.size=w.heap.size+1:=by rw[hw1];simp
 have h1:Blk w1 w.heap.size 81 [.pointer p]:=by rw[hw1];exact Blk.new w _ #[_]
 have h2:Blk w2 w1.heap.size 3 [.int .i64 i]:=by rw[hw2];exact Blk.new w1 _ #[_]
 dsimp only[zB,Go.Gk.Sl.zw,zi,zu,zb,zh]at h2⊢;rw[z1]at h2⊢
 refine hR w2 (by rw[hw2];exact h1.alloc _) h2 (by rw[hw2,hw1];exact((Below.refl _ _).alloc (Nat.le_refl _) _).alloc (by simp) _) (by rw[hw2];simp[z1])
theorem zrE{y:Value}{tb:Nat}{nx:List (List Nat)}{ov:Nat->Option Nat}{dp:Nat->Int}{i:Int}{pb ib:Nat}{T:TypeId}{w:World}(h:Dt w tb nx ov dp)(hp:Blk w pb T [.pointer (some (Gk.blk tb))])
  (hi:w.cell? (Gk.blk ib)=some (.int .i64 i)) (Inv:Option Nat->World->Prop) (S:World->Prop)
  (h0:inOd (zC nx) i=true->Inv (some i.toNat) w) (h1:inOd (zC nx) i=false->S w) (hkeep:∀o w',Inv o w'->Dt w' tb nx ov dp/\Blk w' pb T [.pointer (some (Gk.blk tb))])
  (hround:∀x w',x∈zC nx->Inv (some x) w'->ZH Tryz.prog Tryz.fs y [.int .i64 (x:Int)] w' λv w''=>(v =.bool true/\Inv (ov x) w'')\/(v =.bool false/\S w''))
  (hend:∀w',Inv none w'->S w'):Calls Tryz.prog 194 #[y,.pointer (some (Gk.blk pb)),.pointer (some (Gk.blk ib))] w (Ret λ_ w'=>S w'):=by
 refine zh2 y (Gk.blk pb) (Gk.blk ib) _ w ⟨_,hp.cell0 rfl,i,hi,znI h ⟨_,rfl,?_⟩⟩
 refine zF (zo (λhin=>⟨i,hi,?_⟩) (λhin=>h1 hin))
 obtain⟨k,rfl,hk⟩:=zgW.1 hin
 refine zk.ghost (λj s w'=>∃o,j=(match o with |none=>0 |some x=>rkOf (zC nx) x+1)/\s=(ovI o,())/\Inv o w'/\∀x,o=some x->x∈zC nx) _ ⟨some k,rfl,rfl,h0 hin,λx e=>by cases e;exact hk⟩ ?_
 rintro _ _ w' ⟨o,rfl,rfl,hI,hm⟩ next hnext
 cases o with
 |none=>exact zE rfl (hend w' hI)
 |some x=>
  have hx:=hm x rfl
  refine zD (by simp[ovI]) (ZH.mono (hround x w' hx hI) λv w'' hv=>?_)
  rcases hv with⟨rfl,hv⟩ | ⟨rfl,hv⟩
  ·refine⟨true,rfl,zE rfl ?_⟩
   obtain⟨h2,h3⟩:=hkeep _ _ hv
   obtain⟨gb,ob,db,rb,hT,hG⟩:=h2.d
   refine⟨_,h3.cell0 rfl,hT.getO (h.lt hx) (hnext _ _ _ ?_ ⟨ov x,rfl,rfl,hv,λz hz=>?_⟩)⟩
   ·cases e:ov x with
    |none=>exact Nat.succ_pos _
    |some z=>have:=(h.s.tr.up x z e).1;simp only;omega
   ·exact(h.s.pr z).1 ((h.s.tr.up x z hz).2)
  ·exact⟨false,rfl,zD rfl hv⟩
theorem zsR{tb:Nat}{nx:List (List Nat)}{ov:Nat->Option Nat}{dp:Nat->Int}{i:Int}{pb ib:Nat}{T T':TypeId}{w:World}(h:Dt w tb nx ov dp)(hp:Blk w pb T [.pointer (some (Gk.blk tb))])
  (hi:Blk w ib T' [.int .i64 i]) {round:Gk.Mk->Nat->Int×Unit->World->(VWP)->Prop} {fin:Gk.Mk->Nat->Nat->World->Prop}
  (hh:∀mk:Gk.Mk,∃Inv:Option Nat->World->Prop,(inOd (zC nx) i=true->Inv (some i.toNat) ((w.alloc (.deferred (some []))).alloc (mk .ready none)))/\
   (inOd (zC nx) i=false->fin mk (w.heap.size+1) w.heap.size ((w.alloc (.deferred (some []))).alloc (mk .ready none)))/\(∀o w',Inv o w'->Dt w' tb nx ov dp/\Blk w' pb T [.pointer (some (Gk.blk tb))])/\
   (∀x w',x∈zC nx->Inv (some x) w'->w'.heap[w.heap.size+1]? =some (mk .ready none)/\round mk (w.heap.size+1) ((x:Int),()) w' λv w''=>(v =.bool true/\Inv (ov x) w'')\/(v =.bool false/\fin mk (w.heap.size+1) w.heap.size w''))/\
   ∀w',Inv none w'->fin mk (w.heap.size+1) w.heap.size w') :
  zik Tryz.prog Tryz.fs (.func (.func 194) #[] #[.pointer (some (Gk.blk pb)),.pointer (some (Gk.blk ib))]) w (T:=Int×Unit) (λs=>[.int .i64 s.1]) round fin:=by
 intro mk hy
 obtain⟨Inv,h0,h1,hk,hr,he⟩:=hh mk
 have hc:Tryz.fs.contains 194=true:=by kernel_rfl
 unfold zm0
 simp only[hc]
 have hb:=zd4 w (.deferred (some [])) (mk .ready none)
 refine zrE (y:=.func (.yield (w.heap.size+1)) #[] #[]) (h.below hb) (hp.below hb) ((hi.below hb).cell0 rfl) Inv _ h0 h1 hk (λx w' hx hI=>?_) he
 obtain⟨h1,h2⟩:=hr x w' hx hI
 exact hy ((x:Int),()) w' _ h1 h2
def DomP(od:List Nat)(ov:Nat->Option Nat)(a b:Int):Prop:=∃a' b':Nat,a=(a':Int)/\b=(b':Int)/\b'∈od/\Anc ov a' b'
set_option maxHeartbeats 2000000 in
theorem zld{tb:Nat}{nx:List (List Nat)}{ov:Nat->Option Nat}{dp:Nat->Int}{a b:Int}{w:World}{R:VWP}(h:Dt w tb nx ov dp)
  (hR:∀v w',Below w.heap.size w w'->(v=true↔DomP (zC nx) ov a b)->R (.bool v) w'):cR 183 #[.pointer (some (Gk.blk tb)),.int .i64 a,.int .i64 b] w R:=by
 refine za.of (zey _ a b R w ?_) λ_ _ h=>h
 unfold ZM
 refine Nw.gen λw1 hw1=>?_
 have hA1:Blk w1 w.heap.size 3 [.int .i64 a]:=by rw[hw1];exact Blk.new w _ #[_]
 have b1:Below w.heap.size w w1:=by rw[hw1];exact(Below.refl _ _).alloc (Nat.le_refl _) _
 have z1:w1.heap.size=w.heap.size+1:=by rw[hw1];simp
 clear hw1
 refine Nw.gen λw2 hw2=>?_
 have hF2:Blk w2 w1.heap.size 4 [.bool false]:=by rw[hw2];exact Blk.new w1 _ #[_]
 have b2':Below w1.heap.size w1 w2:=by rw[hw2];exact(Below.refl _ _).alloc (Nat.le_refl _) _
 have z2:w2.heap.size=w1.heap.size+1:=by rw[hw2];simp
 clear hw2
 have b2:Below w.heap.size w w2:=b1.trans (b2'.mono (by omega))
 refine zsY λw3 hP3 hI3 b3' z3=>⟨_,rfl,?_⟩
 have b3:Below w.heap.size w w3:=b2.trans (b3'.mono (by omega))
 have hA3:=(hA1.below b2').below b3'
 have hF3:=hF2.below b3'
 refine zsR (h.below b3) hP3 hI3 λmk=>?_
 let St:Obj->World->Prop:=λo w'=>Below w.heap.size w w'/\w3.heap.size+1<w'.heap.size/\Blk w' w.heap.size 3 [.int .i64 a]/\Blk w' w1.heap.size 4 [.bool false]/\Blk w' w2.heap.size 81 [.pointer (some (Gk.blk tb))]/\
  w'.heap[w3.heap.size+1]? =some o/\w'.heap[w3.heap.size]? =some (.deferred (some []))
 have hput:∀{o w'} (o':Obj),St o w'->St o' (w'.putObj (w3.heap.size+1) o'):=λ{o w'} o' ⟨g1,g2,g3,g4,g5,g6,g7⟩=>
  ⟨g1.putObj (by omega) _,by simpa using g2,g3.put (by omega) _,g4.put (by omega) _,g5.put (by omega) _,World.putObj_heap_same g2,(World.putObj_heap_other (by omega)).trans g7⟩
 have bl:=zd4 w3 (.deferred (some [])) (mk .ready none)
 have start:St (mk .ready none) ((w3.alloc (.deferred (some []))).alloc (mk .ready none)):=
  ⟨b3.trans (bl.mono (by omega)),by rw[zjX];omega,hA3.below bl,hF3.below bl,hP3.below bl,zn3 _ _ _,zn2 _ _ _⟩
 have finT:∀{o w'},St o w'->DomP (zC nx) ov a b->∀w6,w6=w'.setCell (Gk.blk w1.heap.size) (.bool true)->yJ mk (w3.heap.size+1) .done (some .ret) (w6.putObj (w3.heap.size+1) (mk .done (some .ret))) λw11=>za4 (w3.heap.size::[]) w11 λw12=>ldB w12 (Gk.blk w1.heap.size) λx10=>R (.bool x10) w12:=by
  rintro o w' ⟨g1,g2,g3,g4,g5,g6,g7⟩ hD w6 rfl
  refine⟨World.putObj_heap_same (by simpa[World.setCell] using g2),?_⟩
  refine zdy ((World.putObj_heap_other (by omega)).trans ((World.putObj_heap_other (by omega)).trans ((yv (n:=0) (by omega) _).trans g7))) ⟨true,((((g4.set0 _).put (by omega) _).put (by omega) _).put (by omega) _).cell0 rfl,hR true _ ?_ ⟨λ_=>hD,λ_=>rfl⟩⟩
  exact(((g1.setCell (by show w.heap.size<=w1.heap.size;omega) _).putObj (by omega) _).putObj (by omega) _).putObj (by omega) _
 have finF:∀{w'},St (mk .ready none) w'->¬DomP (zC nx) ov a b->yJ mk (w3.heap.size+1) .ready none w' λw8=>Wr w8 (Gk.blk w1.heap.size)/\Nw (w8.setCell (Gk.blk w1.heap.size) (.bool false)) λw9=>za4 (w3.heap.size::[]) w9 λw10=>ldB w10 (Gk.blk w1.heap.size) λx9=>R (.bool x9) w10:=by
  intro w' hst hD
  refine⟨hst.2.2.2.2.2.1,?_⟩
  obtain⟨g1,g2,g3,g4,g5,g6,g7⟩:=hput (mk .exhausted none) hst
  refine⟨g4.wr0 (by simp),Nw.mk (zdy ((yv (n:=0) (by omega) _).trans g7) ⟨false,((g4.set0 _).put (by omega) _).cell0 rfl,hR false _ ?_ ⟨λe=>(by cases e),λe=>absurd e hD⟩⟩)⟩
  exact(g1.setCell (by show w.heap.size<=w1.heap.size;omega) _).putObj (by omega) _
 refine⟨λo w'=>St (mk .ready none) w'/\(DomP (zC nx) ov a b↔∃x a':Nat,o=some x/\a=(a':Int)/\Anc ov a' x),λhin=>⟨start,?_⟩,λhin=>.inl (finF start ?_),λo w' hI=>⟨h.below hI.1.1,hI.1.2.2.2.2.1⟩,λx w' hx hI=>⟨hI.1.2.2.2.2.2.1,hI.1.2.2.2.2.2.1,Nw.mk ?_⟩,λw' hI=>.inl (finF hI.1 ?_)⟩
 ·obtain⟨k,rfl,hk⟩:=zgW.1 hin
  constructor
  ·rintro⟨a',b',rfl,e,_,h3⟩
   exact⟨k,a',rfl,rfl,by rw[show k=b' by omega];exact h3⟩
  ·rintro⟨x,a',e,rfl,h3⟩
   cases e
   exact⟨a',k,rfl,rfl,hk,h3⟩
 ·rintro⟨a',b',rfl,rfl,h3,_⟩
  have:inOd (zC nx) (b':Int)=true:=zgW.2 ⟨b',rfl,h3⟩
  rw[hin]at this
  cases this
 ·obtain⟨hst,hiff⟩:=hI
  have hst2:=hput (mk .busy none) hst
  obtain⟨g1,g2,g3,g4,g5,g6,g7⟩:=hst2
  refine⟨a,g3.cell0 rfl,zm (λhe=>⟨g4.wr0 (by simp),Nw.gen λw6 hw6=>⟨?_,.inr ⟨rfl,.inr ?_⟩⟩⟩) (λhne=>⟨g6,.inl ⟨rfl,?_,?_⟩⟩)⟩
  ·rw[hw6];exact(yv (n:=0) (by omega) _).trans g6
  ·have hD:DomP (zC nx) ov a b:=hiff.2 ⟨x,x,rfl,he.symm,.refl⟩
   exact finT ⟨g1,g2,g3,g4,g5,g6,g7⟩ hD _ hw6
  ·exact hput _ ⟨g1,g2,g3,g4,g5,g6,g7⟩
  ·rw[hiff]
   constructor
   ·rintro⟨x',a',e,ea,h3⟩
    cases e
    rcases h3.inv with e | ⟨y,hy,h3⟩
    ·exact absurd (by rw[ea,e]) hne
    ·exact⟨y,a',hy,ea,h3⟩
   ·rintro⟨y,a',e,ea,h3⟩
    exact⟨x,a',rfl,ea,.step e h3⟩
 ·rw[hI.2]
  rintro⟨x,a',e,_⟩
  cases e
end Go.Proofs
namespace Go.Proofs
open Go.Gk Go.RowKit Go.Gr
end Go.Proofs
namespace Go.Proofs
open Go.Gk Go.RowKit Go.Gr Go.Dm
def DomR(nx:List (List Nat))(a b:Nat):Prop:=zS nx (-1) b/\(a=b\/¬zS nx (a:Int) b)
section
variable {w:World} {tb:Nat} {nx:List (List Nat)} {ov:Nat->Option Nat} {dp:Nat->Int}
theorem Dt.domR(h:Dt w tb nx ov dp)(a b:Nat):DomR nx a b↔b∈zC nx/\Anc ov a b:=by
 have hw:=h.ok.walkOk
 have hre:∀x,zS nx (-1) x↔x∈zC nx:=λx=>by rw[hw.mem x];exact(zfP h.ok.rows h.ok.pos x).symm
 unfold DomR
 rw[hre b]
 constructor
 ·rintro⟨h1,h2⟩
  exact⟨h1,(h.s.di.iff h.s.tr (λx hx=>(h.s.pr x).2 ((hre x).1 hx)) h.s.fix ((hre b).2 h1)).2 h2⟩
 ·rintro⟨h1,h2⟩
  exact⟨h1,(h.s.di.iff h.s.tr (λx hx=>(h.s.pr x).2 ((hre x).1 hx)) h.s.fix ((hre b).2 h1)).1 h2⟩
end
end Go.Proofs
namespace Go.Proofs
open Go.Gk Go.RowKit Go.Gm Go.Gr
theorem Yc{n k:Nat}{p:Nat->Bool}(hk:k<n)(hp:p k=true)(hu:∀j,j<k->p j=false):(List.range n).find? p=some k:=by
 rw[List.find?_range_eq_some]
 exact⟨hp,List.mem_range.2 hk,λj hj=>by rw[hu j hj];rfl⟩
theorem zai{n k:Nat}{p:Nat->Bool}(h:(List.range n).find? p=some k):k<n/\p k=true/\∀j,j<k->p j=false:=by
 rw[List.find?_range_eq_some]at h
 exact⟨List.mem_range.1 h.2.1,h.1,λj hj=>by have:=h.2.2 j hj;simpa using this⟩
theorem zd7{n:Nat}{p:Nat->Bool}(h:∀k,k<n->p k=false):(List.range n).find? p=none:=
 List.find?_eq_none.2 λk hk=>by rw[h k (List.mem_range.1 hk)];simp
theorem zev{β:Type}{g:Nat->Option β}{n k:Nat}{v:β}(hk:k<n)(h:g k=some v)(hj:∀j,j<k->g j=none):(List.range n).findSome? g=some v:=
 Zf (k:=k) (by rwa[List.length_range]) (by rw[List.getElem_range];exact h) λj h1 h2=>by rw[List.getElem_range];exact hj j h2
theorem zj0{β:Type}{g:Nat->Option β}{n:Nat}(hj:∀j,j<n->g j=none):(List.range n).findSome? g=none:=
 zgN λj h=>by rw[List.getElem_range];exact hj j (by rwa[List.length_range]at h)
theorem zmU{β:Type}{g:Nat->Option β}:∀{n:Nat},(List.range n).findSome? g=none->∀j,j<n->g j=none:=λ{n} h j hj=>
 List.findSome?_eq_none_iff.1 h j (List.mem_range.2 hj)
abbrev Hm:=Int×Int×Int×Bool×Unit
def fn0:FnL:=⟨0,0,0,[],[]⟩
abbrev fx(fl:List FnL)(n:Nat):FnL:=fl.getD n fn0
abbrev bx(bk:List Bk3)(k:Nat):Bk3:=bk.getD k (0,0,0)
def fnO(fl:List FnL)(p:Int):Option Nat:=(List.range fl.length).find? λn=>decide ((fx fl n).at_<p/\p<=(fx fl n).en)
def bkO(bk:List Bk3)(p:Int):Option Nat:=(List.range bk.length).find? λk=>decide ((bx bk k).2.1<=p/\p<(bx bk k).2.2)
def lbO(bk:List Bk3)(id:Int):Option Nat:=(List.range bk.length).find? λk=>(bx bk k).1==id
abbrev mkA(pl:List PI)(id:Int):Int:=zK pl id pl.length
def hmO(pl:List PI)(fl:List FnL)(id:Int):Option Hm:=(fnO fl (mkA pl id)).map λ(n:Nat)=>((n:Int),ovI (bkO (fx fl n).bk (mkA pl id)),mkA pl id,(ix pl (mkA pl id).toNat).1==248,())
structure Fls (pl:List PI) (fl:List FnL):Prop where
 cut:fl=cutF pl pl.length
 tile:∀f∈fl,FnT pl pl.length f
 pw:fl.Pairwise λf g=>f.en<g.at_
 fn:∀f∈fl,FnOk pl pl.length f
 new:∀i j,i<pl.length->j<pl.length->(ix pl i).2.2.1≠0->(ix pl i).2.2.1=(ix pl j).2.2.1->i=j
 label:∀k,k<pl.length->(ix pl k).1=248->(ix pl k).2.2.1≠0
 param:∀k,k<pl.length->(ix pl k).1=55->(ix pl k).2.2.1≠0
 shut:∀k,k<pl.length->(ix pl k).1=56->(ix pl k).2.2.1=0
 phi:∀k,k<pl.length->(ix pl k).1=245->(ix pl k).2.2.2.length % 2=0
 lab:∀f∈fl,(f.bk.map (·.1)).Nodup
theorem zpX:(match frm 55 with |some f=>f.re |none=>false)=true:=by decide +kernel
theorem zrz:(match frm 56 with |some f=>!f.re |none=>false)=true:=by decide +kernel
theorem zs6{bd:Int}{pl:List PI}(hs:(zG bd pl).1=0){k:Nat}(hk:k<pl.length){op:Int}(h:(ix pl k).1=op):∃f,frm op=some f/\(f.re=true->(ix pl k).2.2.1≠0)/\(f.re=false->(ix pl k).2.2.1=0)/\YS f (ix pl k).2.2.2.length=true:=by
 have hf:=(Ye hs).2 k hk
 rw[yg hk]at h⊢
 obtain⟨f,hf,_,h2,_,h4,_⟩:=zfa hf
 rw[h]at hf
 refine⟨f,hf,λe=>?_,λe=>?_,h4⟩
 ·rw[e]at h2
  intro e
  rw[e]at h2
  simp[idP]at h2
 ·rw[e]at h2
  unfold idP at h2
  by_cases hz:pl[k].2.2.1=0
  ·exact hz
  ·rw[if_neg (by simp[hz])]at h2
   cases h2
theorem zsD:(match frm 245 with |some f=>decide (f.fixed.length % 2=0)&&decide (f.rest.length=2) |none=>false)=true:=by decide +kernel
theorem zsC{bd:Int}{pl:List PI}(hs:(zG bd pl).1=0){k:Nat}(hk:k<pl.length)(h:(ix pl k).1=245):(ix pl k).2.2.2.length % 2=0:=by
 obtain⟨f,hf,_,_,hw⟩:=zs6 hs hk h
 have h1:=zsD
 rw[hf]at h1
 have h1:(decide (f.fixed.length % 2=0)&&decide (f.rest.length=2))=true:=h1
 rw[Bool.and_eq_true,decide_eq_true_eq,decide_eq_true_eq]at h1
 unfold YS at hw
 split at hw
 ·cases hw
 ·rw[if_neg (by omega),h1.2,beq_iff_eq]at hw
  omega
theorem Fls.of{bd:Int}{pl:List PI}(hp:PlOk pl)(h0:0<=bd)(h:(zV bd pl).1=0):Fls pl (cutF pl pl.length):=by
 have hw:=znl.of hp h0 h
 obtain⟨_,hl,_⟩:=zeq h
 have hs:=hw.shape
 obtain⟨t1,t2⟩:=zqT hl
 refine⟨rfl,t1,t2,znt hl,λi j hi hj hn e=>?_,λk hk h=>zo5 hs hk h,λk hk h=>?_,λk hk h=>?_,λk hk h=>zsC hs hk h,λf hf=>zjl hp h0 h (znt hl f hf)⟩
 ·by_cases h1:i<j
  ·exact(hw.new j hj (by rw[<-e];exact hn) i h1 hi e).elim
  ·by_cases h2:j<i
   ·exact(hw.new i hi hn j h2 hj e.symm).elim
   ·omega
 ·obtain⟨f,hf,q,_⟩:=zs6 hs hk h
  have h1:=zpX
  rw[hf]at h1
  exact q h1
 ·obtain⟨f,hf,_,q,_⟩:=zs6 hs hk h
  have h1:=zrz
  rw[hf]at h1
  exact q (by simpa using h1)
theorem zf9{fl:List FnL}{n:Nat}(h:n<fl.length):fx fl n∈fl:=by
 unfold fx
 rw[zs h]
 exact List.getElem_mem h
theorem zjG{bk:List Bk3}{n:Nat}(h:n<bk.length):bx bk n∈bk:=by
 unfold bx
 rw[zs h]
 exact List.getElem_mem h
section
variable {pl:List PI} {fl:List FnL} (F:Fls pl fl)
include F
theorem Fls.make{k:Nat}(hk:k<pl.length)(h0:(ix pl k).2.2.1≠0):mkA pl (ix pl k).2.2.1=(k:Int):=by
 unfold mkA zK
 rw[Yc hk (show mk1 pl (ix pl k).2.2.1 k=true by unfold mk1;rw[Bool.and_eq_true];exact⟨beq_self_eq_true _,bne_iff_ne.2 h0⟩) λj hj=>?_]
 unfold mk1
 rw[Bool.and_eq_false_iff]
 left
 rw[beq_eq_false_iff_ne]
 intro e
 have:=F.new j k (by omega) hk (by rw[show(ix pl j).2.2.1=(ix pl k).2.2.1 from e];exact h0) e
 omega
theorem Fls.fnO_at{n:Nat}(hn:n<fl.length){p:Int}(h1:(fx fl n).at_<p)(h2:p<=(fx fl n).en):fnO fl p=some n:=by
 refine Yc hn (decide_eq_true ⟨h1,h2⟩) λj hj=>decide_eq_false λh=>?_
 have:=List.pairwise_iff_getElem.1 F.pw j n (by omega) hn hj
 unfold fx at h h1
 rw[zs (by omega)]at h h1
 omega
theorem Fls.tl{n:Nat}(hn:n<fl.length):∃a e:Nat,(fx fl n).at_=(a:Int)/\(fx fl n).en=(e:Int)/\a<e/\e<pl.length/\(ix pl a).1=54/\(ix pl e).1=56/\Tile pl a e (fx fl n).ps (fx fl n).bk:=(F.tile _ (zf9 hn)).ex
theorem Fls.bl{n k:Nat}(hn:n<fl.length)(hk:k<(fx fl n).bk.length):∃f t:Nat,bx (fx fl n).bk k=((ix pl f).2.2.1,(f:Int),(t:Int))/\f+2<=t/\t<pl.length/\(ix pl f).1=248/\(fx fl n).at_<f/\(t:Int)<=(fx fl n).en:=by
 obtain⟨f,t,h1,h2,h3,h4,_⟩:=((F.fn _ (zf9 hn)).ok _ (zjG hk)).ex
 obtain⟨a,e,q1,q2,q3,q4,_,_,T⟩:=F.tl hn
 have:=T.bks _ (zjG hk)
 rw[h1]at this
 dsimp only at this
 exact⟨f,t,h1,h2,by omega,h4,by omega,by omega⟩
theorem Fls.bk_lt{n j k:Nat}(hn:n<fl.length)(hk:k<(fx fl n).bk.length)(hj:j<k):(bx (fx fl n).bk j).2.2<=(bx (fx fl n).bk k).2.1:=by
 obtain⟨a,e,q1,q2,q3,q4,_,_,T⟩:=F.tl hn
 have:=List.pairwise_iff_getElem.1 T.lt j k (by omega) hk hj
 unfold bx
 rw[zs (by omega),zs hk]
 exact this
theorem Fls.bkO_at{n k:Nat}(hn:n<fl.length)(hk:k<(fx fl n).bk.length){p:Int}(h1:(bx (fx fl n).bk k).2.1<=p)(h2:p<(bx (fx fl n).bk k).2.2):bkO (fx fl n).bk p=some k:=by
 refine Yc hk (decide_eq_true ⟨h1,h2⟩) λj hj=>decide_eq_false λh=>?_
 have:=F.bk_lt hn hk hj
 omega
theorem Fls.homeP{n:Nat}(hn:n<fl.length){p:Int}(hp:p∈(fx fl n).ps):∃k:Nat,p=(k:Int)/\k<pl.length/\hmO pl fl (ix pl k).2.2.1=some ((n:Int),-1,(k:Int),false,()):=by
 obtain⟨a,e,q1,q2,q3,q4,_,_,T⟩:=F.tl hn
 obtain⟨k,rfl,h1,h2,h3⟩:=T.par p hp
 have hk:k<pl.length:=by omega
 refine⟨k,rfl,hk,?_⟩
 unfold hmO
 rw[F.make hk (F.param k hk h3),F.fnO_at hn (by omega) (by omega),Option.map_some,show bkO (fx fl n).bk (k:Int)=none from zd7 λj hj=>decide_eq_false λh=>?_]
 ·show some ((n:Int),(-1:Int),(k:Int),(ix pl k).1==248,())=_
  rw[h3]
  rfl
 ·have:=T.pb _ hp _ (zjG hj)
  omega
theorem Fls.homeB{n k i:Nat}(hn:n<fl.length)(hk:k<(fx fl n).bk.length)(h1:(bx (fx fl n).bk k).2.1<=(i:Int))(h2:(i:Int)<(bx (fx fl n).bk k).2.2)(h0:(ix pl i).2.2.1≠0) :
  hmO pl fl (ix pl i).2.2.1=some ((n:Int),(k:Int),(i:Int),(ix pl i).1==248,()):=by
 obtain⟨f,t,hb,h3,h4,h5,h6,h7⟩:=F.bl hn hk
 have e1:(bx (fx fl n).bk k).2.1=(f:Int):=by rw[hb]
 have e2:(bx (fx fl n).bk k).2.2=(t:Int):=by rw[hb]
 unfold hmO
 rw[F.make (by omega) h0,F.fnO_at hn (by omega) (by omega),Option.map_some,F.bkO_at hn hk h1 h2]
 rfl
theorem Fls.homeL{n k:Nat}(hn:n<fl.length)(hk:k<(fx fl n).bk.length):hmO pl fl (bx (fx fl n).bk k).1=some ((n:Int),(k:Int),(bx (fx fl n).bk k).2.1,true,()):=by
 obtain⟨f,t,hb,h3,h4,h5,h6,h7⟩:=F.bl hn hk
 have:=F.homeB hn hk (i:=f) (by rw[hb];exact Int.le_refl _) (by rw[hb];dsimp only;omega) (F.label f (by omega) h5)
 rw[hb]
 rw[h5]at this
 exact this
theorem Fls.homeI{n k i:Nat}(hn:n<fl.length)(hk:k<(fx fl n).bk.length)(h1:(bx (fx fl n).bk k).2.1<(i:Int))(h2:(i:Int)<(bx (fx fl n).bk k).2.2)(h0:(ix pl i).2.2.1≠0) :
  hmO pl fl (ix pl i).2.2.1=some ((n:Int),(k:Int),(i:Int),false,()):=by
 rw[F.homeB hn hk (by omega) h2 h0]
 obtain⟨a,e,q1,q2,q3,q4,_,_,T⟩:=F.tl hn
 have:=T.nl _ (zjG hk) i h1 h2
 rw[beq_eq_false_iff_ne.2 this]
theorem Fls.home_inv{id:Int}{h:Hm}(hh:hmO pl fl id=some h):∃n i:Nat,h.1=(n:Int)/\n<fl.length/\i<pl.length/\h.2.2.1=(i:Int)/\(ix pl i).2.2.1=id/\id≠0/\(fx fl n).at_<(i:Int)/\(i:Int)<(fx fl n).en/\
  ((h.2.1=-1/\(i:Int)∈(fx fl n).ps/\h.2.2.2.1=false)\/∃k,k<(fx fl n).bk.length/\h.2.1=(k:Int)/\(bx (fx fl n).bk k).2.1<=(i:Int)/\(i:Int)<(bx (fx fl n).bk k).2.2/\h.2.2.2.1=((ix pl i).1==248)):=by
 unfold hmO at hh
 cases hf:fnO fl (mkA pl id) with
 |none=>rw[hf]at hh;cases hh
 |some n=>
  rw[hf,Option.map_some,Option.some.injEq]at hh
  obtain⟨hn,hd,_⟩:=zai hf
  obtain⟨d1,d2⟩:=of_decide_eq_true hd
  obtain⟨a,e,q1,q2,q3,q4,q5,q6,T⟩:=F.tl hn
  have h0:0<=mkA pl id:=by omega
  obtain⟨i,hi⟩:=Int.eq_ofNat_of_zero_le h0
  have hfi:(List.range pl.length).find? (mk1 pl id)=some i:=by
   unfold mkA zK at hi
   cases hq:(List.range pl.length).find? (mk1 pl id) with
   |none=>rw[hq]at hi;exact absurd hi (by simp)
   |some j=>rw[hq]at hi;congr 1;have hi:(j:Int)=(i:Int):=hi;omega
  obtain⟨hil,hm,_⟩:=zai hfi
  unfold mk1 at hm
  rw[Bool.and_eq_true,beq_iff_eq,bne_iff_ne]at hm
  have hm1:(ix pl i).2.2.1=id:=hm.1
  rw[hi]at hh d1 d2
  have hie:i≠e:=λx=>by
   subst x
   exact hm.2 (hm1▸F.shut i hil q6)
  have hlt:(i:Int)<(fx fl n).en:=by omega
  refine⟨n,i,by rw[<-hh],hn,hil,by rw[<-hh],hm1,hm.2,d1,hlt,?_⟩
  rcases T.all i (by omega) (by omega) with hps | ⟨b,hb,b1,b2⟩
  ·left
   obtain⟨k,_,_,hk⟩:=F.homeP hn hps
   have:k=i:=by omega
   subst this
   rw[hm1]at hk
   have he:hmO pl fl id=some h:=by unfold hmO;rw[hf,Option.map_some,hi,hh]
   rw[hk,Option.some.injEq]at he
   rw[<-he]
   exact⟨rfl,hps,rfl⟩
  ·right
   obtain⟨k,hk,rfl⟩:=List.getElem_of_mem hb
   have hbx:bx (fx fl n).bk k=(fx fl n).bk[k]:=zs hk
   refine⟨k,hk,?_,by rw[hbx];exact b1,by rw[hbx];exact b2,by rw[<-hh];rfl⟩
   rw[<-hh]
   show ovI (bkO (fx fl n).bk (i:Int))=_
   rw[F.bkO_at hn hk (by rw[hbx];exact b1) (by rw[hbx];exact b2)]
   rfl
end
def ownP(pl:List PI)(fl:List FnL)(n:Nat)(id:Int):Bool:=match hmO pl fl id with
 |some h=>h.1==(n:Int)&&!h.2.2.2.1
 |none=>false
open Classical in
noncomputable def mayU(pl:List PI)(fl:List FnL)(nx:List (List Nat))(n:Nat)(id:Int)(k:Nat)(p:Int):Bool:=
 if ownP pl fl n id=true/\zS nx (-1) k then(match bkO (fx fl n).bk (mkA pl id) with
  |none=>true
  |some h=>if h=k then decide (mkA pl id<p) else decide (¬zS nx (h:Int) k)) else true
def valN(al:List Ag):Nat->List Int
 | 0=>[]
 |k+1=>if k % 2=0 then valN al k++[(al.getD k ag0).2.1] else valN al k
def parN(al:List Ag):Nat->List Int
 | 0=>[]
 |k+1=>if k % 2=0 then parN al k else parN al k++[(al.getD k ag0).2.1]
def lbN(bk:List Bk3)(id:Int):Nat:=(lbO bk id).getD 0
def zaf(bk:List Bk3)(nx:List (List Nat))(k:Nat):List Int:=((zM nx).getD k []).map λp=>(bx bk p).1
def othP(pl:List PI)(fl:List FnL)(n:Nat)(id:Int):Bool:=match hmO pl fl id with
 |some h=>h.1 !=(n:Int)
 |none=>false
open Classical in
noncomputable def fltU(pl:List PI)(fl:List FnL)(nx:List (List Nat))(n k i:Nat):Int:=
 if (zL pl i).any (othP pl fl n)=true then 192
 else if (ix pl i).1≠245 then(if (zL pl i).any (λid=>!mayU pl fl nx n id k i)=true then 190 else 0)
 else if ¬(zaf (fx fl n).bk nx k).Perm (parN (ix pl i).2.2.2 (ix pl i).2.2.2.length) then 191
 else if (List.range ((ix pl i).2.2.2.length / 2)).any (λj=>!mayU pl fl nx n ((ix pl i).2.2.2.getD (2*j) ag0).2.1 (lbN (fx fl n).bk ((ix pl i).2.2.2.getD (2*j+1) ag0).2.1) (bx (fx fl n).bk (lbN (fx fl n).bk ((ix pl i).2.2.2.getD (2*j+1) ag0).2.1)).2.2)=true then 190
 else 0
abbrev nxF(pl:List PI)(fl:List FnL)(n:Nat):List (List Nat):=Zd (Yd pl (fx fl n).bk)
noncomputable def bodK(pl:List PI)(fl:List FnL)(n k:Nat):Option (Int×Int):=(List.range pl.length).findSome? λ(i:Nat)=>
 if ((bx (fx fl n).bk k).2.1<=(i:Int)/\(i:Int)<(bx (fx fl n).bk k).2.2)/\fltU pl fl (nxF pl fl n) n k i≠0 then some (fltU pl fl (nxF pl fl n) n k i,(i:Int)) else none
noncomputable def bodE(pl:List PI)(fl:List FnL)(n:Nat):Option (Int×Int):=(List.range (fx fl n).bk.length).findSome? (bodK pl fl n)
noncomputable def flwE(x:Mo)(pl:List PI)(fl:List FnL)(n:Nat):Option (Int×Int):=if (gnwE x pl (fx fl n)).1≠0 then some (gnwE x pl (fx fl n)) else bodE pl fl n
noncomputable def floE(x:Mo)(pl:List PI):Int×Int:=if (zV x.2.1 pl).1≠0 then((zV x.2.1 pl).1,((zV x.2.1 pl).2:Int)) else
 match (List.range (cutF pl pl.length).length).findSome? (flwE x pl (cutF pl pl.length)) with
 |some p=>p
 |none=>(0,0)
end Go.Proofs
namespace Go.Gk
open Go.RowKit Go.MapKept
variable {P:Program} {α:Type}
def zW:List (Int×α)->Int->Option α
 | [],_=>none
 |p::r,k=>if k=p.1 then some p.2 else zW r k
def setQ:List (Int×α)->Int->α->List (Int×α)
 | [],k,v=>[(k,v)]
 |p::r,k,v=>if k=p.1 then(k,v)::r else p::setQ r k v
def delQ:List (Int×α)->Int->List (Int×α)
 | [],_=>[]
 |p::r,k=>if k=p.1 then r else p::delQ r k
theorem zhs(k:Int)(v:α)(k':Int):∀L,zW (setQ L k v) k'=if k'=k then some v else zW L k'
 | []=>by simp only[setQ,zW]
 |p::r=>by
  have ih:=zhs k v k' r
  simp only[setQ]
  split
  ·rename_i e
   simp only[zW]
   split
   ·rfl
   ·rename_i e'
    rw[if_neg (by rw[<-e];exact e')]
  ·rename_i e
   simp only[zW]
   split
   ·rename_i e'
    rw[if_neg (by rw[e'];exact λh=>e h.symm)]
   ·exact ih
theorem zfH{k:Int}:∀{L:List (Int×α)},zW L k=none↔k ∉ L.map (·.1)
 | []=>by simp[zW]
 |p::r=>by
  simp only[zW,List.map_cons,List.mem_cons,not_or]
  split
  ·rename_i e
   simp[e]
  ·rename_i e
   rw[zfH (L:=r)]
   simp[e]
theorem zmZ(k:Int)(v:α):∀L:List (Int×α),(setQ L k v).map (·.1)=if k∈L.map (·.1) then L.map (·.1) else L.map (·.1)++[k]
 | []=>by simp[setQ]
 |p::r=>by
  simp only[setQ]
  split
  ·rename_i e
   simp[e]
  ·rename_i e
   rw[List.map_cons,zmZ k v r,List.map_cons]
   by_cases h:k∈r.map (·.1)
   ·rw[if_pos h,if_pos (List.mem_cons_of_mem _ h)]
   ·rw[if_neg h,if_neg (by rw[List.mem_cons];exact λq=>q.elim e h)]
    rfl
theorem zlU{k:Int}{v:α}{L:List (Int×α)}(h:(L.map (·.1)).Nodup):((setQ L k v).map (·.1)).Nodup:=by
 rw[zmZ]
 split
 ·exact h
 ·rename_i e
  exact List.nodup_append.2 ⟨h,by simp,λa ha b hb=>by rw[List.mem_singleton.1 hb];rintro rfl;exact e ha⟩
theorem zol(k:Int):∀L:List (Int×α),(delQ L k).Sublist L
 | []=>.slnil
 |p::r=>by
  simp only[delQ]
  split
  ·exact List.sublist_cons_self ..
  ·exact(zol k r).cons_cons p
theorem zl0{k:Int}{L:List (Int×α)}(h:(L.map (·.1)).Nodup):((delQ L k).map (·.1)).Nodup:=h.sublist ((zol k L).map _)
theorem zmL(k k':Int):∀{L:List (Int×α)},(L.map (·.1)).Nodup->zW (delQ L k) k'=if k'=k then none else zW L k'
 | [],_=>by simp[delQ,zW]
 |p::r,hd=>by
  rw[List.map_cons,List.nodup_cons]at hd
  have ih:=zmL k k' hd.2
  simp only[delQ]
  split
  ·rename_i e
   simp only[zW]
   by_cases e':k'=k
   ·rw[if_pos e',zfH,e',e]
    exact hd.1
   ·rw[if_neg e',if_neg (by rw[<-e];exact e')]
  ·rename_i e
   simp only[zW,ih]
   by_cases e':k'=p.1
   ·rw[if_pos e',if_pos e',if_neg (by rw[e'];exact λh=>e h.symm)]
   ·rw[if_neg e',if_neg e']
theorem zm3{k:Int}:∀{L:List (Int×α)},zW L k=none->delQ L k=L
 | [],_=>rfl
 |p::r,h=>by
  simp only[zW]at h
  split at h
  ·cases h
  ·rename_i e
   simp only[delQ]
   rw[if_neg e,zm3 h]
structure IsMq (w:World) (r:Nat) (f:α->Value) (L:List (Int×α)):Prop where
 ex:∃es clock,w.heap[r]? =some (.map es clock)/\es.toList.map (λe=>(e.key,e.val))=(L.map λp=>(Value.int .u32 p.1,f p.2))/\(∀x∈es.toList,x.born<clock)/\(es.toList.map (·.born)).Nodup
 nd:(L.map (·.1)).Nodup
variable {f:α->Value} {w w':World} {r:Nat} {L:List (Int×α)}
theorem IsMq.lt(h:IsMq w r f L):r<w.heap.size:=by
 obtain⟨es,c,h,_⟩:=h.ex
 exact(Array.getElem?_eq_some_iff.1 h).1
theorem IsMq.of_block(h:IsMq w r f L)(hb:w'.heap[r]? =w.heap[r]?):IsMq w' r f L:=by
 obtain⟨es,c,h1,h2⟩:=h.ex
 exact⟨⟨es,c,hb.trans h1,h2⟩,h.nd⟩
theorem IsMq.below(h:IsMq w r f L)(hb:Below w.heap.size w w'):IsMq w' r f L:=h.of_block (hb.block r h.lt)
theorem IsMq.new(w:World)(f:α->Value):IsMq (w.alloc (.map #[] 0)) w.heap.size f []:=⟨⟨#[],0,by show(w.heap.push _)[w.heap.size]? =_;simp,rfl,(by simp),by simp⟩,by simp⟩
theorem IsMq.notBlk(h:IsMq w r f L){b:Nat}{T:TypeId}{cs:List Value}(hB:Blk w b T cs):r≠b:=by
 rintro rfl
 obtain⟨es,c,h,_⟩:=h.ex
 have:=(show w.heap[r]? =_ from hB).symm.trans h
 simp at this
theorem zja(f:α->Value)(k:Int):∀(es:List MapEntry) (L:List (Int×α)) (i:Nat),es.map (λe=>(e.key,e.val))=(L.map λp=>(Value.int .u32 p.1,f p.2))->
  ∃o,Instr.findNow (.int .u32) (.int .u32 k) es i=some o/\(match o with
   |none=>zW L k=none
   |some (j,v)=>∃m x,j=i+m/\m<es.length/\v=f x/\zW L k=some x/\(es.eraseIdx m).map (λe=>(e.key,e.val))=((delQ L k).map λp=>(Value.int .u32 p.1,f p.2))/\∃e,es[m]? =some e/\e.key =.int .u32 k/\
     ∀v',(es.modify m λe=>{e with key:=.int .u32 k,val:=f v'}).map (λe=>(e.key,e.val))=(setQ L k v').map λp=>(Value.int .u32 p.1,f p.2))
 | [],[],i,_=>⟨none,rfl,rfl⟩
 | [],_::_,_,h=>by simp at h
 |_::_,[],_,h=>by simp at h
 |e::es,p::L,i,h=>by
  simp only[List.map_cons,List.cons.injEq,Prod.mk.injEq]at h
  obtain⟨⟨h1,h2⟩,h3⟩:=h
  unfold Instr.findNow
  rw[h1]
  simp only[Instr.sameNow,if_true]
  by_cases hk:k=p.1
  ·rw[show(k==p.1)=true from beq_iff_eq.2 hk]
   refine⟨some (i,e.val),rfl,0,p.2,rfl,by simp,h2,by simp[zW,hk],by simp[delQ,hk,h3],e,rfl,by rw[h1,hk],λv'=>?_⟩
   simp[setQ,hk,h3]
  ·rw[show(k==p.1)=false from beq_eq_false_iff_ne.2 hk]
   obtain⟨o,ho,hm⟩:=zja f k es L (i+1) h3
   refine⟨o,ho,?_⟩
   cases o with
   |none=>simpa[zW,hk] using hm
   |some q=>
    obtain⟨j,v⟩:=q
    obtain⟨m,x,g1,g2,g3,g4,gd,e',g5,g6,g7⟩:=hm
    refine⟨m+1,x,by omega,by simp;omega,g3,by simpa[zW,hk] using g4,by simp[delQ,hk,h1,h2,gd],e',by simpa using g5,g6,λv'=>?_⟩
    have:=g7 v'
    simp[setQ,hk,h1,h2,this]
theorem zki{t kt et:TypeId}(ht:P.underlying t=some (.map kt et))(hk:P.underlying kt=some (.int .u32)){d:α}(hz:∃i,P.info? et=some i/\i.zero=some (f d))(h:IsMq w r f L)(k:Int)(ok:Bool) :
  (Instr.lookup t (.map (some r)) (.int .u32 k) ok).run P w =.ok (if ok then .tuple #[f ((zW L k).getD d),.bool (zW L k).isSome] else f ((zW L k).getD d)) w:=by
 obtain⟨es,c,hb,hes,_⟩:=h.ex
 obtain⟨i,hi,hzi⟩:=hz
 obtain⟨o,ho,hm⟩:=zja f k es.toList L 0 hes
 unfold Instr.lookup
 have hck:∀e,(Instr.checkKey e 10000 kt (.int .u32 k)).run P w =.ok () w:=λe=>run_checkKey (d:=.int .u32) hk (by simp[IsKey]) e 9999
 have hg:(getObj r).run P w =.ok (.map es c) w:=Go.MapKept.run_getObj_map hb
 simp only[Sem.run_bind,run_underlying ht,Result.andThen_ok,hg,Sem.run_pure,hck,run_findKey hk ho]
 cases o with
 |none=>
  have hzr:(zeroValue et).run P w =.ok (f d) w:=by simp[zeroValue,typeInfo,hi,hzi,Result.andThen]
  have hm:zW L k=none:=hm
  simp only[Sem.run_bind,hzr,Result.andThen_ok,Sem.run_pure,hm,Option.getD_none,Option.isSome_none]
 |some q=>
  obtain⟨j,v⟩:=q
  obtain⟨m,x,g1,g2,g3,g4,_⟩:=hm
  simp only[Sem.run_bind,Sem.run_pure,Result.andThen_ok,g3,g4,Option.getD_some,Option.isSome_some]
abbrev aggQ(ks:List BK)(t:HL ks):Value:=.agg (HL.cells ks t).toArray
theorem zpO{ks:List BK}{L:List (Int×HL ks)}{t kt et:TypeId}(ht:P.underlying t=some (.map kt et))(hk:P.underlying kt=some (.int .u32)){d:HL ks}(hz:∃i,P.info? et=some i/\i.zero=some (aggQ ks d))(h:IsMq w r (aggQ ks) L){k:Int}
  {φ:HL ks->Bool->Prop} (hφ:φ ((zW L k).getD d) (zW L k).isSome):zhr P t (.map (some r)) (.int .u32 k) ks w φ:=⟨(zW L k).getD d,(zW L k).isSome,zki ht hk hz h k true,hφ⟩
theorem zrk{ks:List BK}{L:List (Int×HL ks)}{t kt et:TypeId}(ht:P.underlying t=some (.map kt et))(hk:P.underlying kt=some (.int .u32)){d:HL ks}(hz:∃i,P.info? et=some i/\i.zero=some (aggQ ks d))(h:IsMq w r (aggQ ks) L){k:Int}
  {φ:HL ks->Prop} (hφ:φ ((zW L k).getD d)):zlG P t (.map (some r)) (.int .u32 k) ks w φ:=⟨(zW L k).getD d,zki ht hk hz h k false,hφ⟩
theorem zrl{κ:IntKind}{L:List (Int×Int)}{t kt et:TypeId}(ht:P.underlying t=some (.map kt et))(hk:P.underlying kt=some (.int .u32))(hz:∃i,P.info? et=some i/\i.zero=some (.int κ 0))(h:IsMq w r (Value.int κ) L){k:Int}
  {φ:Int->Prop} (hφ:φ ((zW L k).getD 0)):zlF P t (.map (some r)) (.int .u32 k) (BK.int κ) w φ:=⟨(zW L k).getD 0,zki ht hk hz h k false,hφ⟩
theorem zho(r:Nat)(w:World)(ob:Obj):Go.Proofs.Chg r w {w with heap:=w.heap.setIfInBounds r ob}:=⟨rfl,rfl,rfl,by simp,λi hi=>by simp[Array.getElem?_setIfInBounds_ne (Ne.symm hi)]⟩
theorem zkZ{t kt et:TypeId}(ht:P.underlying t=some (.map kt et))(hk:P.underlying kt=some (.int .u32))(h:IsMq w r f L){k:Int}{v:α}{y:Value}(hy:y=f v){K:World->Prop}
  (hK:∀w',IsMq w' r f (setQ L k v)->Go.Proofs.Chg r w w'->K w'):updW P t (.map (some r)) (.int .u32 k) y w K:=by
 subst hy
 have hlt:=h.lt
 obtain⟨⟨es,c,hb,hes,hstamp,hnd⟩,hkd⟩:=h
 obtain⟨o,ho,hm⟩:=zja f k es.toList L 0 hes
 have hck:∀e,(Instr.checkKey e 10000 kt (.int .u32 k)).run P w =.ok () w:=λe=>run_checkKey (d:=.int .u32) hk (by simp[IsKey]) e 9999
 have hg:(getObj r).run P w =.ok (.map es c) w:=Go.MapKept.run_getObj_map hb
 unfold updW Instr.mapUpdate
 simp only[Sem.run_bind,run_underlying ht,Result.andThen_ok,hg,Sem.run_pure,hck,run_findKey hk ho]
 cases o with
 |none=>
  simp only[run_setObj_map _ hb]
  refine⟨_,rfl,hK _ ⟨⟨_,_,(heap_set hb).1,?_,λx hx=>?_,?_⟩,zlU hkd⟩ (zho _ _ _)⟩
  rotate_left
  ·rw[Array.toList_push]at hx
   rcases List.mem_append.1 hx with hx |hx
   ·exact Nat.lt_succ_of_lt (hstamp x hx)
   ·rw[List.mem_singleton.1 hx]
    exact Nat.lt_succ_self c
  ·rw[Array.toList_push,List.map_append]
   refine List.nodup_append.2 ⟨hnd,by simp,?_⟩
   intro a ha b hb e
   obtain⟨x,hx,rfl⟩:=List.mem_map.1 ha
   simp only[List.map_cons,List.map_nil,List.mem_singleton]at hb
   have:=hstamp x hx
   omega
  simp only[Array.toList_push,List.map_append,hes,List.map_cons,List.map_nil]
  have:∀L:List (Int×α),zW L k=none->setQ L k v=L++[(k,v)]:=by
   intro L
   induction L with
   |nil=>intro _;rfl
   |cons p r ih=>
    intro hn
    simp only[zW]at hn
    split at hn
    ·cases hn
    ·rename_i e
     simp only[setQ]
     rw[if_neg e,ih hn]
     rfl
  rw[this L hm]
  simp
 |some q=>
  obtain⟨j,v0⟩:=q
  obtain⟨m,x,g1,g2,g3,g4,_,e,g5,g6,g7⟩:=hm
  have hj:j=m:=by omega
  subst hj
  have hst:(Instr.keyThatStays (((es[j]?).map (·.key)).getD (.int .u32 k)) (.int .u32 k)).run P w =.ok (.int .u32 k) w:=by
   have:((es[j]?).map (·.key)).getD (.int .u32 k) =.int .u32 k:=by
    rw[<-Array.getElem?_toList,g5]
    exact g6
   rw[this]
   unfold Instr.keyThatStays
   rw[if_pos (by simp[Instr.sameBits])]
   rfl
  simp only[Sem.run_bind,hst,Result.andThen_ok,run_setObj_map _ hb]
  have hbn:(es.modify j λe=>{e with key:=.int .u32 k,val:=f v}).toList.map (·.born)=es.toList.map (·.born):=by
   rw[Array.toList_modify]
   apply List.ext_getElem
   ·simp
   ·intro n q1 q2
    simp only[List.getElem_map,List.getElem_modify]
    split<;>rfl
  refine⟨_,rfl,hK _ ⟨⟨_,_,(heap_set hb).1,?_,λx hx=>?_,by rw[hbn];exact hnd⟩,zlU hkd⟩ (zho _ _ _)⟩
  rotate_left
  ·have:x.born∈es.toList.map (·.born):=by rw[<-hbn];exact List.mem_map.2 ⟨x,hx,rfl⟩
   obtain⟨y,hy,e⟩:=List.mem_map.1 this
   rw[<-e]
   exact hstamp y hy
  have:=g7 v
  rw[<-this]
  congr 1
  rw[Array.toList_modify]
theorem ztd{t kt et:TypeId}(ht:P.underlying t=some (.map kt et))(hk:P.underlying kt=some (.int .u32))(h:IsMq w r f L){k:Int}{K:World->Prop}
  (hK:∀w',IsMq w' r f (delQ L k)->Go.Proofs.Chg r w w'->K w') {ts:Array TypeId} (hts:ts[0]? =some t):delS P ts (.map (some r)) (.int .u32 k) w K:=by
 obtain⟨⟨es,c,hb,hes,hstamp,hnd⟩,hkd⟩:=h
 obtain⟨o,ho,hm⟩:=zja f k es.toList L 0 hes
 have hck:∀e,(Instr.checkKey e 10000 kt (.int .u32 k)).run P w =.ok () w:=λe=>run_checkKey (d:=.int .u32) hk (by simp[IsKey]) e 9999
 have hg:(getObj r).run P w =.ok (.map es c) w:=Go.MapKept.run_getObj_map hb
 unfold delS Builtin.delete_
 rw[hts]
 simp only[List.getElem?_toArray,List.getElem?_cons_zero,List.getElem?_cons_succ,Sem.run_bind,run_underlying ht,Result.andThen_ok,hg,Sem.run_pure,hck,run_findKey hk ho]
 cases o with
 |none=>
  simp only[Sem.run_bind,run_setObj_map _ hb,Result.andThen_ok,Sem.run_pure]
  have hm:zW L k=none:=hm
  exact⟨_,rfl,hK _ ⟨⟨_,_,(heap_set hb).1,by rw[zm3 hm];exact hes,hstamp,hnd⟩,zl0 hkd⟩ (zho _ _ _)⟩
 |some q=>
  obtain⟨j,v0⟩:=q
  obtain⟨m,x,g1,g2,g3,g4,gd,_⟩:=hm
  have hj:j=m:=by omega
  subst hj
  simp only[Sem.run_bind,run_setObj_map _ hb,Result.andThen_ok,Sem.run_pure]
  have hl:j<es.size:=by simpa using g2
  have hel:(es.eraseIdxIfInBounds j).toList=es.toList.eraseIdx j:=by
   unfold Array.eraseIdxIfInBounds
   rw[dif_pos hl]
   simp
  refine⟨_,rfl,hK _ ⟨⟨_,_,(heap_set hb).1,by rw[hel];exact gd,λx hx=>?_,?_⟩,zl0 hkd⟩ (zho _ _ _)⟩
  ·rw[hel]at hx
   exact hstamp x (List.mem_of_mem_eraseIdx hx)
  ·rw[hel]
   exact hnd.sublist ((List.eraseIdx_sublist ..).map _)
end Go.Gk
