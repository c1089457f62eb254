/- ConstsFive, part 9; made small by a program. -/
import Derived.Test.YtnplhdcedgcdhaaGreatDoorProg
import Derived.Sort.AssemblyPlain
import Derived.Test.YtnplhdcedgcdhaaGreatDoorPConstsFive8
set_option linter.unusedVariables false
namespace Go.Proofs
open Go.Gk Go.RowKit Go.Gm
section
variable {w w':World} {A:Nat->Prop} {pb n:Nat} {x:Mo} {pl:List PI} {T:TyL} {R:VWP} {bd:Int}
theorem zeo(h:IsRl w A pb x pl T)(hp:PlOk pl)(hR:∀w' r,Wl w w' r (idsC pl pl.length)->R (.slice r.a r.l r.c) w') :
  cR 10 #[.pointer (some (blk pb))] w R:=by
 refine za.of (zb9 _ R w ?_) λ_ _ h=>h
 obtain⟨⟨tb,h1,h2⟩,hN⟩:=h
 have hnl:=hN.len
 have hpl:=hp.len
 refine zn.ghost (λm (st:Sl×Int×Unit) w'=>∃(r:Sl) (k:Nat),st=(r,(k:Int),())/\k<=pl.length/\m=pl.length-k/\Wl w w' r (idsC pl k)) pl.length ⟨⟨none,0,0⟩,0,rfl,Nat.zero_le _,rfl,Wl.nil w⟩ ?_
 rintro _ _ w1 ⟨r,k,rfl,hk,rfl,hW⟩ next hnext
 have b1:=hW.below
 refine zf rfl ((h1.below b1).rS (n:=2) (x:=x.2.2.1) rfl (zk (λg=>?_) (λg=>?_)))
 rotate_left
 ·have hke:k=pl.length:=by dsimp only at g;omega
  subst hke
  exact hR w1 r hW
 have hkl:k<pl.length:=by dsimp only at g;omega
 have hix:=zK hkl
 have hil:=zkw pl k
 refine zl.cut (λ(st:Sl×Unit) w'=>∃r',st=(r',())/\Wl w w' r' (idsC pl (k+1))) ?_ ?_
 rotate_left
 ·rintro _ w5 ⟨r',rfl,hW'⟩
  dsimp only
  rw[zz (by omega)]
  exact hnext (pl.length-(k+1)) _ w5 (by omega) ⟨r',k+1,rfl,by omega,rfl,hW'⟩
 obtain⟨a,ha⟩:=hN.base_ hkl
 obtain⟨t,hc,_⟩:=(hN.below b1).elem a ha k hkl
 refine zf rfl ((h1.below b1).rS (n:=2) (x:=x.2.2.1) rfl ⟨⟨by dsimp only;omega,by dsimp only;omega⟩,zf ha ⟨pl[k].1,by have:=hc 0 (by decide);simpa using this,zmN ⟨_,rfl,zC (λq=>?_) (λq=>⟨r,rfl,?_⟩)⟩⟩⟩)
 ·refine zf rfl ((h1.below b1).rS (n:=2) (x:=x.2.2.1) rfl ⟨⟨by dsimp only;omega,by dsimp only;omega⟩,zf ha ⟨pl[k].2.2.1,by rw[zt];exact hc 2 (by decide),hW.push (by omega) λr' w4 hW4 _=>⟨r',rfl,?_⟩⟩⟩)
  rw[zls,if_pos (by rw[hix];exact q),hix]
  exact hW4
 ·rw[zls,if_neg (by rw[hix,q];simp),List.append_nil]
  exact hW
theorem zb6(h:IsRl w A pb x pl T)(hp:PlOk pl)(hR:∀w' r,Wl w w' r (idsV pl pl.length)->R (.slice r.a r.l r.c) w') :
  cR 15 #[.pointer (some (blk pb))] w R:=by
 refine za.of (Ye _ R w ?_) λ_ _ h=>h
 obtain⟨⟨tb,h1,h2⟩,hN⟩:=h
 have hnl:=hN.len
 have hpl:=hp.len
 refine zn.ghost (λm (st:Sl×Int×Unit) w'=>∃(r:Sl) (k:Nat),st=(r,(k:Int),())/\k<=pl.length/\m=pl.length-k/\Wl w w' r (idsV pl k)) pl.length ⟨⟨none,0,0⟩,0,rfl,Nat.zero_le _,rfl,Wl.nil w⟩ ?_
 rintro _ _ w1 ⟨r,k,rfl,hk,rfl,hW⟩ next hnext
 have b1:=hW.below
 refine zf rfl ((h1.below b1).rS (n:=2) (x:=x.2.2.1) rfl (zk (λg=>?_) (λg=>?_)))
 rotate_left
 ·have hke:k=pl.length:=by dsimp only at g;omega
  subst hke
  exact hR w1 r hW
 have hkl:k<pl.length:=by dsimp only at g;omega
 have hix:=zK hkl
 have hil:=zky pl k
 refine zl.cut (λ(st:Sl×Unit) w'=>∃r',st=(r',())/\Wl w w' r' (idsV pl (k+1))) ?_ ?_
 rotate_left
 ·rintro _ w5 ⟨r',rfl,hW'⟩
  dsimp only
  rw[zz (by omega)]
  exact hnext (pl.length-(k+1)) _ w5 (by omega) ⟨r',k+1,rfl,by omega,rfl,hW'⟩
 have no:∀{w'},¬(zo (ix pl k)=7/\(ix pl k).1=59)->Wl w w' r (idsV pl k)->Wl w w' r (idsV pl (k+1)):=λhn hW=>by
  rw[zlt,if_neg hn,List.append_nil]
  exact hW
 obtain⟨a,ha⟩:=hN.base_ hkl
 obtain⟨t0,hc,_⟩:=(hN.below b1).elem a ha k hkl
 refine zf rfl ((h1.below b1).rS (n:=2) (x:=x.2.2.1) rfl ⟨⟨by dsimp only;omega,by dsimp only;omega⟩,zf ha ⟨pl[k].1,by have:=hc 0 (by decide);simpa using this,zj (λe=>?_) (λe=>⟨r,rfl,no (by rw[hix];exact λq=>e q.2) hW⟩)⟩⟩)
 refine zf rfl ((h1.below b1).rS (n:=2) (x:=x.2.2.1) rfl (YF (hN.below b1) (Below.refl _ _) hkl λt hI=>?_))
 have e7:zo (ix pl k)=zo (piOf (mkIn pl[k] t) pl[k].2.2.2):=by rw[hix]
 refine yk (x:=mkIn pl[k] t) hI λw2 b2=>⟨_,rfl,?_⟩
 rw[<-e7]
 have hW2:=hW.on b2
 have b02:=b1.on b2
 obtain⟨t2,hc2,_⟩:=(hN.below b02).elem a ha k hkl
 refine zj (λq=>?_) (λq=>⟨r,rfl,no (λz=>q (by rw[z.1];rfl)) hW2⟩)
 refine zf rfl ((h1.below b02).rS (n:=2) (x:=x.2.2.1) rfl ⟨⟨by dsimp only;omega,by dsimp only;omega⟩,zf ha ⟨pl[k].2.2.1,by rw[zt];exact hc2 2 (by decide),hW2.push (by omega) λr' w4 hW4 _=>⟨r',rfl,?_⟩⟩⟩)
 rw[zlt,if_pos ⟨by omega,by rw[hix];exact e⟩,hix]
 exact hW4
set_option maxHeartbeats 4000000 in
theorem zmO(hC:CnOk bd pl)(hp:PlOk pl)(h0:0<=bd):∀(k:Nat) (w:World) (R:VWP),k<pl.length->isC (ix pl k).1=true->IsRl w A pb x pl (tyL pl)->(∀w' r,IsS (Value.int .u32) w' r (wdP (tyL pl) pl k)->Below w.heap.size w w'->R (.slice r.a r.l r.c) w')->
  cR 34 #[.pointer (some (blk pb)),.int .i64 (k:Int)] w R:=by
 intro k
 induction k using Nat.strongRecOn with
 |ind k ih=>
 intro w R hk hc h hR
 refine za.of (zaB _ k R w ?_) λ_ _ h=>h
 have W:=hC.whole hp h0
 have hs:=W.shape
 have hT:=hC.tb hp h0
 have hix:=zK hk
 have eO:(ix pl k).1=pl[k].1:=by rw[hix]
 have eT:(ix pl k).2.1=pl[k].2.1:=by rw[hix]
 have eL:(ix pl k).2.2.2=pl[k].2.2.2:=by rw[hix]
 have eA:∀j,agI pl k j=(pl[k].2.2.2.getD j ag0).2.1:=λj=>by unfold agI;rw[eL]
 have h':=h
 obtain⟨⟨tb,h1,hRt⟩,hN⟩:=h'
 have hnl:=hN.len
 refine zf rfl (h1.rS (n:=2) (x:=x.2.2.1) rfl (YF hN (Below.refl _ _) hk λt hI0=>box4 rfl λw5 hI5 b5 z5=>?_))
 have hI5:Blk w5 w.heap.size 52 (inV (mkIn pl[k] t)):=hI5
 have one:∀{v:Int},wdP (tyL pl) pl k=[v]->Nw (w5.alloc (.cells #[.int .u32 v] 22)) λw6=>R (.slice (some (blk w5.heap.size)) 1 1) w6:=λ{v} e=>zm λw6 h6 b6 _=>hR w6 ⟨some (blk w5.heap.size),1,1⟩ (by rw[e];exact zgi (l:=[v]) h6 (by simp)) (b5.on b6)
 refine hI5.rI0 (x:=pl[k].1) rfl (zj (λe=>one ?_) (λe1=>hI5.rI0 (x:=pl[k].1) rfl (zj (λe=>one ?_) (λe2=>hI5.rI0 (x:=pl[k].1) rfl (zj (λe=>?_) (λe3=>hI5.rI0 (x:=pl[k].1) rfl (zj (λe=>?_) (λe4=>?_))))))))
 ·rw[znG hC hk (.inl (by rw[eO];exact e)),if_pos (by rw[eO];exact e)]
 ·rw[znG hC hk (.inr (by rw[eO];exact e)),if_neg (by rw[eO];exact e1)]
 ·have e43:(ix pl k).1=43:=by rw[eO];exact e
  have hl:=zrB hs hk e43
  rw[eL]at hl
  refine hI5.rS (n:=3) (x:=t) rfl (argN (IsC.below zG hI0 b5) (j:=0) hl (one ?_))
  rw[<-eA 0]
  exact zs0 hC hk e43
 ·have e44:(ix pl k).1=44:=by rw[eO];exact e
  obtain⟨_,k2⟩:=zrs hC hp h0 hk e44
  rw[eL]at k2
  have alen:=zhy hs hk
  refine zn.ghost (λm (st:Sl×Int×Unit) w'=>∃(r:Sl) (j:Nat),st=(r,(j:Int),())/\j<=pl[k].2.2.2.length/\m=pl[k].2.2.2.length-j/\Wl w5 w' r ((List.range j).flatMap λj=>(cnA (cnL pl) (agI pl k j)).2)) pl[k].2.2.2.length ⟨⟨none,0,0⟩,0,rfl,Nat.zero_le _,rfl,Wl.nil w5⟩ ?_
  rintro _ _ w9 ⟨r,j,rfl,hj,rfl,hW⟩ next hnext
  have b59:=hW.below
  have b09:=b5.on b59
  have hI9:=hI5.below b59
  have ht9:IsAg w9 t pl[k].2.2.2:=IsC.below zG hI0 b09
  have htl:=ht9.len
  refine hI9.rS (n:=3) (x:=t) rfl (zk (λg=>?_) (λg=>?_))
  rotate_left
  ·have hje:j=pl[k].2.2.2.length:=by dsimp only at g;omega
   subst hje
   rw[<-k2]at hW
   exact hR w9 r hW.own.isS b09
  have hjl:j<pl[k].2.2.2.length:=by dsimp only at g;omega
  refine hI9.rS (n:=3) (x:=t) rfl (argN ht9 (j:=j) hjl ?_)
  rw[<-eA j]
  refine zfJ (h.below b09) (Nat.le_of_lt hk) λw10 b10=>⟨_,rfl,?_⟩
  obtain⟨m,m1,m2,m3,m4⟩:=znU hC hp h0 hk e44 (j:=j) (by rw[eL];exact hjl)
  rw[m2]
  refine ih m m1 w10 _ (by omega) m3 (h.below (b09.on b10)) λw11 r11 hs11 b11=>⟨r11,rfl,?_⟩
  rw[<-m4]at hs11
  have hbnd:∀m,((List.range m).flatMap λj=>(cnA (cnL pl) (agI pl k j)).2).length<=m*4096:=λm=>by
   induction m with
   |zero=>exact Nat.le_refl _
   |succ m ih=>
    rw[List.range_succ,List.flatMap_append,List.length_append]
    simp only[List.flatMap_cons,List.flatMap_nil,List.append_nil]
    have:=zlN hC hp h0 (agI pl k m)
    have e:(m+1)*4096=m*4096+4096:=Nat.succ_mul m 4096
    omega
  have q1:=hbnd j
  have q2:=zlN hC hp h0 (agI pl k j)
  have hmul:j*4096<=65535*4096:=Nat.mul_le_mul_right _ (by omega)
  refine((hW.on b10).on b11).app hs11 (by omega) λr' w12 hW12 _=>?_
  dsimp only
  rw[zz (by omega)]
  refine hnext (pl[k].2.2.2.length-(j+1)) _ w12 (by omega) ⟨r',j+1,rfl,by omega,rfl,?_⟩
  rw[List.range_succ,List.flatMap_append]
  simp only[List.flatMap_cons,List.flatMap_nil,List.append_nil]
  exact hW12
 ·have hz:(ix pl k).1=1\/(ix pl k).1=46:=by
   rw[zL,eO]at hc
   rw[eO]
   omega
  have b5d:=b5.drew
  have hsz:=zdU hT pl[k].2.1
  refine zf rfl ⟨_,(h1.below b5d).cell (n:=3) rfl,hI5.drew.rI (n:=1) (x:=pl[k].2.1) rfl (zqY (hRt.below b5d) hT λw13 b13=>⟨_,rfl,zpj (by omega) λw14 h14 b14=>?_⟩)⟩
  rw[Int.toNat_natCast]
  have q:=zgi (f:=Value.int .u32) (l:=List.replicate (tA (tyL pl) pl[k].2.1).size 0) (by rw[zpn];exact h14) (by rw[List.length_replicate];omega)
  rw[List.length_replicate]at q
  refine hR w14 ⟨some (blk w13.heap.size),(tA (tyL pl) pl[k].2.1).size,(tA (tyL pl) pl[k].2.1).size⟩ ?_ ((b5d.on b13).on b14)
  rw[zrO hC hk hz,eT]
  exact q
theorem zd6{id:Int}(h:IsRl w A pb x pl (tyL pl))(hC:CnOk bd pl)(hp:PlOk pl)(h0:0<=bd)(hR:∀w' r,IsS (Value.int .u32) w' r (cnA (cnL pl) id).2->Below w.heap.size w w'->R (.tuple #[.int .u32 (cnA (cnL pl) id).1,.slice r.a r.l r.c,.bool (zv (cnL pl) id).isSome]) w') :
  cR 11 #[.pointer (some (blk pb)),.int .u32 id] w R:=by
 refine za.of (zaA _ id R w ?_) λ_ _ h=>h
 have W:=hC.whole hp h0
 have h':=h
 obtain⟨⟨tb,h1,hRt⟩,hN⟩:=h'
 have hnl:=hN.len
 refine zf rfl (h1.rS (n:=2) (x:=x.2.2.1) rfl ?_)
 refine zfJ h (n:=x.2.2.1.l) (by omega) λw1 b1=>⟨_,rfl,?_⟩
 have hlk:=zk7 W (tyL pl) (id:=id) (Nat.le_refl pl.length)
 rw[hnl]
 rcases hlk with⟨e1,e2⟩ | ⟨k,k1,e1,k2,e2⟩
 ·rw[e1]
  have e3:cnA (cnL pl) id=(0,[]):=by unfold cnA;rw[e2];rfl
  have:=hR w1 ⟨none,0,0⟩ (by rw[e3];exact(Wl.nil w1).own.isS) b1
  rw[e3,e2]at this
  exact zD (by decide) this
 ·rw[e1]
  have e3:cnA (cnL pl) id=((ix pl k).2.1,wdP (tyL pl) pl k):=by unfold cnA;rw[e2];rfl
  have hix:=zK k1
  rw[e3,e2]at hR
  obtain⟨a,ha⟩:=hN.base_ k1
  have b1d:=b1.drew
  obtain⟨t,hc,_⟩:=(hN.below b1d).elem a ha k k1
  refine zk (λq=>by omega) (λ_=>zf rfl ((h1.below b1d).rS (n:=2) (x:=x.2.2.1) rfl ⟨⟨by omega,by omega⟩,zf ha ⟨pl[k].2.1,by rw[zt];exact hc 1 (by decide),?_⟩⟩))
  refine zmO hC hp h0 k w1.drew _ k1 k2 (h.below b1d) λw2 r hs2 b2=>⟨r,rfl,?_⟩
  have b02:=b1d.on b2
  obtain⟨t2,hc2,_⟩:=(hN.below b02).elem a ha k k1
  refine⟨by rw[zt];exact hc2 1 (by decide),(h1.below b02).cell (n:=2) rfl,?_⟩
  have:=hR w2 r hs2 b02
  rw[hix]at this
  exact this
end
end Go.Proofs
namespace Go.Proofs
open Go.Gk Go.RowKit Go.Gm
section
variable {w w':World} {A:Nat->Prop} {pb n:Nat} {x:Mo} {pl:List PI} {T:TyL} {R:VWP} {bd:Int}
set_option maxHeartbeats 4000000 in
theorem zko{id:Int}(h:IsRl w A pb x pl (tyL pl))(hC:CnOk bd pl)(hp:PlOk pl)(h0:0<=bd)(hR:∀w' r,IsS (Value.int .u32) w' r (vnA (vnL pl) id).2.2->Below w.heap.size w w'->R (.tuple #[.int .u32 (vnA (vnL pl) id).1,.int .u32 (vnA (vnL pl) id).2.1,.slice r.a r.l r.c,.bool (zv (vnL pl) id).isSome]) w') :
  cR 16 #[.pointer (some (blk pb)),.int .u32 id] w R:=by
 refine za.of (Y1 _ id R w ?_) λ_ _ h=>h
 have W:=hC.whole hp h0
 have hs:=W.shape
 have hT:=hC.tb hp h0
 have h':=h
 obtain⟨⟨tb,h1,hRt⟩,hN⟩:=h'
 have hnl:=hN.len
 refine zn.count pl.length hN.bound (λk w'=>Below w.heap.size w w'/\∀j,j<k->((ix pl j).1=59/\(ix pl j).2.2.1=id/\zo (ix pl j)=7)->False) ⟨Below.refl _ _,λj h=>by omega⟩ ?_
 rintro k w1 hk ⟨b1,hno⟩ next hnext
 refine zf rfl ((h1.below b1).rS (n:=2) (x:=x.2.2.1) rfl (zk (λg=>?_) (λg=>?_)))
 rotate_left
 ·have hke:k=pl.length:=by dsimp only at g;omega
  subst hke
  have e2:=zsD hC hp h0 hno
  have e3:vnA (vnL pl) id=(0,0,[]):=by unfold vnA;rw[e2];rfl
  have:=hR w1 ⟨none,0,0⟩ (by rw[e3];exact(Wl.nil w1).own.isS) b1
  rw[e3,e2]at this
  exact this
 have hkl:k<pl.length:=by dsimp only at g;omega
 have hix:=zK hkl
 have eO:(ix pl k).1=pl[k].1:=by rw[hix]
 have eR:(ix pl k).2.2.1=pl[k].2.2.1:=by rw[hix]
 have eT:(ix pl k).2.1=pl[k].2.1:=by rw[hix]
 have eL:(ix pl k).2.2.2=pl[k].2.2.2:=by rw[hix]
 have eA:∀j,agI pl k j=(pl[k].2.2.2.getD j ag0).2.1:=λj=>by unfold agI;rw[eL]
 refine zl.cut (λ(_:Unit) w'=>Below w1.heap.size w1 w'/\(((ix pl k).1=59/\(ix pl k).2.2.1=id/\zo (ix pl k)=7)->False)) ?_ ?_
 rotate_left
 ·rintro _ w12 ⟨b12,hf⟩
  refine hnext w12 hkl ⟨b1.on b12,λj hj=>?_⟩
  by_cases e:j=k
  ·subst e;exact hf
  ·exact hno j (by omega)
 refine zf rfl ((h1.below b1).rS (n:=2) (x:=x.2.2.1) rfl (YF (hN.below b1) (Below.refl _ _) hkl λt hI0=>box4 rfl λw6 hI6 b6 z6=>?_))
 have hI6:Blk w6 w1.heap.size 52 (inV (mkIn pl[k] t)):=hI6
 refine hI6.rI0 (x:=pl[k].1) rfl (zj (λe59=>hI6.rI (n:=2) (x:=pl[k].2.2.1) rfl (zj (λeid=>?_) (λe=>⟨b6,λq=>e (by rw[<-eR];exact q.2.1)⟩))) (λe=>⟨b6,λq=>e (by rw[<-eO];exact q.1)⟩))
 have e7:zo (ix pl k)=zo (piOf (mkIn pl[k] t) pl[k].2.2.2):=by rw[hix]
 refine Ins.load (x:=mkIn pl[k] t) hI6 (yk (x:=mkIn pl[k] t) (IsC.below zG hI0 b6) λw7 b7=>⟨_,rfl,?_⟩)
 rw[<-e7]
 have b17:=b6.on b7
 refine zj (λq7=>?_) (λq=>⟨b17,λz=>q (by rw[z.2.2];rfl)⟩)
 have hv:zo (ix pl k)=7/\(ix pl k).1=59:=⟨by omega,by rw[eO];exact e59⟩
 have b07:=b1.on b17
 have hI7:=hI6.below b7
 have hat:=zsC hC hp h0 hkl hv
 rw[eR,eid]at hat
 have hA:vnA (vnL pl) id=vaP (tyL pl) pl k:=by unfold vnA;rw[hat];rfl
 obtain⟨v1,v2,v3⟩:=zrZ hC hp h0 hkl hv
 obtain⟨v4,v5⟩:=zrj hC hkl hv
 have vl:=zmr hs hkl hv.2
 rw[hA,hat]at hR
 rw[eT]at v4 v5
 rw[eL]at v3 v5 vl
 have b7d:Below w7.heap.size w7 w7.drew:=(Below.refl _ _).drew
 have b07d:=b07.on b7d
 refine zf rfl ⟨_,(h1.below b07d).cell (n:=3) rfl,(hI7.below b7d).rI (n:=1) (x:=pl[k].2.1) rfl (zgO (k:=0) (hRt.below b07d) hT λw8 b8=>⟨_,_,rfl,?_⟩)⟩
 have b78:=b7d.on b8
 have hI8:=hI7.below b78
 have b08:=b07.on b78
 have ht8:IsAg w8 t pl[k].2.2.2:=IsC.below zG hI0 ((b6.on b7).on b78)
 have htl:=ht8.len
 have hj0:0<pl[k].2.2.2.length:=by omega
 obtain⟨a,he⟩:=ht8.base hj0
 have a0:agI pl k 0=pl[k].2.2.2[0].2.1:=by rw[eA 0,zA hj0]
 refine hI8.rS (n:=3) (x:=t) rfl (zj (λe1=>?_) (λe1=>?_))
 ·have hl1:pl[k].2.2.2.length=1:=by omega
  have hsz:=zdU hT ((tA (tyL pl) pl[k].2.1).prt 0).1
  have b8d:Below w8.heap.size w8 w8.drew:=(Below.refl _ _).drew
  have cel:∀{w'},Below w8.heap.size w8 w'->w'.cell? ((a.add (0*3)).add 1)=some (.int .u32 pl[k].2.2.2[0].2.1):=λ{w'} hb=>by
   rw[zt]
   exact(IsC.below zG ht8 hb:IsAg w' t pl[k].2.2.2).cell a he 0 hj0 1 (by decide)
  refine(hI8.below b8d).rS (n:=3) (x:=t) rfl ⟨⟨by decide,by omega⟩,zf he ⟨pl[k].2.2.2[0].2.1,cel b8d,zf rfl ⟨_,(h1.below (b08.on b8d)).cell (n:=3) rfl,zqY (hRt.below (b08.on b8d)) hT λw9 b9=>⟨_,rfl,cel (b8d.on b9),((hI8.below b8d).below b9).cell (n:=3) rfl,zpj (by omega) λw10 h10 b10=>⟨cel ((b8d.on b9).on b10),(((hI8.below b8d).below b9).below b10).cell (n:=3) rfl,?_⟩⟩⟩⟩⟩
  rw[Int.toNat_natCast]
  have q:=zgi (f:=Value.int .u32) (l:=List.replicate (tA (tyL pl) ((tA (tyL pl) pl[k].2.1).prt 0).1).size 0) (by rw[zpn];exact h10) (by rw[List.length_replicate];omega)
  rw[List.length_replicate]at q
  have:=hR w10 ⟨some (blk w9.heap.size),(tA (tyL pl) ((tA (tyL pl) pl[k].2.1).prt 0).1).size,(tA (tyL pl) ((tA (tyL pl) pl[k].2.1).prt 0).1).size⟩ (by rw[v5 hl1];exact q) (b08.on ((b8d.on b9).on b10))
  rw[v1,v4,a0]at this
  exact this
 ·have hl2:pl[k].2.2.2.length=2:=by omega
  refine hI8.rS (n:=3) (x:=t) rfl (argN ht8 (j:=1) (by omega) ?_)
  rw[<-eA 1]
  refine zd6 (h.below b08) hC hp h0 λw11 r hr b11=>⟨_,r,_,rfl,(hI8.below b11).rS (n:=3) (x:=t) rfl (argN (IsC.below zG ht8 b11) (j:=0) hj0 ?_)⟩
  rw[<-eA 0]
  have:=hR w11 r (by rw[(v3 hl2).1];exact hr) (b08.on b11)
  rw[v1,v4]at this
  exact this
set_option maxHeartbeats 4000000 in
theorem zkl{ty:Int}{s:Sl}{l:List Int}(h:IsRl w A pb x pl (tyL pl))(hC:CnOk bd pl)(hp:PlOk pl)(h0:0<=bd)(hs:IsS (Value.int .u32) w s l)(hR:∀w',Below w.heap.size w w'->R (.tuple #[.int .u32 (zd8 (cnL pl) ty l).1,.bool (zd8 (cnL pl) ty l).2]) w') :
  cR 21 #[.pointer (some (blk pb)),.int .u32 ty,.slice s.a s.l s.c] w R:=by
 refine za.of (zbx _ ty s R w ?_) λ_ _ h=>h
 have W:=hC.whole hp h0
 refine zeo h hp λw1 r hW=>⟨r,rfl,?_⟩
 have b1:=hW.below
 have hr:=hW.own.isS
 rw[zfP W]at hr
 have hrl:=hr.len
 have hsl:=hs.len
 refine zn.count ((cnL pl).map (·.1)).length hr.bound (λk w'=>Below w1.heap.size w1 w'/\∀j (hj:j<((cnL pl).map (·.1)).length),j<k->isF (cnL pl) ty l ((cnL pl).map (·.1))[j]=false) ⟨Below.refl _ _,λj _ h=>by omega⟩ ?_
 rintro k w2 hk ⟨b2,hno⟩ next hnext
 have b02:=b1.on b2
 refine zk (λg=>?_) (λg=>?_)
 rotate_left
 ·have:zd8 (cnL pl) ty l=(0,false):=by
   unfold zd8
   rw[zoW λj hj=>hno j hj (by dsimp only at g;omega)]
  have q:=hR w2 b02
  rwa[this]at q
 have hkl:k<((cnL pl).map (·.1)).length:=by dsimp only at g;omega
 refine zY (hr.below b2) hkl ?_
 refine zd6 (h.below b02) hC hp h0 λw3 r3 hs3 b3=>⟨_,r3,_,rfl,?_⟩
 have b03:=b02.on b3
 generalize hid:((cnL pl).map (·.1))[k]=id at hs3⊢
 have h3l:=hs3.len
 refine zl.cut (λ(st:Bool×Unit) w'=>st=((cnA (cnL pl) id).1==ty&&decide ((cnA (cnL pl) id).2.length=l.length),())/\w3=w') ?_ ?_
 ·refine zj (λe=>⟨?_,rfl⟩) (λe=>⟨?_,rfl⟩)
  ·refine Prod.ext ?_ rfl
   show((r3.l:Int)==(s.l:Int))=_
   rw[beq_iff_eq.2 e,Bool.true_and,Bool.eq_iff_iff,beq_iff_eq,decide_eq_true_eq]
   omega
  ·rw[beq_eq_false_iff_ne.2 e,Bool.false_and]
 rintro _ w4 ⟨rfl,rfl⟩
 refine zl.cut (λ(st:Bool×Unit) w'=>st=(isF (cnL pl) ty l id,())/\Below w3.heap.size w3 w') ?_ ?_
 ·have start:∀b,((cnA (cnL pl) id).1==ty&&decide ((cnA (cnL pl) id).2.length=l.length))=b->(b=true->(cnA (cnL pl) id).1=ty/\(cnA (cnL pl) id).2.length=l.length)/\(b=false->isF (cnL pl) ty l id=false):=λb hb=>by
   subst hb
   refine⟨λq=>?_,λq=>?_⟩
   ·rw[Bool.and_eq_true,beq_iff_eq,decide_eq_true_eq]at q
    exact q
   ·unfold isF
    rw[Bool.and_eq_false_iff,beq_eq_false_iff_ne,decide_eq_false_iff_not]at q
    rw[Bool.and_eq_false_iff,beq_eq_false_iff_ne,beq_eq_false_iff_ne]
    exact q.imp (λz=>z) λz e=>z (by rw[e])
  generalize ((cnA (cnL pl) id).1==ty&&decide ((cnA (cnL pl) id).2.length=l.length))=b0 at start⊢
  obtain⟨st1,st2⟩:=start b0 rfl
  refine zn.ghost (λm (st:Bool×Int×Unit) w'=>∃(b:Bool) (j:Nat),st=(b,(j:Int),())/\j<=l.length/\m=l.length-j/\Below w3.heap.size w3 w'/\(b=true->((cnA (cnL pl) id).1=ty/\(cnA (cnL pl) id).2.length=l.length)/\∀i (h1:i<(cnA (cnL pl) id).2.length) (h2:i<l.length),i<j->(cnA (cnL pl) id).2[i]=l[i])/\(b=false->isF (cnL pl) ty l id=false)) l.length ⟨b0,0,rfl,Nat.zero_le _,rfl,Below.refl _ _,λe=>⟨st1 e,λi _ _ h=>by omega⟩,st2⟩ ?_
  rintro _ _ w5 ⟨b,j,rfl,hj,rfl,b5,i1,i2⟩ next2 hnext2
  refine zl.cut (λ(_:Unit) w'=>w5=w'/\b=true/\j<l.length) ?_ ?_
  ·refine zC (λeb=>zk (λg2=>⟨rfl,eb,by dsimp only at g2;omega⟩) (λg2=>⟨?_,b5⟩)) (λeb=>⟨?_,b5⟩)
   ·have eb:b=true:=eb
    refine Prod.ext ?_ rfl
    show b=_
    obtain⟨⟨q1,q2⟩,q3⟩:=i1 eb
    rw[eb]
    unfold isF
    rw[q1,beq_self_eq_true,Bool.true_and]
    refine(beq_iff_eq.2 (List.ext_getElem q2 λi h1 h2=>q3 i h1 h2 ?_)).symm
    dsimp only at g2
    omega
   ·have eb:b=false:=eb
    refine Prod.ext ?_ rfl
    show b=_
    rw[i2 eb,eb]
  rintro _ w6 ⟨rfl,eb,hjl⟩
  obtain⟨⟨q1,q2⟩,q3⟩:=i1 eb
  have hjx:j<(cnA (cnL pl) id).2.length:=by omega
  have b5d:=b5.drew
  refine zY (hs3.below b5d) hjx (zY (hs.below (b03.on b5d)) hjl ?_)
  dsimp only
  rw[zz (by have:=hs.bound;omega)]
  refine hnext2 (l.length-(j+1)) _ w5.drew (by omega) ⟨_,j+1,rfl,by omega,rfl,b5d,λe=>⟨⟨q1,q2⟩,λi h1 h2 hi=>?_⟩,λe=>?_⟩
  ·by_cases e2:i=j
   ·subst e2;exact beq_iff_eq.1 e
   ·exact q3 i h1 h2 (by omega)
  ·unfold isF
   rw[Bool.and_eq_false_iff,beq_eq_false_iff_ne,beq_eq_false_iff_ne]
   right
   intro z
   have e:=beq_eq_false_iff_ne.1 e
   exact e (by simp only[z])
 rintro _ w7 ⟨rfl,b7⟩
 have b27:=b3.on b7
 refine zC (λe=>zY (hr.below (b2.on b27)) hkl ?_) (λe=>?_)
 ·have q:=hR w7 (b02.on b27)
  have:zd8 (cnL pl) ty l=(((cnL pl).map (·.1))[k],true):=by
   unfold zd8
   rw[zoV hkl hno (by rw[hid];exact e)]
  rwa[this]at q
 ·refine hnext w7 hkl ⟨b2.on b27,λj hj hjk=>?_⟩
  by_cases e2:j=k
  ·subst e2;rw[hid];exact e
  ·exact hno j hj (by omega)
set_option maxHeartbeats 4000000 in
theorem zo8(hN:IsPl w x.2.2.1 pl)(hp:PlOk pl)(h0:0<=x.2.1)
  (hBad:(conE x.2.1 pl).1≠0->∀w',Below w.heap.size w w'->R (.tuple #[.pointer none,.agg #[.int .i64 (conE x.2.1 pl).1,.int .i64 (conE x.2.1 pl).2]]) w')
  (hOk:CnOk x.2.1 pl->∀w' qb (A:Nat->Prop),Below w.heap.size w w'->IsRl w' A qb x pl (tyL pl)->R (.tuple #[.pointer (some (blk qb)),.agg #[.int .i64 0,.int .i64 0]]) w') :
  cR 29 #[moA x] w R:=by
 refine za.of (zex x R w ?_) λ_ _ h=>h
 refine zm λw1 hB1 b1 z1=>?_
 have hB1:Blk w1 w.heap.size 25 (moV x):=hB1
 refine zm λw2 hS2 b2 z2=>?_
 have hS2:Blk w2 w1.heap.size 56 [.int .i64 0,.int .i64 0]:=hS2
 have b02:=b1.on b2
 have sz1:=b1.size
 have out:∀{w':World} {p:Option Addr} {e a:Int},Blk w' w1.heap.size 56 [.int .i64 0,.int .i64 0]->Below w.heap.size w w'->(∀w'',Chg w1.heap.size w' w''->Below w.heap.size w w''->R (.tuple #[.pointer p,.agg #[.int .i64 e,.int .i64 a]]) w'')->
   Wr w' (blk w1.heap.size)/\Nw (w'.setCell (blk w1.heap.size) (.int .i64 e)) λw8=>Wr w8 ((blk w1.heap.size).add 1)/\Nw (w8.setCell ((blk w1.heap.size).add 1) (.int .i64 a)) λw9=>ldI w9 ((blk w1.heap.size).add 0) .i64 λx9=>ldI w9 ((blk w1.heap.size).add 1) .i64 λx10=>
    R (.tuple #[.pointer p,.agg #[.int .i64 x9,.int .i64 x10]]) w9:=λ{w' p e a} hS hb hR=>
  st2 hS rfl λw9 hS9 c9=>Sp.load hS9 (hR w9 c9 (c9.below hb (by omega)))
 refine Mo.load (hB1.below b2) (zp6 (x:=x) (hN.below b02) hp h0 (λhc w3 b3=>?_) (λhTy w3 tb b3 htb hK=>?_))
 ·refine⟨none,((typE x.2.1 pl).1,(typE x.2.1 pl).2,()),rfl,box2 rfl λw6 h6 b6 z6=>h6.rI0 rfl (zp (λ_=>?_) (λq=>absurd q hc))⟩
  have b26:=b3.on b6
  refine Sp.load h6.drew (out (hS2.below b26).drew (b02.on b26).drew λw' _ hb=>?_)
  have:=hBad (by rw[zkd hc];exact hc) w' hb
  rwa[zkd hc]at this
 refine⟨some (blk tb),(0,0,()),rfl,box2 rfl λw6 h6 b6 z6=>h6.rI0 rfl (zp (λq=>absurd rfl q) (λ_=>?_))⟩
 have b26:=b3.on b6
 have hty:(typE x.2.1 pl).1=0:=by rw[zjA hTy.chk hTy.no]
 have W:=hTy.whole hp h0
 have hs:=W.shape
 have hT:TbOk (tyL pl):=hTy.tb hp h0 (Nat.le_refl _)
 refine Mo.load ((hB1.below b2).below b26) (zm λw9 hQ9 b9 z9=>?_)
 have hQ9:Blk w9 w6.heap.size 70 [.int .u32 x.1,.int .u32 x.2.1,.slice x.2.2.1.a x.2.2.1.l x.2.2.1.c,.pointer (some (Gk.blk tb))]:=hQ9
 have b29:=b26.on b9
 have b09:=b02.on b29
 have b39:=b6.on b9
 have hRt3:=hK w3 (λ_ _ _=>rfl) (Nat.le_refl _)
 have hQ:IsRl w9 (λb=>w2.heap.size<=b) w6.heap.size x pl (tyL pl):=⟨⟨tb,hQ9,hRt3.below b39⟩,hN.below b09⟩
 have hB9:=(hB1.below b2).below b29
 have hS9:=hS2.below b29
 have h69:=h6.below b9
 have hnl:=hN.len
 refine zn.count pl.length hN.bound (λk w'=>Below w9.heap.size w9 w'/\∀j,j<k->badC (tyL pl) pl j=0) ⟨Below.refl _ _,λj h=>by omega⟩ ?_
 rintro k w10 hk ⟨b10,hno⟩ next hnext
 have b010:=b09.on b10
 refine(hB9.below b10).rS (n:=2) (x:=x.2.2.1) rfl (zk (λg=>?_) (λg=>?_))
 rotate_left
 ·have hke:k=pl.length:=by dsimp only at g;omega
  subst hke
  have b10d:=b10.drew
  refine Sp.load (h69.below b10d) (out (hS9.below b10d) (b09.on b10d) λw' c hb=>?_)
  have hsz3:=b3.size
  have hsz6:=b6.size
  have hsz9:=b9.size
  have hsz:=b10.size
  have hcs:=c.size
  have lt1:w1.heap.size<w2.heap.size:=hS2.lt
  have cs:w'.heap.size=w10.heap.size:=hcs
  refine hOk ⟨hTy,hno⟩ w' w6.heap.size (λb=>w2.heap.size<=b) hb ⟨⟨tb,c.blk (hQ9.below b10d) (by omega),hK w' (λb h1 h2=>?_) (by omega)⟩,hN.below hb⟩
  exact(c.block b (by omega)).trans ((b39.on b10d).block b h2)
 have hkl:k<pl.length:=by dsimp only at g;omega
 have hix:=zK hkl
 refine zl.cut (λ(_:Unit) w'=>Below w10.heap.size w10 w'/\badC (tyL pl) pl k=0) ?_ ?_
 rotate_left
 ·rintro _ w15 ⟨b15,hz⟩
  refine hnext w15 hkl ⟨b10.on b15,λj hj=>?_⟩
  by_cases e:j=k
  ·subst e;exact hz
  ·exact hno j (by omega)
 refine(hB9.below b10).rS (n:=2) (x:=x.2.2.1) rfl (YF (hN.below b010) (Below.refl _ _) hkl λt hI=>?_)
 have e7:zo (ix pl k)=zo (piOf (mkIn pl[k] t) pl[k].2.2.2):=by rw[hix]
 refine yk (x:=mkIn pl[k] t) hI λw11 b11=>⟨_,rfl,?_⟩
 rw[<-e7]
 refine zj (λq=>?_) (λq=>⟨b11,zjP λz=>q (by rw[z];rfl)⟩)
 have h7:zo (ix pl k)=7:=by omega
 have hbad:badC (tyL pl) pl k=errC (tyL pl) (cnsC (tyL pl) pl k).1 pl k:=by
  unfold badC
  rw[if_pos h7]
 have b911:=b10.on b11
 refine zmM (hQ.below b911) hT W hkl h7 λw12 b12=>⟨_,rfl,?_⟩
 rw[<-hbad]
 have b912:=b911.on b12
 refine zp (λhE=>?_) (λhE=>⟨b11.on b12,hE⟩)
 have he:=zoP hty hkl hE hno
 refine out (hS9.below b912) (b09.on b912) λw' _ hb=>?_
 have:=hBad (by rw[he];exact hE) w' hb
 rwa[he]at this
end
end Go.Proofs
namespace Go.Proofs
open Go.Gk Go.RowKit Go.Gm
theorem zpe{w:World}{b:Nat}{l:List Int}(hB:Blk w b 22 (l.map (Value.int .u32)))(hl:l.length<=4398046511104):IsS (Value.int .u32) w ⟨some (Gk.blk b),l.length,l.length⟩ l:=zgi hB (by omega)
end Go.Proofs
namespace Go.Proofs
open Go.Gk
set_option linter.unusedVariables false
set_option maxRecDepth 100000
def Yp:Ann:=(.q (.q (.seq none (.q (.one (.loop ⟨[0,3],[(4,(.b (.int .i64)))]⟩ (.seq none (.q .c) (.seq none (.one .nil) .nil))))) (.q .nil))))
def yp(p0:Sl)(R:VWP)(w:World):Prop:=(0<=(p0.l:Int)/\(p0.l:Int)<=(p0.l:Int)/\4*(p0.l:Int)<=281474976710656/\(p0.l:Int)<=9223372036854775807)/\Nw (w.alloc (.cells (madeCells #[zu 0] (p0.l*1)) 22)) λw1=>zn (S:=Int×Unit) (λs1 w2 n2=>ifB (decide (s1.1<(p0.l:Int))) ((0<=s1.1/\s1.1<(p0.l:Int))/\ze p0.a λa3=>ldI w2 (a3.add s1.1.toNat) .u32 λx4=>(0<=s1.1/\s1.1<(p0.l:Int))/\Wr w2 ((zB w).add s1.1.toNat)/\Nw (w2.setCell ((zB w).add s1.1.toNat) (zu x4)) λw3=>n2 ((IntKind.i64.wrap (s1.1+(1:Int))),()) w3) (R (.slice (some (zB w)) p0.l p0.l) w2)) (0,()) w1
theorem zcy(p0)(R)(w)(h:yp p0 R w):Calls Tryz.prog 23 #[.slice p0.a p0.l p0.c] w (Ret R):=lwC Yp Tryz.func23 (by kernel_rfl) (by kernel_rfl) h
end Go.Proofs
namespace Go.Proofs
open Go.Gk
set_option linter.unusedVariables false
set_option maxRecDepth 100000
end Go.Proofs
namespace Go.Proofs
open Go.Gk Go.RowKit
end Go.Proofs
namespace Go.Proofs
open Go.Gk Go.RowKit
end Go.Proofs
namespace Go.Proofs
open Go.Gk Go.RowKit
end Go.Proofs
namespace Go.Proofs
open Go.Gk Go.RowKit
end Go.Proofs
namespace Go.Proofs
open Go.Gk Go.RowKit
end Go.Proofs
namespace Go.Proofs
open Go.Gk Go.RowKit Go.Gm
end Go.Proofs
namespace Go.Proofs
open Go.Gk Go.RowKit Go.Gm
section
variable {x:Mo} {pl:List PI} {w:World} {R:VWP}
theorem zm1{lo hi b:Nat}{g bd:Int}(hS:SpR w lo hi b (pl.map (·.2.2.2.length)) 0)(hlo:lo<=b)(hhi:b<hi)(hm:pl.length<=9223372036854775807)(hp:PlOk pl)
  (hR:∀w',Fr w.heap.size (λk=>lo<=k/\k<hi) w w'->R (.tuple #[]) w'):cR 31 #[moA (g,bd,⟨some (blk b),pl.length,pl.length⟩,())] w R:=by
 have hns:(pl.map (·.2.2.2.length)).length=pl.length:=List.length_map _
 have sp:=zm2 (g:=g) (bd:=bd) (R:=R) hS hlo hhi (by rw[hns];exact hm) (λn hn=>by
  obtain⟨p,hp',rfl⟩:=List.mem_map.1 hn
  have:=hp.args p hp'
  omega) hR
 rwa[hns]at sp
end
end Go.Proofs
namespace Go.Proofs
open Go.Gk Go.RowKit Go.Gm
section
variable {x:Mo} {pl:List PI} {w:World} {R:VWP} {s:Sl} {T:List Int}
theorem zjF(hs:IsS (Value.int .u32) w s T)(hmax:4*T.length<=140737488351232)
  (hR:∀w',Own w' 22 1 ⟨some (blk w.heap.size),T.length,T.length⟩ (T.map (Value.int .u32))->Below w.heap.size w w'->R (.slice (some (blk w.heap.size)) T.length T.length) w') :
  cR 23 #[.slice s.a s.l s.c] w R:=by
 refine za.of (zcy s R w ?_) λ_ _ h=>h
 have hl:=hs.len
 unfold yp
 rw[hl]
 refine⟨⟨by omega,by omega,by omega,by omega⟩,Nw.gen λw1 e1=>?_⟩
 have hD1:Blk w1 w.heap.size 22 ((List.replicate T.length (0:Int)).map (Value.int .u32)):=by rw[e1,List.map_replicate];exact Blk.made w _ _ _
 have b1:Below w.heap.size w w1:=by rw[e1];exact(Below.refl _ _).alloc (Nat.le_refl _) _
 clear e1
 refine zn.count T.length (by omega) (λk w'=>Below w.heap.size w w'/\∃C:List Int,Blk w' w.heap.size 22 (C.map (Value.int .u32))/\C.length=T.length/\∀j (h:j<C.length) (h':j<T.length),j<k->C[j]=T[j]) ⟨b1,_,hD1,by simp,λj _ _ h=>by omega⟩ ?_
 rintro k w2 hk ⟨hb,C,hC,hCl,hval⟩ next hnext
 refine zk (λh=>?_) (λh=>?_)
 ·have hlt:k<T.length:=by dsimp only at h;omega
  have hel:=zY (hs.below hb) hlt (φ:=λx=>(0<=(k:Int)/\(k:Int)<((T.length:Nat):Int))/\Wr w2 ((blk w.heap.size).add (Int.toNat (k:Int)))/\Nw (w2.setCell ((blk w.heap.size).add (Int.toNat (k:Int))) (.int .u32 x)) λw3=>next ((IntKind.i64.wrap ((k:Int)+1)),()) w3) ?_
  ·rw[hl]at hel
   exact hel
  ·have c3:=Chg.set w.heap.size k w2 (.int .u32 T[k])
   refine⟨⟨by omega,by omega⟩,hC.wr (by rw[List.length_map];omega),Nw.mk (hnext _ hlt ⟨c3.below hb (Nat.le_refl _),C.set k T[k],?_,by rw[List.length_set];exact hCl,λj h1 h2 h3=>?_⟩)⟩
   ·rw[List.map_set];exact hC.set _ _
   ·by_cases e:k=j
    ·subst e;rw[List.getElem_set_self]
    ·rw[List.getElem_set_ne e]
     exact hval j (by rw[List.length_set]at h1;exact h1) h2 (by omega)
 ·have hk':k=T.length:=by dsimp only at h;omega
  have e:C=T:=List.ext_getElem hCl λj h1 h2=>hval j h1 h2 (by omega)
  subst e
  exact hR w2 ⟨by rw[List.length_map,Nat.mul_one],.inr ⟨_,_,rfl,hC,Nat.le_refl _,(by dsimp only;omega),by rw[List.length_map,Nat.mul_one],by rw[Nat.mul_one];exact List.take_of_length_le (by rw[List.length_map];exact Nat.le_refl _)⟩⟩ hb
end
end Go.Proofs
namespace Go.Proofs
open Go.Gk Go.RowKit Go.Gm
theorem zj6{w:World}{b:Nat}{l:List Int}(hB:Blk w b 22 (l.map (Value.int .u32)))(hl:l.length<=4398046511104):Own w 22 1 ⟨some (Gk.blk b),l.length,l.length⟩ (l.map (Value.int .u32)):=
 ⟨by rw[List.length_map,Nat.mul_one],.inr ⟨_,_,rfl,hB,Nat.le_refl _,by dsimp only;omega,by rw[List.length_map,Nat.mul_one],by rw[Nat.mul_one];exact List.take_of_length_le (by rw[List.length_map];exact Nat.le_refl _)⟩⟩
theorem zmU{C:CnL}{id:Int}(h:id∈C.map (·.1)):(zd8 C (cnA C id).1 (cnA C id).2).2=true:=by
 unfold zd8
 cases hf:(C.map (·.1)).find? (isF C (cnA C id).1 (cnA C id).2) with
 |some k=>rfl
 |none=>
  have:=List.find?_eq_none.1 hf id h
  unfold isF at this
  simp at this
section
variable {x:Mo} {pl:List PI} {w:World} {R:VWP}
set_option maxHeartbeats 4000000 in
theorem zcR(hN:IsPl w x.2.2.1 pl)(hp:PlOk pl)(h0:0<=x.2.1)(htab:Tab w)
  (hBad:(conE x.2.1 pl).1≠0->∀w',Below w.heap.size w w'->R (.tuple #[.pointer none,.pointer none,.bool true]) w')
  (hOk:CnOk x.2.1 pl->∀w' B pb qb (A:Nat->Prop),Below w.heap.size w w'->IsPo w' B pb (tyL pl) (cnL pl) (vnL pl)->IsRl w' A qb x pl (tyL pl)->R (.tuple #[.pointer (some (blk pb)),.pointer (some (blk qb)),.bool true]) w') :
  cR 9 #[moA x] w R:=by
 refine za.of (zdJ x R w ?_) λ_ _ h=>h
 refine zm λw1 hB1 b1 z1=>?_
 have hB1:Blk w1 w.heap.size 25 (moV x):=hB1
 have hz:CnOk x.2.1 pl->conE x.2.1 pl=(0,0):=λhC=>zoQ (by rw[zjA hC.ty.chk hC.ty.no]) hC.no
 refine Mo.load hB1 (za.mono (zo8 (x:=x) (R:=λv w2=>∃qa:Option Addr,v =.tuple #[.pointer qa,.agg #[.int .i64 (conE x.2.1 pl).1,.int .i64 (conE x.2.1 pl).2]]/\Below w1.heap.size w1 w2/\
   ∀w',Below w2.heap.size w2 w'->((conE x.2.1 pl).1≠0->R (.tuple #[.pointer none,.pointer qa,.bool true]) w')/\(CnOk x.2.1 pl->∀B pb,IsPo w' B pb (tyL pl) (cnL pl) (vnL pl)->R (.tuple #[.pointer (some (blk pb)),.pointer qa,.bool true]) w'))
  (hN.below b1) hp h0 (λhc w2 b2=>⟨none,rfl,b2,λw' b'=>⟨λ_=>hBad hc w' ((b1.on b2).on b'),λhC=>absurd (by rw[hz hC]) hc⟩⟩)
  (λhC w2 qb A b2 hRl=>⟨some (blk qb),by rw[hz hC],b2,λw' b'=>⟨λhc=>absurd (by rw[hz hC]) hc,λ_ B pb hPo=>hOk hC w' B pb qb A ((b1.on b2).on b') hPo (hRl.below b')⟩⟩))
  λv w2 ⟨qa,hv,b2,hfin⟩=>⟨qa,((conE x.2.1 pl).1,(conE x.2.1 pl).2,()),hv,box2 rfl λw5 hS5 b5 z5=>?_⟩)
 have b05:=(b1.on b2).on b5
 have hB5:=(hB1.below b2).below b5
 refine Mo.load hB5 (zjj (x:=x) (hN.below b05) hp λcb w6 hcb hcpy hN6 b6=>⟨(x.1,x.2.1,⟨some (blk cb),pl.length,pl.length⟩,()),rfl,box3 rfl λw10 hC10 b10 z10=>?_⟩)
 have hC10:Blk w10 w6.heap.size 25 (moV (x.1,x.2.1,⟨some (blk cb),pl.length,pl.length⟩,())):=hC10
 have b510:=b6.on b10
 have b010:=b05.on b510
 refine Mo.load hC10 (za.mono (zp2 (x:=(x.1,x.2.1,⟨some (blk cb),pl.length,pl.length⟩,())) (R:=λv w11=>∃pa:Option Addr,v =.tuple #[.pointer pa,.agg #[.int .i64 (conE x.2.1 pl).1,.int .i64 (conE x.2.1 pl).2]]/\(!pa.isNone)=((conE x.2.1 pl).1==0)/\Below w10.heap.size w10 w11/\
   ∀w',(∀k,w10.heap.size<=k->k<w11.heap.size->w'.heap[k]? =w11.heap[k]?)->w11.heap.size<=w'.heap.size->Below w2.heap.size w2 w'->R (.tuple #[.pointer pa,.pointer qa,.bool true]) w')
  (hN6.below b10) hp h0 (htab.below b010) (λhc w11 b11=>⟨none,rfl,(beq_eq_false_iff_ne.2 hc).symm,b11,λw' _ _ hb=>(hfin w' hb).1 hc⟩)
  (λhC w11 pb b11 hPo=>⟨some (blk pb),by rw[hz hC],by rw[hz hC];rfl,b11,λw' hk hs hb=>(hfin w' hb).2 hC _ pb (hPo.keep hk hs)⟩))
  λv w11 ⟨pa,hv,hpa,b11,hfin2⟩=>⟨pa,((conE x.2.1 pl).1,(conE x.2.1 pl).2,()),hv,box2 rfl λw14 hT14 b14 z14=>?_⟩)
 have b1014:=b11.on b14
 have b514:=b510.on b1014
 have hS14:=hS5.below b514
 have hC14:=hC10.below b1014
 have hB14:=hB5.below b514
 refine zl.cut (λ(st:Bool×Unit) w'=>st=(true,())/\Below w14.heap.size w14 w') ?_ ?_
 ·refine Sp.load hT14 (Sp.load hS14 (zD (by simp) (hS14.rI0 rfl (zD (by rw[hpa,beq_self_eq_true]) (Mo.load hC14 (Mo.load hB14 ?_))))))
  refine zmx (x:=(x.1,x.2.1,⟨some (blk cb),pl.length,pl.length⟩,())) (y:=x) (hN6.below (b10.on b1014)) (hN.below (b05.on b514)) λw15 b15=>⟨_,rfl,?_,b15⟩
  rw[decide_eq_true ⟨rfl,rfl,rfl⟩]
 rintro _ w16 ⟨rfl,b16⟩
 have b616:=(b10.on b1014).on b16
 have lcb:cb<w6.heap.size:=by
  obtain⟨_,_,hBc,_⟩:=hcpy
  exact hBc.lt
 have s6:=b10.size
 have s2:=b5.size
 have s11:=b11.size
 have s14:=b14.size
 have s16:=b16.size
 refine Mo.load (hC14.below b16) (zm1 (lo:=cb) (hi:=w6.heap.size) (b:=cb) (hcpy.spR.below b616) (Nat.le_refl _) lcb (by have:=hp.len;omega) hp λw17 hF=>⟨rfl,hfin2 w17 (λk h1 h2=>?_) (by have:=hF.size;omega) ?_⟩)
 ·exact(hF.block k (by omega) (by omega)).trans ((b14.on b16).block k h2)
 ·have b216:Below w2.heap.size w2 w16:=(b5.on b514).on b16
  exact⟨hF.os.trans b216.os,hF.tape.trans b216.tape,hF.output.trans b216.output,Nat.le_trans b216.size hF.size,λk hk=>(hF.block k (by omega) (by omega)).trans (b216.block k hk)⟩
end
section
variable {x:Mo} {pl:List PI} {w:World} {R:VWP}
theorem zp3(h:CnOk x.2.1 pl)(hp:PlOk pl)(h0:0<=x.2.1):(cnL pl).length<=4398046511104/\(vnL pl).length<=4398046511104:=by
 have W:=h.whole hp h0
 have h1:=zkw pl pl.length
 have h2:=zky pl pl.length
 rw[zfP W,List.length_map]at h1
 rw[zkx W,List.length_map]at h2
 have:=hp.len
 omega
set_option maxHeartbeats 4000000 in
theorem zjD(hN:IsPl w x.2.2.1 pl)(hp:PlOk pl)(hbd:0<=x.2.1/\x.2.1<=4294967295)(htab:Tab w)(hR:∀w',Below w.heap.size w w'->R (.bool true) w') :
  cR 5 #[moA x] w R:=by
 refine za.of (zbu x R w ?_) λ_ _ h=>h
 refine zm λw1 hB1 b1 z1=>?_
 have hB1:Blk w1 w.heap.size 25 (moV x):=hB1
 refine Mo.load hB1 (zcR (x:=x) (hN.below b1) hp hbd.1 (htab.below b1) (λ_ w2 b2=>⟨none,none,true,rfl,zl.cut (λ_ _=>False) (zD rfl (hR w2 (b1.on b2))) λ_ _ h=>h.elim⟩) λhC w2 B pb qb A b2 hPo hRl=>⟨some (blk pb),some (blk qb),true,rfl,zl.cut (λ(_:Unit) w'=>w2=w') (zx rfl (zx rfl rfl)) ?_⟩)
 rintro _ w3 rfl
 have b02:=b1.on b2
 have W:=hC.whole hp hbd.1
 obtain⟨lC,lV⟩:=zp3 hC hp hbd.1
 have eC:((cnL pl).map (·.1)).length=(cnL pl).length:=List.length_map _
 have eV:((vnL pl).map (·.1)).length=(vnL pl).length:=List.length_map _
 have ids:∀{w4:World} {K:Sl->World->Prop},Below w2.heap.size w2 w4->(∀w5 b,w4.heap.size<=b->Own w5 22 1 ⟨some (blk b),(cnL pl).length,(cnL pl).length⟩ (((cnL pl).map (·.1)).map (Value.int .u32))->Below w4.heap.size w4 w5->K ⟨some (blk b),(cnL pl).length,(cnL pl).length⟩ w5)->
   cR 18 #[.pointer (some (blk pb))] w4 λv w5=>∃s:Sl,v =.slice s.a s.l s.c/\K s w5:=λ{w4 K} hb hK=>by
  refine zp1 (hPo.below hb) lC λw5 b h1 h2 h3=>⟨_,rfl,hK w5 b h1 ?_ h3⟩
  have:=zj6 h2 (by omega)
  rwa[eC]at this
 have vars:∀{w4:World} {K:Sl->World->Prop},Below w2.heap.size w2 w4->(∀w5 b,w4.heap.size<=b->Own w5 22 1 ⟨some (blk b),(vnL pl).length,(vnL pl).length⟩ (((vnL pl).map (·.1)).map (Value.int .u32))->Below w4.heap.size w4 w5->K ⟨some (blk b),(vnL pl).length,(vnL pl).length⟩ w5)->
   cR 19 #[.pointer (some (blk pb))] w4 λv w5=>∃s:Sl,v =.slice s.a s.l s.c/\K s w5:=λ{w4 K} hb hK=>by
  refine zjl (hPo.below hb) lV λw5 b h1 h2 h3=>⟨_,rfl,hK w5 b h1 ?_ h3⟩
  have:=zj6 h2 (by omega)
  rwa[eV]at this
 refine ids (Below.refl _ _) λw4 bi hbi hI4 b4=>?_
 refine vars b4 λw5 bv hbv hV5 b5=>?_
 have b25:=b4.on b5
 refine zl.cut (λ(_:Unit) w'=>Below w5.heap.size w5 w') ?_ ?_
 ·refine zeo (hRl.below b25) hp λw6 r6 hW6=>⟨r6,rfl,?_⟩
  have b6:=hW6.below
  rw[zfP W]at hW6
  refine za2 ((hI4.below b5).below b6).isS hW6.own.isS λw7 _ b7=>⟨_,rfl,zx (by simp) ?_⟩
  have b57:=b6.on b7
  refine zb6 (hRl.below (b25.on b57)) hp λw8 r8 hW8=>⟨r8,rfl,?_⟩
  have b8:=hW8.below
  rw[zkx W]at hW8
  refine za2 (hV5.below (b57.on b8)).isS hW8.own.isS λw9 _ b9=>⟨_,rfl,zx (by simp) ((b57.on b8).on b9)⟩
 rintro _ w10 b10
 have b210:=b25.on b10
 refine ZY (s:=⟨some (blk bi),(cnL pl).length,(cnL pl).length⟩) ((hI4.below b5).below b10) λw11 o11=>⟨rfl,?_⟩
 have s4:=b4.size
 have b211:Below w2.heap.size w2 w11:=b210.trans (o11.below λa ha=>by cases ha;exact hbi)
 have lti:bi<w4.heap.size:=(hI4.lt (a:=blk bi) rfl).2
 have hV11:Own w11 22 1 ⟨some (blk bv),(vnL pl).length,(vnL pl).length⟩ (((vnL pl).map (·.1)).map (Value.int .u32)):=(hV5.below b10).of_block λa ha=>o11.block _ λc hc=>by
  cases ha
  cases hc
  show bi≠bv
  omega
 refine ZY (s:=⟨some (blk bv),(vnL pl).length,(vnL pl).length⟩) hV11 λw12 o12=>⟨rfl,?_⟩
 have b212:Below w2.heap.size w2 w12:=b211.trans (o12.below λa ha=>by cases ha;show w2.heap.size<=bv;omega)
 refine ids b212 λw13 bj _ hI13 b13=>?_
 have b213:=b212.on b13
 refine zeo (hRl.below b213) hp λw14 r14 hW14=>⟨r14,rfl,?_⟩
 have b14:=hW14.below
 rw[zfP W]at hW14
 refine za2 (hI13.below b14).isS hW14.own.isS λw15 _ b15=>⟨_,rfl,zD (by simp) ?_⟩
 have b215:=b213.on (b14.on b15)
 refine vars b215 λw16 bw _ hV16 b16=>?_
 have b216:=b215.on b16
 refine zb6 (hRl.below b216) hp λw17 r17 hW17=>⟨r17,rfl,?_⟩
 have b17:=hW17.below
 rw[zkx W]at hW17
 refine za2 (hV16.below b17).isS hW17.own.isS λw18 _ b18=>⟨_,rfl,zD (by simp) ?_⟩
 have b218:=b216.on (b17.on b18)
 refine ziK (hPo.below b218) λtb _=>⟨some (blk tb),rfl,hR w18 (b02.on b218)⟩
set_option maxHeartbeats 4000000 in
theorem zhf{id:Int}(hN:IsPl w x.2.2.1 pl)(hp:PlOk pl)(hbd:0<=x.2.1/\x.2.1<=4294967295)(htab:Tab w)(hR:∀w',Below w.heap.size w w'->R (.bool true) w') :
  cR 3 #[moA x,.int .u32 id] w R:=by
 refine za.of (YI x id R w ?_) λ_ _ h=>h
 refine zm λw1 hB1 b1 z1=>?_
 have hB1:Blk w1 w.heap.size 25 (moV x):=hB1
 refine Mo.load hB1 (zcR (x:=x) (hN.below b1) hp hbd.1 (htab.below b1) (λ_ w2 b2=>⟨none,none,true,rfl,zl.cut (λ_ _=>False) (zD rfl (hR w2 (b1.on b2))) λ_ _ h=>h.elim⟩) λhC w2 B pb qb A b2 hPo hRl=>⟨some (blk pb),some (blk qb),true,rfl,zl.cut (λ(_:Unit) w'=>w2=w') (zx rfl (zx rfl rfl)) ?_⟩)
 rintro _ w3 rfl
 have b02:=b1.on b2
 have hli:=zkw pl pl.length
 have hpl:=hp.len
 refine zeo hRl hp λw4 r4 hW4=>⟨r4,rfl,hW4.push (v:=id) (by omega) λr w6 hW6 _=>?_⟩
 have b6:=hW6.below
 have hr:=hW6.own.isS
 generalize idsC pl pl.length++[id]=L at hr
 have hrl:=hr.len
 refine zn.count L.length hr.bound (λk w'=>Below w6.heap.size w6 w') (Below.refl _ _) ?_
 rintro k w7 hk b7 next hnext
 have b27:=b6.on b7
 refine zk (λg=>?_) (λg=>hR w7 (b02.on b27))
 have hkl:k<L.length:=by dsimp only at g;omega
 refine zY (hr.below b7) hkl ?_
 refine zd6 (hRl.below b27) hC hp hbd.1 λw8 r8 hs8 b8=>⟨_,r8,_,rfl,?_⟩
 have b78:=b7.on b8
 have b28:=b6.on b78
 refine zn.count 2 (by omega) (λk w'=>Below w8.heap.size w8 w') (Below.refl _ _) ?_
 rintro m w9 hm b9 next2 hnext2
 refine zk (λg2=>?_) (λg2=>hnext w9 hkl (b78.on b9))
 have hm2:m<2:=by dsimp only at g2;omega
 refine zY ((hr.below b78).below b9) hkl ?_
 have hlen:=zlN hC hp hbd.1 L[k]
 refine zmA (hPo.below (b28.on b9)) (by omega) λw10 vb hvb hV10 b10=>⟨_,⟨some (blk vb),(cnA (cnL pl) L[k]).2.length,(cnA (cnL pl) L[k]).2.length⟩,_,rfl,?_⟩
 have b810:=b9.on b10
 refine zl.cut (λ(_:Unit) w'=>Below w10.heap.size w10 w') (zp (λq=>absurd rfl q) λ_=>zx (by simp) (za2 (zpe hV10 (by omega)) (hs8.below b810) λw11 _ b11=>⟨_,rfl,zx (by simp) b11⟩)) ?_
 rintro _ w12 b12
 refine ZY (zj6 (hV10.below b12) (by omega)) λw13 o13=>⟨rfl,hnext2 w13 hm2 ?_⟩
 exact(b810.on b12).trans (o13.below λa ha=>by cases ha;have:=b9.size;show w8.heap.size<=vb;omega)
set_option maxHeartbeats 4000000 in
theorem zf2{id:Int}(hN:IsPl w x.2.2.1 pl)(hp:PlOk pl)(hbd:0<=x.2.1/\x.2.1<=4294967295)(htab:Tab w)(hR:∀w',Below w.heap.size w w'->R (.bool true) w') :
  cR 4 #[moA x,.int .u32 id] w R:=by
 refine za.of (ZV x id R w ?_) λ_ _ h=>h
 refine zm λw1 hB1 b1 z1=>?_
 have hB1:Blk w1 w.heap.size 25 (moV x):=hB1
 refine Mo.load hB1 (zcR (x:=x) (hN.below b1) hp hbd.1 (htab.below b1) (λ_ w2 b2=>⟨none,none,true,rfl,zl.cut (λ_ _=>False) (zD rfl (hR w2 (b1.on b2))) λ_ _ h=>h.elim⟩) λhC w2 B pb qb A b2 hPo hRl=>⟨some (blk pb),some (blk qb),true,rfl,zl.cut (λ(_:Unit) w'=>w2=w') (zx rfl (zx rfl rfl)) ?_⟩)
 rintro _ w3 rfl
 have b02:=b1.on b2
 have hli:=zky pl pl.length
 have hpl:=hp.len
 refine zb6 hRl hp λw4 r4 hW4=>⟨r4,rfl,hW4.push (v:=id) (by omega) λr w6 hW6 _=>?_⟩
 have b6:=hW6.below
 have hr:=hW6.own.isS
 generalize idsV pl pl.length++[id]=L at hr
 have hrl:=hr.len
 refine zn.count L.length hr.bound (λk w'=>Below w6.heap.size w6 w') (Below.refl _ _) ?_
 rintro k w7 hk b7 next hnext
 have b27:=b6.on b7
 refine zk (λg=>?_) (λg=>hR w7 (b02.on b27))
 have hkl:k<L.length:=by dsimp only at g;omega
 refine zY (hr.below b7) hkl ?_
 refine zko (hRl.below b27) hC hp hbd.1 λw8 r8 hs8 b8=>⟨_,_,r8,_,rfl,?_⟩
 have b78:=b7.on b8
 have b28:=b6.on b78
 refine zn.count 2 (by omega) (λk w'=>Below w8.heap.size w8 w') (Below.refl _ _) ?_
 rintro m w9 hm b9 next2 hnext2
 refine zk (λg2=>?_) (λg2=>hnext w9 hkl (b78.on b9))
 have hm2:m<2:=by dsimp only at g2;omega
 refine zY ((hr.below b78).below b9) hkl ?_
 have hlen:=zrN hC hp hbd.1 L[k]
 refine zjT (hPo.below (b28.on b9)) (by omega) λw10 vb hvb hV10 b10=>⟨_,_,⟨some (blk vb),(vnA (vnL pl) L[k]).2.2.length,(vnA (vnL pl) L[k]).2.2.length⟩,_,rfl,?_⟩
 have b810:=b9.on b10
 refine zl.cut (λ(_:Unit) w'=>Below w10.heap.size w10 w') (zp (λq=>absurd rfl q) λ_=>zp (λq=>absurd rfl q) λ_=>zx (by simp) (za2 (zpe hV10 (by omega)) (hs8.below b810) λw11 _ b11=>⟨_,rfl,zx (by simp) b11⟩)) ?_
 rintro _ w12 b12
 refine ZY (zj6 (hV10.below b12) (by omega)) λw13 o13=>⟨rfl,hnext2 w13 hm2 ?_⟩
 exact(b810.on b12).trans (o13.below λa ha=>by cases ha;have:=b9.size;show w8.heap.size<=vb;omega)
set_option maxHeartbeats 4000000 in
theorem zie{ty:Int}{s:Sl}{l:List Int}(hN:IsPl w x.2.2.1 pl)(hp:PlOk pl)(hbd:0<=x.2.1/\x.2.1<=4294967295)(hs:IsS (Value.int .u32) w s l)(hmax:4*l.length<=140737488351232)(htab:Tab w)(hR:∀w',Below w.heap.size w w'->R (.bool true) w') :
  cR 6 #[moA x,.int .u32 ty,.slice s.a s.l s.c] w R:=by
 refine za.of (YP x ty s R w ?_) λ_ _ h=>h
 refine zm λw1 hB1 b1 z1=>?_
 have hB1:Blk w1 w.heap.size 25 (moV x):=hB1
 refine Mo.load hB1 (zcR (x:=x) (hN.below b1) hp hbd.1 (htab.below b1) (λ_ w2 b2=>⟨none,none,true,rfl,zl.cut (λ_ _=>False) (zD rfl (hR w2 (b1.on b2))) λ_ _ h=>h.elim⟩) λhC w2 B pb qb A b2 hPo hRl=>⟨some (blk pb),some (blk qb),true,rfl,zl.cut (λ(_:Unit) w'=>w2=w') (zx rfl (zx rfl rfl)) ?_⟩)
 rintro _ w3 rfl
 have b02:=b1.on b2
 have W:=hC.whole hp hbd.1
 refine zkl hRl hC hp hbd.1 (hs.below b02) λw4 b4=>⟨_,_,rfl,?_⟩
 refine zjF (hs.below (b02.on b4)) hmax λw5 hW5 b5=>⟨⟨some (blk w4.heap.size),l.length,l.length⟩,rfl,?_⟩
 have b25:=b4.on b5
 refine zjS (hPo.below b25) hW5.isS λw6 b6=>⟨_,_,rfl,zl.cut (λ(_:Unit) w'=>w6=w') (zp (λq=>absurd rfl q) λ_=>zx (by simp) rfl) ?_⟩
 rintro _ w7 rfl
 have b26:=b25.on b6
 refine zeo (hRl.below b26) hp λw8 r8 hW8=>⟨r8,rfl,?_⟩
 have b8:=hW8.below
 have b28:=b26.on b8
 have hr:=hW8.own.isS
 rw[zfP W]at hr
 have hrl:=hr.len
 refine zn.count ((cnL pl).map (·.1)).length hr.bound (λk w'=>Below w8.heap.size w8 w') (Below.refl _ _) ?_
 rintro k w9 hk b9 next hnext
 have b29:=b28.on b9
 refine zl.cut (λ(_:Unit) w'=>w9=w'/\k<((cnL pl).map (·.1)).length) (zk (λg=>zk (λg2=>⟨rfl,by dsimp only at g;omega⟩) (λ_=>hR w9 (b02.on b29))) (λ_=>hR w9 (b02.on b29))) ?_
 rintro _ w10 ⟨rfl,hkl⟩
 refine zl.cut (λ(_:Unit) w'=>Below w9.heap.size w9 w') ?_ λ_ w14 b14=>hnext w14 hkl (b9.on b14)
 refine zY (hr.below b9) hkl ?_
 have hmem:((cnL pl).map (·.1))[k]∈(cnL pl).map (·.1):=List.getElem_mem hkl
 generalize ((cnL pl).map (·.1))[k]=id at hmem⊢
 refine zd6 (hRl.below b29) hC hp hbd.1 λw11 r11 hs11 b11=>⟨_,r11,_,rfl,?_⟩
 have b211:=b29.on b11
 refine zkl (hRl.below b211) hC hp hbd.1 hs11 λw12 b12=>⟨_,_,rfl,?_⟩
 refine zjS (hPo.below (b211.on b12)) (hs11.below b12) λw13 b13=>⟨_,_,rfl,zx ?_ (zp (λq=>absurd rfl q) λ_=>(b11.on b12).on b13)⟩
 rw[zmU hmem]
 rfl
end
end Go.Proofs
namespace Go.Proofs.YtnplhdcedgcdhaaGreatDoor
open Go.ChangeShapes Go.WideShapes Go.RowKit Go.Gk
theorem zkf(os:Os):laidMet Tryz.prog Rows.constsNewRow.laid ((Jd.laidWorld os).forCall (λ_ _=>0) ⟨#[],#[.agg #[.int .u32 0,.int .u32 0,.slice none 0 0]],[]⟩).memory:=
 laidMet_of_run' 8 (by kernel_rfl) (by kernel_rfl)
theorem zjp(os:Os){H:Type}(enc:TypeId×Value->H):∃zU,DataW.whole enc Tryz.prog ((Jd.laidWorld os).forCall (λ_ _=>0) ⟨#[],#[.agg #[.int .u32 0,.int .u32 0,.slice none 0 0]],[]⟩).memory Tryz.f5.params.toList Rows.constsNewSpec.vars false #[(.agg #[.int .u32 0,.int .u32 0,.slice none 0 0]:Value)].toList 8=some ([.agg [.lit (.int .u32 0),.lit (.int .u32 0),.nil]],[],zU):=
 ⟨[],by kernel_rfl⟩
set_option maxRecDepth 100000 in
theorem zir(os:Os)(started:os.Started)(H:Type)(enc:TypeId×Value->H)(Fi:Stop.Interp) :
  ReturnsInHanded {} Tryz.checked os 5 .any ((OpenSpec.ofChange Rows.constsNewSpec).preRow enc Tryz.prog Tryz.f5 Rows.constsNewRow.domain false Rows.constsNewRow.laid) (((OpenSpec.ofChange Rows.constsNewSpec).at Fi).post enc Tryz.prog Tryz.f5 false true false false):=by
 obtain⟨zU,hx⟩:=zjp os enc
 refine returnsInHanded_of_row (C:=Tryz.checked) (s:=OpenSpec.ofChange Rows.constsNewSpec) Jn.own started (by kernel_rfl) Tryz.func5
  (witness_row_at (enc:=enc) (C:=Tryz.checked) false (Jd.laidWorld os) #[(.agg #[.int .u32 0,.int .u32 0,.slice none 0 0]:Value)] rfl (by kernel_rfl) (by kernel_rfl) (by kernel_rfl)
   (OpenSpec.preRow_of_cond 8 hx (by kernel_rfl) (λk hk=>by cases hk) (by kernel_rfl) (zkf os))) ?_
 intro W base args ds gs before hval0 hW0 _ _ hz0 hL _ _
 have hval:∀(j:Nat) t v,Tryz.f5.params[j]? =some t->args[j]? =some v->Value.okWide Tryz.prog W .any base t v:=hval0
 have hz:(DataW.weightsEach Tryz.prog (Tryz.f5.params.toList++Rows.constsNewSpec.plain.varTypes Tryz.prog) (ds++gs)).all (·<=reachBytes)=true:=hz0
 have htab:Tab W:=Jd.tab hL
 have hW:DataW.Whole enc Tryz.prog Tryz.f5.params.toList Rows.constsNewSpec.vars false W args.toList ds gs before:=hW0
 have hW':=hW
 obtain⟨p,q,hA0,hV,hbef,hfz,hnd⟩:=hW
 have hA:DataW.TrodAll enc Tryz.prog W 0 (λ_=>true) true Tryz.f5.params.toList args.toList ds p:=hA0
 rw[Tryz.params5]at hA hval hz
 obtain⟨v0,vs0,d0,ds0,p0,q0,hargs,rfl,rfl,h0,r0⟩:=trodAll_cons hA
 obtain⟨rfl,rfl,rfl⟩:=trodAll_nil r0
 obtain rfl:args=#[v0]:=by cases args;simp_all
 obtain⟨x0,pl0,rfl,hN0,hp0,hbd0⟩:=Jn.open_module (hval 0 25 v0 rfl rfl) h0 (λn hn=>by
  have:=List.all_eq_true.1 hz _ (DataW.weights_mem_each (j:=0) (t:=25) rfl rfl n hn)
  simpa using this)
 refine Calls.mono (zjD hN0 hp0 hbd0 htab (R:=λv w'=>v =.bool true/\Below W.heap.size W w') λw' hb=>⟨rfl,hb⟩) λe W' h=>?_
 cases e with
 |returned v=>
  obtain⟨rfl,hb⟩:=h
  exact⟨_,rfl,Jn.post_true (s:=Rows.constsNewSpec) (by kernel_rfl) (by rw[Tryz.params5];intro t ht;simp at ht;subst ht;exact⟨by kernel_rfl,of_decide_eq_true (by kernel_rfl)⟩) rfl rfl hW' hb⟩
 |_=>exact h.elim
theorem zjn:joinedFacts Tryz.prog 5 Tryz.f5 (OpenSpec.ofChange Rows.constsNewSpec).bare Rows.constsNewRow=true:=by
 unfold joinedFacts
 rw[Jn.mayEnterE,Jn.liftsE,Jn.makeE]
 kernel_rfl
theorem zkg:Rows.ConstsNewSaid:=
 OpenClaim.holds_of_cond 5 Tryz.f5 rfl rfl rfl rfl rfl rfl rfl ⟨rfl,rfl,rfl,rfl,rfl⟩ rfl rfl rfl rfl rfl (by kernel_rfl) Tryz.func5 zjn
  (of_decide_eq_true (by kernel_rfl)) (by unfold Func.isWrapper;first | (rw[if_pos (by decide +kernel)];kernel_rfl) | (rw[if_neg (by decide +kernel)];exact⟨rfl,rfl⟩))
  (λos started H enc _ Fi=>by rw[OpenClaim.pre_eq_preRow];exact zir os started H enc Fi)
theorem zjo (f : FuncId) (fn : Func) (hf : Tryz.pinned.checked.prog.funcNamed "intaglio/intagliolaw11.ConstsNew" = some f) (hfn : Tryz.pinned.checked.prog.funcs[f]? = some fn) :
  false=Tryz.pinned.checked.prog.looks []/\∀(j:Nat) t,fn.params[j]? =some t->Tryz.pinned.checked.prog.wantsStandIn t=false:=by
 obtain rfl : f = 5 := Option.some.inj ((show Tryz.prog.funcNamed "intaglio/intagliolaw11.ConstsNew" = some 5 by kernel_rfl).symm.trans hf) |>.symm
 obtain rfl:fn=Tryz.f5:=(Option.some.inj (Tryz.func5.symm.trans hfn)).symm
 refine⟨by kernel_rfl,λj t ht=>?_⟩
 rw[Tryz.params5]at ht
 have ht:=Array.mem_of_getElem? ht
 simp at ht
 subst ht;exact(show Tryz.prog.wantsStandIn 25=false by kernel_rfl)
theorem constsNew_card : Rows.ConstsNewCardSaid:=
 Claim7.holds_tied_plain_at .later [] _ _ _ _ zkg (λ_ h=>by cases h) (by kernel_rfl) (λ_ h=>by cases h) constsNew_row_tie rfl ⟨rfl,rfl⟩ (by kernel_rfl) rfl zjo (by kernel_rfl)
end Go.Proofs.YtnplhdcedgcdhaaGreatDoor
namespace Go.Proofs.YtnplhdcedgcdhaaGreatDoor
open Go.ChangeShapes Go.WideShapes Go.RowKit Go.Gk
theorem zh8(os:Os):laidMet Tryz.prog Rows.constsValuesRow.laid ((Jd.laidWorld os).forCall (λ_ _=>0) ⟨#[],#[.agg #[.int .u32 0,.int .u32 0,.slice none 0 0],.int .u32 0],[]⟩).memory:=
 laidMet_of_run' 8 (by kernel_rfl) (by kernel_rfl)
theorem zgN(os:Os){H:Type}(enc:TypeId×Value->H):∃zU,DataW.whole enc Tryz.prog ((Jd.laidWorld os).forCall (λ_ _=>0) ⟨#[],#[.agg #[.int .u32 0,.int .u32 0,.slice none 0 0],.int .u32 0],[]⟩).memory Tryz.f3.params.toList Rows.constsValuesSpec.vars false #[(.agg #[.int .u32 0,.int .u32 0,.slice none 0 0]:Value),(.int .u32 0:Value)].toList 8=some ([.agg [.lit (.int .u32 0),.lit (.int .u32 0),.nil],.lit (.int .u32 0)],[],zU):=
 ⟨[],by kernel_rfl⟩
set_option maxRecDepth 100000 in
theorem zgt(os:Os)(started:os.Started)(H:Type)(enc:TypeId×Value->H)(Fi:Stop.Interp) :
  ReturnsInHanded {} Tryz.checked os 3 .any ((OpenSpec.ofChange Rows.constsValuesSpec).preRow enc Tryz.prog Tryz.f3 Rows.constsValuesRow.domain false Rows.constsValuesRow.laid) (((OpenSpec.ofChange Rows.constsValuesSpec).at Fi).post enc Tryz.prog Tryz.f3 false true false false):=by
 obtain⟨zU,hx⟩:=zgN os enc
 refine returnsInHanded_of_row (C:=Tryz.checked) (s:=OpenSpec.ofChange Rows.constsValuesSpec) Jn.own started (by kernel_rfl) Tryz.func3
  (witness_row_at (enc:=enc) (C:=Tryz.checked) false (Jd.laidWorld os) #[(.agg #[.int .u32 0,.int .u32 0,.slice none 0 0]:Value),(.int .u32 0:Value)] rfl (by kernel_rfl) (by kernel_rfl) (by kernel_rfl)
   (OpenSpec.preRow_of_cond 8 hx (by kernel_rfl) (λk hk=>by cases hk) (by kernel_rfl) (zh8 os))) ?_
 intro W base args ds gs before hval0 hW0 _ _ hz0 hL _ _
 have hval:∀(j:Nat) t v,Tryz.f3.params[j]? =some t->args[j]? =some v->Value.okWide Tryz.prog W .any base t v:=hval0
 have hz:(DataW.weightsEach Tryz.prog (Tryz.f3.params.toList++Rows.constsValuesSpec.plain.varTypes Tryz.prog) (ds++gs)).all (·<=reachBytes)=true:=hz0
 have htab:Tab W:=Jd.tab hL
 have hW:DataW.Whole enc Tryz.prog Tryz.f3.params.toList Rows.constsValuesSpec.vars false W args.toList ds gs before:=hW0
 have hW':=hW
 obtain⟨p,q,hA0,hV,hbef,hfz,hnd⟩:=hW
 have hA:DataW.TrodAll enc Tryz.prog W 0 (λ_=>true) true Tryz.f3.params.toList args.toList ds p:=hA0
 rw[Tryz.params3]at hA hval hz
 obtain⟨v0,vs0,d0,ds0,p0,q0,hargs,rfl,rfl,h0,r0⟩:=trodAll_cons hA
 obtain⟨v1,vs1,d1,ds1,p1,q1,rfl,rfl,rfl,h1,r1⟩:=trodAll_cons r0
 obtain⟨rfl,rfl,rfl⟩:=trodAll_nil r1
 obtain rfl:args=#[v0,v1]:=by cases args;simp_all
 obtain⟨x0,pl0,rfl,hN0,hp0,hbd0⟩:=Jn.open_module (hval 0 25 v0 rfl rfl) h0 (λn hn=>by
  have:=List.all_eq_true.1 hz _ (DataW.weights_mem_each (j:=0) (t:=25) rfl rfl n hn)
  simpa using this)
 obtain⟨i1,rfl,rfl,rfl,wi1⟩:=open_int Tryz.underlying22 (hval 1 22 v1 rfl rfl) h1
 refine Calls.mono (zhf hN0 hp0 hbd0 htab (R:=λv w'=>v =.bool true/\Below W.heap.size W w') λw' hb=>⟨rfl,hb⟩) λe W' h=>?_
 cases e with
 |returned v=>
  obtain⟨rfl,hb⟩:=h
  exact⟨_,rfl,Jn.post_true (s:=Rows.constsValuesSpec) (by kernel_rfl) (by rw[Tryz.params3];intro t ht;simp at ht;rcases ht with rfl |rfl<;>exact⟨by kernel_rfl,of_decide_eq_true (by kernel_rfl)⟩) rfl rfl hW' hb⟩
 |_=>exact h.elim
theorem zgL:joinedFacts Tryz.prog 3 Tryz.f3 (OpenSpec.ofChange Rows.constsValuesSpec).bare Rows.constsValuesRow=true:=by
 unfold joinedFacts
 rw[Jn.mayEnterE,Jn.liftsE,Jn.makeE]
 kernel_rfl
theorem zh9:Rows.ConstsValuesSaid:=
 OpenClaim.holds_of_cond 3 Tryz.f3 rfl rfl rfl rfl rfl rfl rfl ⟨rfl,rfl,rfl,rfl,rfl⟩ rfl rfl rfl rfl rfl (by kernel_rfl) Tryz.func3 zgL
  (of_decide_eq_true (by kernel_rfl)) (by unfold Func.isWrapper;first | (rw[if_pos (by decide +kernel)];kernel_rfl) | (rw[if_neg (by decide +kernel)];exact⟨rfl,rfl⟩))
  (λos started H enc _ Fi=>by rw[OpenClaim.pre_eq_preRow];exact zgt os started H enc Fi)
theorem zgM (f : FuncId) (fn : Func) (hf : Tryz.pinned.checked.prog.funcNamed "intaglio/intagliolaw11.ConstsValues" = some f) (hfn : Tryz.pinned.checked.prog.funcs[f]? = some fn) :
  false=Tryz.pinned.checked.prog.looks []/\∀(j:Nat) t,fn.params[j]? =some t->Tryz.pinned.checked.prog.wantsStandIn t=false:=by
 obtain rfl : f = 3 := Option.some.inj ((show Tryz.prog.funcNamed "intaglio/intagliolaw11.ConstsValues" = some 3 by kernel_rfl).symm.trans hf) |>.symm
 obtain rfl:fn=Tryz.f3:=(Option.some.inj (Tryz.func3.symm.trans hfn)).symm
 refine⟨by kernel_rfl,λj t ht=>?_⟩
 rw[Tryz.params3]at ht
 have ht:=Array.mem_of_getElem? ht
 simp at ht
 rcases ht with rfl |rfl
 ·exact(show Tryz.prog.wantsStandIn 25=false by kernel_rfl)
 ·exact(show Tryz.prog.wantsStandIn 22=false by kernel_rfl)
theorem constsValues_card : Rows.ConstsValuesCardSaid:=
 Claim7.holds_tied_plain_at .later [] _ _ _ _ zh9 (λ_ h=>by cases h) (by kernel_rfl) (λ_ h=>by cases h) constsValues_row_tie rfl ⟨rfl,rfl⟩ (by kernel_rfl) rfl zgM (by kernel_rfl)
end Go.Proofs.YtnplhdcedgcdhaaGreatDoor
namespace Go.Proofs.YtnplhdcedgcdhaaGreatDoor
open Go.ChangeShapes Go.WideShapes Go.RowKit Go.Gk
theorem zfG(os:Os):laidMet Tryz.prog Rows.constsVariablesRow.laid ((Jd.laidWorld os).forCall (λ_ _=>0) ⟨#[],#[.agg #[.int .u32 0,.int .u32 0,.slice none 0 0],.int .u32 0],[]⟩).memory:=
 laidMet_of_run' 8 (by kernel_rfl) (by kernel_rfl)
theorem zfx(os:Os){H:Type}(enc:TypeId×Value->H):∃zU,DataW.whole enc Tryz.prog ((Jd.laidWorld os).forCall (λ_ _=>0) ⟨#[],#[.agg #[.int .u32 0,.int .u32 0,.slice none 0 0],.int .u32 0],[]⟩).memory Tryz.f4.params.toList Rows.constsVariablesSpec.vars false #[(.agg #[.int .u32 0,.int .u32 0,.slice none 0 0]:Value),(.int .u32 0:Value)].toList 8=some ([.agg [.lit (.int .u32 0),.lit (.int .u32 0),.nil],.lit (.int .u32 0)],[],zU):=
 ⟨[],by kernel_rfl⟩
set_option maxRecDepth 100000 in
theorem zeL(os:Os)(started:os.Started)(H:Type)(enc:TypeId×Value->H)(Fi:Stop.Interp) :
  ReturnsInHanded {} Tryz.checked os 4 .any ((OpenSpec.ofChange Rows.constsVariablesSpec).preRow enc Tryz.prog Tryz.f4 Rows.constsVariablesRow.domain false Rows.constsVariablesRow.laid) (((OpenSpec.ofChange Rows.constsVariablesSpec).at Fi).post enc Tryz.prog Tryz.f4 false true false false):=by
 obtain⟨zU,hx⟩:=zfx os enc
 refine returnsInHanded_of_row (C:=Tryz.checked) (s:=OpenSpec.ofChange Rows.constsVariablesSpec) Jn.own started (by kernel_rfl) Tryz.func4
  (witness_row_at (enc:=enc) (C:=Tryz.checked) false (Jd.laidWorld os) #[(.agg #[.int .u32 0,.int .u32 0,.slice none 0 0]:Value),(.int .u32 0:Value)] rfl (by kernel_rfl) (by kernel_rfl) (by kernel_rfl)
   (OpenSpec.preRow_of_cond 8 hx (by kernel_rfl) (λk hk=>by cases hk) (by kernel_rfl) (zfG os))) ?_
 intro W base args ds gs before hval0 hW0 _ _ hz0 hL _ _
 have hval:∀(j:Nat) t v,Tryz.f4.params[j]? =some t->args[j]? =some v->Value.okWide Tryz.prog W .any base t v:=hval0
 have hz:(DataW.weightsEach Tryz.prog (Tryz.f4.params.toList++Rows.constsVariablesSpec.plain.varTypes Tryz.prog) (ds++gs)).all (·<=reachBytes)=true:=hz0
 have htab:Tab W:=Jd.tab hL
 have hW:DataW.Whole enc Tryz.prog Tryz.f4.params.toList Rows.constsVariablesSpec.vars false W args.toList ds gs before:=hW0
 have hW':=hW
 obtain⟨p,q,hA0,hV,hbef,hfz,hnd⟩:=hW
 have hA:DataW.TrodAll enc Tryz.prog W 0 (λ_=>true) true Tryz.f4.params.toList args.toList ds p:=hA0
 rw[Tryz.params4]at hA hval hz
 obtain⟨v0,vs0,d0,ds0,p0,q0,hargs,rfl,rfl,h0,r0⟩:=trodAll_cons hA
 obtain⟨v1,vs1,d1,ds1,p1,q1,rfl,rfl,rfl,h1,r1⟩:=trodAll_cons r0
 obtain⟨rfl,rfl,rfl⟩:=trodAll_nil r1
 obtain rfl:args=#[v0,v1]:=by cases args;simp_all
 obtain⟨x0,pl0,rfl,hN0,hp0,hbd0⟩:=Jn.open_module (hval 0 25 v0 rfl rfl) h0 (λn hn=>by
  have:=List.all_eq_true.1 hz _ (DataW.weights_mem_each (j:=0) (t:=25) rfl rfl n hn)
  simpa using this)
 obtain⟨i1,rfl,rfl,rfl,wi1⟩:=open_int Tryz.underlying22 (hval 1 22 v1 rfl rfl) h1
 refine Calls.mono (zf2 hN0 hp0 hbd0 htab (R:=λv w'=>v =.bool true/\Below W.heap.size W w') λw' hb=>⟨rfl,hb⟩) λe W' h=>?_
 cases e with
 |returned v=>
  obtain⟨rfl,hb⟩:=h
  exact⟨_,rfl,Jn.post_true (s:=Rows.constsVariablesSpec) (by kernel_rfl) (by rw[Tryz.params4];intro t ht;simp at ht;rcases ht with rfl |rfl<;>exact⟨by kernel_rfl,of_decide_eq_true (by kernel_rfl)⟩) rfl rfl hW' hb⟩
 |_=>exact h.elim
theorem zfv:joinedFacts Tryz.prog 4 Tryz.f4 (OpenSpec.ofChange Rows.constsVariablesSpec).bare Rows.constsVariablesRow=true:=by
 unfold joinedFacts
 rw[Jn.mayEnterE,Jn.liftsE,Jn.makeE]
 kernel_rfl
theorem zfH:Rows.ConstsVariablesSaid:=
 OpenClaim.holds_of_cond 4 Tryz.f4 rfl rfl rfl rfl rfl rfl rfl ⟨rfl,rfl,rfl,rfl,rfl⟩ rfl rfl rfl rfl rfl (by kernel_rfl) Tryz.func4 zfv
  (of_decide_eq_true (by kernel_rfl)) (by unfold Func.isWrapper;first | (rw[if_pos (by decide +kernel)];kernel_rfl) | (rw[if_neg (by decide +kernel)];exact⟨rfl,rfl⟩))
  (λos started H enc _ Fi=>by rw[OpenClaim.pre_eq_preRow];exact zeL os started H enc Fi)
theorem zfw (f : FuncId) (fn : Func) (hf : Tryz.pinned.checked.prog.funcNamed "intaglio/intagliolaw11.ConstsVariables" = some f) (hfn : Tryz.pinned.checked.prog.funcs[f]? = some fn) :
  false=Tryz.pinned.checked.prog.looks []/\∀(j:Nat) t,fn.params[j]? =some t->Tryz.pinned.checked.prog.wantsStandIn t=false:=by
 obtain rfl : f = 4 := Option.some.inj ((show Tryz.prog.funcNamed "intaglio/intagliolaw11.ConstsVariables" = some 4 by kernel_rfl).symm.trans hf) |>.symm
 obtain rfl:fn=Tryz.f4:=(Option.some.inj (Tryz.func4.symm.trans hfn)).symm
 refine⟨by kernel_rfl,λj t ht=>?_⟩
 rw[Tryz.params4]at ht
 have ht:=Array.mem_of_getElem? ht
 simp at ht
 rcases ht with rfl |rfl
 ·exact(show Tryz.prog.wantsStandIn 25=false by kernel_rfl)
 ·exact(show Tryz.prog.wantsStandIn 22=false by kernel_rfl)
theorem constsVariables_card : Rows.ConstsVariablesCardSaid:=
 Claim7.holds_tied_plain_at .later [] _ _ _ _ zfH (λ_ h=>by cases h) (by kernel_rfl) (λ_ h=>by cases h) constsVariables_row_tie rfl ⟨rfl,rfl⟩ (by kernel_rfl) rfl zfw (by kernel_rfl)
end Go.Proofs.YtnplhdcedgcdhaaGreatDoor
namespace Go.Proofs.YtnplhdcedgcdhaaGreatDoor
open Go.ChangeShapes Go.WideShapes Go.RowKit Go.Gk
theorem zio(os:Os):laidMet Tryz.prog Rows.constsFindsRow.laid ((Jd.laidWorld os).forCall (λ_ _=>0) ⟨#[],#[.agg #[.int .u32 0,.int .u32 0,.slice none 0 0],.int .u32 0,.slice none 0 0],[]⟩).memory:=
 laidMet_of_run' 8 (by kernel_rfl) (by kernel_rfl)
theorem zh6(os:Os){H:Type}(enc:TypeId×Value->H):∃zU,DataW.whole enc Tryz.prog ((Jd.laidWorld os).forCall (λ_ _=>0) ⟨#[],#[.agg #[.int .u32 0,.int .u32 0,.slice none 0 0],.int .u32 0,.slice none 0 0],[]⟩).memory Tryz.f6.params.toList Rows.constsFindsSpec.vars false #[(.agg #[.int .u32 0,.int .u32 0,.slice none 0 0]:Value),(.int .u32 0:Value),(.slice none 0 0:Value)].toList 8=some ([.agg [.lit (.int .u32 0),.lit (.int .u32 0),.nil],.lit (.int .u32 0),.nil],[],zU):=
 ⟨[],by kernel_rfl⟩
set_option maxRecDepth 100000 in
theorem zgK(os:Os)(started:os.Started)(H:Type)(enc:TypeId×Value->H)(Fi:Stop.Interp) :
  ReturnsInHanded {} Tryz.checked os 6 .any ((OpenSpec.ofChange Rows.constsFindsSpec).preRow enc Tryz.prog Tryz.f6 Rows.constsFindsRow.domain false Rows.constsFindsRow.laid) (((OpenSpec.ofChange Rows.constsFindsSpec).at Fi).post enc Tryz.prog Tryz.f6 false true false false):=by
 obtain⟨zU,hx⟩:=zh6 os enc
 refine returnsInHanded_of_row (C:=Tryz.checked) (s:=OpenSpec.ofChange Rows.constsFindsSpec) Jn.own started (by kernel_rfl) Tryz.func6
  (witness_row_at (enc:=enc) (C:=Tryz.checked) false (Jd.laidWorld os) #[(.agg #[.int .u32 0,.int .u32 0,.slice none 0 0]:Value),(.int .u32 0:Value),(.slice none 0 0:Value)] rfl (by kernel_rfl) (by kernel_rfl) (by kernel_rfl)
   (OpenSpec.preRow_of_cond 8 hx (by kernel_rfl) (λk hk=>by cases hk) (by kernel_rfl) (zio os))) ?_
 intro W base args ds gs before hval0 hW0 _ _ hz0 hL _ _
 have hval:∀(j:Nat) t v,Tryz.f6.params[j]? =some t->args[j]? =some v->Value.okWide Tryz.prog W .any base t v:=hval0
 have hz:(DataW.weightsEach Tryz.prog (Tryz.f6.params.toList++Rows.constsFindsSpec.plain.varTypes Tryz.prog) (ds++gs)).all (·<=reachBytes)=true:=hz0
 have htab:Tab W:=Jd.tab hL
 have hW:DataW.Whole enc Tryz.prog Tryz.f6.params.toList Rows.constsFindsSpec.vars false W args.toList ds gs before:=hW0
 have hW':=hW
 obtain⟨p,q,hA0,hV,hbef,hfz,hnd⟩:=hW
 have hA:DataW.TrodAll enc Tryz.prog W 0 (λ_=>true) true Tryz.f6.params.toList args.toList ds p:=hA0
 rw[Tryz.params6]at hA hval hz
 obtain⟨v0,vs0,d0,ds0,p0,q0,hargs,rfl,rfl,h0,r0⟩:=trodAll_cons hA
 obtain⟨v1,vs1,d1,ds1,p1,q1,rfl,rfl,rfl,h1,r1⟩:=trodAll_cons r0
 obtain⟨v2,vs2,d2,ds2,p2,q2,rfl,rfl,rfl,h2,r2⟩:=trodAll_cons r1
 obtain⟨rfl,rfl,rfl⟩:=trodAll_nil r2
 obtain rfl:args=#[v0,v1,v2]:=by cases args;simp_all
 obtain⟨x0,pl0,rfl,hN0,hp0,hbd0⟩:=Jn.open_module (hval 0 25 v0 rfl rfl) h0 (λn hn=>by
  have:=List.all_eq_true.1 hz _ (DataW.weights_mem_each (j:=0) (t:=25) rfl rfl n hn)
  simpa using this)
 obtain⟨s2,tl2,rfl,hs2,h42⟩:=Jn.open_words (hval 2 30 v2 rfl rfl) h2 (λn hn=>by
  have:=List.all_eq_true.1 hz _ (DataW.weights_mem_each (j:=2) (t:=30) rfl rfl n hn)
  simpa using this)
 obtain⟨i1,rfl,rfl,rfl,wi1⟩:=open_int Tryz.underlying22 (hval 1 22 v1 rfl rfl) h1
 refine Calls.mono (zie hN0 hp0 hbd0 hs2 h42 htab (R:=λv w'=>v =.bool true/\Below W.heap.size W w') λw' hb=>⟨rfl,hb⟩) λe W' h=>?_
 cases e with
 |returned v=>
  obtain⟨rfl,hb⟩:=h
  exact⟨_,rfl,Jn.post_true (s:=Rows.constsFindsSpec) (by kernel_rfl) (by rw[Tryz.params6];intro t ht;simp at ht;rcases ht with rfl |rfl |rfl<;>exact⟨by kernel_rfl,of_decide_eq_true (by kernel_rfl)⟩) rfl rfl hW' hb⟩
 |_=>exact h.elim
theorem zh4:joinedFacts Tryz.prog 6 Tryz.f6 (OpenSpec.ofChange Rows.constsFindsSpec).bare Rows.constsFindsRow=true:=by
 unfold joinedFacts
 rw[Jn.mayEnterE,Jn.liftsE,Jn.makeE]
 kernel_rfl
theorem ziq:Rows.ConstsFindsSaid:=
 OpenClaim.holds_of_cond 6 Tryz.f6 rfl rfl rfl rfl rfl rfl rfl ⟨rfl,rfl,rfl,rfl,rfl⟩ rfl rfl rfl rfl rfl (by kernel_rfl) Tryz.func6 zh4
  (of_decide_eq_true (by kernel_rfl)) (by unfold Func.isWrapper;first | (rw[if_pos (by decide +kernel)];kernel_rfl) | (rw[if_neg (by decide +kernel)];exact⟨rfl,rfl⟩))
  (λos started H enc _ Fi=>by rw[OpenClaim.pre_eq_preRow];exact zgK os started H enc Fi)
theorem zh5 (f : FuncId) (fn : Func) (hf : Tryz.pinned.checked.prog.funcNamed "intaglio/intagliolaw11.ConstsFinds" = some f) (hfn : Tryz.pinned.checked.prog.funcs[f]? = some fn) :
  false=Tryz.pinned.checked.prog.looks []/\∀(j:Nat) t,fn.params[j]? =some t->Tryz.pinned.checked.prog.wantsStandIn t=false:=by
 obtain rfl : f = 6 := Option.some.inj ((show Tryz.prog.funcNamed "intaglio/intagliolaw11.ConstsFinds" = some 6 by kernel_rfl).symm.trans hf) |>.symm
 obtain rfl:fn=Tryz.f6:=(Option.some.inj (Tryz.func6.symm.trans hfn)).symm
 refine⟨by kernel_rfl,λj t ht=>?_⟩
 rw[Tryz.params6]at ht
 have ht:=Array.mem_of_getElem? ht
 simp at ht
 rcases ht with rfl |rfl |rfl
 ·exact(show Tryz.prog.wantsStandIn 25=false by kernel_rfl)
 ·exact(show Tryz.prog.wantsStandIn 22=false by kernel_rfl)
 ·exact(show Tryz.prog.wantsStandIn 30=false by kernel_rfl)
theorem constsFinds_card : Rows.ConstsFindsCardSaid:=
 Claim7.holds_tied_plain_at .later [] _ _ _ _ ziq (λ_ h=>by cases h) (by kernel_rfl) (λ_ h=>by cases h) constsFinds_row_tie rfl ⟨rfl,rfl⟩ (by kernel_rfl) rfl zh5 (by kernel_rfl)
end Go.Proofs.YtnplhdcedgcdhaaGreatDoor
namespace Go.Proofs
open Go.Gk Go.RowKit Go.Gm
def nmP:List PI:=[(14,0,0,[(4,0,bs []),(4,0,bs [])])]
theorem zsm:zQ 1 nmP=(0,0):=by decide +kernel
theorem zs6:PlOk nmP:=by
 refine⟨by show 40*1<=_;decide,λp hp=>?_,λp hp y hy=>?_,λp hp=>?_⟩
 ·simp only[nmP,List.mem_cons,List.not_mem_nil,or_false]at hp
  subst hp
  decide
 ·have:y.2.2=bs []:=by
   simp only[nmP,List.mem_cons,List.not_mem_nil,or_false]at hp
   subst hp
   simp only[List.mem_cons,List.not_mem_nil,or_false]at hy
   rcases hy with rfl |rfl<;>rfl
  rw[this]
  decide
 ·simp only[nmP,List.mem_cons,List.not_mem_nil,or_false]at hp
  subst hp
  decide
theorem zso:(typE 1 nmP).1=0:=by
 rw[zjA]
 ·rw[zsm]
 ·exact(by decide +kernel:∀k,k<1->errT (tysT nmP k) nmP k=0)
theorem zsn:conE 1 nmP=(0,0):=by
 exact zoQ zso (by decide +kernel:∀k,k<1->badC (tyL nmP) nmP k=0)
section
variable {w:World} {R:VWP}
theorem znl(hR:R (.pointer none) w):cR 20 #[.pointer none] w R:=
 za.of (Yr none R w (zD rfl hR)) λ_ _ h=>h
theorem zpU(hR:R (.slice none 0 0) w):cR 18 #[.pointer none] w R:=
 za.of (zaz none R w (zD rfl hR)) λ_ _ h=>h
theorem zju(hR:R (.slice none 0 0) w):cR 19 #[.pointer none] w R:=
 za.of (Zh none R w (zD rfl hR)) λ_ _ h=>h
theorem znm{id:Int}(hR:R (.tuple #[.int .u32 0,.slice none 0 0,.bool false]) w):cR 12 #[.pointer none,.int .u32 id] w R:=
 za.of (Ys none id R w (zD rfl hR)) λ_ _ h=>h
theorem zk8{id:Int}(hR:R (.tuple #[.int .u32 0,.int .u32 0,.slice none 0 0,.bool false]) w):cR 17 #[.pointer none,.int .u32 id] w R:=
 za.of (Z4 none id R w (zD rfl hR)) λ_ _ h=>h
theorem zon{ty:Int}(hR:∀w',Below w.heap.size w w'->R (.tuple #[.int .u32 0,.bool false]) w'):cR 22 #[.pointer none,.int .u32 ty,.slice none 0 0] w R:=by
 refine za.of (YE none ty ⟨none,0,0⟩ R w ?_) λ_ _ h=>h
 refine zm λw1 h1 b1 z1=>zm λw2 h2 b2 z2=>zm λw3 h3 b3 z3=>?_
 exact⟨none,((h1.below b2).below b3).cell0 rfl,zD rfl (hR w3 ((b1.on b2).on b3))⟩
set_option maxHeartbeats 4000000 in
theorem zjE{id:Int}(htab:Tab w)(hR:∀w',Below w.heap.size w w'->R (.bool true) w') :
  cR 7 #[.int .u32 id] w R:=by
 refine za.of (zbv id R w ?_) λ_ _ h=>h
 refine zjR λw1 b1=>⟨(4,0,bs [],()),rfl,zjR λw2 b2=>⟨(4,0,bs [],()),rfl,zm λw3 hA3 b3 z3=>zm λw4 hI4 b4 z4=>?_⟩⟩
 have hA3:Blk w3 w2.heap.size 48 (flat agV [(4,0,bs []),(4,0,bs [])]):=hA3
 have hI4:Blk w4 w3.heap.size 52 (flat inV [(14,0,0,⟨some (blk w2.heap.size),2,2⟩,())]):=hI4
 have b04:=((b1.on b2).on b3).on b4
 have hN:IsPl w4 ⟨some (blk w3.heap.size),1,1⟩ nmP:=by
  refine⟨rfl,Nat.le_refl _,by show 1<=_;omega,λh=>(by cases h),λa ha k hk=>?_⟩
  cases ha
  have hk1:k<1:=hk
  have hk0:k=0:=by omega
  subst hk0
  refine⟨⟨some (blk w2.heap.size),2,2⟩,λj hj=>?_,Blk.isC zG (by omega) (hA3.below b4) (by simp)⟩
  have hlt:j<(inV (mkIn (14,0,0,[(4,0,bs []),(4,0,bs [])]) ⟨some (blk w2.heap.size),2,2⟩)).length:=hj
  have he:(flat inV [(14,0,0,⟨some (blk w2.heap.size),2,2⟩,())])[0*4+j]? =(inV (mkIn (14,0,0,[(4,0,bs []),(4,0,bs [])]) ⟨some (blk w2.heap.size),2,2⟩))[j]?:=by
   have hj4:j=0\/j=1\/j=2\/j=3:=by omega
   rcases hj4 with rfl |rfl |rfl |rfl<;>rfl
  show w4.cell? _=(inV (mkIn (14,0,0,[(4,0,bs []),(4,0,bs [])]) ⟨some (blk w2.heap.size),2,2⟩))[j]?
  rw[List.getElem?_eq_getElem hlt]at he⊢
  exact hI4.cell he
 refine zcR (x:=(0,1,⟨some (blk w3.heap.size),1,1⟩,())) hN zs6 (by show(0:Int)<=1;decide) (htab.below b04) (λhc=>absurd (by show(conE 1 nmP).1=0;rw[zsn]) hc) λhC w5 B pb qb A b5 hPo hRl=>⟨some (blk pb),some (blk qb),true,rfl,?_⟩
 refine zl.cut (λ(_:Unit) w'=>w5=w') (zx rfl (zx rfl (ziK hPo λtb _=>⟨some (blk tb),rfl,zx rfl rfl⟩))) ?_
 rintro _ w7 rfl
 refine znm ⟨0,⟨none,0,0⟩,false,rfl,zon λw9 b9=>⟨0,false,rfl,zk8 ⟨0,0,⟨none,0,0⟩,false,rfl,znl ⟨none,rfl,zD rfl (zpU ⟨⟨none,0,0⟩,rfl,zD rfl (zju ⟨⟨none,0,0⟩,rfl,zD rfl ?_⟩)⟩)⟩⟩⟩⟩
 exact zD rfl (zD rfl (zD rfl (zD rfl (zD rfl (zD rfl (zD rfl (zD rfl (hR w9 ((b04.on b5).on b9)))))))))
end
end Go.Proofs
namespace Go.Proofs.YtnplhdcedgcdhaaGreatDoor
open Go.ChangeShapes Go.WideShapes Go.RowKit Go.Gk
theorem zki(os:Os):laidMet Tryz.prog Rows.constsNilRow.laid ((Jd.laidWorld os).forCall (λ_ _=>0) ⟨#[],#[.int .u32 0],[]⟩).memory:=
 laidMet_of_run' 8 (by kernel_rfl) (by kernel_rfl)
theorem zjs(os:Os){H:Type}(enc:TypeId×Value->H):∃zU,DataW.whole enc Tryz.prog ((Jd.laidWorld os).forCall (λ_ _=>0) ⟨#[],#[.int .u32 0],[]⟩).memory Tryz.f7.params.toList Rows.constsNilSpec.vars false #[(.int .u32 0:Value)].toList 8=some ([.lit (.int .u32 0)],[],zU):=
 ⟨[],by kernel_rfl⟩
set_option maxRecDepth 100000 in
theorem zis(os:Os)(started:os.Started)(H:Type)(enc:TypeId×Value->H)(Fi:Stop.Interp) :
  ReturnsInHanded {} Tryz.checked os 7 .any ((OpenSpec.ofChange Rows.constsNilSpec).preRow enc Tryz.prog Tryz.f7 Rows.constsNilRow.domain false Rows.constsNilRow.laid) (((OpenSpec.ofChange Rows.constsNilSpec).at Fi).post enc Tryz.prog Tryz.f7 false true false false):=by
 obtain⟨zU,hx⟩:=zjs os enc
 refine returnsInHanded_of_row (C:=Tryz.checked) (s:=OpenSpec.ofChange Rows.constsNilSpec) Jn.own started (by kernel_rfl) Tryz.func7
  (witness_row_at (enc:=enc) (C:=Tryz.checked) false (Jd.laidWorld os) #[(.int .u32 0:Value)] rfl (by kernel_rfl) (by kernel_rfl) (by kernel_rfl)
   (OpenSpec.preRow_of_cond 8 hx (by kernel_rfl) (λk hk=>by cases hk) (by kernel_rfl) (zki os))) ?_
 intro W base args ds gs before hval0 hW0 _ _ hz0 hL _ _
 have hval:∀(j:Nat) t v,Tryz.f7.params[j]? =some t->args[j]? =some v->Value.okWide Tryz.prog W .any base t v:=hval0
 have hz:(DataW.weightsEach Tryz.prog (Tryz.f7.params.toList++Rows.constsNilSpec.plain.varTypes Tryz.prog) (ds++gs)).all (·<=reachBytes)=true:=hz0
 have htab:Tab W:=Jd.tab hL
 have hW:DataW.Whole enc Tryz.prog Tryz.f7.params.toList Rows.constsNilSpec.vars false W args.toList ds gs before:=hW0
 have hW':=hW
 obtain⟨p,q,hA0,hV,hbef,hfz,hnd⟩:=hW
 have hA:DataW.TrodAll enc Tryz.prog W 0 (λ_=>true) true Tryz.f7.params.toList args.toList ds p:=hA0
 rw[Tryz.params7]at hA hval hz
 obtain⟨v0,vs0,d0,ds0,p0,q0,hargs,rfl,rfl,h0,r0⟩:=trodAll_cons hA
 obtain⟨rfl,rfl,rfl⟩:=trodAll_nil r0
 obtain rfl:args=#[v0]:=by cases args;simp_all
 obtain⟨i0,rfl,rfl,rfl,wi0⟩:=open_int Tryz.underlying22 (hval 0 22 v0 rfl rfl) h0
 refine Calls.mono (zjE  htab (R:=λv w'=>v =.bool true/\Below W.heap.size W w') λw' hb=>⟨rfl,hb⟩) λe W' h=>?_
 cases e with
 |returned v=>
  obtain⟨rfl,hb⟩:=h
  exact⟨_,rfl,Jn.post_true (s:=Rows.constsNilSpec) (by kernel_rfl) (by rw[Tryz.params7];intro t ht;simp at ht;subst ht;exact⟨by kernel_rfl,of_decide_eq_true (by kernel_rfl)⟩) rfl rfl hW' hb⟩
 |_=>exact h.elim
theorem zjq:joinedFacts Tryz.prog 7 Tryz.f7 (OpenSpec.ofChange Rows.constsNilSpec).bare Rows.constsNilRow=true:=by
 unfold joinedFacts
 rw[Jn.mayEnterE,Jn.liftsE,Jn.makeE]
 kernel_rfl
theorem zkj:Rows.ConstsNilSaid:=
 OpenClaim.holds_of_cond 7 Tryz.f7 rfl rfl rfl rfl rfl rfl rfl ⟨rfl,rfl,rfl,rfl,rfl⟩ rfl rfl rfl rfl rfl (by kernel_rfl) Tryz.func7 zjq
  (of_decide_eq_true (by kernel_rfl)) (by unfold Func.isWrapper;first | (rw[if_pos (by decide +kernel)];kernel_rfl) | (rw[if_neg (by decide +kernel)];exact⟨rfl,rfl⟩))
  (λos started H enc _ Fi=>by rw[OpenClaim.pre_eq_preRow];exact zis os started H enc Fi)
theorem zjr (f : FuncId) (fn : Func) (hf : Tryz.pinned.checked.prog.funcNamed "intaglio/intagliolaw11.ConstsNil" = some f) (hfn : Tryz.pinned.checked.prog.funcs[f]? = some fn) :
  false=Tryz.pinned.checked.prog.looks []/\∀(j:Nat) t,fn.params[j]? =some t->Tryz.pinned.checked.prog.wantsStandIn t=false:=by
 obtain rfl : f = 7 := Option.some.inj ((show Tryz.prog.funcNamed "intaglio/intagliolaw11.ConstsNil" = some 7 by kernel_rfl).symm.trans hf) |>.symm
 obtain rfl:fn=Tryz.f7:=(Option.some.inj (Tryz.func7.symm.trans hfn)).symm
 refine⟨by kernel_rfl,λj t ht=>?_⟩
 rw[Tryz.params7]at ht
 have ht:=Array.mem_of_getElem? ht
 simp at ht
 subst ht;exact(show Tryz.prog.wantsStandIn 22=false by kernel_rfl)
theorem constsNil_card : Rows.ConstsNilCardSaid:=
 Claim7.holds_tied_plain_at .later [] _ _ _ _ zkj (λ_ h=>by cases h) (by kernel_rfl) (λ_ h=>by cases h) constsNil_row_tie rfl ⟨rfl,rfl⟩ (by kernel_rfl) rfl zjr (by kernel_rfl)
end Go.Proofs.YtnplhdcedgcdhaaGreatDoor
