/- FlowRenamed, part 8; made small by a program. -/
import Derived.Test.YtgkgagmdkgdjdaaGreatProg
import Derived.Test.YtgkgagmdkgdjdaaGreatPFlowRenamed7
namespace Go.Proofs
open Go.Gk Go.RowKit Go.Gm Go.Gr Go.Dm
def leP(b:Bool):List PI:=[(14,0,0,[(4,0,bs []),(4,0,bs [])]),(19,0,1,[]),(33,0,2,[(1,1,bs [])]),(20,0,7,[]),(41,7,8,[]),(54,1,3,[(4,0,bs []),(1,2,bs [])]),(248,0,4,[]),
 (83,7,5,[(1,(if b=true then 6 else 8),bs [])]),(83,7,6,[(1,5,bs [])]),(253,0,0,[]),(56,0,0,[])]
def leF:FnL:=⟨3,5,10,[],[(4,6,10)]⟩
theorem zql:∀b,yc 10 (leP b)=(0,0)
 |true=>by decide +kernel
 |false=>by decide +kernel
theorem zqm:∀b,cutF (leP b) (leP b).length=[leF]
 |true=>by kernel_rfl
 |false=>by kernel_rfl
theorem zrS(b:Bool):PlOk (leP b):=by
 refine⟨by show 40*11<=_;decide,λp hp=>?_,λp hp y hy=>?_,λp hp=>?_⟩
 ·cases b<;>simp only[leP,List.mem_cons,List.not_mem_nil,or_false]at hp<;>rcases hp with rfl |rfl |rfl |rfl |rfl |rfl |rfl |rfl |rfl |rfl |rfl<;>decide
 ·have:y.2.2=bs []:=by
   cases b<;>simp only[leP,List.mem_cons,List.not_mem_nil,or_false]at hp<;>rcases hp with rfl |rfl |rfl |rfl |rfl |rfl |rfl |rfl |rfl |rfl |rfl<;>simp only[List.mem_cons,List.not_mem_nil,or_false]at hy<;>first | (rcases hy with rfl |rfl<;>rfl) | (rcases hy with rfl;rfl) | (exact hy.elim)
  rw[this]
  decide
 ·cases b<;>simp only[leP,List.mem_cons,List.not_mem_nil,or_false]at hp<;>rcases hp with rfl |rfl |rfl |rfl |rfl |rfl |rfl |rfl |rfl |rfl |rfl<;>decide
theorem zsk{x:Mo}(hx:x.2.1=10)(b:Bool):gnwE x (leP b) leF=(0,0):=by
 unfold gnwE
 rw[hx,zql,if_neg (by decide),zqm,if_neg (by simp),if_neg (by decide)]
 have:leF.bk.findSome? (blkE (leP b) leF.bk)=none:=by cases b<;>kernel_rfl
 rw[this]
theorem zs2(b:Bool):nxF (leP b) [leF] 0=[[]]:=by cases b<;>kernel_rfl
theorem ziM{pl:List PI}{fl:List FnL}{nx:List (List Nat)}{n k:Nat}{id p:Int}(h:ownP pl fl n id=false):mayU pl fl nx n id k p=true:=by
 unfold mayU
 rw[if_neg (by rw[h];simp)]
theorem zmv{pl:List PI}{fl:List FnL}{nx:List (List Nat)}{n k:Nat}{id p:Int}(h:ownP pl fl n id=true)(hr:ya nx (-1) k)(hb:bkO (fx fl n).bk (mkA pl id)=some k):mayU pl fl nx n id k p=decide (mkA pl id<p):=by
 unfold mayU
 rw[if_pos ⟨h,hr⟩,hb]
 simp
theorem zcW{pl:List PI}{fl:List FnL}{nx:List (List Nat)}{n k i:Nat}(h:(zK pl i).any (othP pl fl n)=false)(hop:(ix pl i).1≠245):fltU pl fl nx n k i=if (zK pl i).any (λid=>!mayU pl fl nx n id k i)=true then 190 else 0:=by
 unfold fltU
 rw[h,if_neg (by simp),if_pos hop]
theorem zmp(b:Bool):ya (nxF (leP b) [leF] 0) (-1) 0:=by rw[zs2];exact .zero (by decide) (by decide)
theorem zqo(b:Bool){i:Nat}(h1:6<=i)(h2:i<10)(h3:b=true->i≠7):fltU (leP b) [leF] (nxF (leP b) [leF] 0) 0 0 i=0:=by
 have hi:i=6\/i=7\/i=8\/i=9:=by omega
 rcases hi with rfl |rfl |rfl |rfl
 ·rw[zcW (by cases b<;>kernel_rfl) (by cases b<;>decide),show zK (leP b) 6=[] by cases b<;>kernel_rfl]
  rfl
 ·cases b with
  |true=>exact absurd rfl (h3 rfl)
  |false=>
   rw[zcW (by kernel_rfl) (by decide),show zK (leP false) 7=[7,8] by kernel_rfl]
   refine if_neg ?_
   simp only[List.any_cons,List.any_nil]
   rw[ziM (by kernel_rfl),ziM (by kernel_rfl)]
   decide
 ·rw[zcW (by cases b<;>kernel_rfl) (by cases b<;>decide),show zK (leP b) 8=[7,5] by cases b<;>kernel_rfl]
  refine if_neg ?_
  simp only[List.any_cons,List.any_nil]
  rw[ziM (by cases b<;>kernel_rfl),zmv (by cases b<;>kernel_rfl) (zmp b) (by cases b<;>kernel_rfl),show mkA (leP b) 5=7 by cases b<;>kernel_rfl]
  decide
 ·rw[zcW (by cases b<;>kernel_rfl) (by cases b<;>decide),show zK (leP b) 9=[] by cases b<;>kernel_rfl]
  rfl
theorem zqk:fltU (leP true) [leF] (nxF (leP true) [leF] 0) 0 0 7=190:=by
 rw[zcW (by kernel_rfl) (by decide),show zK (leP true) 7=[7,6] by kernel_rfl]
 refine if_pos ?_
 simp only[List.any_cons,List.any_nil]
 rw[ziM (by kernel_rfl),zmv (by kernel_rfl) (zmp true) (by kernel_rfl),show mkA (leP true) 6=8 by kernel_rfl]
 decide
theorem zqn{x:Mo}(hx:x.2.1=10)(b:Bool):floE x (leP b)=if b=true then(190,7) else(0,0):=by
 have hw:flwE x (leP b) [leF] 0=bodE (leP b) [leF] 0:=by
  unfold flwE
  rw[show fx [leF] 0=leF from rfl,zsk hx,if_neg (by decide)]
 have hb:bodE (leP b) [leF] 0=if b=true then some (190,7) else none:=by
  unfold bodE
  cases b with
  |true=>
   refine zcz (k:=0) (by decide) ?_ λj h=>by omega
   have:=zkr (pl:=leP true) (fl:=[leF]) (n:=0) (k:=0) (i:=7) (by decide) (by decide) (by decide) (by rw[zqk];decide) λj h1 h2=>zqo true (by have h1:(6:Int)<=(j:Int):=h1;omega) (by omega) (λ_=>by omega)
   rw[this,zqk]
   rfl
  |false=>
   refine zhx λk hk=>?_
   have hk0:k=0:=by have:k<1:=hk;omega
   subst hk0
   exact zkq λj h1 h2=>zqo false (by have h1:(6:Int)<=(j:Int):=h1;omega) (by have h2:(j:Int)<10:=h2;omega) λh=>by cases h
 unfold floE
 rw[hx,zql,if_neg (by decide),zqm]
 show(match (List.range 1).findSome? (flwE x (leP b) [leF]) with |some p=>p |none=>(0,0))=_
 have:(List.range 1).findSome? (flwE x (leP b) [leF])=flwE x (leP b) [leF] 0:=by
  show List.findSome? _ [0]=_
  rw[List.findSome?_cons]
  cases flwE x (leP b) [leF] 0<;>rfl
 rw[this,hw,hb]
 cases b<;>rfl
section
variable {w:World} {R:VWP}
theorem zgp{n:Int}(hR:∀w',Below w.heap.size w w'->R (.agg #[.int .u8 4,.int .u32 n,.string (bs [])]) w'):cR 64 #[.int .u32 n] w R:=by
 refine zc.of (zd1 n R w ?_) λ_ _ h=>h
 refine box3 rfl λw4 h4 b4 z4=>?_
 exact h4.rI (n:=0) (x:=4) rfl (h4.rI (n:=1) (x:=n) rfl (h4.rT (n:=2) (x:=bs []) rfl (hR w4 b4)))
theorem zhj{n:Int}(hR:∀w',Below w.heap.size w w'->R (.agg #[.int .u8 1,.int .u32 n,.string (bs [])]) w'):cR 65 #[.int .u32 n] w R:=by
 refine zc.of (zeJ n R w ?_) λ_ _ h=>h
 refine box3 rfl λw4 h4 b4 z4=>?_
 exact h4.rI (n:=0) (x:=1) rfl (h4.rI (n:=1) (x:=n) rfl (h4.rT (n:=2) (x:=bs []) rfl (hR w4 b4)))
set_option maxHeartbeats 2000000 in
theorem zj5{b:Bool}(hR:∀w' s,IsPl w' s (leP b)->Below w.heap.size w w'->R (moA (0,10,s,())) w'):cR 30 #[.bool b] w R:=by
 refine zc.of (zbV b R w ?_) λ_ _ h=>h
 refine zl λw1 hM1 b1 z1=>?_
 have hM1:Blk w1 w.heap.size 25 (moV (0,0,⟨none,0,0⟩,())):=hM1
 refine zgp λw2 b2=>⟨(4,0,bs [],()),rfl,zgp λw3 b3=>⟨(4,0,bs [],()),rfl,zl λw4 hA4 b4 z4=>?_⟩⟩
 have hA4:Blk w4 w3.heap.size 136 (flat agV [(4,0,bs []),(4,0,bs [])]):=hA4
 refine zhj λw5 b5=>⟨(1,1,bs [],()),rfl,zl λw6 hA6 b6 z6=>?_⟩
 have hA6:Blk w6 w5.heap.size 136 (flat agV [(1,1,bs [])]):=hA6
 refine zgp λw7 b7=>⟨(4,0,bs [],()),rfl,zhj λw8 b8=>⟨(1,2,bs [],()),rfl,zl λw9 hA9 b9 z9=>?_⟩⟩
 have hA9:Blk w9 w8.heap.size 136 (flat agV [(4,0,bs []),(1,2,bs [])]):=hA9
 refine zhj λw10 b10=>⟨(1,8,bs [],()),rfl,zl λw11 hA11 b11 z11=>?_⟩
 have hA11:Blk w11 w10.heap.size 136 (flat agV [(1,8,bs [])]):=hA11
 refine zhj λw12 b12=>⟨(1,5,bs [],()),rfl,zl λw13 hA13 b13 z13=>zl λw14 hI14 b14 z14=>?_⟩
 have hA13:Blk w13 w12.heap.size 136 (flat agV [(1,5,bs [])]):=hA13
 have hI14:Blk w14 w13.heap.size 50 (flat inV [(14,0,0,⟨some (blk w3.heap.size),2,2⟩,()),(19,0,1,⟨none,0,0⟩,()),(33,0,2,⟨some (blk w5.heap.size),1,1⟩,()),(20,0,7,⟨none,0,0⟩,()),(41,7,8,⟨none,0,0⟩,()),(54,1,3,⟨some (blk w8.heap.size),2,2⟩,()),(248,0,4,⟨none,0,0⟩,()),
  (83,7,5,⟨some (blk w10.heap.size),1,1⟩,()),(83,7,6,⟨some (blk w12.heap.size),1,1⟩,()),(253,0,0,⟨none,0,0⟩,()),(56,0,0,⟨none,0,0⟩,())]):=hI14
 refine box3 rfl λw18 hD18 b18 z18=>?_
 have hD18:Blk w18 w14.heap.size 25 (moV (0,10,⟨some (blk w13.heap.size),11,11⟩,())):=hD18
 have s1:=b1.size;have s2:=b2.size;have s3:=b3.size;have s4:=b4.size;have s5:=b5.size;have s6:=b6.size;have s7:=b7.size;have s8:=b8.size;have s9:=b9.size;have s10:=b10.size;have s11:=b11.size;have s12:=b12.size;have s13:=b13.size;have s14:=b14.size
 have hI18:=hI14.below b18
 have b1318:=b14.on b18
 have hE18:=hA13.below b1318
 have b1118:=(b12.on b13).on b1318
 have hC18:=hA11.below b1118
 have b918:=(b10.on b11).on b1118
 have hF18:=hA9.below b918
 have b618:=((b7.on b8).on b9).on b918
 have hB18:=hA6.below b618
 have b418:=(b5.on b6).on b618
 have hA18:=hA4.below b418
 have b018:=((b1.on b2).on (b3.on b4)).on b418
 have mk:∀{w':World} {v:Int},Blk w' w13.heap.size 50 (flat inV [(14,0,0,⟨some (blk w3.heap.size),2,2⟩,()),(19,0,1,⟨none,0,0⟩,()),(33,0,2,⟨some (blk w5.heap.size),1,1⟩,()),(20,0,7,⟨none,0,0⟩,()),(41,7,8,⟨none,0,0⟩,()),(54,1,3,⟨some (blk w8.heap.size),2,2⟩,()),(248,0,4,⟨none,0,0⟩,()),
   (83,7,5,⟨some (blk w10.heap.size),1,1⟩,()),(83,7,6,⟨some (blk w12.heap.size),1,1⟩,()),(253,0,0,⟨none,0,0⟩,()),(56,0,0,⟨none,0,0⟩,())])->Blk w' w3.heap.size 136 (flat agV [(4,0,bs []),(4,0,bs [])])->Blk w' w5.heap.size 136 (flat agV [(1,1,bs [])])->Blk w' w8.heap.size 136 (flat agV [(4,0,bs []),(1,2,bs [])])->
   Blk w' w10.heap.size 136 (flat agV [(1,v,bs [])])->Blk w' w12.heap.size 136 (flat agV [(1,5,bs [])])->v=(if b=true then 6 else 8)->IsPl w' ⟨some (blk w13.heap.size),11,11⟩ (leP b):=λ{w' v} hI h1 h2 h3 h4 h5 hv=>by
  have nl:IsAg w' ⟨none,0,0⟩ []:=⟨rfl,Nat.le_refl _,by decide,λ_=>rfl,λa ha=>(by cases ha)⟩
  refine⟨rfl,Nat.le_refl _,by show 11<=_;omega,λh=>(by cases h),λa ha k hk=>?_⟩
  cases ha
  have cell:∀(k:Nat) (t:Sl) (p:PI),k<11->(∀j,j<4->(flat inV [(14,0,0,⟨some (blk w3.heap.size),2,2⟩,()),(19,0,1,⟨none,0,0⟩,()),(33,0,2,⟨some (blk w5.heap.size),1,1⟩,()),(20,0,7,⟨none,0,0⟩,()),(41,7,8,⟨none,0,0⟩,()),(54,1,3,⟨some (blk w8.heap.size),2,2⟩,()),(248,0,4,⟨none,0,0⟩,()),
    (83,7,5,⟨some (blk w10.heap.size),1,1⟩,()),(83,7,6,⟨some (blk w12.heap.size),1,1⟩,()),(253,0,0,⟨none,0,0⟩,()),(56,0,0,⟨none,0,0⟩,())])[k*4+j]? =(inV (mkIn p t))[j]?)->∀j,j<4->w'.cell? ((blk w13.heap.size).add (k*4+j))=(inV (mkIn p t))[j]?:=λk t p hk11 he j hj=>by
   have hlt:j<(inV (mkIn p t)).length:=hj
   have h:=he j hj
   rw[List.getElem?_eq_getElem hlt]at h⊢
   exact hI.cell h
  have four:∀{P:Nat->Prop},P 0->P 1->P 2->P 3->∀j,j<4->P j:=λ{P} h0 h1 h2 h3 j hj=>by
   have hj4:j=0\/j=1\/j=2\/j=3:=by omega
   rcases hj4 with rfl |rfl |rfl |rfl<;>assumption
  have hk11:k<11:=hk
  have hkc:k=0\/k=1\/k=2\/k=3\/k=4\/k=5\/k=6\/k=7\/k=8\/k=9\/k=10:=by omega
  rcases hkc with rfl |rfl |rfl |rfl |rfl |rfl |rfl |rfl |rfl |rfl |rfl
  ·exact⟨⟨some (blk w3.heap.size),2,2⟩,cell 0 _ _ (by decide) (four rfl rfl rfl rfl),Blk.isC yG (by omega) h1 (by simp)⟩
  ·exact⟨⟨none,0,0⟩,cell 1 _ _ (by decide) (four rfl rfl rfl rfl),nl⟩
  ·exact⟨⟨some (blk w5.heap.size),1,1⟩,cell 2 _ _ (by decide) (four rfl rfl rfl rfl),Blk.isC yG (by omega) h2 (by simp)⟩
  ·exact⟨⟨none,0,0⟩,cell 3 _ _ (by decide) (four rfl rfl rfl rfl),nl⟩
  ·exact⟨⟨none,0,0⟩,cell 4 _ _ (by decide) (four rfl rfl rfl rfl),nl⟩
  ·exact⟨⟨some (blk w8.heap.size),2,2⟩,cell 5 _ _ (by decide) (four rfl rfl rfl rfl),Blk.isC yG (by omega) h3 (by simp)⟩
  ·exact⟨⟨none,0,0⟩,cell 6 _ _ (by decide) (four rfl rfl rfl rfl),nl⟩
  ·subst hv
   exact⟨⟨some (blk w10.heap.size),1,1⟩,cell 7 _ _ (by decide) (four rfl rfl rfl rfl),Blk.isC yG (by omega) h4 (by simp)⟩
  ·exact⟨⟨some (blk w12.heap.size),1,1⟩,cell 8 _ _ (by decide) (four rfl rfl rfl rfl),Blk.isC yG (by omega) h5 (by simp)⟩
  ·exact⟨⟨none,0,0⟩,cell 9 _ _ (by decide) (four rfl rfl rfl rfl),nl⟩
  ·exact⟨⟨none,0,0⟩,cell 10 _ _ (by decide) (four rfl rfl rfl rfl),nl⟩
 refine zk.cut (λ(_:Unit) w'=>Below w.heap.size w w'/\Blk w' w14.heap.size 25 (moV (0,10,⟨some (blk w13.heap.size),11,11⟩,()))/\Blk w' w.heap.size 25 (moV (0,0,⟨none,0,0⟩,()))/\∃v,v=(if b=true then 6 else 8)/\Blk w' w13.heap.size 50 (flat inV [(14,0,0,⟨some (blk w3.heap.size),2,2⟩,()),(19,0,1,⟨none,0,0⟩,()),(33,0,2,⟨some (blk w5.heap.size),1,1⟩,()),(20,0,7,⟨none,0,0⟩,()),(41,7,8,⟨none,0,0⟩,()),(54,1,3,⟨some (blk w8.heap.size),2,2⟩,()),(248,0,4,⟨none,0,0⟩,()),
   (83,7,5,⟨some (blk w10.heap.size),1,1⟩,()),(83,7,6,⟨some (blk w12.heap.size),1,1⟩,()),(253,0,0,⟨none,0,0⟩,()),(56,0,0,⟨none,0,0⟩,())])/\Blk w' w3.heap.size 136 (flat agV [(4,0,bs []),(4,0,bs [])])/\Blk w' w5.heap.size 136 (flat agV [(1,1,bs [])])/\Blk w' w8.heap.size 136 (flat agV [(4,0,bs []),(1,2,bs [])])/\Blk w' w10.heap.size 136 (flat agV [(1,v,bs [])])/\Blk w' w12.heap.size 136 (flat agV [(1,5,bs [])])) ?_ ?_
 ·have b118:Below w1.heap.size w1 w18:=(b2.on (b3.on b4)).on b418
  have hM18:=hM1.below b118
  refine zo (λhb=>?_) (λhb=>⟨b018,hD18,hM18,8,by rw[hb];rfl,hI18,hA18,hB18,hF18,hC18,hE18⟩)
  have hI74:=hI18.cell (n:=7*4+3) rfl
  refine hD18.rS (n:=2) (x:=⟨some (blk w13.heap.size),11,11⟩) rfl ⟨⟨by omega,by show(7:Int)<((11:Nat):Int);decide⟩,ze rfl ⟨⟨some (blk w10.heap.size),1,1⟩,by rw[zA];exact hI74,⟨⟨by omega,by show(0:Int)<((1:Nat):Int);decide⟩,ze rfl ?_⟩⟩⟩
  have ea:((blk w10.heap.size).add (0*3)).add 1=(blk w10.heap.size).add 1:=by rw[zA]
  rw[ea]
  refine⟨hC18.wr (n:=1) (by decide),Nw.gen λw19 e19=>?_⟩
  have c19:Chg w10.heap.size w18 w19:=by rw[e19];exact Chg.set _ _ _ _
  have hC19:Blk w19 w10.heap.size 136 (flat agV [(1,6,bs [])]):=by rw[e19];exact hC18.set 1 _
  refine⟨c19.below b018 (by omega),c19.blk hD18 (by omega),c19.blk hM18 (by omega),6,by rw[hb];rfl,c19.blk hI18 (by omega),c19.blk hA18 (by omega),c19.blk hB18 (by omega),c19.blk hF18 (by omega),hC19,c19.blk hE18 (by omega)⟩
 ·rintro _ w20 ⟨b20,hD20,hM20,v,hv,g1,g2,g3,g4,g5,g6⟩
  refine Mo.load hD20 (st3 hM20 rfl λw23 hM23 c23=>?_)
  have hM23:Blk w23 w.heap.size 25 (moV (0,10,⟨some (blk w13.heap.size),11,11⟩,())):=hM23
  refine Mo.load hM23 (hR w23 _ ?_ (c23.below b20 (Nat.le_refl _)))
  exact mk (c23.blk g1 (by omega)) (c23.blk g2 (by omega)) (c23.blk g3 (by omega)) (c23.blk g4 (by omega)) (c23.blk g5 (by omega)) (c23.blk g6 (by omega)) hv
theorem zmR(hR:∀w',Below w.heap.size w w'->R (.bool true) w'):cR 11 #[] w R:=by
 refine zc.of (zc6 R w ?_) λ_ _ h=>h
 refine zj5 (b:=false) λw1 s hN1 b1=>⟨(0,10,s,()),rfl,?_⟩
 refine zcw (x:=(0,10,s,())) hN1 (zrS false) (show(0:Int)<=10 by decide) λw2 b2=>⟨((floE (0,10,s,()) (leP false)).1,(floE (0,10,s,()) (leP false)).2,()),rfl,?_⟩
 rw[zqn rfl]
 refine zG rfl (zj5 (b:=true) λw3 s3 hN3 b3=>⟨(0,10,s3,()),rfl,?_⟩)
 refine zcw (x:=(0,10,s3,())) hN3 (zrS true) (show(0:Int)<=10 by decide) λw4 b4=>⟨((floE (0,10,s3,()) (leP true)).1,(floE (0,10,s3,()) (leP true)).2,()),rfl,?_⟩
 rw[zqn rfl]
 exact hR w4 ((b1.on b2).on (b3.on b4))
end
end Go.Proofs
namespace Go.Proofs
open Go.Gk Go.RowKit Go.Gm Go.Gr Go.Dm
theorem zsf{x:Mo}{pl:List PI}{fl:List FnL}{n:Nat}{p:Int×Int}(h:flwE x pl fl n=some p):p.1≠0:=by
 unfold flwE at h
 by_cases hg:(gnwE x pl (fx fl n)).1≠0
 ·rw[if_pos hg]at h
  cases h
  exact hg
 ·rw[if_neg hg]at h
  unfold bodE at h
  obtain⟨k,_,h⟩:=List.exists_of_findSome?_eq_some h
  exact zob h
theorem zpV{x:Mo}{pl:List PI}(h:(floE x pl).1=0):Flo x pl (cutF pl pl.length):=by
 unfold floE at h
 by_cases hc:(yc x.2.1 pl).1≠0
 ·rw[if_pos hc]at h
  exact absurd h hc
 rw[if_neg hc]at h
 refine⟨Classical.not_not.1 hc,rfl,λn hn=>?_⟩
 cases hf:(List.range (cutF pl pl.length).length).findSome? (flwE x pl (cutF pl pl.length)) with
 |none=>exact zie hf n hn
 |some p=>
  rw[hf]at h
  obtain⟨k,_,hk⟩:=List.exists_of_findSome?_eq_some hf
  exact absurd h (zsf hk)
theorem Flo.flt{x:Mo}{pl:List PI}{fl:List FnL}(h:Flo x pl fl){n k i:Nat}(hn:n<fl.length)(hk:k<(fx fl n).bk.length)(hi:i<pl.length)(h1:(bx (fx fl n).bk k).2.1<=(i:Int))(h2:(i:Int)<(bx (fx fl n).bk k).2.2):fltU pl fl (nxF pl fl n) n k i=0:=by
 have h3:=h.no n hn
 unfold flwE at h3
 split at h3
 ·cases h3
 ·have h4:=zie (g:=bodK pl fl n) h3 k hk
  have h5:=zie h4 i hi
  refine Classical.byContradiction λhne=>?_
  rw[if_pos ⟨⟨h1,h2⟩,hne⟩]at h5
  cases h5
theorem zm8:frm 245=some ([79,112,80,104,105],true,true,[],[105,105],0,8):=by kernel_rfl
theorem zjJ{bd:Int}{pl:List PI}(hs:(zs bd pl).1=0){k:Nat}(hk:k<pl.length)(h:(ix pl k).1=245){j:Nat}(hj:j<(ix pl k).2.2.2.length):((ix pl k).2.2.2.getD j ag0).1=1/\((ix pl k).2.2.2.getD j ag0).2.1≠0:=by
 have hf:=(yN hs).2 k hk
 rw[yr hk]at h hj⊢
 obtain⟨f,hf,_,_,h3,_⟩:=ZA hf
 rw[h,zm8]at hf
 cases hf
 have hw:=h3 j hj
 unfold werr at hw
 have hl:letP (([79,112,80,104,105],true,true,[],[105,105],0,8):Fl) j=105:=by
  unfold letP
  rw[if_neg (by show ¬j<0;omega),if_neg (by decide),if_neg (by show ¬(0<0/\_);omega)]
  have hm:j % 2=0\/j % 2=1:=by omega
  show(([105,105]:Bs).getD ((j-0) % 2) 0).toNat=105
  rw[Nat.sub_zero]
  rcases hm with e |e<;>rw[e]<;>rfl
 rw[hl]at hw
 have hk1:=(Y0 hw).2
 have hk1:(pl[k].2.2.2.getD j ag0).1=1:=hk1
 exact⟨hk1,zrl hw hk1⟩
section
variable {x:Mo} {pl:List PI} {fl:List FnL} {w:World} {R:VWP} {id:Int}
theorem zmN{s:Sl}{l:List Int}{v:Int}(hs:IsS (Value.int .u32) w s l)(hR:R (.bool (l.contains v)) w):cR 18 #[.slice s.a s.l s.c,.int .u32 v] w R:=by
 refine zc.of (zbL s v R w ?_) λ_ _ h=>h
 have hl:=hs.len
 refine zj.count l.length hs.bound (λk w'=>w=w'/\∀j (h:j<l.length),j<k->l[j]≠v) ⟨rfl,λj _ h=>by omega⟩ ?_
 rintro k _ hk ⟨rfl,hj⟩ next hnext
 refine zg (λg=>?_) (λg=>?_)
 ·have hlt:k<l.length:=by dsimp only at g;omega
  refine zar hs hlt (zn (λe=>?_) (λe=>hnext _ hlt ⟨rfl,λj h1 h2=>?_⟩))
  ·rw[List.contains_iff_mem.2 (by rw[<-e];exact List.getElem_mem hlt)]at hR
   exact hR
  ·by_cases ej:j=k
   ·subst ej;exact e
   ·exact hj j h1 (by omega)
 ·have:l.contains v=false:=by
   rw[<-Bool.not_eq_true,List.contains_iff_mem]
   intro hm
   obtain⟨j,h1,h2⟩:=List.getElem_of_mem hm
   exact hj j h1 (by dsimp only at g;omega) h2
  rw[this]at hR
  exact hR
end
end Go.Proofs
namespace Go.Proofs
open Go.Gk Go.RowKit Go.Gm Go.Gr
end Go.Proofs
namespace Go.Proofs
open Go.Gk Go.RowKit Go.Gm Go.Gr Go.Dm
end Go.Proofs
namespace Go.Proofs
open Go.Gk Go.RowKit Go.Gm Go.Gr Go.Dm
noncomputable def livN(pl:List PI)(fl:List FnL)(n k j:Nat):List Int:=((List.range j).map λ(i:Nat)=>((i+1:Nat):Int)).filter λid=>ownP pl fl n id&&wanB pl fl n id k
noncomputable abbrev livL(bd:Int)(pl:List PI)(fl:List FnL)(n k:Nat):List Int:=livN pl fl n k (bd-1).toNat
noncomputable def ZN(x:Mo)(pl:List PI)(fl:List FnL)(label:Int):List Int×Int×Int:=if (floE x pl).1≠0 then([],floE x pl) else
 match (List.range fl.length).find? λn=>(lbO (fx fl n).bk label).isSome with
 |some n=>(livL x.2.1 pl fl n (lbN (fx fl n).bk label),0,0)
 |none=>([],3,0)
section
variable {x:Mo} {pl:List PI} {fl:List FnL} {w:World} {R:VWP} {label:Int}
theorem zj7(h:(floE x pl).1≠0):ZN x pl fl label=([],floE x pl):=by unfold ZN;rw[if_pos h]
theorem zr9(h:(floE x pl).1=0){n k:Nat}(hn:n<fl.length)(hk:lbO (fx fl n).bk label=some k)(hj:∀j,j<n->(lbO (fx fl j).bk label).isSome=false):ZN x pl fl label=(livL x.2.1 pl fl n k,0,0):=by
 unfold ZN
 rw[if_neg (λq=>q h),zbO (n:=fl.length) (p:=λn=>(lbO (fx fl n).bk label).isSome) hn (by rw[hk];rfl) hj]
 show(livL x.2.1 pl fl n (lbN (fx fl n).bk label),(0:Int),(0:Int))=_
 unfold lbN
 rw[hk]
 rfl
theorem zrA(h:(floE x pl).1=0)(hj:∀j,j<fl.length->(lbO (fx fl j).bk label).isSome=false):ZN x pl fl label=([],3,0):=by
 unfold ZN
 rw[if_neg (λq=>q h),zjK (n:=fl.length) (p:=λn=>(lbO (fx fl n).bk label).isSome) hj]
end
end Go.Proofs
namespace Go.Proofs
open Go.Gk Go.RowKit Go.Gm Go.Gr Go.Dm
theorem zn1:(match frm 248 with |some f=>!f.ty&&decide (f.fixed.length=0)&&decide (f.rest.length=0) |none=>false)=true:=by decide +kernel
theorem zoN{bd:Int}{pl:List PI}(hs:(zs bd pl).1=0){k:Nat}(hk:k<pl.length)(h:(ix pl k).1=248):zK pl k=[]:=by
 have hf:=(yN hs).2 k hk
 obtain⟨f,hf,h1,_,_,h4,_⟩:=ZA hf
 rw[yr hk]at h
 have h2:=zn1
 rw[h]at hf
 rw[hf]at h2
 have h2:(!f.ty&&decide (f.fixed.length=0)&&decide (f.rest.length=0))=true:=h2
 rw[Bool.and_eq_true,Bool.and_eq_true,decide_eq_true_eq,decide_eq_true_eq]at h2
 have e1:pl[k].2.1=0:=by
  have hty:f.ty=false:=by simpa using h2.1.1
  rw[hty]at h1
  unfold idP at h1
  by_cases hz:pl[k].2.1=0
  ·exact hz
  ·rw[if_neg (by simp[hz])]at h1
   cases h1
 have e2:pl[k].2.2.2=[]:=by
  unfold ZR at h4
  split at h4
  ·cases h4
  ·rw[if_pos h2.2]at h4
   simp only[beq_iff_eq]at h4
   have:=h2.1.2
   exact List.length_eq_zero_iff.1 (by omega)
 unfold zK idsP idsN
 rw[yr hk,e1,e2]
 rfl
def frN(fl:List FnL)(n k:Nat):Nat:=(bx (fx fl n).bk k).2.1.toNat
def toN(fl:List FnL)(n k:Nat):Nat:=(bx (fx fl n).bk k).2.2.toNat
def rawI(pl:List PI)(fl:List FnL)(n k i:Nat):List (Nat×Int):=if (ix pl i).1≠245 then(zK pl i).map λid=>(k,id)
 else(List.range ((ix pl i).2.2.2.length / 2)).map λj=>(lbN (fx fl n).bk ((ix pl i).2.2.2.getD (2*j+1) ag0).2.1,((ix pl i).2.2.2.getD (2*j) ag0).2.1)
def ownF(pl:List PI)(fl:List FnL)(n:Nat)(l:List (Nat×Int)):List (Nat×Int):=l.filter λp=>ownP pl fl n p.2
def mkK(pl:List PI)(fl:List FnL)(n k t:Nat):List (Nat×Int):=(List.range t).flatMap λj=>ownF pl fl n (rawI pl fl n k (frN fl n k+1+j))
def mkT(pl:List PI)(fl:List FnL)(n k:Nat):List (Nat×Int):=(List.range k).flatMap λk'=>mkK pl fl n k' (toN fl n k'-(frN fl n k'+1))
def mdK(pl:List PI)(fl:List FnL)(n k t:Nat):List (Nat×Int):=(List.range t).map λj=>(k,(ix pl (frN fl n k+1+j)).2.2.1)
def mdT(pl:List PI)(fl:List FnL)(n k:Nat):List (Nat×Int):=(List.range k).flatMap λk'=>mdK pl fl n k' (toN fl n k'-(frN fl n k'+1))
theorem zq5(pl:List PI)(fl:List FnL)(n k t:Nat):mkK pl fl n k (t+1)=mkK pl fl n k t++ownF pl fl n (rawI pl fl n k (frN fl n k+1+t)):=by
 unfold mkK;rw[List.range_succ,List.flatMap_append,List.flatMap_cons,List.flatMap_nil,List.append_nil]
theorem zq7(pl:List PI)(fl:List FnL)(n k:Nat):mkT pl fl n (k+1)=mkT pl fl n k++mkK pl fl n k (toN fl n k-(frN fl n k+1)):=by
 unfold mkT;rw[List.range_succ,List.flatMap_append,List.flatMap_cons,List.flatMap_nil,List.append_nil]
theorem zq0(pl:List PI)(fl:List FnL)(n k t:Nat):mdK pl fl n k (t+1)=mdK pl fl n k t++[(k,(ix pl (frN fl n k+1+t)).2.2.1)]:=by
 unfold mdK;rw[List.range_succ,List.map_append,List.map_cons,List.map_nil]
theorem zq2(pl:List PI)(fl:List FnL)(n k:Nat):mdT pl fl n (k+1)=mdT pl fl n k++mdK pl fl n k (toN fl n k-(frN fl n k+1)):=by
 unfold mdT;rw[List.range_succ,List.flatMap_append,List.flatMap_cons,List.flatMap_nil,List.append_nil]
theorem zq6{pl:List PI}{fl:List FnL}{n k m:Nat}{id:Int}:(k,id)∈mkT pl fl n m↔ownP pl fl n id=true/\∃k',k'<m/\∃i,frN fl n k'<i/\i<toN fl n k'/\(k,id)∈rawI pl fl n k' i:=by
 unfold mkT mkK ownF
 simp only[List.mem_flatMap,List.mem_range,List.mem_filter]
 constructor
 ·rintro⟨k',h1,j,h2,h3,h4⟩
  exact⟨h4,k',h1,frN fl n k'+1+j,by omega,by omega,h3⟩
 ·rintro⟨h4,k',h1,i,h2,h3,h5⟩
  exact⟨k',h1,i-(frN fl n k'+1),by omega,by rw[show frN fl n k'+1+(i-(frN fl n k'+1))=i by omega];exact h5,h4⟩
theorem zq1{pl:List PI}{fl:List FnL}{n k m:Nat}{id:Int}:(k,id)∈mdT pl fl n m↔k<m/\∃i,frN fl n k<i/\i<toN fl n k/\(ix pl i).2.2.1=id:=by
 unfold mdT mdK
 simp only[List.mem_flatMap,List.mem_range,List.mem_map,Prod.mk.injEq]
 constructor
 ·rintro⟨k',h1,j,h2,rfl,h4⟩
  exact⟨h1,frN fl n k'+1+j,by omega,by omega,h4⟩
 ·rintro⟨h1,i,h2,h3,h5⟩
  exact⟨k,h1,i-(frN fl n k+1),by omega,rfl,by rw[show frN fl n k+1+(i-(frN fl n k+1))=i by omega];exact h5⟩
section
variable {x:Mo} {pl:List PI} {fl:List FnL} {n k i:Nat} {id:Int}
theorem Fls.fr_to(F:Fls pl fl)(hn:n<fl.length)(hk:k<(fx fl n).bk.length):(bx (fx fl n).bk k).2.1=(frN fl n k:Int)/\(bx (fx fl n).bk k).2.2=(toN fl n k:Int)/\frN fl n k+2<=toN fl n k/\toN fl n k<pl.length/\(ix pl (frN fl n k)).1=248:=by
 obtain⟨f,t,h1,h2,h3,h4,_⟩:=F.bl hn hk
 unfold frN toN
 rw[h1]
 exact⟨rfl,rfl,h2,h3,h4⟩
theorem zor(F:Fls pl fl)(hF:Flo x pl fl)(hn:n<fl.length)(hk:k<(fx fl n).bk.length)(h1:frN fl n k<=i)(h2:i<toN fl n k)(hop:(ix pl i).1=245){j:Nat}(hj:2*j+1<(ix pl i).2.2.2.length) :
  ∃p,p<(fx fl n).bk.length/\lbO (fx fl n).bk ((ix pl i).2.2.2.getD (2*j+1) ag0).2.1=some p/\(bx (fx fl n).bk p).1=((ix pl i).2.2.2.getD (2*j+1) ag0).2.1:=by
 obtain⟨e1,e2,_,e4,_⟩:=F.fr_to hn hk
 have hf:=hF.flt hn hk (i:=i) (by omega) (by omega) (by omega)
 rw[zok]at hf
 have hsc:¬zeT pl fl n i≠0:=λg=>by rw[if_pos g]at hf;exact g hf
 rw[if_neg hsc]at hf
 have hph:phiU pl fl (nxF pl fl n) n k i=0:=by
  refine Classical.byContradiction λg=>?_
  rw[if_pos g]at hf
  exact g hf
 unfold phiU at hph
 rw[if_neg (λg=>g hop)]at hph
 have hperm:(zab (fx fl n).bk (nxF pl fl n) k).Perm (parN (ix pl i).2.2.2 (ix pl i).2.2.2.length):=by
  refine Classical.byContradiction λg=>?_
  rw[if_pos g]at hph
  cases hph
 have hq:((ix pl i).2.2.2.getD (2*j+1) ag0).2.1∈parN (ix pl i).2.2.2 (ix pl i).2.2.2.length:=by
  have hl:=zbM (ix pl i).2.2.2 (ix pl i).2.2.2.length
  have hg:=zhv (ix pl i).2.2.2 (ix pl i).2.2.2.length j (by omega)
  rw[zm (by omega)]at hg
  rw[<-hg]
  exact List.getElem_mem _
 have hnl:=zoq pl fl n
 exact zn3 (nx:=nxF pl fl n) (by omega) hnl (F.lab _ (zax hn)) (hperm.mem_iff.2 hq)
theorem zrE(F:Fls pl fl)(hF:Flo x pl fl)(hs:(zs x.2.1 pl).1=0)(hn:n<fl.length)(hk:k<(fx fl n).bk.length):(k,id)∈mkT pl fl n (fx fl n).bk.length↔ownP pl fl n id=true/\usB pl fl n id k=true:=by
 rw[zq6,zrO]
 refine and_congr_right λ_=>?_
 obtain⟨A,E,q1,q2,q3,q4,q5,_,T⟩:=F.tl hn
 obtain⟨d1,d2,d3,d4,d5⟩:=F.fr_to hn hk
 constructor
 ·rintro⟨k',hk',i,h1,h2,h3⟩
  obtain⟨e1,e2,e3,e4,e5⟩:=F.fr_to hn hk'
  unfold rawI at h3
  by_cases hop:(ix pl i).1≠245
  ·rw[if_pos hop]at h3
   obtain⟨y,hy,h3⟩:=List.mem_map.1 h3
   simp only[Prod.mk.injEq]at h3
   obtain⟨rfl,rfl⟩:=h3
   refine .inl ⟨i,by omega,?_⟩
   unfold usN
   rw[decide_eq_true (by omega),bne_iff_ne.2 hop,List.contains_iff_mem.2 hy]
   rfl
  ·rw[if_neg hop]at h3
   have hop:(ix pl i).1=245:=Classical.not_not.1 hop
   obtain⟨j,hj,h3⟩:=List.mem_map.1 h3
   simp only[Prod.mk.injEq]at h3
   obtain⟨h3,h4⟩:=h3
   have hj:=List.mem_range.1 hj
   obtain⟨p,hp1,hp2,hp3⟩:=zor F hF hn hk' (by omega) h2 hop (j:=j) (by omega)
   have hpk:p=k:=by
    unfold lbN at h3
    rw[hp2]at h3
    exact h3
   subst hpk
   have hbk:=T.bks _ (zgg hk')
   refine .inr ⟨i,by omega,?_⟩
   unfold usP
   rw[decide_eq_true (by omega),hop,List.any_eq_true.2 ⟨j,List.mem_range.2 hj,by unfold usQ;rw[h4,hp3];simp⟩]
   rfl
 ·rintro(⟨i,hi,h⟩ | ⟨i,hi,h⟩)
  ·unfold usN at h
   rw[Bool.and_eq_true,Bool.and_eq_true,decide_eq_true_eq,bne_iff_ne,List.contains_iff_mem]at h
   obtain⟨⟨h1,h2⟩,h3,h4⟩:=h
   refine⟨k,hk,i,?_,by omega,?_⟩
   ·by_cases e:i=frN fl n k
    ·subst e
     rw[zoN hs (by omega) d5]at h4
     cases h4
    ·omega
   ·unfold rawI
    rw[if_pos h3]
    exact List.mem_map.2 ⟨id,h4,rfl⟩
  ·unfold usP at h
   rw[Bool.and_eq_true,Bool.and_eq_true,decide_eq_true_eq,beq_iff_eq,List.any_eq_true]at h
   obtain⟨⟨h1,h2⟩,hop,j,hj,h4⟩:=h
   have hj:=List.mem_range.1 hj
   unfold usQ at h4
   rw[Bool.and_eq_true,beq_iff_eq,beq_iff_eq]at h4
   have hiA:i≠A:=λe=>by subst e;rw[q5]at hop;cases hop
   rcases T.all i (by omega) (by omega) with hp | ⟨b,hb,g1,g2⟩
   ·obtain⟨m,g1,_,_,g4⟩:=T.par _ hp
    have:m=i:=by omega
    subst this
    rw[g4]at hop;cases hop
   ·obtain⟨k',hk',rfl⟩:=List.getElem_of_mem hb
    have hbx:bx (fx fl n).bk k'=(fx fl n).bk[k']:=zm hk'
    rw[<-hbx]at g1 g2
    obtain⟨e1,e2,e3,e4,e5⟩:=F.fr_to hn hk'
    have hne:i≠frN fl n k':=λe=>by subst e;rw[e5]at hop;cases hop
    refine⟨k',hk',i,by omega,by omega,?_⟩
    unfold rawI
    rw[if_neg (λg=>g hop)]
    refine List.mem_map.2 ⟨j,List.mem_range.2 hj,?_⟩
    simp only[Prod.mk.injEq]
    refine⟨?_,h4.1⟩
    unfold lbN
    rw[h4.2,zll (F.lab _ (zax hn)) hk]
    rfl
theorem zrD(F:Fls pl fl)(hn:n<fl.length)(hk:k<(fx fl n).bk.length)(ho:ownP pl fl n id=true):(k,id)∈mdT pl fl n (fx fl n).bk.length↔mkB pl fl n id k=true:=by
 rw[zq1]
 obtain⟨hh,hh1,hh2,hh3⟩:=zdj ho
 obtain⟨m,i,e1,e2,e3,e4,e5,e6,e7,e8,e9⟩:=F.home_inv hh1
 have hmn:m=n:=by omega
 subst hmn
 obtain⟨h3,h4⟩:=zol hh1 e1
 obtain⟨d1,d2,d3,d4,d5⟩:=F.fr_to hn hk
 unfold mkB
 rw[beq_iff_eq,<-h3]
 constructor
 ·rintro⟨_,i',g1,g2,g3⟩
  have:=F.homeI hn hk (i:=i') (by omega) (by omega) (by rw[g3];exact e6)
  rw[g3,hh1]at this
  cases this
  rfl
 ·intro hq
  refine⟨hk,i,?_⟩
  rcases e9 with⟨g1,_,_⟩ | ⟨b,hb,g1,g2,g3,g4⟩
  ·omega
  ·have hbk:b=k:=by omega
   subst hbk
   have hne:i≠frN fl m b:=λe=>by
    subst e
    rw[g4,d5]at hh3
    cases hh3
   exact⟨by omega,by omega,e5⟩
end
end Go.Proofs
namespace Go.Proofs
open Go.Gk Go.RowKit Go.Gm
variable {P:Program} {α S:Type}
theorem znL{t kt et:TypeId}(ht:P.underlying t=some (.map kt et)){f:α->Value}{w:World}{bm:Nat}{L:List (Int×α)}(hM:IsMq w bm f L){body:S->Int->Value->World->(S->World->Prop)->Prop}{fin:S->World->Prop}{s0:S}
  (I:List Int->S->World->Prop) (hst:∀d s w1 w2,w.heap.size<w1.heap.size->I d s w1->Fr w1.heap.size (λi=>i=w.heap.size) w1 w2->I d s w2)
  (h0:∀w1,Below w.heap.size w w1->w1.heap.size=w.heap.size+1->I [] s0 w1)
  (hb:∀d s w1 k v,w.heap.size<w1.heap.size->w1.heap[bm]? =w.heap[bm]?->I d s w1->k∈L.map (·.1)->k ∉ d->∀next:S->World->Prop,(∀s' w2,I (k::d) s' w2->Fr w1.heap.size (λi=>i≠bm/\i≠w.heap.size) w1 w2->next s' w2)->body s k v w1 next)
  (hf:∀d s w1,I d s w1->(∀k∈L.map (·.1),k∈d)->fin s w1) :
  rngW P t (.map (some bm)) w λw4=>zj (S:=S) (λs w5 n=>nxtM P (.pointer (some (blk w.heap.size))) 0 w5 (λ_ _ w6=>entW P (.pointer (some (blk w.heap.size))) (BK.int .u32) BK.raw w6 λ(k:Int) (v:Value)=>body s k v w6 n) (λw7=>fin s w7)) s0 w4:=by
 have hlt:=hM.lt
 obtain⟨⟨es,clock,hes,hmap,hstamp,hnd⟩,hkd⟩:=hM
 refine⟨_,run_range_map (P:=P) w t kt et bm es clock ht hes,?_⟩
 have hI8:(w.alloc (.mapIter (some bm) clock #[] clock)).heap[w.heap.size]? =some (.mapIter (some bm) clock #[] clock):=by
  show(w.heap.push _)[w.heap.size]? =_
  simp
 have b8:Below w.heap.size w (w.alloc (.mapIter (some bm) clock #[] clock)):=(Below.refl _ _).alloc (Nat.le_refl _) _
 have z8:(w.alloc (.mapIter (some bm) clock #[] clock)).heap.size=w.heap.size+1:=by
  show(w.heap.push _).size=_
  simp
 generalize (w.alloc (.mapIter (some bm) clock #[] clock))=w8 at hI8 b8 z8
 have entry:∀e∈es.toList,∃k:Int,e.key =.int .u32 k/\k∈L.map (·.1):=by
  intro e he
  have:(e.key,e.val)∈L.map λp=>(Value.int .u32 p.1,f p.2):=by rw[<-hmap];exact List.mem_map.2 ⟨e,he,rfl⟩
  obtain⟨p,hp1,hp2⟩:=List.mem_map.1 this
  simp only[Prod.mk.injEq]at hp2
  exact⟨p.1,hp2.1.symm,List.mem_map.2 ⟨p,hp1,rfl⟩⟩
 have pair:∀{k:Int},k∈L.map (·.1)->∃e∈es.toList,e.key =.int .u32 k:=by
  intro k hk
  obtain⟨p,hp,rfl⟩:=List.mem_map.1 hk
  have:(Value.int .u32 p.1,f p.2)∈es.toList.map λe=>(e.key,e.val):=by rw[hmap];exact List.mem_map.2 ⟨_,hp,rfl⟩
  obtain⟨e,he,hp2⟩:=List.mem_map.1 this
  simp only[Prod.mk.injEq]at hp2
  exact⟨e,he,hp2.1⟩
 have uniq:∀e1∈es.toList,∀e2∈es.toList,e1.key=e2.key->e1=e2:=by
  have hkn:(es.toList.map (·.key)).Nodup:=by
   have h1:es.toList.map (·.key)=(L.map (·.1)).map (Value.int .u32):=by
    have:=congrArg (List.map Prod.fst) hmap
    rw[List.map_map,List.map_map]at this
    rw[List.map_map]
    exact this
   rw[h1]
   refine List.pairwise_map.2 (hkd.imp λ{a b} h e=>h ?_)
   simp only[Value.int.injEq,true_and]at e
   exact e
  intro e1 h1 e2 h2 hk
  obtain⟨i1,hi1,w1'⟩:=List.mem_iff_getElem.1 h1
  obtain⟨i2,hi2,w2'⟩:=List.mem_iff_getElem.1 h2
  have hi1':i1<(es.toList.map (·.key)).length:=by simpa using hi1
  have hi2':i2<(es.toList.map (·.key)).length:=by simpa using hi2
  have hbb:(es.toList.map (·.key))[i1]=(es.toList.map (·.key))[i2]:=by
   rw[List.getElem_map,List.getElem_map,w1',w2'];exact hk
  have:=(List.getElem_inj hkn).1 hbb
  subst this
  rw[<-w1',<-w2']
 refine zj.ghost (λj (s:S) w'=>∃(seen:Array Nat) (d:List Int),j=(leftOf es seen).size/\w'.heap[w.heap.size]? =some (.mapIter (some bm) clock seen clock)/\w'.heap[bm]? =w.heap[bm]?/\I d s w'/\(∀e∈es.toList,seen.contains e.born=true->∀k:Int,e.key =.int .u32 k->k∈d)/\(∀k∈d,∃e∈es.toList,seen.contains e.born=true/\e.key =.int .u32 k)) (leftOf es #[]).size
  ⟨#[],[],rfl,hI8,b8.block _ hlt,h0 w8 b8 z8,λe _ h=>by simp at h,λk hk=>by cases hk⟩ ?_
 rintro _ s w9 ⟨seen,d,rfl,hI,hM,hJ,hsn,hds⟩ next hnext
 have hlt9:w.heap.size<w9.heap.size:=(Array.getElem?_eq_some_iff.1 hI).1
 rcases run_next_at (P:=P) w9 0 w.heap.size bm clock clock seen es clock hI (hM.trans hes) hstamp (Nat.le_refl _) with⟨hz,hrun⟩ | ⟨e,he,w10,hw10,hrun⟩
 ·refine .inr ⟨w9,hrun,hf d s w9 hJ λk hk=>?_⟩
  obtain⟨e,he,hek⟩:=pair hk
  exact hsn e he (all_seen es seen hz e he) k hek
 ·obtain⟨he1,he2⟩:=mem_left he
  obtain⟨k,q1,q3⟩:=entry e he1
  refine .inl ⟨e.key,e.val,_,hrun,?_⟩
  have hc:Chg w.heap.size w9 (ChangeMaps.setBlock w10 w.heap.size (.mapIter (some bm) clock (seen.push e.born) clock)):=by
   rcases hw10 with rfl |rfl
   ·exact zh3 _ _ _
   ·exact(Chg.refl _ _).drew.trans (zh3 _ _ _)
  have hI11:(ChangeMaps.setBlock w10 w.heap.size (.mapIter (some bm) clock (seen.push e.born) clock)).heap[w.heap.size]? =some (.mapIter (some bm) clock (seen.push e.born) clock):=by
   have:w.heap.size<w10.heap.size:=by rcases hw10 with rfl |rfl<;>exact hlt9
   simp[ChangeMaps.setBlock,this]
  generalize (ChangeMaps.setBlock w10 w.heap.size (.mapIter (some bm) clock (seen.push e.born) clock))=w11 at hc hI11
  have hM11:w11.heap[bm]? =w.heap[bm]?:=(hc.block bm (by omega)).trans hM
  have hrunE:=run_entry_at (P:=P) w11 w.heap.size bm clock seen es clock e hI11 (hM11.trans hes) he1 hnd
  rw[q1]at hrunE
  have hs11:=hc.size
  refine⟨k,e.val,hrunE,hb d s w11 k e.val (by omega) hM11 (hst d s w9 w11 hlt9 hJ hc.fr) q3 (λhkd'=>by
   obtain⟨e',g1,g2,g3⟩:=hds k hkd'
   rw[uniq e' g1 e he1 (g3.trans q1.symm),he2]at g2
   cases g2) next λs' w2 hI2 hfr=>?_⟩
  refine hnext _ s' w2 (left_shrinks es seen e he) ⟨seen.push e.born,k::d,rfl,(hfr.block _ (by omega) (λh=>h.2 rfl)).trans hI11,(hfr.block _ (by omega) (λh=>h.1 rfl)).trans hM11,hI2,λe2 he2' hs2 k2 g1=>?_,λk2 hk2=>?_⟩
  rotate_left
  ·rcases List.mem_cons.1 hk2 with rfl |hk2
   ·exact⟨e,he1,by rw[Array.contains_push];simp,q1⟩
   ·obtain⟨e',g1,g2,g3⟩:=hds k2 hk2
    exact⟨e',g1,by rw[Array.contains_push,g2];rfl,g3⟩
  rw[Array.contains_push]at hs2
  rcases(Bool.or_eq_true_iff.1 hs2).symm with h |h
  ·have hbe:e2.born=e.born:=by simpa using h
   have:e2=e:=by
    obtain⟨i1,hi1,w1'⟩:=List.mem_iff_getElem.1 he2'
    obtain⟨i2,hi2,w2'⟩:=List.mem_iff_getElem.1 he1
    have hi1':i1<(es.toList.map (·.born)).length:=by simpa using hi1
    have hi2':i2<(es.toList.map (·.born)).length:=by simpa using hi2
    have hbb:(es.toList.map (·.born))[i1]=(es.toList.map (·.born))[i2]:=by
     rw[List.getElem_map,List.getElem_map,w1',w2'];exact hbe
    have:=(List.getElem_inj hnd).1 hbb
    subst this
    rw[<-w1',<-w2']
   subst this
   rw[q1]at g1
   simp only[Value.int.injEq,true_and]at g1
   rw[<-g1]
   exact List.mem_cons_self
  ·exact List.mem_cons_of_mem _ (hsn e2 he2' h k2 g1)
end Go.Proofs
namespace Go.Proofs
open Go.Gk Go.RowKit Go.Gm Go.Gr Go.Dm
def Kc(w w':World):Prop:=∀b T cs,Blk w b T cs->Blk w' b T cs
theorem Kc.refl(w:World):Kc w w:=λ_ _ _ h=>h
theorem Kc.trans{a b c:World}(h:Kc a b)(k:Kc b c):Kc a c:=λx T cs q=>k x T cs (h x T cs q)
theorem Kc.of_below{w w':World}(h:Below w.heap.size w w'):Kc w w':=λ_ _ _ q=>q.below h
theorem Kc.own{w w':World}(h:Kc w w'){T:TypeId}{sz:Nat}{s:Sl}{xs:List Value}(hO:Own w T sz s xs):Own w' T sz s xs:=hO.of_block λa ha=>by
 obtain⟨cs,hc⟩:=hO.type ha
 have h1:w.heap[a.block]? =_:=hc
 have h2:w'.heap[a.block]? =_:=h _ _ _ hc
 rw[h1,h2]
theorem Kc.of_chg{α:Type}{f:α->Value}{L:List (Int×α)}{w w':World}{r:Nat}(hM:IsMq w r f L)(c:Chg r w w'):Kc w w':=λb T cs hB=>c.blk hB (λe=>hM.notBlk hB e.symm)
abbrev mpV(b:Nat):Value:=.map (some b)
structure MpsL (w:World) (s:Sl) (bs:List Nat) (ML:List (Nat×Int)):Prop where
 own:Own w 88 1 s (bs.map mpV)
 mp:∀k (h:k<bs.length),∃L,IsMq w bs[k] (Value.int .i64) L/\∀id,zR L id=if (k,id)∈ML then some 1 else none
theorem eMap:YK Tryz.prog 89 88 1 8:=⟨by kernel_rfl,Tryz.t88,.map none,by kernel_rfl,rfl,rfl,rfl,rfl⟩
section
variable {w w' w0:World} {s:Sl} {bs:List Nat} {ML:List (Nat×Int)} {k:Nat} {id:Int}
theorem MpsL.len(h:MpsL w s bs ML):s.l=bs.length:=by have:=h.own.1;rw[List.length_map]at this;omega
theorem MpsL.fr{X:Nat->Prop}(h:MpsL w s bs ML)(hf:Fr w.heap.size X w w')(hb:∀b∈bs,¬X b)(hs:∀b,s.a=some (blk b)->¬X b):MpsL w' s bs ML:=
 ⟨hf.own h.own hs,λk hk=>by
  obtain⟨L,h1,h2⟩:=h.mp k hk
  exact⟨L,h1.of_block (hf.block _ h1.lt (hb _ (List.getElem_mem hk))),h2⟩⟩
theorem MpsL.on(h:MpsL w s bs ML)(hb:Below w.heap.size w w'):MpsL w' s bs ML:=h.fr (X:=λ_=>False) (Fr.of_below hb) (λ_ _=>id) (λ_ _=>id)
theorem MpsL.lt(h:MpsL w s bs ML){b:Nat}(hb:b∈bs):b<w.heap.size:=by
 obtain⟨k,hk,rfl⟩:=List.getElem_of_mem hb
 obtain⟨L,h1,_⟩:=h.mp k hk
 exact h1.lt
theorem MpsL.notBlk(h:MpsL w s bs ML){b c:Nat}(hb:b∈bs){T:TypeId}{cs:List Value}(hB:Blk w c T cs):b≠c:=by
 obtain⟨k,hk,rfl⟩:=List.getElem_of_mem hb
 obtain⟨L,h1,_⟩:=h.mp k hk
 exact h1.notBlk hB
theorem MpsL.notOwn(h:MpsL w s bs ML){b:Nat}(hb:b∈bs){T:TypeId}{sz:Nat}{t:Sl}{xs:List Value}(hO:Own w T sz t xs):t.a≠some (blk b):=λe=>by
 obtain⟨cs,hc⟩:=hO.type e
 exact h.notBlk hb hc rfl
theorem MpsL.kc(h:MpsL w s bs ML){b:Nat}(hb:b∈bs)(c:Chg b w w'):Kc w w':=by
 obtain⟨k,hk,rfl⟩:=List.getElem_of_mem hb
 obtain⟨L,h1,_⟩:=h.mp k hk
 exact Kc.of_chg h1 c
theorem MpsL.addr(h:MpsL w s bs ML)(hk:k<bs.length){φ:Option Nat->Prop}(hφ:φ (some bs[k])) :
  (0<=(k:Int)/\(k:Int)<(s.l:Int))/\za s.a λa=>ldM w (a.add (Int.toNat (k:Int))) φ:=by
 have hl:=h.len
 exact h.own.isS.addr hk λ_ _ hc=>⟨some bs[k],hc,hφ⟩
theorem MpsL.chg(h:MpsL w s bs ML)(hnd:bs.Nodup)(hk:k<bs.length)(c:Chg bs[k] w w'){L:List (Int×Int)}{ML':List (Nat×Int)}(hL:IsMq w' bs[k] (Value.int .i64) L)(h1:∀id,zR L id=if (k,id)∈ML' then some 1 else none)
  (h2:∀j id,j≠k->((j,id)∈ML'↔(j,id)∈ML)):MpsL w' s bs ML':=by
 refine⟨(h.kc (List.getElem_mem hk) c).own h.own,λj hj=>?_⟩
 by_cases e:j=k
 ·subst e
  exact⟨L,hL,h1⟩
 ·obtain⟨L2,g1,g2⟩:=h.mp j hj
  refine⟨L2,g1.of_block (c.block _ λq=>e ((List.getElem_inj hnd).1 q)),λid=>?_⟩
  rw[g2 id]
  simp only[h2 j id e]
theorem MpsL.put(h:MpsL w s bs ML)(hnd:bs.Nodup)(hk:k<bs.length){K:World->Prop}(hK:∀w',MpsL w' s bs (ML++[(k,id)])->Chg bs[k] w w'->K w'):updW Tryz.prog 88 (.map (some bs[k])) (.int .u32 id) (.int .i64 1) w K:=by
 obtain⟨L,g1,g2⟩:=h.mp k hk
 refine ziQ zh5 uU32 g1 (v:=(1:Int)) rfl λw' hL c=>hK w' (h.chg hnd hk c hL (λid'=>?_) λj id' e=>?_) c
 ·rw[zfk,g2 id']
  by_cases e:id'=id
  ·subst e
   rw[if_pos rfl,if_pos (List.mem_append_right _ (List.mem_singleton.2 rfl))]
  ·rw[if_neg e]
   simp[e]
 ·simp[e]
theorem MpsL.del(h:MpsL w s bs ML)(hnd:bs.Nodup)(hk:k<bs.length){K:World->Prop}(hK:∀w',MpsL w' s bs (ML.filter λp=>decide (p≠(k,id)))->Chg bs[k] w w'->K w'){ts:Array TypeId}(hts:ts[0]? =some 88):delS Tryz.prog ts (.map (some bs[k])) (.int .u32 id) w K:=by
 obtain⟨L,g1,g2⟩:=h.mp k hk
 refine zrt zh5 uU32 g1 (λw' hL c=>hK w' (h.chg hnd hk c hL (λid'=>?_) λj id' e=>?_) c) hts
 ·rw[zkA _ _ g1.nd,g2 id']
  by_cases e:id'=id
  ·subst e
   rw[if_pos rfl,if_neg (by simp)]
  ·rw[if_neg e]
   simp[e]
 ·simp[e]
theorem MpsL.look(h:MpsL w s bs ML)(hk:k<bs.length){φ:Int->Prop}(hφ:φ (if (k,id)∈ML then 1 else 0)):zj8 Tryz.prog 88 (.map (some bs[k])) (.int .u32 id) (BK.int .i64) w φ:=by
 obtain⟨L,g1,g2⟩:=h.mp k hk
 refine zoU zh5 uU32 zInt g1 ?_
 rw[g2 id]
 split
 ·rename_i e;rw[if_pos e]at hφ;exact hφ
 ·rename_i e;rw[if_neg e]at hφ;exact hφ
theorem znY{t:Sl}{cs:List Nat}{VL:List (Nat×Int)}(h:MpsL w s bs [])(hb:Below w0.heap.size w0 w)(hF:zC w0.heap.size s)(hl:bs.length<=17592186044000)(h2:MpsL w t cs VL)(hap:∀b,s.a=some (blk b)->t.a≠some (blk b)){K:Sl->World->Prop}
  (hK:∀r w',MpsL w' r (bs++[w.heap.size]) []->zC w0.heap.size r->Below w0.heap.size w0 w'->MpsL w' t cs VL->(∀b,r.a=some (blk b)->t.a≠some (blk b))->w.heap.size<w'.heap.size->(∀b T xs,T≠88->Blk w b T xs->Blk w' b T xs)->K r w') :
  Nw (w.alloc (.map #[] 0)) λw4=>Nw (w4.alloc (.cells #[.map (some w.heap.size)] 88)) λw5=>zE Tryz.prog 89 (.slice s.a s.l s.c) (.slice (some (blk w4.heap.size)) 1 1) w5 K:=by
 refine Nw.gen λw4 hw4=>?_
 have b4:Below w.heap.size w w4:=by rw[hw4];exact(Below.refl _ _).alloc (Nat.le_refl _) _
 have m4:IsMq w4 w.heap.size (Value.int .i64) ([]:List (Int×Int)):=by rw[hw4];exact IsMq.new w _
 clear hw4
 refine zl λw5 h5 b5 z5=>?_
 have h5:Blk w5 w4.heap.size 88 [mpV w.heap.size]:=h5
 have b45:=b4.on b5
 have h5s:=h.on b45
 have h5t:=h2.on b45
 have m5:=m4.below b5
 have hsl:=h.len
 have hm5:=m4.lt
 have z5':=b5.size
 refine zfq eMap h5s.own (vs:=[mpV w.heap.size]) rfl (λu hu=>by rw[List.mem_singleton.1 hu];rfl) h5 (by omega) (by omega) λr w' b' g1 _ g3 g4 hf=>?_
 have hx:∀k,s.a=some (blk k)->w0.heap.size<=k:=λk h=>hF _ h
 have hs:=hb.size
 have hz:=hf.size
 have hns:∀b T xs,T≠88->Blk w5 b T xs->s.a≠some (blk b):=λb T xs hT hB=>Yv h5s.own hB (Ne.symm hT)
 have hsl':∀b,s.a=some (blk b)->b<w.heap.size:=λb e=>(h.own.lt e).2
 have m':IsMq w' w.heap.size (Value.int .i64) ([]:List (Int×Int)):=m5.of_block (hf.block _ (by omega) λe=>by have:=hsl' _ e;omega)
 refine hK r w' ⟨by rw[List.map_append];exact g1,λk hk=>?_⟩ (λa ha=>?_) (zcT (hb.on b45) hf hx) (h5t.fr hf (λb hb' e=>h5t.notOwn hb' h5s.own e) λb e1 e2=>hap b e2 e1) (λb e1 e2=>?_) (by omega) (λb T xs hT hB=>(hB.below b45).of_block (hf.block _ (hB.below b45).lt (hns _ _ _ hT (hB.below b45))))
 ·by_cases e:k<bs.length
  ·obtain⟨L,q1,q2⟩:=h5s.mp k e
   rw[List.getElem_append_left e]
   exact⟨L,q1.of_block (hf.block _ q1.lt (h5s.notOwn (List.getElem_mem e) h5s.own)),q2⟩
  ·have hke:k=bs.length:=by rw[List.length_append]at hk;simp only[List.length_cons,List.length_nil]at hk;omega
   subst hke
   rw[List.getElem_append_right (Nat.le_refl _)]
   simp only[Nat.sub_self,List.getElem_cons_zero]
   exact⟨[],m',λid=>by simp[zR]⟩
 ·rw[g3]at ha
  cases ha
  rcases g4 with g4 |g4
  ·exact hx _ g4
  ·show w0.heap.size<=b';omega
 ·rw[g3]at e1
  have e1:b'=b:=by cases e1;rfl
  subst e1
  rcases g4 with g4 |g4
  ·exact hap _ g4 e2
  ·have:b'<w.heap.size:=(h2.own.lt e2).2
   omega
end
end Go.Proofs
namespace Go.Proofs
open Go.Gk Go.RowKit Go.Gm Go.Gr Go.Dm
structure Us2 (w0 w:World) (u m:Sl) (bs cs:List Nat) (ML VL:List (Nat×Int)):Prop where
 below:Below w0.heap.size w0 w
 mu:MpsL w u bs ML
 mm:MpsL w m cs VL
 nd:(bs++cs).Nodup
 ge:∀b∈bs++cs,w0.heap.size<=b
 fu:zC w0.heap.size u
 fm:zC w0.heap.size m
theorem zpb{bs cs:List Nat}{a b:Nat}(h:(bs++cs).Nodup)(hlt:∀x∈bs++cs,x<a)(hab:a<b):(bs++[a]++(cs++[b])).Nodup:=by
 have hl1:∀x∈bs,x<a:=λx hx=>hlt x (List.mem_append_left _ hx)
 have hl2:∀x∈cs,x<a:=λx hx=>hlt x (List.mem_append_right _ hx)
 rw[List.nodup_append]at h
 obtain⟨h1,h2,h3⟩:=h
 rw[List.nodup_append,List.nodup_append,List.nodup_append]
 refine⟨⟨h1,by simp,λx hx y hy=>?_⟩,⟨h2,by simp,λx hx y hy=>?_⟩,λx hx y hy=>?_⟩
 ·have:=hl1 x hx;rw[List.mem_singleton]at hy;omega
 ·have:=hl2 x hx;rw[List.mem_singleton]at hy;omega
 ·rcases List.mem_append.1 hx with hx |hx<;>rcases List.mem_append.1 hy with hy |hy
  ·exact h3 x hx y hy
  ·have:=hl1 x hx;rw[List.mem_singleton]at hy;omega
  ·have:=hl2 y hy;rw[List.mem_singleton]at hx;omega
  ·rw[List.mem_singleton]at hx hy;omega
theorem zaI{bs cs:List Nat}(h:(bs++cs).Nodup):bs.Nodup/\cs.Nodup/\∀a∈bs,∀b∈cs,a≠b:=List.nodup_append.1 h
section
variable {x:Mo} {pl:List PI} {fl:List FnL} {n bb:Nat} {w w' w0:World} {u m:Sl} {bs cs:List Nat} {ML VL:List (Nat×Int)} {k:Nat} {id:Int} {R:VWP}
theorem Us2.on(h:Us2 w0 w u m bs cs ML VL)(hb:Below w.heap.size w w'):Us2 w0 w' u m bs cs ML VL:=⟨h.below.on hb,h.mu.on hb,h.mm.on hb,h.nd,h.ge,h.fu,h.fm⟩
theorem MpsL.other(h:MpsL w m cs VL){r:Nat}(c:Chg r w w')(hk:Kc w w')(hr:r ∉ cs):MpsL w' m cs VL:=⟨hk.own h.own,λk hk=>by
 obtain⟨L,h1,h2⟩:=h.mp k hk
 exact⟨L,h1.of_block (c.block _ λe=>hr (e▸List.getElem_mem hk)),h2⟩⟩
theorem Us2.putU(h:Us2 w0 w u m bs cs ML VL)(hk:k<bs.length){K:World->Prop}(hK:∀w',Us2 w0 w' u m bs cs (ML++[(k,id)]) VL->Kc w w'->K w'):updW Tryz.prog 88 (.map (some bs[k])) (.int .u32 id) (.int .i64 1) w K:=by
 obtain⟨n1,n2,n3⟩:=zaI h.nd
 have hm:=List.getElem_mem hk
 refine h.mu.put n1 hk λw' h1 c=>?_
 have kc:=h.mu.kc hm c
 exact hK w' ⟨c.below h.below (h.ge _ (List.mem_append_left _ hm)),h1,h.mm.other c kc λq=>n3 _ hm _ q rfl,h.nd,h.ge,h.fu,h.fm⟩ kc
theorem Us2.putM(h:Us2 w0 w u m bs cs ML VL)(hk:k<cs.length){K:World->Prop}(hK:∀w',Us2 w0 w' u m bs cs ML (VL++[(k,id)])->Kc w w'->K w'):updW Tryz.prog 88 (.map (some cs[k])) (.int .u32 id) (.int .i64 1) w K:=by
 obtain⟨n1,n2,n3⟩:=zaI h.nd
 have hm:=List.getElem_mem hk
 refine h.mm.put n2 hk λw' h1 c=>?_
 have kc:=h.mm.kc hm c
 exact hK w' ⟨c.below h.below (h.ge _ (List.mem_append_right _ hm)),h.mu.other c kc λq=>n3 _ q _ hm rfl,h1,h.nd,h.ge,h.fu,h.fm⟩ kc
theorem zkC{c0 c1:Nat}{T0 T1:TypeId}(hbd:IsBd w0 bb x pl fl n)(h:Us2 w0 w u m bs cs ML VL)(hC0:Blk w c0 T0 [.pointer (some (Gk.blk bb))])(hC1:Blk w c1 T1 [.slice u.a u.l u.c])(hk:k<bs.length)
  (hR:∀w',Us2 w0 w' u m bs cs (ML++ownF pl fl n [(k,id)]) VL->Kc w w'->R (.tuple #[]) w'):cR 100 #[.int .i64 (k:Int),.int .u32 id,.pointer (some (Gk.blk c0)),.pointer (some (Gk.blk c1))] w R:=by
 refine zc.of (zdy (k:Int) id (Gk.blk c0) (Gk.blk c1) R w ?_) λ_ _ h=>h
 refine⟨some (Gk.blk bb),hC0.cell0 rfl,zm5 (hbd.below h.below) λw1 b1=>⟨(hmO pl fl id).getD hm0,ownP pl fl n id,rfl,?_⟩⟩
 refine box4 rfl λw6 h6 b6 z6=>?_
 have b16:=b1.on b6
 have h6':=h.on b16
 refine zo (λho=>?_) (λho=>?_)
 ·refine⟨u,(hC1.below b16).cell0 rfl,h6'.mu.addr hk (h6'.putU hk λw7 h7 kc=>hR w7 ?_ ((Kc.of_below b16).trans kc))⟩
  unfold ownF
  rw[List.filter_cons,if_pos (by exact ho),List.filter_nil]
  exact h7
 ·refine hR w6 ?_ (Kc.of_below b16)
  unfold ownF
  rw[List.filter_cons,if_neg (by rw[ho];decide),List.filter_nil,List.append_nil]
  exact h6'
theorem zqG(l l':List (Nat×Int)):ownF pl fl n (l++l')=ownF pl fl n l++ownF pl fl n l':=List.filter_append ..
theorem zru{w0 w:World}{s:Sl}{pl:List PI}(h:IsPl w0 s pl)(hb:Below w0.heap.size w0 w){F j M:Nat}(hk:F+j<pl.length)(hj:j<M){φ:Int->Int->Int->Sl->Prop}(hφ:∀t,IsAg w0 t pl[F+j].2.2.2->φ pl[F+j].1 pl[F+j].2.1 pl[F+j].2.2.1 t) :
  (0<=(j:Int)/\(j:Int)<((M:Nat):Int))/\za (if s.c=F then s.a else Option.map (λa=>a.add (F*4)) s.a) λa=>ldI w ((a.add (Int.toNat (j:Int)*4)).add 0) .u16 λx=>ldI w ((a.add (Int.toNat (j:Int)*4)).add 1) .u32 λy=>ldI w ((a.add (Int.toNat (j:Int)*4)).add 2) .u32 λz=>ldS w ((a.add (Int.toNat (j:Int)*4)).add 3) λt=>φ x y z t:=by
 obtain⟨⟨_,_⟩,hd⟩:=zrv h hb hk hφ
 obtain⟨a,ha⟩:=h.base hk
 have hl:=h.len
 have hc:=h.cap
 refine⟨⟨by omega,by omega⟩,?_⟩
 rw[if_neg (by omega),ha]
 rw[ha]at hd
 have e:∀c,((a.add (F*4)).add (Int.toNat (j:Int)*4)).add c=(a.add (Int.toNat ((F+j:Nat):Int)*4)).add c:=λc=>by
  rw[Int.toNat_natCast,Int.toNat_natCast,zA,zA,zA,Nat.add_mul,Nat.add_assoc]
 change ldI w (((a.add (F*4)).add (Int.toNat (j:Int)*4)).add 0) .u16 λx=>ldI w (((a.add (F*4)).add (Int.toNat (j:Int)*4)).add 1) .u32 λy=>ldI w (((a.add (F*4)).add (Int.toNat (j:Int)*4)).add 2) .u32 λz=>ldS w (((a.add (F*4)).add (Int.toNat (j:Int)*4)).add 3) λt=>φ x y z t
 rw[e 0,e 1,e 2,e 3]
 exact hd
set_option maxHeartbeats 4000000 in
theorem zpu(F:Fls pl fl)(hF:Flo x pl fl)(hp:PlOk pl)(hn:n<fl.length)(h:IsBd w bb x pl fl n)
  (hR:∀w' u m bs cs,Us2 w w' u m bs cs (mkT pl fl n (fx fl n).bk.length) (mdT pl fl n (fx fl n).bk.length)->bs.length=(fx fl n).bk.length->cs.length=(fx fl n).bk.length->R (.tuple #[.slice u.a u.l u.c,.slice m.a m.l m.c]) w') :
  cR 62 #[.pointer (some (Gk.blk bb))] w R:=by
 refine zc.of (zeB _ R w ?_) λ_ _ h=>h
 obtain⟨v,hr,gb,tb,M,ov,dp,hB,hN,hFn,hM,hl,hG,hD⟩:=h.ex
 refine zl λw1 hA1 b1 z1=>?_
 have hA1:Blk w1 w.heap.size 76 [.pointer (some (Gk.blk bb))]:=hA1
 refine zl λw2 hU2 b2 z2=>?_
 have hU2:Blk w2 w1.heap.size 89 [.slice none 0 0]:=hU2
 have hb2:=b1.on b2
 have hA2:=hA1.below b2
 refine⟨some (Gk.blk bb),hA2.cell0 rfl,ze rfl (zcS (hB.below hb2) ?_)⟩
 have hlen:=hp.len
 have hbk:=hFn.bk
 have hbkl:=hbk.len
 have hKl:(fx fl n).bk.length<=pl.length:=by
  have:=(zlQ pl pl.length).2 (fx fl n) (by rw[<-F.cut];exact zax hn)
  exact this.2
 have s1:=b1.size
 refine zj.countSl (fx fl n).bk.length (by omega) (λk r w'=>∃u bs cs,Us2 w w' u r bs cs [] []/\bs.length=k/\cs.length=k/\Blk w' w.heap.size 76 [.pointer (some (Gk.blk bb))]/\Blk w' w1.heap.size 89 [.slice u.a u.l u.c]/\(∀b,u.a=some (Gk.blk b)->r.a≠some (Gk.blk b)))
  ⟨⟨none,0,0⟩,[],[],⟨hb2,⟨Own.nil _ _ _,λk h=>(by cases h)⟩,⟨Own.nil _ _ _,λk h=>(by cases h)⟩,by simp,by simp,λa ha=>(by cases ha),λa ha=>(by cases ha)⟩,rfl,rfl,hA2,hU2,λb e=>(by cases e)⟩ ?_
 rintro k r w3 hk ⟨u,bs,cs,h3,hbl,hcl,hA3,hU3,hap⟩ next hnext
 refine zg (λg=>?_) (λg=>?_)
 ·have hkl:k<(fx fl n).bk.length:=by dsimp only at g;omega
  refine⟨u,hU3.cell0 rfl,?_⟩
  refine znY h3.mu h3.below h3.fu (by omega) h3.mm hap λu' w6 q1 q2 q3 q4 q5 q6 q7=>?_
  have hU6:=q7 _ _ _ (by decide) hU3
  have hA6:=q7 _ _ _ (by decide) hA3
  refine⟨hU6.wr0 (by simp),Nw.gen λw7 hw7=>?_⟩
  have c7:Chg w1.heap.size w6 w7:=by rw[hw7];exact Chg.set _ 0 _ _
  have hU7:Blk w7 w1.heap.size 89 [.slice u'.a u'.l u'.c]:=by rw[hw7];exact hU6.set0 _
  clear hw7
  have hA7:=c7.blk hA6 (by omega)
  have hU7s:MpsL w7 u' (bs++[w3.heap.size]) []:=q1.fr (c7.fr (B:=w6.heap.size)) (λb hb e=>q1.notBlk hb hU6 e) λb e e2=>by
   subst e2
   exact Yv q1.own hU6 (by decide) e
  have hM7:MpsL w7 r cs []:=q4.fr (c7.fr (B:=w6.heap.size)) (λb hb e=>q4.notBlk hb hU6 e) λb e e2=>by
   subst e2
   exact Yv q4.own hU6 (by decide) e
  have hb7:=c7.below q3 (by omega)
  have z7:=c7.size
  refine znY hM7 hb7 h3.fm (by omega) hU7s (λb e1 e2=>q5 b e2 e1) λr' w10 p1 p2 p3 p4 p5 p6 p7=>?_
  have hge:=h3.ge
  have hz3:=h3.below.size
  refine hnext r' w10 hkl ⟨u',bs++[w3.heap.size],cs++[w7.heap.size],⟨p3,p4,p1,zpb h3.nd (λy hy=>?_) (by omega),λb hb=>?_,q2,p2⟩,by rw[List.length_append,hbl];rfl,by rw[List.length_append,hcl];rfl,p7 _ _ _ (by decide) hA7,p7 _ _ _ (by decide) hU7,λb e1 e2=>p5 b e2 e1⟩
  ·rcases List.mem_append.1 hy with hy |hy
   ·exact h3.mu.lt hy
   ·exact h3.mm.lt hy
  ·rcases List.mem_append.1 hb with hb |hb<;>rcases List.mem_append.1 hb with hb |hb
   ·exact hge b (List.mem_append_left _ hb)
   ·rw[List.mem_singleton.1 hb];omega
   ·exact hge b (List.mem_append_right _ hb)
   ·rw[List.mem_singleton.1 hb];omega
 have hke:k=(fx fl n).bk.length:=by dsimp only at g;omega
 clear hnext next
 refine⟨some (Gk.blk bb),hA3.cell0 rfl,ze rfl (zcS (hB.below h3.below) ?_)⟩
 refine zj.count (fx fl n).bk.length (by omega) (λk w'=>Us2 w w' u r bs cs (mkT pl fl n k) (mdT pl fl n k)/\Blk w' w.heap.size 76 [.pointer (some (Gk.blk bb))]/\Blk w' w1.heap.size 89 [.slice u.a u.l u.c]) ⟨h3,hA3,hU3⟩ ?_
 subst hke
 clear h3 hA3 hU3 g hk
 rintro k w11 hk ⟨h11,hA11,hU11⟩ next hnext
 have hb11:=h11.below
 refine zg (λg=>?_) (λg=>?_)
 rotate_left
 ·have hke:k=(fx fl n).bk.length:=by dsimp only at g;omega
  subst hke
  refine⟨u,hU11.cell0 rfl,hU11.wr0 (by simp),Nw.gen λw12 hw12=>?_⟩
  have c12:Chg w1.heap.size w11 w12:=by rw[hw12];exact Chg.set _ 0 _ _
  have hU12:Blk w12 w1.heap.size 89 [.slice u.a u.l u.c]:=by rw[hw12];exact hU11.set0 _
  clear hw12
  have f12:=c12.fr (B:=w11.heap.size)
  refine⟨u,hU12.cell0 rfl,hR w12 u r bs cs ⟨c12.below hb11 (by omega),h11.mu.fr f12 (λb hb e=>h11.mu.notBlk hb hU11 e) (λb e e2=>?_),h11.mm.fr f12 (λb hb e=>h11.mm.notBlk hb hU11 e) (λb e e2=>?_),h11.nd,h11.ge,h11.fu,h11.fm⟩ hbl hcl⟩
  ·subst e2;exact Yv h11.mu.own hU11 (by decide) e
  ·subst e2;exact Yv h11.mm.own hU11 (by decide) e
 have hkl:k<(fx fl n).bk.length:=by dsimp only at g;omega
 obtain⟨d1,d2,d3,d4,d5⟩:=F.fr_to hn hkl
 have hbx:bx (fx fl n).bk k=(fx fl n).bk[k]:=zm hkl
 rw[hbx]at d1 d2
 refine zhK (IsC.below Zj hbk hb11) hkl (box3 rfl λw15 hX15 b15 z15=>?_)
 rw[d1,d2]at hX15
 have hX15:Blk w15 w11.heap.size 42 [.int .u32 (fx fl n).bk[k].1,.int .i64 (frN fl n k:Int),.int .i64 (toN fl n k:Int)]:=hX15
 have hA15:=hA11.below b15
 have h15:=h11.on b15.drew
 refine⟨some (Gk.blk bb),hA15.drew.cell0 rfl,ze rfl ((hB.below h15.below).rS (n:=2) (x:=x.2.2.1) rfl (hX15.drew.rI (n:=1) (x:=(frN fl n k:Int)) rfl (hX15.drew.rI (n:=2) (x:=(toN fl n k:Int)) rfl ?_)))⟩
 rw[zv (by omega)]
 have hNl:=hN.len
 have hNc:=hN.cap
 refine⟨⟨by omega,by omega,by omega⟩,?_⟩
 rw[Int.toNat_natCast,Int.toNat_natCast]
 refine zj.count (toN fl n k-(frN fl n k+1)) (by omega) (λt w'=>Us2 w w' u r bs cs (mkT pl fl n k++mkK pl fl n k t) (mdT pl fl n k++mdK pl fl n k t)/\Blk w' w.heap.size 76 [.pointer (some (Gk.blk bb))]/\Blk w' w1.heap.size 89 [.slice u.a u.l u.c])
  ⟨by simpa[mkK,mdK] using h15,hA15.drew,(hU11.below b15).drew⟩ ?_
 rintro t w16 ht ⟨h16,hA16,hU16⟩ next2 hnext2
 refine zg (λg2=>?_) (λg2=>?_)
 rotate_left
 ·have hte:t=toN fl n k-(frN fl n k+1):=by dsimp only at g2;omega
  subst hte
  refine hnext w16 hkl ⟨?_,hA16,hU16⟩
  rw[zq7,zq2]
  exact h16
 have htl:t<toN fl n k-(frN fl n k+1):=by dsimp only at g2;omega
 have hil:frN fl n k+1+t<pl.length:=by omega
 have hix:=yr hil
 refine zk.cut (λ(_:Unit) w'=>Us2 w w' u r bs cs (mkT pl fl n k++mkK pl fl n k (t+1)) (mdT pl fl n k++mdK pl fl n k (t+1))/\Blk w' w.heap.size 76 [.pointer (some (Gk.blk bb))]/\Blk w' w1.heap.size 89 [.slice u.a u.l u.c]) ?_ λ_ w' h'=>hnext2 w' htl h'
 rw[zq5,zq0,<-List.append_assoc,<-List.append_assoc]
 have hb16:=h16.below
 refine zru hN hb16 hil htl λtl hI=>box4 rfl λw21 hI21 b21 z21=>?_
 have hI21:Blk w21 w16.heap.size 50 (inV (mkIn pl[frN fl n k+1+t] tl)):=hI21
 have b21d:=b21.drew
 have h21:=h16.on b21d
 have hI21d:=hI21.drew
 generalize hi:frN fl n k+1+t=i at *
 refine h21.mm.addr (by omega) (hI21d.rI (n:=2) (x:=pl[i].2.2.1) rfl (h21.putM (by omega) λw22 h22 kc=>?_))
 have k22:=(Kc.of_below b21d).trans kc
 have hI22:=kc _ _ _ hI21d
 have hA22:=k22 _ _ _ hA16
 have hU22:=k22 _ _ _ hU16
 rw[show pl[i].2.2.1=(ix pl i).2.2.1 by rw[hix]]at h22
 have hag:=hI.below h22.below
 have hVL:∀{w':World} {ML':List (Nat×Int)},Us2 w w' u r bs cs ML' (mdT pl fl n k++mdK pl fl n k t++[(k,(ix pl i).2.2.1)])->Us2 w w' u r bs cs ML' (mdT pl fl n k++mdK pl fl n k t++[(k,(ix pl i).2.2.1)]):=λh=>h
 have htl':=hag.len
 have hal:=hp.at hil
 have has:(ix pl i).2.2.2=pl[i].2.2.2:=by rw[hix]
 have step:∀{q:Nat} (hq:q<(rawI pl fl n k i).length) {w':World} {VL':List (Nat×Int)},Us2 w w' u r bs cs (mkT pl fl n k++mkK pl fl n k t++ownF pl fl n ((rawI pl fl n k i).take q)++ownF pl fl n [(rawI pl fl n k i)[q]]) VL'->Us2 w w' u r bs cs (mkT pl fl n k++mkK pl fl n k t++ownF pl fl n ((rawI pl fl n k i).take (q+1))) VL':=λ{q} hq {w' VL'} h'=>by
  rw[List.take_succ_eq_append_getElem hq,zqG,<-List.append_assoc]
  exact h'
 refine hI22.rI0 rfl (zF (λhne=>?_) (λhe=>?_))
 ·have hne:(ix pl i).1≠245:=by rw[hix];exact hne
  have hraw:rawI pl fl n k i=(zK pl i).map λid=>(k,id):=by unfold rawI;rw[if_pos hne]
  refine Ins.load (x:=mkIn pl[i] tl) hI22 (zg0 (x:=mkIn pl[i] tl) hag hal λs w23 hr23 _ b23=>⟨s,rfl,?_⟩)
  have hids:idsP pl[i].2.1 pl[i].2.2.2=zK pl i:=by unfold zK;rw[hix]
  have hr23:Own w23 22 1 s ((zK pl i).map (Value.int .u32)):=by rw[<-hids];exact hr23
  have hSl:=hr23.isS.len
  have hrl:(rawI pl fl n k i).length=(zK pl i).length:=by rw[hraw,List.length_map]
  refine zj.count (zK pl i).length hr23.isS.bound (λq w'=>Us2 w w' u r bs cs (mkT pl fl n k++mkK pl fl n k t++ownF pl fl n ((rawI pl fl n k i).take q)) (mdT pl fl n k++mdK pl fl n k t++[(k,(ix pl i).2.2.1)])/\Kc w23 w')
   ⟨by simpa[ownF] using h22.on b23,Kc.refl _⟩ ?_
  rintro q w24 hq ⟨h24,k24⟩ next3 hnext3
  have hA24:=k24 _ _ _ (hA22.below b23)
  have hU24:=k24 _ _ _ (hU22.below b23)
  refine zg (λg3=>?_) (λg3=>?_)
  ·have hql:q<(zK pl i).length:=by dsimp only at g3;omega
   refine zar (k24.own hr23).isS hql (zkC h h24 hA24 hU24 (by omega) λw25 h25 k25=>⟨rfl,hnext3 w25 hql ⟨step (by omega) ?_,k24.trans k25⟩⟩)
   have e:(rawI pl fl n k i)[q]'(by omega)=(k,(zK pl i)[q]):=by simp only[hraw,List.getElem_map]
   rw[e]
   exact h25
  ·have hqe:q=(rawI pl fl n k i).length:=by dsimp only at g3;omega
   rw[hqe,List.take_length]at h24
   exact⟨h24,hA24,hU24⟩
 ·have he:(ix pl i).1=245:=by rw[hix];exact he
  have hev:=F.phi i hil he
  have hraw:rawI pl fl n k i=(List.range ((ix pl i).2.2.2.length / 2)).map λj=>(lbN (fx fl n).bk ((ix pl i).2.2.2.getD (2*j+1) ag0).2.1,((ix pl i).2.2.2.getD (2*j) ag0).2.1):=by unfold rawI;rw[if_neg (λg=>g he)]
  have hrl:(rawI pl fl n k i).length=(ix pl i).2.2.2.length / 2:=by rw[hraw,List.length_map,List.length_range]
  refine Ins.load (x:=mkIn pl[i] tl) hI22 (zeW (x:=mkIn pl[i] tl) hag hal λs1 s2 w26 hv26 hp26 _ _ b26=>⟨s1,s2,rfl,?_⟩)
  rw[<-has]at hv26 hp26
  have hvl:=zeU (ix pl i).2.2.2 (ix pl i).2.2.2.length
  have hpl:=zbM (ix pl i).2.2.2 (ix pl i).2.2.2.length
  have hSl:=hv26.isS.len
  refine zj.count ((ix pl i).2.2.2.length / 2) (by rw[has];omega) (λq w'=>Us2 w w' u r bs cs (mkT pl fl n k++mkK pl fl n k t++ownF pl fl n ((rawI pl fl n k i).take q)) (mdT pl fl n k++mdK pl fl n k t++[(k,(ix pl i).2.2.1)])/\Kc w26 w')
   ⟨by simpa[ownF] using h22.on b26,Kc.refl _⟩ ?_
  rintro q w27 hq ⟨h27,k27⟩ next3 hnext3
  have hA27:=k27 _ _ _ (hA22.below b26)
  have hU27:=k27 _ _ _ (hU22.below b26)
  refine zg (λg3=>?_) (λg3=>?_)
  ·have hql:q<(ix pl i).2.2.2.length / 2:=by dsimp only at g3;omega
   have h27d:=h27.on ((Below.refl _ _).drew)
   obtain⟨p,hp1,hp2,hp3⟩:=zor F hF hn hkl (i:=i) (by omega) (by omega) he (j:=q) (by omega)
   refine zar (k27.own hv26).isS (by omega) ⟨some (Gk.blk bb),hA27.drew.cell0 rfl,ze rfl ⟨some hr,(hB.below h27d.below).cell (n:=9) rfl,?_⟩⟩
   refine zar (l:=parN (ix pl i).2.2.2 (ix pl i).2.2.2.length) ((k27.trans (Kc.of_below (Below.refl _ _).drew)).own hp26).isS (k:=q) (by omega) (zqu (hM.below h27d.below) ?_)
   have e1:(parN (ix pl i).2.2.2 (ix pl i).2.2.2.length)[q]'(by omega)=((ix pl i).2.2.2.getD (2*q+1) ag0).2.1:=by
    have:=zhv (ix pl i).2.2.2 (ix pl i).2.2.2.length q (by omega)
    rwa[zm (by omega)]at this
   have e2:(valN (ix pl i).2.2.2 (ix pl i).2.2.2.length)[q]'(by omega)=((ix pl i).2.2.2.getD (2*q) ag0).2.1:=by
    have:=zjU (ix pl i).2.2.2 (ix pl i).2.2.2.length q (by omega)
    rwa[zm (by omega)]at this
   rw[e1,e2,hl,<-hp3,F.homeL hn hp1]
   show cR 100 #[.int .i64 (p:Int),_,_,_] _ _
   refine zkC h h27d hA27.drew hU27.drew (by omega) λw28 h28 k28=>⟨rfl,hnext3 w28 hql ⟨step (by omega) ?_,k27.trans k28⟩⟩
   have e:(rawI pl fl n k i)[q]'(by omega)=(p,((ix pl i).2.2.2.getD (2*q) ag0).2.1):=by
    simp only[hraw,List.getElem_map,List.getElem_range,Prod.mk.injEq,and_true]
    unfold lbN
    rw[hp2]
    rfl
   rw[e]
   exact h28
  ·have hqe:q=(rawI pl fl n k i).length:=by dsimp only at g3;omega
   rw[hqe,List.take_length]at h27
   exact⟨h27,hA27,hU27⟩
end
end Go.Proofs
namespace Go.Proofs
open Go.Gk Go.RowKit Go.Gm Go.Gr Go.Dm
theorem countP_lt{α:Type}{p q:α->Bool}:∀{l:List α},(∀x∈l,q x=true->p x=true)->∀{a:α},a∈l->p a=true->q a=false->l.countP q<l.countP p
 | [],_,a,ha,_,_=>by cases ha
 |b::l,h,a,ha,hp,hq=>by
  have hle:l.countP q<=l.countP p:=List.countP_mono_left λx hx=>h x (List.mem_cons_of_mem _ hx)
  rw[List.countP_cons,List.countP_cons]
  rcases List.mem_cons.1 ha with rfl |ha
  ·rw[hq,hp]
   simp only[if_true]
   simp
   omega
  ·have ih:=countP_lt (l:=l) (λx hx=>h x (List.mem_cons_of_mem _ hx)) ha hp hq
   cases hb:q b with
   |false=>split<;>split<;>simp_all<;>omega
   |true=>
    rw[h b List.mem_cons_self hb]
    simp only[if_true]
    omega
def uniP(pl:List PI)(K:Nat):List (Nat×Int):=(List.range K).flatMap λk=>(List.range pl.length).map λi=>(k,(ix pl i).2.2.1)
def muP(pl:List PI)(K:Nat)(VL ML:List (Nat×Int)):Nat:=(uniP pl K).countP λp=>decide (p ∉ VL/\p ∉ ML)
theorem zsn{pl:List PI}{K:Nat}{VL ML:List (Nat×Int)}{p:Nat×Int}(hp:p∈uniP pl K)(h1:p ∉ VL)(h2:p ∉ ML):muP pl K VL (ML++[p])<muP pl K VL ML:=by
 refine countP_lt (λx _ h=>?_) hp (decide_eq_true ⟨h1,h2⟩) (decide_eq_false λh=>h.2 (List.mem_append_right _ (List.mem_singleton.2 rfl)))
 have:=of_decide_eq_true h
 exact decide_eq_true ⟨this.1,λq=>this.2 (List.mem_append_left _ q)⟩
theorem zs5{pl:List PI}{K:Nat}{VL ML ML':List (Nat×Int)}(h:∀p:Nat×Int,p.1<K->(p∈ML'↔p∈ML/\p ∉ VL)):muP pl K VL ML'=muP pl K VL ML:=by
 unfold muP
 refine List.countP_congr λp hp=>?_
 obtain⟨k,hk,hp⟩:=List.mem_flatMap.1 hp
 obtain⟨i,_,rfl⟩:=List.mem_map.1 hp
 rw[decide_eq_true_eq,decide_eq_true_eq,h _ (List.mem_range.1 hk)]
 constructor
 ·rintro⟨h1,h2⟩
  exact⟨h1,λq=>h2 ⟨q,h1⟩⟩
 ·rintro⟨h1,h2⟩
  exact⟨h1,λq=>h2 q.1⟩
section
variable {x:Mo} {pl:List PI} {fl:List FnL} {n bb:Nat} {w w' w0:World} {u m:Sl} {bs cs:List Nat} {ML VL:List (Nat×Int)} {k:Nat} {id:Int} {R:VWP}
theorem zrG(F:Fls pl fl)(ho:ownP pl fl n id=true){K:Nat}(hk:k<K):(k,id)∈uniP pl K:=by
 obtain⟨hh,hh1,_,_⟩:=zdj ho
 obtain⟨_,i,_,_,e3,_,e5,_⟩:=F.home_inv hh1
 exact List.mem_flatMap.2 ⟨k,List.mem_range.2 hk,List.mem_map.2 ⟨i,List.mem_range.2 e3,by rw[e5]⟩⟩
theorem MpsL.keys(h:MpsL w u bs ML)(hk:k<bs.length):∃L,IsMq w bs[k] (Value.int .i64) L/\∀id,id∈L.map (·.1)↔(k,id)∈ML:=by
 obtain⟨L,h1,h2⟩:=h.mp k hk
 refine⟨L,h1,λid=>?_⟩
 have h3:=h2 id
 constructor
 ·intro hm
  refine Classical.byContradiction λhn=>?_
  rw[if_neg hn,zd4]at h3
  exact h3 hm
 ·intro hm
  refine Classical.byContradiction λhn=>?_
  rw[if_pos hm]at h3
  rw[zd4.2 hn]at h3
  cases h3
theorem Us2.fr{X:Nat->Prop}(h:Us2 w0 w u m bs cs ML VL)(hf:Fr w.heap.size X w w')(hb:∀b∈bs++cs,¬X b)(hu:∀b,u.a=some (Gk.blk b)->¬X b)(hm:∀b,m.a=some (Gk.blk b)->¬X b)(hX:∀b,X b->w0.heap.size<=b):Us2 w0 w' u m bs cs ML VL:=
 ⟨zcT h.below hf hX,h.mu.fr hf (λb q=>hb b (List.mem_append_left _ q)) hu,h.mm.fr hf (λb q=>hb b (List.mem_append_right _ q)) hm,h.nd,h.ge,h.fu,h.fm⟩
theorem Us2.iter{w3:World}{ML3 VL3:List (Nat×Int)}(h3:Us2 w0 w3 u m bs cs ML3 VL3)(h:Us2 w0 w u m bs cs ML VL)(hf:Fr w.heap.size (λi=>i=w3.heap.size) w w'):Us2 w0 w' u m bs cs ML VL:=by
 have hz:=h3.below.size
 refine h.fr hf (λb hb e=>?_) (λb hb e=>?_) (λb hb e=>?_) (λb e=>by omega)
 ·subst e
  rcases List.mem_append.1 hb with hb |hb
  ·have:=h3.mu.lt hb;omega
  ·have:=h3.mm.lt hb;omega
 ·subst e
  have:w3.heap.size<w3.heap.size:=(h3.mu.own.lt hb).2
  omega
 ·subst e
  have:w3.heap.size<w3.heap.size:=(h3.mm.own.lt hb).2
  omega
theorem Us2.putU'(h:Us2 w0 w u m bs cs ML VL)(hk:k<bs.length){K:World->Prop}(hK:∀w',Us2 w0 w' u m bs cs (ML++[(k,id)]) VL->Chg bs[k] w w'->K w'):updW Tryz.prog 88 (.map (some bs[k])) (.int .u32 id) (.int .i64 1) w K:=by
 obtain⟨n1,n2,n3⟩:=zaI h.nd
 have hm:=List.getElem_mem hk
 refine h.mu.put n1 hk λw' h1 c=>?_
 exact hK w' ⟨c.below h.below (h.ge _ (List.mem_append_left _ hm)),h1,h.mm.other c (h.mu.kc hm c) λq=>n3 _ hm _ q rfl,h.nd,h.ge,h.fu,h.fm⟩ c
theorem Us2.delU(h:Us2 w0 w u m bs cs ML VL)(hk:k<bs.length){K:World->Prop}(hK:∀w',Us2 w0 w' u m bs cs (ML.filter λp=>decide (p≠(k,id))) VL->Chg bs[k] w w'->K w'){ts:Array TypeId}(hts:ts[0]? =some 88):delS Tryz.prog ts (.map (some bs[k])) (.int .u32 id) w K:=by
 obtain⟨n1,n2,n3⟩:=zaI h.nd
 have hm:=List.getElem_mem hk
 refine h.mu.del n1 hk (λw' h1 c=>?_) hts
 exact hK w' ⟨c.below h.below (h.ge _ (List.mem_append_left _ hm)),h1,h.mm.other c (h.mu.kc hm c) λq=>n3 _ hm _ q rfl,h.nd,h.ge,h.fu,h.fm⟩ c
abbrev Wn(pl:List PI)(fl:List FnL)(n:Nat)(k:Nat)(id:Int):Prop:=WanN (nxF pl fl n) (mkB pl fl n id) (usB pl fl n id) k
set_option maxHeartbeats 4000000 in
theorem zoS(F:Fls pl fl)(hF:Flo x pl fl)(hp:PlOk pl)(hsh:(zs x.2.1 pl).1=0)(hn:n<fl.length)(h:IsBd w bb x pl fl n)
  (hR:∀w' u bs ML,Below w.heap.size w w'->MpsL w' u bs ML->bs.length=(fx fl n).bk.length->(∀k id,k<(fx fl n).bk.length->((k,id)∈ML↔ownP pl fl n id=true/\Wn pl fl n k id))->R (.slice u.a u.l u.c) w') :
  cR 28 #[.pointer (some (Gk.blk bb))] w R:=by
 refine zc.of (zeA _ R w ?_) λ_ _ h=>h
 obtain⟨v,hr,gb,tb,M,ov,dp,hB,hN,hFn,hM,hl,hG,hD⟩:=h.ex
 refine zpu F hF hp hn h λw1 u m bs cs h1 hbl hcl=>⟨u,m,rfl,?_⟩
 have ok:=hD.ok
 have hnl:=zoq pl fl n
 have hmax:=ok.max
 have hU:∀k id,k<(fx fl n).bk.length->((k,id)∈mkT pl fl n (fx fl n).bk.length↔ownP pl fl n id=true/\usB pl fl n id k=true):=λk id hk=>zrE F hF hsh hn hk
 have hV:∀k id,k<(fx fl n).bk.length->ownP pl fl n id=true->((k,id)∈mdT pl fl n (fx fl n).bk.length↔mkB pl fl n id k=true):=λk id hk ho=>zrD F hn hk ho
 generalize mkT pl fl n (fx fl n).bk.length=ML0 at *
 generalize mdT pl fl n (fx fl n).bk.length=VL at *
 generalize hK:(fx fl n).bk.length=K at *
 obtain⟨nd1,nd2,nd3⟩:=zaI h1.nd
 have hul:=h1.mu.len
 have hml:=h1.mm.len
 have hKn:K<=4096:=by omega
 refine zj.ghost (λj (_:Unit) w'=>∃ML,Us2 w w' u m bs cs ML VL/\(∀k id,k<K->(k,id)∈ML->ownP pl fl n id=true/\((k,id)∈ML0\/Wn pl fl n k id))/\(∀k id,k<K->(k,id)∈ML0->(k,id) ∉ VL->(k,id)∈ML)/\j=muP pl K VL ML)
  (muP pl K VL ML0) ⟨ML0,h1,λk id hk hm=>⟨((hU k id hk).1 hm).1,.inl hm⟩,λk id _ hm _=>hm,rfl⟩ ?_
 rintro _ _ w2 ⟨ML,h2,hS,hC,rfl⟩ next hnext
 refine zj.count K (by omega) (λk w'=>∃ML',Us2 w w' u m bs cs ML' VL/\∀j id,(j,id)∈ML'↔(j,id)∈ML/\¬(j<k/\(j,id)∈VL)) ⟨ML,h2,λj id=>by simp⟩ ?_
 rintro k w3 hk ⟨ML3,h3,hE3⟩ next2 hnext2
 refine zg (λg=>?_) (λg=>?_)
 ·have hkl:k<K:=by dsimp only at g;omega
  obtain⟨L,hL1,hL2⟩:=h3.mm.keys (k:=k) (by omega)
  refine h3.mm.addr (by omega) (znL (L:=L) zh5 hL1 (λd (_:Unit) w'=>∃ML',Us2 w w' u m bs cs ML' VL/\(∀j id,(j,id)∈ML'↔(j,id)∈ML3/\¬(j=k/\id∈d))/\∀id∈d,(k,id)∈VL) ?_ ?_ ?_ ?_)
  ·rintro d _ w5 w6 _ ⟨ML',h5,q1,q2⟩ hf
   exact⟨ML',h3.iter h5 hf,q1,q2⟩
  ·rintro w4 b4 _
   exact⟨ML3,h3.on b4,λj id=>by simp,λid h=>by cases h⟩
  ·rintro d _ w6 id v' hlt hbm ⟨ML',h6,q1,q2⟩ hid _ next3 hnext3
   refine h6.mu.addr (by omega) (h6.delU (by omega) (λw8 h8 c8=>hnext3 () w8 ⟨_,h8,λj id'=>?_,λid' h'=>?_⟩ (c8.fr.wide λi e=>?_)) rfl)
   ·rw[List.mem_filter,q1 j id',decide_eq_true_eq,List.mem_cons,ne_eq,Prod.mk.injEq]
    constructor
    ·rintro⟨⟨g1,g2⟩,g3⟩
     refine⟨g1,?_⟩
     rintro⟨rfl,rfl |g4⟩
     ·exact g3 ⟨rfl,rfl⟩
     ·exact g2 ⟨rfl,g4⟩
    ·rintro⟨g1,g2⟩
     exact⟨⟨g1,λg3=>g2 ⟨g3.1,.inr g3.2⟩⟩,λg3=>g2 ⟨g3.1,.inl g3.2⟩⟩
   ·rcases List.mem_cons.1 h' with rfl |h'
    ·exact(hL2 id').1 hid
    ·exact q2 id' h'
   ·subst e
    refine⟨λe=>nd3 _ (List.getElem_mem (by omega)) _ (List.getElem_mem (by omega)) e,λe=>?_⟩
    have:=h3.mu.lt (List.getElem_mem (l:=bs) (n:=k) (by omega))
    omega
  ·rintro d _ w7 ⟨ML',h7,q1,q2⟩ hall
   refine hnext2 w7 hkl ⟨ML',h7,λj id=>?_⟩
   rw[q1 j id,hE3 j id]
   constructor
   ·rintro⟨⟨g1,g2⟩,g3⟩
    refine⟨g1,λg4=>?_⟩
    by_cases e:j=k
    ·subst e
     exact g3 ⟨rfl,hall id ((hL2 id).2 g4.2)⟩
    ·exact g2 ⟨by omega,g4.2⟩
   ·rintro⟨g1,g2⟩
    refine⟨⟨g1,λg3=>g2 ⟨by omega,g3.2⟩⟩,?_⟩
    rintro⟨rfl,g4⟩
    exact g2 ⟨by omega,q2 id g4⟩
 have hke:k=K:=by dsimp only at g;omega
 subst hke
 clear hnext2 next2
 have hS3:∀j id,j<k->(j,id)∈ML3->ownP pl fl n id=true/\Wn pl fl n j id:=λj id hj hm=>by
  obtain⟨g1,g2⟩:=(hE3 j id).1 hm
  obtain⟨ho,g3⟩:=hS j id hj g1
  refine⟨ho,?_⟩
  rcases g3 with g3 |g3
  ·refine .here ?_ ((hU j id hj).1 g3).2
   rw[<-Bool.not_eq_true]
   exact λq=>g2 ⟨hj,(hV j id hj ho).2 q⟩
  ·exact g3
 have hC3:∀j id,j<k->(j,id)∈ML0->(j,id) ∉ VL->(j,id)∈ML3:=λj id hj g1 g2=>(hE3 j id).2 ⟨hC j id hj g1 g2,λq=>g2 q.2⟩
 have hmu:muP pl k VL ML3=muP pl k VL ML:=zs5 λp hp=>(hE3 p.1 p.2).trans ⟨λq=>⟨q.1,λe=>q.2 ⟨hp,e⟩⟩,λq=>⟨q.1,λe=>q.2 e.2⟩⟩
 generalize hK2:k=K at *
 clear hE3 hS hC
 have rows:∀j t,t∈(nxF pl fl n).getD j []->t<K:=λj t ht=>by have:=ok.rows j t ht;omega
 generalize hnx:nxF pl fl n=nx at *
 let Sd:List (Nat×Int)->Prop:=λML'=>∀j id,j<K->(j,id)∈ML'->ownP pl fl n id=true/\Wn pl fl n j id
 let Cq:Nat->Nat->Prop:=λj t=>∀id,(t,id)∈ML3->(j,id)∈VL\/(j,id)∈ML3
 refine zj.ghost (λg (st:Bool×Int×Unit) w'=>∃(mo:Bool) (j:Nat) (ML':List (Nat×Int)),st=(mo,(j:Int),())/\j<=K/\g=K-j/\Us2 w w' u m bs cs ML' VL/\Sd ML'/\(∀p∈ML3,p∈ML')/\
  ((mo=false/\ML'=ML3/\∀i,i<j->∀t∈nx.getD i [],Cq i t)\/(mo=true/\muP pl K VL ML'<muP pl K VL ML3))) K ⟨false,0,ML3,rfl,Nat.zero_le _,rfl,h3,hS3,λ_ h=>h,.inl ⟨rfl,rfl,λi hi=>by omega⟩⟩ ?_
 rintro _ _ w9 ⟨mo,j,ML9,rfl,hj,rfl,h9,hS9,hP9,hJ9⟩ next4 hnext4
 refine zg (λg4=>?_) (λg4=>?_)
 rotate_left
 ·have hje:j=K:=by dsimp only at g4;omega
  subst hje
  rcases hJ9 with⟨rfl,rfl,hcl⟩ | ⟨rfl,hlt⟩
  ·refine zD rfl (hR w9 u bs ML9 h9.below h9.mu hbl λi id hi=>⟨λhm=>hS9 i id hi hm,?_⟩)
   rintro⟨ho,hw⟩
   rw[<-hnx]at hcl
   induction hw with
   |here q1 q2=>exact hC3 _ id hi ((hU _ id hi).2 ⟨ho,q2⟩) λq=>by rw[(hV _ id hi ho).1 q]at q1;cases q1
   | @step i t q1 q2 _ ih=>
    rcases hcl i hi t q2 id (ih (rows i t (by rw[<-hnx];exact q2))) with q |q
    ·rw[(hV i id hi ho).1 q]at q1;cases q1
    ·exact q
  ·refine zG rfl (hnext _ () w9 (by omega) ⟨ML9,h9,λi id hi hm=>⟨(hS9 i id hi hm).1,.inr (hS9 i id hi hm).2⟩,λi id hi g1 g2=>hP9 _ (hC3 i id hi g1 g2),rfl⟩)
 have hjl:j<K:=by dsimp only at g4;omega
 refine ze rfl ⟨some (Gk.blk gb),(hB.below h9.below).cell (n:=10) rfl,?_⟩
 refine GP.next (nx:=nx) (.inr ⟨gb,rfl,ok,hG.below h9.below⟩) (i:=(j:Int)) λr w10 hO10 _ b10=>⟨r,rfl,?_⟩
 rw[zdk]at hO10
 obtain⟨row,hrow⟩:∃row,nx.getD j []=row:=⟨_,rfl⟩
 rw[hrow]at hO10
 have hrl:=hO10.isS.len
 have hrn:row.length<=4096:=by have:=ok.row_le j;rw[hrow]at this;omega
 refine zj.ghost (λg (st:Bool×Int×Unit) w'=>∃(mo:Bool) (q:Nat) (ML':List (Nat×Int)),st=(mo,(q:Int),())/\q<=row.length/\g=row.length-q/\Us2 w w' u m bs cs ML' VL/\Sd ML'/\(∀p∈ML3,p∈ML')/\Kc w10 w'/\w10.heap.size<=w'.heap.size/\
  ((mo=false/\ML'=ML3/\(∀i,i<j->∀t∈nx.getD i [],Cq i t)/\∀q' (hq:q'<row.length),q'<q->Cq j row[q'])\/(mo=true/\muP pl K VL ML'<muP pl K VL ML3))) row.length
  ⟨mo,0,ML9,rfl,Nat.zero_le _,rfl,h9.on b10,hS9,hP9,Kc.refl _,Nat.le_refl _,hJ9.imp (λq=>⟨q.1,q.2.1,q.2.2,λq' _ h=>by omega⟩) (λq=>q)⟩ ?_
 rintro _ _ w11 ⟨mo,q,ML11,rfl,hq,rfl,h11,hS11,hP11,k11,z11,hJ11⟩ next5 hnext5
 have hO11:=k11.own hO10
 refine zg (λg5=>?_) (λg5=>?_)
 rotate_left
 ·have hqe:q=row.length:=by dsimp only at g5;omega
  rw[zv (by omega)]
  refine hnext4 (K-(j+1)) _ w11 (by omega) ⟨mo,j+1,ML11,rfl,by omega,rfl,h11,hS11,hP11,hJ11.imp (λ⟨q1,q2,q3,q4⟩=>⟨q1,q2,λi hi t ht=>?_⟩) (λq=>q)⟩
  by_cases e:i=j
  ·subst e
   rw[hrow]at ht
   obtain⟨q',hq',rfl⟩:=List.getElem_of_mem ht
   exact q4 q' hq' (by omega)
  ·exact q3 i (by omega) t ht
 have hql:q<row.length:=by dsimp only at g5;omega
 have htm:row[q]∈nx.getD j []:=by rw[hrow];exact List.getElem_mem hql
 have htK:=rows j _ htm
 obtain⟨t,ht⟩:∃t,row[q]=t:=⟨_,rfl⟩
 refine zlX hO11.isS hql ?_
 rw[ht]at htm htK⊢
 obtain⟨L,hL1,hL2⟩:=h11.mu.keys (k:=t) (by omega)
 refine h11.mu.addr (k:=t) (by omega) (znL (L:=L) zh5 hL1 (λd (st:Bool×Unit) w'=>∃ML',Us2 w w' u m bs cs ML' VL/\Sd ML'/\(∀p∈ML11,p∈ML')/\Kc w10 w'/\w10.heap.size<=w'.heap.size/\w11.heap.size<=w'.heap.size/\
  ((st.1=false/\mo=false/\ML'=ML11/\∀id∈d,(j,id)∈VL\/(j,id)∈ML11)\/(st.1=true/\muP pl K VL ML'<muP pl K VL ML3))) ?_ ?_ ?_ ?_)
 ·rintro d st w5 w6 hlt ⟨ML',h5,q1,q2,q3,q4,q5,q6⟩ hf
  refine⟨ML',h11.iter h5 hf,q1,q2,λb T xs hB'=>(q3 _ _ _ hB').of_block (hf.block _ (q3 _ _ _ hB').lt λe=>?_),by have:=hf.size;omega,by have:=hf.size;omega,q6⟩
  have:=hB'.lt
  omega
 ·rintro w4 b4 z4
  refine⟨ML11,h11.on b4,hS11,λ_ h=>h,k11.trans (Kc.of_below b4),by omega,by omega,?_⟩
  rcases hJ11 with⟨q1,_⟩ | ⟨q1,q2⟩
  ·exact .inl ⟨q1,q1,rfl,λid h=>by cases h⟩
  ·exact .inr ⟨q1,q2⟩
 ·rintro d st w6 id v' hlt hbm ⟨ML',h6,q1,q2,q3,q4,q5,q6⟩ hid _ next6 hnext6
  have htm':(t,id)∈ML':=q2 _ ((hL2 id).1 hid)
  have stay:(j,id)∈VL\/(j,id)∈ML'->next6 (st.1,()) w6:=λhc=>hnext6 _ w6 ⟨ML',h6,q1,q2,q3,q4,q5,q6.imp (λ⟨e1,e2,e3,e4⟩=>⟨e1,e2,e3,λid' h'=>by
   rcases List.mem_cons.1 h' with rfl |h'
   ·rw[<-e3];exact hc
   ·exact e4 id' h'⟩) (λq=>q)⟩ (Fr.refl _ _ _)
  refine h6.mm.addr (by omega) (h6.mm.look (k:=j) (id:=id) (by omega) ?_)
  by_cases hv:(j,id)∈VL
  ·rw[if_pos hv]
   exact zD rfl (stay (.inl hv))
  rw[if_neg hv]
  refine zG rfl (h6.mu.addr (by omega) (h6.mu.look (k:=j) (id:=id) (by omega) ?_))
  by_cases hm:(j,id)∈ML'
  ·rw[if_pos hm]
   exact zD rfl (stay (.inr hm))
  rw[if_neg hm]
  obtain⟨ho,hwt⟩:=q1 t id htK htm'
  refine zG rfl (h6.mu.addr (by omega) (h6.putU' (k:=j) (id:=id) (by omega) λw16 h16 c16=>?_))
  have hmu2:=zsn (zrG F ho hjl) hv hm
  refine hnext6 (true,()) w16 ⟨_,h16,λi id' hi hmm=>?_,λp hp=>List.mem_append_left _ (q2 p hp),q3.trans (h6.mu.kc (List.getElem_mem (by omega)) c16),by have:=c16.size;omega,by have:=c16.size;omega,.inr ⟨rfl,?_⟩⟩ (c16.fr.wide λi e=>?_)
  ·rcases List.mem_append.1 hmm with hmm |hmm
   ·exact q1 i id' hi hmm
   ·rw[List.mem_singleton]at hmm
    cases hmm
    refine⟨ho,.step ?_ (by rw[hnx];exact htm) hwt⟩
    rw[<-Bool.not_eq_true]
    exact λq=>hv ((hV j id hjl ho).2 q)
  ·rcases q6 with⟨e1,e2,e3,_⟩ | ⟨_,e⟩
   ·rcases hJ11 with⟨_,e4,_⟩ | ⟨e4,_⟩
    ·rw[e3,e4]at hmu2⊢
     exact hmu2
    ·rw[e4]at e2;cases e2
   ·omega
  ·subst e
   refine⟨λe=>?_,λe=>?_⟩
   ·have:=(List.getElem_inj nd1).1 e
    subst this
    exact hm htm'
   ·have:=h11.mu.lt (List.getElem_mem (l:=bs) (n:=j) (by omega))
    omega
 ·rintro d st w7 ⟨ML',h7,q1,q2,q3,q4,q5,q6⟩ hall
  rw[zv (by omega)]
  refine hnext5 (row.length-(q+1)) _ w7 (by omega) ⟨st.1,q+1,ML',rfl,by omega,rfl,h7,q1,λp hp=>q2 p (hP11 p hp),q3,q4,?_⟩
  rcases q6 with⟨e1,e2,e3,e4⟩ | ⟨e1,e2⟩
  ·rcases hJ11 with⟨_,f1,f2,f3⟩ | ⟨f1,_⟩
   ·refine .inl ⟨e1,by rw[e3,f1],f2,λq' hq' hlt=>?_⟩
    by_cases e:q'=q
    ·subst e
     rw[ht]
     intro id hm
     have:=e4 id (hall id ((hL2 id).2 (by rw[f1];exact hm)))
     rwa[f1]at this
    ·exact f3 q' hq' (by omega)
   ·rw[f1]at e2;cases e2
  ·exact .inr ⟨e1,e2⟩
end
end Go.Proofs
namespace Go.Proofs
open Go.Gk
set_option linter.unusedVariables false
set_option maxRecDepth 100000
def yy:Ann:=(.q (.q .nil))
def yv(p0:Option Nat)(R:VWP)(w:World):Prop:=Nw (w.alloc (.cells #[.map p0] 88)) λw1=>R (.func (.func 61) #[] #[.pointer (some (zB w))]) w1
theorem Z5(p0)(R)(w)(h:yv p0 R w):Calls Tryz.prog 27 #[.map p0] w (Ret R):=lwC yy Tryz.func27 (by kernel_rfl) (by kernel_rfl) h
def yi:Ann:=(.q (.one (.loop ⟨[0,5],[]⟩ (.q (.seq none .c (.one (.q (.q .c))))))))
def yg(p0:Value)(c0:Addr)(R:VWP)(w:World):Prop:=ldM w c0 λx1=>rngW Tryz.prog 88 (.map x1) w λw1=>zj (S:=Unit) (λs2 w2 n3=>nxtM Tryz.prog (.pointer (some (zB w))) 0 w2 (λx4 x5 w3=>entW Tryz.prog (.pointer (some (zB w))) (BK.int .u32) BK.raw w3 λ(x6:Int) (x7:Value)=>yE Tryz.prog Tryz.fs p0 [(zu x6)] w3 λv8 w5=>∃x9:Bool,v8=(.bool x9)/\ifB (!x9) (R (.tuple #[]) w5) (n3 () w5)) (λw4=>R (.tuple #[]) w4)) () w1
theorem Zt(p0)(c0)(R)(w)(h:yg p0 c0 R w):Calls Tryz.prog 61 #[p0,.pointer (some c0)] w (Ret R):=lwC yi Tryz.func61 (by kernel_rfl) (by kernel_rfl) h
end Go.Proofs
namespace Go.Proofs
open Go.Gk Go.RowKit Go.Gm Go.Gr Go.Dm
theorem zhs{d:List Int}{n:Nat}(hd:d.Nodup)(h:∀y∈d,0<=y/\y<(n:Int)):d.length<=n:=by
 have h1:(d.map Int.toNat).Nodup:=by
  refine List.pairwise_map.2 (List.Pairwise.imp_of_mem (λ{a b} ha hb hne e=>hne ?_) hd)
  have:=h a ha
  have:=h b hb
  omega
 have h2:=Yj h1 (n:=n) (λy hy=>by
  obtain⟨z,hz,rfl⟩:=List.mem_map.1 hy
  have:=h z hz
  omega)
 rwa[List.length_map]at h2
section
variable {w:World} {R:VWP} {bm vb:Nat} {L:List (Int×Int)} {Tv:TypeId}
set_option maxHeartbeats 2000000 in
theorem ziA(hM:IsMq w bm (Value.int .i64) L)(hV:Blk w vb Tv [.map (some bm)])(hrg:∀id∈L.map (·.1),0<=id/\id<65536)
  (hR:∀r (T:List Int) w',Own w' 22 1 r (T.map (Value.int .u32))->T.Nodup->(∀id,id∈T↔id∈L.map (·.1))->zC w.heap.size r->Below w.heap.size w w'->R (.slice r.a r.l r.c) w') :
  cR 97 #[.slice none 0 0,.func (.func 61) #[] #[.pointer (some (blk vb))]] w R:=by
 refine zc.of (y6 ⟨none,0,0⟩ _ R w ?_) λ_ _ h=>h
 refine zl λw4 hC4 b4 z4=>?_
 have hC4:Blk w4 w.heap.size 26 [.slice none 0 0]:=hC4
 intro mk hy
 have hcf:Tryz.fs.contains 61=true:=by kernel_rfl
 unfold zjl
 simp only[hcf]
 generalize hw5:((w4.alloc (.deferred (some []))).alloc (mk .ready none))=w5
 have b5:Below w4.heap.size w4 w5:=by rw[<-hw5];exact zay w4 _ _
 have z5:w5.heap.size=w4.heap.size+2:=by rw[<-hw5];exact zfi w4 _ _
 have hd5:w5.heap[w4.heap.size]? =some (.deferred (some [])):=by rw[<-hw5];exact zj2 w4 _ _
 have hl5:w5.heap[w4.heap.size+1]? =some (mk .ready none):=by rw[<-hw5];exact zj3 w4 _ _
 clear hw5
 have b45:=b4.on b5
 have hlt:=hV.lt
 have hmlt:=hM.lt
 refine zc.of (Zt (.func (.yield (w4.heap.size+1)) #[] #[]) (blk vb) _ w5 ?_) λ_ _ h=>h
 refine⟨some bm,(hV.below b45).cell0 rfl,?_⟩
 refine znL (L:=L) zh5 (hM.below b45) (λd (_:Unit) w'=>w'.heap[w4.heap.size+1]? =some (mk .ready none)/\w'.heap[w4.heap.size]? =some (.deferred (some []))/\w5.heap.size+1<=w'.heap.size/\Below w.heap.size w w'/\d.Nodup/\(∀id∈d,id∈L.map (·.1))/\
  ∃r,Blk w' w.heap.size 26 [.slice r.a r.l r.c]/\Own w' 22 1 r (d.reverse.map (Value.int .u32))/\∀a,r.a=some a->w5.heap.size+1<=a.block) ?_ ?_ ?_ ?_
 ·rintro d _ w1 w2 hlt1 ⟨q1,q2,q3,q4,q5,q6,r,q7,q8,q9⟩ hf
  have hb:=hf.block
  refine⟨(hb _ (by omega) (by omega)).trans q1,(hb _ (by omega) (by omega)).trans q2,by have:=hf.size;omega,⟨hf.os.trans q4.os,hf.tape.trans q4.tape,hf.output.trans q4.output,by have:=hf.size;have:=q4.size;omega,λk hk=>(hb k (by omega) (by omega)).trans (q4.block k hk)⟩,q5,q6,r,q7.of_block (hb _ q7.lt (by omega)),q8.of_block λa ha=>hb _ (q8.lt ha).2 (by have:=q9 a ha;omega),q9⟩
 ·rintro w1 b1 z1
  exact⟨(b1.block _ (by omega)).trans hl5,(b1.block _ (by omega)).trans hd5,by omega,b45.on b1,List.nodup_nil,λid h=>(by cases h),⟨none,0,0⟩,(hC4.below b5).below b1,Own.nil _ _ _,λa ha=>(by cases ha)⟩
 ·rintro d _ w6 id v' hlt6 hbm ⟨hl6,hd6,hz6,hb6,hnd,hsub,r,hC6,hO6,hF6⟩ hid hnid next hnext
  refine hy (id,()) w6 _ hl6 ?_
  have hlt6:w4.heap.size+1<w6.heap.size:=(Array.getElem?_eq_some_iff.1 hl6).1
  refine⟨hl6,Nw.gen λw7 e7=>?_⟩
  have ho7:∀b,b≠w4.heap.size+1->w7.heap[b]? =w6.heap[b]?:=λb hb=>by rw[e7];exact World.putObj_heap_other hb
  have hz7:w7.heap.size=w6.heap.size:=by rw[e7];simp
  have hl7:w7.heap[w4.heap.size+1]? =some (mk .busy none):=by rw[e7];exact zae hlt6 _
  have hb7:Below w.heap.size w w7:=by rw[e7];exact hb6.putObj (by omega) _
  clear e7
  have hC7:=hC6.of_block (ho7 _ (by omega))
  have hO7:Own w7 22 1 r (d.reverse.map (Value.int .u32)):=hO6.of_block λa ha=>ho7 _ (by have:=hF6 a ha;omega)
  have hd7:w7.heap[w4.heap.size]? =some (.deferred (some [])):=by rw[ho7 _ (by omega)];exact hd6
  refine hC7.cell0 rfl |>λhc=>⟨r,hc,?_⟩
  refine zl λw8 hD8 b8 z8=>?_
  have hdl:d.length<=65536:=zhs hnd λy hy=>hrg y (hsub y hy)
  have hrl:r.l=d.length:=by
   have:=hO6.1
   rw[List.length_map,List.length_reverse]at this
   omega
  refine zos eU32 (hO7.below b8) (B:=w5.heap.size+1) (by have:=b8.size;omega) hF6 rfl (by simp[Value.oneCell']) hD8 (by omega) (by omega) λr' w9 hO9 b9 hF9=>?_
  have b79:Below (w5.heap.size+1) w7 w9:=(b8.mono (by omega)).trans b9
  have kb:∀i,i<w5.heap.size+1->w9.heap[i]? =w7.heap[i]?:=λi hi=>b79.block i hi
  have hC9:=hC7.of_block (kb _ (by omega))
  refine⟨hC9.wr0 (by simp),Nw.gen λw10 e10=>?_⟩
  have c10:Chg w.heap.size w9 w10:=by rw[e10];exact Chg.set w.heap.size 0 w9 _
  have hC10:Blk w10 w.heap.size 26 [.slice r'.a r'.l r'.c]:=by rw[e10];exact hC9.set0 _
  clear e10
  have hl10:w10.heap[w4.heap.size+1]? =some (mk .busy none):=by rw[c10.block _ (by omega),kb _ (by omega)];exact hl7
  have hlt10:w4.heap.size+1<w10.heap.size:=(Array.getElem?_eq_some_iff.1 hl10).1
  have s79:=b79.size
  have s10:=c10.size
  have hbf:Below w.heap.size w (w10.putObj (w4.heap.size+1) (mk .ready none)):=(c10.below (hb7.trans (b79.mono (by omega))) (Nat.le_refl _)).putObj (by omega) _
  refine⟨hl10,⟨true,rfl,zD rfl (hnext () _ ⟨zae hlt10 _,?_,by simp;omega,?_,List.nodup_cons.2 ⟨hnid,hnd⟩,λy hy=>?_,r',?_,?_,hF9⟩ ?_)⟩⟩
  ·rw[World.putObj_heap_other (by omega),c10.block _ (by omega),kb _ (by omega)]
   exact hd7
  ·exact hbf
  ·rcases List.mem_cons.1 hy with rfl |hy
   ·exact hid
   ·exact hsub y hy
  ·exact hC10.put (by omega) _
  ·rw[List.reverse_cons,List.map_append]
   have hO10:Own w10 22 1 r' (d.reverse.map (Value.int .u32)++[Value.int .u32 id]):=hO9.of_block λa ha=>c10.block _ (by have:=hF9 a ha;omega)
   exact hO10.of_block λa ha=>World.putObj_heap_other (by have:=hF9 a ha;omega)
  ·refine⟨hbf.os.trans hb6.os.symm,hbf.tape.trans hb6.tape.symm,hbf.output.trans hb6.output.symm,by simp;omega,λk hk hx=>?_⟩
   have hk':k=bm\/k=w5.heap.size:=by
    refine Classical.byContradiction λg=>hx ⟨λe=>g (.inl e),λe=>g (.inr e)⟩
   rw[World.putObj_heap_other (by omega),c10.block _ (by omega),kb _ (by omega)]
   exact ho7 _ (by omega)
 ·rintro d _ w6 ⟨hl6,hd6,hz6,hb6,hnd,hsub,r,hC6,hO6,hF6⟩ hall
  refine⟨hl6,?_⟩
  have hC7:=hC6.put (l:=w4.heap.size+1) (by omega) (mk .exhausted none)
  refine hC7.cell0 rfl |>λhc=>⟨r,hc,?_⟩
  refine zaw (by rw[World.putObj_heap_other (by omega)];exact hd6) ?_
  refine hR r d.reverse _ ?_ ((List.reverse_perm d).symm.nodup hnd) (λid=>by rw[List.mem_reverse];exact⟨hsub id,hall id⟩) (λa ha=>by have:=hF6 a ha;omega) ((hb6.putObj (by omega) _).putObj (by omega) _)
  refine(hO6.of_block λa ha=>World.putObj_heap_other (by have:=hF6 a ha;omega)).of_block λa ha=>World.putObj_heap_other (by have:=hF6 a ha;omega)
theorem ziB(hM:IsMq w bm (Value.int .i64) L)(hV:Blk w vb Tv [.map (some bm)])(hrg:∀id∈L.map (·.1),0<=id/\id<65536)
  (hR:∀r (A:List Int) w',Own w' 22 1 r (A.map (Value.int .u32))->A.Nodup->(∀id,id∈A↔id∈L.map (·.1))->A.Pairwise (·<=·)->zC w.heap.size r->Below w.heap.size w w'->R (.slice r.a r.l r.c) w') :
  cR 26 #[.func (.func 61) #[] #[.pointer (some (blk vb))]] w R:=by
 refine zc.of (ZP _ R w ?_) λ_ _ h=>h
 refine zc.of (ZH _ _ w ?_) λ_ _ h=>h
 refine ziA hM hV hrg λr T w1 hO1 hT1 hT2 hF1 b1=>⟨r,rfl,r,rfl,?_⟩
 have hTl:T.length<=65536:=zhs hT1 λy hy=>hrg y ((hT2 y).1 hy)
 refine zdp hO1 (by omega) λA w2 hO2 hP hA hF2=>⟨rfl,?_⟩
 refine hR r A w2 hO2 (hP.symm.nodup hT1) (λid=>by rw[hP.mem_iff];exact hT2 id) hA hF1 (b1.trans ⟨hF2.os,hF2.tape,hF2.output,hF2.size,λk hk=>hF2.block k (by have:=b1.size;omega) λe=>?_⟩)
 have:=hF1 _ e
 have:(blk k).block=k:=rfl
 omega
end
end Go.Proofs
namespace Go.Proofs
open Go.Gk Go.RowKit Go.Gm Go.Gr Go.Dm
section
variable {x:Mo} {pl:List PI} {fl:List FnL} {w:World} {R:VWP} {label id:Int} {n k:Nat}
theorem zsj(F:Fls pl fl)(hn:n<fl.length){h:Hm}(hh:hmO pl fl id=some h)(hl:h.2.2.2.1=true)(h1:h.1=(n:Int)):∃k:Nat,h.2.1=(k:Int)/\lbO (fx fl n).bk id=some k:=by
 obtain⟨m,i,e1,e2,e3,e4,e5,e6,e7,e8,e9⟩:=F.home_inv hh
 have hmn:m=n:=by omega
 subst hmn
 rcases e9 with⟨_,_,g⟩ | ⟨b,hb,g1,g2,g3,g4⟩
 ·rw[g]at hl;cases hl
 ·refine⟨b,g1,?_⟩
  obtain⟨a,e,q1,q2,q3,q4,q5,q6,T⟩:=F.tl e2
  obtain⟨f,t,hbx,_,_,hop,_,_⟩:=F.bl e2 hb
  rw[g4,beq_iff_eq]at hl
  have hif:i=f:=by
   refine Classical.byContradiction λhne=>?_
   refine T.nl _ (zgg hb) i ?_ g3 hl
   rw[hbx]at g2⊢
   dsimp only at g2⊢
   omega
  subst hif
  rw[<-e5,show(ix pl i).2.2.1=(bx (fx fl m).bk b).1 by rw[hbx]]
  exact zll (F.lab _ (zax e2)) hb
theorem zlx(F:Fls pl fl)(hp:PlOk pl)(h0:0<=x.2.1)(hs:(zs x.2.1 pl).1=0)(ho:ownP pl fl n id=true):1<=id/\id<x.2.1:=by
 obtain⟨hh,hh1,hh2,_⟩:=zdj ho
 obtain⟨m,i,e1,e2,e3,e4,e5,e6,_⟩:=F.home_inv hh1
 have h4:=(zol hh1 hh2).2
 have:=zs4 (id:=id) hp h0 hs (by omega)
 omega
theorem zd3{m:Nat}:id∈livN pl fl n k m↔(1<=id/\id<=(m:Int))/\ownP pl fl n id=true/\wanB pl fl n id k=true:=by
 unfold livN
 rw[List.mem_filter,List.mem_map,Bool.and_eq_true]
 refine and_congr_left λ_=>?_
 constructor
 ·rintro⟨i,hi,rfl⟩
  have:=List.mem_range.1 hi
  omega
 ·rintro⟨h1,h2⟩
  exact⟨(id-1).toNat,List.mem_range.2 (by omega),by omega⟩
theorem zj6(m:Nat):(livN pl fl n k m).Pairwise (·<·):=by
 unfold livN
 refine List.Pairwise.sublist List.filter_sublist ?_
 refine List.pairwise_map.2 ((List.pairwise_lt_range (n:=m)).imp λ{a b} h=>?_)
 omega
theorem zsl{A:List Int}{m:Nat}(h1:A.Nodup)(h2:A.Pairwise (·<=·))(h3:∀id,id∈A↔ownP pl fl n id=true/\wanB pl fl n id k=true)(h4:∀id,ownP pl fl n id=true->1<=id/\id<=(m:Int)):A=livN pl fl n k m:=by
 have hr:=zj6 (pl:=pl) (fl:=fl) (n:=n) (k:=k) m
 refine List.Perm.eq_of_pairwise (le:=λ(x y:Int)=>x<=y) (λa b _ _ h1 h2=>Int.le_antisymm h1 h2) h2 (hr.imp λ{a b} h=>Int.le_of_lt h) ?_
 refine(List.perm_ext_iff_of_nodup h1 (hr.imp λ{a b} h e=>by omega)).2 λid=>?_
 rw[h3 id,zd3]
 exact⟨λh=>⟨h4 id h.1,h⟩,λh=>h.2⟩
set_option maxHeartbeats 4000000 in
theorem zjw(hN:IsPl w x.2.2.1 pl)(hp:PlOk pl)(h0:0<=x.2.1)
  (hR:∀w' r,Own w' 22 1 r ((ZN x pl (cutF pl pl.length) label).1.map (Value.int .u32))->zC w.heap.size r->Below w.heap.size w w'->R (.tuple #[.slice r.a r.l r.c,.agg #[.int .i64 (ZN x pl (cutF pl pl.length) label).2.1,.int .i64 (ZN x pl (cutF pl pl.length) label).2.2]]) w') :
  cR 7 #[moA x,.int .u32 label] w R:=by
 refine zc.of (ziD x label R w ?_) λ_ _ h=>h
 refine zl λw1 hB1 b1 z1=>?_
 have hB1:Blk w1 w.heap.size 25 (moV x):=hB1
 refine zl λw2 hS2 b2 z2=>?_
 have hS2:Blk w2 w1.heap.size 29 [.int .i64 0,.int .i64 0]:=hS2
 have hb2:=b1.on b2
 have s1:=b1.size
 have out:∀{w':World} (l:List Int) (e a:Int) (r:Sl),Blk w' w1.heap.size 29 [.int .i64 0,.int .i64 0]->Below w.heap.size w w'->Own w' 22 1 r (l.map (Value.int .u32))->zC w.heap.size r->ZN x pl (cutF pl pl.length) label=(l,e,a)->
   Wr w' (blk w1.heap.size)/\Nw (w'.setCell (blk w1.heap.size) (.int .i64 e)) λw8=>Wr w8 ((blk w1.heap.size).add 1)/\Nw (w8.setCell ((blk w1.heap.size).add 1) (.int .i64 a)) λw9=>ldI w9 ((blk w1.heap.size).add 0) .i64 λx9=>ldI w9 ((blk w1.heap.size).add 1) .i64 λx10=>
    R (.tuple #[.slice r.a r.l r.c,.agg #[.int .i64 x9,.int .i64 x10]]) w9:=λ{w'} l e a r hS hb hO hFr he=>
  st2 hS rfl λw9 hS9 c9=>Sp.load hS9 (by
   have:=hR w9 r (by
    rw[he]
    exact hO.of_block λa ha=>c9.block _ λe=>by
     obtain⟨cs,hc⟩:=hO.type ha
     exact Blk.apart hc hS (by decide) e) hFr (c9.below hb (by omega))
   rw[he]at this
   exact this)
 have nilO:∀w',Own w' 22 1 ⟨none,0,0⟩ (([]:List Int).map (Value.int .u32)):=λw'=>Own.nil _ _ _
 have nilF:zC w.heap.size ⟨none,0,0⟩:=λa ha=>by cases ha
 refine Mo.load (hB1.below b2) (zis (x:=x) (hN.below hb2) hp h0 (λw3 hne b3=>⟨⟨none,0,0⟩,((floE x pl).1,(floE x pl).2,()),rfl,?_⟩) (λw3 s hF hBs b3=>⟨s,(0,0,()),rfl,?_⟩))
 ·refine box2 rfl λw6 h6 b6 z6=>h6.rI0 rfl (zG (by simpa using hne) (Sp.load h6.drew ?_))
  have b26:=b3.on b6
  exact out [] _ _ ⟨none,0,0⟩ (hS2.below b26).drew (hb2.on b26).drew (nilO _) nilF (zj7 hne)
 refine box2 rfl λw6 h6 b6 z6=>h6.rI0 rfl (zD rfl ?_)
 have b26:=b3.on b6
 have hb6:=hb2.on b26
 have hS6:=hS2.below b26
 have hz:(floE x pl).1=0:=by rw[zpU hF]
 obtain⟨_,hlay,_⟩:=zfd hF.ok
 have hsh:=zhX hlay
 have hnb:=(yN hsh).1
 have F:=Fls.of hp h0 hF.ok
 obtain⟨bs,hbl,hbS,hbB⟩:=(hBs.below b6).ex
 generalize cutF pl pl.length=fl at *
 have hbound:=hbS.bound
 have hsl:=hbS.len
 refine zj.count bs.length hbound (λn w'=>Below w6.heap.size w6 w'/\∀j,j<n->(lbO (fx fl j).bk label).isSome=false) ⟨Below.refl _ _,λj h=>by omega⟩ ?_
 rintro n w9 hn ⟨b9,hj⟩ next hnext
 have hb9:=hb6.on b9
 refine zg (λg=>?_) (λg=>?_)
 rotate_left
 ·exact out [] 3 0 ⟨none,0,0⟩ (hS6.below b9) hb9 (nilO _) nilF (zrA hz λj h1=>hj j (by dsimp only at g;omega))
 have hnb':n<bs.length:=by dsimp only at g;omega
 have hnf:n<fl.length:=by omega
 have hBd:=(hbB n hnb').below b9
 have go:∀{w':World},Below w9.heap.size w9 w'->lbO (fx fl n).bk label=none->next (IntKind.i64.wrap ((n:Int)+1),()) w':=λ{w'} hb hno=>hnext w' hnb' ⟨b9.on hb,λj h1=>by
  by_cases e:j=n
  ·subst e;rw[hno];rfl
  ·exact hj j (by omega)⟩
 refine zk.all ((hbS.below b9).addr hnb' λa ha hc=>⟨some (Gk.blk bs[n]),hc,?_⟩)
 obtain⟨v,hr,gb,tb,M,ov,dp,hBB,hN9,hFn,hM,hl,hG,hD⟩:=hBd.ex
 refine ze rfl ⟨some hr,hBB.cell (n:=9) rfl,zqt hM ?_⟩
 rw[hl]
 refine box4 rfl λw14 h14 b14 z14=>?_
 have b14d:Below w9.heap.size w9 w14.drew:=b14.drew
 cases ho:hmO pl fl label with
 |none=>
  refine zD rfl (go b14d ?_)
  cases hat:lbO (fx fl n).bk label with
  |none=>rfl
  |some k=>
   obtain⟨hk,he⟩:=zj4 hat
   have:=F.homeL hnf hk
   rw[he,ho]at this
   cases this
 |some h=>
  rw[ho]at h14
  have h14:Blk w14 w9.heap.size 78 (hmL h):=h14
  have no:¬(h.2.2.2.1=true/\h.1=(n:Int))->lbO (fx fl n).bk label=none:=λhq=>by
   cases hat:lbO (fx fl n).bk label with
   |none=>rfl
   |some k=>
    obtain⟨hk,he⟩:=zj4 hat
    have:=F.homeL hnf hk
    rw[he,ho]at this
    cases this
    exact absurd ⟨rfl,rfl⟩ hq
  refine zG rfl (h14.drew.rB (n:=3) (x:=h.2.2.2.1) rfl (zo (λhlb=>?_) (λhlb=>go b14d (no λq=>by rw[q.1]at hlb;cases hlb))))
  refine h14.drew.rI0 (x:=h.1) rfl (ze rfl ((hBB.below b14d).rI (n:=3) (x:=(n:Int)) rfl (zn (λhfn=>?_) (λhfn=>go b14d (no λq=>hfn q.2)))))
  obtain⟨k,hk1,hat⟩:=zsj F hnf ho hlb hfn
  obtain⟨hkl,_⟩:=zj4 hat
  have hlE:ZN x pl fl label=(livL x.2.1 pl fl n k,0,0):=zr9 hz hnf hat hj
  have b14e:=b14d.drew
  refine h14.drew.drew.rI (n:=1) (x:=h.2.1) rfl ?_
  rw[hk1]
  have hF':Flo x pl fl:=hF
  refine zoS F hF' hp hsh hnf (hBd.below b14e) λw15 u us ML b15 hU hul hML=>⟨u,rfl,?_⟩
  refine⟨?_,hU.addr (by omega) ?_⟩
  ·have:=(h14.drew.drew.below b15).cell (n:=1) (v:=.int .i64 h.2.1) rfl
   rw[hk1]at this
   exact this
  obtain⟨L,hL1,hL2⟩:=hU.keys (k:=k) (by omega)
  refine zc.of (Z5 (some us[k]) _ _ (zl λw16 h16 b16 z16=>⟨_,rfl,?_⟩)) λ_ _ h=>h
  have h16:Blk w16 w15.heap.size 88 [.map (some us[k])]:=h16
  have hkey:∀id,id∈L.map (·.1)↔ownP pl fl n id=true/\wanB pl fl n id k=true:=λid=>by
   rw[hL2 id,hML k id hkl,zrh]
  have hpos:∀id,ownP pl fl n id=true->1<=id/\id<x.2.1:=λid ho=>zlx F hp h0 hsh ho
  refine ziB (hL1.below b16) h16 (λid hid=>by have:=hpos id ((hkey id).1 hid).1;omega) λr A w17 hO hA1 hA2 hA3 hFr b17=>⟨r,rfl,?_⟩
  have b917:=b14e.on (b15.on (b16.on b17))
  have hAe:A=livL x.2.1 pl fl n k:=zsl hA1 hA3 (λid=>(hA2 id).trans (hkey id)) λid ho=>by have:=hpos id ho;omega
  rw[hAe]at hO
  refine out (livL x.2.1 pl fl n k) 0 0 r ((hS6.below b9).below b917) (hb9.on b917) hO (λa ha=>?_) hlE
  have:=hFr a ha
  have e1:=hb9.size
  have e2:=b14e.size
  have e3:=b15.size
  have e4:=b16.size
  omega
end
end Go.Proofs
namespace Go.Proofs
open Go.Gk Go.RowKit Go.Gm
theorem znt:(match frm 249 with |some f=>decide (f.fixed=[105])&&decide (f.rest=[]) |none=>false)=true:=by decide +kernel
theorem zpZ:(match frm 250 with |some f=>decide (f.fixed=[105,105,105])&&decide (f.rest=[]) |none=>false)=true:=by decide +kernel
theorem znu:(match frm 251 with |some f=>decide (f.fixed=[105,105])&&decide (f.rest=[110,105])&&decide (f.most=0) |none=>false)=true:=by decide +kernel
theorem zqa:(match frm 246 with |some f=>decide (letP f 0=105)&&decide (letP f 1=105) |none=>false)=true:=by decide +kernel
theorem zr6:(match frm 247 with |some f=>decide (letP f 0=105) |none=>false)=true:=by decide +kernel
theorem zqi:ZM ((105:Nat):Int)=1:=by decide +kernel
theorem zho{p:PI}{b:Int}{f:Fl}(hf:frm p.1=some f)(h:yp p b=0){j:Nat}(hj:j<p.2.2.2.length)(hl:letP f j=105):p.2.2.2[j].1=1:=by
 obtain⟨f',hf',_,_,h3,_,_⟩:=ZA h
 rw[hf]at hf'
 cases hf'
 have hw:=h3 j hj
 unfold werr at hw
 have:=(Y0 hw).2
 rw[zm hj]at this
 rw[this,hl]
 exact zqi
theorem zpl{op:Int}{f:Fl}(hf:frm op=some f){n j:Nat}(hw:ZR f n=true)(hj:j<n)(ht:zc0 op j=true):letP f j=105:=by
 unfold zc0 at ht
 rw[Bool.or_eq_true,Bool.or_eq_true,Bool.and_eq_true,Bool.and_eq_true,beq_iff_eq,beq_iff_eq,beq_iff_eq,decide_eq_true_iff,decide_eq_true_iff]at ht
 have hl:=zmX hw
 rcases ht with(e | ⟨e,_⟩) | ⟨e,hodd⟩
 ·have h1:=znt
  rw[<-e,hf]at h1
  simp only[Bool.and_eq_true,decide_eq_true_iff]at h1
  obtain⟨h1,h2⟩:=h1
  unfold ZR at hw
  rw[h1,h2]at hw
  simp at hw
  have:j=0:=by omega
  subst this
  unfold letP
  rw[h1]
  rfl
 ·have h1:=zpZ
  rw[<-e,hf]at h1
  simp only[Bool.and_eq_true,decide_eq_true_iff]at h1
  obtain⟨h1,h2⟩:=h1
  unfold ZR at hw
  rw[h1,h2]at hw
  simp at hw
  unfold letP
  rw[h1]
  have:j=0\/j=1\/j=2:=by omega
  rcases this with rfl |rfl |rfl<;>rfl
 ·have h1:=znu
  rw[<-e,hf]at h1
  simp only[Bool.and_eq_true,decide_eq_true_iff]at h1
  obtain⟨⟨h1,h2⟩,h3⟩:=h1
  unfold letP
  rw[h1,h2,h3]
  by_cases h4:j<2
  ·have:j=1:=by omega
   subst this
   rfl
  ·rw[if_neg (by simpa using h4),if_neg (by simp),if_neg (by omega)]
   have:(j-([105,105]:Bs).length) % ([110,105]:Bs).length=1:=by simp;omega
   rw[this]
   rfl
theorem zmQ{p:PI}{b:Int}(h:yp p b=0){j:Nat}(hj:j<p.2.2.2.length)(ht:zc0 p.1 j=true):p.2.2.2[j].1=1:=by
 obtain⟨f,hf,_,_,_,hw,_⟩:=ZA h
 exact zho hf h hj (zpl hf hw hj ht)
theorem znB{p:PI}{b:Int}(h:yp p b=0):(p.1=247->∀h:0<p.2.2.2.length,p.2.2.2[0].1=1)/\(p.1=246->∀h:1<p.2.2.2.length,p.2.2.2[0].1=1/\p.2.2.2[1].1=1):=by
 obtain⟨f,hf,_⟩:=ZA h
 refine⟨λe hl=>?_,λe hl=>?_⟩
 ·have h1:=zr6
  have hf':=hf
  rw[e]at hf'
  rw[hf']at h1
  exact zho hf h hl (of_decide_eq_true h1)
 ·have h1:=zqa
  have hf':=hf
  rw[e]at hf'
  rw[hf']at h1
  simp only[Bool.and_eq_true,decide_eq_true_iff]at h1
  exact⟨zho hf h (by omega) h1.1,zho hf h hl h1.2⟩
def yT(g:Int->Int)(b:Int×Int×Int):Int×Int×Int:=(g b.1,b.2)
def zO(g:Int->Int)(f:FnL):FnL:=⟨g f.id,f.at_,f.en,f.ps,f.bk.map (yT g)⟩
theorem zdg{α:Type}{h f f':α->α}:∀l:List α,(∀x,f (h x)=h (f' x))->modL f (l.map h)=(modL f' l).map h
 | [],_=>rfl
 | [x],e=>by simp only[List.map,modL,e]
 |x::y::r,e=>by
  have:=zdg (y::r) e
  simp only[List.map,modL]at this⊢
  rw[this]
theorem zoA(g:Int->Int)(l:List FnL)(k:Nat)(p:PI):cutS (l.map (zO g)) k (Z9 g p)=(cutS l k p).map (zO g):=by
 unfold cutS
 rw[show(Z9 g p).1=p.1 from rfl,show(Z9 g p).2.2.1=g p.2.2.1 from rfl]
 split
 ·rw[List.map_append]
  rfl
 split
 ·exact zdg l λx=>rfl
 split
 ·exact zdg l λx=>rfl
 split
 ·exact zdg l λx=>by simp[zO,yT]
 split
 ·exact zdg l λx=>by
   unfold zO
   dsimp only
   rw[zdg (h:=yT g) (f':=λb=>(b.1,b.2.1,(k:Int)+1)) x.bk λy=>rfl]
 ·rfl
theorem zfe{g:Int->Int}(hz:g 0=0)(pl:List PI):∀n,cutF (zp g pl) n=(cutF pl n).map (zO g)
 | 0=>rfl
 |n+1=>by
  show cutS (cutF (zp g pl) n) n (ix (zp g pl) n)=_
  rw[zfe hz pl n,Yq hz,zoA]
  rfl
section
variable {g:Int->Int} {pl:List PI} {b b':Int}
theorem zmo{bk:List (Int×Int×Int)}(hi:∀x∈bk,∀n,n∈allP pl->(g n=g x.1↔n=x.1)){n:Int}(hn:n∈allP pl):∀k,k<bk.length->zJ (lblN (bk.map (yT g)) k) (g n)=zJ (lblN bk k) n
 | 0,_=>rfl
 |k+1,hk=>by
  simp only[lblN]
  rw[zde,zde,zm (by rw[List.length_map];exact hk),zm hk,List.getElem_map,zmo hi hn k (by omega)]
  have:=hi _ (List.getElem_mem hk) n hn
  by_cases e:n=bk[k+1].1
  ·rw[if_pos e,if_pos (show g n=(yT g bk[k+1]).1 from this.2 e)]
  ·rw[if_neg e,if_neg (show ¬g n=(yT g bk[k+1]).1 from λq=>e (this.1 q))]
theorem zqY{p:PI}(h:yp p b=0):tgtP p.1 (p.2.2.2.map (Zi g))=(tgtP p.1 p.2.2.2).map g:=by
 unfold tgtP
 have hk:(p.2.2.2.map (Zi g)).map (·.1)=p.2.2.2.map (·.1):=by
  rw[List.map_map]
  exact List.map_congr_left λa _=>zl3 g a
 rw[hk]
 split
 ·unfold tgtN
  rw[List.length_map,List.map_map]
  refine List.map_congr_left λj hj=>?_
  obtain⟨h1,h2⟩:=List.mem_filter.1 hj
  have h1:=List.mem_range.1 h1
  rw[zm (by rw[List.length_map];exact h1),List.getElem_map]
  show(Zi g p.2.2.2[j]).2.1=g (p.2.2.2.getD j (0,0,bs [])).2.1
  rw[zm h1,zdn g (zmQ h h1 h2)]
 ·rfl
theorem zrM{p:PI}(h:yp p b=0)(hp:p∈pl):∀n∈tgtP p.1 p.2.2.2,n∈allP pl:=by
 intro n hn
 unfold tgtP at hn
 split at hn
 ·obtain⟨j,hj,rfl⟩:=List.mem_map.1 hn
  obtain⟨h1,h2⟩:=List.mem_filter.1 hj
  have h1:=List.mem_range.1 h1
  rw[zm h1]
  obtain⟨k,hk,rfl⟩:=List.getElem_of_mem hp
  exact(zfo hk).2.2 _ (List.getElem_mem h1) (zmQ h h1 h2)
 ·cases hn
theorem zpY{M M':List (Int×Int)}{ls:List Int}(h:∀n∈ls,zJ M' (g n)=zJ M n):fndP M' (ls.map g)=fndP M ls:=by
 unfold fndP
 have h1:(ls.map g).all (λn=>(zJ M' n).isSome)=ls.all (λn=>(zJ M n).isSome):=by
  rw[List.all_map]
  induction ls with
  |nil=>rfl
  |cons a r ih=>
   simp only[List.all_cons,Function.comp]
   rw[h a (List.mem_cons_self ..),ih λn hn=>h n (List.mem_cons_of_mem _ hn)]
 have h2:((ls.map g).map λn=>(zJ M' n).getD 0)=ls.map λn=>(zJ M n).getD 0:=by
  rw[List.map_map]
  exact List.map_congr_left λn hn=>by simp only[Function.comp];rw[h n hn]
 rw[h1,h2]
theorem zx.blk(h:zx g pl b')(hs:(zs b pl).1=0){f:FnL}(hf:FnOk pl pl.length f){c:Int×Int×Int}(hc:c∈f.bk) :
  blkM (zp g pl) (zO g f).bk (yT g c)=blkM pl f.bk c/\fndP (lblM (zO g f).bk) (blkT (zp g pl) (yT g c))=fndP (lblM f.bk) (blkT pl c):=by
 obtain⟨fr,to_,rfl,hft,htl,h248,h8f,hend,h8t⟩:=(hf.ok c hc).ex
 have hpos:0<f.bk.length:=List.length_pos_iff.2 hf.ne
 have hi:∀x∈f.bk,∀n,n∈allP pl->(g n=g x.1↔n=x.1):=λx hx n hn=>by
  obtain⟨q,q1,_,q3,_⟩:=(hf.ok x hx).label
  rw[q1]
  exact h.eq (.inl hn) (zd8 pl q)
 have hlk:∀n∈allP pl,zJ (lblM (zO g f).bk) (g n)=zJ (lblM f.bk) n:=λn hn=>by
  have:=zmo hi hn (f.bk.length-1) (by omega)
  show zJ (lblN (f.bk.map (yT g)) ((f.bk.map (yT g)).length-1)) (g n)=_
  rw[List.length_map]
  exact this
 have h1l:to_-1<pl.length:=by omega
 have h2l:to_-2<pl.length:=by omega
 have f1:=(yN hs).2 (to_-1) h1l
 have f2:=(yN hs).2 (to_-2) h2l
 have ea:∀k,(ix (zp g pl) k).2.2.2=(ix pl k).2.2.2.map (Zi g):=λk=>by rw[Yq h.zero];rfl
 have eo:∀k,(ix (zp g pl) k).1=(ix pl k).1:=λk=>by rw[Yq h.zero];rfl
 constructor
 ·unfold blkM
  show mrgP _ (ix (zp g pl) (Int.toNat (to_:Int)-2)).1 (ix (zp g pl) (Int.toNat (to_:Int)-2)).2.2.2 (ix (zp g pl) (Int.toNat (to_:Int)-1)).1=mrgP _ (ix pl (Int.toNat (to_:Int)-2)).1 (ix pl (Int.toNat (to_:Int)-2)).2.2.2 (ix pl (Int.toNat (to_:Int)-1)).1
  rw[Int.toNat_natCast,ea,eo,eo,yr h2l]
  obtain⟨m1,m2⟩:=znB f2
  obtain⟨a1,a2⟩:=zjB f2
  have mem:∀j (hj:j<pl[to_-2].2.2.2.length),pl[to_-2].2.2.2[j].1=1->zJ (lblM (zO g f).bk) ((pl[to_-2].2.2.2.map (Zi g)).getD j ag0).2.1=zJ (lblM f.bk) (pl[to_-2].2.2.2.getD j ag0).2.1:=λj hj e=>by
   rw[zm (by rw[List.length_map];exact hj),zm hj,List.getElem_map,zdn g e]
   exact hlk _ ((zfo h2l).2.2 _ (List.getElem_mem hj) e)
  unfold mrgP
  split
  ·rename_i e
   rw[mem 0 (a1 e) (m1 e (a1 e))]
  split
  ·rename_i e
   rw[mem 0 (by have:=a2 e;omega) (m2 e (a2 e)).1,mem 1 (a2 e) (m2 e (a2 e)).2]
  ·rfl
 ·have:blkT (zp g pl) (yT g ((ix pl fr).2.2.1,(fr:Int),(to_:Int)))=(blkT pl ((ix pl fr).2.2.1,(fr:Int),(to_:Int))).map g:=by
   unfold blkT
   show tgtP (ix (zp g pl) (Int.toNat (to_:Int)-1)).1 (ix (zp g pl) (Int.toNat (to_:Int)-1)).2.2.2=(tgtP (ix pl (Int.toNat (to_:Int)-1)).1 (ix pl (Int.toNat (to_:Int)-1)).2.2.2).map g
   rw[Int.toNat_natCast,ea,eo,yr h1l]
   exact zqY f1
  rw[this]
  refine zpY λn hn=>hlk n ?_
  refine zrM f1 (List.getElem_mem h1l) n ?_
  unfold blkT at hn
  rw[show Int.toNat ((ix pl fr).2.2.1,(fr:Int),(to_:Int)).2.2=to_ from rfl,yr h1l]at hn
  exact hn
theorem zx.rows(h:zx g pl b')(hs:(zs b pl).1=0){f:FnL}(hf:FnOk pl pl.length f):zbm (zp g pl) (zO g f).bk=zbm pl f.bk/\mgsP (zp g pl) (zO g f).bk=mgsP pl f.bk:=by
 constructor
 ·unfold zbm
  show(f.bk.map (yT g)).map _=_
  rw[List.map_map]
  refine List.map_congr_left λc hc=>?_
  have:=(h.blk hs hf hc).2
  simp only[Function.comp]
  rw[this]
 ·unfold mgsP
  show(f.bk.map (yT g)).map _=_
  rw[List.map_map]
  refine List.map_congr_left λc hc=>?_
  have:=(h.blk hs hf hc).1
  simp only[Function.comp]
  rw[this]
theorem zdx{α β γ:Type}{F:β->Option γ}{G:α->Option γ}{t:α->β}:∀l:List α,(∀x∈l,F (t x)=G x)->(l.map t).findSome? F=l.findSome? G
 | [],_=>rfl
 |a::r,e=>by
  rw[List.map_cons,List.findSome?_cons,List.findSome?_cons,e a (List.mem_cons_self ..),zdx r λx hx=>e x (List.mem_cons_of_mem _ hx)]
theorem zx.gnw{x y:Mo}(h:zx g pl y.2.1)(hs:(zs x.2.1 pl).1=0)(hl:(layP x.2.1 pl).1=0){f:FnL}(hf:f∈cutF pl pl.length):gnwE y (zp g pl) (zO g f)=gnwE x pl f:=by
 have hOk:=zle hl f hf
 unfold gnwE
 rw[h.chk9 hs,y7]
 split
 ·rfl
 have hin:zO g f∈cutF (zp g pl) pl.length:=by
  rw[zfe h.zero]
  exact List.mem_map.2 ⟨f,hf,rfl⟩
 rw[if_neg (show ¬(zO g f ∉ cutF (zp g pl) pl.length) from λq=>q hin)]
 try rw[if_neg (show ¬(f ∉ cutF pl pl.length) from λq=>q hf)]
 have:(zO g f).bk.length=f.bk.length:=List.length_map ..
 rw[this]
 split
 ·rfl
 have:(zO g f).bk.findSome? (blkE (zp g pl) (zO g f).bk)=f.bk.findSome? (blkE pl f.bk):=by
  refine zdx f.bk λc hc=>?_
  obtain⟨h1,h2⟩:=h.blk hs hOk hc
  unfold blkE
  rw[h1,h2]
  rfl
 rw[this]
end
end Go.Proofs
namespace Go.Proofs
open Go.Gk
set_option linter.unusedVariables false
set_option maxRecDepth 100000
end Go.Proofs
namespace Go.Proofs
open Go.Gk Go.RowKit Go.Gm
end Go.Proofs
namespace Go.Proofs
open Go.Gk Go.RowKit Go.Gm
end Go.Proofs
namespace Go.Proofs
open Go.Gk Go.RowKit Go.Gm
theorem PlOk.turn{g:Int->Int}{pl:List PI}(h:PlOk pl)(hg:∀n∈allP pl,0<=g n/\g n<=4294967295):PlOk (zp g pl):=by
 have get:∀p∈zp g pl,∃q∈pl,p=Z9 g q:=λp hp=>by
  obtain⟨q,hq,e⟩:=List.mem_map.1 hp
  exact⟨q,hq,e.symm⟩
 refine⟨by rw[y7];exact h.len,λp hp=>?_,λp hp x hx=>?_,λp hp=>?_⟩
 ·obtain⟨q,hq,rfl⟩:=get p hp
  have:=h.args q hq
  unfold Z9
  dsimp only
  rw[List.length_map]
  exact this
 ·obtain⟨q,hq,rfl⟩:=get p hp
  obtain⟨y,hy,rfl⟩:=List.mem_map.1 hx
  rw[zov]
  exact h.text q hq y hy
 ·obtain⟨q,hq,rfl⟩:=get p hp
  refine⟨hg _ (zeO hq (by simp[allI])),hg _ (zeO hq (by simp[allI])),λx hx=>?_⟩
  obtain⟨y,hy,rfl⟩:=List.mem_map.1 hx
  by_cases e:y.1=1
  ·rw[zdn g e]
   refine hg _ (zeO hq ?_)
   simp only[allI,List.mem_cons]
   right;right
   exact List.mem_map.2 ⟨y,List.mem_filter.2 ⟨hy,by simp[e]⟩,rfl⟩
  ·rw[zh4 g e]
   exact(h.nums q hq).2.2 y hy
theorem zx.plOk{g:Int->Int}{pl:List PI}{b':Int}(h:zx g pl b')(hp:PlOk pl):PlOk (zp g pl):=by
 refine hp.turn λn hn=>?_
 have hb:=h.pos
 by_cases e:n=0
 ·rw[e,h.zero];omega
 ·have:=h.rng n hn e
  omega
section
variable {x:Mo} {pl:List PI} {w:World} {R:VWP} {s:Sl} {T:List Int}
theorem zsy{y:Mo}{e a:Int}{K:World->World->Prop}(hK:∀w1 w',w1.heap.size=w.heap.size+1->Blk w' w.heap.size 25 (moV y)->Blk w' w1.heap.size 29 [.int .i64 e,.int .i64 a]->Below w.heap.size w w'->w'.heap.size=w.heap.size+2->K w1 w') :
  Nw (w.alloc (.cells #[(.int .u32 (0:Int)),(.int .u32 (0:Int)),(.slice none 0 0)] 25)) λw1=>
  Nw (w1.alloc (.cells #[(.int .i64 (0:Int)),(.int .i64 (0:Int))] 29)) λw2=>
  Wr w2 (blk w.heap.size)/\Nw (w2.setCell (blk w.heap.size) (.int .u32 y.1)) λw3=>
  Wr w3 ((blk w.heap.size).add 1)/\Nw (w3.setCell ((blk w.heap.size).add 1) (.int .u32 y.2.1)) λw4=>
  Wr w4 ((blk w.heap.size).add 2)/\Nw (w4.setCell ((blk w.heap.size).add 2) (.slice y.2.2.1.a y.2.2.1.l y.2.2.1.c)) λw5=>
  Wr w5 (blk w1.heap.size)/\Nw (w5.setCell (blk w1.heap.size) (.int .i64 e)) λw6=>
  Wr w6 ((blk w1.heap.size).add 1)/\Nw (w6.setCell ((blk w1.heap.size).add 1) (.int .i64 a)) λw7=>K w1 w7:=by
 refine zl λw1 hM1 b1 z1=>?_
 refine zl λw2 hS2 b2 z2=>?_
 refine st3 (hM1.below b2) rfl λw3 hM3 c3=>?_
 refine st2 (c3.blk hS2 (by omega)) rfl λw5 hS5 c5=>?_
 exact hK w1 w5 z1 (c5.blk hM3 (by omega)) hS5 (c5.below (c3.below (b1.on b2) (Nat.le_refl _)) (by omega)) (by rw[c5.size,c3.size];omega)
end
end Go.Proofs
namespace Go.Proofs
open Go.Gk Go.RowKit Go.Gm Go.Gr Go.Dm
theorem zl0{g:Int->Int}{l m:List Int}(hi:∀a b,(a∈l\/a∈m)->(b∈l\/b∈m)->g a=g b->a=b):(l.map g).Perm (m.map g)↔l.Perm m:=by
 refine⟨λh=>?_,λh=>h.map g⟩
 have:∃s:Int->Int,∀a,(a∈l\/a∈m)->s (g a)=a:=by
  classical
  refine⟨λy=>if h:∃a,(a∈l\/a∈m)/\g a=y then h.choose else 0,λa ha=>?_⟩
  have hex:∃b,(b∈l\/b∈m)/\g b=g a:=⟨a,ha,rfl⟩
  dsimp only
  rw[dif_pos hex]
  exact hi _ _ hex.choose_spec.1 ha hex.choose_spec.2
 obtain⟨s,hs⟩:=this
 have h2:=h.map s
 have e:∀k:List Int,(∀a∈k,a∈l\/a∈m)->(k.map g).map s=k:=λk hk=>by
  rw[List.map_map]
  conv=>rhs;rw[<-List.map_id k]
  exact List.map_congr_left λa ha=>hs a (hk a ha)
 rw[e l λa h=>.inl h,e m λa h=>.inr h]at h2
 exact h2
theorem zbH{α:Type}{p q:α->Bool}:∀{l:List α},(∀a∈l,p a=q a)->l.find? p=l.find? q
 | [],_=>rfl
 |a::l,h=>by
  rw[List.find?_cons,List.find?_cons,h a (List.mem_cons_self ..),zbH λb hb=>h b (List.mem_cons_of_mem _ hb)]
theorem zgT{α:Type}{l:List α}{p q:α->Bool}(h:∀x∈l,p x=q x):l.any p=l.any q:=by
 have:=Yh (f:=id) (p:=p) (q:=q) h
 rwa[List.map_id]at this
theorem zc2{α β:Type}{F G:α->Option β}(l:List α)(h:∀x∈l,F x=G x):l.findSome? F=l.findSome? G:=by
 have:=zdx (F:=F) (G:=G) (t:=id) l h
 rwa[List.map_id]at this
section
variable {g:Int->Int} {pl:List PI} {b b':Int} {fl:List FnL} {n k i:Nat} {id:Int}
theorem zfb(hz:g 0=0)(bk:List Bk3)(k:Nat):bx (bk.map (yT g)) k=yT g (bx bk k):=by
 by_cases hk:k<bk.length
 ·unfold bx
  rw[zm (by rw[List.length_map];exact hk),zm hk,List.getElem_map]
 ·unfold bx
  rw[YZ (by rw[List.length_map];omega),YZ (by omega)]
  unfold yT
  rw[hz]
theorem Yp(hz:g 0=0)(fl:List FnL)(n:Nat):fx (fl.map (zO g)) n=zO g (fx fl n):=by
 by_cases hk:n<fl.length
 ·unfold fx
  rw[zm (by rw[List.length_map];exact hk),zm hk,List.getElem_map]
 ·unfold fx
  rw[YZ (by rw[List.length_map];omega),YZ (by omega)]
  unfold zO fn0
  rw[hz]
  rfl
theorem zjk(hz:g 0=0)(bk:List Bk3)(p:Int):bkO (bk.map (yT g)) p=bkO bk p:=by
 unfold bkO
 rw[List.length_map]
 exact zbH λk _=>by rw[zfb hz];rfl
theorem zpX(hz:g 0=0)(fl:List FnL)(p:Int):fnO (fl.map (zO g)) p=fnO fl p:=by
 unfold fnO
 rw[List.length_map]
 exact zbH λk _=>by rw[Yp hz];rfl
theorem zmm(hz:g 0=0){bk:List Bk3}(hi:∀k,k<bk.length->(g (bx bk k).1=g id↔(bx bk k).1=id)):lbO (bk.map (yT g)) (g id)=lbO bk id:=by
 unfold lbO
 rw[List.length_map]
 refine zbH λk hk=>?_
 rw[zfb hz]
 show(g (bx bk k).1==g id)=_
 rw[Bool.eq_iff_iff,beq_iff_eq,beq_iff_eq]
 exact hi k (List.mem_range.1 hk)
theorem zx.mkA(h:zx g pl b')(hid:id∈allP pl\/id=0):Go.Proofs.mkA (zp g pl) (g id)=Go.Proofs.mkA pl id:=by
 unfold Go.Proofs.mkA
 rw[y7]
 exact h.maker hid _
theorem zx.op(h:zx g pl b')(k:Nat):(ix (zp g pl) k).1=(ix pl k).1:=by rw[Yq h.zero];rfl
theorem zx.args(h:zx g pl b')(k:Nat):(ix (zp g pl) k).2.2.2=(ix pl k).2.2.2.map (Zi g):=by rw[Yq h.zero];rfl
theorem zx.hmO(h:zx g pl b')(hid:id∈allP pl\/id=0):Go.Proofs.hmO (zp g pl) (fl.map (zO g)) (g id)=Go.Proofs.hmO pl fl id:=by
 unfold Go.Proofs.hmO
 rw[h.mkA hid,zpX h.zero]
 congr 1
 funext n
 rw[Yp h.zero,h.op]
 show((n:Int),ovI (bkO ((fx fl n).bk.map (yT g)) _),_)=_
 rw[zjk h.zero]
theorem zx.ownP(h:zx g pl b')(hid:id∈allP pl\/id=0):Go.Proofs.ownP (zp g pl) (fl.map (zO g)) n (g id)=Go.Proofs.ownP pl fl n id:=by
 unfold Go.Proofs.ownP
 rw[h.hmO hid]
theorem zx.othP(h:zx g pl b')(hid:id∈allP pl\/id=0):Go.Proofs.othP (zp g pl) (fl.map (zO g)) n (g id)=Go.Proofs.othP pl fl n id:=by
 unfold Go.Proofs.othP
 rw[h.hmO hid]
theorem zx.mayU(h:zx g pl b')(hid:id∈allP pl\/id=0)(nx:List (List Nat))(p:Int):Go.Proofs.mayU (zp g pl) (fl.map (zO g)) nx n (g id) k p=Go.Proofs.mayU pl fl nx n id k p:=by
 unfold Go.Proofs.mayU
 rw[h.ownP hid,h.mkA hid,Yp h.zero,show(zO g (fx fl n)).bk=(fx fl n).bk.map (yT g) from rfl,zjk h.zero]
theorem zoO(hz:g 0=0)(bk:List Bk3)(nx:List (List Nat))(k:Nat):zab (bk.map (yT g)) nx k=(zab bk nx k).map g:=by
 unfold zab
 rw[List.map_map]
 exact List.map_congr_left λp _=>by rw[zfb hz];rfl
theorem zm6{al:List Ag}(h:∀j,j<al.length->(al.getD j ag0).1=1):∀k,k<=al.length->parN (al.map (Zi g)) k=(parN al k).map g
 | 0,_=>rfl
 |k+1,hk=>by
  have ih:=zm6 h k (by omega)
  unfold parN
  have h1:=h k (by omega)
  have:((al.map (Zi g)).getD k ag0).2.1=g (al.getD k ag0).2.1:=by
   rw[zm (show k<al.length by omega)]at h1
   rw[zm (by rw[List.length_map];omega),zm (show k<al.length by omega),List.getElem_map]
   exact zdn g h1
  rw[this,ih]
  split
  ·rfl
  ·rw[List.map_append,List.map_cons,List.map_nil]
theorem zly{al:List Ag}{y:Int}:∀k,k<=al.length->y∈parN al k->∃j,j<al.length/\y=(al.getD j ag0).2.1
 | 0,_,h=>by cases h
 |k+1,hk,h=>by
  unfold parN at h
  split at h
  ·exact zly k (by omega) h
  ·rcases List.mem_append.1 h with h |h
   ·exact zly k (by omega) h
   ·exact⟨k,by omega,List.mem_singleton.1 h⟩
theorem zhw{bd:Int}(hs:(zs bd pl).1=0)(hi:i<pl.length)(hop:(ix pl i).1=245){j:Nat}(hj:j<(ix pl i).2.2.2.length):((ix pl i).2.2.2.getD j ag0).2.1∈allP pl:=by
 have h1:=(zjJ hs hi hop hj).1
 rw[yr hi]at h1 hj⊢
 rw[zm hj]at h1⊢
 exact(zfo hi).2.2 _ (List.getElem_mem hj) h1
theorem zx.arg(h:zx g pl b'){bd:Int}(hs:(zs bd pl).1=0)(hi:i<pl.length)(hop:(ix pl i).1=245){j:Nat}(hj:j<(ix pl i).2.2.2.length):((ix (zp g pl) i).2.2.2.getD j ag0).2.1=g ((ix pl i).2.2.2.getD j ag0).2.1:=by
 have h1:=(zjJ hs hi hop hj).1
 rw[h.args,zm (by rw[List.length_map];exact hj),List.getElem_map]
 rw[zm hj]at h1⊢
 exact zdn g h1
theorem ziL(hf:FnOk pl pl.length (fx fl n))(k:Nat):(bx (fx fl n).bk k).1∈allP pl\/(bx (fx fl n).bk k).1=0:=by
 by_cases hk:k<(fx fl n).bk.length
 ·obtain⟨q,q1,_⟩:=(hf.ok _ (zgg hk)).label
  rw[q1]
  exact zd8 pl q
 ·unfold bx
  rw[YZ (by omega)]
  exact .inr rfl
theorem zx.nxF(h:zx g pl b')(hs:(zs b pl).1=0)(hf:FnOk pl pl.length (fx fl n)):Go.Proofs.nxF (zp g pl) (fl.map (zO g)) n=Go.Proofs.nxF pl fl n:=by
 unfold Go.Proofs.nxF
 rw[Yp h.zero,(h.rows hs hf).1]
theorem zx.lbN(h:zx g pl b')(hf:FnOk pl pl.length (fx fl n))(hid:id∈allP pl\/id=0):Go.Proofs.lbN (zO g (fx fl n)).bk (g id)=Go.Proofs.lbN (fx fl n).bk id:=by
 unfold Go.Proofs.lbN
 show(lbO ((fx fl n).bk.map (yT g)) (g id)).getD 0=_
 rw[zmm h.zero λk _=>h.eq (ziL hf k) hid]
theorem zx.fltU(h:zx g pl b'){bd:Int}(hs:(zs bd pl).1=0)(F:Fls pl fl)(hn:n<fl.length)(hi:i<pl.length)(nx:List (List Nat)):Go.Proofs.fltU (zp g pl) (fl.map (zO g)) nx n k i=Go.Proofs.fltU pl fl nx n k i:=by
 have hf:=F.fn _ (zax hn)
 have e1:(zK (zp g pl) i).any (Go.Proofs.othP (zp g pl) (fl.map (zO g)) n)=(zK pl i).any (Go.Proofs.othP pl fl n):=by
  rw[h.ids]
  exact Yh λy hy=>h.othP (zji hy)
 have e2:(zK (zp g pl) i).any (λid=>!Go.Proofs.mayU (zp g pl) (fl.map (zO g)) nx n id k i)=(zK pl i).any (λid=>!Go.Proofs.mayU pl fl nx n id k i):=by
  rw[h.ids]
  exact Yh λy hy=>by rw[h.mayU (zji hy)]
 have eb:(fx (fl.map (zO g)) n).bk=(fx fl n).bk.map (yT g):=by rw[Yp h.zero];rfl
 unfold Go.Proofs.fltU
 rw[e1,e2,h.op]
 by_cases hop:(ix pl i).1=245
 ·have hev:=F.phi i hi hop
  have ha:=h.args i
  have hl:(ix (zp g pl) i).2.2.2.length=(ix pl i).2.2.2.length:=by rw[ha,List.length_map]
  have e3:(zab (fx (fl.map (zO g)) n).bk nx k).Perm (parN (ix (zp g pl) i).2.2.2 (ix (zp g pl) i).2.2.2.length)↔(zab (fx fl n).bk nx k).Perm (parN (ix pl i).2.2.2 (ix pl i).2.2.2.length):=by
   rw[hl,ha,eb,zoO h.zero,zm6 (λj hj=>(zjJ hs hi hop hj).1) _ (Nat.le_refl _)]
   have mem:∀a,(a∈zab (fx fl n).bk nx k\/a∈parN (ix pl i).2.2.2 (ix pl i).2.2.2.length)->a∈allP pl\/a=0:=λa ha=>by
    rcases ha with ha |ha
    ·obtain⟨p,_,rfl⟩:=List.mem_map.1 ha
     exact ziL hf p
    ·obtain⟨j,hj,rfl⟩:=zly _ (Nat.le_refl _) ha
     exact .inl (zhw hs hi hop hj)
   exact zl0 λa c ha hc e=>(h.eq (mem a ha) (mem c hc)).1 e
  have e4:(List.range ((ix (zp g pl) i).2.2.2.length / 2)).any (λj=>!Go.Proofs.mayU (zp g pl) (fl.map (zO g)) nx n ((ix (zp g pl) i).2.2.2.getD (2*j) ag0).2.1 (Go.Proofs.lbN (fx (fl.map (zO g)) n).bk ((ix (zp g pl) i).2.2.2.getD (2*j+1) ag0).2.1) (bx (fx (fl.map (zO g)) n).bk (Go.Proofs.lbN (fx (fl.map (zO g)) n).bk ((ix (zp g pl) i).2.2.2.getD (2*j+1) ag0).2.1)).2.2) =
    (List.range ((ix pl i).2.2.2.length / 2)).any (λj=>!Go.Proofs.mayU pl fl nx n ((ix pl i).2.2.2.getD (2*j) ag0).2.1 (Go.Proofs.lbN (fx fl n).bk ((ix pl i).2.2.2.getD (2*j+1) ag0).2.1) (bx (fx fl n).bk (Go.Proofs.lbN (fx fl n).bk ((ix pl i).2.2.2.getD (2*j+1) ag0).2.1)).2.2):=by
   rw[hl]
   refine zgT λj hj=>?_
   have hj:=List.mem_range.1 hj
   rw[h.arg hs hi hop (j:=2*j) (by omega),h.arg hs hi hop (j:=2*j+1) (by omega),Yp h.zero,h.lbN hf (.inl (zhw hs hi hop (by omega))),h.mayU (.inl (zhw hs hi hop (by omega)))]
   show(!Go.Proofs.mayU pl fl nx n _ _ (bx ((fx fl n).bk.map (yT g)) _).2.2)=_
   rw[zfb h.zero]
   rfl
  rw[e4]
  by_cases h1:(zK pl i).any (Go.Proofs.othP pl fl n)=true
  ·rw[if_pos h1,if_pos h1]
  rw[if_neg h1,if_neg h1,if_neg (λq=>q hop:¬(ix pl i).1≠245),if_neg (λq=>q hop:¬(ix pl i).1≠245)]
  by_cases hq:(zab (fx fl n).bk nx k).Perm (parN (ix pl i).2.2.2 (ix pl i).2.2.2.length)
  ·have g1:=not_not_intro (e3.2 hq)
   have g2:=not_not_intro hq
   rw[if_neg g1,if_neg g2]
  ·have g1:=mt e3.1 hq
   rw[if_pos g1,if_pos hq]
 ·rw[if_pos hop,if_pos hop]
theorem zx.bodE(h:zx g pl b')(hs:(zs b pl).1=0)(F:Fls pl fl)(hn:n<fl.length):Go.Proofs.bodE (zp g pl) (fl.map (zO g)) n=Go.Proofs.bodE pl fl n:=by
 have hf:=F.fn _ (zax hn)
 have eb:(fx (fl.map (zO g)) n).bk=(fx fl n).bk.map (yT g):=by rw[Yp h.zero];rfl
 unfold Go.Proofs.bodE
 rw[eb,List.length_map]
 refine zc2 _ λk _=>?_
 unfold bodK
 rw[y7]
 refine zc2 _ λi hi=>?_
 rw[eb,zfb h.zero,h.nxF hs hf,h.fltU hs F hn (List.mem_range.1 hi)]
 rfl
theorem zx.floE{x y:Mo}(h:zx g pl y.2.1)(hp:PlOk pl)(h0:0<=x.2.1)(hs:(zs x.2.1 pl).1=0):Go.Proofs.floE y (zp g pl)=Go.Proofs.floE x pl:=by
 unfold Go.Proofs.floE
 rw[h.chk9 hs]
 by_cases hc:(yc x.2.1 pl).1≠0
 ·rw[if_pos hc,if_pos hc]
 rw[if_neg hc,if_neg hc]
 have hc:=Classical.not_not.1 hc
 have F:=Fls.of hp h0 hc
 obtain⟨_,hl,_⟩:=zfd hc
 have e:(List.range (cutF (zp g pl) (zp g pl).length).length).findSome? (flwE y (zp g pl) (cutF (zp g pl) (zp g pl).length))=(List.range (cutF pl pl.length).length).findSome? (flwE x pl (cutF pl pl.length)):=by
  rw[y7,zfe h.zero,List.length_map]
  refine zc2 _ λn hn=>?_
  have hn:=List.mem_range.1 hn
  unfold flwE
  rw[Yp h.zero,h.gnw (x:=x) hs hl (zax hn),h.bodE hs F hn]
 rw[e]
theorem zx.usB(h:zx g pl b'){bd:Int}(hs:(zs bd pl).1=0)(F:Fls pl fl)(hn:n<fl.length)(hid:id∈allP pl\/id=0)(k:Nat):Go.Proofs.usB (zp g pl) (fl.map (zO g)) n (g id) k=Go.Proofs.usB pl fl n id k:=by
 have hf:=F.fn _ (zax hn)
 have eb:bx (fx (fl.map (zO g)) n).bk k=yT g (bx (fx fl n).bk k):=by rw[Yp h.zero];exact zfb h.zero _ _
 unfold Go.Proofs.usB
 rw[y7,eb]
 have e1:∀i,usN (zp g pl) (yT g (bx (fx fl n).bk k)) (g id) i=usN pl (bx (fx fl n).bk k) id i:=λi=>by
  unfold usN
  rw[h.op,h.ids]
  have:((zK pl i).map g).contains (g id)=(zK pl i).contains id:=by
   rw[Bool.eq_iff_iff,List.contains_iff_mem,List.contains_iff_mem,List.mem_map]
   constructor
   ·rintro⟨y,hy,e⟩
    rwa[<-(h.eq (zji hy) hid).1 e]
   ·intro hy
    exact⟨id,hy,rfl⟩
  rw[this]
  rfl
 have e2:∀i,i<pl.length->usP (zp g pl) (fx (fl.map (zO g)) n) (yT g (bx (fx fl n).bk k)) (g id) i=usP pl (fx fl n) (bx (fx fl n).bk k) id i:=λi hi=>by
  unfold usP
  rw[h.op,Yp h.zero,h.args,List.length_map]
  by_cases hop:(ix pl i).1=245
  ·have hev:=F.phi i hi hop
   have:(List.range ((ix pl i).2.2.2.length / 2)).any (usQ (zp g pl) (yT g (bx (fx fl n).bk k)) (g id) i)=(List.range ((ix pl i).2.2.2.length / 2)).any (usQ pl (bx (fx fl n).bk k) id i):=by
    refine zgT λj hj=>?_
    have hj:=List.mem_range.1 hj
    unfold usQ
    rw[h.arg hs hi hop (j:=2*j) (by omega),h.arg hs hi hop (j:=2*j+1) (by omega)]
    show(_&&g _==g (bx (fx fl n).bk k).1)=_
    rw[Bool.eq_iff_iff,Bool.and_eq_true,Bool.and_eq_true,beq_iff_eq,beq_iff_eq,beq_iff_eq,beq_iff_eq,h.eq (.inl (zhw hs hi hop (by omega))) hid,h.eq (.inl (zhw hs hi hop (by omega))) (ziL hf k)]
   rw[this]
   rfl
  ·rw[beq_eq_false_iff_ne.2 hop,Bool.false_and,Bool.false_and,Bool.and_false,Bool.and_false]
 rw[zgT λi _=>e1 i,zgT λi hi=>e2 i (List.mem_range.1 hi)]
theorem zx.wanB(h:zx g pl b')(hs:(zs b pl).1=0)(F:Fls pl fl)(hn:n<fl.length)(hid:id∈allP pl\/id=0):Go.Proofs.wanB (zp g pl) (fl.map (zO g)) n (g id) k=Go.Proofs.wanB pl fl n id k:=by
 have e1:Go.Proofs.mkB (zp g pl) (fl.map (zO g)) n (g id)=Go.Proofs.mkB pl fl n id:=funext λk=>by
  unfold Go.Proofs.mkB
  rw[h.mkA hid,Yp h.zero]
  show(ovI (bkO ((fx fl n).bk.map (yT g)) _)==_)=_
  rw[zjk h.zero]
 unfold Go.Proofs.wanB
 rw[h.nxF hs (F.fn _ (zax hn)),e1,show Go.Proofs.usB (zp g pl) (fl.map (zO g)) n (g id)=Go.Proofs.usB pl fl n id from funext (h.usB hs F hn hid)]
theorem zx.liv{bd:Int}(h:zx g pl b')(h':0<=b')(hp:PlOk pl)(hq:PlOk (zp g pl))(h0:0<=bd)(hs:(zs bd pl).1=0)(F:Fls pl fl)(F':Fls (zp g pl) (fl.map (zO g)))(hn:n<fl.length)(k:Nat) :
  (livL b' (zp g pl) (fl.map (zO g)) n k).Perm ((livL bd pl fl n k).map g):=by
 have all_of:∀{id},Go.Proofs.ownP pl fl n id=true->id∈allP pl\/id=0:=λ{id} ho=>by
  obtain⟨hh,hh1,_,_⟩:=zdj ho
  obtain⟨m,i,_,_,_,_,e5,_⟩:=F.home_inv hh1
  rw[<-e5]
  exact zd8 pl i
 have hs':=h.shape hs
 have hA:=zj6 (pl:=zp g pl) (fl:=fl.map (zO g)) (n:=n) (k:=k) (b'-1).toNat
 have hB:=zj6 (pl:=pl) (fl:=fl) (n:=n) (k:=k) (bd-1).toNat
 refine(List.perm_ext_iff_of_nodup (hA.imp λ{a c} h e=>by omega) ?_).2 λy=>?_
 ·refine List.pairwise_map.2 ?_
  refine List.Pairwise.imp_of_mem (R:=(·<·)) (λ{a c} ha hc hlt e=>?_) hB
  have ha:=(zd3.1 ha).2.1
  have hc:=(zd3.1 hc).2.1
  have:=(h.eq (all_of ha) (all_of hc)).1 e
  omega
 ·rw[List.mem_map,zd3]
  constructor
  ·rintro⟨_,ho,hw⟩
   obtain⟨hh,hh1,_,_⟩:=zdj ho
   obtain⟨m,i,_,_,_,_,e5,_⟩:=F'.home_inv hh1
   rw[Yq h.zero]at e5
   have e5:g (ix pl i).2.2.1=y:=e5
   rw[<-e5]at ho hw
   rw[h.ownP (zd8 pl i)]at ho
   rw[h.wanB hs F hn (zd8 pl i)]at hw
   have hb:=zlx (x:=((0,bd,⟨none,0,0⟩,()):Mo)) F hp h0 hs ho
   exact⟨_,zd3.2 ⟨⟨hb.1,by have:=hb.2;dsimp only at this;omega⟩,ho,hw⟩,e5⟩
  ·rintro⟨id,hid,rfl⟩
   obtain⟨_,ho,hw⟩:=zd3.1 hid
   have hm:=all_of ho
   rw[<-h.ownP hm]at ho
   rw[<-h.wanB hs F hn hm]at hw
   have hb:=zlx (x:=((0,b',⟨none,0,0⟩,()):Mo)) F' hq h' (by rw[hs']) ho
   exact⟨⟨hb.1,by have:=hb.2;dsimp only at this;omega⟩,ho,hw⟩
theorem zx.live{x y:Mo}{label:Int}(h:zx g pl y.2.1)(hp:PlOk pl)(hq:PlOk (zp g pl))(h0:0<=x.2.1)(hs:(zs x.2.1 pl).1=0)
  (hi:∀m,(m∈allP pl\/m=0)->(g m=g label↔m=label)) :
  (ZN y (zp g pl) (cutF (zp g pl) (zp g pl).length) (g label)).2=(ZN x pl (cutF pl pl.length) label).2/\(ZN y (zp g pl) (cutF (zp g pl) (zp g pl).length) (g label)).1.Perm ((ZN x pl (cutF pl pl.length) label).1.map g):=by
 have hfl:=h.floE (x:=x) hp h0 hs
 have h':=h.pos
 by_cases hz:(Go.Proofs.floE x pl).1≠0
 ·rw[zj7 hz,zj7 (by rw[hfl];exact hz),hfl]
  exact⟨rfl,.nil⟩
 have hz:=Classical.not_not.1 hz
 have hF:=zpV hz
 have F:=Fls.of hp h0 hF.ok
 have hF':=zpV (x:=y) (pl:=zp g pl) (by rw[hfl];exact hz)
 have F':=Fls.of hq (by omega) hF'.ok
 rw[y7,zfe h.zero]at F'⊢
 generalize cutF pl pl.length=fl at *
 have hlb:∀n,n<fl.length->lbO (fx (fl.map (zO g)) n).bk (g label)=lbO (fx fl n).bk label:=λn hn=>by
  rw[Yp h.zero]
  exact zmm h.zero λk _=>hi _ (ziL (F.fn _ (zax hn)) k)
 unfold ZN
 rw[if_neg (λq=>q (by rw[hfl];exact hz)),if_neg (λq=>q hz),List.length_map,zbH (p:=λn=>(lbO (fx (fl.map (zO g)) n).bk (g label)).isSome) (q:=λn=>(lbO (fx fl n).bk label).isSome) λn hn=>by rw[hlb n (List.mem_range.1 hn)]]
 cases hfd:(List.range fl.length).find? λn=>(lbO (fx fl n).bk label).isSome with
 |none=>exact⟨rfl,.nil⟩
 |some n=>
  obtain⟨hn,_,_⟩:=zaM hfd
  have e:Go.Proofs.lbN (fx (fl.map (zO g)) n).bk (g label)=Go.Proofs.lbN (fx fl n).bk label:=by unfold Go.Proofs.lbN;rw[hlb n hn]
  dsimp only
  rw[e]
  exact⟨rfl,h.liv (bd:=x.2.1) (by omega) hp hq h0 hs F F' hn _⟩
end
end Go.Proofs
namespace Go.Proofs
open Go.Gk
set_option linter.unusedVariables false
set_option maxRecDepth 100000
def zgN:Ann:=(.q (.seq none (.q (.q (.cond (.q .nil) .nil))) (.q (.seq (some ⟨[2,3,4,5,7],[(8,(.b .bool))]⟩) .nil (.seq none (.q (.one (.loop ⟨[2,3,4,5,33,34],[(8,(.b .bool)),(35,(.b (.int .i64)))]⟩ (.q (.seq none .c (.seq (some ⟨[2,3,4,5,33,34,35],[(8,(.b .bool))]⟩) (.one (.q .nil)) .nil)))))) (.seq none (.q (.cond (.q .nil) .nil)) (.q .nil)))))))
def zg9(p0:(Int×Int×Sl×Unit))(p1:Sl)(R:VWP)(w:World):Prop:=Nw (w.alloc (.cells #[zu p0.1,zu p0.2.1,p0.2.2.1.zw] 25)) λw1=>Nw (w1.alloc (.cells #[p1.zw] 26)) λw2=>Nw (w2.alloc (.cells #[zu 0,zu 0,.slice none 0 0] 25)) λw3=>Nw (w3.alloc (.cells #[zi 0,zi 0] 29)) λw4=>da w4 (zB w) λx1 x2 x3=>dh 43 #[.agg #[zu x1,zu x2,x3.zw]] w4 λx5 w5=>dc w5 #[zi 0,zi 0] 29 (zi x5.1) (zi x5.2.1) λw8=>ldI w8 (zB w5) .i64 λx6=>ifB (x6 !=0) (db w8.drew (zB w5) λx7 x8=>ds w8.drew (zB w2) (zu 0) (zu 0) (.slice none 0 0) λw11=>w11.cell? ((zB w5).add 0)=some (zi x7)/\w11.cell? ((zB w5).add 1)=some (zi x8)/\dd w11 (zB w3) (zi x7) (zi x8) λw13=>da w13 (zB w2) λx9 x10 x11=>db w13 (zB w3) λx12 x13=>R (.tuple #[.agg #[zu x9,zu x10,x11.zw],.agg #[zi x12,zi x13]]) w13) (ldS w8 (zB w1) λx14=>dO 44 #[x14.zw] w8 λx16 w14=>dn 26 #[x16] w14 λx18 w15=>zk (S:=Bool×Unit) (λm19=>ldS w15 (zB w1) λx21=>ldI w15 ((zB w).add 1) .u32 λx22=>ifB ((x21.l:Int)==(IntKind.i64.wrap x22)) (ldS w15 (zB w1) λx23=>(0<=(0:Int)/\0<(x23.l:Int))/\za x23.a λa24=>ldI w15 (a24.add 0) .u32 λx25=>m19 ((x25==0),()) w15) (m19 (false,()) w15)) (λs20 w16=>zj (S:=Bool×Int×Unit) (λs26 w17 n27=>ifB (decide (s26.2.1<(x18.l:Int))) (zk (S:=Bool×Unit) (λm28=>(0<=s26.2.1/\s26.2.1<(x18.l:Int))/\za x18.a λa30=>ldI w17 (a30.add s26.2.1.toNat) .u32 λx31=>ifB s26.1 (m28 ((x31==(IntKind.u32.wrap s26.2.1)),()) w17) (m28 (false,()) w17)) (λs29 w18=>n27 (s29.1,(IntKind.i64.wrap (s26.2.1+(1:Int))),()) w18)) (ifB (!s26.1) (ds w17 (zB w2) (zu 0) (zu 0) (.slice none 0 0) λw21=>dd w21 (zB w3) (zi 2) (zi 0) λw23=>da w23 (zB w2) λx32 x33 x34=>db w23 (zB w3) λx35 x36=>R (.tuple #[.agg #[zu x32,zu x33,x34.zw],.agg #[zi x35,zi x36]]) w23) (da w17 (zB w) λx37 x38 x39=>dx52 45 #[.agg #[zu x37,zu x38,x39.zw],.func (.func 46) #[] #[.pointer (some (zB w1))]] w17 λx41 w24=>ds w24 (zB w2) (zu x41.1) (zu x41.2.1) (x41.2.2.1.zw) λw27=>dd w27 (zB w3) (zi 0) (zi 0) λw29=>da w29 (zB w2) λx42 x43 x44=>db w29 (zB w3) λx45 x46=>R (.tuple #[.agg #[zu x42,zu x43,x44.zw],.agg #[zi x45,zi x46]]) w29))) (s20.1,0,()) w16))
theorem zhU(p0)(p1)(R)(w)(h:zg9 p0 p1 R w):Calls Tryz.prog 19 #[.agg #[.int .u32 p0.1,.int .u32 p0.2.1,.slice p0.2.2.1.a p0.2.2.1.l p0.2.2.1.c],.slice p1.a p1.l p1.c] w (Ret R):=lwC zgN Tryz.func19 (by kernel_rfl) (by kernel_rfl) h
def Y5:Ann:=(.q (.q (.seq none (.q (.one (.loop ⟨[0,3],[(4,(.b (.int .i64)))]⟩ (.seq none (.q .c) (.seq none (.one .nil) .nil))))) (.q .nil))))
def Zk(p0:Sl)(R:VWP)(w:World):Prop:=(0<=(p0.l:Int)/\(p0.l:Int)<=(p0.l:Int)/\4*(p0.l:Int)<=281474976710656/\(p0.l:Int)<=9223372036854775807)/\Nw (w.alloc (.cells (madeCells #[zu 0] (p0.l*1)) 22)) λw1=>zj (S:=Int×Unit) (λs1 w2 n2=>ifB (decide (s1.1<(p0.l:Int))) ((0<=s1.1/\s1.1<(p0.l:Int))/\za p0.a λa3=>ldI w2 (a3.add s1.1.toNat) .u32 λx4=>(0<=s1.1/\s1.1<(p0.l:Int))/\Wr w2 ((zB w).add s1.1.toNat)/\Nw (w2.setCell ((zB w).add s1.1.toNat) (zu x4)) λw3=>n2 ((IntKind.i64.wrap (s1.1+(1:Int))),()) w3) (R (.slice (some (zB w)) p0.l p0.l) w2)) (0,()) w1
theorem zbp(p0)(R)(w)(h:Zk p0 R w):Calls Tryz.prog 20 #[.slice p0.a p0.l p0.c] w (Ret R):=lwC Y5 Tryz.func20 (by kernel_rfl) (by kernel_rfl) h
def ze2:Ann:=(.q (.q .nil))
def zew(p0:Int)(c0:Addr)(R:VWP)(w:World):Prop:=ldS w c0 λx1=>(0<=p0/\p0<(x1.l:Int))/\za x1.a λa2=>ldI w (a2.add p0.toNat) .u32 λx3=>R (zu x3) w
theorem zgo(p0)(c0)(R)(w)(h:zew p0 c0 R w):Calls Tryz.prog 46 #[.int .u32 p0,.pointer (some c0)] w (Ret R):=lwC ze2 Tryz.func46 (by kernel_rfl) (by kernel_rfl) h
end Go.Proofs
namespace Go.Proofs
open Go.Gk Go.RowKit Go.Gm
noncomputable def rnmP(x:Mo)(pl:List PI)(T:List Int):Int×Int×List PI:=if (zs x.2.1 pl).1≠0 then(0,0,[]) else if wayB x.2.1 T=true then(x.1,x.2.1,zp (toG T) pl) else(0,0,[])
noncomputable def rnmS(x:Mo)(pl:List PI)(T:List Int):Int×Int:=if (zs x.2.1 pl).1≠0 then((zs x.2.1 pl).1,((zs x.2.1 pl).2:Int)) else if wayB x.2.1 T=true then(0,0) else(2,0)
section
variable {x:Mo} {pl:List PI} {w:World} {R:VWP} {s:Sl} {T:List Int}
theorem ziV(hs:IsS (Value.int .u32) w s T)(hmax:4*T.length<=140737488351232)
  (hR:∀w',Own w' 22 1 ⟨some (blk w.heap.size),T.length,T.length⟩ (T.map (Value.int .u32))->Below w.heap.size w w'->R (.slice (some (blk w.heap.size)) T.length T.length) w') :
  cR 20 #[.slice s.a s.l s.c] w R:=by
 refine zc.of (zbp s R w ?_) λ_ _ h=>h
 have hl:=hs.len
 unfold Zk
 rw[hl]
 refine⟨⟨by omega,by omega,by omega,by omega⟩,Nw.gen λw1 e1=>?_⟩
 have hD1:Blk w1 w.heap.size 22 ((List.replicate T.length (0:Int)).map (Value.int .u32)):=by rw[e1,List.map_replicate];exact Blk.made w _ _ _
 have b1:Below w.heap.size w w1:=by rw[e1];exact(Below.refl _ _).alloc (Nat.le_refl _) _
 clear e1
 refine zj.count T.length (by omega) (λk w'=>Below w.heap.size w w'/\∃C:List Int,Blk w' w.heap.size 22 (C.map (Value.int .u32))/\C.length=T.length/\∀j (h:j<C.length) (h':j<T.length),j<k->C[j]=T[j]) ⟨b1,_,hD1,by simp,λj _ _ h=>by omega⟩ ?_
 rintro k w2 hk ⟨hb,C,hC,hCl,hval⟩ next hnext
 refine zg (λh=>?_) (λh=>?_)
 ·have hlt:k<T.length:=by dsimp only at h;omega
  have hel:=zar (hs.below hb) hlt (φ:=λx=>(0<=(k:Int)/\(k:Int)<((T.length:Nat):Int))/\Wr w2 ((blk w.heap.size).add (Int.toNat (k:Int)))/\Nw (w2.setCell ((blk w.heap.size).add (Int.toNat (k:Int))) (.int .u32 x)) λw3=>next ((IntKind.i64.wrap ((k:Int)+1)),()) w3) ?_
  ·rw[hl]at hel
   exact hel
  ·have c3:=Chg.set w.heap.size k w2 (.int .u32 T[k])
   refine⟨⟨by omega,by omega⟩,hC.wr (by rw[List.length_map];omega),Nw.mk (hnext _ hlt ⟨c3.below hb (Nat.le_refl _),C.set k T[k],?_,by rw[List.length_set];exact hCl,λj h1 h2 h3=>?_⟩)⟩
   ·rw[List.map_set];exact hC.set _ _
   ·by_cases e:k=j
    ·subst e;rw[List.getElem_set_self]
    ·rw[List.getElem_set_ne e]
     exact hval j (by rw[List.length_set]at h1;exact h1) h2 (by omega)
 ·have hk':k=T.length:=by dsimp only at h;omega
  have e:C=T:=List.ext_getElem hCl λj h1 h2=>hval j h1 h2 (by omega)
  subst e
  exact hR w2 ⟨by rw[List.length_map,Nat.mul_one],.inr ⟨_,_,rfl,hC,Nat.le_refl _,(by dsimp only;omega),by rw[List.length_map,Nat.mul_one],by rw[Nat.mul_one];exact List.take_of_length_le (by rw[List.length_map];exact Nat.le_refl _)⟩⟩ hb
theorem zrU{bm bs:Nat}{cs ds:List Value}{g bd e a:Int}{t:Sl}{K:Int->Int->Sl->Int->Int->World->Prop}(hM:Blk w bm 25 cs)(hS:Blk w bs 29 ds)(h3:cs.length=3)(h2:ds.length=2)
  (hK:∀w',Chg bm w w'->∀w'',Chg bs w' w''->K g bd t e a w'') :
  Wr w (blk bm)/\Nw (w.setCell (blk bm) (.int .u32 g)) λw1=>Wr w1 ((blk bm).add 1)/\Nw (w1.setCell ((blk bm).add 1) (.int .u32 bd)) λw2=>Wr w2 ((blk bm).add 2)/\Nw (w2.setCell ((blk bm).add 2) (.slice t.a t.l t.c)) λw3=>
  Wr w3 (blk bs)/\Nw (w3.setCell (blk bs) (.int .i64 e)) λw4=>Wr w4 ((blk bs).add 1)/\Nw (w4.setCell ((blk bs).add 1) (.int .i64 a)) λw5=>
  ldI w5 ((blk bm).add 0) .u32 λx1=>ldI w5 ((blk bm).add 1) .u32 λx2=>ldS w5 ((blk bm).add 2) λx3=>ldI w5 ((blk bs).add 0) .i64 λx4=>ldI w5 ((blk bs).add 1) .i64 λx5=>K x1 x2 x3 x4 x5 w5:=by
 have hne:bs≠bm:=Blk.apart hS hM (by decide)
 refine st3 hM h3 λw3 hM3 c3=>st2 (c3.blk hS hne) h2 λw5 hS5 c5=>?_
 exact Mo.load (x:=(g,bd,t,())) (c5.blk hM3 hne.symm) (Sp.load hS5 (hK w3 c3 w5 c5))
theorem zlG(hN:IsPl w x.2.2.1 pl)(hp:PlOk pl)(h0:0<=x.2.1)(hs:IsS (Value.int .u32) w s T)(hmax:T.length<=35184372088832)
  (hR:∀(y:Mo) ql w',Below w.heap.size w w'->Zo w' w.heap.size y.2.2.1 ql->(y.1,y.2.1,ql)=rnmP x pl T->R (.tuple #[moA y,.agg #[.int .i64 (rnmS x pl T).1,.int .i64 (rnmS x pl T).2]]) w') :
  cR 19 #[moA x,.slice s.a s.l s.c] w R:=by
 refine zc.of (zhU x s R w ?_) λ_ _ h=>h
 refine zl λw1 hB1 b1 z1=>?_
 have hB1:Blk w1 w.heap.size 25 (moV x):=hB1
 refine zl λw2 hV2 b2 z2=>?_
 have hV2:Blk w2 w1.heap.size 26 [.slice s.a s.l s.c]:=hV2
 refine zl λw3 hM3 b3 z3=>?_
 have hM3:Blk w3 w2.heap.size 25 [.int .u32 0,.int .u32 0,.slice none 0 0]:=hM3
 refine zl λw4 hS4 b4 z4=>?_
 have hS4:Blk w4 w3.heap.size 29 [.int .i64 0,.int .i64 0]:=hS4
 have b14:=(b2.on b3).on b4
 have hb4:=b1.on b14
 refine Mo.load (hB1.below b14) ?_
 refine zjb (x:=x) (hN.below hb4) hp λw5 b5=>⟨((zs x.2.1 pl).1,((zs x.2.1 pl).2:Int),()),rfl,?_⟩
 refine box2 rfl λw8 h8 b8 z8=>?_
 have s5:=b5.size
 have b48:=b5.on b8
 have hb8:=hb4.on b48
 have hB8:=(hB1.below b14).below b48
 have hV8:=((hV2.below b3).below b4).below b48
 have hM8:=(hM3.below b4).below b48
 have hS8:=hS4.below b48
 refine h8.rI0 rfl (zF (λe=>?_) (λe=>?_))
 ·have e':(zs x.2.1 pl).1≠0:=e
  have er:rnmS x pl T=((zs x.2.1 pl).1,((zs x.2.1 pl).2:Int)):=by unfold rnmS;rw[if_pos e']
  rw[er]at hR
  refine Sp.load h8.drew ?_
  refine st3 hM8.drew rfl λw9 hM9 c9=>?_
  have h9:=c9.blk h8.drew (by omega)
  refine⟨h9.cell (n:=0) rfl,h9.cell (n:=1) rfl,?_⟩
  refine st2 (c9.blk hS8.drew (by omega)) rfl λw10 hS10 c10=>?_
  refine Mo.load (x:=(0,0,⟨none,0,0⟩,())) (c10.blk hM9 (by omega)) (Sp.load hS10 ?_)
  exact hR (0,0,⟨none,0,0⟩,()) [] w10 (c10.below (c9.below hb8.drew (by omega)) (by omega)) (Zo.nil _ _) (by unfold rnmP;rw[if_pos e'])
 have e':¬(zs x.2.1 pl).1≠0:=λh=>h e
 have hsh:(zs x.2.1 pl).1=0:=e
 have nb:=(yN hsh).1
 have hrg:=zfh hp h0 hsh
 refine hV8.cell0 rfl |>λhc=>⟨s,hc,?_⟩
 refine zc.of (Yy s _ w8 ?_) λ_ _ h=>h
 refine zl λw14 hW14 b14' z14=>⟨_,rfl,?_⟩
 have hs14:=hs.below (hb8.on b14')
 refine zlI (s:=s) (T:=T) hs14 hW14 hmax λr A w15 hA15 hP hA b15=>⟨r,rfl,?_⟩
 have b815:=b14'.on b15
 have hb15:=hb8.on b815
 have hB15:=hB8.below b815
 have hV15:=hV8.below b815
 have hM15:=hM8.below b815
 have hS15:=hS8.below b815
 have hs15:=hs.below hb15
 have hl:=hs.len
 have hAl:A.length=T.length:=hP.length_eq
 have hrs:=hA15.isS
 have hrl:=hrs.len
 refine zk.cut (λ(st:Bool×Unit) w'=>w'=w15/\(st.1=true↔(T.length:Int)=x.2.1/\T.getD 0 1=0)) ?_ ?_
 ·refine hV15.cell0 rfl |>λhc=>⟨s,hc,hB15.rI (n:=1) (x:=x.2.1) rfl ?_⟩
  rw[zz (x:=x.2.1) (by omega) (by omega)]
  refine zn (λe1=>?_) (λe1=>⟨rfl,⟨λh=>(by cases h),λh=>absurd (by omega) e1⟩⟩)
  refine hV15.cell0 rfl |>λhc=>⟨s,hc,?_⟩
  have hT0:0<T.length:=by omega
  obtain⟨a,ha⟩:=hs15.base hT0
  refine⟨⟨by omega,by omega⟩,ze ha ⟨T[0],hs15.cell a ha 0 hT0,rfl,?_⟩⟩
  dsimp only
  rw[zm hT0,beq_iff_eq]
  exact⟨λh=>⟨by omega,h⟩,λh=>h.2⟩
 rintro⟨ok0,_⟩ w15 ⟨rfl,hok0⟩
 dsimp only at hok0⊢
 refine zj.ghost (λk (st:Bool×Int×Unit) w'=>∃n:Nat,st.2.1=(n:Int)/\k=A.length-n/\n<=A.length/\w'=w15/\(st.1=true↔ok0=true/\∀j (h:j<A.length),j<n->A[j]=(j:Int))) A.length
  ⟨0,rfl,rfl,Nat.zero_le _,rfl,⟨λh=>⟨h,λj _ h=>by omega⟩,λh=>h.1⟩⟩ ?_
 rintro _ ⟨ok,_,_⟩ w15 ⟨n,e2,rfl,hn,rfl,hok⟩ next hnext
 dsimp only at e2 hok
 subst e2
 refine zg (λh=>?_) (λh=>?_)
 ·have hnl:n<A.length:=by dsimp only at h;omega
  refine zk.cut (λ(st:Bool×Unit) w'=>w'=w15/\(st.1=true↔ok0=true/\∀j (h:j<A.length),j<n+1->A[j]=(j:Int))) ?_ ?_
  ·refine zar hrs hnl ?_
   refine zo (λht=>⟨rfl,?_⟩) (λhf=>⟨rfl,?_⟩)
   ·obtain⟨k1,k2⟩:=hok.1 ht
    obtain⟨k3,_⟩:=hok0.1 k1
    dsimp only
    rw[zjY (by omega) (by omega),beq_iff_eq]
    constructor
    ·intro g
     refine⟨k1,λj hj hjn=>?_⟩
     by_cases ej:j=n
     ·subst ej;exact g
     ·exact k2 j hj (by omega)
    ·intro g
     exact g.2 n hnl (by omega)
   ·dsimp only
    constructor
    ·intro g;cases g
    ·intro g
     have hf:ok=false:=hf
     rw[hok.2 ⟨g.1,λj hj hjn=>g.2 j hj (by omega)⟩]at hf
     cases hf
  ·rintro⟨ok',_⟩ w15 ⟨rfl,hok'⟩
   dsimp only at hok'⊢
   rw[zv (by omega)]
   exact hnext (A.length-(n+1)) _ _ (by omega) ⟨n+1,rfl,rfl,by omega,rfl,hok'⟩
 ·have hn':n=A.length:=by dsimp only at h;omega
  subst hn'
  have hway:ok=true↔WayP x.2.1 T:=by
   rw[hok,hok0]
   constructor
   ·rintro⟨⟨g1,g2⟩,g3⟩
    exact⟨g1,g2,(zjR hP hA).2 λj hj=>g3 j hj hj⟩
   ·intro g
    exact⟨⟨g.len,g.zero⟩,λj hj _=>(zjR hP hA).1 g.perm j hj⟩
  have l2:=hM8.lt
  have l3:=hS8.lt
  have s15:=b815.size
  refine zM (zo (λhok1=>?_) (λhok1=>?_))
  ·have hw:WayP x.2.1 T:=hway.1 hok1
   have er:rnmS x pl T=(0,0):=by unfold rnmS;rw[if_neg e',if_pos (zkQ hw)]
   rw[er]at hR
   refine Mo.load hB15 ?_
   have hcf:Tryz.fs.contains 46=true:=by kernel_rfl
   refine zmS (x:=x) (g:=toG T) (hN.below hb15) hp (λw' hb' m hm=>?_) λt w16 hO16 b16=>⟨(x.1,x.2.1,t,()),rfl,?_⟩
   ·unfold yE
    simp only[hcf]
    refine zc.of (zgo m (blk w1.heap.size) _ w' ?_) λ_ _ h=>h
    obtain⟨m1,m2⟩:=hrg m hm
    have hmT:m.toNat<T.length:=by have:=hw.len;omega
    refine(hV15.below hb').cell0 rfl |>λhc=>⟨s,hc,?_⟩
    have hel:=zar (hs15.below hb') hmT (φ:=λv=>(λv w''=>v=Value.int .u32 (toG T m)/\Below w'.heap.size w' w'') (Value.int .u32 v) w') ⟨by unfold toG;rw[zm hmT],Below.refl _ _⟩
    rw[show((m.toNat:Nat):Int)=m by omega]at hel
    exact hel
   refine zrU (g:=x.1) (bd:=x.2.1) (t:=t) (e:=0) (a:=0) (hM15.below b16) (hS15.below b16) rfl rfl λw17 c17 w18 c18=>?_
   have s16:=b16.size
   refine hR (x.1,x.2.1,t,()) (zp (toG T) pl) w18 (c18.below (c17.below (hb15.on b16) (by omega)) (by omega)) ?_ (by unfold rnmP;rw[if_neg e',if_pos (zkQ hw)])
   exact((hO16.chg c17 (by omega)).chg c18 (by omega)).lower (by omega)
  ·have hw:¬WayP x.2.1 T:=λh=>by rw[hway.2 h]at hok1;cases hok1
   have er:rnmS x pl T=(2,0):=by unfold rnmS;rw[if_neg e',if_neg (by rw[zjW hw];simp)]
   rw[er]at hR
   refine zrU (g:=0) (bd:=0) (t:=⟨none,0,0⟩) (e:=2) (a:=0) hM15 hS15 rfl rfl λw17 c17 w18 c18=>?_
   exact hR (0,0,⟨none,0,0⟩,()) [] w18 (c18.below (c17.below hb15 (by omega)) (by omega)) (Zo.nil _ _) (by unfold rnmP;rw[if_neg e',if_neg (by rw[zjW hw];simp)])
end
end Go.Proofs
namespace Go.Proofs
open Go.Gk Go.RowKit Go.Gm Go.Gr Go.Dm
theorem WayP.inj{bd:Int}{T:List Int}(h:WayP bd T){m n:Int}(m1:0<=m)(m2:m<bd)(n1:0<=n)(n2:n<bd)(e:toG T m=toG T n):m=n:=by
 have hl:=h.len
 unfold toG at e
 rw[zm (by omega),zm (by omega)]at e
 have:=(List.getElem_inj (h₀:=by omega) (h₁:=by omega) h.nodup).1 e
 omega
section
variable {x:Mo} {pl:List PI} {fl:List FnL} {w:World} {R:VWP} {label:Int} {s:Sl} {T:List Int}
theorem zn6{id:Int}(h:id∈(ZN x pl fl label).1):1<=id/\id<x.2.1:=by
 unfold ZN at h
 split at h
 ·cases h
 split at h
 ·have:=(zd3.1 h).1
  omega
 ·cases h
def ReQ(w0:World)(A:List Int×Int×Int)(st:Sl×(Option Addr)×Unit)(w':World):Prop:=
 ∃(r:Sl) (sb:Nat),st=(r,some (blk sb),())/\Own w' 22 1 r (A.1.map (Value.int .u32))/\Blk w' sb 29 [.int .i64 A.2.1,.int .i64 A.2.2]/\Below w0.heap.size w0 w'
set_option maxHeartbeats 4000000 in
theorem zh9(hN:IsPl w x.2.2.1 pl)(hp:PlOk pl)(hbd:0<=x.2.1/\x.2.1<=4294967295)(hs:IsS (Value.int .u32) w s T)(hmax:4*T.length<=140737488351232)(hlb:0<=label/\label<=4294967295)(hR:∀w',Below w.heap.size w w'->R (.bool true) w') :
  cR 5 #[moA x,.slice s.a s.l s.c,.int .u32 label] w R:=by
 refine zc.of (zah x s label R w ?_) λ_ _ h=>h
 refine zl λw1 hB1 b1 z1=>?_
 have hB1:Blk w1 w.heap.size 25 (moV x):=hB1
 refine zmR λw2 b2=>⟨true,rfl,zD rfl ?_⟩
 have hb2:=b1.on b2
 refine Mo.load (hB1.below b2) (Yo (x:=x) (hN.below hb2) hp λca w3 _ _ hC3 b3=>⟨(x.1,x.2.1,⟨some (blk ca),pl.length,pl.length⟩,()),rfl,?_⟩)
 refine ziV (hs.below (hb2.on b3)) hmax λw4 hW4 b4=>⟨⟨some (blk w3.heap.size),T.length,T.length⟩,rfl,?_⟩
 refine zlG (x:=(x.1,x.2.1,⟨some (blk ca),pl.length,pl.length⟩,())) (hC3.below b4) hp hbd.1 hW4.isS (by omega) λy ql w5 b5 hO5 hy=>⟨y,((rnmS x pl T).1,(rnmS x pl T).2,()),rfl,?_⟩
 have hy:(y.1,y.2.1,ql)=rnmP x pl T:=hy
 refine zsy (y:=y) λw6 w12 z6 hY12 hS12 b12 z12=>?_
 have b212:=((b3.on b4).on b5).on b12
 have hb12:=hb2.on b212
 have hB12:=(hB1.below b2).below b212
 refine hS12.rI0 rfl (zF (λ_=>hR w12 hb12) (λhe=>?_))
 have he:(rnmS x pl T).1=0:=he
 have hsh:(zs x.2.1 pl).1=0:=by
  unfold rnmS at he
  by_cases h:(zs x.2.1 pl).1≠0
  ·rw[if_pos h]at he;exact absurd he h
  ·exact Classical.not_not.1 h
 have hway:wayB x.2.1 T=true:=by
  unfold rnmS at he
  rw[if_neg (λh=>h hsh)]at he
  by_cases h:wayB x.2.1 T=true
  ·exact h
  ·rw[if_neg h]at he;exact absurd (show(2:Int)=0 from he) (by decide)
 have hy2:rnmP x pl T=(x.1,x.2.1,zp (toG T) pl):=by
  unfold rnmP
  rw[if_neg (λh=>h hsh),if_pos hway]
 rw[hy2,Prod.mk.injEq,Prod.mk.injEq]at hy
 obtain⟨hy1,hy2,hy3⟩:=hy
 subst hy3
 have hwp:=zri.1 hway
 have hturn0:=hwp.turn hp hbd.1 hsh
 have hturn:zx (toG T) pl y.2.1:=by rw[hy2];exact hturn0
 have hpq:=hturn.plOk hp
 have hflo:floE y (zp (toG T) pl)=floE x pl:=hturn.floE hp hbd.1 hsh
 have hY5:=hO5.isPl
 have b12d:Below w12.heap.size w12 w12.drew:=(Below.refl _ _).drew
 refine Mo.load (hB12.below b12d) (Mo.load (hY12.below b12d) ?_)
 refine Yo (x:=x) (hN.below (hb12.on b12d)) hp λcb w13 _ _ hC13 b13=>⟨(x.1,x.2.1,⟨some (blk cb),pl.length,pl.length⟩,()),rfl,?_⟩
 have b1213:=b12d.on b13
 have hY13:=hY12.below b1213
 refine⟨hY13.cell (n:=0) rfl,hY13.cell (n:=1) rfl,hY13.cell (n:=2) rfl,?_⟩
 refine zcw (x:=(x.1,x.2.1,⟨some (blk cb),pl.length,pl.length⟩,())) hC13 hp hbd.1 λw14 b14=>⟨((floE x pl).1,(floE x pl).2,()),rfl,?_⟩
 have hY14:=hY13.below b14
 refine⟨hY14.cell (n:=0) rfl,hY14.cell (n:=1) rfl,hY14.cell (n:=2) rfl,?_⟩
 have b1214:=b1213.on b14
 refine Yo (x:=y) ((hY5.below b12).below b1214) hpq λcc w15 _ _ hC15 b15=>⟨(y.1,y.2.1,⟨some (blk cc),(zp (toG T) pl).length,(zp (toG T) pl).length⟩,()),rfl,?_⟩
 refine zcw (x:=(y.1,y.2.1,⟨some (blk cc),(zp (toG T) pl).length,(zp (toG T) pl).length⟩,())) hC15 hpq (by rw[show(y.1,y.2.1,(⟨some (blk cc),(zp (toG T) pl).length,(zp (toG T) pl).length⟩:Sl),()).2.1=y.2.1 from rfl,hy2];exact hbd.1) λw16 b16=>⟨((floE y (zp (toG T) pl)).1,(floE y (zp (toG T) pl)).2,()),rfl,?_⟩
 rw[hflo]
 have b1216:=(b1214.on b15).on b16
 have hb16:=hb12.on b1216
 have hsl:=hs.len
 have hwl:=hwp.len
 have hpos:=hturn0.pos
 refine zM (zG (by simp) (zg (λ_=>hR w16 hb16) (λg=>?_)))
 have hlt:label<(T.length:Int):=by
  rw[show IntKind.u32.wrap (s.l:Int)=(s.l:Int) from zjY (by omega) (by omega)]at g
  omega
 obtain⟨lb,rfl⟩:=Int.eq_ofNat_of_zero_le hlb.1
 have hi:∀m,(m∈allP pl\/m=0)->(toG T m=toG T (lb:Int)↔m=(lb:Int)):=λm hm=>by
  have hr:0<=m/\m<x.2.1:=by
   rcases hm with hm |rfl
   ·exact zfh hp hbd.1 hsh m hm
   ·omega
  exact⟨λe=>hwp.inj hr.1 hr.2 hlb.1 (by omega) e,λe=>by rw[e]⟩
 obtain⟨hl1,hl2⟩:=hturn.live (x:=x) (label:=(lb:Int)) hp hpq hbd.1 hsh hi
 refine Mo.load (hB12.below b1216) (Yo (x:=x) (hN.below hb16) hp λcd w17 _ _ hC17 b17=>⟨(x.1,x.2.1,⟨some (blk cd),pl.length,pl.length⟩,()),rfl,?_⟩)
 refine zjw (x:=(x.1,x.2.1,⟨some (blk cd),pl.length,pl.length⟩,())) hC17 hp hbd.1 λw18 r hr hrF b18=>⟨r,((ZN x pl (cutF pl pl.length) (lb:Int)).2.1,(ZN x pl (cutF pl pl.length) (lb:Int)).2.2,()),rfl,box2 rfl λw21 h21 b21 z21=>?_⟩
 have hr:Own w18 22 1 r ((ZN x pl (cutF pl pl.length) (lb:Int)).1.map (Value.int .u32)):=hr
 have b1621:=(b17.on b18).on b21
 have b1221:=b1216.on b1621
 have hb21:=hb12.on b1221
 obtain⟨A,hA⟩:∃A,ZN x pl (cutF pl pl.length) (lb:Int)=A:=⟨_,rfl⟩
 obtain⟨B,hB⟩:∃B,ZN y (zp (toG T) pl) (cutF (zp (toG T) pl) (zp (toG T) pl).length) (toG T (lb:Int))=B:=⟨_,rfl⟩
 have hrng:∀id∈A.1,1<=id/\id<x.2.1:=λid hid=>by rw[<-hA]at hid;exact zn6 hid
 rw[hA]at hr h21 hl1 hl2
 rw[hB]at hl1 hl2
 have hltN:lb<T.length:=by omega
 have hgl:toG T (lb:Int)=T[lb]:=by unfold toG;rw[Int.toNat_natCast];exact zm hltN
 rw[hgl]at hB
 have lv:∀{w'} {R':VWP},Below w12.heap.size w12 w'->(∀w'' r,Own w'' 22 1 r (B.1.map (Value.int .u32))->Below w'.heap.size w' w''->R' (.tuple #[.slice r.a r.l r.c,.agg #[.int .i64 B.2.1,.int .i64 B.2.2]]) w'')->
   cR 7 #[moA y,.int .u32 T[lb]] w' R':=λ{w'} {R'} hb hR'=>by
  refine zjw (x:=y) ((hY5.below b12).below hb) hpq (by rw[hy2];exact hbd.1) λw'' r hr _ hb=>?_
  rw[hB]at hr⊢
  exact hR' w'' r hr hb
 refine zk.cut (ReQ w21 B) ?_ ?_
 ·have b21d:Below w21.heap.size w21 w21.drew:=(Below.refl _ _).drew
  have b1221d:=b1221.on b21d
  refine Mo.load (hY12.below b1221d) ((hs.below (hb12.on b1221d)).addr (k:=lb) hltN λa ha hc=>⟨T[lb],hc,?_⟩)
  have hYd:=hY12.below b1221d
  refine⟨lv b1221d λw22 r2 hr2 b22=>⟨r2,(B.2.1,B.2.2,()),rfl,box2 rfl λw25 h25 b25 z25=>⟨r2,_,rfl,hr2.below b25,h25,(b21d.on b22).on b25⟩⟩,?_⟩
  refine zl λw26 hD26 b26 z26=>?_
  have hD26:Blk w26 w21.drew.heap.size 29 [.int .i64 0,.int .i64 0]:=hD26
  have hY26:=hYd.below b26
  refine⟨yV b26 hc,hY26.cell (n:=0) rfl,hY26.cell (n:=1) rfl,hY26.cell (n:=2) rfl,?_⟩
  refine lv (b1221d.on b26) λw27 r2 hr2 b27=>⟨r2,(B.2.1,B.2.2,()),rfl,?_⟩
  have hD27:=hD26.below b27
  refine st2 hD27 rfl λw29 hS29 c29=>⟨r2,_,rfl,?_,hS29,c29.below ((b21d.on b26).on b27) (Nat.le_refl _)⟩
  exact hr2.of_block λa ha=>c29.block _ λe=>by
   obtain⟨cs,hc⟩:=hr2.type ha
   exact Blk.apart hc hD27 (by decide) e
 rintro _ w30 ⟨r2,sb,rfl,hr30,hS30,b30⟩
 have h30:=h21.below b30
 have hr30':=(hr.below b21).below b30
 have hlen:B.1.length=A.1.length:=by rw[hl2.length_eq,List.length_map]
 have hrl:=hr30'.isS.len
 have hr2l:=hr30.isS.len
 refine zk.cut (λ(_:Unit) w'=>w'=w30) ?_ ?_
 ·refine h30.rI (n:=0) (x:=A.2.1) rfl (h30.rI (n:=1) (x:=A.2.2) rfl (ze rfl (hS30.rI (n:=0) (x:=B.2.1) rfl (hS30.rI (n:=1) (x:=B.2.2) rfl ?_))))
  rw[hl1]
  exact zM (zG (by simp) (zF (λe=>absurd (show(r.l:Int)=(r2.l:Int) by omega) e) (λ_=>rfl)))
 rintro _ w31 rfl
 have hb31:=hb21.on b30
 have hT31:=hs.below hb31
 refine zj.count A.1.length hr30'.isS.bound (λ_ w'=>w'=w31) rfl ?_
 rintro k _ hk rfl next hnext
 refine zg (λg2=>?_) (λ_=>hR _ hb31)
 have hkl:k<A.1.length:=by dsimp only at g2;omega
 refine zar hr30'.isS hkl ?_
 obtain⟨id,hid⟩:∃id,A.1[k]=id:=⟨_,rfl⟩
 have hidm:id∈A.1:=by rw[<-hid];exact List.getElem_mem hkl
 obtain⟨i1,i2⟩:=hrng id hidm
 rw[hid]
 obtain⟨j,rfl⟩:=Int.eq_ofNat_of_zero_le (show 0<=id by omega)
 have hjl:j<T.length:=by omega
 refine zar hT31 hjl (zmN hr30.isS ⟨_,rfl,zM (zG ?_ (hnext _ hkl rfl))⟩)
 rw[List.contains_iff_mem,hl2.mem_iff,List.mem_map]
 exact⟨_,hidm,by unfold toG;rw[Int.toNat_natCast];exact zm hjl⟩
end
end Go.Proofs
