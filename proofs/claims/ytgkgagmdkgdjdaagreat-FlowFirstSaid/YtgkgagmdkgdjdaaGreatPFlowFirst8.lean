/- FlowFirst, part 8; made small by a program. -/
import Derived.Test.YtgkgagmdkgdjdaaGreatProg
import Derived.Test.YtgkgagmdkgdjdaaGreatPFlowFirst7
namespace Go.Proofs
open Go.Gk Go.RowKit Go.Gm Go.Gr Go.Dm
def leP(b:Bool):List PI:=[(14,0,0,[(4,0,bs []),(4,0,bs [])]),(19,0,1,[]),(33,0,2,[(1,1,bs [])]),(20,0,7,[]),(41,7,8,[]),(54,1,3,[(4,0,bs []),(1,2,bs [])]),(248,0,4,[]),
 (83,7,5,[(1,(if b=true then 6 else 8),bs [])]),(83,7,6,[(1,5,bs [])]),(253,0,0,[]),(56,0,0,[])]
def leF:FnL:=⟨3,5,10,[],[(4,6,10)]⟩
theorem zoE:∀b,yh 10 (leP b)=(0,0)
 |true=>by decide +kernel
 |false=>by decide +kernel
theorem zoF:∀b,cutF (leP b) (leP b).length=[leF]
 |true=>by kernel_rfl
 |false=>by kernel_rfl
theorem zqy(b:Bool):PlOk (leP b):=by
 refine⟨by show 40*11<=_;decide,λp hp=>?_,λp hp y hy=>?_,λp hp=>?_⟩
 ·cases b<;>simp only[leP,List.mem_cons,List.not_mem_nil,or_false]at hp<;>rcases hp with rfl |rfl |rfl |rfl |rfl |rfl |rfl |rfl |rfl |rfl |rfl<;>decide
 ·have:y.2.2=bs []:=by
   cases b<;>simp only[leP,List.mem_cons,List.not_mem_nil,or_false]at hp<;>rcases hp with rfl |rfl |rfl |rfl |rfl |rfl |rfl |rfl |rfl |rfl |rfl<;>simp only[List.mem_cons,List.not_mem_nil,or_false]at hy<;>first | (rcases hy with rfl |rfl<;>rfl) | (rcases hy with rfl;rfl) | (exact hy.elim)
  rw[this]
  decide
 ·cases b<;>simp only[leP,List.mem_cons,List.not_mem_nil,or_false]at hp<;>rcases hp with rfl |rfl |rfl |rfl |rfl |rfl |rfl |rfl |rfl |rfl |rfl<;>decide
theorem zqH{x:Mo}(hx:x.2.1=10)(b:Bool):gnwE x (leP b) leF=(0,0):=by
 unfold gnwE
 rw[hx,zoE,if_neg (by decide),zoF,if_neg (by simp),if_neg (by decide)]
 have:leF.bk.findSome? (blkE (leP b) leF.bk)=none:=by cases b<;>kernel_rfl
 rw[this]
theorem zqY(b:Bool):nxF (leP b) [leF] 0=[[]]:=by cases b<;>kernel_rfl
theorem zhV{pl:List PI}{fl:List FnL}{nx:List (List Nat)}{n k:Nat}{id p:Int}(h:ownP pl fl n id=false):mayU pl fl nx n id k p=true:=by
 unfold mayU
 rw[if_neg (by rw[h];simp)]
theorem zlm{pl:List PI}{fl:List FnL}{nx:List (List Nat)}{n k:Nat}{id p:Int}(h:ownP pl fl n id=true)(hr:zO nx (-1) k)(hb:bkO (fx fl n).bk (mkA pl id)=some k):mayU pl fl nx n id k p=decide (mkA pl id<p):=by
 unfold mayU
 rw[if_pos ⟨h,hr⟩,hb]
 simp
theorem zc0{pl:List PI}{fl:List FnL}{nx:List (List Nat)}{n k i:Nat}(h:(zN pl i).any (othP pl fl n)=false)(hop:(ix pl i).1≠245):fltU pl fl nx n k i=if (zN pl i).any (λid=>!mayU pl fl nx n id k i)=true then 190 else 0:=by
 unfold fltU
 rw[h,if_neg (by simp),if_pos hop]
theorem zlf(b:Bool):zO (nxF (leP b) [leF] 0) (-1) 0:=by rw[zqY];exact .zero (by decide) (by decide)
theorem zoH(b:Bool){i:Nat}(h1:6<=i)(h2:i<10)(h3:b=true->i≠7):fltU (leP b) [leF] (nxF (leP b) [leF] 0) 0 0 i=0:=by
 have hi:i=6\/i=7\/i=8\/i=9:=by omega
 rcases hi with rfl |rfl |rfl |rfl
 ·rw[zc0 (by cases b<;>kernel_rfl) (by cases b<;>decide),show zN (leP b) 6=[] by cases b<;>kernel_rfl]
  rfl
 ·cases b with
  |true=>exact absurd rfl (h3 rfl)
  |false=>
   rw[zc0 (by kernel_rfl) (by decide),show zN (leP false) 7=[7,8] by kernel_rfl]
   refine if_neg ?_
   simp only[List.any_cons,List.any_nil]
   rw[zhV (by kernel_rfl),zhV (by kernel_rfl)]
   decide
 ·rw[zc0 (by cases b<;>kernel_rfl) (by cases b<;>decide),show zN (leP b) 8=[7,5] by cases b<;>kernel_rfl]
  refine if_neg ?_
  simp only[List.any_cons,List.any_nil]
  rw[zhV (by cases b<;>kernel_rfl),zlm (by cases b<;>kernel_rfl) (zlf b) (by cases b<;>kernel_rfl),show mkA (leP b) 5=7 by cases b<;>kernel_rfl]
  decide
 ·rw[zc0 (by cases b<;>kernel_rfl) (by cases b<;>decide),show zN (leP b) 9=[] by cases b<;>kernel_rfl]
  rfl
theorem zoD:fltU (leP true) [leF] (nxF (leP true) [leF] 0) 0 0 7=190:=by
 rw[zc0 (by kernel_rfl) (by decide),show zN (leP true) 7=[7,6] by kernel_rfl]
 refine if_pos ?_
 simp only[List.any_cons,List.any_nil]
 rw[zhV (by kernel_rfl),zlm (by kernel_rfl) (zlf true) (by kernel_rfl),show mkA (leP true) 6=8 by kernel_rfl]
 decide
theorem zoG{x:Mo}(hx:x.2.1=10)(b:Bool):floE x (leP b)=if b=true then(190,7) else(0,0):=by
 have hw:flwE x (leP b) [leF] 0=bodE (leP b) [leF] 0:=by
  unfold flwE
  rw[show fx [leF] 0=leF from rfl,zqH hx,if_neg (by decide)]
 have hb:bodE (leP b) [leF] 0=if b=true then some (190,7) else none:=by
  unfold bodE
  cases b with
  |true=>
   refine zbT (k:=0) (by decide) ?_ λj h=>by omega
   have:=zjq (pl:=leP true) (fl:=[leF]) (n:=0) (k:=0) (i:=7) (by decide) (by decide) (by decide) (by rw[zoD];decide) λj h1 h2=>zoH true (by have h1:(6:Int)<=(j:Int):=h1;omega) (by omega) (λ_=>by omega)
   rw[this,zoD]
   rfl
  |false=>
   refine zg9 λk hk=>?_
   have hk0:k=0:=by have:k<1:=hk;omega
   subst hk0
   exact zjp λj h1 h2=>zoH false (by have h1:(6:Int)<=(j:Int):=h1;omega) (by have h2:(j:Int)<10:=h2;omega) λh=>by cases h
 unfold floE
 rw[hx,zoE,if_neg (by decide),zoF]
 show(match (List.range 1).findSome? (flwE x (leP b) [leF]) with |some p=>p |none=>(0,0))=_
 have:(List.range 1).findSome? (flwE x (leP b) [leF])=flwE x (leP b) [leF] 0:=by
  show List.findSome? _ [0]=_
  rw[List.findSome?_cons]
  cases flwE x (leP b) [leF] 0<;>rfl
 rw[this,hw,hb]
 cases b<;>rfl
section
variable {w:World} {R:VWP}
theorem zf5{n:Int}(hR:∀w',Below w.heap.size w w'->R (.agg #[.int .u8 4,.int .u32 n,.string (bs [])]) w'):cR 64 #[.int .u32 n] w R:=by
 refine zc.of (zcP n R w ?_) λ_ _ h=>h
 refine box3 rfl λw4 h4 b4 z4=>?_
 exact h4.rI (n:=0) (x:=4) rfl (h4.rI (n:=1) (x:=n) rfl (h4.rT (n:=2) (x:=bs []) rfl (hR w4 b4)))
theorem zgv{n:Int}(hR:∀w',Below w.heap.size w w'->R (.agg #[.int .u8 1,.int .u32 n,.string (bs [])]) w'):cR 65 #[.int .u32 n] w R:=by
 refine zc.of (zeh n R w ?_) λ_ _ h=>h
 refine box3 rfl λw4 h4 b4 z4=>?_
 exact h4.rI (n:=0) (x:=1) rfl (h4.rI (n:=1) (x:=n) rfl (h4.rT (n:=2) (x:=bs []) rfl (hR w4 b4)))
set_option maxHeartbeats 2000000 in
theorem ziD{b:Bool}(hR:∀w' s,IsPl w' s (leP b)->Below w.heap.size w w'->R (moA (0,10,s,())) w'):cR 30 #[.bool b] w R:=by
 refine zc.of (zb0 b R w ?_) λ_ _ h=>h
 refine zl λw1 hM1 b1 z1=>?_
 have hM1:Blk w1 w.heap.size 25 (moV (0,0,⟨none,0,0⟩,())):=hM1
 refine zf5 λw2 b2=>⟨(4,0,bs [],()),rfl,zf5 λw3 b3=>⟨(4,0,bs [],()),rfl,zl λw4 hA4 b4 z4=>?_⟩⟩
 have hA4:Blk w4 w3.heap.size 136 (flat agV [(4,0,bs []),(4,0,bs [])]):=hA4
 refine zgv λw5 b5=>⟨(1,1,bs [],()),rfl,zl λw6 hA6 b6 z6=>?_⟩
 have hA6:Blk w6 w5.heap.size 136 (flat agV [(1,1,bs [])]):=hA6
 refine zf5 λw7 b7=>⟨(4,0,bs [],()),rfl,zgv λw8 b8=>⟨(1,2,bs [],()),rfl,zl λw9 hA9 b9 z9=>?_⟩⟩
 have hA9:Blk w9 w8.heap.size 136 (flat agV [(4,0,bs []),(1,2,bs [])]):=hA9
 refine zgv λw10 b10=>⟨(1,8,bs [],()),rfl,zl λw11 hA11 b11 z11=>?_⟩
 have hA11:Blk w11 w10.heap.size 136 (flat agV [(1,8,bs [])]):=hA11
 refine zgv λw12 b12=>⟨(1,5,bs [],()),rfl,zl λw13 hA13 b13 z13=>zl λw14 hI14 b14 z14=>?_⟩
 have hA13:Blk w13 w12.heap.size 136 (flat agV [(1,5,bs [])]):=hA13
 have hI14:Blk w14 w13.heap.size 50 (flat inV [(14,0,0,⟨some (blk w3.heap.size),2,2⟩,()),(19,0,1,⟨none,0,0⟩,()),(33,0,2,⟨some (blk w5.heap.size),1,1⟩,()),(20,0,7,⟨none,0,0⟩,()),(41,7,8,⟨none,0,0⟩,()),(54,1,3,⟨some (blk w8.heap.size),2,2⟩,()),(248,0,4,⟨none,0,0⟩,()),
  (83,7,5,⟨some (blk w10.heap.size),1,1⟩,()),(83,7,6,⟨some (blk w12.heap.size),1,1⟩,()),(253,0,0,⟨none,0,0⟩,()),(56,0,0,⟨none,0,0⟩,())]):=hI14
 refine box3 rfl λw18 hD18 b18 z18=>?_
 have hD18:Blk w18 w14.heap.size 25 (moV (0,10,⟨some (blk w13.heap.size),11,11⟩,())):=hD18
 have s1:=b1.size;have s2:=b2.size;have s3:=b3.size;have s4:=b4.size;have s5:=b5.size;have s6:=b6.size;have s7:=b7.size;have s8:=b8.size;have s9:=b9.size;have s10:=b10.size;have s11:=b11.size;have s12:=b12.size;have s13:=b13.size;have s14:=b14.size
 have hI18:=hI14.below b18
 have b1318:=b14.on b18
 have hE18:=hA13.below b1318
 have b1118:=(b12.on b13).on b1318
 have hC18:=hA11.below b1118
 have b918:=(b10.on b11).on b1118
 have hF18:=hA9.below b918
 have b618:=((b7.on b8).on b9).on b918
 have hB18:=hA6.below b618
 have b418:=(b5.on b6).on b618
 have hA18:=hA4.below b418
 have b018:=((b1.on b2).on (b3.on b4)).on b418
 have mk:∀{w':World} {v:Int},Blk w' w13.heap.size 50 (flat inV [(14,0,0,⟨some (blk w3.heap.size),2,2⟩,()),(19,0,1,⟨none,0,0⟩,()),(33,0,2,⟨some (blk w5.heap.size),1,1⟩,()),(20,0,7,⟨none,0,0⟩,()),(41,7,8,⟨none,0,0⟩,()),(54,1,3,⟨some (blk w8.heap.size),2,2⟩,()),(248,0,4,⟨none,0,0⟩,()),
   (83,7,5,⟨some (blk w10.heap.size),1,1⟩,()),(83,7,6,⟨some (blk w12.heap.size),1,1⟩,()),(253,0,0,⟨none,0,0⟩,()),(56,0,0,⟨none,0,0⟩,())])->Blk w' w3.heap.size 136 (flat agV [(4,0,bs []),(4,0,bs [])])->Blk w' w5.heap.size 136 (flat agV [(1,1,bs [])])->Blk w' w8.heap.size 136 (flat agV [(4,0,bs []),(1,2,bs [])])->
   Blk w' w10.heap.size 136 (flat agV [(1,v,bs [])])->Blk w' w12.heap.size 136 (flat agV [(1,5,bs [])])->v=(if b=true then 6 else 8)->IsPl w' ⟨some (blk w13.heap.size),11,11⟩ (leP b):=λ{w' v} hI h1 h2 h3 h4 h5 hv=>by
  have nl:IsAg w' ⟨none,0,0⟩ []:=⟨rfl,Nat.le_refl _,by decide,λ_=>rfl,λa ha=>(by cases ha)⟩
  refine⟨rfl,Nat.le_refl _,by show 11<=_;omega,λh=>(by cases h),λa ha k hk=>?_⟩
  cases ha
  have cell:∀(k:Nat) (t:Sl) (p:PI),k<11->(∀j,j<4->(flat inV [(14,0,0,⟨some (blk w3.heap.size),2,2⟩,()),(19,0,1,⟨none,0,0⟩,()),(33,0,2,⟨some (blk w5.heap.size),1,1⟩,()),(20,0,7,⟨none,0,0⟩,()),(41,7,8,⟨none,0,0⟩,()),(54,1,3,⟨some (blk w8.heap.size),2,2⟩,()),(248,0,4,⟨none,0,0⟩,()),
    (83,7,5,⟨some (blk w10.heap.size),1,1⟩,()),(83,7,6,⟨some (blk w12.heap.size),1,1⟩,()),(253,0,0,⟨none,0,0⟩,()),(56,0,0,⟨none,0,0⟩,())])[k*4+j]? =(inV (mkIn p t))[j]?)->∀j,j<4->w'.cell? ((blk w13.heap.size).add (k*4+j))=(inV (mkIn p t))[j]?:=λk t p hk11 he j hj=>by
   have hlt:j<(inV (mkIn p t)).length:=hj
   have h:=he j hj
   rw[List.getElem?_eq_getElem hlt]at h⊢
   exact hI.cell h
  have four:∀{P:Nat->Prop},P 0->P 1->P 2->P 3->∀j,j<4->P j:=λ{P} h0 h1 h2 h3 j hj=>by
   have hj4:j=0\/j=1\/j=2\/j=3:=by omega
   rcases hj4 with rfl |rfl |rfl |rfl<;>assumption
  have hk11:k<11:=hk
  have hkc:k=0\/k=1\/k=2\/k=3\/k=4\/k=5\/k=6\/k=7\/k=8\/k=9\/k=10:=by omega
  rcases hkc with rfl |rfl |rfl |rfl |rfl |rfl |rfl |rfl |rfl |rfl |rfl
  ·exact⟨⟨some (blk w3.heap.size),2,2⟩,cell 0 _ _ (by decide) (four rfl rfl rfl rfl),Blk.isC zaD (by omega) h1 (by simp)⟩
  ·exact⟨⟨none,0,0⟩,cell 1 _ _ (by decide) (four rfl rfl rfl rfl),nl⟩
  ·exact⟨⟨some (blk w5.heap.size),1,1⟩,cell 2 _ _ (by decide) (four rfl rfl rfl rfl),Blk.isC zaD (by omega) h2 (by simp)⟩
  ·exact⟨⟨none,0,0⟩,cell 3 _ _ (by decide) (four rfl rfl rfl rfl),nl⟩
  ·exact⟨⟨none,0,0⟩,cell 4 _ _ (by decide) (four rfl rfl rfl rfl),nl⟩
  ·exact⟨⟨some (blk w8.heap.size),2,2⟩,cell 5 _ _ (by decide) (four rfl rfl rfl rfl),Blk.isC zaD (by omega) h3 (by simp)⟩
  ·exact⟨⟨none,0,0⟩,cell 6 _ _ (by decide) (four rfl rfl rfl rfl),nl⟩
  ·subst hv
   exact⟨⟨some (blk w10.heap.size),1,1⟩,cell 7 _ _ (by decide) (four rfl rfl rfl rfl),Blk.isC zaD (by omega) h4 (by simp)⟩
  ·exact⟨⟨some (blk w12.heap.size),1,1⟩,cell 8 _ _ (by decide) (four rfl rfl rfl rfl),Blk.isC zaD (by omega) h5 (by simp)⟩
  ·exact⟨⟨none,0,0⟩,cell 9 _ _ (by decide) (four rfl rfl rfl rfl),nl⟩
  ·exact⟨⟨none,0,0⟩,cell 10 _ _ (by decide) (four rfl rfl rfl rfl),nl⟩
 refine zk.cut (λ(_:Unit) w'=>Below w.heap.size w w'/\Blk w' w14.heap.size 25 (moV (0,10,⟨some (blk w13.heap.size),11,11⟩,()))/\Blk w' w.heap.size 25 (moV (0,0,⟨none,0,0⟩,()))/\∃v,v=(if b=true then 6 else 8)/\Blk w' w13.heap.size 50 (flat inV [(14,0,0,⟨some (blk w3.heap.size),2,2⟩,()),(19,0,1,⟨none,0,0⟩,()),(33,0,2,⟨some (blk w5.heap.size),1,1⟩,()),(20,0,7,⟨none,0,0⟩,()),(41,7,8,⟨none,0,0⟩,()),(54,1,3,⟨some (blk w8.heap.size),2,2⟩,()),(248,0,4,⟨none,0,0⟩,()),
   (83,7,5,⟨some (blk w10.heap.size),1,1⟩,()),(83,7,6,⟨some (blk w12.heap.size),1,1⟩,()),(253,0,0,⟨none,0,0⟩,()),(56,0,0,⟨none,0,0⟩,())])/\Blk w' w3.heap.size 136 (flat agV [(4,0,bs []),(4,0,bs [])])/\Blk w' w5.heap.size 136 (flat agV [(1,1,bs [])])/\Blk w' w8.heap.size 136 (flat agV [(4,0,bs []),(1,2,bs [])])/\Blk w' w10.heap.size 136 (flat agV [(1,v,bs [])])/\Blk w' w12.heap.size 136 (flat agV [(1,5,bs [])])) ?_ ?_
 ·have b118:Below w1.heap.size w1 w18:=(b2.on (b3.on b4)).on b418
  have hM18:=hM1.below b118
  refine zn (λhb=>?_) (λhb=>⟨b018,hD18,hM18,8,by rw[hb];rfl,hI18,hA18,hB18,hF18,hC18,hE18⟩)
  have hI74:=hI18.cell (n:=7*4+3) rfl
  refine hD18.rS (n:=2) (x:=⟨some (blk w13.heap.size),11,11⟩) rfl ⟨⟨by omega,by show(7:Int)<((11:Nat):Int);decide⟩,ze rfl ⟨⟨some (blk w10.heap.size),1,1⟩,by rw[zs];exact hI74,⟨⟨by omega,by show(0:Int)<((1:Nat):Int);decide⟩,ze rfl ?_⟩⟩⟩
  have ea:((blk w10.heap.size).add (0*3)).add 1=(blk w10.heap.size).add 1:=by rw[zs]
  rw[ea]
  refine⟨hC18.wr (n:=1) (by decide),Nw.gen λw19 e19=>?_⟩
  have c19:Chg w10.heap.size w18 w19:=by rw[e19];exact Chg.set _ _ _ _
  have hC19:Blk w19 w10.heap.size 136 (flat agV [(1,6,bs [])]):=by rw[e19];exact hC18.set 1 _
  refine⟨c19.below b018 (by omega),c19.blk hD18 (by omega),c19.blk hM18 (by omega),6,by rw[hb];rfl,c19.blk hI18 (by omega),c19.blk hA18 (by omega),c19.blk hB18 (by omega),c19.blk hF18 (by omega),hC19,c19.blk hE18 (by omega)⟩
 ·rintro _ w20 ⟨b20,hD20,hM20,v,hv,g1,g2,g3,g4,g5,g6⟩
  refine Mo.load hD20 (st3 hM20 rfl λw23 hM23 c23=>?_)
  have hM23:Blk w23 w.heap.size 25 (moV (0,10,⟨some (blk w13.heap.size),11,11⟩,())):=hM23
  refine Mo.load hM23 (hR w23 _ ?_ (c23.below b20 (Nat.le_refl _)))
  exact mk (c23.blk g1 (by omega)) (c23.blk g2 (by omega)) (c23.blk g3 (by omega)) (c23.blk g4 (by omega)) (c23.blk g5 (by omega)) (c23.blk g6 (by omega)) hv
theorem zlG(hR:∀w',Below w.heap.size w w'->R (.bool true) w'):cR 11 #[] w R:=by
 refine zc.of (zbZ R w ?_) λ_ _ h=>h
 refine ziD (b:=false) λw1 s hN1 b1=>⟨(0,10,s,()),rfl,?_⟩
 refine zdT (x:=(0,10,s,())) hN1 (zqy false) (show(0:Int)<=10 by decide) λw2 b2=>⟨((floE (0,10,s,()) (leP false)).1,(floE (0,10,s,()) (leP false)).2,()),rfl,?_⟩
 rw[zoG rfl]
 refine zH rfl (ziD (b:=true) λw3 s3 hN3 b3=>⟨(0,10,s3,()),rfl,?_⟩)
 refine zdT (x:=(0,10,s3,())) hN3 (zqy true) (show(0:Int)<=10 by decide) λw4 b4=>⟨((floE (0,10,s3,()) (leP true)).1,(floE (0,10,s3,()) (leP true)).2,()),rfl,?_⟩
 rw[zoG rfl]
 exact hR w4 ((b1.on b2).on (b3.on b4))
end
end Go.Proofs
namespace Go.Proofs
open Go.Gk Go.RowKit Go.Gm Go.Gr Go.Dm
theorem zqC{x:Mo}{pl:List PI}{fl:List FnL}{n:Nat}{p:Int×Int}(h:flwE x pl fl n=some p):p.1≠0:=by
 unfold flwE at h
 by_cases hg:(gnwE x pl (fx fl n)).1≠0
 ·rw[if_pos hg]at h
  cases h
  exact hg
 ·rw[if_neg hg]at h
  unfold bodE at h
  obtain⟨k,_,h⟩:=List.exists_of_findSome?_eq_some h
  exact zmH h
theorem zqB{x:Mo}{pl:List PI}(h:(floE x pl).1=0):Flo x pl (cutF pl pl.length):=by
 unfold floE at h
 by_cases hc:(yh x.2.1 pl).1≠0
 ·rw[if_pos hc]at h
  exact absurd h hc
 rw[if_neg hc]at h
 refine⟨Classical.not_not.1 hc,rfl,λn hn=>?_⟩
 cases hf:(List.range (cutF pl pl.length).length).findSome? (flwE x pl (cutF pl pl.length)) with
 |none=>exact zhn hf n hn
 |some p=>
  rw[hf]at h
  obtain⟨k,_,hk⟩:=List.exists_of_findSome?_eq_some hf
  exact absurd h (zqC hk)
theorem Flo.flt{x:Mo}{pl:List PI}{fl:List FnL}(h:Flo x pl fl){n k i:Nat}(hn:n<fl.length)(hk:k<(fx fl n).bk.length)(hi:i<pl.length)(h1:(bx (fx fl n).bk k).2.1<=(i:Int))(h2:(i:Int)<(bx (fx fl n).bk k).2.2):fltU pl fl (nxF pl fl n) n k i=0:=by
 have h3:=h.no n hn
 unfold flwE at h3
 split at h3
 ·cases h3
 ·have h4:=zhn (g:=bodK pl fl n) h3 k hk
  have h5:=zhn h4 i hi
  refine Classical.byContradiction λhne=>?_
  rw[if_pos ⟨⟨h1,h2⟩,hne⟩]at h5
  cases h5
theorem Flo.gnw{x:Mo}{pl:List PI}{fl:List FnL}(h:Flo x pl fl){n:Nat}(hn:n<fl.length):(gnwE x pl (fx fl n)).1=0:=by
 have h3:=h.no n hn
 unfold flwE at h3
 split at h3
 ·cases h3
 ·rename_i h4
  exact Classical.not_not.1 h4
section
variable {x:Mo} {pl:List PI} {fl:List FnL} {w:World} {R:VWP} {id:Int}
theorem zlD{s:Sl}{l:List Int}{v:Int}(hs:IsS (Value.int .u32) w s l)(hR:R (.bool (l.contains v)) w):cR 18 #[.slice s.a s.l s.c,.int .u32 v] w R:=by
 refine zc.of (zbn s v R w ?_) λ_ _ h=>h
 have hl:=hs.len
 refine zj.count l.length hs.bound (λk w'=>w=w'/\∀j (h:j<l.length),j<k->l[j]≠v) ⟨rfl,λj _ h=>by omega⟩ ?_
 rintro k _ hk ⟨rfl,hj⟩ next hnext
 refine zg (λg=>?_) (λg=>?_)
 ·have hlt:k<l.length:=by dsimp only at g;omega
  refine zbi hs hlt (zm (λe=>?_) (λe=>hnext _ hlt ⟨rfl,λj h1 h2=>?_⟩))
  ·rw[List.contains_iff_mem.2 (by rw[<-e];exact List.getElem_mem hlt)]at hR
   exact hR
  ·by_cases ej:j=k
   ·subst ej;exact e
   ·exact hj j h1 (by omega)
 ·have:l.contains v=false:=by
   rw[<-Bool.not_eq_true,List.contains_iff_mem]
   intro hm
   obtain⟨j,h1,h2⟩:=List.getElem_of_mem hm
   exact hj j h1 (by dsimp only at g;omega) h2
  rw[this]at hR
  exact hR
end
end Go.Proofs
namespace Go.Proofs
open Go.Gk Go.RowKit Go.Gm Go.Gr
section
variable {x:Mo} {pl:List PI} {w:World} {R:VWP} {v:Fv} {f:FnL}
theorem zqL{bm:Nat}{c0 c1 c2 c3 c4:Addr}(hB:Blk w bm 25 (moV x))(hN:IsPl w x.2.2.1 pl)(hp:PlOk pl)(h0:0<=x.2.1)(hF:IsFn w v f)
  (k0:w.cell? c0=some (.int .u32 v.1)) (k1:w.cell? c1=some (.int .i64 v.2.1)) (k2:w.cell? c2=some (.slice v.2.2.1.a v.2.2.1.l v.2.2.1.c)) (k3:w.cell? c3=some (.slice v.2.2.2.1.a v.2.2.2.1.l v.2.2.2.1.c)) (k4:w.cell? c4=some (.int .i64 v.2.2.2.2.1))
  {M:(Option Addr)×Sl×Addr×Unit->World->Prop}
  (hM:∀w' p ms sb,Below w.heap.size w w'->Blk w' sb 29 [.int .i64 (gnwE x pl f).1,.int .i64 (gnwE x pl f).2]->GP w' p (nxE x pl f)->IsM w' ms (mvE x pl f)->M (p,ms,blk sb,()) w') :
  (cR 8 #[(.agg #[(.int .u32 x.1),(.int .u32 x.2.1),(.slice x.2.2.1.a x.2.2.1.l x.2.2.1.c)])] w λv50 w25=>
  ∃x51:(Int×Int×Sl×Unit),v50=(.agg #[(.int .u32 x51.1),(.int .u32 x51.2.1),(.slice x51.2.2.1.a x51.2.2.1.l x51.2.2.1.c)])/\
  w25.cell? c0=some (.int .u32 v.1)/\
  w25.cell? c1=some (.int .i64 v.2.1)/\
  w25.cell? c2=some (.slice v.2.2.1.a v.2.2.1.l v.2.2.1.c)/\
  w25.cell? c3=some (.slice v.2.2.2.1.a v.2.2.2.1.l v.2.2.2.1.c)/\
  w25.cell? c4=some (.int .i64 v.2.2.2.2.1)/\
  (cR 14 #[(.agg #[(.int .u32 x51.1),(.int .u32 x51.2.1),(.slice x51.2.2.1.a x51.2.2.1.l x51.2.2.1.c)]),(.agg #[(.int .u32 v.1),(.int .i64 v.2.1),(.slice v.2.2.1.a v.2.2.1.l v.2.2.1.c),(.slice v.2.2.2.1.a v.2.2.2.1.l v.2.2.2.1.c),(.int .i64 v.2.2.2.2.1)])] w25 λv52 w26=>
  ∃x53:Option Addr,∃x54:Sl,∃x55:(Int×Int×Unit),v52=(.tuple #[(.pointer x53),(.slice x54.a x54.l x54.c),(.agg #[(.int .i64 x55.1),(.int .i64 x55.2.1)])])/\
  Nw (w26.alloc (.cells #[(.int .i64 (0:Int)),(.int .i64 (0:Int))] 29)) λw27=>
  Wr w27 (blk w26.heap.size)/\
  Nw (w27.setCell (blk w26.heap.size) (.int .i64 x55.1)) λw28=>
  Wr w28 ((blk w26.heap.size).add 1)/\
  Nw (w28.setCell ((blk w26.heap.size).add 1) (.int .i64 x55.2.1)) λw29=>
  M (x53,x54,(blk w26.heap.size),()) w29)/\
  Nw (w25.alloc (.cells #[(.int .i64 (0:Int)),(.int .i64 (0:Int))] 29)) λw30=>
  w30.cell? c0=some (.int .u32 v.1)/\
  w30.cell? c1=some (.int .i64 v.2.1)/\
  w30.cell? c2=some (.slice v.2.2.1.a v.2.2.1.l v.2.2.1.c)/\
  w30.cell? c3=some (.slice v.2.2.2.1.a v.2.2.2.1.l v.2.2.2.1.c)/\
  w30.cell? c4=some (.int .i64 v.2.2.2.2.1)/\
  cR 14 #[(.agg #[(.int .u32 x51.1),(.int .u32 x51.2.1),(.slice x51.2.2.1.a x51.2.2.1.l x51.2.2.1.c)]),(.agg #[(.int .u32 v.1),(.int .i64 v.2.1),(.slice v.2.2.1.a v.2.2.1.l v.2.2.1.c),(.slice v.2.2.2.1.a v.2.2.2.1.l v.2.2.2.1.c),(.int .i64 v.2.2.2.2.1)])] w30 λv56 w31=>
  ∃x57:Option Addr,∃x58:Sl,∃x59:(Int×Int×Unit),v56=(.tuple #[(.pointer x57),(.slice x58.a x58.l x58.c),(.agg #[(.int .i64 x59.1),(.int .i64 x59.2.1)])])/\
  Wr w31 (blk w25.heap.size)/\
  Nw (w31.setCell (blk w25.heap.size) (.int .i64 x59.1)) λw32=>
  Wr w32 ((blk w25.heap.size).add 1)/\
  Nw (w32.setCell ((blk w25.heap.size).add 1) (.int .i64 x59.2.1)) λw33=>
  M (x57,x58,(blk w25.heap.size),()) w33)/\
  Nw (w.alloc (.cells #[(.int .i64 (0:Int)),(.int .i64 (0:Int))] 29)) λw34=>
  w34.cell? c0=some (.int .u32 v.1)/\
  w34.cell? c1=some (.int .i64 v.2.1)/\
  w34.cell? c2=some (.slice v.2.2.1.a v.2.2.1.l v.2.2.1.c)/\
  w34.cell? c3=some (.slice v.2.2.2.1.a v.2.2.2.1.l v.2.2.2.1.c)/\
  w34.cell? c4=some (.int .i64 v.2.2.2.2.1)/\
  w34.cell? ((blk bm).add 0)=some (.int .u32 x.1)/\
  w34.cell? ((blk bm).add 1)=some (.int .u32 x.2.1)/\
  w34.cell? ((blk bm).add 2)=some (.slice x.2.2.1.a x.2.2.1.l x.2.2.1.c)/\
  cR 8 #[(.agg #[(.int .u32 x.1),(.int .u32 x.2.1),(.slice x.2.2.1.a x.2.2.1.l x.2.2.1.c)])] w34 λv60 w35=>
  ∃x61:(Int×Int×Sl×Unit),v60=(.agg #[(.int .u32 x61.1),(.int .u32 x61.2.1),(.slice x61.2.2.1.a x61.2.2.1.l x61.2.2.1.c)])/\
  w35.cell? c0=some (.int .u32 v.1)/\
  w35.cell? c1=some (.int .i64 v.2.1)/\
  w35.cell? c2=some (.slice v.2.2.1.a v.2.2.1.l v.2.2.1.c)/\
  w35.cell? c3=some (.slice v.2.2.2.1.a v.2.2.2.1.l v.2.2.2.1.c)/\
  w35.cell? c4=some (.int .i64 v.2.2.2.2.1)/\
  cR 14 #[(.agg #[(.int .u32 x61.1),(.int .u32 x61.2.1),(.slice x61.2.2.1.a x61.2.2.1.l x61.2.2.1.c)]),(.agg #[(.int .u32 v.1),(.int .i64 v.2.1),(.slice v.2.2.1.a v.2.2.1.l v.2.2.1.c),(.slice v.2.2.2.1.a v.2.2.2.1.l v.2.2.2.1.c),(.int .i64 v.2.2.2.2.1)])] w35 λv62 w36=>
  ∃x63:Option Addr,∃x64:Sl,∃x65:(Int×Int×Unit),v62=(.tuple #[(.pointer x63),(.slice x64.a x64.l x64.c),(.agg #[(.int .i64 x65.1),(.int .i64 x65.2.1)])])/\
  Wr w36 (blk w.heap.size)/\
  Nw (w36.setCell (blk w.heap.size) (.int .i64 x65.1)) λw37=>
  Wr w37 ((blk w.heap.size).add 1)/\
  Nw (w37.setCell ((blk w.heap.size).add 1) (.int .i64 x65.2.1)) λw38=>
  M (x63,x64,(blk w.heap.size),()) w38:=by
 have gn:∀{w'} (ca:Nat) {R':VWP},Below w.heap.size w w'->IsPl w' ⟨some (blk ca),pl.length,pl.length⟩ pl->(∀w'' p ms,Below w'.heap.size w' w''->GP w'' p (nxE x pl f)->IsM w'' ms (mvE x pl f)->R' (.tuple #[.pointer p,.slice ms.a ms.l ms.c,.agg #[.int .i64 (gnwE x pl f).1,.int .i64 (gnwE x pl f).2]]) w'')->
   cR 14 #[moA (x.1,x.2.1,⟨some (blk ca),pl.length,pl.length⟩,()),fvA v] w' R':=λ{w'} ca {R'} hb hC hR'=>by
  refine zo4 (x:=(x.1,x.2.1,⟨some (blk ca),pl.length,pl.length⟩,())) (v:=v) (f:=f) hC hp h0 (hF.below hb) λw'' p ms hb' hG hM=>?_
  exact hR' w'' p ms hb' hG hM
 have kp:∀{w'},Below w.heap.size w w'->w'.cell? c0=some (.int .u32 v.1)/\w'.cell? c1=some (.int .i64 v.2.1)/\w'.cell? c2=some (.slice v.2.2.1.a v.2.2.1.l v.2.2.1.c)/\w'.cell? c3=some (.slice v.2.2.2.1.a v.2.2.2.1.l v.2.2.2.1.c)/\w'.cell? c4=some (.int .i64 v.2.2.2.2.1):=λhb=>
  ⟨z0 hb k0,z0 hb k1,z0 hb k2,z0 hb k3,z0 hb k4⟩
 refine⟨?_,?_⟩
 ·refine yb (x:=x) hN hp λcb w15 _ _ hC15 b15=>⟨(x.1,x.2.1,⟨some (blk cb),pl.length,pl.length⟩,()),rfl,?_⟩
  obtain⟨g0,g1,g2,g3,g4⟩:=kp b15
  refine⟨g0,g1,g2,g3,g4,?_,?_⟩
  ·refine gn cb b15 hC15 λw16 p ms b16 hG hM'=>⟨p,ms,((gnwE x pl f).1,(gnwE x pl f).2,()),rfl,?_⟩
   refine box2 rfl λw19 hS19 b19 z19=>hM w19 p ms w16.heap.size ((b15.on b16).on b19) hS19 (hG.below b19) (IsC.below zhW hM' b19)
  ·refine zl λw20 hD20 b20 z20=>?_
   have hD20:Blk w20 w15.heap.size 29 [.int .i64 0,.int .i64 0]:=hD20
   have b1420:=b15.on b20
   obtain⟨g0,g1,g2,g3,g4⟩:=kp b1420
   refine⟨g0,g1,g2,g3,g4,?_⟩
   refine gn cb b1420 (hC15.below b20) λw21 p ms b21 hG hM'=>⟨p,ms,((gnwE x pl f).1,(gnwE x pl f).2,()),rfl,?_⟩
   have hD21:=hD20.below b21
   refine st2 hD21 rfl λw23 hS23 c23=>?_
   obtain⟨q1,q2⟩:=zlq c23 hD21 hS23 hG hM'
   exact hM w23 p ms w15.heap.size (c23.below (b1420.on b21) b15.size) hS23 q1 q2
 ·refine zl λw24 hD24 b24 z24=>?_
  have hD24:Blk w24 w.heap.size 29 [.int .i64 0,.int .i64 0]:=hD24
  have hB24:=hB.below b24
  obtain⟨g0,g1,g2,g3,g4⟩:=kp b24
  refine⟨g0,g1,g2,g3,g4,hB24.cell (n:=0) rfl,hB24.cell (n:=1) rfl,hB24.cell (n:=2) rfl,?_⟩
  refine yb (x:=x) (hN.below b24) hp λcb w25 _ _ hC25 b25=>⟨(x.1,x.2.1,⟨some (blk cb),pl.length,pl.length⟩,()),rfl,?_⟩
  have b1425:=b24.on b25
  obtain⟨g0,g1,g2,g3,g4⟩:=kp b1425
  refine⟨g0,g1,g2,g3,g4,?_⟩
  refine gn cb b1425 hC25 λw26 p ms b26' hG hM'=>⟨p,ms,((gnwE x pl f).1,(gnwE x pl f).2,()),rfl,?_⟩
  have hD26:=(hD24.below b25).below b26'
  refine st2 hD26 rfl λw28 hS28 c28=>?_
  obtain⟨q1,q2⟩:=zlq c28 hD26 hS28 hG hM'
  exact hM w28 p ms w.heap.size (c28.below (b1425.on b26') (Nat.le_refl _)) hS28 q1 q2
theorem zpP{fs:Sl}{L:List Fe}(h:Fns w fs L){k:Nat}(hk:k<L.length){φ:Addr->Int->Int->Sl->Sl->Int->Prop}
  (hφ:∀a,(∀j u,j<5->(feV L[k])[j]? =some u->w.cell? ((a.add (Int.toNat (k:Int)*5)).add j)=some u)->φ a L[k].1.id L[k].1.at_ L[k].2.1 L[k].2.2 L[k].1.en) :
  (0<=(k:Int)/\(k:Int)<(fs.l:Int))/\za fs.a λa=>ldI w ((a.add (Int.toNat (k:Int)*5)).add 0) .u32 λx1=>ldI w ((a.add (Int.toNat (k:Int)*5)).add 1) .i64 λx2=>ldS w ((a.add (Int.toNat (k:Int)*5)).add 2) λx3=>ldS w ((a.add (Int.toNat (k:Int)*5)).add 3) λx4=>ldI w ((a.add (Int.toNat (k:Int)*5)).add 4) .i64 λx5=>φ a x1 x2 x3 x4 x5:=by
 have hc:IsC 5 feV w fs L:=Own.isC zcL (by omega) h.own
 obtain⟨a,ha⟩:=hc.base hk
 have hcell:∀j u,j<5->(feV L[k])[j]? =some u->w.cell? ((a.add (Int.toNat (k:Int)*5)).add j)=some u:=λj u hj hu=>by rw[zs];exact(hc.cell a ha k hk j hj).trans hu
 exact⟨⟨by omega,by have:=h.len;omega⟩,ze ha ⟨_,hcell 0 _ (by omega) rfl,_,hcell 1 _ (by omega) rfl,_,hcell 2 _ (by omega) rfl,_,hcell 3 _ (by omega) rfl,_,hcell 4 _ (by omega) rfl,hφ a hcell⟩⟩
end
end Go.Proofs
namespace Go.Proofs
open Go.Gk Go.RowKit Go.Gm Go.Gr Go.Dm
section
variable {x:Mo} {pl:List PI} {fl:List FnL} {w:World} {R:VWP} {q:Int} {s:Sl} {T:List Int}
theorem zov{fs:Sl}{L:List Fe}(h:Fns w fs L){k:Nat}(hk:k<L.length){φ:Sl->Prop}(hφ:φ L[k].2.1):(0<=(k:Int)/\(k:Int)<(fs.l:Int))/\za fs.a λa=>ldS w ((a.add (Int.toNat (k:Int)*5)).add 2) φ:=by
 have hc:IsC 5 feV w fs L:=Own.isC zcL (by omega) h.own
 obtain⟨a,ha⟩:=hc.base hk
 exact⟨⟨by omega,by have:=h.len;omega⟩,ze ha ⟨L[k].2.1,by rw[zs];exact hc.cell a ha k hk 2 (by omega),hφ⟩⟩
end
end Go.Proofs
namespace Go.Proofs
open Go.Gk Go.RowKit Go.Gm Go.Gr Go.Dm
noncomputable def livN(pl:List PI)(fl:List FnL)(n k j:Nat):List Int:=((List.range j).map λ(i:Nat)=>((i+1:Nat):Int)).filter λid=>ownP pl fl n id&&wanB pl fl n id k
noncomputable abbrev livL(bd:Int)(pl:List PI)(fl:List FnL)(n k:Nat):List Int:=livN pl fl n k (bd-1).toNat
theorem zoM(pl:List PI)(fl:List FnL)(n k j:Nat):(livN pl fl n k j).length<=j:=by
 unfold livN
 have:=List.length_filter_le (λid=>ownP pl fl n id&&wanB pl fl n id k) ((List.range j).map λ(i:Nat)=>((i+1:Nat):Int))
 rwa[List.length_map,List.length_range]at this
noncomputable def YF(x:Mo)(pl:List PI)(fl:List FnL)(label:Int):List Int×Int×Int:=if (floE x pl).1≠0 then([],floE x pl) else
 match (List.range fl.length).find? λn=>(lbO (fx fl n).bk label).isSome with
 |some n=>(livL x.2.1 pl fl n (lbN (fx fl n).bk label),0,0)
 |none=>([],3,0)
section
variable {x:Mo} {pl:List PI} {fl:List FnL} {w:World} {R:VWP} {label:Int}
theorem zoP(h:(floE x pl).1≠0):YF x pl fl label=([],floE x pl):=by unfold YF;rw[if_pos h]
theorem zmT(h:(floE x pl).1=0){n k:Nat}(hn:n<fl.length)(hk:lbO (fx fl n).bk label=some k)(hj:∀j,j<n->(lbO (fx fl j).bk label).isSome=false):YF x pl fl label=(livL x.2.1 pl fl n k,0,0):=by
 unfold YF
 rw[if_neg (λq=>q h),zbt (n:=fl.length) (p:=λn=>(lbO (fx fl n).bk label).isSome) hn (by rw[hk];rfl) hj]
 show(livL x.2.1 pl fl n (lbN (fx fl n).bk label),(0:Int),(0:Int))=_
 unfold lbN
 rw[hk]
 rfl
theorem zqe(h:(floE x pl).1=0)(hj:∀j,j<fl.length->(lbO (fx fl j).bk label).isSome=false):YF x pl fl label=([],3,0):=by
 unfold YF
 rw[if_neg (λq=>q h),ziP (n:=fl.length) (p:=λn=>(lbO (fx fl n).bk label).isSome) hj]
end
end Go.Proofs
namespace Go.Proofs
open Go.Gk Go.RowKit Go.Gm Go.Gr Go.Dm
theorem zml:(match frm 248 with |some f=>!f.ty&&decide (f.fixed.length=0)&&decide (f.rest.length=0) |none=>false)=true:=by decide +kernel
theorem zn1{bd:Int}{pl:List PI}(hs:(zK bd pl).1=0){k:Nat}(hk:k<pl.length)(h:(ix pl k).1=248):zN pl k=[]:=by
 have hf:=(zam hs).2 k hk
 obtain⟨f,hf,h1,_,_,h4,_⟩:=ze1 hf
 rw[Zm hk]at h
 have h2:=zml
 rw[h]at hf
 rw[hf]at h2
 have h2:(!f.ty&&decide (f.fixed.length=0)&&decide (f.rest.length=0))=true:=h2
 rw[Bool.and_eq_true,Bool.and_eq_true,decide_eq_true_eq,decide_eq_true_eq]at h2
 have e1:pl[k].2.1=0:=by
  have hty:f.ty=false:=by simpa using h2.1.1
  rw[hty]at h1
  unfold idP at h1
  by_cases hz:pl[k].2.1=0
  ·exact hz
  ·rw[if_neg (by simp[hz])]at h1
   cases h1
 have e2:pl[k].2.2.2=[]:=by
  unfold YO at h4
  split at h4
  ·cases h4
  ·rw[if_pos h2.2]at h4
   simp only[beq_iff_eq]at h4
   have:=h2.1.2
   exact List.length_eq_zero_iff.1 (by omega)
 unfold zN idsP idsN
 rw[Zm hk,e1,e2]
 rfl
def frN(fl:List FnL)(n k:Nat):Nat:=(bx (fx fl n).bk k).2.1.toNat
def toN(fl:List FnL)(n k:Nat):Nat:=(bx (fx fl n).bk k).2.2.toNat
def rawI(pl:List PI)(fl:List FnL)(n k i:Nat):List (Nat×Int):=if (ix pl i).1≠245 then(zN pl i).map λid=>(k,id)
 else(List.range ((ix pl i).2.2.2.length / 2)).map λj=>(lbN (fx fl n).bk ((ix pl i).2.2.2.getD (2*j+1) ag0).2.1,((ix pl i).2.2.2.getD (2*j) ag0).2.1)
def ownF(pl:List PI)(fl:List FnL)(n:Nat)(l:List (Nat×Int)):List (Nat×Int):=l.filter λp=>ownP pl fl n p.2
def mkK(pl:List PI)(fl:List FnL)(n k t:Nat):List (Nat×Int):=(List.range t).flatMap λj=>ownF pl fl n (rawI pl fl n k (frN fl n k+1+j))
def mkT(pl:List PI)(fl:List FnL)(n k:Nat):List (Nat×Int):=(List.range k).flatMap λk'=>mkK pl fl n k' (toN fl n k'-(frN fl n k'+1))
def mdK(pl:List PI)(fl:List FnL)(n k t:Nat):List (Nat×Int):=(List.range t).map λj=>(k,(ix pl (frN fl n k+1+j)).2.2.1)
def mdT(pl:List PI)(fl:List FnL)(n k:Nat):List (Nat×Int):=(List.range k).flatMap λk'=>mdK pl fl n k' (toN fl n k'-(frN fl n k'+1))
theorem zpd(pl:List PI)(fl:List FnL)(n k t:Nat):mkK pl fl n k (t+1)=mkK pl fl n k t++ownF pl fl n (rawI pl fl n k (frN fl n k+1+t)):=by
 unfold mkK;rw[List.range_succ,List.flatMap_append,List.flatMap_cons,List.flatMap_nil,List.append_nil]
theorem zpf(pl:List PI)(fl:List FnL)(n k:Nat):mkT pl fl n (k+1)=mkT pl fl n k++mkK pl fl n k (toN fl n k-(frN fl n k+1)):=by
 unfold mkT;rw[List.range_succ,List.flatMap_append,List.flatMap_cons,List.flatMap_nil,List.append_nil]
theorem zoZ(pl:List PI)(fl:List FnL)(n k t:Nat):mdK pl fl n k (t+1)=mdK pl fl n k t++[(k,(ix pl (frN fl n k+1+t)).2.2.1)]:=by
 unfold mdK;rw[List.range_succ,List.map_append,List.map_cons,List.map_nil]
theorem zpb(pl:List PI)(fl:List FnL)(n k:Nat):mdT pl fl n (k+1)=mdT pl fl n k++mdK pl fl n k (toN fl n k-(frN fl n k+1)):=by
 unfold mdT;rw[List.range_succ,List.flatMap_append,List.flatMap_cons,List.flatMap_nil,List.append_nil]
theorem zpe{pl:List PI}{fl:List FnL}{n k m:Nat}{id:Int}:(k,id)∈mkT pl fl n m↔ownP pl fl n id=true/\∃k',k'<m/\∃i,frN fl n k'<i/\i<toN fl n k'/\(k,id)∈rawI pl fl n k' i:=by
 unfold mkT mkK ownF
 simp only[List.mem_flatMap,List.mem_range,List.mem_filter]
 constructor
 ·rintro⟨k',h1,j,h2,h3,h4⟩
  exact⟨h4,k',h1,frN fl n k'+1+j,by omega,by omega,h3⟩
 ·rintro⟨h4,k',h1,i,h2,h3,h5⟩
  exact⟨k',h1,i-(frN fl n k'+1),by omega,by rw[show frN fl n k'+1+(i-(frN fl n k'+1))=i by omega];exact h5,h4⟩
theorem zpa{pl:List PI}{fl:List FnL}{n k m:Nat}{id:Int}:(k,id)∈mdT pl fl n m↔k<m/\∃i,frN fl n k<i/\i<toN fl n k/\(ix pl i).2.2.1=id:=by
 unfold mdT mdK
 simp only[List.mem_flatMap,List.mem_range,List.mem_map,Prod.mk.injEq]
 constructor
 ·rintro⟨k',h1,j,h2,rfl,h4⟩
  exact⟨h1,frN fl n k'+1+j,by omega,by omega,h4⟩
 ·rintro⟨h1,i,h2,h3,h5⟩
  exact⟨k,h1,i-(frN fl n k+1),by omega,rfl,by rw[show frN fl n k+1+(i-(frN fl n k+1))=i by omega];exact h5⟩
section
variable {x:Mo} {pl:List PI} {fl:List FnL} {n k i:Nat} {id:Int}
theorem Fls.fr_to(F:Fls pl fl)(hn:n<fl.length)(hk:k<(fx fl n).bk.length):(bx (fx fl n).bk k).2.1=(frN fl n k:Int)/\(bx (fx fl n).bk k).2.2=(toN fl n k:Int)/\frN fl n k+2<=toN fl n k/\toN fl n k<pl.length/\(ix pl (frN fl n k)).1=248:=by
 obtain⟨f,t,h1,h2,h3,h4,_⟩:=F.bl hn hk
 unfold frN toN
 rw[h1]
 exact⟨rfl,rfl,h2,h3,h4⟩
theorem zmW(F:Fls pl fl)(hF:Flo x pl fl)(hn:n<fl.length)(hk:k<(fx fl n).bk.length)(h1:frN fl n k<=i)(h2:i<toN fl n k)(hop:(ix pl i).1=245){j:Nat}(hj:2*j+1<(ix pl i).2.2.2.length) :
  ∃p,p<(fx fl n).bk.length/\lbO (fx fl n).bk ((ix pl i).2.2.2.getD (2*j+1) ag0).2.1=some p/\(bx (fx fl n).bk p).1=((ix pl i).2.2.2.getD (2*j+1) ag0).2.1:=by
 obtain⟨e1,e2,_,e4,_⟩:=F.fr_to hn hk
 have hf:=hF.flt hn hk (i:=i) (by omega) (by omega) (by omega)
 rw[zkj]at hf
 have hsc:¬zcW pl fl n i≠0:=λg=>by rw[if_pos g]at hf;exact g hf
 rw[if_neg hsc]at hf
 have hph:phiU pl fl (nxF pl fl n) n k i=0:=by
  refine Classical.byContradiction λg=>?_
  rw[if_pos g]at hf
  exact g hf
 unfold phiU at hph
 rw[if_neg (λg=>g hop)]at hph
 have hperm:(zd5 (fx fl n).bk (nxF pl fl n) k).Perm (parN (ix pl i).2.2.2 (ix pl i).2.2.2.length):=by
  refine Classical.byContradiction λg=>?_
  rw[if_pos g]at hph
  cases hph
 have hq:((ix pl i).2.2.2.getD (2*j+1) ag0).2.1∈parN (ix pl i).2.2.2 (ix pl i).2.2.2.length:=by
  have hl:=zbq (ix pl i).2.2.2 (ix pl i).2.2.2.length
  have hg:=zg8 (ix pl i).2.2.2 (ix pl i).2.2.2.length j (by omega)
  rw[zt (by omega)]at hg
  rw[<-hg]
  exact List.getElem_mem _
 have hnl:=zhY pl fl n
 exact zmn (nx:=nxF pl fl n) (by omega) hnl (F.lab _ (YJ hn)) (hperm.mem_iff.2 hq)
theorem zqi(F:Fls pl fl)(hF:Flo x pl fl)(hs:(zK x.2.1 pl).1=0)(hn:n<fl.length)(hk:k<(fx fl n).bk.length):(k,id)∈mkT pl fl n (fx fl n).bk.length↔ownP pl fl n id=true/\usB pl fl n id k=true:=by
 rw[zpe,znb]
 refine and_congr_right λ_=>?_
 obtain⟨A,E,q1,q2,q3,q4,q5,_,T⟩:=F.tl hn
 obtain⟨d1,d2,d3,d4,d5⟩:=F.fr_to hn hk
 constructor
 ·rintro⟨k',hk',i,h1,h2,h3⟩
  obtain⟨e1,e2,e3,e4,e5⟩:=F.fr_to hn hk'
  unfold rawI at h3
  by_cases hop:(ix pl i).1≠245
  ·rw[if_pos hop]at h3
   obtain⟨y,hy,h3⟩:=List.mem_map.1 h3
   simp only[Prod.mk.injEq]at h3
   obtain⟨rfl,rfl⟩:=h3
   refine .inl ⟨i,by omega,?_⟩
   unfold usN
   rw[decide_eq_true (by omega),bne_iff_ne.2 hop,List.contains_iff_mem.2 hy]
   rfl
  ·rw[if_neg hop]at h3
   have hop:(ix pl i).1=245:=Classical.not_not.1 hop
   obtain⟨j,hj,h3⟩:=List.mem_map.1 h3
   simp only[Prod.mk.injEq]at h3
   obtain⟨h3,h4⟩:=h3
   have hj:=List.mem_range.1 hj
   obtain⟨p,hp1,hp2,hp3⟩:=zmW F hF hn hk' (by omega) h2 hop (j:=j) (by omega)
   have hpk:p=k:=by
    unfold lbN at h3
    rw[hp2]at h3
    exact h3
   subst hpk
   have hbk:=T.bks _ (zgO hk')
   refine .inr ⟨i,by omega,?_⟩
   unfold usP
   rw[decide_eq_true (by omega),hop,List.any_eq_true.2 ⟨j,List.mem_range.2 hj,by unfold usQ;rw[h4,hp3];simp⟩]
   rfl
 ·rintro(⟨i,hi,h⟩ | ⟨i,hi,h⟩)
  ·unfold usN at h
   rw[Bool.and_eq_true,Bool.and_eq_true,decide_eq_true_eq,bne_iff_ne,List.contains_iff_mem]at h
   obtain⟨⟨h1,h2⟩,h3,h4⟩:=h
   refine⟨k,hk,i,?_,by omega,?_⟩
   ·by_cases e:i=frN fl n k
    ·subst e
     rw[zn1 hs (by omega) d5]at h4
     cases h4
    ·omega
   ·unfold rawI
    rw[if_pos h3]
    exact List.mem_map.2 ⟨id,h4,rfl⟩
  ·unfold usP at h
   rw[Bool.and_eq_true,Bool.and_eq_true,decide_eq_true_eq,beq_iff_eq,List.any_eq_true]at h
   obtain⟨⟨h1,h2⟩,hop,j,hj,h4⟩:=h
   have hj:=List.mem_range.1 hj
   unfold usQ at h4
   rw[Bool.and_eq_true,beq_iff_eq,beq_iff_eq]at h4
   have hiA:i≠A:=λe=>by subst e;rw[q5]at hop;cases hop
   rcases T.all i (by omega) (by omega) with hp | ⟨b,hb,g1,g2⟩
   ·obtain⟨m,g1,_,_,g4⟩:=T.par _ hp
    have:m=i:=by omega
    subst this
    rw[g4]at hop;cases hop
   ·obtain⟨k',hk',rfl⟩:=List.getElem_of_mem hb
    have hbx:bx (fx fl n).bk k'=(fx fl n).bk[k']:=zt hk'
    rw[<-hbx]at g1 g2
    obtain⟨e1,e2,e3,e4,e5⟩:=F.fr_to hn hk'
    have hne:i≠frN fl n k':=λe=>by subst e;rw[e5]at hop;cases hop
    refine⟨k',hk',i,by omega,by omega,?_⟩
    unfold rawI
    rw[if_neg (λg=>g hop)]
    refine List.mem_map.2 ⟨j,List.mem_range.2 hj,?_⟩
    simp only[Prod.mk.injEq]
    refine⟨?_,h4.1⟩
    unfold lbN
    rw[h4.2,zhi (F.lab _ (YJ hn)) hk]
    rfl
theorem zqh(F:Fls pl fl)(hn:n<fl.length)(hk:k<(fx fl n).bk.length)(ho:ownP pl fl n id=true):(k,id)∈mdT pl fl n (fx fl n).bk.length↔mkB pl fl n id k=true:=by
 rw[zpa]
 obtain⟨hh,hh1,hh2,hh3⟩:=zcB ho
 obtain⟨m,i,e1,e2,e3,e4,e5,e6,e7,e8,e9⟩:=F.home_inv hh1
 have hmn:m=n:=by omega
 subst hmn
 obtain⟨h3,h4⟩:=zj4 hh1 e1
 obtain⟨d1,d2,d3,d4,d5⟩:=F.fr_to hn hk
 unfold mkB
 rw[beq_iff_eq,<-h3]
 constructor
 ·rintro⟨_,i',g1,g2,g3⟩
  have:=F.homeI hn hk (i:=i') (by omega) (by omega) (by rw[g3];exact e6)
  rw[g3,hh1]at this
  cases this
  rfl
 ·intro hq
  refine⟨hk,i,?_⟩
  rcases e9 with⟨g1,_,_⟩ | ⟨b,hb,g1,g2,g3,g4⟩
  ·omega
  ·have hbk:b=k:=by omega
   subst hbk
   have hne:i≠frN fl m b:=λe=>by
    subst e
    rw[g4,d5]at hh3
    cases hh3
   exact⟨by omega,by omega,e5⟩
end
end Go.Proofs
namespace Go.Proofs
open Go.Gk Go.RowKit Go.Gm
variable {P:Program} {α S:Type}
theorem zm4{t kt et:TypeId}(ht:P.underlying t=some (.map kt et)){f:α->Value}{w:World}{bm:Nat}{L:List (Int×α)}(hM:IsMq w bm f L){body:S->Int->Value->World->(S->World->Prop)->Prop}{fin:S->World->Prop}{s0:S}
  (I:List Int->S->World->Prop) (hst:∀d s w1 w2,w.heap.size<w1.heap.size->I d s w1->Fr w1.heap.size (λi=>i=w.heap.size) w1 w2->I d s w2)
  (h0:∀w1,Below w.heap.size w w1->w1.heap.size=w.heap.size+1->I [] s0 w1)
  (hb:∀d s w1 k v,w.heap.size<w1.heap.size->w1.heap[bm]? =w.heap[bm]?->I d s w1->k∈L.map (·.1)->k ∉ d->∀next:S->World->Prop,(∀s' w2,I (k::d) s' w2->Fr w1.heap.size (λi=>i≠bm/\i≠w.heap.size) w1 w2->next s' w2)->body s k v w1 next)
  (hf:∀d s w1,I d s w1->(∀k∈L.map (·.1),k∈d)->fin s w1) :
  rngW P t (.map (some bm)) w λw4=>zj (S:=S) (λs w5 n=>nxtM P (.pointer (some (blk w.heap.size))) 0 w5 (λ_ _ w6=>entW P (.pointer (some (blk w.heap.size))) (BK.int .u32) BK.raw w6 λ(k:Int) (v:Value)=>body s k v w6 n) (λw7=>fin s w7)) s0 w4:=by
 have hlt:=hM.lt
 obtain⟨⟨es,clock,hes,hmap,hstamp,hnd⟩,hkd⟩:=hM
 refine⟨_,run_range_map (P:=P) w t kt et bm es clock ht hes,?_⟩
 have hI8:(w.alloc (.mapIter (some bm) clock #[] clock)).heap[w.heap.size]? =some (.mapIter (some bm) clock #[] clock):=by
  show(w.heap.push _)[w.heap.size]? =_
  simp
 have b8:Below w.heap.size w (w.alloc (.mapIter (some bm) clock #[] clock)):=(Below.refl _ _).alloc (Nat.le_refl _) _
 have z8:(w.alloc (.mapIter (some bm) clock #[] clock)).heap.size=w.heap.size+1:=by
  show(w.heap.push _).size=_
  simp
 generalize (w.alloc (.mapIter (some bm) clock #[] clock))=w8 at hI8 b8 z8
 have entry:∀e∈es.toList,∃k:Int,e.key =.int .u32 k/\k∈L.map (·.1):=by
  intro e he
  have:(e.key,e.val)∈L.map λp=>(Value.int .u32 p.1,f p.2):=by rw[<-hmap];exact List.mem_map.2 ⟨e,he,rfl⟩
  obtain⟨p,hp1,hp2⟩:=List.mem_map.1 this
  simp only[Prod.mk.injEq]at hp2
  exact⟨p.1,hp2.1.symm,List.mem_map.2 ⟨p,hp1,rfl⟩⟩
 have pair:∀{k:Int},k∈L.map (·.1)->∃e∈es.toList,e.key =.int .u32 k:=by
  intro k hk
  obtain⟨p,hp,rfl⟩:=List.mem_map.1 hk
  have:(Value.int .u32 p.1,f p.2)∈es.toList.map λe=>(e.key,e.val):=by rw[hmap];exact List.mem_map.2 ⟨_,hp,rfl⟩
  obtain⟨e,he,hp2⟩:=List.mem_map.1 this
  simp only[Prod.mk.injEq]at hp2
  exact⟨e,he,hp2.1⟩
 have uniq:∀e1∈es.toList,∀e2∈es.toList,e1.key=e2.key->e1=e2:=by
  have hkn:(es.toList.map (·.key)).Nodup:=by
   have h1:es.toList.map (·.key)=(L.map (·.1)).map (Value.int .u32):=by
    have:=congrArg (List.map Prod.fst) hmap
    rw[List.map_map,List.map_map]at this
    rw[List.map_map]
    exact this
   rw[h1]
   refine List.pairwise_map.2 (hkd.imp λ{a b} h e=>h ?_)
   simp only[Value.int.injEq,true_and]at e
   exact e
  intro e1 h1 e2 h2 hk
  obtain⟨i1,hi1,w1'⟩:=List.mem_iff_getElem.1 h1
  obtain⟨i2,hi2,w2'⟩:=List.mem_iff_getElem.1 h2
  have hi1':i1<(es.toList.map (·.key)).length:=by simpa using hi1
  have hi2':i2<(es.toList.map (·.key)).length:=by simpa using hi2
  have hbb:(es.toList.map (·.key))[i1]=(es.toList.map (·.key))[i2]:=by
   rw[List.getElem_map,List.getElem_map,w1',w2'];exact hk
  have:=(List.getElem_inj hkn).1 hbb
  subst this
  rw[<-w1',<-w2']
 refine zj.ghost (λj (s:S) w'=>∃(seen:Array Nat) (d:List Int),j=(leftOf es seen).size/\w'.heap[w.heap.size]? =some (.mapIter (some bm) clock seen clock)/\w'.heap[bm]? =w.heap[bm]?/\I d s w'/\(∀e∈es.toList,seen.contains e.born=true->∀k:Int,e.key =.int .u32 k->k∈d)/\(∀k∈d,∃e∈es.toList,seen.contains e.born=true/\e.key =.int .u32 k)) (leftOf es #[]).size
  ⟨#[],[],rfl,hI8,b8.block _ hlt,h0 w8 b8 z8,λe _ h=>by simp at h,λk hk=>by cases hk⟩ ?_
 rintro _ s w9 ⟨seen,d,rfl,hI,hM,hJ,hsn,hds⟩ next hnext
 have hlt9:w.heap.size<w9.heap.size:=(Array.getElem?_eq_some_iff.1 hI).1
 rcases run_next_at (P:=P) w9 0 w.heap.size bm clock clock seen es clock hI (hM.trans hes) hstamp (Nat.le_refl _) with⟨hz,hrun⟩ | ⟨e,he,w10,hw10,hrun⟩
 ·refine .inr ⟨w9,hrun,hf d s w9 hJ λk hk=>?_⟩
  obtain⟨e,he,hek⟩:=pair hk
  exact hsn e he (all_seen es seen hz e he) k hek
 ·obtain⟨he1,he2⟩:=mem_left he
  obtain⟨k,q1,q3⟩:=entry e he1
  refine .inl ⟨e.key,e.val,_,hrun,?_⟩
  have hc:Chg w.heap.size w9 (ChangeMaps.setBlock w10 w.heap.size (.mapIter (some bm) clock (seen.push e.born) clock)):=by
   rcases hw10 with rfl |rfl
   ·exact zgF _ _ _
   ·exact(Chg.refl _ _).drew.trans (zgF _ _ _)
  have hI11:(ChangeMaps.setBlock w10 w.heap.size (.mapIter (some bm) clock (seen.push e.born) clock)).heap[w.heap.size]? =some (.mapIter (some bm) clock (seen.push e.born) clock):=by
   have:w.heap.size<w10.heap.size:=by rcases hw10 with rfl |rfl<;>exact hlt9
   simp[ChangeMaps.setBlock,this]
  generalize (ChangeMaps.setBlock w10 w.heap.size (.mapIter (some bm) clock (seen.push e.born) clock))=w11 at hc hI11
  have hM11:w11.heap[bm]? =w.heap[bm]?:=(hc.block bm (by omega)).trans hM
  have hrunE:=run_entry_at (P:=P) w11 w.heap.size bm clock seen es clock e hI11 (hM11.trans hes) he1 hnd
  rw[q1]at hrunE
  have hs11:=hc.size
  refine⟨k,e.val,hrunE,hb d s w11 k e.val (by omega) hM11 (hst d s w9 w11 hlt9 hJ hc.fr) q3 (λhkd'=>by
   obtain⟨e',g1,g2,g3⟩:=hds k hkd'
   rw[uniq e' g1 e he1 (g3.trans q1.symm),he2]at g2
   cases g2) next λs' w2 hI2 hfr=>?_⟩
  refine hnext _ s' w2 (left_shrinks es seen e he) ⟨seen.push e.born,k::d,rfl,(hfr.block _ (by omega) (λh=>h.2 rfl)).trans hI11,(hfr.block _ (by omega) (λh=>h.1 rfl)).trans hM11,hI2,λe2 he2' hs2 k2 g1=>?_,λk2 hk2=>?_⟩
  rotate_left
  ·rcases List.mem_cons.1 hk2 with rfl |hk2
   ·exact⟨e,he1,by rw[Array.contains_push];simp,q1⟩
   ·obtain⟨e',g1,g2,g3⟩:=hds k2 hk2
    exact⟨e',g1,by rw[Array.contains_push,g2];rfl,g3⟩
  rw[Array.contains_push]at hs2
  rcases(Bool.or_eq_true_iff.1 hs2).symm with h |h
  ·have hbe:e2.born=e.born:=by simpa using h
   have:e2=e:=by
    obtain⟨i1,hi1,w1'⟩:=List.mem_iff_getElem.1 he2'
    obtain⟨i2,hi2,w2'⟩:=List.mem_iff_getElem.1 he1
    have hi1':i1<(es.toList.map (·.born)).length:=by simpa using hi1
    have hi2':i2<(es.toList.map (·.born)).length:=by simpa using hi2
    have hbb:(es.toList.map (·.born))[i1]=(es.toList.map (·.born))[i2]:=by
     rw[List.getElem_map,List.getElem_map,w1',w2'];exact hbe
    have:=(List.getElem_inj hnd).1 hbb
    subst this
    rw[<-w1',<-w2']
   subst this
   rw[q1]at g1
   simp only[Value.int.injEq,true_and]at g1
   rw[<-g1]
   exact List.mem_cons_self
  ·exact List.mem_cons_of_mem _ (hsn e2 he2' h k2 g1)
end Go.Proofs
namespace Go.Proofs
open Go.Gk Go.RowKit Go.Gm Go.Gr Go.Dm
def Kc(w w':World):Prop:=∀b T cs,Blk w b T cs->Blk w' b T cs
theorem Kc.refl(w:World):Kc w w:=λ_ _ _ h=>h
theorem Kc.trans{a b c:World}(h:Kc a b)(k:Kc b c):Kc a c:=λx T cs q=>k x T cs (h x T cs q)
theorem Kc.of_below{w w':World}(h:Below w.heap.size w w'):Kc w w':=λ_ _ _ q=>q.below h
theorem Kc.own{w w':World}(h:Kc w w'){T:TypeId}{sz:Nat}{s:Sl}{xs:List Value}(hO:Own w T sz s xs):Own w' T sz s xs:=hO.of_block λa ha=>by
 obtain⟨cs,hc⟩:=hO.type ha
 have h1:w.heap[a.block]? =_:=hc
 have h2:w'.heap[a.block]? =_:=h _ _ _ hc
 rw[h1,h2]
theorem Kc.of_chg{α:Type}{f:α->Value}{L:List (Int×α)}{w w':World}{r:Nat}(hM:IsMq w r f L)(c:Chg r w w'):Kc w w':=λb T cs hB=>c.blk hB (λe=>hM.notBlk hB e.symm)
abbrev mpV(b:Nat):Value:=.map (some b)
structure MpsL (w:World) (s:Sl) (bs:List Nat) (ML:List (Nat×Int)):Prop where
 own:Own w 88 1 s (bs.map mpV)
 mp:∀k (h:k<bs.length),∃L,IsMq w bs[k] (Value.int .i64) L/\∀id,zP L id=if (k,id)∈ML then some 1 else none
theorem eMap:YR Tryz.prog 89 88 1 8:=⟨by kernel_rfl,Tryz.t88,.map none,by kernel_rfl,rfl,rfl,rfl,rfl⟩
section
variable {w w' w0:World} {s:Sl} {bs:List Nat} {ML:List (Nat×Int)} {k:Nat} {id:Int}
theorem MpsL.len(h:MpsL w s bs ML):s.l=bs.length:=by have:=h.own.1;rw[List.length_map]at this;omega
theorem MpsL.fr{X:Nat->Prop}(h:MpsL w s bs ML)(hf:Fr w.heap.size X w w')(hb:∀b∈bs,¬X b)(hs:∀b,s.a=some (blk b)->¬X b):MpsL w' s bs ML:=
 ⟨hf.own h.own hs,λk hk=>by
  obtain⟨L,h1,h2⟩:=h.mp k hk
  exact⟨L,h1.of_block (hf.block _ h1.lt (hb _ (List.getElem_mem hk))),h2⟩⟩
theorem MpsL.on(h:MpsL w s bs ML)(hb:Below w.heap.size w w'):MpsL w' s bs ML:=h.fr (X:=λ_=>False) (Fr.of_below hb) (λ_ _=>id) (λ_ _=>id)
theorem MpsL.lt(h:MpsL w s bs ML){b:Nat}(hb:b∈bs):b<w.heap.size:=by
 obtain⟨k,hk,rfl⟩:=List.getElem_of_mem hb
 obtain⟨L,h1,_⟩:=h.mp k hk
 exact h1.lt
theorem MpsL.notBlk(h:MpsL w s bs ML){b c:Nat}(hb:b∈bs){T:TypeId}{cs:List Value}(hB:Blk w c T cs):b≠c:=by
 obtain⟨k,hk,rfl⟩:=List.getElem_of_mem hb
 obtain⟨L,h1,_⟩:=h.mp k hk
 exact h1.notBlk hB
theorem MpsL.notOwn(h:MpsL w s bs ML){b:Nat}(hb:b∈bs){T:TypeId}{sz:Nat}{t:Sl}{xs:List Value}(hO:Own w T sz t xs):t.a≠some (blk b):=λe=>by
 obtain⟨cs,hc⟩:=hO.type e
 exact h.notBlk hb hc rfl
theorem MpsL.kc(h:MpsL w s bs ML){b:Nat}(hb:b∈bs)(c:Chg b w w'):Kc w w':=by
 obtain⟨k,hk,rfl⟩:=List.getElem_of_mem hb
 obtain⟨L,h1,_⟩:=h.mp k hk
 exact Kc.of_chg h1 c
theorem MpsL.addr(h:MpsL w s bs ML)(hk:k<bs.length){φ:Option Nat->Prop}(hφ:φ (some bs[k])) :
  (0<=(k:Int)/\(k:Int)<(s.l:Int))/\za s.a λa=>ldM w (a.add (Int.toNat (k:Int))) φ:=by
 have hl:=h.len
 exact h.own.isS.addr hk λ_ _ hc=>⟨some bs[k],hc,hφ⟩
theorem MpsL.chg(h:MpsL w s bs ML)(hnd:bs.Nodup)(hk:k<bs.length)(c:Chg bs[k] w w'){L:List (Int×Int)}{ML':List (Nat×Int)}(hL:IsMq w' bs[k] (Value.int .i64) L)(h1:∀id,zP L id=if (k,id)∈ML' then some 1 else none)
  (h2:∀j id,j≠k->((j,id)∈ML'↔(j,id)∈ML)):MpsL w' s bs ML':=by
 refine⟨(h.kc (List.getElem_mem hk) c).own h.own,λj hj=>?_⟩
 by_cases e:j=k
 ·subst e
  exact⟨L,hL,h1⟩
 ·obtain⟨L2,g1,g2⟩:=h.mp j hj
  refine⟨L2,g1.of_block (c.block _ λq=>e ((List.getElem_inj hnd).1 q)),λid=>?_⟩
  rw[g2 id]
  simp only[h2 j id e]
theorem MpsL.put(h:MpsL w s bs ML)(hnd:bs.Nodup)(hk:k<bs.length){K:World->Prop}(hK:∀w',MpsL w' s bs (ML++[(k,id)])->Chg bs[k] w w'->K w'):updW Tryz.prog 88 (.map (some bs[k])) (.int .u32 id) (.int .i64 1) w K:=by
 obtain⟨L,g1,g2⟩:=h.mp k hk
 refine zib zgG uU32 g1 (v:=(1:Int)) rfl λw' hL c=>hK w' (h.chg hnd hk c hL (λid'=>?_) λj id' e=>?_) c
 ·rw[ze5,g2 id']
  by_cases e:id'=id
  ·subst e
   rw[if_pos rfl,if_pos (List.mem_append_right _ (List.mem_singleton.2 rfl))]
  ·rw[if_neg e]
   simp[e]
 ·simp[e]
theorem MpsL.del(h:MpsL w s bs ML)(hnd:bs.Nodup)(hk:k<bs.length){K:World->Prop}(hK:∀w',MpsL w' s bs (ML.filter λp=>decide (p≠(k,id)))->Chg bs[k] w w'->K w'){ts:Array TypeId}(hts:ts[0]? =some 88):delS Tryz.prog ts (.map (some bs[k])) (.int .u32 id) w K:=by
 obtain⟨L,g1,g2⟩:=h.mp k hk
 refine zpN zgG uU32 g1 (λw' hL c=>hK w' (h.chg hnd hk c hL (λid'=>?_) λj id' e=>?_) c) hts
 ·rw[zjB _ _ g1.nd,g2 id']
  by_cases e:id'=id
  ·subst e
   rw[if_pos rfl,if_neg (by simp)]
  ·rw[if_neg e]
   simp[e]
 ·simp[e]
theorem MpsL.look(h:MpsL w s bs ML)(hk:k<bs.length){φ:Int->Prop}(hφ:φ (if (k,id)∈ML then 1 else 0)):ziE Tryz.prog 88 (.map (some bs[k])) (.int .u32 id) (BK.int .i64) w φ:=by
 obtain⟨L,g1,g2⟩:=h.mp k hk
 refine zn7 zgG uU32 zInt g1 ?_
 rw[g2 id]
 split
 ·rename_i e;rw[if_pos e]at hφ;exact hφ
 ·rename_i e;rw[if_neg e]at hφ;exact hφ
theorem zmE{t:Sl}{cs:List Nat}{VL:List (Nat×Int)}(h:MpsL w s bs [])(hb:Below w0.heap.size w0 w)(hF:zA w0.heap.size s)(hl:bs.length<=17592186044000)(h2:MpsL w t cs VL)(hap:∀b,s.a=some (blk b)->t.a≠some (blk b)){K:Sl->World->Prop}
  (hK:∀r w',MpsL w' r (bs++[w.heap.size]) []->zA w0.heap.size r->Below w0.heap.size w0 w'->MpsL w' t cs VL->(∀b,r.a=some (blk b)->t.a≠some (blk b))->w.heap.size<w'.heap.size->(∀b T xs,T≠88->Blk w b T xs->Blk w' b T xs)->K r w') :
  Nw (w.alloc (.map #[] 0)) λw4=>Nw (w4.alloc (.cells #[.map (some w.heap.size)] 88)) λw5=>zC Tryz.prog 89 (.slice s.a s.l s.c) (.slice (some (blk w4.heap.size)) 1 1) w5 K:=by
 refine Nw.gen λw4 hw4=>?_
 have b4:Below w.heap.size w w4:=by rw[hw4];exact(Below.refl _ _).alloc (Nat.le_refl _) _
 have m4:IsMq w4 w.heap.size (Value.int .i64) ([]:List (Int×Int)):=by rw[hw4];exact IsMq.new w _
 clear hw4
 refine zl λw5 h5 b5 z5=>?_
 have h5:Blk w5 w4.heap.size 88 [mpV w.heap.size]:=h5
 have b45:=b4.on b5
 have h5s:=h.on b45
 have h5t:=h2.on b45
 have m5:=m4.below b5
 have hsl:=h.len
 have hm5:=m4.lt
 have z5':=b5.size
 refine zeA eMap h5s.own (vs:=[mpV w.heap.size]) rfl (λu hu=>by rw[List.mem_singleton.1 hu];rfl) h5 (by omega) (by omega) λr w' b' g1 _ g3 g4 hf=>?_
 have hx:∀k,s.a=some (blk k)->w0.heap.size<=k:=λk h=>hF _ h
 have hs:=hb.size
 have hz:=hf.size
 have hns:∀b T xs,T≠88->Blk w5 b T xs->s.a≠some (blk b):=λb T xs hT hB=>YN h5s.own hB (Ne.symm hT)
 have hsl':∀b,s.a=some (blk b)->b<w.heap.size:=λb e=>(h.own.lt e).2
 have m':IsMq w' w.heap.size (Value.int .i64) ([]:List (Int×Int)):=m5.of_block (hf.block _ (by omega) λe=>by have:=hsl' _ e;omega)
 refine hK r w' ⟨by rw[List.map_append];exact g1,λk hk=>?_⟩ (λa ha=>?_) (zcx (hb.on b45) hf hx) (h5t.fr hf (λb hb' e=>h5t.notOwn hb' h5s.own e) λb e1 e2=>hap b e2 e1) (λb e1 e2=>?_) (by omega) (λb T xs hT hB=>(hB.below b45).of_block (hf.block _ (hB.below b45).lt (hns _ _ _ hT (hB.below b45))))
 ·by_cases e:k<bs.length
  ·obtain⟨L,q1,q2⟩:=h5s.mp k e
   rw[List.getElem_append_left e]
   exact⟨L,q1.of_block (hf.block _ q1.lt (h5s.notOwn (List.getElem_mem e) h5s.own)),q2⟩
  ·have hke:k=bs.length:=by rw[List.length_append]at hk;simp only[List.length_cons,List.length_nil]at hk;omega
   subst hke
   rw[List.getElem_append_right (Nat.le_refl _)]
   simp only[Nat.sub_self,List.getElem_cons_zero]
   exact⟨[],m',λid=>by simp[zP]⟩
 ·rw[g3]at ha
  cases ha
  rcases g4 with g4 |g4
  ·exact hx _ g4
  ·show w0.heap.size<=b';omega
 ·rw[g3]at e1
  have e1:b'=b:=by cases e1;rfl
  subst e1
  rcases g4 with g4 |g4
  ·exact hap _ g4 e2
  ·have:b'<w.heap.size:=(h2.own.lt e2).2
   omega
end
end Go.Proofs
namespace Go.Proofs
open Go.Gk Go.RowKit Go.Gm Go.Gr Go.Dm
structure Us2 (w0 w:World) (u m:Sl) (bs cs:List Nat) (ML VL:List (Nat×Int)):Prop where
 below:Below w0.heap.size w0 w
 mu:MpsL w u bs ML
 mm:MpsL w m cs VL
 nd:(bs++cs).Nodup
 ge:∀b∈bs++cs,w0.heap.size<=b
 fu:zA w0.heap.size u
 fm:zA w0.heap.size m
theorem znE{bs cs:List Nat}{a b:Nat}(h:(bs++cs).Nodup)(hlt:∀x∈bs++cs,x<a)(hab:a<b):(bs++[a]++(cs++[b])).Nodup:=by
 have hl1:∀x∈bs,x<a:=λx hx=>hlt x (List.mem_append_left _ hx)
 have hl2:∀x∈cs,x<a:=λx hx=>hlt x (List.mem_append_right _ hx)
 rw[List.nodup_append]at h
 obtain⟨h1,h2,h3⟩:=h
 rw[List.nodup_append,List.nodup_append,List.nodup_append]
 refine⟨⟨h1,by simp,λx hx y hy=>?_⟩,⟨h2,by simp,λx hx y hy=>?_⟩,λx hx y hy=>?_⟩
 ·have:=hl1 x hx;rw[List.mem_singleton]at hy;omega
 ·have:=hl2 x hx;rw[List.mem_singleton]at hy;omega
 ·rcases List.mem_append.1 hx with hx |hx<;>rcases List.mem_append.1 hy with hy |hy
  ·exact h3 x hx y hy
  ·have:=hl1 x hx;rw[List.mem_singleton]at hy;omega
  ·have:=hl2 y hy;rw[List.mem_singleton]at hx;omega
  ·rw[List.mem_singleton]at hx hy;omega
theorem zai{bs cs:List Nat}(h:(bs++cs).Nodup):bs.Nodup/\cs.Nodup/\∀a∈bs,∀b∈cs,a≠b:=List.nodup_append.1 h
section
variable {x:Mo} {pl:List PI} {fl:List FnL} {n bb:Nat} {w w' w0:World} {u m:Sl} {bs cs:List Nat} {ML VL:List (Nat×Int)} {k:Nat} {id:Int} {R:VWP}
theorem Us2.on(h:Us2 w0 w u m bs cs ML VL)(hb:Below w.heap.size w w'):Us2 w0 w' u m bs cs ML VL:=⟨h.below.on hb,h.mu.on hb,h.mm.on hb,h.nd,h.ge,h.fu,h.fm⟩
theorem MpsL.other(h:MpsL w m cs VL){r:Nat}(c:Chg r w w')(hk:Kc w w')(hr:r ∉ cs):MpsL w' m cs VL:=⟨hk.own h.own,λk hk=>by
 obtain⟨L,h1,h2⟩:=h.mp k hk
 exact⟨L,h1.of_block (c.block _ λe=>hr (e▸List.getElem_mem hk)),h2⟩⟩
theorem Us2.putU(h:Us2 w0 w u m bs cs ML VL)(hk:k<bs.length){K:World->Prop}(hK:∀w',Us2 w0 w' u m bs cs (ML++[(k,id)]) VL->Kc w w'->K w'):updW Tryz.prog 88 (.map (some bs[k])) (.int .u32 id) (.int .i64 1) w K:=by
 obtain⟨n1,n2,n3⟩:=zai h.nd
 have hm:=List.getElem_mem hk
 refine h.mu.put n1 hk λw' h1 c=>?_
 have kc:=h.mu.kc hm c
 exact hK w' ⟨c.below h.below (h.ge _ (List.mem_append_left _ hm)),h1,h.mm.other c kc λq=>n3 _ hm _ q rfl,h.nd,h.ge,h.fu,h.fm⟩ kc
theorem Us2.putM(h:Us2 w0 w u m bs cs ML VL)(hk:k<cs.length){K:World->Prop}(hK:∀w',Us2 w0 w' u m bs cs ML (VL++[(k,id)])->Kc w w'->K w'):updW Tryz.prog 88 (.map (some cs[k])) (.int .u32 id) (.int .i64 1) w K:=by
 obtain⟨n1,n2,n3⟩:=zai h.nd
 have hm:=List.getElem_mem hk
 refine h.mm.put n2 hk λw' h1 c=>?_
 have kc:=h.mm.kc hm c
 exact hK w' ⟨c.below h.below (h.ge _ (List.mem_append_right _ hm)),h.mu.other c kc λq=>n3 _ q _ hm rfl,h1,h.nd,h.ge,h.fu,h.fm⟩ kc
theorem zjD{c0 c1:Nat}{T0 T1:TypeId}(hbd:IsBd w0 bb x pl fl n)(h:Us2 w0 w u m bs cs ML VL)(hC0:Blk w c0 T0 [.pointer (some (Gk.blk bb))])(hC1:Blk w c1 T1 [.slice u.a u.l u.c])(hk:k<bs.length)
  (hR:∀w',Us2 w0 w' u m bs cs (ML++ownF pl fl n [(k,id)]) VL->Kc w w'->R (.tuple #[]) w'):cR 100 #[.int .i64 (k:Int),.int .u32 id,.pointer (some (Gk.blk c0)),.pointer (some (Gk.blk c1))] w R:=by
 refine zc.of (zcM (k:Int) id (Gk.blk c0) (Gk.blk c1) R w ?_) λ_ _ h=>h
 refine⟨some (Gk.blk bb),hC0.cell0 rfl,zlx (hbd.below h.below) λw1 b1=>⟨(hmO pl fl id).getD hm0,ownP pl fl n id,rfl,?_⟩⟩
 refine box4 rfl λw6 h6 b6 z6=>?_
 have b16:=b1.on b6
 have h6':=h.on b16
 refine zn (λho=>?_) (λho=>?_)
 ·refine⟨u,(hC1.below b16).cell0 rfl,h6'.mu.addr hk (h6'.putU hk λw7 h7 kc=>hR w7 ?_ ((Kc.of_below b16).trans kc))⟩
  unfold ownF
  rw[List.filter_cons,if_pos (by exact ho),List.filter_nil]
  exact h7
 ·refine hR w6 ?_ (Kc.of_below b16)
  unfold ownF
  rw[List.filter_cons,if_neg (by rw[ho];decide),List.filter_nil,List.append_nil]
  exact h6'
theorem zpo(l l':List (Nat×Int)):ownF pl fl n (l++l')=ownF pl fl n l++ownF pl fl n l':=List.filter_append ..
theorem zpQ{w0 w:World}{s:Sl}{pl:List PI}(h:IsPl w0 s pl)(hb:Below w0.heap.size w0 w){F j M:Nat}(hk:F+j<pl.length)(hj:j<M){φ:Int->Int->Int->Sl->Prop}(hφ:∀t,IsAg w0 t pl[F+j].2.2.2->φ pl[F+j].1 pl[F+j].2.1 pl[F+j].2.2.1 t) :
  (0<=(j:Int)/\(j:Int)<((M:Nat):Int))/\za (if s.c=F then s.a else Option.map (λa=>a.add (F*4)) s.a) λa=>ldI w ((a.add (Int.toNat (j:Int)*4)).add 0) .u16 λx=>ldI w ((a.add (Int.toNat (j:Int)*4)).add 1) .u32 λy=>ldI w ((a.add (Int.toNat (j:Int)*4)).add 2) .u32 λz=>ldS w ((a.add (Int.toNat (j:Int)*4)).add 3) λt=>φ x y z t:=by
 obtain⟨⟨_,_⟩,hd⟩:=zpR h hb hk hφ
 obtain⟨a,ha⟩:=h.base hk
 have hl:=h.len
 have hc:=h.cap
 refine⟨⟨by omega,by omega⟩,?_⟩
 rw[if_neg (by omega),ha]
 rw[ha]at hd
 have e:∀c,((a.add (F*4)).add (Int.toNat (j:Int)*4)).add c=(a.add (Int.toNat ((F+j:Nat):Int)*4)).add c:=λc=>by
  rw[Int.toNat_natCast,Int.toNat_natCast,zs,zs,zs,Nat.add_mul,Nat.add_assoc]
 change ldI w (((a.add (F*4)).add (Int.toNat (j:Int)*4)).add 0) .u16 λx=>ldI w (((a.add (F*4)).add (Int.toNat (j:Int)*4)).add 1) .u32 λy=>ldI w (((a.add (F*4)).add (Int.toNat (j:Int)*4)).add 2) .u32 λz=>ldS w (((a.add (F*4)).add (Int.toNat (j:Int)*4)).add 3) λt=>φ x y z t
 rw[e 0,e 1,e 2,e 3]
 exact hd
set_option maxHeartbeats 4000000 in
theorem znT(F:Fls pl fl)(hF:Flo x pl fl)(hp:PlOk pl)(hn:n<fl.length)(h:IsBd w bb x pl fl n)
  (hR:∀w' u m bs cs,Us2 w w' u m bs cs (mkT pl fl n (fx fl n).bk.length) (mdT pl fl n (fx fl n).bk.length)->bs.length=(fx fl n).bk.length->cs.length=(fx fl n).bk.length->R (.tuple #[.slice u.a u.l u.c,.slice m.a m.l m.c]) w') :
  cR 62 #[.pointer (some (Gk.blk bb))] w R:=by
 refine zc.of (zdZ _ R w ?_) λ_ _ h=>h
 obtain⟨v,hr,gb,tb,M,ov,dp,hB,hN,hFn,hM,hl,hG,hD⟩:=h.ex
 refine zl λw1 hA1 b1 z1=>?_
 have hA1:Blk w1 w.heap.size 76 [.pointer (some (Gk.blk bb))]:=hA1
 refine zl λw2 hU2 b2 z2=>?_
 have hU2:Blk w2 w1.heap.size 89 [.slice none 0 0]:=hU2
 have hb2:=b1.on b2
 have hA2:=hA1.below b2
 refine⟨some (Gk.blk bb),hA2.cell0 rfl,ze rfl (zcw (hB.below hb2) ?_)⟩
 have hlen:=hp.len
 have hbk:=hFn.bk
 have hbkl:=hbk.len
 have hKl:(fx fl n).bk.length<=pl.length:=by
  have:=(zkL pl pl.length).2 (fx fl n) (by rw[<-F.cut];exact YJ hn)
  exact this.2
 have s1:=b1.size
 refine zj.countSl (fx fl n).bk.length (by omega) (λk r w'=>∃u bs cs,Us2 w w' u r bs cs [] []/\bs.length=k/\cs.length=k/\Blk w' w.heap.size 76 [.pointer (some (Gk.blk bb))]/\Blk w' w1.heap.size 89 [.slice u.a u.l u.c]/\(∀b,u.a=some (Gk.blk b)->r.a≠some (Gk.blk b)))
  ⟨⟨none,0,0⟩,[],[],⟨hb2,⟨Own.nil _ _ _,λk h=>(by cases h)⟩,⟨Own.nil _ _ _,λk h=>(by cases h)⟩,by simp,by simp,λa ha=>(by cases ha),λa ha=>(by cases ha)⟩,rfl,rfl,hA2,hU2,λb e=>(by cases e)⟩ ?_
 rintro k r w3 hk ⟨u,bs,cs,h3,hbl,hcl,hA3,hU3,hap⟩ next hnext
 refine zg (λg=>?_) (λg=>?_)
 ·have hkl:k<(fx fl n).bk.length:=by dsimp only at g;omega
  refine⟨u,hU3.cell0 rfl,?_⟩
  refine zmE h3.mu h3.below h3.fu (by omega) h3.mm hap λu' w6 q1 q2 q3 q4 q5 q6 q7=>?_
  have hU6:=q7 _ _ _ (by decide) hU3
  have hA6:=q7 _ _ _ (by decide) hA3
  refine⟨hU6.wr0 (by simp),Nw.gen λw7 hw7=>?_⟩
  have c7:Chg w1.heap.size w6 w7:=by rw[hw7];exact Chg.set _ 0 _ _
  have hU7:Blk w7 w1.heap.size 89 [.slice u'.a u'.l u'.c]:=by rw[hw7];exact hU6.set0 _
  clear hw7
  have hA7:=c7.blk hA6 (by omega)
  have hU7s:MpsL w7 u' (bs++[w3.heap.size]) []:=q1.fr (c7.fr (B:=w6.heap.size)) (λb hb e=>q1.notBlk hb hU6 e) λb e e2=>by
   subst e2
   exact YN q1.own hU6 (by decide) e
  have hM7:MpsL w7 r cs []:=q4.fr (c7.fr (B:=w6.heap.size)) (λb hb e=>q4.notBlk hb hU6 e) λb e e2=>by
   subst e2
   exact YN q4.own hU6 (by decide) e
  have hb7:=c7.below q3 (by omega)
  have z7:=c7.size
  refine zmE hM7 hb7 h3.fm (by omega) hU7s (λb e1 e2=>q5 b e2 e1) λr' w10 p1 p2 p3 p4 p5 p6 p7=>?_
  have hge:=h3.ge
  have hz3:=h3.below.size
  refine hnext r' w10 hkl ⟨u',bs++[w3.heap.size],cs++[w7.heap.size],⟨p3,p4,p1,znE h3.nd (λy hy=>?_) (by omega),λb hb=>?_,q2,p2⟩,by rw[List.length_append,hbl];rfl,by rw[List.length_append,hcl];rfl,p7 _ _ _ (by decide) hA7,p7 _ _ _ (by decide) hU7,λb e1 e2=>p5 b e2 e1⟩
  ·rcases List.mem_append.1 hy with hy |hy
   ·exact h3.mu.lt hy
   ·exact h3.mm.lt hy
  ·rcases List.mem_append.1 hb with hb |hb<;>rcases List.mem_append.1 hb with hb |hb
   ·exact hge b (List.mem_append_left _ hb)
   ·rw[List.mem_singleton.1 hb];omega
   ·exact hge b (List.mem_append_right _ hb)
   ·rw[List.mem_singleton.1 hb];omega
 have hke:k=(fx fl n).bk.length:=by dsimp only at g;omega
 clear hnext next
 refine⟨some (Gk.blk bb),hA3.cell0 rfl,ze rfl (zcw (hB.below h3.below) ?_)⟩
 refine zj.count (fx fl n).bk.length (by omega) (λk w'=>Us2 w w' u r bs cs (mkT pl fl n k) (mdT pl fl n k)/\Blk w' w.heap.size 76 [.pointer (some (Gk.blk bb))]/\Blk w' w1.heap.size 89 [.slice u.a u.l u.c]) ⟨h3,hA3,hU3⟩ ?_
 subst hke
 clear h3 hA3 hU3 g hk
 rintro k w11 hk ⟨h11,hA11,hU11⟩ next hnext
 have hb11:=h11.below
 refine zg (λg=>?_) (λg=>?_)
 rotate_left
 ·have hke:k=(fx fl n).bk.length:=by dsimp only at g;omega
  subst hke
  refine⟨u,hU11.cell0 rfl,hU11.wr0 (by simp),Nw.gen λw12 hw12=>?_⟩
  have c12:Chg w1.heap.size w11 w12:=by rw[hw12];exact Chg.set _ 0 _ _
  have hU12:Blk w12 w1.heap.size 89 [.slice u.a u.l u.c]:=by rw[hw12];exact hU11.set0 _
  clear hw12
  have f12:=c12.fr (B:=w11.heap.size)
  refine⟨u,hU12.cell0 rfl,hR w12 u r bs cs ⟨c12.below hb11 (by omega),h11.mu.fr f12 (λb hb e=>h11.mu.notBlk hb hU11 e) (λb e e2=>?_),h11.mm.fr f12 (λb hb e=>h11.mm.notBlk hb hU11 e) (λb e e2=>?_),h11.nd,h11.ge,h11.fu,h11.fm⟩ hbl hcl⟩
  ·subst e2;exact YN h11.mu.own hU11 (by decide) e
  ·subst e2;exact YN h11.mm.own hU11 (by decide) e
 have hkl:k<(fx fl n).bk.length:=by dsimp only at g;omega
 obtain⟨d1,d2,d3,d4,d5⟩:=F.fr_to hn hkl
 have hbx:bx (fx fl n).bk k=(fx fl n).bk[k]:=zt hkl
 rw[hbx]at d1 d2
 refine zgT (IsC.below yU hbk hb11) hkl (box3 rfl λw15 hX15 b15 z15=>?_)
 rw[d1,d2]at hX15
 have hX15:Blk w15 w11.heap.size 42 [.int .u32 (fx fl n).bk[k].1,.int .i64 (frN fl n k:Int),.int .i64 (toN fl n k:Int)]:=hX15
 have hA15:=hA11.below b15
 have h15:=h11.on b15.drew
 refine⟨some (Gk.blk bb),hA15.drew.cell0 rfl,ze rfl ((hB.below h15.below).rS (n:=2) (x:=x.2.2.1) rfl (hX15.drew.rI (n:=1) (x:=(frN fl n k:Int)) rfl (hX15.drew.rI (n:=2) (x:=(toN fl n k:Int)) rfl ?_)))⟩
 rw[zr (by omega)]
 have hNl:=hN.len
 have hNc:=hN.cap
 refine⟨⟨by omega,by omega,by omega⟩,?_⟩
 rw[Int.toNat_natCast,Int.toNat_natCast]
 refine zj.count (toN fl n k-(frN fl n k+1)) (by omega) (λt w'=>Us2 w w' u r bs cs (mkT pl fl n k++mkK pl fl n k t) (mdT pl fl n k++mdK pl fl n k t)/\Blk w' w.heap.size 76 [.pointer (some (Gk.blk bb))]/\Blk w' w1.heap.size 89 [.slice u.a u.l u.c])
  ⟨by simpa[mkK,mdK] using h15,hA15.drew,(hU11.below b15).drew⟩ ?_
 rintro t w16 ht ⟨h16,hA16,hU16⟩ next2 hnext2
 refine zg (λg2=>?_) (λg2=>?_)
 rotate_left
 ·have hte:t=toN fl n k-(frN fl n k+1):=by dsimp only at g2;omega
  subst hte
  refine hnext w16 hkl ⟨?_,hA16,hU16⟩
  rw[zpf,zpb]
  exact h16
 have htl:t<toN fl n k-(frN fl n k+1):=by dsimp only at g2;omega
 have hil:frN fl n k+1+t<pl.length:=by omega
 have hix:=Zm hil
 refine zk.cut (λ(_:Unit) w'=>Us2 w w' u r bs cs (mkT pl fl n k++mkK pl fl n k (t+1)) (mdT pl fl n k++mdK pl fl n k (t+1))/\Blk w' w.heap.size 76 [.pointer (some (Gk.blk bb))]/\Blk w' w1.heap.size 89 [.slice u.a u.l u.c]) ?_ λ_ w' h'=>hnext2 w' htl h'
 rw[zpd,zoZ,<-List.append_assoc,<-List.append_assoc]
 have hb16:=h16.below
 refine zpQ hN hb16 hil htl λtl hI=>box4 rfl λw21 hI21 b21 z21=>?_
 have hI21:Blk w21 w16.heap.size 50 (inV (mkIn pl[frN fl n k+1+t] tl)):=hI21
 have b21d:=b21.drew
 have h21:=h16.on b21d
 have hI21d:=hI21.drew
 generalize hi:frN fl n k+1+t=i at *
 refine h21.mm.addr (by omega) (hI21d.rI (n:=2) (x:=pl[i].2.2.1) rfl (h21.putM (by omega) λw22 h22 kc=>?_))
 have k22:=(Kc.of_below b21d).trans kc
 have hI22:=kc _ _ _ hI21d
 have hA22:=k22 _ _ _ hA16
 have hU22:=k22 _ _ _ hU16
 rw[show pl[i].2.2.1=(ix pl i).2.2.1 by rw[hix]]at h22
 have hag:=hI.below h22.below
 have hVL:∀{w':World} {ML':List (Nat×Int)},Us2 w w' u r bs cs ML' (mdT pl fl n k++mdK pl fl n k t++[(k,(ix pl i).2.2.1)])->Us2 w w' u r bs cs ML' (mdT pl fl n k++mdK pl fl n k t++[(k,(ix pl i).2.2.1)]):=λh=>h
 have htl':=hag.len
 have hal:=hp.at hil
 have has:(ix pl i).2.2.2=pl[i].2.2.2:=by rw[hix]
 have step:∀{q:Nat} (hq:q<(rawI pl fl n k i).length) {w':World} {VL':List (Nat×Int)},Us2 w w' u r bs cs (mkT pl fl n k++mkK pl fl n k t++ownF pl fl n ((rawI pl fl n k i).take q)++ownF pl fl n [(rawI pl fl n k i)[q]]) VL'->Us2 w w' u r bs cs (mkT pl fl n k++mkK pl fl n k t++ownF pl fl n ((rawI pl fl n k i).take (q+1))) VL':=λ{q} hq {w' VL'} h'=>by
  rw[List.take_succ_eq_append_getElem hq,zpo,<-List.append_assoc]
  exact h'
 refine hI22.rI0 rfl (zE (λhne=>?_) (λhe=>?_))
 ·have hne:(ix pl i).1≠245:=by rw[hix];exact hne
  have hraw:rawI pl fl n k i=(zN pl i).map λid=>(k,id):=by unfold rawI;rw[if_pos hne]
  refine Ins.load (x:=mkIn pl[i] tl) hI22 (zfG (x:=mkIn pl[i] tl) hag hal λs w23 hr23 _ b23=>⟨s,rfl,?_⟩)
  have hids:idsP pl[i].2.1 pl[i].2.2.2=zN pl i:=by unfold zN;rw[hix]
  have hr23:Own w23 22 1 s ((zN pl i).map (Value.int .u32)):=by rw[<-hids];exact hr23
  have hSl:=hr23.isS.len
  have hrl:(rawI pl fl n k i).length=(zN pl i).length:=by rw[hraw,List.length_map]
  refine zj.count (zN pl i).length hr23.isS.bound (λq w'=>Us2 w w' u r bs cs (mkT pl fl n k++mkK pl fl n k t++ownF pl fl n ((rawI pl fl n k i).take q)) (mdT pl fl n k++mdK pl fl n k t++[(k,(ix pl i).2.2.1)])/\Kc w23 w')
   ⟨by simpa[ownF] using h22.on b23,Kc.refl _⟩ ?_
  rintro q w24 hq ⟨h24,k24⟩ next3 hnext3
  have hA24:=k24 _ _ _ (hA22.below b23)
  have hU24:=k24 _ _ _ (hU22.below b23)
  refine zg (λg3=>?_) (λg3=>?_)
  ·have hql:q<(zN pl i).length:=by dsimp only at g3;omega
   refine zbi (k24.own hr23).isS hql (zjD h h24 hA24 hU24 (by omega) λw25 h25 k25=>⟨rfl,hnext3 w25 hql ⟨step (by omega) ?_,k24.trans k25⟩⟩)
   have e:(rawI pl fl n k i)[q]'(by omega)=(k,(zN pl i)[q]):=by simp only[hraw,List.getElem_map]
   rw[e]
   exact h25
  ·have hqe:q=(rawI pl fl n k i).length:=by dsimp only at g3;omega
   rw[hqe,List.take_length]at h24
   exact⟨h24,hA24,hU24⟩
 ·have he:(ix pl i).1=245:=by rw[hix];exact he
  have hev:=F.phi i hil he
  have hraw:rawI pl fl n k i=(List.range ((ix pl i).2.2.2.length / 2)).map λj=>(lbN (fx fl n).bk ((ix pl i).2.2.2.getD (2*j+1) ag0).2.1,((ix pl i).2.2.2.getD (2*j) ag0).2.1):=by unfold rawI;rw[if_neg (λg=>g he)]
  have hrl:(rawI pl fl n k i).length=(ix pl i).2.2.2.length / 2:=by rw[hraw,List.length_map,List.length_range]
  refine Ins.load (x:=mkIn pl[i] tl) hI22 (zet (x:=mkIn pl[i] tl) hag hal λs1 s2 w26 hv26 hp26 _ _ b26=>⟨s1,s2,rfl,?_⟩)
  rw[<-has]at hv26 hp26
  have hvl:=zer (ix pl i).2.2.2 (ix pl i).2.2.2.length
  have hpl:=zbq (ix pl i).2.2.2 (ix pl i).2.2.2.length
  have hSl:=hv26.isS.len
  refine zj.count ((ix pl i).2.2.2.length / 2) (by rw[has];omega) (λq w'=>Us2 w w' u r bs cs (mkT pl fl n k++mkK pl fl n k t++ownF pl fl n ((rawI pl fl n k i).take q)) (mdT pl fl n k++mdK pl fl n k t++[(k,(ix pl i).2.2.1)])/\Kc w26 w')
   ⟨by simpa[ownF] using h22.on b26,Kc.refl _⟩ ?_
  rintro q w27 hq ⟨h27,k27⟩ next3 hnext3
  have hA27:=k27 _ _ _ (hA22.below b26)
  have hU27:=k27 _ _ _ (hU22.below b26)
  refine zg (λg3=>?_) (λg3=>?_)
  ·have hql:q<(ix pl i).2.2.2.length / 2:=by dsimp only at g3;omega
   have h27d:=h27.on ((Below.refl _ _).drew)
   obtain⟨p,hp1,hp2,hp3⟩:=zmW F hF hn hkl (i:=i) (by omega) (by omega) he (j:=q) (by omega)
   refine zbi (k27.own hv26).isS (by omega) ⟨some (Gk.blk bb),hA27.drew.cell0 rfl,ze rfl ⟨some hr,(hB.below h27d.below).cell (n:=9) rfl,?_⟩⟩
   refine zbi (l:=parN (ix pl i).2.2.2 (ix pl i).2.2.2.length) ((k27.trans (Kc.of_below (Below.refl _ _).drew)).own hp26).isS (k:=q) (by omega) (zoS (hM.below h27d.below) ?_)
   have e1:(parN (ix pl i).2.2.2 (ix pl i).2.2.2.length)[q]'(by omega)=((ix pl i).2.2.2.getD (2*q+1) ag0).2.1:=by
    have:=zg8 (ix pl i).2.2.2 (ix pl i).2.2.2.length q (by omega)
    rwa[zt (by omega)]at this
   have e2:(valN (ix pl i).2.2.2 (ix pl i).2.2.2.length)[q]'(by omega)=((ix pl i).2.2.2.getD (2*q) ag0).2.1:=by
    have:=ziV (ix pl i).2.2.2 (ix pl i).2.2.2.length q (by omega)
    rwa[zt (by omega)]at this
   rw[e1,e2,hl,<-hp3,F.homeL hn hp1]
   show cR 100 #[.int .i64 (p:Int),_,_,_] _ _
   refine zjD h h27d hA27.drew hU27.drew (by omega) λw28 h28 k28=>⟨rfl,hnext3 w28 hql ⟨step (by omega) ?_,k27.trans k28⟩⟩
   have e:(rawI pl fl n k i)[q]'(by omega)=(p,((ix pl i).2.2.2.getD (2*q) ag0).2.1):=by
    simp only[hraw,List.getElem_map,List.getElem_range,Prod.mk.injEq,and_true]
    unfold lbN
    rw[hp2]
    rfl
   rw[e]
   exact h28
  ·have hqe:q=(rawI pl fl n k i).length:=by dsimp only at g3;omega
   rw[hqe,List.take_length]at h27
   exact⟨h27,hA27,hU27⟩
end
end Go.Proofs
namespace Go.Proofs
open Go.Gk Go.RowKit Go.Gm Go.Gr Go.Dm
theorem countP_lt{α:Type}{p q:α->Bool}:∀{l:List α},(∀x∈l,q x=true->p x=true)->∀{a:α},a∈l->p a=true->q a=false->l.countP q<l.countP p
 | [],_,a,ha,_,_=>by cases ha
 |b::l,h,a,ha,hp,hq=>by
  have hle:l.countP q<=l.countP p:=List.countP_mono_left λx hx=>h x (List.mem_cons_of_mem _ hx)
  rw[List.countP_cons,List.countP_cons]
  rcases List.mem_cons.1 ha with rfl |ha
  ·rw[hq,hp]
   simp only[if_true]
   simp
   omega
  ·have ih:=countP_lt (l:=l) (λx hx=>h x (List.mem_cons_of_mem _ hx)) ha hp hq
   cases hb:q b with
   |false=>split<;>split<;>simp_all<;>omega
   |true=>
    rw[h b List.mem_cons_self hb]
    simp only[if_true]
    omega
def uniP(pl:List PI)(K:Nat):List (Nat×Int):=(List.range K).flatMap λk=>(List.range pl.length).map λi=>(k,(ix pl i).2.2.1)
def muP(pl:List PI)(K:Nat)(VL ML:List (Nat×Int)):Nat:=(uniP pl K).countP λp=>decide (p ∉ VL/\p ∉ ML)
theorem zqK{pl:List PI}{K:Nat}{VL ML:List (Nat×Int)}{p:Nat×Int}(hp:p∈uniP pl K)(h1:p ∉ VL)(h2:p ∉ ML):muP pl K VL (ML++[p])<muP pl K VL ML:=by
 refine countP_lt (λx _ h=>?_) hp (decide_eq_true ⟨h1,h2⟩) (decide_eq_false λh=>h.2 (List.mem_append_right _ (List.mem_singleton.2 rfl)))
 have:=of_decide_eq_true h
 exact decide_eq_true ⟨this.1,λq=>this.2 (List.mem_append_left _ q)⟩
theorem zrb{pl:List PI}{K:Nat}{VL ML ML':List (Nat×Int)}(h:∀p:Nat×Int,p.1<K->(p∈ML'↔p∈ML/\p ∉ VL)):muP pl K VL ML'=muP pl K VL ML:=by
 unfold muP
 refine List.countP_congr λp hp=>?_
 obtain⟨k,hk,hp⟩:=List.mem_flatMap.1 hp
 obtain⟨i,_,rfl⟩:=List.mem_map.1 hp
 rw[decide_eq_true_eq,decide_eq_true_eq,h _ (List.mem_range.1 hk)]
 constructor
 ·rintro⟨h1,h2⟩
  exact⟨h1,λq=>h2 ⟨q,h1⟩⟩
 ·rintro⟨h1,h2⟩
  exact⟨h1,λq=>h2 q.1⟩
section
variable {x:Mo} {pl:List PI} {fl:List FnL} {n bb:Nat} {w w' w0:World} {u m:Sl} {bs cs:List Nat} {ML VL:List (Nat×Int)} {k:Nat} {id:Int} {R:VWP}
theorem zqk(F:Fls pl fl)(ho:ownP pl fl n id=true){K:Nat}(hk:k<K):(k,id)∈uniP pl K:=by
 obtain⟨hh,hh1,_,_⟩:=zcB ho
 obtain⟨_,i,_,_,e3,_,e5,_⟩:=F.home_inv hh1
 exact List.mem_flatMap.2 ⟨k,List.mem_range.2 hk,List.mem_map.2 ⟨i,List.mem_range.2 e3,by rw[e5]⟩⟩
theorem MpsL.keys(h:MpsL w u bs ML)(hk:k<bs.length):∃L,IsMq w bs[k] (Value.int .i64) L/\∀id,id∈L.map (·.1)↔(k,id)∈ML:=by
 obtain⟨L,h1,h2⟩:=h.mp k hk
 refine⟨L,h1,λid=>?_⟩
 have h3:=h2 id
 constructor
 ·intro hm
  refine Classical.byContradiction λhn=>?_
  rw[if_neg hn,zcR]at h3
  exact h3 hm
 ·intro hm
  refine Classical.byContradiction λhn=>?_
  rw[if_pos hm]at h3
  rw[zcR.2 hn]at h3
  cases h3
theorem Us2.fr{X:Nat->Prop}(h:Us2 w0 w u m bs cs ML VL)(hf:Fr w.heap.size X w w')(hb:∀b∈bs++cs,¬X b)(hu:∀b,u.a=some (Gk.blk b)->¬X b)(hm:∀b,m.a=some (Gk.blk b)->¬X b)(hX:∀b,X b->w0.heap.size<=b):Us2 w0 w' u m bs cs ML VL:=
 ⟨zcx h.below hf hX,h.mu.fr hf (λb q=>hb b (List.mem_append_left _ q)) hu,h.mm.fr hf (λb q=>hb b (List.mem_append_right _ q)) hm,h.nd,h.ge,h.fu,h.fm⟩
theorem Us2.iter{w3:World}{ML3 VL3:List (Nat×Int)}(h3:Us2 w0 w3 u m bs cs ML3 VL3)(h:Us2 w0 w u m bs cs ML VL)(hf:Fr w.heap.size (λi=>i=w3.heap.size) w w'):Us2 w0 w' u m bs cs ML VL:=by
 have hz:=h3.below.size
 refine h.fr hf (λb hb e=>?_) (λb hb e=>?_) (λb hb e=>?_) (λb e=>by omega)
 ·subst e
  rcases List.mem_append.1 hb with hb |hb
  ·have:=h3.mu.lt hb;omega
  ·have:=h3.mm.lt hb;omega
 ·subst e
  have:w3.heap.size<w3.heap.size:=(h3.mu.own.lt hb).2
  omega
 ·subst e
  have:w3.heap.size<w3.heap.size:=(h3.mm.own.lt hb).2
  omega
theorem Us2.putU'(h:Us2 w0 w u m bs cs ML VL)(hk:k<bs.length){K:World->Prop}(hK:∀w',Us2 w0 w' u m bs cs (ML++[(k,id)]) VL->Chg bs[k] w w'->K w'):updW Tryz.prog 88 (.map (some bs[k])) (.int .u32 id) (.int .i64 1) w K:=by
 obtain⟨n1,n2,n3⟩:=zai h.nd
 have hm:=List.getElem_mem hk
 refine h.mu.put n1 hk λw' h1 c=>?_
 exact hK w' ⟨c.below h.below (h.ge _ (List.mem_append_left _ hm)),h1,h.mm.other c (h.mu.kc hm c) λq=>n3 _ hm _ q rfl,h.nd,h.ge,h.fu,h.fm⟩ c
theorem Us2.delU(h:Us2 w0 w u m bs cs ML VL)(hk:k<bs.length){K:World->Prop}(hK:∀w',Us2 w0 w' u m bs cs (ML.filter λp=>decide (p≠(k,id))) VL->Chg bs[k] w w'->K w'){ts:Array TypeId}(hts:ts[0]? =some 88):delS Tryz.prog ts (.map (some bs[k])) (.int .u32 id) w K:=by
 obtain⟨n1,n2,n3⟩:=zai h.nd
 have hm:=List.getElem_mem hk
 refine h.mu.del n1 hk (λw' h1 c=>?_) hts
 exact hK w' ⟨c.below h.below (h.ge _ (List.mem_append_left _ hm)),h1,h.mm.other c (h.mu.kc hm c) λq=>n3 _ hm _ q rfl,h.nd,h.ge,h.fu,h.fm⟩ c
abbrev Wn(pl:List PI)(fl:List FnL)(n:Nat)(k:Nat)(id:Int):Prop:=WanN (nxF pl fl n) (mkB pl fl n id) (usB pl fl n id) k
set_option maxHeartbeats 4000000 in
theorem zn5(F:Fls pl fl)(hF:Flo x pl fl)(hp:PlOk pl)(hsh:(zK x.2.1 pl).1=0)(hn:n<fl.length)(h:IsBd w bb x pl fl n)
  (hR:∀w' u bs ML,Below w.heap.size w w'->MpsL w' u bs ML->bs.length=(fx fl n).bk.length->(∀k id,k<(fx fl n).bk.length->((k,id)∈ML↔ownP pl fl n id=true/\Wn pl fl n k id))->R (.slice u.a u.l u.c) w') :
  cR 28 #[.pointer (some (Gk.blk bb))] w R:=by
 refine zc.of (zdY _ R w ?_) λ_ _ h=>h
 obtain⟨v,hr,gb,tb,M,ov,dp,hB,hN,hFn,hM,hl,hG,hD⟩:=h.ex
 refine znT F hF hp hn h λw1 u m bs cs h1 hbl hcl=>⟨u,m,rfl,?_⟩
 have ok:=hD.ok
 have hnl:=zhY pl fl n
 have hmax:=ok.max
 have hU:∀k id,k<(fx fl n).bk.length->((k,id)∈mkT pl fl n (fx fl n).bk.length↔ownP pl fl n id=true/\usB pl fl n id k=true):=λk id hk=>zqi F hF hsh hn hk
 have hV:∀k id,k<(fx fl n).bk.length->ownP pl fl n id=true->((k,id)∈mdT pl fl n (fx fl n).bk.length↔mkB pl fl n id k=true):=λk id hk ho=>zqh F hn hk ho
 generalize mkT pl fl n (fx fl n).bk.length=ML0 at *
 generalize mdT pl fl n (fx fl n).bk.length=VL at *
 generalize hK:(fx fl n).bk.length=K at *
 obtain⟨nd1,nd2,nd3⟩:=zai h1.nd
 have hul:=h1.mu.len
 have hml:=h1.mm.len
 have hKn:K<=4096:=by omega
 refine zj.ghost (λj (_:Unit) w'=>∃ML,Us2 w w' u m bs cs ML VL/\(∀k id,k<K->(k,id)∈ML->ownP pl fl n id=true/\((k,id)∈ML0\/Wn pl fl n k id))/\(∀k id,k<K->(k,id)∈ML0->(k,id) ∉ VL->(k,id)∈ML)/\j=muP pl K VL ML)
  (muP pl K VL ML0) ⟨ML0,h1,λk id hk hm=>⟨((hU k id hk).1 hm).1,.inl hm⟩,λk id _ hm _=>hm,rfl⟩ ?_
 rintro _ _ w2 ⟨ML,h2,hS,hC,rfl⟩ next hnext
 refine zj.count K (by omega) (λk w'=>∃ML',Us2 w w' u m bs cs ML' VL/\∀j id,(j,id)∈ML'↔(j,id)∈ML/\¬(j<k/\(j,id)∈VL)) ⟨ML,h2,λj id=>by simp⟩ ?_
 rintro k w3 hk ⟨ML3,h3,hE3⟩ next2 hnext2
 refine zg (λg=>?_) (λg=>?_)
 ·have hkl:k<K:=by dsimp only at g;omega
  obtain⟨L,hL1,hL2⟩:=h3.mm.keys (k:=k) (by omega)
  refine h3.mm.addr (by omega) (zm4 (L:=L) zgG hL1 (λd (_:Unit) w'=>∃ML',Us2 w w' u m bs cs ML' VL/\(∀j id,(j,id)∈ML'↔(j,id)∈ML3/\¬(j=k/\id∈d))/\∀id∈d,(k,id)∈VL) ?_ ?_ ?_ ?_)
  ·rintro d _ w5 w6 _ ⟨ML',h5,q1,q2⟩ hf
   exact⟨ML',h3.iter h5 hf,q1,q2⟩
  ·rintro w4 b4 _
   exact⟨ML3,h3.on b4,λj id=>by simp,λid h=>by cases h⟩
  ·rintro d _ w6 id v' hlt hbm ⟨ML',h6,q1,q2⟩ hid _ next3 hnext3
   refine h6.mu.addr (by omega) (h6.delU (by omega) (λw8 h8 c8=>hnext3 () w8 ⟨_,h8,λj id'=>?_,λid' h'=>?_⟩ (c8.fr.wide λi e=>?_)) rfl)
   ·rw[List.mem_filter,q1 j id',decide_eq_true_eq,List.mem_cons,ne_eq,Prod.mk.injEq]
    constructor
    ·rintro⟨⟨g1,g2⟩,g3⟩
     refine⟨g1,?_⟩
     rintro⟨rfl,rfl |g4⟩
     ·exact g3 ⟨rfl,rfl⟩
     ·exact g2 ⟨rfl,g4⟩
    ·rintro⟨g1,g2⟩
     exact⟨⟨g1,λg3=>g2 ⟨g3.1,.inr g3.2⟩⟩,λg3=>g2 ⟨g3.1,.inl g3.2⟩⟩
   ·rcases List.mem_cons.1 h' with rfl |h'
    ·exact(hL2 id').1 hid
    ·exact q2 id' h'
   ·subst e
    refine⟨λe=>nd3 _ (List.getElem_mem (by omega)) _ (List.getElem_mem (by omega)) e,λe=>?_⟩
    have:=h3.mu.lt (List.getElem_mem (l:=bs) (n:=k) (by omega))
    omega
  ·rintro d _ w7 ⟨ML',h7,q1,q2⟩ hall
   refine hnext2 w7 hkl ⟨ML',h7,λj id=>?_⟩
   rw[q1 j id,hE3 j id]
   constructor
   ·rintro⟨⟨g1,g2⟩,g3⟩
    refine⟨g1,λg4=>?_⟩
    by_cases e:j=k
    ·subst e
     exact g3 ⟨rfl,hall id ((hL2 id).2 g4.2)⟩
    ·exact g2 ⟨by omega,g4.2⟩
   ·rintro⟨g1,g2⟩
    refine⟨⟨g1,λg3=>g2 ⟨by omega,g3.2⟩⟩,?_⟩
    rintro⟨rfl,g4⟩
    exact g2 ⟨by omega,q2 id g4⟩
 have hke:k=K:=by dsimp only at g;omega
 subst hke
 clear hnext2 next2
 have hS3:∀j id,j<k->(j,id)∈ML3->ownP pl fl n id=true/\Wn pl fl n j id:=λj id hj hm=>by
  obtain⟨g1,g2⟩:=(hE3 j id).1 hm
  obtain⟨ho,g3⟩:=hS j id hj g1
  refine⟨ho,?_⟩
  rcases g3 with g3 |g3
  ·refine .here ?_ ((hU j id hj).1 g3).2
   rw[<-Bool.not_eq_true]
   exact λq=>g2 ⟨hj,(hV j id hj ho).2 q⟩
  ·exact g3
 have hC3:∀j id,j<k->(j,id)∈ML0->(j,id) ∉ VL->(j,id)∈ML3:=λj id hj g1 g2=>(hE3 j id).2 ⟨hC j id hj g1 g2,λq=>g2 q.2⟩
 have hmu:muP pl k VL ML3=muP pl k VL ML:=zrb λp hp=>(hE3 p.1 p.2).trans ⟨λq=>⟨q.1,λe=>q.2 ⟨hp,e⟩⟩,λq=>⟨q.1,λe=>q.2 e.2⟩⟩
 generalize hK2:k=K at *
 clear hE3 hS hC
 have rows:∀j t,t∈(nxF pl fl n).getD j []->t<K:=λj t ht=>by have:=ok.rows j t ht;omega
 generalize hnx:nxF pl fl n=nx at *
 let Sd:List (Nat×Int)->Prop:=λML'=>∀j id,j<K->(j,id)∈ML'->ownP pl fl n id=true/\Wn pl fl n j id
 let Cq:Nat->Nat->Prop:=λj t=>∀id,(t,id)∈ML3->(j,id)∈VL\/(j,id)∈ML3
 refine zj.ghost (λg (st:Bool×Int×Unit) w'=>∃(mo:Bool) (j:Nat) (ML':List (Nat×Int)),st=(mo,(j:Int),())/\j<=K/\g=K-j/\Us2 w w' u m bs cs ML' VL/\Sd ML'/\(∀p∈ML3,p∈ML')/\
  ((mo=false/\ML'=ML3/\∀i,i<j->∀t∈nx.getD i [],Cq i t)\/(mo=true/\muP pl K VL ML'<muP pl K VL ML3))) K ⟨false,0,ML3,rfl,Nat.zero_le _,rfl,h3,hS3,λ_ h=>h,.inl ⟨rfl,rfl,λi hi=>by omega⟩⟩ ?_
 rintro _ _ w9 ⟨mo,j,ML9,rfl,hj,rfl,h9,hS9,hP9,hJ9⟩ next4 hnext4
 refine zg (λg4=>?_) (λg4=>?_)
 rotate_left
 ·have hje:j=K:=by dsimp only at g4;omega
  subst hje
  rcases hJ9 with⟨rfl,rfl,hcl⟩ | ⟨rfl,hlt⟩
  ·refine zz rfl (hR w9 u bs ML9 h9.below h9.mu hbl λi id hi=>⟨λhm=>hS9 i id hi hm,?_⟩)
   rintro⟨ho,hw⟩
   rw[<-hnx]at hcl
   induction hw with
   |here q1 q2=>exact hC3 _ id hi ((hU _ id hi).2 ⟨ho,q2⟩) λq=>by rw[(hV _ id hi ho).1 q]at q1;cases q1
   | @step i t q1 q2 _ ih=>
    rcases hcl i hi t q2 id (ih (rows i t (by rw[<-hnx];exact q2))) with q |q
    ·rw[(hV i id hi ho).1 q]at q1;cases q1
    ·exact q
  ·refine zH rfl (hnext _ () w9 (by omega) ⟨ML9,h9,λi id hi hm=>⟨(hS9 i id hi hm).1,.inr (hS9 i id hi hm).2⟩,λi id hi g1 g2=>hP9 _ (hC3 i id hi g1 g2),rfl⟩)
 have hjl:j<K:=by dsimp only at g4;omega
 refine ze rfl ⟨some (Gk.blk gb),(hB.below h9.below).cell (n:=10) rfl,?_⟩
 refine GP.next (nx:=nx) (.inr ⟨gb,rfl,ok,hG.below h9.below⟩) (i:=(j:Int)) λr w10 hO10 _ b10=>⟨r,rfl,?_⟩
 rw[zaN]at hO10
 obtain⟨row,hrow⟩:∃row,nx.getD j []=row:=⟨_,rfl⟩
 rw[hrow]at hO10
 have hrl:=hO10.isS.len
 have hrn:row.length<=4096:=by have:=ok.row_le j;rw[hrow]at this;omega
 refine zj.ghost (λg (st:Bool×Int×Unit) w'=>∃(mo:Bool) (q:Nat) (ML':List (Nat×Int)),st=(mo,(q:Int),())/\q<=row.length/\g=row.length-q/\Us2 w w' u m bs cs ML' VL/\Sd ML'/\(∀p∈ML3,p∈ML')/\Kc w10 w'/\w10.heap.size<=w'.heap.size/\
  ((mo=false/\ML'=ML3/\(∀i,i<j->∀t∈nx.getD i [],Cq i t)/\∀q' (hq:q'<row.length),q'<q->Cq j row[q'])\/(mo=true/\muP pl K VL ML'<muP pl K VL ML3))) row.length
  ⟨mo,0,ML9,rfl,Nat.zero_le _,rfl,h9.on b10,hS9,hP9,Kc.refl _,Nat.le_refl _,hJ9.imp (λq=>⟨q.1,q.2.1,q.2.2,λq' _ h=>by omega⟩) (λq=>q)⟩ ?_
 rintro _ _ w11 ⟨mo,q,ML11,rfl,hq,rfl,h11,hS11,hP11,k11,z11,hJ11⟩ next5 hnext5
 have hO11:=k11.own hO10
 refine zg (λg5=>?_) (λg5=>?_)
 rotate_left
 ·have hqe:q=row.length:=by dsimp only at g5;omega
  rw[zr (by omega)]
  refine hnext4 (K-(j+1)) _ w11 (by omega) ⟨mo,j+1,ML11,rfl,by omega,rfl,h11,hS11,hP11,hJ11.imp (λ⟨q1,q2,q3,q4⟩=>⟨q1,q2,λi hi t ht=>?_⟩) (λq=>q)⟩
  by_cases e:i=j
  ·subst e
   rw[hrow]at ht
   obtain⟨q',hq',rfl⟩:=List.getElem_of_mem ht
   exact q4 q' hq' (by omega)
  ·exact q3 i (by omega) t ht
 have hql:q<row.length:=by dsimp only at g5;omega
 have htm:row[q]∈nx.getD j []:=by rw[hrow];exact List.getElem_mem hql
 have htK:=rows j _ htm
 obtain⟨t,ht⟩:∃t,row[q]=t:=⟨_,rfl⟩
 refine zkS hO11.isS hql ?_
 rw[ht]at htm htK⊢
 obtain⟨L,hL1,hL2⟩:=h11.mu.keys (k:=t) (by omega)
 refine h11.mu.addr (k:=t) (by omega) (zm4 (L:=L) zgG hL1 (λd (st:Bool×Unit) w'=>∃ML',Us2 w w' u m bs cs ML' VL/\Sd ML'/\(∀p∈ML11,p∈ML')/\Kc w10 w'/\w10.heap.size<=w'.heap.size/\w11.heap.size<=w'.heap.size/\
  ((st.1=false/\mo=false/\ML'=ML11/\∀id∈d,(j,id)∈VL\/(j,id)∈ML11)\/(st.1=true/\muP pl K VL ML'<muP pl K VL ML3))) ?_ ?_ ?_ ?_)
 ·rintro d st w5 w6 hlt ⟨ML',h5,q1,q2,q3,q4,q5,q6⟩ hf
  refine⟨ML',h11.iter h5 hf,q1,q2,λb T xs hB'=>(q3 _ _ _ hB').of_block (hf.block _ (q3 _ _ _ hB').lt λe=>?_),by have:=hf.size;omega,by have:=hf.size;omega,q6⟩
  have:=hB'.lt
  omega
 ·rintro w4 b4 z4
  refine⟨ML11,h11.on b4,hS11,λ_ h=>h,k11.trans (Kc.of_below b4),by omega,by omega,?_⟩
  rcases hJ11 with⟨q1,_⟩ | ⟨q1,q2⟩
  ·exact .inl ⟨q1,q1,rfl,λid h=>by cases h⟩
  ·exact .inr ⟨q1,q2⟩
 ·rintro d st w6 id v' hlt hbm ⟨ML',h6,q1,q2,q3,q4,q5,q6⟩ hid _ next6 hnext6
  have htm':(t,id)∈ML':=q2 _ ((hL2 id).1 hid)
  have stay:(j,id)∈VL\/(j,id)∈ML'->next6 (st.1,()) w6:=λhc=>hnext6 _ w6 ⟨ML',h6,q1,q2,q3,q4,q5,q6.imp (λ⟨e1,e2,e3,e4⟩=>⟨e1,e2,e3,λid' h'=>by
   rcases List.mem_cons.1 h' with rfl |h'
   ·rw[<-e3];exact hc
   ·exact e4 id' h'⟩) (λq=>q)⟩ (Fr.refl _ _ _)
  refine h6.mm.addr (by omega) (h6.mm.look (k:=j) (id:=id) (by omega) ?_)
  by_cases hv:(j,id)∈VL
  ·rw[if_pos hv]
   exact zz rfl (stay (.inl hv))
  rw[if_neg hv]
  refine zH rfl (h6.mu.addr (by omega) (h6.mu.look (k:=j) (id:=id) (by omega) ?_))
  by_cases hm:(j,id)∈ML'
  ·rw[if_pos hm]
   exact zz rfl (stay (.inr hm))
  rw[if_neg hm]
  obtain⟨ho,hwt⟩:=q1 t id htK htm'
  refine zH rfl (h6.mu.addr (by omega) (h6.putU' (k:=j) (id:=id) (by omega) λw16 h16 c16=>?_))
  have hmu2:=zqK (zqk F ho hjl) hv hm
  refine hnext6 (true,()) w16 ⟨_,h16,λi id' hi hmm=>?_,λp hp=>List.mem_append_left _ (q2 p hp),q3.trans (h6.mu.kc (List.getElem_mem (by omega)) c16),by have:=c16.size;omega,by have:=c16.size;omega,.inr ⟨rfl,?_⟩⟩ (c16.fr.wide λi e=>?_)
  ·rcases List.mem_append.1 hmm with hmm |hmm
   ·exact q1 i id' hi hmm
   ·rw[List.mem_singleton]at hmm
    cases hmm
    refine⟨ho,.step ?_ (by rw[hnx];exact htm) hwt⟩
    rw[<-Bool.not_eq_true]
    exact λq=>hv ((hV j id hjl ho).2 q)
  ·rcases q6 with⟨e1,e2,e3,_⟩ | ⟨_,e⟩
   ·rcases hJ11 with⟨_,e4,_⟩ | ⟨e4,_⟩
    ·rw[e3,e4]at hmu2⊢
     exact hmu2
    ·rw[e4]at e2;cases e2
   ·omega
  ·subst e
   refine⟨λe=>?_,λe=>?_⟩
   ·have:=(List.getElem_inj nd1).1 e
    subst this
    exact hm htm'
   ·have:=h11.mu.lt (List.getElem_mem (l:=bs) (n:=j) (by omega))
    omega
 ·rintro d st w7 ⟨ML',h7,q1,q2,q3,q4,q5,q6⟩ hall
  rw[zr (by omega)]
  refine hnext5 (row.length-(q+1)) _ w7 (by omega) ⟨st.1,q+1,ML',rfl,by omega,rfl,h7,q1,λp hp=>q2 p (hP11 p hp),q3,q4,?_⟩
  rcases q6 with⟨e1,e2,e3,e4⟩ | ⟨e1,e2⟩
  ·rcases hJ11 with⟨_,f1,f2,f3⟩ | ⟨f1,_⟩
   ·refine .inl ⟨e1,by rw[e3,f1],f2,λq' hq' hlt=>?_⟩
    by_cases e:q'=q
    ·subst e
     rw[ht]
     intro id hm
     have:=e4 id (hall id ((hL2 id).2 (by rw[f1];exact hm)))
     rwa[f1]at this
    ·exact f3 q' hq' (by omega)
   ·rw[f1]at e2;cases e2
  ·exact .inr ⟨e1,e2⟩
end
end Go.Proofs
namespace Go.Proofs
open Go.Gk
set_option linter.unusedVariables false
set_option maxRecDepth 100000
def yu:Ann:=(.q (.q .nil))
def yp(p0:Option Nat)(R:VWP)(w:World):Prop:=Nw (w.alloc (.cells #[.map p0] 88)) λw1=>R (.func (.func 61) #[] #[.pointer (some (zB w))]) w1
theorem Zn(p0)(R)(w)(h:yp p0 R w):Calls Tryz.prog 27 #[.map p0] w (Ret R):=lwC yu Tryz.func27 (by kernel_rfl) (by kernel_rfl) h
def yf:Ann:=(.q (.one (.loop ⟨[0,5],[]⟩ (.q (.seq none .c (.one (.q (.q .c))))))))
def yd(p0:Value)(c0:Addr)(R:VWP)(w:World):Prop:=ldM w c0 λx1=>rngW Tryz.prog 88 (.map x1) w λw1=>zj (S:=Unit) (λs2 w2 n3=>nxtM Tryz.prog (.pointer (some (zB w))) 0 w2 (λx4 x5 w3=>entW Tryz.prog (.pointer (some (zB w))) (BK.int .u32) BK.raw w3 λ(x6:Int) (x7:Value)=>Zv Tryz.prog Tryz.fs p0 [(zu x6)] w3 λv8 w5=>∃x9:Bool,v8=(.bool x9)/\ifB (!x9) (R (.tuple #[]) w5) (n3 () w5)) (λw4=>R (.tuple #[]) w4)) () w1
theorem Za(p0)(c0)(R)(w)(h:yd p0 c0 R w):Calls Tryz.prog 61 #[p0,.pointer (some c0)] w (Ret R):=lwC yf Tryz.func61 (by kernel_rfl) (by kernel_rfl) h
end Go.Proofs
namespace Go.Proofs
open Go.Gk Go.RowKit Go.Gm Go.Gr Go.Dm
theorem zg4{d:List Int}{n:Nat}(hd:d.Nodup)(h:∀y∈d,0<=y/\y<(n:Int)):d.length<=n:=by
 have h1:(d.map Int.toNat).Nodup:=by
  refine List.pairwise_map.2 (List.Pairwise.imp_of_mem (λ{a b} ha hb hne e=>hne ?_) hd)
  have:=h a ha
  have:=h b hb
  omega
 have h2:=ZJ h1 (n:=n) (λy hy=>by
  obtain⟨z,hz,rfl⟩:=List.mem_map.1 hy
  have:=h z hz
  omega)
 rwa[List.length_map]at h2
section
variable {w:World} {R:VWP} {bm vb:Nat} {L:List (Int×Int)} {Tv:TypeId}
set_option maxHeartbeats 2000000 in
theorem zhJ(hM:IsMq w bm (Value.int .i64) L)(hV:Blk w vb Tv [.map (some bm)])(hrg:∀id∈L.map (·.1),0<=id/\id<65536)
  (hR:∀r (T:List Int) w',Own w' 22 1 r (T.map (Value.int .u32))->T.Nodup->(∀id,id∈T↔id∈L.map (·.1))->zA w.heap.size r->Below w.heap.size w w'->R (.slice r.a r.l r.c) w') :
  cR 97 #[.slice none 0 0,.func (.func 61) #[] #[.pointer (some (blk vb))]] w R:=by
 refine zc.of (Z6 ⟨none,0,0⟩ _ R w ?_) λ_ _ h=>h
 refine zl λw4 hC4 b4 z4=>?_
 have hC4:Blk w4 w.heap.size 26 [.slice none 0 0]:=hC4
 intro mk hy
 have hcf:Tryz.fs.contains 61=true:=by kernel_rfl
 unfold zjs
 simp only[hcf]
 generalize hw5:((w4.alloc (.deferred (some []))).alloc (mk .ready none))=w5
 have b5:Below w4.heap.size w4 w5:=by rw[<-hw5];exact zbo w4 _ _
 have z5:w5.heap.size=w4.heap.size+2:=by rw[<-hw5];exact zhf w4 _ _
 have hd5:w5.heap[w4.heap.size]? =some (.deferred (some [])):=by rw[<-hw5];exact zkn w4 _ _
 have hl5:w5.heap[w4.heap.size+1]? =some (mk .ready none):=by rw[<-hw5];exact zko w4 _ _
 clear hw5
 have b45:=b4.on b5
 have hlt:=hV.lt
 have hmlt:=hM.lt
 refine zc.of (Za (.func (.yield (w4.heap.size+1)) #[] #[]) (blk vb) _ w5 ?_) λ_ _ h=>h
 refine⟨some bm,(hV.below b45).cell0 rfl,?_⟩
 refine zm4 (L:=L) zgG (hM.below b45) (λd (_:Unit) w'=>w'.heap[w4.heap.size+1]? =some (mk .ready none)/\w'.heap[w4.heap.size]? =some (.deferred (some []))/\w5.heap.size+1<=w'.heap.size/\Below w.heap.size w w'/\d.Nodup/\(∀id∈d,id∈L.map (·.1))/\
  ∃r,Blk w' w.heap.size 26 [.slice r.a r.l r.c]/\Own w' 22 1 r (d.reverse.map (Value.int .u32))/\∀a,r.a=some a->w5.heap.size+1<=a.block) ?_ ?_ ?_ ?_
 ·rintro d _ w1 w2 hlt1 ⟨q1,q2,q3,q4,q5,q6,r,q7,q8,q9⟩ hf
  have hb:=hf.block
  refine⟨(hb _ (by omega) (by omega)).trans q1,(hb _ (by omega) (by omega)).trans q2,by have:=hf.size;omega,⟨hf.os.trans q4.os,hf.tape.trans q4.tape,hf.output.trans q4.output,by have:=hf.size;have:=q4.size;omega,λk hk=>(hb k (by omega) (by omega)).trans (q4.block k hk)⟩,q5,q6,r,q7.of_block (hb _ q7.lt (by omega)),q8.of_block λa ha=>hb _ (q8.lt ha).2 (by have:=q9 a ha;omega),q9⟩
 ·rintro w1 b1 z1
  exact⟨(b1.block _ (by omega)).trans hl5,(b1.block _ (by omega)).trans hd5,by omega,b45.on b1,List.nodup_nil,λid h=>(by cases h),⟨none,0,0⟩,(hC4.below b5).below b1,Own.nil _ _ _,λa ha=>(by cases ha)⟩
 ·rintro d _ w6 id v' hlt6 hbm ⟨hl6,hd6,hz6,hb6,hnd,hsub,r,hC6,hO6,hF6⟩ hid hnid next hnext
  refine hy (id,()) w6 _ hl6 ?_
  have hlt6:w4.heap.size+1<w6.heap.size:=(Array.getElem?_eq_some_iff.1 hl6).1
  refine⟨hl6,Nw.gen λw7 e7=>?_⟩
  have ho7:∀b,b≠w4.heap.size+1->w7.heap[b]? =w6.heap[b]?:=λb hb=>by rw[e7];exact World.putObj_heap_other hb
  have hz7:w7.heap.size=w6.heap.size:=by rw[e7];simp
  have hl7:w7.heap[w4.heap.size+1]? =some (mk .busy none):=by rw[e7];exact zbs hlt6 _
  have hb7:Below w.heap.size w w7:=by rw[e7];exact hb6.putObj (by omega) _
  clear e7
  have hC7:=hC6.of_block (ho7 _ (by omega))
  have hO7:Own w7 22 1 r (d.reverse.map (Value.int .u32)):=hO6.of_block λa ha=>ho7 _ (by have:=hF6 a ha;omega)
  have hd7:w7.heap[w4.heap.size]? =some (.deferred (some [])):=by rw[ho7 _ (by omega)];exact hd6
  refine hC7.cell0 rfl |>λhc=>⟨r,hc,?_⟩
  refine zl λw8 hD8 b8 z8=>?_
  have hdl:d.length<=65536:=zg4 hnd λy hy=>hrg y (hsub y hy)
  have hrl:r.l=d.length:=by
   have:=hO6.1
   rw[List.length_map,List.length_reverse]at this
   omega
  refine zqm eU32 (hO7.below b8) (B:=w5.heap.size+1) (by have:=b8.size;omega) hF6 rfl (by simp[Value.oneCell']) hD8 (by omega) (by omega) λr' w9 hO9 b9 hF9=>?_
  have b79:Below (w5.heap.size+1) w7 w9:=(b8.mono (by omega)).trans b9
  have kb:∀i,i<w5.heap.size+1->w9.heap[i]? =w7.heap[i]?:=λi hi=>b79.block i hi
  have hC9:=hC7.of_block (kb _ (by omega))
  refine⟨hC9.wr0 (by simp),Nw.gen λw10 e10=>?_⟩
  have c10:Chg w.heap.size w9 w10:=by rw[e10];exact Chg.set w.heap.size 0 w9 _
  have hC10:Blk w10 w.heap.size 26 [.slice r'.a r'.l r'.c]:=by rw[e10];exact hC9.set0 _
  clear e10
  have hl10:w10.heap[w4.heap.size+1]? =some (mk .busy none):=by rw[c10.block _ (by omega),kb _ (by omega)];exact hl7
  have hlt10:w4.heap.size+1<w10.heap.size:=(Array.getElem?_eq_some_iff.1 hl10).1
  have s79:=b79.size
  have s10:=c10.size
  have hbf:Below w.heap.size w (w10.putObj (w4.heap.size+1) (mk .ready none)):=(c10.below (hb7.trans (b79.mono (by omega))) (Nat.le_refl _)).putObj (by omega) _
  refine⟨hl10,⟨true,rfl,zz rfl (hnext () _ ⟨zbs hlt10 _,?_,by simp;omega,?_,List.nodup_cons.2 ⟨hnid,hnd⟩,λy hy=>?_,r',?_,?_,hF9⟩ ?_)⟩⟩
  ·rw[World.putObj_heap_other (by omega),c10.block _ (by omega),kb _ (by omega)]
   exact hd7
  ·exact hbf
  ·rcases List.mem_cons.1 hy with rfl |hy
   ·exact hid
   ·exact hsub y hy
  ·exact hC10.put (by omega) _
  ·rw[List.reverse_cons,List.map_append]
   have hO10:Own w10 22 1 r' (d.reverse.map (Value.int .u32)++[Value.int .u32 id]):=hO9.of_block λa ha=>c10.block _ (by have:=hF9 a ha;omega)
   exact hO10.of_block λa ha=>World.putObj_heap_other (by have:=hF9 a ha;omega)
  ·refine⟨hbf.os.trans hb6.os.symm,hbf.tape.trans hb6.tape.symm,hbf.output.trans hb6.output.symm,by simp;omega,λk hk hx=>?_⟩
   have hk':k=bm\/k=w5.heap.size:=by
    refine Classical.byContradiction λg=>hx ⟨λe=>g (.inl e),λe=>g (.inr e)⟩
   rw[World.putObj_heap_other (by omega),c10.block _ (by omega),kb _ (by omega)]
   exact ho7 _ (by omega)
 ·rintro d _ w6 ⟨hl6,hd6,hz6,hb6,hnd,hsub,r,hC6,hO6,hF6⟩ hall
  refine⟨hl6,?_⟩
  have hC7:=hC6.put (l:=w4.heap.size+1) (by omega) (mk .exhausted none)
  refine hC7.cell0 rfl |>λhc=>⟨r,hc,?_⟩
  refine zbh (by rw[World.putObj_heap_other (by omega)];exact hd6) ?_
  refine hR r d.reverse _ ?_ ((List.reverse_perm d).symm.nodup hnd) (λid=>by rw[List.mem_reverse];exact⟨hsub id,hall id⟩) (λa ha=>by have:=hF6 a ha;omega) ((hb6.putObj (by omega) _).putObj (by omega) _)
  refine(hO6.of_block λa ha=>World.putObj_heap_other (by have:=hF6 a ha;omega)).of_block λa ha=>World.putObj_heap_other (by have:=hF6 a ha;omega)
theorem zhK(hM:IsMq w bm (Value.int .i64) L)(hV:Blk w vb Tv [.map (some bm)])(hrg:∀id∈L.map (·.1),0<=id/\id<65536)
  (hR:∀r (A:List Int) w',Own w' 22 1 r (A.map (Value.int .u32))->A.Nodup->(∀id,id∈A↔id∈L.map (·.1))->A.Pairwise (·<=·)->zA w.heap.size r->Below w.heap.size w w'->R (.slice r.a r.l r.c) w') :
  cR 26 #[.func (.func 61) #[] #[.pointer (some (blk vb))]] w R:=by
 refine zc.of (zbu _ R w ?_) λ_ _ h=>h
 refine zc.of (zaH _ _ w ?_) λ_ _ h=>h
 refine zhJ hM hV hrg λr T w1 hO1 hT1 hT2 hF1 b1=>⟨r,rfl,r,rfl,?_⟩
 have hTl:T.length<=65536:=zg4 hT1 λy hy=>hrg y ((hT2 y).1 hy)
 refine zfw hO1 (by omega) λA w2 hO2 hP hA hF2=>⟨rfl,?_⟩
 refine hR r A w2 hO2 (hP.symm.nodup hT1) (λid=>by rw[hP.mem_iff];exact hT2 id) hA hF1 (b1.trans ⟨hF2.os,hF2.tape,hF2.output,hF2.size,λk hk=>hF2.block k (by have:=b1.size;omega) λe=>?_⟩)
 have:=hF1 _ e
 have:(blk k).block=k:=rfl
 omega
end
end Go.Proofs
namespace Go.Proofs
open Go.Gk Go.RowKit Go.Gm Go.Gr Go.Dm
section
variable {x:Mo} {pl:List PI} {fl:List FnL} {w:World} {R:VWP} {label id:Int} {n k:Nat}
theorem zqG(F:Fls pl fl)(hn:n<fl.length){h:Hm}(hh:hmO pl fl id=some h)(hl:h.2.2.2.1=true)(h1:h.1=(n:Int)):∃k:Nat,h.2.1=(k:Int)/\lbO (fx fl n).bk id=some k:=by
 obtain⟨m,i,e1,e2,e3,e4,e5,e6,e7,e8,e9⟩:=F.home_inv hh
 have hmn:m=n:=by omega
 subst hmn
 rcases e9 with⟨_,_,g⟩ | ⟨b,hb,g1,g2,g3,g4⟩
 ·rw[g]at hl;cases hl
 ·refine⟨b,g1,?_⟩
  obtain⟨a,e,q1,q2,q3,q4,q5,q6,T⟩:=F.tl e2
  obtain⟨f,t,hbx,_,_,hop,_,_⟩:=F.bl e2 hb
  rw[g4,beq_iff_eq]at hl
  have hif:i=f:=by
   refine Classical.byContradiction λhne=>?_
   refine T.nl _ (zgO hb) i ?_ g3 hl
   rw[hbx]at g2⊢
   dsimp only at g2⊢
   omega
  subst hif
  rw[<-e5,show(ix pl i).2.2.1=(bx (fx fl m).bk b).1 by rw[hbx]]
  exact zhi (F.lab _ (YJ e2)) hb
theorem zql(F:Fls pl fl)(hp:PlOk pl)(h0:0<=x.2.1)(hs:(zK x.2.1 pl).1=0)(ho:ownP pl fl n id=true):1<=id/\id<x.2.1:=by
 obtain⟨hh,hh1,hh2,_⟩:=zcB ho
 obtain⟨m,i,e1,e2,e3,e4,e5,e6,_⟩:=F.home_inv hh1
 have h4:=(zj4 hh1 hh2).2
 have:=zra (id:=id) hp h0 hs (by omega)
 omega
theorem zhU{m:Nat}:id∈livN pl fl n k m↔(1<=id/\id<=(m:Int))/\ownP pl fl n id=true/\wanB pl fl n id k=true:=by
 unfold livN
 rw[List.mem_filter,List.mem_map,Bool.and_eq_true]
 refine and_congr_left λ_=>?_
 constructor
 ·rintro⟨i,hi,rfl⟩
  have:=List.mem_range.1 hi
  omega
 ·rintro⟨h1,h2⟩
  exact⟨(id-1).toNat,List.mem_range.2 (by omega),by omega⟩
theorem zoN(m:Nat):(livN pl fl n k m).Pairwise (·<·):=by
 unfold livN
 refine List.Pairwise.sublist List.filter_sublist ?_
 refine List.pairwise_map.2 ((List.pairwise_lt_range (n:=m)).imp λ{a b} h=>?_)
 omega
theorem zqI{A:List Int}{m:Nat}(h1:A.Nodup)(h2:A.Pairwise (·<=·))(h3:∀id,id∈A↔ownP pl fl n id=true/\wanB pl fl n id k=true)(h4:∀id,ownP pl fl n id=true->1<=id/\id<=(m:Int)):A=livN pl fl n k m:=by
 have hr:=zoN (pl:=pl) (fl:=fl) (n:=n) (k:=k) m
 refine List.Perm.eq_of_pairwise (le:=λ(x y:Int)=>x<=y) (λa b _ _ h1 h2=>Int.le_antisymm h1 h2) h2 (hr.imp λ{a b} h=>Int.le_of_lt h) ?_
 refine(List.perm_ext_iff_of_nodup h1 (hr.imp λ{a b} h e=>by omega)).2 λid=>?_
 rw[h3 id,zhU]
 exact⟨λh=>⟨h4 id h.1,h⟩,λh=>h.2⟩
set_option maxHeartbeats 4000000 in
theorem zi3(hN:IsPl w x.2.2.1 pl)(hp:PlOk pl)(h0:0<=x.2.1)
  (hR:∀w' r,Own w' 22 1 r ((YF x pl (cutF pl pl.length) label).1.map (Value.int .u32))->zA w.heap.size r->Below w.heap.size w w'->R (.tuple #[.slice r.a r.l r.c,.agg #[.int .i64 (YF x pl (cutF pl pl.length) label).2.1,.int .i64 (YF x pl (cutF pl pl.length) label).2.2]]) w') :
  cR 7 #[moA x,.int .u32 label] w R:=by
 refine zc.of (zhN x label R w ?_) λ_ _ h=>h
 refine zl λw1 hB1 b1 z1=>?_
 have hB1:Blk w1 w.heap.size 25 (moV x):=hB1
 refine zl λw2 hS2 b2 z2=>?_
 have hS2:Blk w2 w1.heap.size 29 [.int .i64 0,.int .i64 0]:=hS2
 have hb2:=b1.on b2
 have s1:=b1.size
 have out:∀{w':World} (l:List Int) (e a:Int) (r:Sl),Blk w' w1.heap.size 29 [.int .i64 0,.int .i64 0]->Below w.heap.size w w'->Own w' 22 1 r (l.map (Value.int .u32))->zA w.heap.size r->YF x pl (cutF pl pl.length) label=(l,e,a)->
   Wr w' (blk w1.heap.size)/\Nw (w'.setCell (blk w1.heap.size) (.int .i64 e)) λw8=>Wr w8 ((blk w1.heap.size).add 1)/\Nw (w8.setCell ((blk w1.heap.size).add 1) (.int .i64 a)) λw9=>ldI w9 ((blk w1.heap.size).add 0) .i64 λx9=>ldI w9 ((blk w1.heap.size).add 1) .i64 λx10=>
    R (.tuple #[.slice r.a r.l r.c,.agg #[.int .i64 x9,.int .i64 x10]]) w9:=λ{w'} l e a r hS hb hO hFr he=>
  st2 hS rfl λw9 hS9 c9=>Sp.load hS9 (by
   have:=hR w9 r (by
    rw[he]
    exact hO.of_block λa ha=>c9.block _ λe=>by
     obtain⟨cs,hc⟩:=hO.type ha
     exact Blk.apart hc hS (by decide) e) hFr (c9.below hb (by omega))
   rw[he]at this
   exact this)
 have nilO:∀w',Own w' 22 1 ⟨none,0,0⟩ (([]:List Int).map (Value.int .u32)):=λw'=>Own.nil _ _ _
 have nilF:zA w.heap.size ⟨none,0,0⟩:=λa ha=>by cases ha
 refine Mo.load (hB1.below b2) (zh0 (x:=x) (hN.below hb2) hp h0 (λw3 hne b3=>⟨⟨none,0,0⟩,((floE x pl).1,(floE x pl).2,()),rfl,?_⟩) (λw3 s hF hBs b3=>⟨s,(0,0,()),rfl,?_⟩))
 ·refine box2 rfl λw6 h6 b6 z6=>h6.rI0 rfl (zH (by simpa using hne) (Sp.load h6.drew ?_))
  have b26:=b3.on b6
  exact out [] _ _ ⟨none,0,0⟩ (hS2.below b26).drew (hb2.on b26).drew (nilO _) nilF (zoP hne)
 refine box2 rfl λw6 h6 b6 z6=>h6.rI0 rfl (zz rfl ?_)
 have b26:=b3.on b6
 have hb6:=hb2.on b26
 have hS6:=hS2.below b26
 have hz:(floE x pl).1=0:=by rw[zo2 hF]
 obtain⟨_,hlay,_⟩:=zez hF.ok
 have hsh:=ze3 hlay
 have hnb:=(zam hsh).1
 have F:=Fls.of hp h0 hF.ok
 obtain⟨bs,hbl,hbS,hbB⟩:=(hBs.below b6).ex
 generalize cutF pl pl.length=fl at *
 have hbound:=hbS.bound
 have hsl:=hbS.len
 refine zj.count bs.length hbound (λn w'=>Below w6.heap.size w6 w'/\∀j,j<n->(lbO (fx fl j).bk label).isSome=false) ⟨Below.refl _ _,λj h=>by omega⟩ ?_
 rintro n w9 hn ⟨b9,hj⟩ next hnext
 have hb9:=hb6.on b9
 refine zg (λg=>?_) (λg=>?_)
 rotate_left
 ·exact out [] 3 0 ⟨none,0,0⟩ (hS6.below b9) hb9 (nilO _) nilF (zqe hz λj h1=>hj j (by dsimp only at g;omega))
 have hnb':n<bs.length:=by dsimp only at g;omega
 have hnf:n<fl.length:=by omega
 have hBd:=(hbB n hnb').below b9
 have go:∀{w':World},Below w9.heap.size w9 w'->lbO (fx fl n).bk label=none->next (IntKind.i64.wrap ((n:Int)+1),()) w':=λ{w'} hb hno=>hnext w' hnb' ⟨b9.on hb,λj h1=>by
  by_cases e:j=n
  ·subst e;rw[hno];rfl
  ·exact hj j (by omega)⟩
 refine zk.all ((hbS.below b9).addr hnb' λa ha hc=>⟨some (Gk.blk bs[n]),hc,?_⟩)
 obtain⟨v,hr,gb,tb,M,ov,dp,hBB,hN9,hFn,hM,hl,hG,hD⟩:=hBd.ex
 refine ze rfl ⟨some hr,hBB.cell (n:=9) rfl,zoR hM ?_⟩
 rw[hl]
 refine box4 rfl λw14 h14 b14 z14=>?_
 have b14d:Below w9.heap.size w9 w14.drew:=b14.drew
 cases ho:hmO pl fl label with
 |none=>
  refine zz rfl (go b14d ?_)
  cases hat:lbO (fx fl n).bk label with
  |none=>rfl
  |some k=>
   obtain⟨hk,he⟩:=zg0 hat
   have:=F.homeL hnf hk
   rw[he,ho]at this
   cases this
 |some h=>
  rw[ho]at h14
  have h14:Blk w14 w9.heap.size 78 (hmL h):=h14
  have no:¬(h.2.2.2.1=true/\h.1=(n:Int))->lbO (fx fl n).bk label=none:=λhq=>by
   cases hat:lbO (fx fl n).bk label with
   |none=>rfl
   |some k=>
    obtain⟨hk,he⟩:=zg0 hat
    have:=F.homeL hnf hk
    rw[he,ho]at this
    cases this
    exact absurd ⟨rfl,rfl⟩ hq
  refine zH rfl (h14.drew.rB (n:=3) (x:=h.2.2.2.1) rfl (zn (λhlb=>?_) (λhlb=>go b14d (no λq=>by rw[q.1]at hlb;cases hlb))))
  refine h14.drew.rI0 (x:=h.1) rfl (ze rfl ((hBB.below b14d).rI (n:=3) (x:=(n:Int)) rfl (zm (λhfn=>?_) (λhfn=>go b14d (no λq=>hfn q.2)))))
  obtain⟨k,hk1,hat⟩:=zqG F hnf ho hlb hfn
  obtain⟨hkl,_⟩:=zg0 hat
  have hlE:YF x pl fl label=(livL x.2.1 pl fl n k,0,0):=zmT hz hnf hat hj
  have b14e:=b14d.drew
  refine h14.drew.drew.rI (n:=1) (x:=h.2.1) rfl ?_
  rw[hk1]
  have hF':Flo x pl fl:=hF
  refine zn5 F hF' hp hsh hnf (hBd.below b14e) λw15 u us ML b15 hU hul hML=>⟨u,rfl,?_⟩
  refine⟨?_,hU.addr (by omega) ?_⟩
  ·have:=(h14.drew.drew.below b15).cell (n:=1) (v:=.int .i64 h.2.1) rfl
   rw[hk1]at this
   exact this
  obtain⟨L,hL1,hL2⟩:=hU.keys (k:=k) (by omega)
  refine zc.of (Zn (some us[k]) _ _ (zl λw16 h16 b16 z16=>⟨_,rfl,?_⟩)) λ_ _ h=>h
  have h16:Blk w16 w15.heap.size 88 [.map (some us[k])]:=h16
  have hkey:∀id,id∈L.map (·.1)↔ownP pl fl n id=true/\wanB pl fl n id k=true:=λid=>by
   rw[hL2 id,hML k id hkl,zpD]
  have hpos:∀id,ownP pl fl n id=true->1<=id/\id<x.2.1:=λid ho=>zql F hp h0 hsh ho
  refine zhK (hL1.below b16) h16 (λid hid=>by have:=hpos id ((hkey id).1 hid).1;omega) λr A w17 hO hA1 hA2 hA3 hFr b17=>⟨r,rfl,?_⟩
  have b917:=b14e.on (b15.on (b16.on b17))
  have hAe:A=livL x.2.1 pl fl n k:=zqI hA1 hA3 (λid=>(hA2 id).trans (hkey id)) λid ho=>by have:=hpos id ho;omega
  rw[hAe]at hO
  refine out (livL x.2.1 pl fl n k) 0 0 r ((hS6.below b9).below b917) (hb9.on b917) hO (λa ha=>?_) hlE
  have:=hFr a ha
  have e1:=hb9.size
  have e2:=b14e.size
  have e3:=b15.size
  have e4:=b16.size
  omega
end
end Go.Proofs
namespace Go.Proofs
open Go.Gk Go.RowKit Go.Gm Go.Gr Go.Dm
section
variable {x:Mo} {pl:List PI} {fl:List FnL} {n k i:Nat} {id:Int}
theorem zjM{nx:List (List Nat)}{mk:Nat->Bool}(h0:0<nx.length){i:Nat}(h:SeeN nx mk 0 i){wo:Int}(hw:∀j:Nat,(j:Int)=wo->mk j=true):zO nx wo i:=by
 induction h with
 |zero h=>exact .zero (λe=>by rw[hw 0 (by omega)]at h;cases h) h0
 |step _ h2 h3 ih=>exact .step ih h2 λe=>by rw[hw _ e]at h3;cases h3
theorem znK{nx:List (List Nat)}{mk:Nat->Bool}(h0:0<nx.length){i:Nat}(h:SeeN nx mk 0 i):zO nx (-1) i:=zjM h0 h λj e=>by omega
theorem zoW{q:Int}(hm:mayU pl fl (nxF pl fl n) n id k q=true)(h0:0<(nxF pl fl n).length)(ho:ownP pl fl n id=true)(hs:SeeN (nxF pl fl n) (mkB pl fl n id) 0 k)(hk:mkB pl fl n id k=false):bkO (fx fl n).bk (mkA pl id)=none:=by
 unfold mayU at hm
 rw[if_pos ⟨ho,znK h0 hs⟩]at hm
 cases hb:bkO (fx fl n).bk (mkA pl id) with
 |none=>rfl
 |some b=>
  exfalso
  rw[hb]at hm
  have hmk:∀j:Nat,(j:Int)=(b:Int)->mkB pl fl n id j=true:=λj e=>by
   unfold mkB
   rw[hb,beq_iff_eq]
   exact e.symm
  by_cases e:b=k
  ·rw[hmk k (by omega)]at hk
   cases hk
  ·have hm:(if b=k then _ else(by classical exact decide (¬zO (nxF pl fl n) (b:Int) k)))=true:=hm
   rw[if_neg e]at hm
   have hm:¬zO (nxF pl fl n) (b:Int) k:=by classical exact of_decide_eq_true hm
   exact hm (zjM h0 hs hmk)
theorem zqt(F:Fls pl fl)(hF:Flo x pl fl)(hn:n<fl.length)(hi:i<(fx fl n).bk.length)(ho:ownP pl fl n id=true)(hu:usB pl fl n id i=true):∃q:Int,mayU pl fl (nxF pl fl n) n id i q=true:=by
 have fine:∀{k j:Nat},k<(fx fl n).bk.length->j<pl.length->(bx (fx fl n).bk k).2.1<=(j:Int)->(j:Int)<(bx (fx fl n).bk k).2.2->useU pl fl (nxF pl fl n) n k j=0:=λ{k j} hk hj h1 h2=>by
  have hf:=hF.flt hn hk hj h1 h2
  rw[zkj]at hf
  by_cases g:zcW pl fl n j≠0
  ·rw[if_pos g]at hf
   exact absurd hf g
  rw[if_neg g]at hf
  by_cases g2:phiU pl fl (nxF pl fl n) n k j≠0
  ·rw[if_pos g2]at hf
   exact absurd hf g2
  rwa[if_neg g2]at hf
 rcases znb.1 hu with⟨j,hj,h⟩ | ⟨j,hj,h⟩
 ·unfold usN at h
  rw[Bool.and_eq_true,Bool.and_eq_true,decide_eq_true_eq,bne_iff_ne,List.contains_iff_mem]at h
  obtain⟨⟨h1,h2⟩,h3,h4⟩:=h
  have hf:=fine hi hj h1 h2
  unfold useU at hf
  rw[if_pos h3]at hf
  refine⟨(j:Int),?_⟩
  cases hm:mayU pl fl (nxF pl fl n) n id i j with
  |true=>rfl
  |false=>rw[if_pos (List.any_eq_true.2 ⟨id,h4,by rw[hm];rfl⟩)]at hf;cases hf
 ·unfold usP at h
  rw[Bool.and_eq_true,Bool.and_eq_true,decide_eq_true_eq,beq_iff_eq,List.any_eq_true]at h
  obtain⟨⟨h1,h2⟩,h3,k,hk,h4⟩:=h
  rw[List.mem_range]at hk
  unfold usQ at h4
  rw[Bool.and_eq_true,beq_iff_eq,beq_iff_eq]at h4
  obtain⟨h4,h5⟩:=h4
  obtain⟨A,E,q1,q2,q3,q4,q5,_,T⟩:=F.tl hn
  have hA:j≠A:=λe=>by
   subst e
   rw[q5]at h3
   cases h3
  rcases T.all j (by omega) (by omega) with hp | ⟨b,hb,b1,b2⟩
  ·obtain⟨m,e1,_,_,e2⟩:=T.par _ hp
   have:m=j:=by omega
   subst this
   rw[e2]at h3
   cases h3
  ·obtain⟨kk,hkk,rfl⟩:=List.getElem_of_mem hb
   have hbx:bx (fx fl n).bk kk=(fx fl n).bk[kk]:=zt hkk
   have hf:=fine hkk hj (by rw[hbx];exact b1) (by rw[hbx];exact b2)
   unfold useU at hf
   rw[if_neg (λg=>g h3)]at hf
   have hlb:lbN (fx fl n).bk ((ix pl j).2.2.2.getD (2*k+1) ag0).2.1=i:=by
    rw[h5]
    unfold lbN
    rw[zhi (F.lab _ (YJ hn)) hi]
    rfl
   refine⟨(bx (fx fl n).bk i).2.2,?_⟩
   cases hm:mayU pl fl (nxF pl fl n) n id i (bx (fx fl n).bk i).2.2 with
   |true=>rfl
   |false=>
    rw[if_pos (List.any_eq_true.2 ⟨k,List.mem_range.2 (by omega),by rw[hlb,h4,hm];rfl⟩)]at hf
    cases hf
theorem zo1(F:Fls pl fl)(hF:Flo x pl fl)(hn:n<fl.length)(ok:NxOk (nxF pl fl n))(ho:ownP pl fl n id=true)(hw:wanB pl fl n id 0=true):∃m:Nat,(m:Int)∈(fx fl n).ps/\(ix pl m).2.2.1=id:=by
 unfold wanB at hw
 have hw:WanN (nxF pl fl n) (mkB pl fl n id) (usB pl fl n id) 0:=by classical exact of_decide_eq_true hw
 obtain⟨i,hs,hu⟩:=zqu.1 hw
 have hl:=zhY pl fl n
 have hne:=(F.fn _ (YJ hn)).ne
 have h0:0<(fx fl n).bk.length:=List.length_pos_iff.2 hne
 have hi:=hs.lt ok (by omega)
 obtain⟨q,hm⟩:=zqt F hF hn (by omega) ho hu
 have hbo:=zoW hm (by omega) ho hs hs.mk_of
 obtain⟨hh,hh1,hh2,hh3⟩:=zcB ho
 obtain⟨m,j,e1,e2,e3,e4,e5,e6,e7,e8,e9⟩:=F.home_inv hh1
 have hmn:m=n:=by omega
 subst hmn
 rcases e9 with⟨_,g2,_⟩ | ⟨b,hb,g1,g2,g3,g4⟩
 ·exact⟨j,g2,e5⟩
 ·have:=F.bkO_at e2 hb g2 g3
  rw[<-e4,(zj4 hh1 hh2).2,hbo]at this
  cases this
theorem zp5(F:Fls pl fl)(hn:n<fl.length)(ok:NxOk (nxF pl fl n)){b p:Nat}(hp:p∈(zD (nxF pl fl n)).getD b [])(ho:ownP pl fl n id=true)(hw:wanB pl fl n id b=true) :
  (∃m:Nat,(bx (fx fl n).bk p).2.1<=(m:Int)/\(m:Int)<(bx (fx fl n).bk p).2.2/\(ix pl m).2.2.1=id)\/wanB pl fl n id p=true:=by
 unfold wanB at hw⊢
 have hw:WanN (nxF pl fl n) (mkB pl fl n id) (usB pl fl n id) b:=by classical exact of_decide_eq_true hw
 cases hmk:mkB pl fl n id p with
 |false=>exact .inr (by classical exact decide_eq_true (.step hmk ((zgi ok).1 hp) hw))
 |true=>
  left
  unfold mkB at hmk
  rw[beq_iff_eq]at hmk
  obtain⟨hh,hh1,hh2,hh3⟩:=zcB ho
  obtain⟨m,j,e1,e2,e3,e4,e5,e6,e7,e8,e9⟩:=F.home_inv hh1
  have hj:=(zj4 hh1 hh2).2
  cases hb:bkO (fx fl n).bk (mkA pl id) with
  |none=>rw[hb]at hmk;have hmk:(-1:Int)=(p:Int):=hmk;omega
  |some k=>
   rw[hb]at hmk
   have hmk:(k:Int)=(p:Int):=hmk
   have:k=p:=by omega
   subst this
   obtain⟨_,hd,_⟩:=zal hb
   have hd:=of_decide_eq_true hd
   rw[<-hj,e4]at hd
   exact⟨j,hd.1,hd.2,e5⟩
theorem zqM(F:Fls pl fl)(hF:Flo x pl fl)(hn:n<fl.length):NxOk (nxF pl fl n):=by
 have hg:=hF.gnw hn
 have hle:(fx fl n).bk.length<=4096:=by
  unfold gnwE at hg
  rw[if_neg (λq=>q hF.ok),if_neg (show ¬(fx fl n ∉ cutF pl pl.length) from λq=>q (by rw[<-F.cut];exact YJ hn))]at hg
  by_cases e:4096<(fx fl n).bk.length
  ·rw[if_pos e]at hg;exact absurd (show(4:Int)=0 from hg) (by decide)
  ·omega
 have hpos:0<(fx fl n).bk.length:=List.length_pos_iff.2 (F.fn _ (YJ hn)).ne
 have hrl:(Y2 pl (fx fl n).bk).length=(fx fl n).bk.length:=by unfold Y2;rw[List.length_map]
 refine zkP (by omega) (by omega) λl hl v hv=>?_
 rw[hrl]
 unfold Y2 at hl
 obtain⟨c,_,rfl⟩:=List.mem_map.1 hl
 cases hf:fndP (lblM (fx fl n).bk) (blkT pl c) with
 |none=>rw[hf]at hv;cases hv
 |some ls=>
  rw[hf]at hv
  have hv:v∈ls:=hv
  unfold fndP at hf
  split at hf
  ·rename_i hall
   cases hf
   obtain⟨y,hy,rfl⟩:=List.mem_map.1 hv
   have:=List.all_eq_true.1 hall y hy
   cases hl2:zL (lblM (fx fl n).bk) y with
   |none=>rw[hl2]at this;cases this
   |some v=>
    have:=ziC _ _ _ _ hl2
    show 0<=v/\v<_
    omega
  ·cases hf
end
end Go.Proofs
namespace Go.Proofs
open Go.Gk Go.RowKit Go.Gm Go.Gr Go.Dm
section
variable {x:Mo} {pl:List PI} {fl:List FnL} {w:World} {R:VWP} {n k:Nat} {lab e a:Int} {l:List Int}
theorem zoQ(F:Fls pl fl)(hz:(floE x pl).1=0)(hn:n<fl.length)(hk:k<(fx fl n).bk.length):YF x pl fl (bx (fx fl n).bk k).1=(livL x.2.1 pl fl n k,0,0):=by
 refine zmT hz hn (zhi (F.lab _ (YJ hn)) hk) λj hj=>?_
 cases h:lbO (fx fl j).bk (bx (fx fl n).bk k).1 with
 |none=>rfl
 |some m=>
  exfalso
  obtain⟨h1,h2⟩:=zg0 h
  have e1:=F.homeL hn hk
  have e2:=F.homeL (n:=j) (by omega) h1
  rw[h2,e1]at e2
  cases e2
  omega
theorem zkh{fs:Sl}{L:List Fe}(h:Fns w fs L){k:Nat}(hk:k<L.length){φ:Addr->Sl->Prop}(hφ:∀a,w.cell? ((a.add (Int.toNat (k:Int)*5)).add 3)=some (.slice L[k].2.2.a L[k].2.2.l L[k].2.2.c)->φ a L[k].2.2) :
  (0<=(k:Int)/\(k:Int)<(fs.l:Int))/\za fs.a λa=>ldS w ((a.add (Int.toNat (k:Int)*5)).add 3) λs=>φ a s:=by
 have hc:IsC 5 feV w fs L:=Own.isC zcL (by omega) h.own
 obtain⟨a,ha⟩:=hc.base hk
 have hcell:w.cell? ((a.add (Int.toNat (k:Int)*5)).add 3)=some (.slice L[k].2.2.a L[k].2.2.l L[k].2.2.c):=by rw[zs];exact hc.cell a ha k hk 3 (by omega)
 exact⟨⟨by omega,by have:=h.len;omega⟩,ze ha ⟨L[k].2.2,hcell,hφ a hcell⟩⟩
theorem zmM{s:Sl}{l:List (Int×Int×Int)}(h:IsBk w s l){k:Nat}(hk:k<l.length){φ:Addr->Int->Prop}(hφ:∀a,w.cell? (a.add (Int.toNat (k:Int)*3))=some (.int .u32 l[k].1)->φ a l[k].1) :
  (0<=(k:Int)/\(k:Int)<(s.l:Int))/\za s.a λa=>ldI w (a.add (Int.toNat (k:Int)*3)) .u32 λy=>φ a y:=by
 obtain⟨a,ha⟩:=h.base hk
 have hcell:w.cell? (a.add (Int.toNat (k:Int)*3))=some (.int .u32 l[k].1):=h.cell a ha k hk 0 (by omega)
 exact⟨⟨by omega,by have:=h.len;omega⟩,ze ha ⟨_,hcell,hφ a hcell⟩⟩
theorem zpO{s:Sl}{l:List (Int×Int×Int)}(h:IsBk w s l){k:Nat}(hk:k<l.length){φ:Addr->Int->Int->Int->Prop}(hφ:∀a,w.cell? ((a.add (Int.toNat (k:Int)*3)).add 0)=some (.int .u32 l[k].1)->w.cell? ((a.add (Int.toNat (k:Int)*3)).add 1)=some (.int .i64 l[k].2.1)->w.cell? ((a.add (Int.toNat (k:Int)*3)).add 2)=some (.int .i64 l[k].2.2)->φ a l[k].1 l[k].2.1 l[k].2.2) :
  (0<=(k:Int)/\(k:Int)<(s.l:Int))/\za s.a λa=>ldI w ((a.add (Int.toNat (k:Int)*3)).add 0) .u32 λx=>ldI w ((a.add (Int.toNat (k:Int)*3)).add 1) .i64 λy=>ldI w ((a.add (Int.toNat (k:Int)*3)).add 2) .i64 λz=>φ a x y z:=by
 obtain⟨a,ha⟩:=h.base hk
 have hc:=h.cell a ha k hk
 have c0:w.cell? ((a.add (Int.toNat (k:Int)*3)).add 0)=some (.int .u32 l[k].1):=by rw[zs];exact hc 0 (by omega)
 have c1:w.cell? ((a.add (Int.toNat (k:Int)*3)).add 1)=some (.int .i64 l[k].2.1):=by rw[zs];exact hc 1 (by omega)
 have c2:w.cell? ((a.add (Int.toNat (k:Int)*3)).add 2)=some (.int .i64 l[k].2.2):=by rw[zs];exact hc 2 (by omega)
 exact⟨⟨by omega,by have:=h.len;omega⟩,ze ha ⟨_,c0,_,c1,_,c2,hφ a c0 c1 c2⟩⟩
theorem zq9{s:Sl}{l:List Int}(h:IsI w s l){k:Nat}(hk:k<l.length){φ:Addr->Int->Prop}(hφ:∀a,w.cell? (a.add (Int.toNat (k:Int)))=some (.int .i64 l[k])->φ a l[k]) :
  (0<=(k:Int)/\(k:Int)<(s.l:Int))/\za s.a λa=>ldI w (a.add (Int.toNat (k:Int))) .i64 λy=>φ a y:=h.addr hk λa _ hc=>⟨l[k],hc,hφ a hc⟩
theorem zg7{w' w'':World}{r:Sl}{L:List Value}{sb:Nat}{v:List Value}(hO:Own w' 22 1 r L)(hD:Blk w' sb 29 v)(c:Chg sb w' w''):Own w'' 22 1 r L:=
 hO.of_block λa ha=>c.block _ λe=>by
  obtain⟨cs,hc⟩:=hO.type ha
  exact Blk.apart hc hD (by decide) e
theorem zoO{bm:Nat}{c0:Addr}(hB:Blk w bm 25 (moV x))(hN:IsPl w x.2.2.1 pl)(hp:PlOk pl)(h0:0<=x.2.1)(k0:w.cell? c0=some (.int .u32 lab))(hE:YF x pl (cutF pl pl.length) lab=(l,e,a))
  {M:Sl->Nat->World->Prop} (hM:∀w' r sb,Below w.heap.size w w'->Own w' 22 1 r (l.map (Value.int .u32))->Blk w' sb 29 [.int .i64 e,.int .i64 a]->M r sb w') :
  (cR 8 #[(.agg #[(.int .u32 x.1),(.int .u32 x.2.1),(.slice x.2.2.1.a x.2.2.1.l x.2.2.1.c)])] w λv29 w11=>
  ∃x30:(Int×Int×Sl×Unit),v29=(.agg #[(.int .u32 x30.1),(.int .u32 x30.2.1),(.slice x30.2.2.1.a x30.2.2.1.l x30.2.2.1.c)])/\
  w11.cell? c0=some (.int .u32 lab)/\
  (cR 7 #[(.agg #[(.int .u32 x30.1),(.int .u32 x30.2.1),(.slice x30.2.2.1.a x30.2.2.1.l x30.2.2.1.c)]),(.int .u32 lab)] w11 λv31 w12=>
  ∃x32:Sl,∃x33:(Int×Int×Unit),v31=(.tuple #[(.slice x32.a x32.l x32.c),(.agg #[(.int .i64 x33.1),(.int .i64 x33.2.1)])])/\
  Nw (w12.alloc (.cells #[(.int .i64 (0:Int)),(.int .i64 (0:Int))] 29)) λw13=>
  Wr w13 (blk w12.heap.size)/\
  Nw (w13.setCell (blk w12.heap.size) (.int .i64 x33.1)) λw14=>
  Wr w14 ((blk w12.heap.size).add 1)/\
  Nw (w14.setCell ((blk w12.heap.size).add 1) (.int .i64 x33.2.1)) λw15=>
  M x32 w12.heap.size w15)/\
  Nw (w11.alloc (.cells #[(.int .i64 (0:Int)),(.int .i64 (0:Int))] 29)) λw16=>
  w16.cell? c0=some (.int .u32 lab)/\
  cR 7 #[(.agg #[(.int .u32 x30.1),(.int .u32 x30.2.1),(.slice x30.2.2.1.a x30.2.2.1.l x30.2.2.1.c)]),(.int .u32 lab)] w16 λv34 w17=>
  ∃x35:Sl,∃x36:(Int×Int×Unit),v34=(.tuple #[(.slice x35.a x35.l x35.c),(.agg #[(.int .i64 x36.1),(.int .i64 x36.2.1)])])/\
  Wr w17 (blk w11.heap.size)/\
  Nw (w17.setCell (blk w11.heap.size) (.int .i64 x36.1)) λw18=>
  Wr w18 ((blk w11.heap.size).add 1)/\
  Nw (w18.setCell ((blk w11.heap.size).add 1) (.int .i64 x36.2.1)) λw19=>
  M x35 w11.heap.size w19)/\
  Nw (w.alloc (.cells #[(.int .i64 (0:Int)),(.int .i64 (0:Int))] 29)) λw20=>
  w20.cell? c0=some (.int .u32 lab)/\
  w20.cell? ((blk bm).add 0)=some (.int .u32 x.1)/\
  w20.cell? ((blk bm).add 1)=some (.int .u32 x.2.1)/\
  w20.cell? ((blk bm).add 2)=some (.slice x.2.2.1.a x.2.2.1.l x.2.2.1.c)/\
  cR 8 #[(.agg #[(.int .u32 x.1),(.int .u32 x.2.1),(.slice x.2.2.1.a x.2.2.1.l x.2.2.1.c)])] w20 λv37 w21=>
  ∃x38:(Int×Int×Sl×Unit),v37=(.agg #[(.int .u32 x38.1),(.int .u32 x38.2.1),(.slice x38.2.2.1.a x38.2.2.1.l x38.2.2.1.c)])/\
  w21.cell? c0=some (.int .u32 lab)/\
  cR 7 #[(.agg #[(.int .u32 x38.1),(.int .u32 x38.2.1),(.slice x38.2.2.1.a x38.2.2.1.l x38.2.2.1.c)]),(.int .u32 lab)] w21 λv39 w22=>
  ∃x40:Sl,∃x41:(Int×Int×Unit),v39=(.tuple #[(.slice x40.a x40.l x40.c),(.agg #[(.int .i64 x41.1),(.int .i64 x41.2.1)])])/\
  Wr w22 (blk w.heap.size)/\
  Nw (w22.setCell (blk w.heap.size) (.int .i64 x41.1)) λw23=>
  Wr w23 ((blk w.heap.size).add 1)/\
  Nw (w23.setCell ((blk w.heap.size).add 1) (.int .i64 x41.2.1)) λw24=>
  M x40 w.heap.size w24:=by
 have lv:∀{w'} (ca:Nat) {R':VWP},IsPl w' ⟨some (blk ca),pl.length,pl.length⟩ pl->(∀w'' r,Own w'' 22 1 r (l.map (Value.int .u32))->Below w'.heap.size w' w''->R' (.tuple #[.slice r.a r.l r.c,.agg #[.int .i64 e,.int .i64 a]]) w'')->
   cR 7 #[moA (x.1,x.2.1,⟨some (blk ca),pl.length,pl.length⟩,()),.int .u32 lab] w' R':=λ{w'} ca {R'} hC hR'=>by
  refine zi3 (x:=(x.1,x.2.1,⟨some (blk ca),pl.length,pl.length⟩,())) hC hp h0 λw'' r hr _ hb=>?_
  have hE':YF (x.1,x.2.1,⟨some (blk ca),pl.length,pl.length⟩,()) pl (cutF pl pl.length) lab=(l,e,a):=hE
  rw[hE']at hr⊢
  exact hR' w'' r hr hb
 refine⟨?_,?_⟩
 ·refine yb (x:=x) hN hp λcb w11 _ _ hC11 b11=>⟨(x.1,x.2.1,⟨some (blk cb),pl.length,pl.length⟩,()),rfl,z0 b11 k0,?_,?_⟩
  ·refine lv cb hC11 λw12 r hr b12=>⟨r,(e,a,()),rfl,?_⟩
   refine box2 rfl λw15 hS15 b15 z15=>hM w15 r w12.heap.size ((b11.on b12).on b15) (hr.below b15) hS15
  ·refine zl λw16 hD16 b16 z16=>?_
   have hD16:Blk w16 w11.heap.size 29 [.int .i64 0,.int .i64 0]:=hD16
   refine⟨z0 (b11.on b16) k0,lv cb (hC11.below b16) λw17 r hr b17=>⟨r,(e,a,()),rfl,?_⟩⟩
   have hD17:=hD16.below b17
   refine st2 hD17 rfl λw19 hS19 c19=>hM w19 r w11.heap.size (c19.below ((b11.on b16).on b17) b11.size) (zg7 hr hD17 c19) hS19
 ·refine zl λw20 hD20 b20 z20=>?_
  have hD20:Blk w20 w.heap.size 29 [.int .i64 0,.int .i64 0]:=hD20
  have hB20:=hB.below b20
  refine⟨z0 b20 k0,hB20.cell (n:=0) rfl,hB20.cell (n:=1) rfl,hB20.cell (n:=2) rfl,?_⟩
  refine yb (x:=x) (hN.below b20) hp λcb w21 _ _ hC21 b21=>⟨(x.1,x.2.1,⟨some (blk cb),pl.length,pl.length⟩,()),rfl,z0 (b20.on b21) k0,?_⟩
  refine lv cb hC21 λw22 r hr b22=>⟨r,(e,a,()),rfl,?_⟩
  have hD22:=(hD20.below b21).below b22
  refine st2 hD22 rfl λw24 hS24 c24=>hM w24 r w.heap.size (c24.below ((b20.on b21).on b22) (Nat.le_refl _)) (zg7 hr hD22 c24) hS24
theorem zlg{bm:Nat}{c0 c1:Addr}{s3:Sl}(hB:Blk w bm 25 (moV x))(hN:IsPl w x.2.2.1 pl)(hp:PlOk pl)(h0:0<=x.2.1)(k0:w.cell? c0=some (.int .u32 lab))(k1:w.cell? c1=some (.slice s3.a s3.l s3.c))(hE:YF x pl (cutF pl pl.length) lab=(l,e,a))
  {M:Sl->Nat->World->Prop} (hM:∀w' r sb,Below w.heap.size w w'->Own w' 22 1 r (l.map (Value.int .u32))->Blk w' sb 29 [.int .i64 e,.int .i64 a]->M r sb w') :
  (cR 8 #[(.agg #[(.int .u32 x.1),(.int .u32 x.2.1),(.slice x.2.2.1.a x.2.2.1.l x.2.2.1.c)])] w λv29 w11=>
  ∃x30:(Int×Int×Sl×Unit),v29=(.agg #[(.int .u32 x30.1),(.int .u32 x30.2.1),(.slice x30.2.2.1.a x30.2.2.1.l x30.2.2.1.c)])/\
  w11.cell? c0=some (.int .u32 lab)/\
  w11.cell? c1=some (.slice s3.a s3.l s3.c)/\
  (cR 7 #[(.agg #[(.int .u32 x30.1),(.int .u32 x30.2.1),(.slice x30.2.2.1.a x30.2.2.1.l x30.2.2.1.c)]),(.int .u32 lab)] w11 λv31 w12=>
  ∃x32:Sl,∃x33:(Int×Int×Unit),v31=(.tuple #[(.slice x32.a x32.l x32.c),(.agg #[(.int .i64 x33.1),(.int .i64 x33.2.1)])])/\
  Nw (w12.alloc (.cells #[(.int .i64 (0:Int)),(.int .i64 (0:Int))] 29)) λw13=>
  Wr w13 (blk w12.heap.size)/\
  Nw (w13.setCell (blk w12.heap.size) (.int .i64 x33.1)) λw14=>
  Wr w14 ((blk w12.heap.size).add 1)/\
  Nw (w14.setCell ((blk w12.heap.size).add 1) (.int .i64 x33.2.1)) λw15=>
  M x32 w12.heap.size w15)/\
  Nw (w11.alloc (.cells #[(.int .i64 (0:Int)),(.int .i64 (0:Int))] 29)) λw16=>
  w16.cell? c0=some (.int .u32 lab)/\
  w16.cell? c1=some (.slice s3.a s3.l s3.c)/\
  cR 7 #[(.agg #[(.int .u32 x30.1),(.int .u32 x30.2.1),(.slice x30.2.2.1.a x30.2.2.1.l x30.2.2.1.c)]),(.int .u32 lab)] w16 λv34 w17=>
  ∃x35:Sl,∃x36:(Int×Int×Unit),v34=(.tuple #[(.slice x35.a x35.l x35.c),(.agg #[(.int .i64 x36.1),(.int .i64 x36.2.1)])])/\
  Wr w17 (blk w11.heap.size)/\
  Nw (w17.setCell (blk w11.heap.size) (.int .i64 x36.1)) λw18=>
  Wr w18 ((blk w11.heap.size).add 1)/\
  Nw (w18.setCell ((blk w11.heap.size).add 1) (.int .i64 x36.2.1)) λw19=>
  M x35 w11.heap.size w19)/\
  Nw (w.alloc (.cells #[(.int .i64 (0:Int)),(.int .i64 (0:Int))] 29)) λw20=>
  w20.cell? c0=some (.int .u32 lab)/\
  w20.cell? c1=some (.slice s3.a s3.l s3.c)/\
  w20.cell? ((blk bm).add 0)=some (.int .u32 x.1)/\
  w20.cell? ((blk bm).add 1)=some (.int .u32 x.2.1)/\
  w20.cell? ((blk bm).add 2)=some (.slice x.2.2.1.a x.2.2.1.l x.2.2.1.c)/\
  cR 8 #[(.agg #[(.int .u32 x.1),(.int .u32 x.2.1),(.slice x.2.2.1.a x.2.2.1.l x.2.2.1.c)])] w20 λv37 w21=>
  ∃x38:(Int×Int×Sl×Unit),v37=(.agg #[(.int .u32 x38.1),(.int .u32 x38.2.1),(.slice x38.2.2.1.a x38.2.2.1.l x38.2.2.1.c)])/\
  w21.cell? c0=some (.int .u32 lab)/\
  w21.cell? c1=some (.slice s3.a s3.l s3.c)/\
  cR 7 #[(.agg #[(.int .u32 x38.1),(.int .u32 x38.2.1),(.slice x38.2.2.1.a x38.2.2.1.l x38.2.2.1.c)]),(.int .u32 lab)] w21 λv39 w22=>
  ∃x40:Sl,∃x41:(Int×Int×Unit),v39=(.tuple #[(.slice x40.a x40.l x40.c),(.agg #[(.int .i64 x41.1),(.int .i64 x41.2.1)])])/\
  Wr w22 (blk w.heap.size)/\
  Nw (w22.setCell (blk w.heap.size) (.int .i64 x41.1)) λw23=>
  Wr w23 ((blk w.heap.size).add 1)/\
  Nw (w23.setCell ((blk w.heap.size).add 1) (.int .i64 x41.2.1)) λw24=>
  M x40 w.heap.size w24:=by
 have lv:∀{w'} (ca:Nat) {R':VWP},IsPl w' ⟨some (blk ca),pl.length,pl.length⟩ pl->(∀w'' r,Own w'' 22 1 r (l.map (Value.int .u32))->Below w'.heap.size w' w''->R' (.tuple #[.slice r.a r.l r.c,.agg #[.int .i64 e,.int .i64 a]]) w'')->
   cR 7 #[moA (x.1,x.2.1,⟨some (blk ca),pl.length,pl.length⟩,()),.int .u32 lab] w' R':=λ{w'} ca {R'} hC hR'=>by
  refine zi3 (x:=(x.1,x.2.1,⟨some (blk ca),pl.length,pl.length⟩,())) hC hp h0 λw'' r hr _ hb=>?_
  have hE':YF (x.1,x.2.1,⟨some (blk ca),pl.length,pl.length⟩,()) pl (cutF pl pl.length) lab=(l,e,a):=hE
  rw[hE']at hr⊢
  exact hR' w'' r hr hb
 refine⟨?_,?_⟩
 ·refine yb (x:=x) hN hp λcb w11 _ _ hC11 b11=>⟨(x.1,x.2.1,⟨some (blk cb),pl.length,pl.length⟩,()),rfl,z0 b11 k0,z0 b11 k1,?_,?_⟩
  ·refine lv cb hC11 λw12 r hr b12=>⟨r,(e,a,()),rfl,?_⟩
   refine box2 rfl λw15 hS15 b15 z15=>hM w15 r w12.heap.size ((b11.on b12).on b15) (hr.below b15) hS15
  ·refine zl λw16 hD16 b16 z16=>?_
   have hD16:Blk w16 w11.heap.size 29 [.int .i64 0,.int .i64 0]:=hD16
   refine⟨z0 (b11.on b16) k0,z0 (b11.on b16) k1,lv cb (hC11.below b16) λw17 r hr b17=>⟨r,(e,a,()),rfl,?_⟩⟩
   have hD17:=hD16.below b17
   refine st2 hD17 rfl λw19 hS19 c19=>hM w19 r w11.heap.size (c19.below ((b11.on b16).on b17) b11.size) (zg7 hr hD17 c19) hS19
 ·refine zl λw20 hD20 b20 z20=>?_
  have hD20:Blk w20 w.heap.size 29 [.int .i64 0,.int .i64 0]:=hD20
  have hB20:=hB.below b20
  refine⟨z0 b20 k0,z0 b20 k1,hB20.cell (n:=0) rfl,hB20.cell (n:=1) rfl,hB20.cell (n:=2) rfl,?_⟩
  refine yb (x:=x) (hN.below b20) hp λcb w21 _ _ hC21 b21=>⟨(x.1,x.2.1,⟨some (blk cb),pl.length,pl.length⟩,()),rfl,z0 (b20.on b21) k0,z0 (b20.on b21) k1,?_⟩
  refine lv cb hC21 λw22 r hr b22=>⟨r,(e,a,()),rfl,?_⟩
  have hD22:=(hD20.below b21).below b22
  refine st2 hD22 rfl λw24 hS24 c24=>hM w24 r w.heap.size (c24.below ((b20.on b21).on b22) (Nat.le_refl _)) (zg7 hr hD22 c24) hS24
def FiQ(w0:World)(l:List Int)(st:Sl×(Option Addr)×Unit)(w':World):Prop:=
 ∃(r:Sl) (sb:Nat),st=(r,some (blk sb),())/\Own w' 22 1 r (l.map (Value.int .u32))/\Blk w' sb 29 [.int .i64 0,.int .i64 0]/\Below w0.heap.size w0 w'
def FiR(w0:World)(l:List Int)(st:Sl×Unit)(w':World):Prop:=Own w' 22 1 st.1 (l.map (Value.int .u32))/\Below w0.heap.size w0 w'
def FiG(nx:List (List Nat))(w0:World)(st:(Option Addr)×Unit)(w':World):Prop:=GP w' st.1 nx/\Below w0.heap.size w0 w'
set_option maxHeartbeats 4000000 in
theorem zih{q:Int}(hN:IsPl w x.2.2.1 pl)(hp:PlOk pl)(hbd:0<=x.2.1/\x.2.1<=4294967295)(hR:∀w',Below w.heap.size w w'->R (.bool true) w'):cR 4 #[moA x,.int .i64 q] w R:=by
 refine zc.of (zaf x q R w ?_) λ_ _ h=>h
 refine zl λw1 hB1 b1 z1=>?_
 have hB1:Blk w1 w.heap.size 25 (moV x):=hB1
 refine zlG λw2 b2=>⟨true,rfl,zz rfl ?_⟩
 have hb2:=b1.on b2
 refine Mo.load (hB1.below b2) (yb (x:=x) (hN.below hb2) hp λcb w3 _ _ hC3 b3=>⟨(x.1,x.2.1,⟨some (blk cb),pl.length,pl.length⟩,()),rfl,?_⟩)
 refine zdT (x:=(x.1,x.2.1,⟨some (blk cb),pl.length,pl.length⟩,())) hC3 hp hbd.1 λw4 b4=>⟨((floE x pl).1,(floE x pl).2,()),rfl,?_⟩
 have b24:=b3.on b4
 have hb4:=hb2.on b24
 refine zE (λ_=>hR w4 hb4) (λhfl=>?_)
 have hfl:(floE x pl).1=0:=hfl
 have hF:=zqB hfl
 have F:=Fls.of hp hbd.1 hF.ok
 obtain⟨_,hlay,_⟩:=zez hF.ok
 have hsh:=ze3 hlay
 refine Mo.load ((hB1.below b2).below b24) (yb (x:=x) (hN.below hb4) hp λcb2 w5 _ _ hC5 b5=>⟨(x.1,x.2.1,⟨some (blk cb2),pl.length,pl.length⟩,()),rfl,?_⟩)
 refine zif (x:=(x.1,x.2.1,⟨some (blk cb2),pl.length,pl.length⟩,())) hC5 hp (λfs L w6 _ b6 hL6 hLc=>⟨fs,(0,0,()),rfl,?_⟩) (λw6 hne _=>absurd hlay hne)
 refine box2 rfl λw9 hS9 b9 z9=>?_
 have b49:=(b5.on b6).on b9
 have hb9:=hb4.on b49
 have hL9:=hL6.below b9
 have hB9:=((hB1.below b2).below b24).below b49
 generalize hcut:cutF pl pl.length=fl at F hF hLc
 have hll:=hL9.len
 have hlen:=hp.len
 refine zk.cut (λ(_:Unit) w'=>w'=w9/\0<=q/\q<(L.length:Int)) ?_ ?_
 ·exact zg (λ_=>hR w9 hb9) (λg1=>zg (λ_=>hR w9 hb9) (λg2=>⟨rfl,by omega,by omega⟩))
 rintro _ w10 ⟨rfl,h0,h1⟩
 obtain⟨n,rfl⟩:=Int.eq_ofNat_of_zero_le h0
 have hlt:n<L.length:=by omega
 have hLf:L.length=fl.length:=by rw[<-hLc,List.length_map]
 have hnf:n<fl.length:=by omega
 have hfe:L[n].1=fx fl n:=by
  unfold fx
  rw[zt hnf]
  have:(L.map (·.1))[n]'(by rwa[List.length_map])=fl[n]'hnf:=by congr 1
  rwa[List.getElem_map]at this
 have hok:=F.fn _ (YJ hnf)
 have h0b:0<(fx fl n).bk.length:=List.length_pos_iff.2 hok.ne
 have hE:∀k,k<(fx fl n).bk.length->YF x pl (cutF pl pl.length) (bx (fx fl n).bk k).1=(livL x.2.1 pl fl n k,0,0):=λk hk=>by rw[hcut];exact zoQ F hfl hnf hk
 have hbk:∀{w':World},Below w10.heap.size w10 w'->IsBk w' L[n].2.2 (fx fl n).bk:=λ{w'} hb=>by
  have:=(hL9.below hb).isFn (List.getElem_mem hlt)
  rw[hfe]at this
  exact this.bk
 have hps:∀{w':World},Below w10.heap.size w10 w'->IsI w' L[n].2.1 (fx fl n).ps:=λ{w'} hb=>by
  have:=(hL9.below hb).isFn (List.getElem_mem hlt)
  rw[hfe]at this
  exact this.ps
 have hbx:∀k (h:k<(fx fl n).bk.length),(fx fl n).bk[k]=bx (fx fl n).bk k:=λk h=>(zt h).symm
 have livp:∀k,(livL x.2.1 pl fl n k).length<=4294967295:=λk=>by
  have:=zoM pl fl n k (x.2.1-1).toNat
  show(livN pl fl n k (x.2.1-1).toNat).length<=_
  omega
 have bd10:Below w10.heap.size w10 w10.drew:=(Below.refl _ _).drew
 refine zk.cut (FiQ w10 (livL x.2.1 pl fl n 0)) ?_ ?_
 ·refine Mo.load (hB9.below bd10) (zkh (hL9.below bd10) hlt λa25 k1=>zmM (k:=0) (hbk bd10) h0b λa27 k0=>?_)
  rw[hbx 0 h0b]at k0⊢
  exact zlg (M:=λr sb w'=>FiQ w10 (livL x.2.1 pl fl n 0) (r,some (blk sb),()) w') (hB9.below bd10) (hN.below (hb9.on bd10)) hp hbd.1 k0 k1 (hE 0 h0b) λw' r sb hb hO hS=>⟨r,sb,rfl,hO,hS,bd10.on hb⟩
 rintro _ w25 ⟨r0,sb,rfl,hO25,hS25,b25⟩
 refine ze rfl (hS25.rI0 rfl (zz rfl ?_))
 have hb25:=hb9.on b25
 have hI25:=hO25.isS
 have hl25:=hI25.len
 have ok:NxOk (nxF pl fl n):=zqM F hF hnf
 have pos0:∀id∈livL x.2.1 pl fl n 0,∃m:Nat,(m:Int)∈(fx fl n).ps/\(ix pl m).2.2.1=id:=λid hid=>by
  obtain⟨_,g1,g2⟩:=zhU.1 hid
  exact zo1 F hF hnf ok g1 g2
 refine zj.count (livL x.2.1 pl fl n 0).length hI25.bound (λ_ w'=>Below w25.heap.size w25 w') (Below.refl _ _) ?_
 intro k w26 hk b26 next hnext
 have b26':=b25.on b26
 refine zg (λg=>?_) (λg=>?_)
 ·have hkl:k<(livL x.2.1 pl fl n 0).length:=by dsimp only at g;omega
  obtain⟨m0,hm0,hm1⟩:=pos0 _ (List.getElem_mem hkl)
  obtain⟨i0,hi0,hi1⟩:=List.getElem_of_mem hm0
  refine zj.ghost (λm (st:Bool×Int×Unit) w'=>∃j:Nat,st.2.1=(j:Int)/\j<=(fx fl n).ps.length/\m=(fx fl n).ps.length-j/\Below w26.heap.size w26 w'/\(i0<j->st.1=true)) (fx fl n).ps.length ⟨0,rfl,Nat.zero_le _,rfl,Below.refl _ _,λh=>by omega⟩ ?_
  rintro _ ⟨bl,_,_⟩ w27 ⟨j,rfl,hj,rfl,b27,hbl⟩ next2 hnext2
  have b27':=b26'.on b27
  have hpl:=(hps b27').len
  have hpb:=(hps b27').bound
  refine zov (hL9.below b27') hlt (zg (λg2=>?_) (λg2=>?_))
  ·have hjl:j<(fx fl n).ps.length:=by dsimp only at g2;omega
   obtain⟨m,hm,hml,_⟩:=F.homeP hnf (List.getElem_mem hjl)
   have go:∀b2:Bool,(b2=bl\/b2=true)->(i0=j->b2=true)->next2 (b2,IntKind.i64.wrap ((j:Int)+1),()) w27.drew:=λb2 h1 h2=>by
    rw[zr (by omega)]
    refine hnext2 ((fx fl n).ps.length-(j+1)) _ _ (by omega) ⟨j+1,rfl,by omega,rfl,b27.drew,λh=>?_⟩
    by_cases e:i0=j
    ·exact h2 e
    ·rcases h1 with h1 |h1
     ·rw[h1];exact hbl (by omega)
     ·exact h1
   have b27d:=b27'.drew
   refine zk.all ((hB9.below b27d).rS (n:=2) (x:=x.2.2.1) rfl (zov (hL9.below b27d) hlt (zd4 (hps b27d) hjl ?_)))
   rw[hm]
   refine zki (hN.below (hb9.on b27d)) hml (zbi (hI25.below (b26.on b27).drew) hkl (zm (λ_=>go true (.inr rfl) λ_=>rfl) (λhne=>go bl (.inl rfl) λe=>?_)))
   exfalso
   subst e
   refine hne ?_
   rw[<-hm1,<-Zm hml]
   have:m=m0:=by rw[hi1]at hm;omega
   rw[this]
  ·have hje:j=(fx fl n).ps.length:=by dsimp only at g2;omega
   have:bl=true:=hbl (by omega)
   subst this
   exact zz rfl (hnext _ hkl (b26.on b27))
 clear hnext next g hk k
 have hBd:=hB9.below b26'.drew
 have hLd:=hL9.below b26'.drew
 refine zk.cut (FiG (nxF pl fl n) w26) ?_ ?_
 ·refine Mo.load hBd (zpP hLd hlt λa hcell=>?_)
  refine zqL (M:=λst w'=>FiG (nxF pl fl n) w26 (st.1,()) w') (x:=x) (v:=(L[n].1.id,L[n].1.at_,L[n].2.1,L[n].2.2,L[n].1.en,())) hBd (hN.below (hb9.on b26'.drew)) hp hbd.1 (hLd.isFn (List.getElem_mem hlt)) (hcell 0 _ (by omega) rfl) (hcell 1 _ (by omega) rfl) (hcell 2 _ (by omega) rfl) (hcell 3 _ (by omega) rfl) (hcell 4 _ (by omega) rfl) λw' p ms sb hb hS hG hM=>⟨?_,(Below.refl _ _).drew.on hb⟩
  have hG:GP w' p (nxE x pl L[n].1):=hG
  rw[hfe]at hG
  have hnx:nxE x pl (fx fl n)=nxF pl fl n:=by unfold nxE;rw[if_pos (hF.gnw hnf)]
  rwa[hnx]at hG
 rintro⟨p,_⟩ w43 ⟨hG43,b43⟩
 have hG43:GP w43 p (nxF pl fl n):=hG43
 have b43':=b26'.on b43
 have hnl:=zhY pl fl n
 have hbkb:=(hbk b43').bound
 refine zj.count (nxF pl fl n).length (by omega) (λ_ w'=>Below w43.heap.size w43 w') (Below.refl _ _) ?_
 intro b w44 hb b44 next hnext
 have b44':=b43'.on b44
 refine(hG43.below b44).len ⟨_,rfl,zg (λg=>?_) (λ_=>hR w44 (hb9.on b44'))⟩
 have hbl:b<(nxF pl fl n).length:=by dsimp only at g;omega
 have hbl2:b<(fx fl n).bk.length:=by omega
 refine zk.cut (λ(_:Unit) w'=>Below w44.heap.size w44 w') ?_ λ_ w88 b88=>hnext w88 hbl (b44.on b88)
 refine(hG43.below b44).reached ⟨_,rfl,zI (zn (λ_=>?_) (λ_=>Below.refl _ _))⟩
 have b46:=b44'.drew
 refine zk.cut (FiR w44 (livL x.2.1 pl fl n b)) ?_ ?_
 ·refine Mo.load (hB9.below b46) (zkh (hL9.below b46) hlt λa25 k1=>zmM (hbk b46) hbl2 λa27 k0=>?_)
  rw[hbx b hbl2]at k0⊢
  exact zlg (M:=λr sb w'=>FiR w44 (livL x.2.1 pl fl n b) (r,()) w') (hB9.below b46) (hN.below (hb9.on b46)) hp hbd.1 k0 k1 (hE b hbl2) λw' r sb hb hO hS=>⟨hO,(Below.refl _ _).drew.on hb⟩
 rintro⟨rw',_⟩ w61 ⟨hO61,b61⟩
 have hO61:Own w61 22 1 rw' ((livL x.2.1 pl fl n b).map (Value.int .u32)):=hO61
 refine(hG43.below (b44.on b61)).ahead λra w62 hA62 _ b62=>⟨ra,rfl,?_⟩
 rw[zaN]at hA62
 have hI62:IsI w62 ra (((zD (nxF pl fl n)).getD b []).map λ(t:Nat)=>(t:Int)):=Own.isS (by rw[List.map_map];exact hA62)
 have hra:=hI62.len
 rw[List.length_map]at hra
 have hrb:=hI62.bound
 rw[List.length_map]at hrb
 have b62':=b61.on b62
 refine zj.count ((zD (nxF pl fl n)).getD b []).length hrb (λ_ w'=>Below w62.heap.size w62 w') (Below.refl _ _) ?_
 clear hnext next
 intro k w63 hk b63 next hnext
 have b63':=b62'.on b63
 have b6:=b44'.on b63'
 refine zg (λg2=>?_) (λ_=>b63')
 have hkl:k<((zD (nxF pl fl n)).getD b []).length:=by dsimp only at g2;omega
 obtain⟨pb,hpb⟩:∃pb,((zD (nxF pl fl n)).getD b [])[k]=pb:=⟨_,rfl⟩
 have hpm:pb∈(zD (nxF pl fl n)).getD b []:=by rw[<-hpb];exact List.getElem_mem hkl
 have hpe:=(zgi ok).1 hpm
 have hpl:pb<(fx fl n).bk.length:=by
  rw[<-hnl]
  refine Classical.byContradiction λhge=>?_
  rw[zqc (by omega)]at hpe
  cases hpe
 obtain⟨f,t,hb1,hb2',hb3,_,_,hb6⟩:=F.bl hnf hpl
 have b6d:=b6.drew
 refine zkh (hL9.below b6d) hlt λa122 k3=>zq9 (k:=k) (hI62.below b63.drew) (by rwa[List.length_map]) λa124 k4=>?_
 rw[List.getElem_map,hpb]at k4⊢
 refine zpO (hbk b6d) hpl λa126 c0 c1 c2=>?_
 refine zl λw64 hP64 b64 z64=>?_
 refine⟨z0 b64 c0,z0 b64 c1,z0 b64 c2,z0 b64 k4,z0 b64 k3,?_⟩
 refine st3 hP64 rfl λw67 hP67 c67=>?_
 have b67:Below w63.heap.size w63 w67:=c67.below ((Below.refl _ _).drew.on b64) (Nat.le_refl _)
 rw[hbx pb hpl,hb1]at hP67
 have hP67:Blk w67 w63.drew.heap.size 42 [.int .u32 (ix pl f).2.2.1,.int .i64 (f:Int),.int .i64 (t:Int)]:=hP67
 have b6e:=(b6.on b67).drew
 refine zk.cut (FiR w67 (livL x.2.1 pl fl n pb)) ?_ ?_
 ·refine Mo.load (hB9.below b6e) (hP67.drew.rI0 rfl ?_)
  have hlab:YF x pl (cutF pl pl.length) (ix pl f).2.2.1=(livL x.2.1 pl fl n pb,0,0):=by
   have:=hE pb hpl
   rwa[hb1]at this
  exact zoO (M:=λr sb w'=>FiR w67 (livL x.2.1 pl fl n pb) (r,()) w') (hB9.below b6e) (hN.below (hb9.on b6e)) hp hbd.1 (hP67.drew.cell0 rfl) hlab λw' r sb hb hO hS=>⟨hO,(Below.refl _ _).drew.on hb⟩
 rintro⟨rx,_⟩ w82 ⟨hO82,b82⟩
 have hO82:Own w82 22 1 rx ((livL x.2.1 pl fl n pb).map (Value.int .u32)):=hO82
 have hP82:=hP67.below b82
 have b6382:=b67.on b82
 have hW82:=((hO61.below b62).below b63).below b6382
 have hIw:=hW82.isS
 have hIx:=hO82.isS
 have hwl:=hIw.len
 refine zj.count (livL x.2.1 pl fl n b).length hIw.bound (λ_ w'=>Below w82.heap.size w82 w') (Below.refl _ _) ?_
 intro j w83 hj b83 next3 hnext3
 refine zg (λg3=>?_) (λ_=>hnext w83 hkl (b63.on (b6382.on b83)))
 have hjl:j<(livL x.2.1 pl fl n b).length:=by dsimp only at g3;omega
 refine zk.cut (λ(_:Unit) w'=>Below w83.heap.size w83 w') ?_ λ_ w87 b87=>hnext3 w87 hjl (b83.on b87)
 obtain⟨id,hid⟩:∃id,(livL x.2.1 pl fl n b)[j]=id:=⟨_,rfl⟩
 have hidm:id∈livL x.2.1 pl fl n b:=by rw[<-hid];exact List.getElem_mem hjl
 obtain⟨hr1,ho,hw⟩:=zhU.1 hidm
 have hst:=zp5 F hnf ok hpm ho hw
 refine(hP82.below b83).rI (n:=1) (x:=(f:Int)) rfl ?_
 refine zj.ghost (λm (st:Bool×Int×Unit) w'=>∃i:Nat,st.2.1=(i:Int)/\f<=i/\i<=t/\m=t-i/\Below w83.heap.size w83 w'/\(st.1=false->∀i',f<=i'->i'<i->(ix pl i').2.2.1≠id)) (t-f) ⟨f,rfl,Nat.le_refl _,by omega,rfl,Below.refl _ _,λ_ i' h1 h2=>by omega⟩ ?_
 rintro _ ⟨bl,_,_⟩ w84 ⟨i,rfl,hi1,hi2,rfl,b84,hbl'⟩ next4 hnext4
 have hb84:=b83.on b84
 have b9:=(b6.on b6382).on hb84
 refine(hP82.below hb84).rI (n:=2) (x:=(t:Int)) rfl (zg (λg4=>?_) (λg4=>?_))
 ·have hit:i<t:=by dsimp only at g4;omega
  have hil:i<pl.length:=by omega
  refine zk.all ((hB9.below b9.drew).rS (n:=2) (x:=x.2.2.1) rfl (zki (hN.below (hb9.on b9.drew)) hil (zbi (hIw.below hb84.drew) hjl ?_)))
  rw[hid]
  have go:∀b2:Bool,(b2=false->bl=false/\(ix pl i).2.2.1≠id)->next4 (b2,IntKind.i64.wrap ((i:Int)+1),()) w84.drew:=λb2 h2=>by
   rw[zr (by omega)]
   refine hnext4 (t-(i+1)) _ _ (by omega) ⟨i+1,rfl,by omega,by omega,rfl,b84.drew,λh i' h3 h4=>?_⟩
   obtain⟨h5,h6⟩:=h2 h
   by_cases e:i'=i
   ·subst e;exact h6
   ·exact hbl' h5 i' h3 (by omega)
  exact zm (λ_=>go true λh=>by cases h) (λhne=>go bl λh=>⟨h,by rw[Zm hil];exact hne⟩)
 ·have hie:i=t:=by dsimp only at g4;omega
  cases bl with
  |true=>exact zz rfl b84
  |false=>
   refine zH rfl (zbi (hIw.below hb84) hjl ?_)
   refine zlD (hIx.below hb84) ⟨_,rfl,zI (zH ?_ b84)⟩
   rw[hid,List.contains_iff_mem]
   rcases hst with⟨m,h1,h2,h3⟩ |h
   ·rw[hb1]at h1 h2
    dsimp only at h1 h2
    exact absurd h3 (hbl' rfl m (by omega) (by omega))
   ·exact zhU.2 ⟨hr1,ho,h⟩
end
end Go.Proofs
