/- FaceB, part 10; made small by a program. -/
import Derived.Test.YtnpdnjmpmeikiaaGreatDoorProg
import Derived.Test.YtnpdnjmpmeikiaaGreatDoorPFaceB9
set_option linter.unusedVariables false
namespace Go.Proofs
open Go.Gk Go.RowKit Go.Gm
theorem zv4{w:World}{s:Sl}{l:List Sv}(h:IsC 3 slV w s l){k:Nat}(hk:k<l.length){φ:Int->Int->Sl->Prop}(hφ:φ l[k].1 l[k].2.1 l[k].2.2.1) :
  (0<=(k:Int)/\(k:Int)<(s.l:Int))/\zc s.a λa=>ldI w ((a.add (Int.toNat (k:Int)*3)).add 0) .i64 λy0=>ldI w ((a.add (Int.toNat (k:Int)*3)).add 1) .i64 λy1=>ldS w ((a.add (Int.toNat (k:Int)*3)).add 2) λy2=>φ y0 y1 y2:=by
 obtain⟨a,ha⟩:=h.base hk
 have hc:=λj hj=>h.cell a ha k hk j hj
 have hl:=h.len
 exact⟨⟨by omega,by omega⟩,ze ha ⟨_,by rw[zn];exact hc 0 (by decide),_,by rw[zn];exact hc 1 (by decide),l[k].2.2.1,by rw[zn];exact hc 2 (by decide),hφ⟩⟩
theorem Sv.load{w:World}{b:Nat}{T:TypeId}{x:Sv}(h:Blk w b T (slV x)){φ:Int->Int->Sl->Prop}(hφ:φ x.1 x.2.1 x.2.2.1) :
  ldI w ((blk b).add 0) .i64 λy0=>ldI w ((blk b).add 1) .i64 λy1=>ldS w ((blk b).add 2) λy2=>φ y0 y1 y2:=h.rI (n:=0) rfl (h.rI (n:=1) rfl (h.rS (n:=2) rfl hφ))
theorem fldI{α:Type}{sz:Nat}{f:α->List Value}{w:World}{s:Sl}{l:List α}(h:IsC sz f w s l){k:Nat}(hk:k<l.length){j:Nat}(hj:j<sz){κ:IntKind}{x:Int}(hx:(f l[k])[j]? =some (.int κ x)){φ:Int->Prop}(hφ:φ x) :
  (0<=(k:Int)/\(k:Int)<(s.l:Int))/\zc s.a λa=>ldI w ((a.add (Int.toNat (k:Int)*sz)).add j) κ φ:=by
 obtain⟨a,ha⟩:=h.base hk
 have hl:=h.len
 exact⟨⟨by omega,by omega⟩,ze ha ⟨x,by rw[zn];exact(h.cell a ha k hk j hj).trans hx,hφ⟩⟩
theorem zti{α:Type}{sz:Nat}{f:α->List Value}{w:World}{s:Sl}{l:List α}(h:IsC sz f w s l){k:Nat}(hk:k<l.length)(hj:0<sz){κ:IntKind}{x:Int}(hx:(f l[k])[0]? =some (.int κ x)){φ:Int->Prop}(hφ:φ x) :
  (0<=(k:Int)/\(k:Int)<(s.l:Int))/\zc s.a λa=>ldI w (a.add (Int.toNat (k:Int)*sz)) κ φ:=by
 obtain⟨a,ha⟩:=h.base hk
 have hl:=h.len
 exact⟨⟨by omega,by omega⟩,ze ha ⟨x,(h.cell a ha k hk 0 hj).trans hx,hφ⟩⟩
theorem fldB{α:Type}{sz:Nat}{f:α->List Value}{w:World}{s:Sl}{l:List α}(h:IsC sz f w s l){k:Nat}(hk:k<l.length){j:Nat}(hj:j<sz){x:Bool}(hx:(f l[k])[j]? =some (.bool x)){φ:Bool->Prop}(hφ:φ x) :
  (0<=(k:Int)/\(k:Int)<(s.l:Int))/\zc s.a λa=>ldB w ((a.add (Int.toNat (k:Int)*sz)).add j) φ:=by
 obtain⟨a,ha⟩:=h.base hk
 have hl:=h.len
 exact⟨⟨by omega,by omega⟩,ze ha ⟨x,by rw[zn];exact(h.cell a ha k hk j hj).trans hx,hφ⟩⟩
theorem fldS{α:Type}{sz:Nat}{f:α->List Value}{w:World}{s:Sl}{l:List α}(h:IsC sz f w s l){k:Nat}(hk:k<l.length){j:Nat}(hj:j<sz){x:Sl}(hx:(f l[k])[j]? =some (.slice x.a x.l x.c)){φ:Sl->Prop}(hφ:φ x) :
  (0<=(k:Int)/\(k:Int)<(s.l:Int))/\zc s.a λa=>ldS w ((a.add (Int.toNat (k:Int)*sz)).add j) φ:=by
 obtain⟨a,ha⟩:=h.base hk
 have hl:=h.len
 exact⟨⟨by omega,by omega⟩,ze ha ⟨x,by rw[zn];exact(h.cell a ha k hk j hj).trans hx,hφ⟩⟩
section
variable {w:World} {R:VWP}
theorem zth{p:Po}{x:Sv}{y:Slt}(hx:SltR w x y){K:VWP}(hK:∀w',Below w.heap.size w w'->K (.bool (fitA p y)) w'):zL Tryz.prog Tryz.fs (.func (.func 48) #[] #[]) [poA p,slA x] w K:=by
 have hcf:Tryz.fs.contains 48=true:=by kernel_rfl
 unfold zL
 simp only[hcf]
 refine za.of (zi6 p x K w ?_) λ_ _ h=>h
 refine zm λw1 hP b1 z1=>zm λw2 hX b2 z2=>?_
 have hP:Blk w1 w.heap.size 52 (poV p):=hP
 have hX:Blk w2 w1.heap.size 58 (slV x):=hX
 have hP2:=hP.below b2
 have hK:=hK w2 (b1.on b2)
 have hw:=hx.wds.len
 unfold fitA at hK
 refine hX.rI0 (x:=x.1) rfl (hP2.rI (n:=1) (x:=p.2.1) rfl (zk (λe1=>?_) (λe1=>?_)))
 ·refine hX.rI (n:=1) (x:=x.2.1) rfl (hP2.rI (n:=2) (x:=p.2.2.1) rfl (zk (λe2=>?_) (λe2=>?_)))
  ·refine hX.rS (n:=2) (x:=x.2.2.1) rfl (hP2.rI (n:=4) (x:=p.2.2.2.2.1) rfl ?_)
   rw[<-hx.loc,<-hx.bui,beq_iff_eq.2 e1,beq_iff_eq.2 e2,Bool.true_and,Bool.true_and,<-hw]at hK
   exact hK
  ·rw[<-hx.loc,<-hx.bui,beq_iff_eq.2 e1,beq_eq_false_iff_ne.2 e2]at hK
   exact hK
 ·rw[<-hx.loc,beq_eq_false_iff_ne.2 e1,Bool.false_and,Bool.false_and]at hK
  exact hK
theorem zo1{s t:Sl}{l:List Po}{ls:List Slt}(hs:IsPs w s l)(ht:zdB w t ls)(hR:∀w',Below w.heap.size w w'->R (.bool (zjK l ls)) w'):cR 18 #[.slice s.a s.l s.c,.slice t.a t.l t.c] w R:=by
 refine za.of (zkl s t R w ?_) λ_ _ h=>h
 refine za.of (yf s t _ _ w ?_) λ_ _ h=>h
 obtain⟨hs',g1,g2,g3⟩:=ht.ex
 have hsl:=hs.len
 have htl:=g1.len
 refine zy (λe=>?_) (λe=>?_)
 ·have:=hR w (Below.refl _ _)
  rw[zo8 (by omega)]at this
  exact⟨_,rfl,this⟩
 have hll:l.length=ls.length:=by omega
 refine zl.count l.length hs.bound (λk w'=>Below w.heap.size w w'/\∀j,j<k->fitA (l.getD j po0) (ls.getD j slt0)=true) ⟨Below.refl _ _,λj h=>by omega⟩ ?_
 rintro k w1 hk ⟨b1,hy⟩ next hnext
 refine zj (λg=>?_) (λg=>?_)
 rotate_left
 ·have hke:k=l.length:=by dsimp only at g;omega
  subst hke
  have:=hR w1 b1
  rw[zlh.2 ⟨hll,hy⟩]at this
  exact⟨_,rfl,this⟩
 have hkl:k<l.length:=by dsimp only at g;omega
 have hkh:k<hs'.length:=by omega
 refine zeQ (IsC.below zM hs b1) hkl ?_
 refine box6 rfl λw8 hP8 b8 z8=>?_
 have hP8:Blk w8 w1.heap.size 52 (poV l[k]):=hP8
 have b08:=b1.on b8
 refine zv4 (IsC.below zcx g1 b08) hkh ?_
 refine box3 rfl λw12 hX12 b12 z12=>?_
 have hX12:Blk w12 w8.heap.size 58 (slV hs'[k]):=hX12
 refine Po.load (p:=l[k]) (hP8.below b12) (Sv.load hX12 ?_)
 have b012:=b08.on b12
 refine zth (p:=l[k]) ((g3 k hkh (by omega)).below b012) λw13 b13=>⟨_,rfl,zI (zz (λe2=>?_) (λe2=>?_))⟩
 ·refine hnext w13 hkl ⟨b012.on b13,λj hj=>?_⟩
  by_cases q:j=k
  ·subst q
   rw[zp hkl,zp (by omega)]
   exact e2
  ·exact hy j (by omega)
 ·have:=hR w13 (b012.on b13)
  rw[zqV hkl (by rw[zp hkl,zp (by omega)];exact e2)]at this
  exact⟨_,rfl,this⟩
theorem znm{s t:Sl}{l:List Po}{ls:List Slt}(hs:IsPs w s l)(ht:zdB w t ls)(hR:∀w',Below w.heap.size w w'->R (.bool (zjK l ls)) w'):cR 19 #[.slice s.a s.l s.c,.slice t.a t.l t.c] w R:=by
 refine za.of (zdO s t R w ?_) λ_ _ h=>h
 obtain⟨hs',g1,g2,g3⟩:=ht.ex
 have hsl:=hs.len
 have htl:=g1.len
 refine zy (λe=>?_) (λe=>?_)
 ·have:=hR w (Below.refl _ _)
  rwa[zo8 (by omega)]at this
 have hll:l.length=ls.length:=by omega
 refine zl.count l.length hs.bound (λk w'=>Below w.heap.size w w'/\∀j,j<k->fitA (l.getD j po0) (ls.getD j slt0)=true) ⟨Below.refl _ _,λj h=>by omega⟩ ?_
 rintro k w1 hk ⟨b1,hy⟩ next hnext
 refine zj (λg=>?_) (λg=>?_)
 rotate_left
 ·have hke:k=l.length:=by dsimp only at g;omega
  subst hke
  have:=hR w1 b1
  rwa[zlh.2 ⟨hll,hy⟩]at this
 have hkl:k<l.length:=by dsimp only at g;omega
 have hkh:k<hs'.length:=by omega
 have bd:=b1.drew
 have hP:=IsC.below zM hs bd
 have hX:=IsC.below zcx g1 bd
 have hr:=(g3 k hkh (by omega)).below bd
 have hw:=hr.wds.len
 have fA:fitA (l.getD k po0) (ls.getD k slt0)=(hs'[k].1==l[k].2.1&&hs'[k].2.1==l[k].2.2.1&&((hs'[k].2.2.1.l:Int)==l[k].2.2.2.2.1)):=by
  rw[zp hkl,zp (by omega)]
  unfold fitA
  rw[<-hr.loc,<-hr.bui,<-hw]
 have no:fitA (l.getD k po0) (ls.getD k slt0)=false->R (.bool false) w1.drew:=λe=>by
  have:=hR _ bd
  rwa[zqV hkl e]at this
 rw[fA]at no
 refine zo.cut (λ(_:Unit) w'=>Below w.heap.size w w'/\fitA (l.getD k po0) (ls.getD k slt0)=true) ?_ ?_
 rotate_left
 ·rintro _ w2 ⟨b2,e2⟩
  refine hnext w2 hkl ⟨b2,λj hj=>?_⟩
  by_cases q:j=k
  ·subst q;exact e2
  ·exact hy j (by omega)
 rw[fA]
 refine zti hX hkh (by decide) (x:=hs'[k].1) rfl (fldI hP hkl (j:=1) (by decide) (x:=l[k].2.1) rfl (zy (λe1=>no ?_) (λe1=>?_)))
 ·rw[beq_eq_false_iff_ne.2 e1];rfl
 refine fldI hX hkh (j:=1) (by decide) (x:=hs'[k].2.1) rfl (fldI hP hkl (j:=2) (by decide) (x:=l[k].2.2.1) rfl (zy (λe2=>no ?_) (λe2=>?_)))
 ·rw[beq_eq_false_iff_ne.2 e2,Bool.and_false,Bool.false_and]
 refine fldS hX hkh (j:=2) (by decide) (x:=hs'[k].2.2.1) rfl (fldI hP hkl (j:=4) (by decide) (x:=l[k].2.2.2.2.1) rfl (zy (λe3=>no ?_) (λe3=>⟨bd,?_⟩)))
 ·rw[beq_eq_false_iff_ne.2 e3,Bool.and_false]
 ·rw[beq_iff_eq.2 e1,beq_iff_eq.2 e2,beq_iff_eq.2 e3];rfl
end
def metA(p o:Po):Bool:=p.2.2.1 ==-1&&o.2.2.1 ==-1&&o.2.1==p.2.1&&o.2.2.2.2.1==p.2.2.2.2.1&&o.2.2.2.2.2.1==p.2.2.2.2.2.1
theorem zrh(p:Po)(l:List Po):metP p l=((p.2.2.1==15&&p.2.1 ==-1)||l.any (metA p)):=rfl
section
variable {w:World} {R:VWP}
set_option maxHeartbeats 4000000 in
theorem zpO{p:Po}{s:Sl}{l:List Po}(hs:IsPs w s l)(hR:∀w',Below w.heap.size w w'->R (.bool (metP p l)) w'):cR 50 #[poA p,.slice s.a s.l s.c] w R:=by
 refine za.of (zez p s R w ?_) λ_ _ h=>h
 refine zm λw1 hP b1 z1=>?_
 have hP:Blk w1 w.heap.size 52 (poV p):=hP
 have hsl:=hs.len
 rw[zrh]at hR
 refine zo.cut (λ(_:Unit) w'=>w1=w'/\(p.2.2.1==15&&p.2.1 ==-1)=false) ?_ ?_
 ·refine hP.rI (n:=2) (x:=p.2.2.1) rfl (zk (λe1=>?_) (λe1=>⟨rfl,by rw[beq_eq_false_iff_ne.2 e1];rfl⟩))
  refine hP.rI (n:=1) (x:=p.2.1) rfl (zk (λe2=>?_) (λe2=>⟨rfl,by rw[beq_eq_false_iff_ne.2 e2,Bool.and_false]⟩))
  have:=hR w1 b1
  rwa[beq_iff_eq.2 e1,beq_iff_eq.2 e2,Bool.true_and,Bool.true_or]at this
 rintro _ w2 ⟨rfl,e0⟩
 rw[e0]at hR
 simp only[Bool.false_or]at hR
 refine zl.count l.length hs.bound (λk w'=>Below w1.heap.size w1 w'/\∀j (h:j<l.length),j<k->metA p l[j]=false) ⟨Below.refl _ _,λj _ h=>by omega⟩ ?_
 rintro k w3 hk ⟨b3,hno⟩ next hnext
 have b03:=b1.on b3
 refine zj (λg=>?_) (λg=>?_)
 rotate_left
 ·have hke:k=l.length:=by dsimp only at g;omega
  subst hke
  have:=hR w3 b03
  rwa[zkG λj hj=>hno j hj hj]at this
 have hkl:k<l.length:=by dsimp only at g;omega
 have bd:=b3.drew
 have hPd:=hP.below bd
 have hsd:=IsC.below zM hs (b1.on bd)
 refine zo.cut (λ(_:Unit) w'=>Below w1.heap.size w1 w'/\metA p l[k]=false) ?_ ?_
 rotate_left
 ·rintro _ w4 ⟨b4,e4⟩
  refine hnext w4 hkl ⟨b4,λj h hj=>?_⟩
  by_cases q:j=k
  ·subst q;exact e4
  ·exact hno j h (by omega)
 have no:∀(_:metA p l[k]=false),Below w1.heap.size w1 w3.drew/\metA p l[k]=false:=λe=>⟨bd,e⟩
 have yes:metA p l[k]=true->R (.bool true) w3.drew:=λe=>by
  have:=hR _ (b1.on bd)
  rwa[zkF hkl e]at this
 have eq:metA p l[k]=(p.2.2.1 ==-1&&l[k].2.2.1 ==-1&&l[k].2.1==p.2.1&&l[k].2.2.2.2.1==p.2.2.2.2.1&&l[k].2.2.2.2.2.1==p.2.2.2.2.2.1):=rfl
 rw[eq]at no yes⊢
 refine hPd.rI (n:=2) (x:=p.2.2.1) rfl (zk (λe1=>?_) (λe1=>no (by rw[beq_eq_false_iff_ne.2 e1];rfl)))
 refine fldI hsd hkl (j:=2) (by decide) (x:=l[k].2.2.1) rfl (zk (λe2=>?_) (λe2=>no (by rw[beq_eq_false_iff_ne.2 e2,Bool.and_false];rfl)))
 refine fldI hsd hkl (j:=1) (by decide) (x:=l[k].2.1) rfl (hPd.rI (n:=1) (x:=p.2.1) rfl (zk (λe3=>?_) (λe3=>no (by rw[beq_eq_false_iff_ne.2 e3,Bool.and_false];rfl))))
 refine fldI hsd hkl (j:=4) (by decide) (x:=l[k].2.2.2.2.1) rfl (hPd.rI (n:=4) (x:=p.2.2.2.2.1) rfl (zk (λe4=>?_) (λe4=>no (by rw[beq_eq_false_iff_ne.2 e4,Bool.and_false];rfl))))
 refine fldB hsd hkl (j:=5) (by decide) (x:=l[k].2.2.2.2.2.1) rfl (hPd.rB (n:=5) (x:=p.2.2.2.2.2.1) rfl (zz (λe5=>yes ?_) (λe5=>no (by rw[e5,Bool.and_false]))))
 rw[beq_iff_eq.2 e1,beq_iff_eq.2 e2,beq_iff_eq.2 e3,beq_iff_eq.2 e4,e5];rfl
set_option maxHeartbeats 4000000 in
theorem zlM{x y:Fw}{v f:Fa}(hv:FaR w x v)(hf:FaR w y f)(hR:∀w',Below w.heap.size w w'->R (.int .i64 (matP v f)) w'):cR 23 #[faA x,faA y] w R:=by
 refine za.of (zdi x y R w ?_) λ_ _ h=>h
 refine zm λw1 hX1 b1 z1=>zm λw2 hY2 b2 z2=>?_
 have hX1:Blk w1 w.heap.size 47 (faV x):=hX1
 have hY2:Blk w2 w1.heap.size 47 (faV y):=hY2
 have hX2:=hX1.below b2
 have b02:=b1.on b2
 have hv2:=hv.below b02
 have hf2:=hf.below b02
 have hin:=hf2.ins
 have hinl:=hin.len
 unfold matP at hR
 have bad:(v.2.1≠0\/f.2.1≠4)->R (.int .i64 203) w2:=λq=>by
  have:=hR w2 b02
  rwa[if_pos q]at this
 refine zo.cut (λ(_:Unit) w'=>w2=w'/\¬(v.2.1≠0\/f.2.1≠4)) ?_ ?_
 ·refine hX2.rI (n:=1) (x:=x.2.1) rfl (zy (λq=>bad (.inl (by rw[<-hv.model];exact q))) (λq=>?_))
  refine hY2.rI (n:=1) (x:=y.2.1) rfl (zy (λq2=>bad (.inr (by rw[<-hf.model];exact q2))) (λq2=>⟨rfl,?_⟩))
  rintro(z |z)
  ·exact z (by rw[<-hv.model];exact q)
  ·exact z (by rw[<-hf.model];exact q2)
 rintro _ w3 ⟨rfl,hm⟩
 simp only[if_neg hm]at hR
 refine zl.count f.2.2.2.1.length hin.bound (λk w'=>Below w2.heap.size w2 w'/\∀j (h:j<f.2.2.2.1.length),j<k->metP f.2.2.2.1[j] v.2.2.2.2=true) ⟨Below.refl _ _,λj _ h=>by omega⟩ ?_
 rintro k w4 hk ⟨b4,hy⟩ next hnext
 have b04:=b02.on b4
 refine(hY2.below b4).rS (n:=3) (x:=y.2.2.2.1) rfl (zj (λg=>?_) (λg=>?_))
 rotate_left
 ·have hke:k=f.2.2.2.1.length:=by dsimp only at g;omega
  subst hke
  have:=hR w4 b04
  rwa[if_pos (List.all_eq_true.2 λp hp=>by obtain⟨j,hj,rfl⟩:=List.mem_iff_getElem.1 hp;exact hy j hj hj)]at this
 have hkl:k<f.2.2.2.1.length:=by dsimp only at g;omega
 have bd:=b4.drew
 have hYd:=hY2.below bd
 have hXd:=hX2.below bd
 refine hYd.rS (n:=3) (x:=y.2.2.2.1) rfl (zeQ (IsC.below zM hin bd) hkl ?_)
 refine hXd.rS (n:=4) (x:=x.2.2.2.2.1) rfl ?_
 refine zpO (p:=f.2.2.2.1[k]) (IsC.below zM hv2.outs bd) λw5 b5=>⟨_,rfl,zI (zz (λe=>?_) (λe=>?_))⟩
 ·refine hnext w5 hkl ⟨bd.on b5,λj h hj=>?_⟩
  by_cases q:j=k
  ·subst q;exact e
  ·exact hy j h (by omega)
 ·have:=hR w5 (b02.on (bd.on b5))
  rwa[if_neg (λz=>by have:=List.all_eq_true.1 z _ (List.getElem_mem hkl);rw[e]at this;cases this)]at this
set_option maxHeartbeats 4000000 in
theorem znl{x y:Fw}{v f:Fa}(hv:FaR w x v)(hf:FaR w y f)(hR:∀w',Below w.heap.size w w'->R (.int .i64 (matP v f)) w'):cR 22 #[faA x,faA y] w R:=by
 refine za.of (zjs x y R w ?_) λ_ _ h=>h
 refine zm λw1 hX1 b1 z1=>zm λw2 hY2 b2 z2=>?_
 have hX1:Blk w1 w.heap.size 47 (faV x):=hX1
 have hY2:Blk w2 w1.heap.size 47 (faV y):=hY2
 have hX2:=hX1.below b2
 have b02:=b1.on b2
 have hv2:=hv.below b02
 have hf2:=hf.below b02
 have hin:=hf2.ins
 have hinl:=hin.len
 have hout:=hv2.outs
 have houtl:=hout.len
 unfold matP at hR
 have bad:(v.2.1≠0\/f.2.1≠4)->R (.int .i64 203) w2:=λq=>by
  have:=hR w2 b02
  rwa[if_pos q]at this
 refine zo.cut (λ(_:Unit) w'=>w2=w'/\¬(v.2.1≠0\/f.2.1≠4)) ?_ ?_
 ·refine hX2.rI (n:=1) (x:=x.2.1) rfl (zy (λq=>bad (.inl (by rw[<-hv.model];exact q))) (λq=>?_))
  refine hY2.rI (n:=1) (x:=y.2.1) rfl (zy (λq2=>bad (.inr (by rw[<-hf.model];exact q2))) (λq2=>⟨rfl,?_⟩))
  rintro(z |z)
  ·exact z (by rw[<-hv.model];exact q)
  ·exact z (by rw[<-hf.model];exact q2)
 rintro _ w3 ⟨rfl,hm⟩
 simp only[if_neg hm]at hR
 refine hY2.rS (n:=3) (x:=y.2.2.2.1) rfl ?_
 refine zl.count f.2.2.2.1.length hin.bound (λk w'=>Below w2.heap.size w2 w'/\∀j (h:j<f.2.2.2.1.length),j<k->metP f.2.2.2.1[j] v.2.2.2.2=true) ⟨Below.refl _ _,λj _ h=>by omega⟩ ?_
 rintro k w4 hk ⟨b4,hy⟩ next hnext
 have b04:=b02.on b4
 refine zj (λg=>?_) (λg=>?_)
 rotate_left
 ·have hke:k=f.2.2.2.1.length:=by dsimp only at g;omega
  subst hke
  have:=hR w4 b04
  rwa[if_pos (List.all_eq_true.2 λp hp=>by obtain⟨j,hj,rfl⟩:=List.mem_iff_getElem.1 hp;exact hy j hj hj)]at this
 have hkl:k<f.2.2.2.1.length:=by dsimp only at g;omega
 refine zo.cut (λ(_:Unit) w'=>Below w2.heap.size w2 w'/\metP f.2.2.2.1[k] v.2.2.2.2=true) ?_ ?_
 rotate_left
 ·rintro _ w22 ⟨b22,e⟩
  refine hnext w22 hkl ⟨b22,λj h hj=>?_⟩
  by_cases q:j=k
  ·subst q;exact e
  ·exact hy j h (by omega)
 refine zeQ (IsC.below zM hin b4) hkl ?_
 have no:∀{w'},Below w.heap.size w w'->metP f.2.2.2.1[k] v.2.2.2.2=false->R (.int .i64 203) w':=λ{w'} hb e=>by
  have:=hR w' hb
  rwa[if_neg (λz=>by have:=List.all_eq_true.1 z _ (List.getElem_mem hkl);rw[e]at this;cases this)]at this
 generalize f.2.2.2.1[k]=p at no⊢
 rw[zrh]at no⊢
 refine box6 rfl λw11 hP11 b11 z11=>?_
 have hP11:Blk w11 w4.heap.size 52 (poV p):=hP11
 have b211:=b4.on b11
 refine zo.cut (λ(_:Unit) w'=>w11=w'/\(p.2.2.1==15&&p.2.1 ==-1)=false) ?_ ?_
 ·refine hP11.rI (n:=2) (x:=p.2.2.1) rfl (zk (λe1=>?_) (λe1=>⟨rfl,by rw[beq_eq_false_iff_ne.2 e1];rfl⟩))
  refine hP11.rI (n:=1) (x:=p.2.1) rfl (zk (λe2=>⟨b211,by rw[beq_iff_eq.2 e1,beq_iff_eq.2 e2];rfl⟩) (λe2=>⟨rfl,by rw[beq_eq_false_iff_ne.2 e2,Bool.and_false]⟩))
 rintro _ w12 ⟨rfl,e0⟩
 rw[e0]at no⊢
 simp only[Bool.false_or]at no⊢
 refine(hX2.below b211).rS (n:=4) (x:=x.2.2.2.2.1) rfl ?_
 refine zl.count v.2.2.2.2.length hout.bound (λk w'=>Below w11.heap.size w11 w'/\∀j (h:j<v.2.2.2.2.length),j<k->metA p v.2.2.2.2[j]=false) ⟨Below.refl _ _,λj _ h=>by omega⟩ ?_
 rintro i w13 hi ⟨b13,hno⟩ next2 hnext2
 have b213:=b211.on b13
 refine zj (λg2=>?_) (λg2=>?_)
 rotate_left
 ·have hie:i=v.2.2.2.2.length:=by dsimp only at g2;omega
  subst hie
  exact no (b02.on b213) (zkG λj hj=>hno j hj hj)
 have hil:i<v.2.2.2.2.length:=by dsimp only at g2;omega
 refine zo.cut (λ(_:Unit) w'=>Below w11.heap.size w11 w'/\metA p v.2.2.2.2[i]=false) ?_ ?_
 rotate_left
 ·rintro _ w21 ⟨b21,e⟩
  refine hnext2 w21 hil ⟨b21,λj h hj=>?_⟩
  by_cases q:j=i
  ·subst q;exact e
  ·exact hno j h (by omega)
 refine zeQ (IsC.below zM hout b213) hil ?_
 have yes:∀{w'},Below w2.heap.size w2 w'->metA p v.2.2.2.2[i]=true->Below w2.heap.size w2 w'/\v.2.2.2.2.any (metA p)=true:=λ{w'} hb e=>⟨hb,zkF hil e⟩
 generalize v.2.2.2.2[i]=o at yes⊢
 refine box6 rfl λw20 hO20 b20 z20=>?_
 have hO20:Blk w20 w13.heap.size 52 (poV o):=hO20
 have b220:=b213.on b20
 have hP20:=(hP11.below b13).below b20
 have no':∀(_:metA p o=false),Below w11.heap.size w11 w20/\metA p o=false:=λe=>⟨b13.on b20,e⟩
 have yes:=λe=>yes b220 e
 have eq:metA p o=(p.2.2.1 ==-1&&o.2.2.1 ==-1&&o.2.1==p.2.1&&o.2.2.2.2.1==p.2.2.2.2.1&&o.2.2.2.2.2.1==p.2.2.2.2.2.1):=rfl
 rw[eq]at no' yes⊢
 refine hP20.rI (n:=2) (x:=p.2.2.1) rfl (zk (λe1=>?_) (λe1=>no' (by rw[beq_eq_false_iff_ne.2 e1];rfl)))
 refine hO20.rI (n:=2) (x:=o.2.2.1) rfl (zk (λe2=>?_) (λe2=>no' (by rw[beq_eq_false_iff_ne.2 e2,Bool.and_false];rfl)))
 refine hO20.rI (n:=1) (x:=o.2.1) rfl (hP20.rI (n:=1) (x:=p.2.1) rfl (zk (λe3=>?_) (λe3=>no' (by rw[beq_eq_false_iff_ne.2 e3,Bool.and_false];rfl))))
 refine hO20.rI (n:=4) (x:=o.2.2.2.2.1) rfl (hP20.rI (n:=4) (x:=p.2.2.2.2.1) rfl (zk (λe4=>?_) (λe4=>no' (by rw[beq_eq_false_iff_ne.2 e4,Bool.and_false];rfl))))
 refine hO20.rB (n:=5) (x:=o.2.2.2.2.2.1) rfl (hP20.rB (n:=5) (x:=p.2.2.2.2.2.1) rfl (zz (λe5=>yes ?_) (λe5=>no' (by rw[e5,Bool.and_false]))))
 rw[beq_iff_eq.2 e1,beq_iff_eq.2 e2,beq_iff_eq.2 e3,beq_iff_eq.2 e4,e5];rfl
end
end Go.Proofs
namespace Go.Proofs
open Go.Gk
set_option linter.unusedVariables false
set_option maxRecDepth 100000
def Yb:Ann:=(.q (.q (.q (.seq none (.q (.one (.loop ⟨[0,1,5,6],[(7,(.b (.int .i64)))]⟩ (.seq none (.q .c) (.seq none (.one .nil) .nil))))) (.q .nil)))))
def ZY(p0:Sl)(p1:Sl)(R:VWP)(w:World):Prop:=dx60 16 #[.agg #[.string (BM #[]),zu 0,zu 0,p0.zw,.slice none 0 0]] w λx2 w1=>(0<=(p1.l:Int)/\(p1.l:Int)<=(p1.l:Int)/\40*(p1.l:Int)<=281474976710656/\(p1.l:Int)<=9223372036854775807)/\Nw (w1.alloc (.cells (madeCells #[zi 0,zi 0,.slice none 0 0] (p1.l*3)) 58)) λw2=>zl (S:=Int×Unit) (λs3 w3 n4=>ifB (decide (s3.1<(p1.l:Int))) ((0<=s3.1/\s3.1<(p1.l:Int))/\zc p1.a λa5=>ldI w3.drew (a5.add (s3.1.toNat *3)) .i64 λx6=>(0<=s3.1/\s3.1<(p1.l:Int))/\zc p1.a λa7=>ldI w3.drew ((a7.add (s3.1.toNat *3)).add 1) .i64 λx8=>(0<=s3.1/\s3.1<(p1.l:Int))/\zc p1.a λa9=>ldS w3.drew ((a9.add (s3.1.toNat *3)).add 2) λx10=>dj 17 #[x10.zw] w3.drew λx12 w4=>w4.cell? ((a7.add (s3.1.toNat *3)).add 1)=some (zi x8)/\w4.cell? (a5.add (s3.1.toNat *3))=some (zi x6)/\(0<=s3.1/\s3.1<(p1.l:Int))/\Wr w4 ((zB w1).add (s3.1.toNat *3))/\Nw (w4.setCell ((zB w1).add (s3.1.toNat *3)) (zi x6)) λw5=>Wr w5 (((zB w1).add (s3.1.toNat *3)).add 1)/\Nw (w5.setCell (((zB w1).add (s3.1.toNat *3)).add 1) (zi x8)) λw6=>Wr w6 (((zB w1).add (s3.1.toNat *3)).add 2)/\Nw (w6.setCell (((zB w1).add (s3.1.toNat *3)).add 2) (x12.zw)) λw7=>n4 ((IntKind.i64.wrap (s3.1+(1:Int))),()) w7) (dK 18 #[x2.2.2.2.1.zw,.slice (some (zB w1)) p1.l p1.l] w3 λx14 w8=>dK 19 #[p0.zw,p1.zw] w8 λx16 w9=>ifB (x14==x16) (dK 20 #[x2.2.2.2.1.zw,p0.zw] w9 λx18 w10=>ifB x18 (dK 21 #[.slice (some (zB w1)) p1.l p1.l,p1.zw] w10 λx20 w11=>ifB x20 (dK 11 #[] w11 λx22 w12=>R (.bool x22) w12) (R (.bool false) w11)) (R (.bool false) w10)) (R (.bool false) w9))) (0,()) w2
theorem zbv(p0)(p1)(R)(w)(h:ZY p0 p1 R w):Calls Tryz.prog 4 #[.slice p0.a p0.l p0.c,.slice p1.a p1.l p1.c] w (Ret R):=lwC Yb Tryz.func4 (by kernel_rfl) (by kernel_rfl) h
def ZR:Ann:=(.q (.q (.q (.q .nil))))
def ZN(p0:(ByteArray×Int×Int×Sl×Sl×Unit))(p1:(ByteArray×Int×Int×Sl×Sl×Unit))(R:VWP)(w:World):Prop:=Nw (w.alloc (.cells #[.string p0.1,zu p0.2.1,zu p0.2.2.1,p0.2.2.2.1.zw,p0.2.2.2.2.1.zw] 47)) λw1=>Nw (w1.alloc (.cells #[.string p1.1,zu p1.2.1,zu p1.2.2.1,p1.2.2.2.1.zw,p1.2.2.2.2.1.zw] 47)) λw2=>dx59 w2 (zB w) λx1 x2 x3 x4 x5=>dx60 16 #[.agg #[.string x1,zu x2,zu x3,x4.zw,x5.zw]] w2 λx7 w3=>Nw (w3.alloc (.cells #[.string (BM #[]),zu 0,zu 0,.slice none 0 0,.slice none 0 0] 47)) λw4=>dM w4 (zB w3) (.string x7.1) (zu x7.2.1) (zu x7.2.2.1) (x7.2.2.2.1.zw) (x7.2.2.2.2.1.zw) λw9=>dx59 w9 (zB w1) λx8 x9 x10 x11 x12=>dx60 16 #[.agg #[.string x8,zu x9,zu x10,x11.zw,x12.zw]] w9 λx14 w10=>Nw (w10.alloc (.cells #[.string (BM #[]),zu 0,zu 0,.slice none 0 0,.slice none 0 0] 47)) λw11=>dM w11 (zB w10) (.string x14.1) (zu x14.2.1) (zu x14.2.2.1) (x14.2.2.2.1.zw) (x14.2.2.2.2.1.zw) λw16=>dx59 w16.drew (zB w3) λx15 x16 x17 x18 x19=>dx59 w16.drew (zB w10) λx20 x21 x22 x23 x24=>dx59 w16.drew (zB w) λx25 x26 x27 x28 x29=>dx59 w16.drew (zB w1) λx30 x31 x32 x33 x34=>dl 22 #[.agg #[.string x15,zu x16,zu x17,x18.zw,x19.zw],.agg #[.string x20,zu x21,zu x22,x23.zw,x24.zw]] w16.drew λx36 w17=>w17.cell? ((zB w1).add 0)=some (.string x30)/\w17.cell? ((zB w1).add 1)=some (zu x31)/\w17.cell? ((zB w1).add 2)=some (zu x32)/\w17.cell? ((zB w1).add 3)=some (x33.zw)/\w17.cell? ((zB w1).add 4)=some (x34.zw)/\w17.cell? ((zB w).add 0)=some (.string x25)/\w17.cell? ((zB w).add 1)=some (zu x26)/\w17.cell? ((zB w).add 2)=some (zu x27)/\w17.cell? ((zB w).add 3)=some (x28.zw)/\w17.cell? ((zB w).add 4)=some (x29.zw)/\dl 23 #[.agg #[.string x25,zu x26,zu x27,x28.zw,x29.zw],.agg #[.string x30,zu x31,zu x32,x33.zw,x34.zw]] w17 λx38 w18=>ifB (x36==x38) (dx59 w18 (zB w3) λx39 x40 x41 x42 x43=>dx59 w18 (zB w) λx44 x45 x46 x47 x48=>dK 24 #[.agg #[.string x39,zu x40,zu x41,x42.zw,x43.zw],.agg #[.string x44,zu x45,zu x46,x47.zw,x48.zw]] w18 λx50 w19=>ifB x50 (dx59 w19 (zB w10) λx51 x52 x53 x54 x55=>dx59 w19 (zB w1) λx56 x57 x58 x59 x60=>dK 24 #[.agg #[.string x51,zu x52,zu x53,x54.zw,x55.zw],.agg #[.string x56,zu x57,zu x58,x59.zw,x60.zw]] w19 λx62 w20=>ifB x62 (dK 11 #[] w20 λx64 w21=>R (.bool x64) w21) (R (.bool false) w20)) (R (.bool false) w19)) (R (.bool false) w18)
theorem zbj(p0)(p1)(R)(w)(h:ZN p0 p1 R w):Calls Tryz.prog 5 #[.agg #[.string p0.1,.int .u32 p0.2.1,.int .u32 p0.2.2.1,.slice p0.2.2.2.1.a p0.2.2.2.1.l p0.2.2.2.1.c,.slice p0.2.2.2.2.1.a p0.2.2.2.2.1.l p0.2.2.2.2.1.c],.agg #[.string p1.1,.int .u32 p1.2.1,.int .u32 p1.2.2.1,.slice p1.2.2.2.1.a p1.2.2.2.1.l p1.2.2.2.1.c,.slice p1.2.2.2.2.1.a p1.2.2.2.2.1.l p1.2.2.2.2.1.c]] w (Ret R):=lwC ZR Tryz.func5 (by kernel_rfl) (by kernel_rfl) h
def zas:Ann:=(.q (.q (.q (.q .nil))))
def zah  (R:VWP) (w:World):Prop:=dx61 39 #[zu 0] w λx2 w1=>dx62 38 #[.agg #[zu x2.1,zu x2.2.1,x2.2.2.1.zw],.string (BM #[109,97,105,110]),zu 4] w1 λx4 x5 w2=>Nw (w2.alloc (.cells #[.string (BM #[]),zu 0,zu 0,.slice none 0 0,.slice none 0 0] 47)) λw3=>dM w3 (zB w2) (.string x4.1) (zu x4.2.1) (zu x4.2.2.1) (x4.2.2.2.1.zw) (x4.2.2.2.2.1.zw) λw8=>dx61 39 #[zu 0] w8 λx7 w9=>dx62 38 #[.agg #[zu x7.1,zu x7.2.1,x7.2.2.1.zw],.string (BM #[109,97,105,110]),zu 0] w9 λx9 x10 w10=>Nw (w10.alloc (.cells #[.string (BM #[]),zu 0,zu 0,.slice none 0 0,.slice none 0 0] 47)) λw11=>dM w11 (zB w10) (.string x9.1) (zu x9.2.1) (zu x9.2.2.1) (x9.2.2.2.1.zw) (x9.2.2.2.2.1.zw) λw16=>ifB (x5==0) (ifB (x10==5) (ldI w16 ((zB w2).add 2) .u32 λx11=>ifB (x11==6) (ldS w16 ((zB w2).add 3) λx12=>ifB ((x12.l:Int)==0) (ldS w16 ((zB w2).add 4) λx13=>ifB ((x13.l:Int)==1) (ldS w16 ((zB w2).add 4) λx14=>(0<=(0:Int)/\0<(x14.l:Int))/\zc x14.a λa15=>dW w16 (a15.add (0*6)) λx16 x17 x18 x19 x20 x21=>ifB (x16==5&&(x17==0&&(x18==(-1:Int)&&(x19==2&&(x20==1&&(x21==true&&true)))))) (dx61 39 #[zu 1] w16 λx23 w17=>dJ 13 #[.agg #[zu x23.1,zu x23.2.1,x23.2.2.1.zw]] w17 λx25 w18=>R (.bool (x25.1==201&&(x25.2.1==1&&true))) w18) (R (.bool false) w16)) (R (.bool false) w16)) (R (.bool false) w16)) (R (.bool false) w16)) (R (.bool false) w16)) (R (.bool false) w16)
theorem zdg(R)(w)(h:zah  R w):Calls Tryz.prog 11 #[] w (Ret R):=lwC zas Tryz.func11 (by kernel_rfl) (by kernel_rfl) h
def YO:Ann:=(.q (.q (.seq none (.q (.one (.loop ⟨[1,2,3],[(4,(.b (.int .i64)))]⟩ (.seq none (.q .c) (.seq none (.one .nil) .nil))))) (.q (.seq none (.q (.one (.loop ⟨[1,2,3,5],[(6,(.b (.int .i64)))]⟩ (.seq none (.q .c) (.seq none (.one .nil) .nil))))) (.q (.q (.q .nil))))))))
def YH(p0:(ByteArray×Int×Int×Sl×Sl×Unit))(R:VWP)(w:World):Prop:=Nw (w.alloc (.cells #[.string p0.1,zu p0.2.1,zu p0.2.2.1,p0.2.2.2.1.zw,p0.2.2.2.2.1.zw] 47)) λw1=>Nw (w1.alloc (.cells #[.string (BM #[]),zu 0,zu 0,.slice none 0 0,.slice none 0 0] 47)) λw2=>ldS w2 ((zB w).add 3) λx1=>(0<=(x1.l:Int)/\(x1.l:Int)<=(x1.l:Int)/\48*(x1.l:Int)<=281474976710656/\(x1.l:Int)<=9223372036854775807)/\Nw (w2.alloc (.cells (madeCells #[zu 0,zi 0,zi 0,zu 0,zi 0,.bool false] (x1.l*6)) 52)) λw3=>zl (S:=Int×Unit) (λs2 w4 n3=>ldS w4 ((zB w).add 3) λx4=>ifB (decide (s2.1<(x4.l:Int))) (ldS w4 ((zB w).add 3) λx5=>(0<=s2.1/\s2.1<(x5.l:Int))/\zc x5.a λa6=>dW w4 (a6.add (s2.1.toNat *6)) λx7 x8 x9 x10 x11 x12=>(0<=s2.1/\s2.1<(x1.l:Int))/\Wr w4 ((zB w2).add (s2.1.toNat *6))/\Nw (w4.setCell ((zB w2).add (s2.1.toNat *6)) (zu x7)) λw5=>Wr w5 (((zB w2).add (s2.1.toNat *6)).add 1)/\Nw (w5.setCell (((zB w2).add (s2.1.toNat *6)).add 1) (zi x8)) λw6=>Wr w6 (((zB w2).add (s2.1.toNat *6)).add 2)/\Nw (w6.setCell (((zB w2).add (s2.1.toNat *6)).add 2) (zi x9)) λw7=>Wr w7 (((zB w2).add (s2.1.toNat *6)).add 3)/\Nw (w7.setCell (((zB w2).add (s2.1.toNat *6)).add 3) (zu x10)) λw8=>Wr w8 (((zB w2).add (s2.1.toNat *6)).add 4)/\Nw (w8.setCell (((zB w2).add (s2.1.toNat *6)).add 4) (zi x11)) λw9=>Wr w9 (((zB w2).add (s2.1.toNat *6)).add 5)/\Nw (w9.setCell (((zB w2).add (s2.1.toNat *6)).add 5) (.bool x12)) λw10=>n3 ((IntKind.i64.wrap (s2.1+(1:Int))),()) w10) (ldS w4 ((zB w).add 4) λx13=>(0<=(x13.l:Int)/\(x13.l:Int)<=(x13.l:Int)/\48*(x13.l:Int)<=281474976710656/\(x13.l:Int)<=9223372036854775807)/\Nw (w4.alloc (.cells (madeCells #[zu 0,zi 0,zi 0,zu 0,zi 0,.bool false] (x13.l*6)) 52)) λw11=>zl (S:=Int×Unit) (λs14 w12 n15=>ldS w12 ((zB w).add 4) λx16=>ifB (decide (s14.1<(x16.l:Int))) (ldS w12 ((zB w).add 4) λx17=>(0<=s14.1/\s14.1<(x17.l:Int))/\zc x17.a λa18=>dW w12 (a18.add (s14.1.toNat *6)) λx19 x20 x21 x22 x23 x24=>(0<=s14.1/\s14.1<(x13.l:Int))/\Wr w12 ((zB w4).add (s14.1.toNat *6))/\Nw (w12.setCell ((zB w4).add (s14.1.toNat *6)) (zu x19)) λw13=>Wr w13 (((zB w4).add (s14.1.toNat *6)).add 1)/\Nw (w13.setCell (((zB w4).add (s14.1.toNat *6)).add 1) (zi x20)) λw14=>Wr w14 (((zB w4).add (s14.1.toNat *6)).add 2)/\Nw (w14.setCell (((zB w4).add (s14.1.toNat *6)).add 2) (zi x21)) λw15=>Wr w15 (((zB w4).add (s14.1.toNat *6)).add 3)/\Nw (w15.setCell (((zB w4).add (s14.1.toNat *6)).add 3) (zu x22)) λw16=>Wr w16 (((zB w4).add (s14.1.toNat *6)).add 4)/\Nw (w16.setCell (((zB w4).add (s14.1.toNat *6)).add 4) (zi x23)) λw17=>Wr w17 (((zB w4).add (s14.1.toNat *6)).add 5)/\Nw (w17.setCell (((zB w4).add (s14.1.toNat *6)).add 5) (.bool x24)) λw18=>n15 ((IntKind.i64.wrap (s14.1+(1:Int))),()) w18) (Wr w12 ((zB w).add 3)/\Nw (w12.setCell ((zB w).add 3) (.slice (some (zB w2)) x1.l x1.l)) λw19=>Wr w19 ((zB w).add 4)/\Nw (w19.setCell ((zB w).add 4) (.slice (some (zB w4)) x13.l x13.l)) λw20=>dx59 w20 (zB w) λx25 x26 x27 x28 x29=>dM w20 (zB w1) (.string x25) (zu x26) (zu x27) (x28.zw) (x29.zw) λw25=>dx59 w25 (zB w1) λx30 x31 x32 x33 x34=>R (.agg #[.string x30,zu x31,zu x32,x33.zw,x34.zw]) w25)) (0,()) w11)) (0,()) w3
theorem zcW(p0)(R)(w)(h:YH p0 R w):Calls Tryz.prog 16 #[.agg #[.string p0.1,.int .u32 p0.2.1,.int .u32 p0.2.2.1,.slice p0.2.2.2.1.a p0.2.2.2.1.l p0.2.2.2.1.c,.slice p0.2.2.2.2.1.a p0.2.2.2.2.1.l p0.2.2.2.2.1.c]] w (Ret R):=lwC YO Tryz.func16 (by kernel_rfl) (by kernel_rfl) h
def zbT:Ann:=(.q (.seq none (.q (.cond (.q .nil) .nil)) (.seq none (.q (.one (.loop ⟨[0,1],[(5,(.b (.int .i64)))]⟩ (.seq none (.q .c) (.seq none (.one (.q (.cond (.q .nil) .nil))) .nil))))) (.q .nil))))
def zb6(p0:Sl)(p1:Sl)(R:VWP)(w:World):Prop:=ifB ((p0.l:Int) !=(p1.l:Int)) (R (.bool false) w) (zl (S:=Int×Unit) (λs1 w1 n2=>ifB (decide (s1.1<(p0.l:Int))) ((0<=s1.1/\s1.1<(p0.l:Int))/\zc p0.a λa3=>dW w1.drew (a3.add (s1.1.toNat *6)) λx4 x5 x6 x7 x8 x9=>(0<=s1.1/\s1.1<(p1.l:Int))/\zc p1.a λa10=>dW w1.drew (a10.add (s1.1.toNat *6)) λx11 x12 x13 x14 x15 x16=>ifB (!(x4==x11&&(x5==x12&&(x6==x13&&(x7==x14&&(x8==x15&&(x9==x16&&true))))))) (R (.bool false) w1.drew) (n2 ((IntKind.i64.wrap (s1.1+(1:Int))),()) w1.drew)) (R (.bool true) w1)) (0,()) w)
theorem zew(p0)(p1)(R)(w)(h:zb6 p0 p1 R w):Calls Tryz.prog 20 #[.slice p0.a p0.l p0.c,.slice p1.a p1.l p1.c] w (Ret R):=lwC zbT Tryz.func20 (by kernel_rfl) (by kernel_rfl) h
def zbU:Ann:=(.q (.seq none (.q (.cond (.q .nil) .nil)) (.seq none (.q (.one (.loop ⟨[0,1],[(5,(.b (.int .i64)))]⟩ (.seq none (.q .c) (.seq (some ⟨[0,1,5],[]⟩) (.one (.q (.cond (.q .nil) .nil))) .nil))))) (.q .nil))))
def zb7(p0:Sl)(p1:Sl)(R:VWP)(w:World):Prop:=ifB ((p0.l:Int) !=(p1.l:Int)) (R (.bool false) w) (zl (S:=Int×Unit) (λs1 w1 n2=>ifB (decide (s1.1<(p0.l:Int))) (zo (S:=Unit) (λm3=>(0<=s1.1/\s1.1<(p0.l:Int))/\zc p0.a λa5=>ldI w1.drew (a5.add (s1.1.toNat *3)) .i64 λx6=>(0<=s1.1/\s1.1<(p1.l:Int))/\zc p1.a λa7=>ldI w1.drew (a7.add (s1.1.toNat *3)) .i64 λx8=>ifB (x6 !=x8) (R (.bool false) w1.drew) ((0<=s1.1/\s1.1<(p0.l:Int))/\zc p0.a λa9=>ldI w1.drew ((a9.add (s1.1.toNat *3)).add 1) .i64 λx10=>(0<=s1.1/\s1.1<(p1.l:Int))/\zc p1.a λa11=>ldI w1.drew ((a11.add (s1.1.toNat *3)).add 1) .i64 λx12=>ifB (x10 !=x12) (R (.bool false) w1.drew) ((0<=s1.1/\s1.1<(p0.l:Int))/\zc p0.a λa13=>ldS w1.drew ((a13.add (s1.1.toNat *3)).add 2) λx14=>(0<=s1.1/\s1.1<(p1.l:Int))/\zc p1.a λa15=>ldS w1.drew ((a15.add (s1.1.toNat *3)).add 2) λx16=>dK 49 #[x14.zw,x16.zw] w1.drew λx18 w2=>ifB (!x18) (R (.bool false) w2) (m3 () w2)))) (λs4 w3=>n2 ((IntKind.i64.wrap (s1.1+(1:Int))),()) w3)) (R (.bool true) w1)) (0,()) w)
theorem zex(p0)(p1)(R)(w)(h:zb7 p0 p1 R w):Calls Tryz.prog 21 #[.slice p0.a p0.l p0.c,.slice p1.a p1.l p1.c] w (Ret R):=lwC zbU Tryz.func21 (by kernel_rfl) (by kernel_rfl) h
def zcG:Ann:=(.q (.q .nil))
def zc8(p0:(ByteArray×Int×Int×Sl×Sl×Unit))(p1:(ByteArray×Int×Int×Sl×Sl×Unit))(R:VWP)(w:World):Prop:=Nw (w.alloc (.cells #[.string p0.1,zu p0.2.1,zu p0.2.2.1,p0.2.2.2.1.zw,p0.2.2.2.2.1.zw] 47)) λw1=>Nw (w1.alloc (.cells #[.string p1.1,zu p1.2.1,zu p1.2.2.1,p1.2.2.2.1.zw,p1.2.2.2.2.1.zw] 47)) λw2=>zs w2 (zB w) λx1=>zs w2 (zB w1) λx2=>ifB (x1.toList==x2.toList) (ldI w2 ((zB w).add 1) .u32 λx3=>ldI w2 ((zB w1).add 1) .u32 λx4=>ifB (x3==x4) (ldI w2 ((zB w).add 2) .u32 λx5=>ldI w2 ((zB w1).add 2) .u32 λx6=>ifB (x5==x6) (ldS w2 ((zB w).add 3) λx7=>ldS w2 ((zB w1).add 3) λx8=>dK 20 #[x7.zw,x8.zw] w2 λx10 w3=>ifB x10 (ldS w3 ((zB w).add 4) λx11=>ldS w3 ((zB w1).add 4) λx12=>dK 20 #[x11.zw,x12.zw] w3 λx14 w4=>R (.bool x14) w4) (R (.bool false) w3)) (R (.bool false) w2)) (R (.bool false) w2)) (R (.bool false) w2)
theorem zeY(p0)(p1)(R)(w)(h:zc8 p0 p1 R w):Calls Tryz.prog 24 #[.agg #[.string p0.1,.int .u32 p0.2.1,.int .u32 p0.2.2.1,.slice p0.2.2.2.1.a p0.2.2.2.1.l p0.2.2.2.1.c,.slice p0.2.2.2.2.1.a p0.2.2.2.2.1.l p0.2.2.2.2.1.c],.agg #[.string p1.1,.int .u32 p1.2.1,.int .u32 p1.2.2.1,.slice p1.2.2.2.1.a p1.2.2.2.1.l p1.2.2.2.1.c,.slice p1.2.2.2.2.1.a p1.2.2.2.2.1.l p1.2.2.2.2.1.c]] w (Ret R):=lwC zcG Tryz.func24 (by kernel_rfl) (by kernel_rfl) h
def zat:Ann:=(.q (.q (.q (.q (.q (.q (.q (.q (.q (.q (.q (.q (.q (.q (.q (.q (.q (.q (.q (.q .nil))))))))))))))))))))
def zai(p0:Int)(R:VWP)(w:World):Prop:=Nw (w.alloc (.cells #[zu 0,zu 0,.slice none 0 0] 25)) λw1=>dT w1 #[zu 0,zu 0,.slice none 0 0] 25 (zu 0) (zu 20) (.slice none 0 0) λw5=>ldS w5.drew ((zB w1).add 2) λx1=>dx63 68 #[zu 0] w5.drew λx3 w6=>w6.cell? ((zB w1).add 2)=some (x1.zw)/\dx63 68 #[zu 0] w6 λx5 w7=>w7.cell? ((zB w1).add 2)=some (x1.zw)/\dj 67 #[.agg #[zb x3.1,zu x3.2.1,.string x3.2.2.1],.agg #[zb x5.1,zu x5.2.1,.string x5.2.2.1]] w7 λx7 w8=>w8.cell? ((zB w1).add 2)=some (x1.zw)/\Nw (w8.alloc (.cells #[zh 14,zu 0,zu 0,x7.zw] 44)) λw9=>w9.cell? ((zB w1).add 2)=some (x1.zw)/\zA Tryz.prog 23 (x1.zw) (.slice (some (zB w8)) 1 1) w9 λr8 w10=>Wr w10 ((zB w1).add 2)/\Nw (w10.setCell ((zB w1).add 2) (r8.zw)) λw11=>dx63 68 #[zu 4] w11 λx10 w12=>dx63 69 #[zu 6] w12 λx12 w13=>dj 67 #[.agg #[zb x10.1,zu x10.2.1,.string x10.2.2.1],.agg #[zb x12.1,zu x12.2.1,.string x12.2.2.1]] w13 λx14 w14=>dg w14 #[zh 0,zu 0,zu 0,.slice none 0 0] 44 (zh 15) (zu 0) (zu 0) (x14.zw) λw19=>ldS w19.drew ((zB w14).add 3) λx15=>dx63 70 #[.string (BM #[109,97,105,110])] w19.drew λx17 w20=>w20.cell? ((zB w14).add 3)=some (x15.zw)/\dx63 69 #[zu 5] w20 λx19 w21=>w21.cell? ((zB w14).add 3)=some (x15.zw)/\Nw (w21.alloc (.cells #[zb x17.1,zu x17.2.1,.string x17.2.2.1,zb x19.1,zu x19.2.1,.string x19.2.2.1] 123)) λw22=>w22.cell? ((zB w14).add 3)=some (x15.zw)/\zA Tryz.prog 42 (x15.zw) (.slice (some (zB w21)) 2 2) w22 λr20 w23=>Wr w23 ((zB w14).add 3)/\Nw (w23.setCell ((zB w14).add 3) (r20.zw)) λw24=>ldS w24 ((zB w1).add 2) λx21=>dc w24 (zB w14) λx22 x23 x24 x25=>Nw (w24.alloc (.cells #[zh x22,zu x23,zu x24,x25.zw] 44)) λw25=>zA Tryz.prog 23 (x21.zw) (.slice (some (zB w24)) 1 1) w25 λr26 w26=>Wr w26 ((zB w1).add 2)/\Nw (w26.setCell ((zB w1).add 2) (r26.zw)) λw27=>ldS w27.drew ((zB w1).add 2) λx27=>dx63 69 #[zu 6] w27.drew λx29 w28=>w28.cell? ((zB w1).add 2)=some (x27.zw)/\dx63 68 #[zu 7] w28 λx31 w29=>w29.cell? ((zB w1).add 2)=some (x27.zw)/\dj 67 #[.agg #[zb x29.1,zu x29.2.1,.string x29.2.2.1],.agg #[zb x31.1,zu x31.2.1,.string x31.2.2.1]] w29 λx33 w30=>w30.cell? ((zB w1).add 2)=some (x27.zw)/\Nw (w30.alloc (.cells #[zh 16,zu 0,zu 0,x33.zw] 44)) λw31=>w31.cell? ((zB w1).add 2)=some (x27.zw)/\zA Tryz.prog 23 (x27.zw) (.slice (some (zB w30)) 1 1) w31 λr34 w32=>Wr w32 ((zB w1).add 2)/\Nw (w32.setCell ((zB w1).add 2) (r34.zw)) λw33=>dx63 69 #[zu 5] w33 λx36 w34=>dx63 68 #[zu 30] w34 λx38 w35=>dj 67 #[.agg #[zb x36.1,zu x36.2.1,.string x36.2.2.1],.agg #[zb x38.1,zu x38.2.1,.string x38.2.2.1]] w35 λx40 w36=>dg w36 #[zh 0,zu 0,zu 0,.slice none 0 0] 44 (zh 71) (zu 0) (zu 0) (x40.zw) λw41=>ldS w41.drew ((zB w36).add 3) λx41=>dx63 71 #[zu p0] w41.drew λx43 w42=>w42.cell? ((zB w36).add 3)=some (x41.zw)/\Nw (w42.alloc (.cells #[zb x43.1,zu x43.2.1,.string x43.2.2.1] 123)) λw43=>w43.cell? ((zB w36).add 3)=some (x41.zw)/\zA Tryz.prog 42 (x41.zw) (.slice (some (zB w42)) 1 1) w43 λr44 w44=>Wr w44 ((zB w36).add 3)/\Nw (w44.setCell ((zB w36).add 3) (r44.zw)) λw45=>ldS w45 ((zB w1).add 2) λx45=>dc w45 (zB w36) λx46 x47 x48 x49=>Nw (w45.alloc (.cells #[zh x46,zu x47,zu x48,x49.zw] 44)) λw46=>zA Tryz.prog 23 (x45.zw) (.slice (some (zB w45)) 1 1) w46 λr50 w47=>Wr w47 ((zB w1).add 2)/\Nw (w47.setCell ((zB w1).add 2) (r50.zw)) λw48=>ldS w48 ((zB w1).add 2) λx51=>Nw (w48.alloc (.cells #[zh 19,zu 0,zu 1,.slice none 0 0] 44)) λw49=>zA Tryz.prog 23 (x51.zw) (.slice (some (zB w48)) 1 1) w49 λr52 w50=>Wr w50 ((zB w1).add 2)/\Nw (w50.setCell ((zB w1).add 2) (r52.zw)) λw51=>ldS w51.drew ((zB w1).add 2) λx53=>dx63 71 #[zu 32] w51.drew λx55 w52=>w52.cell? ((zB w1).add 2)=some (x53.zw)/\dx63 71 #[zu 1] w52 λx57 w53=>w53.cell? ((zB w1).add 2)=some (x53.zw)/\dj 67 #[.agg #[zb x55.1,zu x55.2.1,.string x55.2.2.1],.agg #[zb x57.1,zu x57.2.1,.string x57.2.2.1]] w53 λx59 w54=>w54.cell? ((zB w1).add 2)=some (x53.zw)/\Nw (w54.alloc (.cells #[zh 21,zu 0,zu 2,x59.zw] 44)) λw55=>w55.cell? ((zB w1).add 2)=some (x53.zw)/\zA Tryz.prog 23 (x53.zw) (.slice (some (zB w54)) 1 1) w55 λr60 w56=>Wr w56 ((zB w1).add 2)/\Nw (w56.setCell ((zB w1).add 2) (r60.zw)) λw57=>ldS w57.drew ((zB w1).add 2) λx61=>dx63 69 #[zu 1] w57.drew λx63 w58=>w58.cell? ((zB w1).add 2)=some (x61.zw)/\dx63 69 #[zu 1] w58 λx65 w59=>w59.cell? ((zB w1).add 2)=some (x61.zw)/\dj 67 #[.agg #[zb x63.1,zu x63.2.1,.string x63.2.2.1],.agg #[zb x65.1,zu x65.2.1,.string x65.2.2.1]] w59 λx67 w60=>w60.cell? ((zB w1).add 2)=some (x61.zw)/\(0<=(0:Int)/\(0:Int)<=1/\1<=(x67.c:Int))/\Nw (w60.alloc (.cells #[zh 33,zu 0,zu 3,.slice (if x67.c=0 then x67.a else Option.map (λa=>a.add (0*3)) x67.a) (1-0) (x67.c-0)] 44)) λw61=>w61.cell? ((zB w1).add 2)=some (x61.zw)/\zA Tryz.prog 23 (x61.zw) (.slice (some (zB w60)) 1 1) w61 λr68 w62=>Wr w62 ((zB w1).add 2)/\Nw (w62.setCell ((zB w1).add 2) (r68.zw)) λw63=>ldS w63.drew ((zB w1).add 2) λx69=>dx63 68 #[zu 3] w63.drew λx71 w64=>w64.cell? ((zB w1).add 2)=some (x69.zw)/\dx63 69 #[zu 2] w64 λx73 w65=>w65.cell? ((zB w1).add 2)=some (x69.zw)/\dj 67 #[.agg #[zb x71.1,zu x71.2.1,.string x71.2.2.1],.agg #[zb x73.1,zu x73.2.1,.string x73.2.2.1]] w65 λx75 w66=>w66.cell? ((zB w1).add 2)=some (x69.zw)/\Nw (w66.alloc (.cells #[zh 32,zu 0,zu 4,x75.zw] 44)) λw67=>w67.cell? ((zB w1).add 2)=some (x69.zw)/\zA Tryz.prog 23 (x69.zw) (.slice (some (zB w66)) 1 1) w67 λr76 w68=>Wr w68 ((zB w1).add 2)/\Nw (w68.setCell ((zB w1).add 2) (r76.zw)) λw69=>ldS w69.drew ((zB w1).add 2) λx77=>dx63 68 #[zu 3] w69.drew λx79 w70=>w70.cell? ((zB w1).add 2)=some (x77.zw)/\dx63 68 #[zu 3] w70 λx81 w71=>w71.cell? ((zB w1).add 2)=some (x77.zw)/\dj 67 #[.agg #[zb x79.1,zu x79.2.1,.string x79.2.2.1],.agg #[zb x81.1,zu x81.2.1,.string x81.2.2.1]] w71 λx83 w72=>w72.cell? ((zB w1).add 2)=some (x77.zw)/\(0<=(0:Int)/\(0:Int)<=1/\1<=(x83.c:Int))/\Nw (w72.alloc (.cells #[zh 59,zu 4,zu 5,.slice (if x83.c=0 then x83.a else Option.map (λa=>a.add (0*3)) x83.a) (1-0) (x83.c-0)] 44)) λw73=>w73.cell? ((zB w1).add 2)=some (x77.zw)/\zA Tryz.prog 23 (x77.zw) (.slice (some (zB w72)) 1 1) w73 λr84 w74=>Wr w74 ((zB w1).add 2)/\Nw (w74.setCell ((zB w1).add 2) (r84.zw)) λw75=>ldS w75.drew ((zB w1).add 2) λx85=>dx63 68 #[zu 0] w75.drew λx87 w76=>w76.cell? ((zB w1).add 2)=some (x85.zw)/\dx63 69 #[zu 3] w76 λx89 w77=>w77.cell? ((zB w1).add 2)=some (x85.zw)/\dj 67 #[.agg #[zb x87.1,zu x87.2.1,.string x87.2.2.1],.agg #[zb x89.1,zu x89.2.1,.string x89.2.2.1]] w77 λx91 w78=>w78.cell? ((zB w1).add 2)=some (x85.zw)/\Nw (w78.alloc (.cells #[zh 54,zu 1,zu 6,x91.zw] 44)) λw79=>w79.cell? ((zB w1).add 2)=some (x85.zw)/\zA Tryz.prog 23 (x85.zw) (.slice (some (zB w78)) 1 1) w79 λr92 w80=>Wr w80 ((zB w1).add 2)/\Nw (w80.setCell ((zB w1).add 2) (r92.zw)) λw81=>ldS w81 ((zB w1).add 2) λx93=>Nw (w81.alloc (.cells #[zh 248,zu 0,zu 7,.slice none 0 0] 44)) λw82=>zA Tryz.prog 23 (x93.zw) (.slice (some (zB w81)) 1 1) w82 λr94 w83=>Wr w83 ((zB w1).add 2)/\Nw (w83.setCell ((zB w1).add 2) (r94.zw)) λw84=>ldS w84 ((zB w1).add 2) λx95=>Nw (w84.alloc (.cells #[zh 253,zu 0,zu 0,.slice none 0 0] 44)) λw85=>zA Tryz.prog 23 (x95.zw) (.slice (some (zB w84)) 1 1) w85 λr96 w86=>Wr w86 ((zB w1).add 2)/\Nw (w86.setCell ((zB w1).add 2) (r96.zw)) λw87=>ldS w87 ((zB w1).add 2) λx97=>Nw (w87.alloc (.cells #[zh 56,zu 0,zu 0,.slice none 0 0] 44)) λw88=>zA Tryz.prog 23 (x97.zw) (.slice (some (zB w87)) 1 1) w88 λr98 w89=>Wr w89 ((zB w1).add 2)/\Nw (w89.setCell ((zB w1).add 2) (r98.zw)) λw90=>da w90 (zB w1) λx99 x100 x101=>dn w90 (zB w) (zu x99) (zu x100) (x101.zw) λw93=>da w93 (zB w) λx102 x103 x104=>R (.agg #[zu x102,zu x103,x104.zw]) w93
theorem zdh(p0)(R)(w)(h:zai p0 R w):Calls Tryz.prog 39 #[.int .u32 p0] w (Ret R):=lwC zat Tryz.func39 (by kernel_rfl) (by kernel_rfl) h
def zaW:Ann:=(.q (.q (.q (.q (.q .nil)))))
def zaI(p0:(Int×Int×ByteArray×Unit))(p1:(Int×Int×ByteArray×Unit))(R:VWP)(w:World):Prop:=Nw (w.alloc (.cells #[zb p0.1,zu p0.2.1,.string p0.2.2.1] 123)) λw1=>Nw (w1.alloc (.cells #[zb p1.1,zu p1.2.1,.string p1.2.2.1] 123)) λw2=>(0<=(2:Int)/\(2:Int)<=2/\(24:Int)*(2:Int)<=281474976710656/\(2:Int)<=9223372036854775807)/\Nw (w2.alloc (.cells (madeCells #[zb 0,zu 0,.string (BM #[])] (2*3)) 123)) λw3=>dm w3 (zB w) λx1 x2 x3=>(0<=(0:Int)/\(0:Int)<2)/\Wr w3 ((zB w2).add (0*3))/\Nw (w3.setCell ((zB w2).add (0*3)) (zb x1)) λw4=>Wr w4 (((zB w2).add (0*3)).add 1)/\Nw (w4.setCell (((zB w2).add (0*3)).add 1) (zu x2)) λw5=>Wr w5 (((zB w2).add (0*3)).add 2)/\Nw (w5.setCell (((zB w2).add (0*3)).add 2) (.string x3)) λw6=>dm w6 (zB w1) λx4 x5 x6=>(0<=(1:Int)/\(1:Int)<2)/\Wr w6 ((zB w2).add (1*3))/\Nw (w6.setCell ((zB w2).add (1*3)) (zb x4)) λw7=>Wr w7 (((zB w2).add (1*3)).add 1)/\Nw (w7.setCell (((zB w2).add (1*3)).add 1) (zu x5)) λw8=>Wr w8 (((zB w2).add (1*3)).add 2)/\Nw (w8.setCell (((zB w2).add (1*3)).add 2) (.string x6)) λw9=>R (.slice (some (zB w2)) 2 2) w9
theorem zdN(p0)(p1)(R)(w)(h:zaI p0 p1 R w):Calls Tryz.prog 67 #[.agg #[.int .u8 p0.1,.int .u32 p0.2.1,.string p0.2.2.1],.agg #[.int .u8 p1.1,.int .u32 p1.2.1,.string p1.2.2.1]] w (Ret R):=lwC zaW Tryz.func67 (by kernel_rfl) (by kernel_rfl) h
end Go.Proofs
namespace Go.Proofs
open Go.Gk Go.RowKit Go.Gm
abbrev agA(a:Ag):Value:=.agg #[.int .u8 a.1,.int .u32 a.2.1,.string a.2.2]
def Arg1(f:Nat)(n:Int)(a:Ag):Prop:=∀(w:World) (R:VWP),(∀w',Below w.heap.size w w'->R (agA a) w')->cR f #[.int .u32 n] w R
theorem zi3(n:Int):Arg1 68 n (4,n,bs []):=λw R hR=>by
 refine za.of (zeX n R w ?_) λ_ _ h=>h
 refine box3 rfl λw4 h4 b4 z4=>?_
 exact h4.rI (n:=0) (x:=4) rfl (h4.rI (n:=1) (x:=n) rfl (h4.rT (n:=2) (x:=bs []) rfl (hR w4 b4)))
theorem fId(n:Int):Arg1 69 n (1,n,bs []):=λw R hR=>by
 refine za.of (zgj n R w ?_) λ_ _ h=>h
 refine box3 rfl λw4 h4 b4 z4=>?_
 exact h4.rI (n:=0) (x:=1) rfl (h4.rI (n:=1) (x:=n) rfl (h4.rT (n:=2) (x:=bs []) rfl (hR w4 b4)))
theorem fNum(n:Int):Arg1 71 n (2,n,bs []):=λw R hR=>by
 refine za.of (zdM n R w ?_) λ_ _ h=>h
 refine box3 rfl λw4 h4 b4 z4=>?_
 exact h4.rI (n:=0) (x:=2) rfl (h4.rI (n:=1) (x:=n) rfl (h4.rT (n:=2) (x:=bs []) rfl (hR w4 b4)))
section
variable {w:World} {R:VWP}
theorem zwb{s:ByteArray}(hR:∀w',Below w.heap.size w w'->R (agA (3,0,s)) w'):cR 70 #[.string s] w R:=by
 refine za.of (zeZ s R w ?_) λ_ _ h=>h
 refine box3 rfl λw4 h4 b4 z4=>?_
 exact h4.rI (n:=0) (x:=3) rfl (h4.rI (n:=1) (x:=0) rfl (h4.rT (n:=2) (x:=s) rfl (hR w4 b4)))
theorem zqS{a b:Ag}(hR:∀w' c,w.heap.size<=c->Blk w' c 123 (flat agV [a,b])->Below w.heap.size w w'->R (.slice (some (blk c)) 2 2) w'):cR 67 #[agA a,agA b] w R:=by
 refine za.of (zdN (a.1,a.2.1,a.2.2,()) (b.1,b.2.1,b.2.2,()) R w ?_) λ_ _ h=>h
 refine zm λw1 hA1 b1 z1=>zm λw2 hB2 b2 z2=>?_
 have hA1:Blk w1 w.heap.size 123 (agV a):=hA1
 have hB2:Blk w2 w1.heap.size 123 (agV b):=hB2
 refine⟨by decide,zm λw3 hC3 b3 z3=>?_⟩
 have hC3:Blk w3 w2.heap.size 123 [.int .u8 0,.int .u32 0,.string ⟨#[]⟩,.int .u8 0,.int .u32 0,.string ⟨#[]⟩]:=by
  have e:(madeCells #[(.int .u8 (0:Int)),(.int .u32 (0:Int)),(.string (BM #[]))] (2*3)).toList=[.int .u8 0,.int .u32 0,.string ⟨#[]⟩,.int .u8 0,.int .u32 0,.string ⟨#[]⟩]:=by kernel_rfl
  rw[e]at hC3
  exact hC3
 have hA3:=(hA1.below b2).below b3
 have hB3:=hB2.below b3
 have s1:=b1.size
 refine hA3.rI (n:=0) (x:=a.1) rfl (hA3.rI (n:=1) (x:=a.2.1) rfl (hA3.rT (n:=2) (x:=a.2.2) rfl ⟨by decide,?_⟩))
 have step:∀{w':World} {cs:List Value} {i:Nat} {x y z:Value} {K:World->Prop},Blk w' w2.heap.size 123 cs->i+2<cs.length->
   (∀w'',Blk w'' w2.heap.size 123 (((cs.set i x).set (i+1) y).set (i+2) z)->Chg w2.heap.size w' w''->K w'')->
   Wr w' ((blk w2.heap.size).add i)/\Nw (w'.setCell ((blk w2.heap.size).add i) x) λu1=>Wr u1 (((blk w2.heap.size).add i).add 1)/\Nw (u1.setCell (((blk w2.heap.size).add i).add 1) y) λu2=>Wr u2 (((blk w2.heap.size).add i).add 2)/\Nw (u2.setCell (((blk w2.heap.size).add i).add 2) z) K:=λ{w' cs i x y z K} hB hi hK=>by
  rw[zn,zn]
  refine⟨hB.wr (by omega),Nw.mk ?_⟩
  have h1:=hB.set i x
  refine⟨h1.wr (by rw[List.length_set];omega),Nw.mk ?_⟩
  have h2:=h1.set (i+1) y
  refine⟨h2.wr (by rw[List.length_set,List.length_set];omega),Nw.mk ?_⟩
  exact hK _ (h2.set (i+2) z) (((Chg.set _ _ _ _).trans (Chg.set _ _ _ _)).trans (Chg.set _ _ _ _))
 refine step hC3 (by show 0*3+2<6;decide) λw6 hC6 c6=>?_
 have hB6:=c6.blk hB3 (by omega)
 refine hB6.rI (n:=0) (x:=b.1) rfl (hB6.rI (n:=1) (x:=b.2.1) rfl (hB6.rT (n:=2) (x:=b.2.2) rfl ⟨by decide,?_⟩))
 refine step hC6 (by show 1*3+2<6;decide) λw9 hC9 c9=>?_
 have b12:=b1.on b2
 exact hR w9 w2.heap.size (by omega) hC9 (c9.below (c6.below (b12.on b3) (by omega)) (by omega))
end
structure Sm (w0 w:World) (mb:Nat) (s:Sl) (pl:List PI):Prop where
 below:Below w0.heap.size w0 w
 box:Blk w mb 25 (moV (0,20,s,()))
 lo:w0.heap.size<=mb
 own:zam w w0.heap.size s pl
section
variable {w0 w w':World} {mb:Nat} {s t:Sl} {pl:List PI} {p:PI}
theorem Sm.on(h:Sm w0 w mb s pl)(hb:Below w.heap.size w w'):Sm w0 w' mb s pl:=⟨h.below.on hb,h.box.below hb,h.lo,h.own.below hb⟩
theorem Sm.push(h:Sm w0 w mb s pl)(ht:Own w 123 3 t (flat agV p.2.2.2))(hF:zK w0.heap.size t){b:Nat}(hB:Blk w b 44 (inV (mkIn p t)))(hl:pl.length<=100){K:World->Prop}
  (hK:∀r w',Sm w0 w' mb r (pl++[p])->K w'):zA Tryz.prog 23 (.slice s.a s.l s.c) (.slice (some (blk b)) 1 1) w λr w1=>Wr w1 ((blk mb).add 2)/\Nw (w1.setCell ((blk mb).add 2) (.slice r.a r.l r.c)) K:=by
 refine h.own.push h.below ht hF hB (by omega) λr w1 hO hb hs hk=>?_
 have hM:=h.box.of_block (hk mb _ _ h.box (by decide))
 refine⟨hM.wr (n:=2) (by show 2<3;decide),Nw.mk (hK r _ ⟨?_,hM.set 2 _,h.lo,?_⟩)⟩
 ·exact(Chg.set mb 2 w1 _).below hb h.lo
 ·exact hO.chgT hM (by decide) (by decide) (Chg.set mb 2 w1 _)
theorem Sm.two{f1 f2:Nat}{n1 n2:Int}{a1 a2:Ag}(h1:Arg1 f1 n1 a1)(h2:Arg1 f2 n2 a2)(h:Sm w0 w mb s pl)(hl:pl.length<=100){op ty re:Int}{K:World->Prop}(hK:∀r w',Sm w0 w' mb r (pl++[(op,ty,re,[a1,a2])])->K w') :
  ldS w.drew ((blk mb).add 2) λx1=>cR f1 #[.int .u32 n1] w.drew λv2 w6=>∃x3:(Int×Int×ByteArray×Unit),v2=(.agg #[(.int .u8 x3.1),(.int .u32 x3.2.1),(.string x3.2.2.1)])/\w6.cell? ((blk mb).add 2)=some (.slice x1.a x1.l x1.c)/\
   cR f2 #[.int .u32 n2] w6 λv4 w7=>∃x5:(Int×Int×ByteArray×Unit),v4=(.agg #[(.int .u8 x5.1),(.int .u32 x5.2.1),(.string x5.2.2.1)])/\w7.cell? ((blk mb).add 2)=some (.slice x1.a x1.l x1.c)/\
   cR 67 #[(.agg #[(.int .u8 x3.1),(.int .u32 x3.2.1),(.string x3.2.2.1)]),(.agg #[(.int .u8 x5.1),(.int .u32 x5.2.1),(.string x5.2.2.1)])] w7 λv6 w8=>∃x7:Sl,v6=(.slice x7.a x7.l x7.c)/\w8.cell? ((blk mb).add 2)=some (.slice x1.a x1.l x1.c)/\
   Nw (w8.alloc (.cells #[(.int .u16 op),(.int .u32 ty),(.int .u32 re),(.slice x7.a x7.l x7.c)] 44)) λw9=>w9.cell? ((blk mb).add 2)=some (.slice x1.a x1.l x1.c)/\
   zA Tryz.prog 23 (.slice x1.a x1.l x1.c) (.slice (some (blk w8.heap.size)) 1 1) w9 λr8 w10=>Wr w10 ((blk mb).add 2)/\Nw (w10.setCell ((blk mb).add 2) (.slice r8.a r8.l r8.c)) K:=by
 have bd:Below w.heap.size w w.drew:=(Below.refl _ _).drew
 have hM:=h.box.drew
 refine hM.rS (n:=2) (x:=s) rfl (h1 _ _ λw6 b6=>⟨(a1.1,a1.2.1,a1.2.2,()),rfl,(hM.below b6).cell (n:=2) rfl,h2 _ _ λw7 b7=>⟨(a2.1,a2.2.1,a2.2.2,()),rfl,((hM.below b6).below b7).cell (n:=2) rfl,?_⟩⟩)
 refine zqS (a:=a1) (b:=a2) λw8 c hc hC b8=>⟨⟨some (blk c),2,2⟩,rfl,(((hM.below b6).below b7).below b8).cell (n:=2) rfl,zm λw9 hI b9 z9=>⟨((((hM.below b6).below b7).below b8).below b9).cell (n:=2) rfl,?_⟩⟩
 have b09:=(((bd.on b6).on b7).on b8).on b9
 have s6:=b6.size
 have s7:=b7.size
 have hs:=h.below.size
 have hd:w.drew.heap.size=w.heap.size:=rfl
 refine(h.on b09).push (p:=(op,ty,re,[a1,a2])) (t:=⟨some (blk c),2,2⟩) ⟨rfl,.inr ⟨c,_,rfl,hC.below b9,Nat.le_refl _,(by show 2<=9223372036854775807;decide),rfl,rfl⟩⟩ (λa ha=>?_) hI hl hK
 cases ha
 show w0.heap.size<=c
 omega
theorem Sm.one{f1 f2:Nat}{n1 n2:Int}{a1 a2:Ag}(h1:Arg1 f1 n1 a1)(h2:Arg1 f2 n2 a2)(h:Sm w0 w mb s pl)(hl:pl.length<=100){op ty re:Int}{K:World->Prop}(hK:∀r w',Sm w0 w' mb r (pl++[(op,ty,re,[a1])])->K w') :
  ldS w.drew ((blk mb).add 2) λx1=>cR f1 #[.int .u32 n1] w.drew λv2 w6=>∃x3:(Int×Int×ByteArray×Unit),v2=(.agg #[(.int .u8 x3.1),(.int .u32 x3.2.1),(.string x3.2.2.1)])/\w6.cell? ((blk mb).add 2)=some (.slice x1.a x1.l x1.c)/\
   cR f2 #[.int .u32 n2] w6 λv4 w7=>∃x5:(Int×Int×ByteArray×Unit),v4=(.agg #[(.int .u8 x5.1),(.int .u32 x5.2.1),(.string x5.2.2.1)])/\w7.cell? ((blk mb).add 2)=some (.slice x1.a x1.l x1.c)/\
   cR 67 #[(.agg #[(.int .u8 x3.1),(.int .u32 x3.2.1),(.string x3.2.2.1)]),(.agg #[(.int .u8 x5.1),(.int .u32 x5.2.1),(.string x5.2.2.1)])] w7 λv6 w8=>∃x7:Sl,v6=(.slice x7.a x7.l x7.c)/\w8.cell? ((blk mb).add 2)=some (.slice x1.a x1.l x1.c)/\
   (0<=(0:Int)/\(0:Int)<=(1:Int)/\(1:Int)<=(x7.c:Int))/\
   Nw (w8.alloc (.cells #[(.int .u16 op),(.int .u32 ty),(.int .u32 re),(.slice (if x7.c=0 then x7.a else Option.map (λa=>a.add (0*3)) x7.a) (1-0) (x7.c-0))] 44)) λw9=>w9.cell? ((blk mb).add 2)=some (.slice x1.a x1.l x1.c)/\
   zA Tryz.prog 23 (.slice x1.a x1.l x1.c) (.slice (some (blk w8.heap.size)) 1 1) w9 λr8 w10=>Wr w10 ((blk mb).add 2)/\Nw (w10.setCell ((blk mb).add 2) (.slice r8.a r8.l r8.c)) K:=by
 have bd:Below w.heap.size w w.drew:=(Below.refl _ _).drew
 have hM:=h.box.drew
 refine hM.rS (n:=2) (x:=s) rfl (h1 _ _ λw6 b6=>⟨(a1.1,a1.2.1,a1.2.2,()),rfl,(hM.below b6).cell (n:=2) rfl,h2 _ _ λw7 b7=>⟨(a2.1,a2.2.1,a2.2.2,()),rfl,((hM.below b6).below b7).cell (n:=2) rfl,?_⟩⟩)
 refine zqS (a:=a1) (b:=a2) λw8 c hc hC b8=>⟨⟨some (blk c),2,2⟩,rfl,(((hM.below b6).below b7).below b8).cell (n:=2) rfl,⟨by decide,by decide,(by show(1:Int)<=((2:Nat):Int);decide)⟩,zm λw9 hI b9 z9=>⟨((((hM.below b6).below b7).below b8).below b9).cell (n:=2) rfl,?_⟩⟩
 have b09:=(((bd.on b6).on b7).on b8).on b9
 have s6:=b6.size
 have s7:=b7.size
 have hs:=h.below.size
 have hd:w.drew.heap.size=w.heap.size:=rfl
 refine(h.on b09).push (p:=(op,ty,re,[a1])) (t:=⟨some (blk c),1,2⟩) ⟨rfl,.inr ⟨c,_,rfl,hC.below b9,(by show 1<=2;decide),(by show 2<=9223372036854775807;decide),rfl,rfl⟩⟩ (λa ha=>?_) hI hl hK
 cases ha
 show w0.heap.size<=c
 omega
theorem Sm.none(h:Sm w0 w mb s pl)(hl:pl.length<=100){op ty re:Int}{K:World->Prop}(hK:∀r w',Sm w0 w' mb r (pl++[(op,ty,re,[])])->K w') :
  ldS w ((blk mb).add 2) λx1=>Nw (w.alloc (.cells #[(.int .u16 op),(.int .u32 ty),(.int .u32 re),(.slice none 0 0)] 44)) λw9=>
   zA Tryz.prog 23 (.slice x1.a x1.l x1.c) (.slice (some (blk w.heap.size)) 1 1) w9 λr8 w10=>Wr w10 ((blk mb).add 2)/\Nw (w10.setCell ((blk mb).add 2) (.slice r8.a r8.l r8.c)) K:=by
 refine h.box.rS (n:=2) (x:=s) rfl (zm λw9 hI b9 z9=>?_)
 exact(h.on b9).push (p:=(op,ty,re,[])) (t:=⟨Option.none,0,0⟩) (Own.nil _ _ _) (λa ha=>by cases ha) hI hl hK
theorem zq8{u:World}{al new:List Ag}{b:Nat}(h:Own u 123 3 t (flat agV al))(hb:Below w.heap.size w u)(hF:zK w.heap.size t)(hB:Blk u b 123 (flat agV new))(hn:0<new.length)(hl:al.length+new.length<=100){k:Sl->World->Prop}{m:Nat}(hm:m=new.length)
  (hk:∀r w',Own w' 123 3 r (flat agV (al++new))->Below w.heap.size w w'->zK w.heap.size r->(∀i T cs,Blk u i T cs->T≠123->Blk w' i T cs)->k r w'):zA Tryz.prog 42 (.slice t.a t.l t.c) (.slice (some (blk b)) m m) u k:=by
 subst hm
 have htl:t.l=al.length:=by have:=h.1;rw[zP zG]at this;omega
 refine yV eArg h (news:=flat agV new) (by rw[zP zG]) (λj v hj=>hB.cell hj) (λv hv=>?_) (by omega) (by omega) λr w' h1 hl' hg=>?_
 ·obtain⟨x,_,hx⟩:=List.mem_flatMap.1 hv
  simp only[agV,List.mem_cons,List.not_mem_nil,or_false]at hx
  rcases hx with rfl |rfl |rfl<;>rfl
 ·rcases hg with⟨_,_,h3⟩ | ⟨b',h3,h4,h5⟩
  ·rw[h3]at hl';omega
  ·have hbb:w.heap.size<=b':=by
    rcases h4 with h4 |h4
    ·exact hF _ h4
    ·have:=hb.size
     omega
   have e:flat agV (al++new)=flat agV al++flat agV new:=by simp[flat]
   refine hk r w' (by rw[e];exact h1) (hb.trans (zW h5 hbb hb.size)) (λa ha=>by rw[h3]at ha;cases ha;exact hbb) λi T cs hi hT=>hi.of_block (h5.block _ hi.lt λe=>?_)
   have e:=Option.some.inj e
   subst e
   rcases h4 with h4 |h4
   ·exact ym h hi (λq=>hT q.symm) h4
   ·have:=hi.lt
    omega
end
end Go.Proofs
namespace Go.Proofs
open Go.Gk Go.RowKit Go.Gm
section
variable {w:World} {R:VWP}
set_option maxHeartbeats 4000000 in
theorem zhP{loc:Int}(hR:∀w' s,IsPl w' s (smP loc)->Below w.heap.size w w'->R (moA (0,20,s,())) w'):cR 39 #[.int .u32 loc] w R:=by
 refine za.of (zdh loc R w ?_) λ_ _ h=>h
 refine zm λw1 hX1 b1 z1=>box3 rfl λw5 hM5 b5 z5=>?_
 have hX1:Blk w1 w.heap.size 25 (moV (0,0,⟨none,0,0⟩,())):=hX1
 have S0:Sm w1 w5 w1.heap.size ⟨none,0,0⟩ []:=⟨b5,hM5,Nat.le_refl _,zam.nil _ _⟩
 refine Sm.two (zi3 0) (zi3 0) S0 (by decide) λr1 w11 S1=>?_
 refine zi3 4 _ _ λw12 b12=>⟨(4,4,bs [],()),rfl,fId 6 _ _ λw13 b13=>⟨(1,6,bs [],()),rfl,?_⟩⟩
 refine zqS (a:=(4,4,bs [])) (b:=(1,6,bs [])) λw14 c hc hC b14=>⟨⟨some (blk c),2,2⟩,rfl,box4 rfl λw19 hE b19 z19=>?_⟩
 have b1114:=(b12.on b13).on b14
 have s12:=b12.size
 have s13:=b13.size
 have s14:=b1114.size
 refine hE.drew.rS (n:=3) (x:=⟨some (blk c),2,2⟩) rfl ?_
 refine zwb (s:=bs [109,97,105,110]) λw20 b20=>⟨(3,0,bs [109,97,105,110],()),rfl,(hE.drew.below b20).cell (n:=3) rfl,?_⟩
 refine fId 5 _ _ λw21 b21=>⟨(1,5,bs [],()),rfl,((hE.drew.below b20).below b21).cell (n:=3) rfl,zm λw22 hA22 b22 z22=>⟨(((hE.drew.below b20).below b21).below b22).cell (n:=3) rfl,?_⟩⟩
 have d19:Below w19.heap.size w19 w19.drew:=(Below.refl _ _).drew
 have b1922:=((d19.on b20).on b21).on b22
 have b1122:=(b1114.on b19).on b1922
 have hE22:=hE.below b1922
 have hC22:=(hC.below b19).below b1922
 refine zq8 (w:=w11) (t:=⟨some (blk c),2,2⟩) (al:=[(4,4,bs []),(1,6,bs [])]) (new:=[(3,0,bs [109,97,105,110]),(1,5,bs [])]) ⟨rfl,.inr ⟨c,_,rfl,hC22,Nat.le_refl _,(by show 2<=9223372036854775807;decide),rfl,rfl⟩⟩ b1122 (λa ha=>by cases ha;show w11.heap.size<=c;omega) hA22 (by decide) (by decide) rfl λr20 w23 hO23 b23 hF23 hk23=>?_
 have hE23:=hk23 _ _ _ hE22 (by decide)
 refine⟨hE23.wr (n:=3) (by show 3<4;decide),Nw.gen λw24 e24=>?_⟩
 have c24:Chg w14.heap.size w23 w24:=by rw[e24];exact Chg.set _ _ _ _
 have hE24:Blk w24 w14.heap.size 44 [.int .u16 15,.int .u32 0,.int .u32 0,.slice r20.a r20.l r20.c]:=by rw[e24];exact hE23.set 3 _
 have b24:Below w11.heap.size w11 w24:=c24.below b23 (by omega)
 have hO24:Own w24 123 3 r20 (flat agV [(4,4,bs []),(1,6,bs []),(3,0,bs [109,97,105,110]),(1,5,bs [])]):=hO23.of_block λa ha=>c24.block _ λq=>by
  have:=ym hO23 hE23 (by decide)
  exact this (by rw[ha,<-q,<-(hO23.lt ha).1])
 have S24:=S1.on b24
 have s1:=S1.below.size
 refine S24.box.rS (n:=2) (x:=r1) rfl (hE24.rI (n:=0) rfl (hE24.rI (n:=1) rfl (hE24.rI (n:=2) rfl (hE24.rS (n:=3) (x:=r20) rfl (zm λw25 hI25 b25 z25=>?_)))))
 refine(S24.on b25).push (p:=(15,0,0,[(4,4,bs []),(1,6,bs []),(3,0,bs [109,97,105,110]),(1,5,bs [])])) (t:=r20) (hO24.below b25) (λa ha=>Nat.le_trans s1 (hF23 a ha)) hI25 (by decide) λr2 w27 S2=>?_
 refine Sm.two (fId 6) (zi3 7) S2 (by decide) λr3 w33 S3=>?_
 clear hE hC hE22 hC22 hA22 hO23 hE23 hE24 hO24 S24 hI25 S2 hk23 b23 b24 b1122 b1922 d19 b1114 s12 s13 s14 s1
 refine fId 5 _ _ λw34 b34=>⟨(1,5,bs [],()),rfl,zi3 30 _ _ λw35 b35=>⟨(4,30,bs [],()),rfl,?_⟩⟩
 refine zqS (a:=(1,5,bs [])) (b:=(4,30,bs [])) λw36 c hc hC b36=>⟨⟨some (blk c),2,2⟩,rfl,box4 rfl λw41 hE b41 z41=>?_⟩
 have b3336:=(b34.on b35).on b36
 have s34:=b34.size
 have s35:=b35.size
 have s36:=b3336.size
 refine hE.drew.rS (n:=3) (x:=⟨some (blk c),2,2⟩) rfl ?_
 refine fNum loc _ _ λw42 b42=>⟨(2,loc,bs [],()),rfl,(hE.drew.below b42).cell (n:=3) rfl,zm λw43 hA43 b43 z43=>⟨((hE.drew.below b42).below b43).cell (n:=3) rfl,?_⟩⟩
 have d41:Below w41.heap.size w41 w41.drew:=(Below.refl _ _).drew
 have b4143:=(d41.on b42).on b43
 have b3343:=(b3336.on b41).on b4143
 have hE43:=hE.below b4143
 have hC43:=(hC.below b41).below b4143
 refine zq8 (w:=w33) (t:=⟨some (blk c),2,2⟩) (al:=[(1,5,bs []),(4,30,bs [])]) (new:=[(2,loc,bs [])]) ⟨rfl,.inr ⟨c,_,rfl,hC43,Nat.le_refl _,(by show 2<=9223372036854775807;decide),rfl,rfl⟩⟩ b3343 (λa ha=>by cases ha;show w33.heap.size<=c;omega) hA43 (by show 0<1;decide) (by show 2+1<=100;decide) rfl λr44 w44 hO44 b44 hF44 hk44=>?_
 have hE44:=hk44 _ _ _ hE43 (by decide)
 refine⟨hE44.wr (n:=3) (by show 3<4;decide),Nw.gen λw45 e45=>?_⟩
 have c45:Chg w36.heap.size w44 w45:=by rw[e45];exact Chg.set _ _ _ _
 have hE45:Blk w45 w36.heap.size 44 [.int .u16 71,.int .u32 0,.int .u32 0,.slice r44.a r44.l r44.c]:=by rw[e45];exact hE44.set 3 _
 have b45:Below w33.heap.size w33 w45:=c45.below b44 (by omega)
 have hO45:Own w45 123 3 r44 (flat agV [(1,5,bs []),(4,30,bs []),(2,loc,bs [])]):=hO44.of_block λa ha=>c45.block _ λq=>by
  have:=ym hO44 hE44 (by decide)
  exact this (by rw[ha,<-q,<-(hO44.lt ha).1])
 have S45:=S3.on b45
 have s3:=S3.below.size
 refine S45.box.rS (n:=2) (x:=r3) rfl (hE45.rI (n:=0) rfl (hE45.rI (n:=1) rfl (hE45.rI (n:=2) rfl (hE45.rS (n:=3) (x:=r44) rfl (zm λw46 hI46 b46 z46=>?_)))))
 refine(S45.on b46).push (p:=(71,0,0,[(1,5,bs []),(4,30,bs []),(2,loc,bs [])])) (t:=r44) (hO45.below b46) (λa ha=>Nat.le_trans s3 (hF44 a ha)) hI46 (by show 3<=100;decide) λr4 w48 S4=>?_
 clear hE hC hE43 hC43 hA43 hO44 hE44 hE45 hO45 S45 hI46 hk44 b44 b45 b3343 b4143 d41 b3336 s34 s35 s36 s3
 refine Sm.none S4 (by show 4<=100;decide) λr5 w51 S5=>?_
 refine Sm.two (fNum 32) (fNum 1) S5 (by show 5<=100;decide) λr6 w57 S6=>?_
 refine Sm.one (fId 1) (fId 1) S6 (by show 6<=100;decide) λr7 w63 S7=>?_
 refine Sm.two (zi3 3) (fId 2) S7 (by show 7<=100;decide) λr8 w69 S8=>?_
 refine Sm.one (zi3 3) (zi3 3) S8 (by show 8<=100;decide) λr9 w75 S9=>?_
 refine Sm.two (zi3 0) (fId 3) S9 (by show 9<=100;decide) λr10 w81 S10=>?_
 refine Sm.none S10 (by show 10<=100;decide) λr11 w84 S11=>?_
 refine Sm.none S11 (by show 11<=100;decide) λr12 w87 S12=>?_
 refine Sm.none S12 (by show 12<=100;decide) λr13 w90 S13=>?_
 have hS:Sm w1 w90 w1.heap.size r13 (smP loc):=S13
 refine Mo.load hS.box (st3 (hX1.below hS.below) rfl λw93 hX93 c93=>Mo.load (x:=(0,20,r13,())) hX93 ?_)
 have s1:=b1.size
 exact hR w93 r13 (hS.own.keep λi hi _=>c93.block i (by omega)).isPl (c93.below (b1.trans (hS.below.mono (by omega))) (Nat.le_refl _))
end
theorem zvR:entF (ix (smP 0) 1)=(4,6,bs [109,97,105,110],[5]):=by decide +kernel
theorem zky:entK (smP 0)=[1]:=by decide +kernel
theorem zuZ:(fcP (smP 0)).pts [5] 1=[]:=by decide +kernel
theorem zva:(fcP (smP 0)).pts [5] 3=[(5,0,-1,2,1,true,())]:=by kernel_rfl
theorem zqu{fs:List Fa}(h:FacL (smP 0) fs):∃f,fs=[f]/\f=(bs [109,97,105,110],4,6,[],[(5,0,-1,2,1,true,())]):=by
 obtain⟨h1,h2⟩:=h
 rw[zky]at h1
 obtain⟨f,rfl⟩:=List.length_eq_one_iff.1 h1
 refine⟨f,rfl,?_⟩
 have:=h2 0 (by simp) (by rw[zky];simp)
 have e:(entK (smP 0))[0]'(by rw[zky];simp)=1:=by
  have:∀(l:List Nat) (hl:0<l.length),l=[1]->l[0]=1:=λl hl e=>by subst e;rfl
  exact this _ _ zky
 rw[e]at this
 obtain⟨q1,q2,q3,q4,q5⟩:=this
 rw[zvR]at q1 q2 q3 q4 q5
 dsimp only at q1 q2 q3 q4 q5
 rw[zuZ]at q4
 rw[zva]at q5
 have e4:=q4.perm.eq_nil
 have e5:=List.perm_singleton.1 q5.perm
 obtain⟨a,b,c,d,g⟩:=f
 simp only[List.getElem_cons_zero]at q1 q2 q3 e4 e5
 rw[q1,q2,q3,e4,e5]
section
variable {w:World} {R:VWP}
set_option maxHeartbeats 4000000 in
theorem zjJ(ht:Tab w)(hR:∀w',Below w.heap.size w w'->R (.bool true) w'):cR 11 #[] w R:=by
 refine za.of (zdg R w ?_) λ_ _ h=>h
 refine zhP (loc:=0) λw1 s hs b1=>⟨(0,20,s,()),rfl,?_⟩
 have hp:=zrn 0 (by decide)
 have nobad:∀{e a:Int} {Q:Prop},(e,a)=facE 20 (smP 0)->e≠0->Q:=λ{e a Q} h1 h2=>by
  rw[zuX]at h1
  exact absurd (congrArg Prod.fst h1) h2
 refine zmo (x:=(0,20,s,())) (name:=bs [109,97,105,110]) (model:=4) hs hp (by show(0:Int)<=20;decide) (ht.below b1) (λw2 e a h1 h2 _=>nobad h1 h2) (λw2 fs _ _ hfl hn _=>?_) (λw2 fs y f _ _ hfl hn b2 hy=>?_)
 ·obtain⟨f,rfl,rfl⟩:=zqu hfl
  exact absurd hn (by simp[fndF])
 obtain⟨f',rfl,rfl⟩:=zqu hfl
 have hn:f=(bs [109,97,105,110],4,6,[],[(5,0,-1,2,1,true,())]):=by
  have:fndF [(bs [109,97,105,110],4,6,[],[(5,0,-1,2,1,true,())])] (bs [109,97,105,110]) 4=some (bs [109,97,105,110],4,6,[],[(5,0,-1,2,1,true,())]):=by simp[fndF]
  rw[this]at hn
  exact(Option.some.inj hn).symm
 subst hn
 refine⟨y,0,rfl,box5 rfl λw8 hF8 b8 z8=>?_⟩
 have hF8:Blk w8 w2.heap.size 47 (faV y):=hF8
 have b08:=(b1.on b2).on b8
 refine zhP (loc:=0) λw9 s' hs' b9=>⟨(0,20,s',()),rfl,?_⟩
 have b09:=b08.on b9
 refine zmo (x:=(0,20,s',())) (name:=bs [109,97,105,110]) (model:=0) hs' hp (by show(0:Int)<=20;decide) (ht.below b09) (λw10 e a h1 h2 _=>nobad h1 h2) (λw10 fs _ _ hfl' _ b10=>?_) (λw10 fs y' f _ _ hfl' hn' _ _=>?_)
 rotate_left
 ·obtain⟨f',rfl,rfl⟩:=zqu hfl'
  have:fndF [(bs [109,97,105,110],4,6,[],[(5,0,-1,2,1,true,())])] (bs [109,97,105,110]) 0=none:=by simp[fndF]
  rw[this]at hn'
  cases hn'
 refine⟨faZ,5,rfl,box5 rfl λw16 hG16 b16 z16=>?_⟩
 have b816:=(b9.on b10).on b16
 have b016:=b08.on b816
 have hF16:=hF8.below b816
 have hy16:=(hy.below b8).below b816
 have e3:y.2.2.1=6:=hy16.fn
 have hi:y.2.2.2.1.l=0:=hy16.ins.len
 have ho:y.2.2.2.2.1.l=1:=hy16.outs.len
 refine zR rfl (zR rfl (hF16.rI (n:=2) (x:=y.2.2.1) rfl (zk (λ_=>?_) (λq=>absurd e3 q))))
 refine hF16.rS (n:=3) (x:=y.2.2.2.1) rfl (zk (λ_=>?_) (λq=>absurd (by rw[hi];rfl) q))
 refine hF16.rS (n:=4) (x:=y.2.2.2.2.1) rfl (zk (λ_=>?_) (λq=>absurd (by rw[ho];rfl) q))
 refine hF16.rS (n:=4) (x:=y.2.2.2.2.1) rfl ?_
 obtain⟨a,ha⟩:=hy16.outs.base (i:=0) (by decide)
 have hc:=λj hj=>hy16.outs.cell a ha 0 (by decide) j hj
 refine⟨⟨by decide,by omega⟩,ze ha ⟨_,by rw[zn];exact hc 0 (by decide),_,by rw[zn];exact hc 1 (by decide),_,by rw[zn];exact hc 2 (by decide),_,by rw[zn];exact hc 3 (by decide),_,by rw[zn];exact hc 4 (by decide),_,by rw[zn];exact hc 5 (by decide),?_⟩⟩
 refine zR rfl ?_
 refine zhP (loc:=1) λw17 s'' hs'' b17=>⟨(0,20,s'',()),rfl,?_⟩
 refine znk (x:=(0,20,s'',())) hs'' (zrn 1 (by decide)) (by show(0:Int)<=20;decide) (ht.below (b016.on b17)) λw18 b18=>⟨((facE 20 (smP 1)).1,(facE 20 (smP 1)).2,()),rfl,?_⟩
 rw[zuY]
 exact hR w18 ((b016.on b17).on b18)
end
end Go.Proofs
namespace Go.Proofs
open Go.Gk Go.RowKit Go.Gm
theorem zwk{b i:Nat}{T:TypeId}{cs:List Value}{v0 v1 v2 v3 v4 v5:Value}{K:World->Prop}{w:World}(hB:Blk w b T cs)(hl:i+6<=cs.length)(hK:∀w',Blk w' b T (cs.take i++([v0,v1,v2,v3,v4,v5]++cs.drop (i+6)))->Chg b w w'->K w') :
  Wr w ((blk b).add i)/\Nw (w.setCell ((blk b).add i) v0) λw1=>Wr w1 (((blk b).add i).add 1)/\Nw (w1.setCell (((blk b).add i).add 1) v1) λw2=>Wr w2 (((blk b).add i).add 2)/\Nw (w2.setCell (((blk b).add i).add 2) v2) λw3=>Wr w3 (((blk b).add i).add 3)/\Nw (w3.setCell (((blk b).add i).add 3) v3) λw4=>Wr w4 (((blk b).add i).add 4)/\Nw (w4.setCell (((blk b).add i).add 4) v4) λw5=>Wr w5 (((blk b).add i).add 5)/\Nw (w5.setCell (((blk b).add i).add 5) v5) λw6=>K w6:=by
 simp only[zn]
 exact znE [v0,v1,v2,v3,v4,v5] i hB hl hK
theorem zwj{b i:Nat}{T:TypeId}{cs:List Value}{v0 v1 v2:Value}{K:World->Prop}{w:World}(hB:Blk w b T cs)(hl:i+3<=cs.length)(hK:∀w',Blk w' b T (cs.take i++([v0,v1,v2]++cs.drop (i+3)))->Chg b w w'->K w') :
  Wr w ((blk b).add i)/\Nw (w.setCell ((blk b).add i) v0) λw1=>Wr w1 (((blk b).add i).add 1)/\Nw (w1.setCell (((blk b).add i).add 1) v1) λw2=>Wr w2 (((blk b).add i).add 2)/\Nw (w2.setCell (((blk b).add i).add 2) v2) λw3=>K w3:=by
 simp only[zn]
 exact znE [v0,v1,v2] i hB hl hK
section
variable {w:World} {R:VWP}
set_option maxHeartbeats 2000000 in
theorem zsN{w2 w3:World}{fb j db:Nat}{F T:TypeId}{cs:List Value}{s:Sl}{l:List Po}(hf:Blk w3 fb F cs)(hj:cs[j]? =some (.slice s.a s.l s.c))(hs:IsPs w2 s l)(h23:Below w2.heap.size w2 w3)(hdb:w2.heap.size<=db)(hne:fb≠db)
  (hD:∃r,Blk w3 db T r/\r.length=l.length*6) {E:World->Prop} (hE:∀w',Chg db w3 w'->Blk w' db T (flat poV l)->E w') :
  zl (S:=Int×Unit) (λs2 w4 n3=>
 ldS w4 ((blk fb).add j) λx4=>
 ifB (decide (s2.1<(x4.l:Int)))
 (ldS w4 ((blk fb).add j) λx5=>
 (0<=s2.1/\s2.1<(x5.l:Int))/\
 zc x5.a λa6=>
 ldI w4 ((a6.add ((Int.toNat s2.1)*6)).add 0) .u32 λx7=>
 ldI w4 ((a6.add ((Int.toNat s2.1)*6)).add 1) .i64 λx8=>
 ldI w4 ((a6.add ((Int.toNat s2.1)*6)).add 2) .i64 λx9=>
 ldI w4 ((a6.add ((Int.toNat s2.1)*6)).add 3) .u32 λx10=>
 ldI w4 ((a6.add ((Int.toNat s2.1)*6)).add 4) .i64 λx11=>
 ldB w4 ((a6.add ((Int.toNat s2.1)*6)).add 5) λx12=>
 (0<=s2.1/\s2.1<(s.l:Int))/\
 Wr w4 ((blk db).add ((Int.toNat s2.1)*6))/\
 Nw (w4.setCell ((blk db).add ((Int.toNat s2.1)*6)) (.int .u32 x7)) λw5=>
 Wr w5 (((blk db).add ((Int.toNat s2.1)*6)).add 1)/\
 Nw (w5.setCell (((blk db).add ((Int.toNat s2.1)*6)).add 1) (.int .i64 x8)) λw6=>
 Wr w6 (((blk db).add ((Int.toNat s2.1)*6)).add 2)/\
 Nw (w6.setCell (((blk db).add ((Int.toNat s2.1)*6)).add 2) (.int .i64 x9)) λw7=>
 Wr w7 (((blk db).add ((Int.toNat s2.1)*6)).add 3)/\
 Nw (w7.setCell (((blk db).add ((Int.toNat s2.1)*6)).add 3) (.int .u32 x10)) λw8=>
 Wr w8 (((blk db).add ((Int.toNat s2.1)*6)).add 4)/\
 Nw (w8.setCell (((blk db).add ((Int.toNat s2.1)*6)).add 4) (.int .i64 x11)) λw9=>
 Wr w9 (((blk db).add ((Int.toNat s2.1)*6)).add 5)/\
 Nw (w9.setCell (((blk db).add ((Int.toNat s2.1)*6)).add 5) (.bool x12)) λw10=>
 n3 ((IntKind.i64.wrap (s2.1+(1:Int))),()) w10)
 (E w4)) ((0:Int),()) w3:=by
 obtain⟨r0,hD0,hr0⟩:=hD
 have hsl:=hs.len
 refine zl.count l.length hs.bound (λk w'=>Chg db w3 w'/\∃r,Blk w' db T (flat poV (l.take k)++r)/\r.length=(l.length-k)*6) ⟨Chg.refl _ _,r0,by simpa[flat] using hD0,by simpa using hr0⟩ ?_
 rintro k w4 hk ⟨c4,r,hD,hr⟩ next hnext
 have hf4:=c4.blk hf hne
 have b24:Below w2.heap.size w2 w4:=c4.below h23 hdb
 refine hf4.rS (n:=j) (x:=s) hj (zj (λg=>?_) (λg=>?_))
 ·have hkl:k<l.length:=by dsimp only at g;omega
  refine hf4.rS (n:=j) (x:=s) hj (zeQ (IsC.below zM hs b24) hkl ⟨⟨by omega,by omega⟩,?_⟩)
  rw[Int.toNat_natCast]
  have hfl:(flat poV (l.take k)).length=k*6:=by rw[zP zM,List.length_take,Nat.min_eq_left (by omega)]
  have hle:1*6<=(l.length-k)*6:=Nat.mul_le_mul_right _ (by omega)
  refine zwk hD (by rw[List.length_append,hfl,hr];omega) λw10 hD10 c10=>hnext w10 hkl ⟨c4.trans c10,r.drop 6,?_,by rw[List.length_drop,hr,show l.length-k=(l.length-(k+1))+1 by omega,Nat.add_mul];omega⟩
  have e1:(flat poV (l.take k)++r).take (k*6)=flat poV (l.take k):=by rw[<-hfl];exact List.take_left
  have e2:(flat poV (l.take k)++r).drop (k*6+6)=r.drop 6:=by rw[<-hfl,List.drop_append];simp
  rw[e1,e2]at hD10
  have e3:flat poV (l.take (k+1))=flat poV (l.take k)++poV l[k]:=by
   rw[List.take_succ_eq_append_getElem hkl]
   show(l.take k++[l[k]]).flatMap poV=_
   rw[List.flatMap_append]
   rfl
  rw[e3,List.append_assoc]
  exact hD10
 ·have hke:k=l.length:=by dsimp only at g;omega
  subst hke
  simp only[Nat.sub_self,Nat.zero_mul]at hr
  have:r=[]:=List.eq_nil_of_length_eq_zero hr
  subst this
  rw[List.take_length,List.append_nil]at hD
  exact hE w4 c4 hD
set_option maxHeartbeats 4000000 in
theorem zdE{x:Fw}{f:Fa}(hx:FaR w x f)(m1:48*f.2.2.2.1.length<=140737488351232)(m2:48*f.2.2.2.2.length<=140737488351232)(hR:∀w' y,FaR w' y f->Below w.heap.size w w'->R (faA y) w'):cR 16 #[faA x] w R:=by
 refine za.of (zcW x R w ?_) λ_ _ h=>h
 refine zm λw1 hX1 b1 z1=>zm λw2 hY2 b2 z2=>?_
 have hX1:Blk w1 w.heap.size 47 (faV x):=hX1
 have hY2:Blk w2 w1.heap.size 47 (faV faZ):=hY2
 have hX2:=hX1.below b2
 have b02:=b1.on b2
 have hi:=hx.ins.len
 have ho:=hx.outs.len
 refine hX2.rS (n:=3) (x:=x.2.2.2.1) rfl ⟨⟨by omega,by omega,by omega,by omega⟩,zm λw3 hD3 b3 z3=>?_⟩
 have hx2:=hx.below b02
 refine zsN (w2:=w2) (T:=52) (s:=x.2.2.2.1) (l:=f.2.2.2.1) (hX2.below b3) rfl hx2.ins b3 (Nat.le_refl _) (by omega) ⟨_,hD3,by rw[Array.length_toList,size_madeCells,hi]⟩ λw4 c4 hP4=>?_
 have b24:Below w2.heap.size w2 w4:=c4.below b3 (Nat.le_refl _)
 have hX4:=hX2.below b24
 have z4:w4.heap.size=w2.heap.size+1:=by rw[c4.size,z3]
 refine hX4.rS (n:=4) (x:=x.2.2.2.2.1) rfl ⟨⟨by omega,by omega,by omega,by omega⟩,zm λw11 hD11 b11 z11=>?_⟩
 refine zsN (w2:=w4) (T:=52) (s:=x.2.2.2.2.1) (l:=f.2.2.2.2) (hX4.below b11) rfl (IsC.below zM hx2.outs b24) b11 (Nat.le_refl _) (by omega) ⟨_,hD11,by rw[Array.length_toList,size_madeCells,ho]⟩ λw12 c12 hP12=>?_
 have b412:Below w4.heap.size w4 w12:=c12.below b11 (Nat.le_refl _)
 have hX12:=hX4.below b412
 have hY12:=(hY2.below b24).below b412
 refine⟨hX12.wr (n:=3) (by show 3<5;decide),Nw.mk ⟨(hX12.set 3 _).wr (n:=4) (by show 4<5;decide),Nw.gen λw20 e20=>?_⟩⟩
 have hX20:Blk w20 w.heap.size 47 (faV (x.1,x.2.1,x.2.2.1,⟨some (blk w2.heap.size),x.2.2.2.1.l,x.2.2.2.1.l⟩,⟨some (blk w4.heap.size),x.2.2.2.2.1.l,x.2.2.2.2.1.l⟩,())):=by rw[e20];exact(hX12.set 3 _).set 4 _
 have c20:Chg w.heap.size w12 w20:=by rw[e20];exact(Chg.set _ _ _ _).trans (Chg.set _ _ _ _)
 refine Fw.load hX20 (st5 (c20.blk hY12 (by omega)) rfl λw25 hY25 c25=>?_)
 have hY25:Blk w25 w1.heap.size 47 (faV (x.1,x.2.1,x.2.2.1,⟨some (blk w2.heap.size),x.2.2.2.1.l,x.2.2.2.1.l⟩,⟨some (blk w4.heap.size),x.2.2.2.2.1.l,x.2.2.2.2.1.l⟩,())):=hY25
 refine Fw.load hY25 (hR w25 _ ⟨hx.name,hx.model,hx.fn,?_,?_⟩ ?_)
 ·have h1:=c25.blk (c20.blk (hP4.below b412) (by omega)) (by omega)
  have:=Blk.isC zM (by decide) h1 (by omega)
  rw[<-hi]at this
  exact this
 ·have h1:=c25.blk (c20.blk hP12 (by omega)) (by omega)
  have:=Blk.isC zM (by decide) h1 (by omega)
  rw[<-ho]at this
  exact this
 ·exact c25.below (c20.below ((b02.on b24).on b412) (Nat.le_refl _)) (by omega)
theorem zgk{s t:Sl}{l:List Po}(hs:IsPs w s l)(ht:IsPs w t l)(hR:∀w',Below w.heap.size w w'->R (.bool true) w'):cR 20 #[.slice s.a s.l s.c,.slice t.a t.l t.c] w R:=by
 refine za.of (zew s t R w ?_) λ_ _ h=>h
 have hsl:=hs.len
 have htl:=ht.len
 refine zy (λe=>absurd (by omega) e) (λ_=>?_)
 refine zl.count l.length hs.bound (λk w'=>Below w.heap.size w w') (Below.refl _ _) ?_
 rintro k w1 hk b1 next hnext
 refine zj (λg=>?_) (λg=>hR w1 b1)
 have hkl:k<l.length:=by dsimp only at g;omega
 have bd:=b1.drew
 refine zeQ (IsC.below zM hs bd) hkl (zeQ (IsC.below zM ht bd) hkl (zI (zz (λe=>hnext _ hkl bd) (λe=>?_))))
 simp at e
theorem zoJ{s t:Sl}{l:List Slt}(hs:zdB w s l)(ht:zdB w t l)(hR:∀w',Below w.heap.size w w'->R (.bool true) w'):cR 21 #[.slice s.a s.l s.c,.slice t.a t.l t.c] w R:=by
 refine za.of (zex s t R w ?_) λ_ _ h=>h
 obtain⟨hx,g1,g2,g3⟩:=hs.ex
 obtain⟨hy,k1,k2,k3⟩:=ht.ex
 have hsl:=g1.len
 have htl:=k1.len
 refine zy (λe=>absurd (by omega) e) (λ_=>?_)
 refine zl.count l.length (by have:=g1.bound;omega) (λk w'=>Below w.heap.size w w') (Below.refl _ _) ?_
 rintro k w1 hk b1 next hnext
 refine zj (λg=>?_) (λg=>hR w1 b1)
 have hkl:k<l.length:=by dsimp only at g;omega
 have hkx:k<hx.length:=by omega
 have hky:k<hy.length:=by omega
 have bd:=b1.drew
 have hX:=IsC.below zcx g1 bd
 have hY:=IsC.below zcx k1 bd
 have rx:=(g3 k hkx hkl).below bd
 have ry:=(k3 k hky hkl).below bd
 refine zo.cut (λ(_:Unit) w'=>Below w.heap.size w w') ?_ ?_
 rotate_left
 ·rintro _ w2 b2
  exact hnext w2 hkl b2
 refine zti hX hkx (by decide) (x:=hx[k].1) rfl (zti hY hky (by decide) (x:=hy[k].1) rfl (zy (λe=>absurd (by rw[rx.loc,ry.loc]) e) (λ_=>?_)))
 refine fldI hX hkx (j:=1) (by decide) (x:=hx[k].2.1) rfl (fldI hY hky (j:=1) (by decide) (x:=hy[k].2.1) rfl (zy (λe=>absurd (by rw[rx.bui,ry.bui]) e) (λ_=>?_)))
 refine fldS hX hkx (j:=2) (by decide) (x:=hx[k].2.2.1) rfl (fldS hY hky (j:=2) (by decide) (x:=hy[k].2.2.1) rfl ?_)
 refine zp6 rx.wds ry.wds λw2 _ b2=>⟨_,rfl,?_⟩
 rw[decide_eq_true rfl]
 exact zI (zR rfl (bd.on b2))
theorem zlp{x y:Fw}{f:Fa}(hx:FaR w x f)(hy:FaR w y f)(hR:∀w',Below w.heap.size w w'->R (.bool true) w'):cR 24 #[faA x,faA y] w R:=by
 refine za.of (zeY x y R w ?_) λ_ _ h=>h
 refine zm λw1 hX1 b1 z1=>zm λw2 hY2 b2 z2=>?_
 have hX1:Blk w1 w.heap.size 47 (faV x):=hX1
 have hY2:Blk w2 w1.heap.size 47 (faV y):=hY2
 have hX2:=hX1.below b2
 have b02:=b1.on b2
 refine⟨_,hX2.cell0 rfl,_,hY2.cell0 rfl,?_⟩
 dsimp only
 rw[znH]
 refine zj (λ_=>?_) (λq=>absurd (by rw[hx.name,hy.name]) q)
 refine hX2.rI (n:=1) (x:=x.2.1) rfl (hY2.rI (n:=1) (x:=y.2.1) rfl (zk (λ_=>?_) (λq=>absurd (by rw[hx.model,hy.model]) q)))
 refine hX2.rI (n:=2) (x:=x.2.2.1) rfl (hY2.rI (n:=2) (x:=y.2.2.1) rfl (zk (λ_=>?_) (λq=>absurd (by rw[hx.fn,hy.fn]) q)))
 have hx2:=hx.below b02
 have hy2:=hy.below b02
 refine hX2.rS (n:=3) (x:=x.2.2.2.1) rfl (hY2.rS (n:=3) (x:=y.2.2.2.1) rfl (zgk hx2.ins hy2.ins λw3 b3=>⟨true,rfl,zR rfl ?_⟩))
 refine(hX2.below b3).rS (n:=4) (x:=x.2.2.2.2.1) rfl ((hY2.below b3).rS (n:=4) (x:=y.2.2.2.2.1) rfl (zgk (hx2.below b3).outs (hy2.below b3).outs λw4 b4=>⟨true,rfl,hR w4 ((b02.on b3).on b4)⟩))
set_option maxHeartbeats 4000000 in
theorem zlH{s t:Sl}{l:List Po}{ls:List Slt}(hs:IsPs w s l)(ht:zdB w t ls)(m1:48*l.length<=140737488351232)(m2:40*ls.length<=140737488351232)(m3:∀y∈ls,4*y.2.2.length<=140737488351232)(htab:Tab w)(hR:∀w',Below w.heap.size w w'->R (.bool true) w') :
  cR 4 #[.slice s.a s.l s.c,.slice t.a t.l t.c] w R:=by
 refine za.of (zbv s t R w ?_) λ_ _ h=>h
 have hnil:IsPs w ⟨none,0,0⟩ []:=⟨rfl,Nat.le_refl _,Nat.zero_le _,λ_=>rfl,λa ha=>by cases ha⟩
 refine zdE (x:=(⟨#[]⟩,0,0,s,⟨none,0,0⟩,())) (f:=(⟨#[]⟩,0,0,l,[])) ⟨rfl,rfl,rfl,hs,hnil⟩ m1 (by show 48*0<=_;decide) λw1 y hy b1=>⟨y,rfl,?_⟩
 obtain⟨hx,g1,g2,g3⟩:=ht.ex
 have htl:=g1.len
 refine⟨⟨by omega,by omega,by omega,by omega⟩,zm λw2 hD2 b2 z2=>?_⟩
 have b02:=b1.on b2
 have s01:=b1.size
 refine zl.count ls.length (by have:=g1.bound;omega) (λk w'=>Below w1.heap.size w1 w'/\w1.heap.size<w'.heap.size/\∃(hn:List Sv) (r:List Value),Blk w' w1.heap.size 58 (flat slV hn++r)/\hn.length=k/\r.length=(ls.length-k)*3/\∀(i:Nat) (h:i<hn.length) (h':i<ls.length),SltR w' hn[i] ls[i]/\∀y,hn[i].2.2.1.a=some y->w1.heap.size<y.block) ⟨b2,by omega,[],_,by simpa[flat] using hD2,rfl,by rw[Array.length_toList,size_madeCells,htl,g2];simp,λi h=>absurd h (Nat.not_lt_zero i)⟩ ?_
 rintro k w3 hk ⟨b3,z3,hn,r,hB,hnl,hrl,hrows⟩ next hnext
 have b03:=b1.on b3
 have hfl:(flat slV hn).length=k*3:=by rw[zP zcx,hnl]
 refine zj (λg=>?_) (λg=>?_)
 rotate_left
 ·have hke:k=ls.length:=by dsimp only at g;omega
  have hr0:r=[]:=List.eq_nil_of_length_eq_zero (by rw[hrl,hke,Nat.sub_self,Nat.zero_mul])
  rw[hr0,List.append_nil]at hB
  have hC:IsC 3 slV w3 ⟨some (blk w1.heap.size),t.l,t.l⟩ hn:=by
   have:=Blk.isC zcx (by decide) hB (by omega)
   rw[hnl,hke,<-g2,<-htl]at this
   exact this
  have hS3:zdB w3 ⟨some (blk w1.heap.size),t.l,t.l⟩ ls:=⟨hn,hC,by omega,λi q q'=>(hrows i q q').1⟩
  have hy3:IsPs w3 y.2.2.2.1 l:=IsC.below zM hy.ins b3
  refine zo1 (t:=⟨some (blk w1.heap.size),t.l,t.l⟩) hy3 hS3 λw8 b8=>⟨_,rfl,?_⟩
  have b08:=b03.on b8
  refine znm (IsC.below zM hs b08) (ht.below b08) λw9 b9=>⟨_,rfl,?_⟩
  have b09:=b08.on b9
  have b39:=b8.on b9
  refine zz (λ_=>?_) (λq=>by simp at q)
  refine zgk (l:=l) (IsC.below zM hy3 b39) (IsC.below zM hs b09) λw10 b10=>⟨true,rfl,zR rfl ?_⟩
  have b310:=b39.on b10
  refine zoJ (s:=⟨some (blk w1.heap.size),t.l,t.l⟩) (hS3.below b310) (ht.below (b03.on b310)) λw11 b11=>⟨true,rfl,zR rfl ?_⟩
  have b011:=(b03.on b310).on b11
  exact zjJ (htab.below b011) λw12 b12=>⟨true,rfl,hR w12 (b011.on b12)⟩
 have hkl:k<ls.length:=by dsimp only at g;omega
 have hkx:k<hx.length:=by omega
 have bd:Below w.heap.size w w3.drew:=b03.drew
 have hX:=IsC.below zcx g1 bd
 have rx:=g3 k hkx hkl
 obtain⟨a,ha⟩:=hX.base hkx
 have cells:∀{u:World},Below w.heap.size w u->u.cell? (a.add (k*3))=some (.int .i64 hx[k].1)/\u.cell? ((a.add (k*3)).add 1)=some (.int .i64 hx[k].2.1)/\u.cell? ((a.add (k*3)).add 2)=some (.slice hx[k].2.2.1.a hx[k].2.2.1.l hx[k].2.2.1.c):=λ{u} hb=>by
  have hU:=IsC.below zcx g1 hb
  rw[zn,zn]
  exact⟨hU.cell a ha k hkx 0 (by decide),hU.cell a ha k hkx 1 (by decide),hU.cell a ha k hkx 2 (by decide)⟩
 have ix:(0<=(k:Int)/\(k:Int)<(t.l:Int)):=⟨by omega,by omega⟩
 obtain⟨q1,q2,q3⟩:=cells bd
 refine⟨ix,ze ha ⟨_,q1,ix,ze ha ⟨_,q2,ix,ze ha ⟨hx[k].2.2.1,q3,?_⟩⟩⟩⟩
 refine zk4 (rx.below bd).wds (m3 _ (List.getElem_mem hkl)) λw4 hO4 b4=>⟨⟨some (blk w3.drew.heap.size),ls[k].2.2.length,ls[k].2.2.length⟩,rfl,?_⟩
 have b04:Below w.heap.size w w4:=bd.on b4
 have b34:Below w3.heap.size w3 w4:=((Below.refl w3.heap.size w3).drew).on b4
 obtain⟨p1,p2,_⟩:=cells b04
 refine⟨p2,p1,ix,?_⟩
 have hB4:=hB.below b34
 rw[Int.toNat_natCast]
 have hle:1*3<=(ls.length-k)*3:=Nat.mul_le_mul_right _ (by omega)
 have s34:=b34.size
 refine zwj hB4 (by rw[List.length_append,hfl,hrl];omega) λw7 hB7 c7=>hnext w7 hkl ⟨c7.below (b3.on b34) (Nat.le_refl _),by rw[c7.size];omega,hn++[(hx[k].1,hx[k].2.1,⟨some (blk w3.drew.heap.size),ls[k].2.2.length,ls[k].2.2.length⟩,())],r.drop 3,?_,by rw[List.length_append,hnl];rfl,by rw[List.length_drop,hrl,show ls.length-k=(ls.length-(k+1))+1 by omega,Nat.add_mul];omega,λi h h'=>?_⟩
 ·have e1:(flat slV hn++r).take (k*3)=flat slV hn:=by rw[<-hfl];exact List.take_left
  have e2:(flat slV hn++r).drop (k*3+3)=r.drop 3:=by rw[<-hfl,List.drop_append];simp
  rw[e1,e2]at hB7
  have e3:flat slV (hn++[(hx[k].1,hx[k].2.1,⟨some (blk w3.drew.heap.size),ls[k].2.2.length,ls[k].2.2.length⟩,())])=flat slV hn++[.int .i64 hx[k].1,.int .i64 hx[k].2.1,.slice (some (blk w3.drew.heap.size)) ls[k].2.2.length ls[k].2.2.length]:=by
   show(hn++[_]).flatMap slV=_
   rw[List.flatMap_append]
   rfl
  rw[e3,List.append_assoc]
  exact hB7
 ·have wd7:∀{u:Sl} {m:List Int},IsS (Value.int .u32) w4 u m->(∀y,u.a=some y->y.block≠w1.heap.size)->IsS (Value.int .u32) w7 u m:=λ{u m} hu hne=>hu.of_block λy hy _=>c7.block _ (hne y hy)
  by_cases hi:i<hn.length
  ·rw[List.getElem_append_left hi]
   obtain⟨r1,r2,r3⟩:=(hrows i hi h').1.below b34
   have r4:=(hrows i hi h').2
   exact⟨⟨r1,r2,wd7 r3 λy hy=>by have:=r4 y hy;omega⟩,r4⟩
  ·rw[List.length_append,List.length_singleton]at h
   have hi:i=hn.length:=by omega
   subst hi
   have e:(hn++[(hx[k].1,hx[k].2.1,(⟨some (blk w3.drew.heap.size),ls[k].2.2.length,ls[k].2.2.length⟩:Sl),())])[hn.length]=(hx[k].1,hx[k].2.1,⟨some (blk w3.drew.heap.size),ls[k].2.2.length,ls[k].2.2.length⟩,()):=by simp
   rw[e]
   have el:ls[hn.length]=ls[k]:=by congr 1
   rw[el]
   refine⟨⟨rx.loc,rx.bui,wd7 hO4.isS λy hy=>?_⟩,λy hy=>?_⟩
   ·cases hy
    show w3.heap.size≠w1.heap.size
    omega
   ·cases hy
    show w1.heap.size<w3.heap.size
    omega
set_option maxHeartbeats 4000000 in
theorem zk5{x y:Fw}{v f:Fa}(hx:FaR w x v)(hy:FaR w y f)(m1:48*v.2.2.2.1.length<=140737488351232)(m2:48*v.2.2.2.2.length<=140737488351232)(m3:48*f.2.2.2.1.length<=140737488351232)(m4:48*f.2.2.2.2.length<=140737488351232)(htab:Tab w)(hR:∀w',Below w.heap.size w w'->R (.bool true) w') :
  cR 5 #[faA x,faA y] w R:=by
 refine za.of (zbj x y R w ?_) λ_ _ h=>h
 refine zm λw1 hX1 b1 z1=>zm λw2 hY2 b2 z2=>?_
 have hX1:Blk w1 w.heap.size 47 (faV x):=hX1
 have hY2:Blk w2 w1.heap.size 47 (faV y):=hY2
 have hX2:=hX1.below b2
 have b02:=b1.on b2
 refine Fw.load hX2 ?_
 refine zdE (x:=x) (hx.below b02) m1 m2 λw3 a ha b3=>⟨a,rfl,box5 rfl λw9 hA9 b9 z9=>?_⟩
 have hA9:Blk w9 w3.heap.size 47 (faV a):=hA9
 have b29:=b3.on b9
 refine Fw.load (hY2.below b29) ?_
 refine zdE (x:=y) (hy.below (b02.on b29)) m3 m4 λw10 b hb b10=>⟨b,rfl,box5 rfl λw16 hB16 b16 z16=>?_⟩
 have hB16:Blk w16 w10.heap.size 47 (faV b):=hB16
 have b916:=b10.on b16
 have d16:Below w16.heap.size w16 w16.drew:=(Below.refl _ _).drew
 have b216:=(b29.on b916).on d16
 have hAd:=(hA9.below b916).drew
 have hBd:=hB16.drew
 have hXd:=hX2.below b216
 have hYd:=hY2.below b216
 have had:=((ha.below b9).below b916).below d16
 have hbd:=(hb.below b16).below d16
 refine Fw.load hAd (Fw.load hBd (Fw.load hXd (Fw.load hYd ?_)))
 refine znl (x:=a) (y:=b) had hbd λw17 b17=>⟨_,rfl,?_⟩
 have hX17:=hXd.below b17
 have hY17:=hYd.below b17
 refine⟨hY17.cell (n:=0) rfl,hY17.cell (n:=1) rfl,hY17.cell (n:=2) rfl,hY17.cell (n:=3) rfl,hY17.cell (n:=4) rfl,hX17.cell (n:=0) rfl,hX17.cell (n:=1) rfl,hX17.cell (n:=2) rfl,hX17.cell (n:=3) rfl,hX17.cell (n:=4) rfl,?_⟩
 have b017:=(b02.on b216).on b17
 refine zlM (x:=x) (y:=y) (hx.below b017) (hy.below b017) λw18 b18=>⟨_,rfl,zk (λ_=>?_) (λq=>absurd rfl q)⟩
 have b1718:=b17.on b18
 have b018:=b017.on b18
 refine Fw.load (hAd.below b1718) (Fw.load (hX17.below b18) ?_)
 refine zlp (x:=a) (y:=x) (had.below b1718) (hx.below b018) λw19 b19=>⟨true,rfl,zR rfl ?_⟩
 have b1719:=b1718.on b19
 have b019:=b018.on b19
 refine Fw.load (hBd.below b1719) (Fw.load ((hY17.below b18).below b19) ?_)
 refine zlp (x:=b) (y:=y) (hbd.below b1719) (hy.below b019) λw20 b20=>⟨true,rfl,zR rfl ?_⟩
 exact zjJ (htab.below (b019.on b20)) λw21 b21=>⟨true,rfl,hR w21 ((b019.on b20).on b21)⟩
end
end Go.Proofs
namespace Go.Proofs.YtnpdnjmpmeikiaaGreatDoor
open Go.ChangeShapes Go.WideShapes Go.RowKit Go.Gk
theorem zlN(os:Os):laidMet Tryz.prog Rows.faceFitsRow.laid ((Jd.laidWorld os).forCall (λ_ _=>0) ⟨#[],#[.slice none 0 0,.slice none 0 0],[]⟩).memory:=
 laidMet_of_run' 8 (by kernel_rfl) (by kernel_rfl)
theorem zla(os:Os){H:Type}(enc:TypeId×Value->H):∃ZD,DataW.whole enc Tryz.prog ((Jd.laidWorld os).forCall (λ_ _=>0) ⟨#[],#[.slice none 0 0,.slice none 0 0],[]⟩).memory Tryz.f4.params.toList Rows.faceFitsSpec.vars false #[(.slice none 0 0:Value),(.slice none 0 0:Value)].toList 8=some ([.nil,.nil],[],ZD):=
 ⟨[],by kernel_rfl⟩
set_option maxRecDepth 100000 in
theorem zkh(os:Os)(started:os.Started)(H:Type)(enc:TypeId×Value->H)(Fi:Stop.Interp) :
  ReturnsInHanded {} Tryz.checked os 4 .any ((OpenSpec.ofChange Rows.faceFitsSpec).preRow enc Tryz.prog Tryz.f4 Rows.faceFitsRow.domain false Rows.faceFitsRow.laid) (((OpenSpec.ofChange Rows.faceFitsSpec).at Fi).post enc Tryz.prog Tryz.f4 false true false false):=by
 obtain⟨ZD,hx⟩:=zla os enc
 refine returnsInHanded_of_row (C:=Tryz.checked) (s:=OpenSpec.ofChange Rows.faceFitsSpec) Jn.own started (by kernel_rfl) Tryz.func4
  (witness_row_at (enc:=enc) (C:=Tryz.checked) false (Jd.laidWorld os) #[(.slice none 0 0:Value),(.slice none 0 0:Value)] rfl (by kernel_rfl) (by kernel_rfl) (by kernel_rfl)
   (OpenSpec.preRow_of_cond 8 hx (by kernel_rfl) (λk hk=>by cases hk) (by kernel_rfl) (zlN os))) ?_
 intro W base args ds gs before hval0 hW0 _ _ hz0 hL _ _
 have hval:∀(j:Nat) t v,Tryz.f4.params[j]? =some t->args[j]? =some v->Value.okWide Tryz.prog W .any base t v:=hval0
 have hz:(DataW.weightsEach Tryz.prog (Tryz.f4.params.toList++Rows.faceFitsSpec.plain.varTypes Tryz.prog) (ds++gs)).all (·<=reachBytes)=true:=hz0
 have htab:Tab W:=Jd.tab hL
 have hW:DataW.Whole enc Tryz.prog Tryz.f4.params.toList Rows.faceFitsSpec.vars false W args.toList ds gs before:=hW0
 have hW':=hW
 obtain⟨p,q,hA0,hV,hbef,hfz,hnd⟩:=hW
 have hA:DataW.TrodAll enc Tryz.prog W 0 (λ_=>true) true Tryz.f4.params.toList args.toList ds p:=hA0
 rw[Tryz.params4]at hA hval hz
 obtain⟨v0,vs0,d0,ds0,p0,q0,hargs,rfl,rfl,h0,r0⟩:=trodAll_cons hA
 obtain⟨v1,vs1,d1,ds1,p1,q1,rfl,rfl,rfl,h1,r1⟩:=trodAll_cons r0
 obtain⟨rfl,rfl,rfl⟩:=trodAll_nil r1
 obtain rfl:args=#[v0,v1]:=by cases args;simp_all
 obtain⟨s0,l0,rfl,hP0,h480⟩:=Jn.open_ports (hval 0 45 v0 rfl rfl) h0 (λn hn=>by
  have:=List.all_eq_true.1 hz _ (DataW.weights_mem_each (j:=0) (t:=45) rfl rfl n hn)
  simpa using this)
 obtain⟨s1,ll1,rfl,hS1,h401,h41⟩:=Jn.open_slots (hval 1 54 v1 rfl rfl) h1 (λn hn=>by
  have:=List.all_eq_true.1 hz _ (DataW.weights_mem_each (j:=1) (t:=54) rfl rfl n hn)
  simpa using this)
 refine Calls.mono (zlH hP0 hS1 h480 h401 h41 htab (R:=λv w'=>v =.bool true/\Below W.heap.size W w') λw' hb=>⟨rfl,hb⟩) λe W' h=>?_
 cases e with
 |returned v=>
  obtain⟨rfl,hb⟩:=h
  exact⟨_,rfl,Jn.post_true (s:=Rows.faceFitsSpec) (by kernel_rfl) (by rw[Tryz.params4];intro t ht;simp at ht;rcases ht with rfl |rfl<;>exact⟨by kernel_rfl,of_decide_eq_true (by kernel_rfl)⟩) rfl rfl hW' hb⟩
 |_=>exact h.elim
theorem zkY:joinedFacts Tryz.prog 4 Tryz.f4 (OpenSpec.ofChange Rows.faceFitsSpec).bare Rows.faceFitsRow=true:=by
 unfold joinedFacts
 rw[Jn.mayEnterE,Jn.liftsE,Jn.makeE]
 kernel_rfl
theorem zlO:Rows.FaceFitsSaid:=
 OpenClaim.holds_of_cond 4 Tryz.f4 rfl rfl rfl rfl rfl rfl rfl ⟨rfl,rfl,rfl,rfl,rfl⟩ rfl rfl rfl rfl rfl (by kernel_rfl) Tryz.func4 zkY
  (of_decide_eq_true (by kernel_rfl)) (by unfold Func.isWrapper;first | (rw[if_pos (by decide +kernel)];kernel_rfl) | (rw[if_neg (by decide +kernel)];exact⟨rfl,rfl⟩))
  (λos started H enc _ Fi=>by rw[OpenClaim.pre_eq_preRow];exact zkh os started H enc Fi)
theorem zkZ (f : FuncId) (fn : Func) (hf : Tryz.pinned.checked.prog.funcNamed "intaglio/intagliolaw20.FaceFits" = some f) (hfn : Tryz.pinned.checked.prog.funcs[f]? = some fn) :
  false=Tryz.pinned.checked.prog.looks []/\∀(j:Nat) t,fn.params[j]? =some t->Tryz.pinned.checked.prog.wantsStandIn t=false:=by
 obtain rfl : f = 4 := Option.some.inj ((show Tryz.prog.funcNamed "intaglio/intagliolaw20.FaceFits" = some 4 by kernel_rfl).symm.trans hf) |>.symm
 obtain rfl:fn=Tryz.f4:=(Option.some.inj (Tryz.func4.symm.trans hfn)).symm
 refine⟨by kernel_rfl,λj t ht=>?_⟩
 rw[Tryz.params4]at ht
 have ht:=Array.mem_of_getElem? ht
 simp at ht
 rcases ht with rfl |rfl
 ·exact(show Tryz.prog.wantsStandIn 45=false by kernel_rfl)
 ·exact(show Tryz.prog.wantsStandIn 54=false by kernel_rfl)
theorem faceFits_card:Rows.FaceFitsCardSaid:=
 Claim7.holds_tied_plain_at .later [] _ _ _ _ zlO (λ_ h=>by cases h) (by kernel_rfl) (λ_ h=>by cases h) faceFits_row_tie rfl ⟨rfl,rfl⟩ (by kernel_rfl) rfl zkZ (by kernel_rfl)
end Go.Proofs.YtnpdnjmpmeikiaaGreatDoor
namespace Go.Proofs.YtnpdnjmpmeikiaaGreatDoor
open Go.ChangeShapes Go.WideShapes Go.RowKit Go.Gk
theorem zlb(os:Os):laidMet Tryz.prog Rows.faceMatchRow.laid ((Jd.laidWorld os).forCall (λ_ _=>0) ⟨#[],#[.agg #[.string (BM #[]),.int .u32 0,.int .u32 0,.slice none 0 0,.slice none 0 0],.agg #[.string (BM #[]),.int .u32 0,.int .u32 0,.slice none 0 0,.slice none 0 0]],[]⟩).memory:=
 laidMet_of_run' 8 (by kernel_rfl) (by kernel_rfl)
theorem zkk(os:Os){H:Type}(enc:TypeId×Value->H):∃ZD,DataW.whole enc Tryz.prog ((Jd.laidWorld os).forCall (λ_ _=>0) ⟨#[],#[.agg #[.string (BM #[]),.int .u32 0,.int .u32 0,.slice none 0 0,.slice none 0 0],.agg #[.string (BM #[]),.int .u32 0,.int .u32 0,.slice none 0 0,.slice none 0 0]],[]⟩).memory Tryz.f5.params.toList Rows.faceMatchSpec.vars false #[(.agg #[.string (BM #[]),.int .u32 0,.int .u32 0,.slice none 0 0,.slice none 0 0]:Value),(.agg #[.string (BM #[]),.int .u32 0,.int .u32 0,.slice none 0 0,.slice none 0 0]:Value)].toList 8=some ([.agg [.lit (.string []),.lit (.int .u32 0),.lit (.int .u32 0),.nil,.nil],.agg [.lit (.string []),.lit (.int .u32 0),.lit (.int .u32 0),.nil,.nil]],[],ZD):=
 ⟨[],by kernel_rfl⟩
set_option maxRecDepth 100000 in
theorem zjq(os:Os)(started:os.Started)(H:Type)(enc:TypeId×Value->H)(Fi:Stop.Interp) :
  ReturnsInHanded {} Tryz.checked os 5 .any ((OpenSpec.ofChange Rows.faceMatchSpec).preRow enc Tryz.prog Tryz.f5 Rows.faceMatchRow.domain false Rows.faceMatchRow.laid) (((OpenSpec.ofChange Rows.faceMatchSpec).at Fi).post enc Tryz.prog Tryz.f5 false true false false):=by
 obtain⟨ZD,hx⟩:=zkk os enc
 refine returnsInHanded_of_row (C:=Tryz.checked) (s:=OpenSpec.ofChange Rows.faceMatchSpec) Jn.own started (by kernel_rfl) Tryz.func5
  (witness_row_at (enc:=enc) (C:=Tryz.checked) false (Jd.laidWorld os) #[(.agg #[.string (BM #[]),.int .u32 0,.int .u32 0,.slice none 0 0,.slice none 0 0]:Value),(.agg #[.string (BM #[]),.int .u32 0,.int .u32 0,.slice none 0 0,.slice none 0 0]:Value)] rfl (by kernel_rfl) (by kernel_rfl) (by kernel_rfl)
   (OpenSpec.preRow_of_cond 8 hx (by kernel_rfl) (λk hk=>by cases hk) (by kernel_rfl) (zlb os))) ?_
 intro W base args ds gs before hval0 hW0 _ _ hz0 hL _ _
 have hval:∀(j:Nat) t v,Tryz.f5.params[j]? =some t->args[j]? =some v->Value.okWide Tryz.prog W .any base t v:=hval0
 have hz:(DataW.weightsEach Tryz.prog (Tryz.f5.params.toList++Rows.faceMatchSpec.plain.varTypes Tryz.prog) (ds++gs)).all (·<=reachBytes)=true:=hz0
 have htab:Tab W:=Jd.tab hL
 have hW:DataW.Whole enc Tryz.prog Tryz.f5.params.toList Rows.faceMatchSpec.vars false W args.toList ds gs before:=hW0
 have hW':=hW
 obtain⟨p,q,hA0,hV,hbef,hfz,hnd⟩:=hW
 have hA:DataW.TrodAll enc Tryz.prog W 0 (λ_=>true) true Tryz.f5.params.toList args.toList ds p:=hA0
 rw[Tryz.params5]at hA hval hz
 obtain⟨v0,vs0,d0,ds0,p0,q0,hargs,rfl,rfl,h0,r0⟩:=trodAll_cons hA
 obtain⟨v1,vs1,d1,ds1,p1,q1,rfl,rfl,rfl,h1,r1⟩:=trodAll_cons r0
 obtain⟨rfl,rfl,rfl⟩:=trodAll_nil r1
 obtain rfl:args=#[v0,v1]:=by cases args;simp_all
 obtain⟨x0,f0,rfl,hF0,hi0,ho0⟩:=Jn.open_face (hval 0 47 v0 rfl rfl) h0 (λn hn=>by
  have:=List.all_eq_true.1 hz _ (DataW.weights_mem_each (j:=0) (t:=47) rfl rfl n hn)
  simpa using this)
 obtain⟨x1,f1,rfl,hF1,hi1,ho1⟩:=Jn.open_face (hval 1 47 v1 rfl rfl) h1 (λn hn=>by
  have:=List.all_eq_true.1 hz _ (DataW.weights_mem_each (j:=1) (t:=47) rfl rfl n hn)
  simpa using this)
 refine Calls.mono (zk5 hF0 hF1 hi0 ho0 hi1 ho1 htab (R:=λv w'=>v =.bool true/\Below W.heap.size W w') λw' hb=>⟨rfl,hb⟩) λe W' h=>?_
 cases e with
 |returned v=>
  obtain⟨rfl,hb⟩:=h
  exact⟨_,rfl,Jn.post_true (s:=Rows.faceMatchSpec) (by kernel_rfl) (by rw[Tryz.params5];intro t ht;simp at ht;subst ht;exact⟨by kernel_rfl,of_decide_eq_true (by kernel_rfl)⟩) rfl rfl hW' hb⟩
 |_=>exact h.elim
theorem zki:joinedFacts Tryz.prog 5 Tryz.f5 (OpenSpec.ofChange Rows.faceMatchSpec).bare Rows.faceMatchRow=true:=by
 unfold joinedFacts
 rw[Jn.mayEnterE,Jn.liftsE,Jn.makeE]
 kernel_rfl
theorem zlc:Rows.FaceMatchSaid:=
 OpenClaim.holds_of_cond 5 Tryz.f5 rfl rfl rfl rfl rfl rfl rfl ⟨rfl,rfl,rfl,rfl,rfl⟩ rfl rfl rfl rfl rfl (by kernel_rfl) Tryz.func5 zki
  (of_decide_eq_true (by kernel_rfl)) (by unfold Func.isWrapper;first | (rw[if_pos (by decide +kernel)];kernel_rfl) | (rw[if_neg (by decide +kernel)];exact⟨rfl,rfl⟩))
  (λos started H enc _ Fi=>by rw[OpenClaim.pre_eq_preRow];exact zjq os started H enc Fi)
theorem zkj (f : FuncId) (fn : Func) (hf : Tryz.pinned.checked.prog.funcNamed "intaglio/intagliolaw20.FaceMatch" = some f) (hfn : Tryz.pinned.checked.prog.funcs[f]? = some fn) :
  false=Tryz.pinned.checked.prog.looks []/\∀(j:Nat) t,fn.params[j]? =some t->Tryz.pinned.checked.prog.wantsStandIn t=false:=by
 obtain rfl : f = 5 := Option.some.inj ((show Tryz.prog.funcNamed "intaglio/intagliolaw20.FaceMatch" = some 5 by kernel_rfl).symm.trans hf) |>.symm
 obtain rfl:fn=Tryz.f5:=(Option.some.inj (Tryz.func5.symm.trans hfn)).symm
 refine⟨by kernel_rfl,λj t ht=>?_⟩
 rw[Tryz.params5]at ht
 have ht:=Array.mem_of_getElem? ht
 simp at ht
 subst ht;exact(show Tryz.prog.wantsStandIn 47=false by kernel_rfl)
theorem faceMatch_card:Rows.FaceMatchCardSaid:=
 Claim7.holds_tied_plain_at .later [] _ _ _ _ zlc (λ_ h=>by cases h) (by kernel_rfl) (λ_ h=>by cases h) faceMatch_row_tie rfl ⟨rfl,rfl⟩ (by kernel_rfl) rfl zkj (by kernel_rfl)
end Go.Proofs.YtnpdnjmpmeikiaaGreatDoor
