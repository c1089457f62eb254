/- FlowFirst, part 7; made small by a program. -/
import Derived.Sort.AssemblyPlain
import Derived.Test.YtgkgagmdkgdjdaaGreatProg
import Derived.Test.YtgkgagmdkgdjdaaGreatPFlowFirst6
namespace Go.Proofs
open Go.Gk Go.RowKit
abbrev ltI:Int->Int->Bool:=Go.Sort.ltInt
def Dtw(w:World)(g:Nat)(rest:List Value)(d:Array Int):Prop:=Blk w g 22 (d.toList.map (Value.int .u32)++rest)
theorem Fr.chg{B b:Nat}{X:Nat->Prop}{w0 w w':World}(h:Fr B X w0 w)(c:Chg b w w')(hb:X b\/B<=b):Fr B X w0 w':=
 h.trans ⟨c.os,c.tape,c.output,Nat.le_of_eq c.size.symm,λk hk hx=>c.block k (λe=>by
  rcases hb with hb |hb
  ·exact hx (e▸hb)
  ·omega)⟩
theorem Fr.onto{X:Nat->Prop}{B:Nat}{w0 w w':World}(h:Fr B X w0 w)(k:Fr w.heap.size X w w')(hB:B<=w.heap.size):Fr B X w0 w':=h.trans (k.mono hB λ_ _ h=>h)
section
variable {w w':World} {g:Nat} {rest:List Value} {d:Array Int}
theorem Dtw.drew(h:Dtw w g rest d):Dtw w.drew g rest d:=Blk.drew h
theorem Dtw.below(h:Dtw w g rest d)(hb:Below w.heap.size w w'):Dtw w' g rest d:=Blk.below h hb
theorem Dtw.lt(h:Dtw w g rest d):g<w.heap.size:=Blk.lt h
theorem Dtw.cell(h:Dtw w g rest d){i:Nat}(hi:i<d.size):w.cell? ((blk g).add i)=some (.int .u32 d[i]!):=by
 refine Blk.cell h ?_
 rw[List.getElem?_append_left (by simpa using hi)]
 simp[hi]
theorem Dtw.set(h:Dtw w g rest d){i:Nat}(hi:i<d.size)(v:Int):Wr w ((blk g).add i)/\Dtw (w.setCell ((blk g).add i) (.int .u32 v)) g rest (d.setIfInBounds i v):=by
 refine⟨Blk.wr h (by simp;omega),?_⟩
 have:=Blk.set h i (.int .u32 v)
 rw[List.set_append_left _ _ (by simpa using hi),<-List.map_set]at this
 unfold Dtw
 rw[Array.toList_setIfInBounds]
 exact this
theorem Dtw.at(h:Dtw w g rest d){e:Int}{i n:Nat}(he:e=(i:Int))(hi:i<d.size)(hn:n=d.size){φ:Int->Prop}(hφ:φ d[i]!) :
  (0<=e/\e<(n:Int))/\za (some (blk g)) λa=>ldI w (a.add (Int.toNat e)) .u32 φ:=by
 subst he
 exact⟨⟨by omega,by omega⟩,ze rfl ⟨_,h.cell hi,hφ⟩⟩
theorem Dtw.swap(h:Dtw w g rest d){e1 e2:Int}{i j n:Nat}(h1:e1=(i:Int))(h2:e2=(j:Int))(hi:i<d.size)(hj:j<d.size)(hn:n=d.size){K:World->Prop}(hK:∀w',Dtw w' g rest (Go.Sort.swp d j i)->Chg g w w'->K w') :
  (0<=e1/\e1<(n:Int))/\za (some (blk g)) λa1=>ldI w.drew (a1.add (Int.toNat e1)) .u32 λx1=>
  (0<=e2/\e2<(n:Int))/\za (some (blk g)) λa2=>ldI w.drew (a2.add (Int.toNat e2)) .u32 λx2=>
  (0<=e2/\e2<(n:Int))/\za (some (blk g)) λa3=>Wr w.drew (a3.add (Int.toNat e2))/\Nw (w.drew.setCell (a3.add (Int.toNat e2)) (.int .u32 x1)) λw1=>
  (0<=e1/\e1<(n:Int))/\za (some (blk g)) λa4=>Wr w1 (a4.add (Int.toNat e1))/\Nw (w1.setCell (a4.add (Int.toNat e1)) (.int .u32 x2)) λw2=>K w2:=by
 subst h1 h2
 obtain⟨s1,s2⟩:=h.drew.set hj d[i]!
 obtain⟨s3,s4⟩:=s2.set (i:=i) (by simpa using hi) d[j]!
 refine h.drew.at rfl hi hn (h.drew.at rfl hj hn ⟨⟨by omega,by omega⟩,ze rfl ⟨s1,Nw.mk ⟨⟨by omega,by omega⟩,ze rfl ⟨s3,Nw.mk (hK _ s4 ?_)⟩⟩⟩⟩)
 exact(((Chg.refl g w).drew).trans (Chg.set g j _ _)).trans (Chg.set g i _ _)
end
section
variable {w:World} {g n c:Nat} {rest:List Value} {d:Array Int} {R:VWP}
theorem yr{x y:Int}(hR:R (.bool (ltI x y)) w):cR 133 #[.int .u32 x,.int .u32 y] w R:=by
 refine zc.of (zd6 x y R w ?_) λ_ _ h=>h
 refine zc.of (zcG x _ w ?_) λ_ _ h=>h
 exact⟨_,rfl,zz (by simp) hR⟩
theorem zkZ{a j:Nat}{d:Array Int}(h:j<=a\/ltI d[j]! d[j-1]! =false):Go.Sort.insInner ltI a j d=d:=by
 cases j with
 |zero=>rfl
 |succ j=>
  rw[Go.Sort.insInner,if_neg]
  intro hh
  rw[Bool.and_eq_true,decide_eq_true_eq]at hh
  rcases h with h |h
  ·omega
  ·rw[Nat.add_sub_cancel]at h
   rw[h]at hh
   cases hh.2
theorem zqD{a j:Nat}{d:Array Int}(h1:a<j)(h2:ltI d[j]! d[j-1]! =true):Go.Sort.insInner ltI a j d=Go.Sort.insInner ltI a (j-1) (Go.Sort.swp d j (j-1)):=by
 cases j with
 |zero=>omega
 |succ j=>
  rw[Nat.add_sub_cancel]at h2⊢
  rw[Go.Sort.insInner,if_pos]
  rw[h2,Bool.and_true,decide_eq_true_eq]
  exact h1
theorem zj6{a b:Nat}(hD:Dtw w g rest d)(hn:n=d.size)(hmax:n<=35184372088832)(hab:a<=b)(hb:b<=n)
  (hR:∀w',Dtw w' g rest (Go.Sort.insertionSort ltI d a b)->Fr w.heap.size (·=g) w w'->R (.tuple #[]) w') :
  cR 127 #[.slice (some (blk g)) n c,.int .i64 (a:Int),.int .i64 (b:Int)] w R:=by
 refine zc.of (yi ⟨some (blk g),n,c⟩ a b R w ?_) λ_ _ h=>h
 refine zj.ghost (λk (st:Int×Unit) w'=>∃(i:Nat) (d':Array Int),st=((i:Int),())/\k=b-i/\a+1<=i/\Dtw w' g rest d'/\d'.size=n/\Go.Sort.insOuter ltI a b i d'=Go.Sort.insertionSort ltI d a b/\Fr w.heap.size (·=g) w w') (b-(a+1))
  ⟨a+1,d,by rw[zr (by omega)],rfl,Nat.le_refl _,hD,hn.symm,rfl,Fr.refl _ _ _⟩ ?_
 rintro _ _ w1 ⟨i,d1,rfl,rfl,hi,hD1,hn1,he,hF⟩ next hnext
 refine zg (λh=>?_) (λh=>?_)
 ·have hib:i<b:=by dsimp only at h;omega
  refine zk.cut (λ_ w'=>∃d2,Dtw w' g rest d2/\d2.size=n/\d2=Go.Sort.insInner ltI a i d1/\Fr w.heap.size (·=g) w w') ?_ ?_
  ·refine zj.ghost (λk (st:Int×Unit) w'=>∃(j:Nat) (d2:Array Int),st=((j:Int),())/\k=j/\j<=i/\a<=j/\Dtw w' g rest d2/\d2.size=n/\Go.Sort.insInner ltI a j d2=Go.Sort.insInner ltI a i d1/\Fr w.heap.size (·=g) w w') i
    ⟨i,d1,rfl,rfl,Nat.le_refl _,by omega,hD1,hn1,rfl,hF⟩ ?_
   rintro j _ w2 ⟨_,d2,rfl,rfl,hj,haj,hD2,hn2,he2,hF2⟩ next2 hnext2
   refine zk.cut (λ_ w'=>Dtw w' g rest d2/\Fr w.heap.size (·=g) w w'/\a<j/\ltI d2[j]! d2[j-1]! =true) ?_ ?_
   ·refine zg (λh=>?_) (λh=>?_)
    ·have hj':a<j:=by dsimp only at h;omega
     refine hD2.drew.at rfl (by omega) hn2.symm (hD2.drew.at (i:=j-1) (by rw[zy (by dsimp only;omega) (by dsimp only;omega)];dsimp only;omega) (by omega) hn2.symm (yr ⟨_,rfl,?_⟩))
     refine zn (λhb=>⟨hD2.drew,hF2.drew,hj',hb⟩) (λhb=>⟨d2,hD2.drew,hn2,?_,hF2.drew⟩)
     rw[<-he2,zkZ (.inr hb)]
    ·exact⟨d2,hD2.drew,hn2,by rw[<-he2,zkZ (.inl (by dsimp only at h;omega))],hF2.drew⟩
   ·rintro _ w3 ⟨hD3,hF3,haj',hlt⟩
    have e1:IntKind.i64.wrap ((j:Int)-1)=((j-1:Nat):Int):=by rw[zy (by omega) (by omega)];omega
    refine hD3.swap (i:=j-1) (j:=j) e1 rfl (by omega) (by omega) hn2.symm λw4 hD4 c4=>?_
    rw[show IntKind.i64.wrap ((((j:Int),()):Int×Unit).1-1)=((j-1:Nat):Int) from e1]
    exact hnext2 (j-1) _ _ (by omega) ⟨j-1,_,rfl,rfl,by omega,by omega,hD4,by rw[Go.Sort.size_swp];exact hn2,by rw[<-he2,zqD haj' hlt],hF3.chg c4 (.inl rfl)⟩
  ·rintro _ w2 ⟨d2,hD2,hn2,e2,hF2⟩
   rw[zr (by omega)]
   refine hnext (b-(i+1)) _ _ (by omega) ⟨i+1,d2,rfl,rfl,by omega,hD2,hn2,?_,hF2⟩
   rw[<-he,e2]
   conv=>rhs;rw[Go.Sort.insOuter,if_pos hib]
 ·have:¬i<b:=by dsimp only at h;omega
  rw[Go.Sort.insOuter,if_neg this]at he
  subst he
  exact hR w1 hD1 hF
theorem wr64{x:Int}{k:Nat}(h:x=(k:Int))(hk:k<=9223372036854775807):IntKind.i64.wrap x=(k:Int):=by rw[h];exact zy (by omega) (by omega)
theorem znM{hi f r:Nat}{d:Array Int}(h:2*r+1≥hi):Go.Sort.siftDown ltI hi f r d=d:=by rw[Go.Sort.siftDown,dif_pos h]
def kid(hi f r:Nat)(d:Array Int):Nat:=if 2*r+2<hi/\ltI d[f+(2*r+1)]! d[f+(2*r+2)]! =true then 2*r+2 else 2*r+1
theorem zoB{hi f r:Nat}{d:Array Int}(h:¬2*r+1≥hi):kid hi f r d<hi/\r<kid hi f r d:=by unfold kid;split<;>omega
theorem zp2{hi f r:Nat}{d:Array Int}(h:¬2*r+1≥hi)(hl:ltI d[f+r]! d[f+kid hi f r d]! =false):Go.Sort.siftDown ltI hi f r d=d:=by
 rw[Go.Sort.siftDown,dif_neg h]
 unfold kid at hl
 by_cases e:2*r+2<hi/\ltI d[f+(2*r+1)]! d[f+(2*r+2)]! =true
 ·rw[if_pos e]at hl
  rw[if_pos (by rw[Bool.and_eq_true,decide_eq_true_eq];exact e),if_pos (by rw[hl];rfl)]
 ·rw[if_neg e]at hl
  rw[if_neg (by rw[Bool.and_eq_true,decide_eq_true_eq];exact e),if_pos (by rw[hl];rfl)]
theorem zqp{hi f r:Nat}{d:Array Int}(h:¬2*r+1≥hi)(hl:ltI d[f+r]! d[f+kid hi f r d]! =true):Go.Sort.siftDown ltI hi f r d=Go.Sort.siftDown ltI hi f (kid hi f r d) (Go.Sort.swp d (f+r) (f+kid hi f r d)):=by
 have hk:=zoB (f:=f) (d:=d) h
 conv=>lhs;rw[Go.Sort.siftDown,dif_neg h]
 unfold kid at hl hk⊢
 by_cases e:2*r+2<hi/\ltI d[f+(2*r+1)]! d[f+(2*r+2)]! =true
 ·rw[if_pos e]at hl hk⊢
  rw[if_pos (by rw[Bool.and_eq_true,decide_eq_true_eq];exact e),if_neg (by rw[hl];simp),dif_pos hk.1]
 ·rw[if_neg e]at hl⊢
  rw[if_neg (by rw[Bool.and_eq_true,decide_eq_true_eq];exact e),if_neg (by rw[hl];simp)]
theorem zjO{lo hi f:Nat}(hD:Dtw w g rest d)(hn:n=d.size)(hmax:n<=35184372088832)(hf:f+hi<=n)(hlo:lo<=n)
  (hR:∀w',Dtw w' g rest (Go.Sort.siftDown ltI hi f lo d)->Fr w.heap.size (·=g) w w'->R (.tuple #[]) w') :
  cR 161 #[.slice (some (blk g)) n c,.int .i64 (lo:Int),.int .i64 (hi:Int),.int .i64 (f:Int)] w R:=by
 refine zc.of (ZM ⟨some (blk g),n,c⟩ lo hi f R w ?_) λ_ _ h=>h
 refine zj.ghost (λk (st:Int×Unit) w'=>∃(r:Nat) (d':Array Int),st=((r:Int),())/\k=n-r/\r<=n/\Dtw w' g rest d'/\d'.size=n/\Go.Sort.siftDown ltI hi f r d'=Go.Sort.siftDown ltI hi f lo d/\Fr w.heap.size (·=g) w w') (n-lo)
  ⟨lo,d,rfl,rfl,hlo,hD,hn.symm,rfl,Fr.refl _ _ _⟩ ?_
 rintro _ _ w1 ⟨r,d1,rfl,rfl,hr,hD1,hn1,he,hF⟩ next hnext
 have e1:IntKind.i64.wrap (IntKind.i64.wrap (2*(r:Int))+1)=((2*r+1:Nat):Int):=by
  have e0:IntKind.i64.wrap (2*(r:Int))=((2*r:Nat):Int):=wr64 (by omega) (by omega)
  rw[e0]
  exact wr64 (by omega) (by omega)
 have e2:IntKind.i64.wrap (((2*r+1:Nat):Int)+1)=((2*r+2:Nat):Int):=wr64 (by omega) (by omega)
 dsimp only
 rw[e1]
 refine zg (λh=>?_) (λh=>?_)
 ·rw[znM (by omega)]at he
  subst he
  exact hR w1 hD1 hF
 have hge:¬2*r+1≥hi:=by omega
 obtain⟨hk1,hk2⟩:=zoB (f:=f) (d:=d1) hge
 refine zk.cut (λ(st:Int×Unit) w'=>st.1=((kid hi f r d1:Nat):Int)/\Dtw w' g rest d1/\Fr w.heap.size (·=g) w w') ?_ ?_
 ·rw[e2]
  have e3:IntKind.i64.wrap ((f:Int)+((2*r+1:Nat):Int))=((f+(2*r+1):Nat):Int):=wr64 (by omega) (by omega)
  rw[e3]
  have e4:IntKind.i64.wrap (((f+(2*r+1):Nat):Int)+1)=((f+(2*r+2):Nat):Int):=wr64 (by omega) (by omega)
  rw[e4]
  refine zg (λh=>?_) (λh=>?_)
  ·refine hD1.drew.at rfl (by omega) hn1.symm (hD1.drew.at rfl (by omega) hn1.symm (yr ⟨_,rfl,?_⟩))
   refine zn (λhb=>⟨?_,hD1.drew,hF.drew⟩) (λhb=>⟨?_,hD1.drew,hF.drew⟩)
   ·unfold kid;rw[if_pos ⟨by omega,hb⟩]
   ·unfold kid;rw[if_neg (λg=>by rw[hb]at g;cases g.2)]
  ·refine⟨?_,hD1.drew,hF.drew⟩
   unfold kid;rw[if_neg (λg=>by omega)]
 ·rintro⟨ck,_⟩ w2 ⟨ec,hD2,hF2⟩
  dsimp only at ec⊢
  subst ec
  have e5:IntKind.i64.wrap ((f:Int)+(r:Int))=((f+r:Nat):Int):=wr64 (by omega) (by omega)
  have e6:IntKind.i64.wrap ((f:Int)+((kid hi f r d1:Nat):Int))=((f+kid hi f r d1:Nat):Int):=wr64 (by omega) (by omega)
  rw[e5,e6]
  refine hD2.drew.at rfl (by omega) hn1.symm (hD2.drew.at rfl (by omega) hn1.symm (yr ⟨_,rfl,?_⟩))
  refine zI (zn (λhb=>?_) (λhb=>?_))
  ·refine hD2.drew.swap (i:=f+kid hi f r d1) (j:=f+r) rfl rfl (by omega) (by omega) hn1.symm λw3 hD3 c3=>?_
   exact hnext (n-kid hi f r d1) _ _ (by omega) ⟨_,_,rfl,rfl,by omega,hD3,by rw[Go.Sort.size_swp];exact hn1,by rw[<-he,zqp hge hb],hF2.drew.chg c3 (.inl rfl)⟩
  ·rw[zp2 hge hb]at he
   subst he
   exact hR _ hD2.drew hF2.drew
theorem zjP(hi f r:Nat)(d:Array Int):(Go.Sort.siftDown ltI hi f r d).size=d.size:=by
 fun_induction Go.Sort.siftDown ltI hi f r d<;>simp_all[Go.Sort.size_swp]
theorem znw{a b:Nat}(hD:Dtw w g rest d)(hn:n=d.size)(hmax:n<=35184372088832)(hab:a<b)(hb:b<=n)
  (hR:∀w',Dtw w' g rest (Go.Sort.heapSort ltI d a b)->Fr w.heap.size (·=g) w w'->R (.tuple #[]) w') :
  cR 128 #[.slice (some (blk g)) n c,.int .i64 (a:Int),.int .i64 (b:Int)] w R:=by
 refine zc.of (ZL ⟨some (blk g),n,c⟩ a b R w ?_) λ_ _ h=>h
 have e1:IntKind.i64.wrap ((b:Int)-(a:Int))=((b-a:Nat):Int):=wr64 (by omega) (by omega)
 have e2:IntKind.i64.wrap (((b-a:Nat):Int)-1)=((b-a-1:Nat):Int):=wr64 (by omega) (by omega)
 have e3:IntKind.i64.wrap (Int.tdiv ((b-a-1:Nat):Int) 2)=(((b-a-1) / 2:Nat):Int):=wr64 (by rw[Int.tdiv_eq_ediv_of_nonneg (by omega)];omega) (by omega)
 have down:∀k:Nat,k<=n->IntKind.i64.wrap ((k:Int)-1)=(k:Int)-1:=λk hk=>zy (by omega) (by omega)
 unfold yc
 rw[e1,e2,e3]
 generalize hh:Go.Sort.heapBuild ltI (b-a) a ((b-a-1) / 2+1) d=dh
 refine zj.ghost (λk (st:Int×Unit) w'=>∃(d':Array Int),st=((k:Int)-1,())/\k<=n/\2*k<=b-a+1/\Dtw w' g rest d'/\d'.size=n/\Go.Sort.heapBuild ltI (b-a) a k d'=dh/\Fr w.heap.size (·=g) w w') ((b-a-1) / 2+1)
  ⟨d,(by rw[Prod.mk.injEq];exact⟨by omega,rfl⟩),by omega,by omega,hD,hn.symm,hh,Fr.refl _ _ _⟩ ?_
 rintro k _ w1 ⟨d1,rfl,hk,hk2,hD1,hn1,he,hF⟩ next hnext
 dsimp only
 refine zg (λh=>?_) (λh=>?_)
 ·obtain⟨m,rfl⟩:∃m,k=m+1:=⟨k-1,by omega⟩
  rw[show(((m+1:Nat):Int)-1)=(m:Int) by omega]
  dsimp only[zB,Go.Gk.Sl.zw,zi,zu,zb,zh];refine zjO (lo:=m) hD1 hn1.symm hmax (by omega) (by omega) λw2 hD2 hF2=>⟨rfl,?_⟩
  rw[down m (by omega)]
  exact hnext m _ _ (by omega) ⟨_,rfl,by omega,by omega,hD2,by rw[zjP];exact hn1,he,hF.onto hF2 hF.size⟩
 ·have hk0:k=0:=by omega
  subst hk0
  have he:d1=dh:=he
  subst he
  have hfin:Go.Sort.heapSort ltI d a b=Go.Sort.heapPop ltI a (b-a) d1:=by unfold Go.Sort.heapSort;rw[hh]
  refine zj.ghost (λk (st:Int×Unit) w'=>∃(d':Array Int),st=((k:Int)-1,())/\k<=b-a/\Dtw w' g rest d'/\d'.size=n/\Go.Sort.heapPop ltI a k d'=Go.Sort.heapSort ltI d a b/\Fr w.heap.size (·=g) w w') (b-a)
   ⟨d1,(by rw[Prod.mk.injEq];exact⟨by omega,rfl⟩),Nat.le_refl _,hD1,hn1,hfin.symm,hF⟩ ?_
  rintro k _ w2 ⟨d2,rfl,hkb,hD2,hn2,he2,hF2⟩ next2 hnext2
  dsimp only
  refine zg (λh=>?_) (λh=>?_)
  ·obtain⟨m,rfl⟩:∃m,k=m+1:=⟨k-1,by omega⟩
   rw[show(((m+1:Nat):Int)-1)=(m:Int) by omega]
   have e4:IntKind.i64.wrap ((a:Int)+(m:Int))=((a+m:Nat):Int):=wr64 (by omega) (by omega)
   rw[e4]
   refine hD2.swap (i:=a+m) (j:=a) rfl rfl (by omega) (by omega) hn2.symm λw3 hD3 c3=>?_
   have hF3:=hF2.chg c3 (.inl rfl)
   dsimp only[zB,Go.Gk.Sl.zw,zi,zu,zb,zh];refine zjO (lo:=0) (hi:=m) (f:=a) hD3 (by rw[Go.Sort.size_swp];exact hn2.symm) hmax (by omega) (by omega) λw4 hD4 hF4=>⟨rfl,?_⟩
   rw[down m (by omega)]
   exact hnext2 m _ _ (by omega) ⟨_,rfl,by omega,hD4,by rw[zjP,Go.Sort.size_swp];exact hn2,he2,hF3.onto hF4 hF3.size⟩
  ·have hk0:k=0:=by omega
   subst hk0
   have he2:d2=Go.Sort.heapSort ltI d a b:=he2
   subst he2
   exact hR w2 hD2 hF2
theorem zk2{a b:Nat}(hD:Dtw w g rest d)(hn:n=d.size)(hmax:n<=35184372088832)(hab:a<b)(hb:b<=n)
  (hR:∀w',Dtw w' g rest (Go.Sort.reverseRange d a b)->Fr w.heap.size (·=g) w w'->R (.tuple #[]) w') :
  cR 131 #[.slice (some (blk g)) n c,.int .i64 (a:Int),.int .i64 (b:Int)] w R:=by
 refine zc.of (Zx ⟨some (blk g),n,c⟩ a b R w ?_) λ_ _ h=>h
 have e1:IntKind.i64.wrap ((b:Int)-1)=((b-1:Nat):Int):=wr64 (by omega) (by omega)
 unfold zT
 rw[e1]
 refine zj.ghost (λk (st:Int×Int×Unit) w'=>∃(i j:Nat) (d':Array Int),st=((i:Int),(j:Int),())/\k=j-i/\j<n/\i<=n/\Dtw w' g rest d'/\d'.size=n/\Go.Sort.reverseLoop i j d'=Go.Sort.reverseRange d a b/\Fr w.heap.size (·=g) w w') (b-1-a)
  ⟨a,b-1,d,rfl,rfl,by omega,by omega,hD,hn.symm,rfl,Fr.refl _ _ _⟩ ?_
 rintro _ _ w1 ⟨i,j,d1,rfl,rfl,hj,hi,hD1,hn1,he,hF⟩ next hnext
 refine zg (λh=>?_) (λh=>?_)
 ·have hij:i<j:=by dsimp only at h;omega
  refine hD1.swap (i:=j) (j:=i) rfl rfl (by omega) (by omega) hn1.symm λw2 hD2 c2=>?_
  dsimp only
  rw[zr (by omega),wr64 (k:=j-1) (by omega) (by omega)]
  refine hnext (j-1-(i+1)) _ _ (by omega) ⟨i+1,j-1,_,rfl,rfl,by omega,by omega,hD2,by rw[Go.Sort.size_swp];exact hn1,?_,hF.chg c2 (.inl rfl)⟩
  rw[<-he]
  conv=>rhs;rw[Go.Sort.reverseLoop,if_pos hij]
 ·have:¬i<j:=by dsimp only at h;omega
  rw[Go.Sort.reverseLoop,if_neg this]at he
  subst he
  exact hR w1 hD1 hF
end
end Go.Proofs
namespace Go.Proofs
open Go.Gk Go.RowKit
theorem Zj{p:Int->Bool}{d:Array Int}{j i:Nat}(h:j<i\/p d[i]! =false):Go.Sort.scanUp p d j i=i:=by
 rw[Go.Sort.scanUp,if_neg]
 intro hh
 rw[Bool.and_eq_true,decide_eq_true_eq]at hh
 rcases h with h |h
 ·omega
 ·rw[h]at hh;cases hh.2
theorem zfD{p:Int->Bool}{d:Array Int}{j i:Nat}(h1:i<=j)(h2:p d[i]! =true):Go.Sort.scanUp p d j (i+1)=Go.Sort.scanUp p d j i:=by
 conv=>rhs;rw[Go.Sort.scanUp,if_pos (by rw[Bool.and_eq_true,decide_eq_true_eq];exact⟨h1,h2⟩)]
theorem Zr{p:Int->Bool}{d:Array Int}{i j:Nat}(h:j<i\/p d[j]! =false):Go.Sort.scanDown p d i j=j:=by
 cases j with
 |zero=>rfl
 |succ j=>
  rw[Go.Sort.scanDown,if_neg]
  intro hh
  rw[Bool.and_eq_true,decide_eq_true_eq]at hh
  rcases h with h |h
  ·omega
  ·rw[h]at hh;cases hh.2
theorem zcV{p:Int->Bool}{d:Array Int}{i j:Nat}(h1:i<=j+1)(h2:p d[j+1]! =true):Go.Sort.scanDown p d i j=Go.Sort.scanDown p d i (j+1):=by
 conv=>rhs;rw[Go.Sort.scanDown,if_pos (by rw[Bool.and_eq_true,decide_eq_true_eq];exact⟨h1,h2⟩)]
theorem zpA{p:Int->Bool}{d:Array Int}{j i:Nat}(h:i<=j+1):i<=Go.Sort.scanUp p d j i/\Go.Sort.scanUp p d j i<=j+1:=
 ⟨Go.Sort.scanUp_ge p d j i,by
  by_cases e:i<=j
  ·fun_induction Go.Sort.scanUp p d j i with
   |case1 i hc ih=>
    by_cases e2:i+1<=j
    ·exact ih (by omega) e2
    ·rw[Zj (.inl (by omega))];omega
   |case2 i hc=>omega
  ·rw[Zj (.inl (by omega))];omega⟩
theorem zhR{p:Int->Bool}{d:Array Int}{i:Nat}:∀{j:Nat},i<=j+1->Go.Sort.scanDown p d i j<=j/\i<=Go.Sort.scanDown p d i j+1
 | 0,h=>⟨Nat.le_refl _,h⟩
 |j+1,h=>by
  rw[Go.Sort.scanDown]
  split
  ·rename_i hc
   rw[Bool.and_eq_true,decide_eq_true_eq]at hc
   have:=zhR (p:=p) (d:=d) (j:=j) hc.1
   omega
  ·omega
theorem zkw{p q:Int->Bool}{d:Array Int}{i0 j0 I J:Nat}(hq:∀x,q x=!p x)(hI:Go.Sort.scanUp p d j0 i0=I)(hJ:Go.Sort.scanDown q d I j0=J)(h:¬I>J)(h0:0<I):I<J:=by
 have s1:=Go.Sort.scanUp_spec p d j0 _ i0 rfl
 have s2:=Go.Sort.scanDown_spec q d I j0
 rw[hI]at s1
 rw[hJ]at s2
 rcases Nat.lt_or_ge I J with q1 |q1
 ·exact q1
 ·exfalso
  have e:I=J:=by omega
  have e1:=s1.2.2.2 (by have:=s2.1;omega)
  have e2:=s2.2.2.2 (by omega) (by omega)
  rw[hq,<-e,e1]at e2
  cases e2
section
variable {w:World} {g n c:Nat} {rest:List Value} {d:Array Int} {R:VWP}
theorem zly{a b pv:Nat}(hD:Dtw w g rest d)(hn:n=d.size)(hmax:n<=35184372088832)(hab:a<b)(hb:b<=n)(hp1:a<=pv)(hp2:pv<b)
  (hR:∀w',Dtw w' g rest (Go.Sort.partitionEqual ltI d a b pv).2->Fr w.heap.size (·=g) w w'->R (.int .i64 ((Go.Sort.partitionEqual ltI d a b pv).1:Int)) w') :
  cR 134 #[.slice (some (blk g)) n c,.int .i64 (a:Int),.int .i64 (b:Int),.int .i64 (pv:Int)] w R:=by
 refine zc.of (Zq ⟨some (blk g),n,c⟩ a b pv R w ?_) λ_ _ h=>h
 have ea:IntKind.i64.wrap ((a:Int)+1)=((a+1:Nat):Int):=wr64 (by omega) (by omega)
 have eb:IntKind.i64.wrap ((b:Int)-1)=((b-1:Nat):Int):=wr64 (by omega) (by omega)
 unfold zR
 rw[ea,eb]
 refine hD.swap (i:=pv) (j:=a) rfl rfl (by omega) (by omega) hn λw1 hD1 c1=>?_
 have hF1:=(Fr.refl w.heap.size (·=g) w).chg c1 (.inl rfl)
 refine zj.ghost (λk (st:Int×Int×Unit) w'=>∃(i j:Nat) (d':Array Int),st=((i:Int),(j:Int),())/\k=j+1-i/\a<i/\i<=j+1/\j<b/\Dtw w' g rest d'/\d'.size=n/\Go.Sort.partEqLoop ltI a i j d'=Go.Sort.partitionEqual ltI d a b pv/\Fr w.heap.size (·=g) w w') (b-1+1-(a+1))
  ⟨a+1,b-1,_,rfl,rfl,by omega,by omega,by omega,hD1,by rw[Go.Sort.size_swp];exact hn.symm,rfl,hF1⟩ ?_
 rintro _ _ w2 ⟨i0,j0,d2,rfl,rfl,hi,hij0,hjb,hD2,hn2,he,hF2⟩ next hnext
 dsimp only
 obtain⟨u1,u2⟩:=zpA (p:=λx=>!ltI d2[a]! x) (d:=d2) (j:=j0) (i:=i0) hij0
 obtain⟨v1,v2⟩:=zhR (p:=λx=>ltI d2[a]! x) (d:=d2) (i:=Go.Sort.scanUp (λx=>!ltI d2[a]! x) d2 j0 i0) (j:=j0) u2
 refine zk.cut (λ(st:Int×Unit) w'=>st.1=((Go.Sort.scanUp (λx=>!ltI d2[a]! x) d2 j0 i0:Nat):Int)/\Dtw w' g rest d2/\Fr w.heap.size (·=g) w w') ?_ ?_
 ·clear u1 u2 v1 v2
  refine zj.ghost (λk (st:Int×Unit) w'=>∃i:Nat,st=((i:Int),())/\k=j0+1-i/\i0<=i/\i<=j0+1/\Go.Sort.scanUp (λx=>!ltI d2[a]! x) d2 j0 i=Go.Sort.scanUp (λx=>!ltI d2[a]! x) d2 j0 i0/\Dtw w' g rest d2/\Fr w.heap.size (·=g) w w') (j0+1-i0)
   ⟨i0,rfl,rfl,Nat.le_refl _,by omega,rfl,hD2,hF2⟩ ?_
  rintro _ _ wq ⟨i,rfl,rfl,hi0,hi1,hsc,hDq,hFq⟩ nextq hnextq
  refine zk.cut (λ_ w'=>i<=j0/\(λx=>!ltI d2[a]! x) d2[i]! =true/\Dtw w' g rest d2/\Fr w.heap.size (·=g) w w') ?_ ?_
  ·refine zg (λh=>?_) (λh=>?_)
   ·have hij:i<=j0:=by dsimp only at h;omega
    refine(hDq.drew.at rfl (by omega) hn2.symm (hDq.drew.at rfl (by omega) hn2.symm (yr ⟨_,rfl,?_⟩)))
    refine zI (zn (λhb=>?_) (λhb=>?_))
    ·exact⟨by rw[<-hsc,Zj (p:=λx=>!ltI d2[a]! x) (.inr (by rw[hb];rfl))],hDq.drew,hFq.drew⟩
    ·exact⟨hij,by dsimp only;rw[hb];rfl,hDq.drew,hFq.drew⟩
   ·exact⟨by rw[<-hsc,Zj (p:=λx=>!ltI d2[a]! x) (.inl (by dsimp only at h;omega))],hDq.drew,hFq.drew⟩
  ·rintro _ wr ⟨hij,hp,hDr,hFr⟩
   rw[zr (by omega)]
   exact hnextq (j0+1-(i+1)) _ _ (by omega) ⟨i+1,rfl,rfl,by omega,by omega,by rw[<-hsc,zfD (p:=λx=>!ltI d2[a]! x) hij hp],hDr,hFr⟩
 rintro⟨i2,_⟩ w3 ⟨e2,hD3,hF3⟩
 dsimp only at e2⊢
 subst e2
 have heq:=Go.Sort.partEqLoop_eq (lt:=ltI) a i0 j0 d2
 generalize hI:Go.Sort.scanUp (λx=>!ltI d2[a]! x) d2 j0 i0=I at u1 u2 v1 v2 heq⊢
 refine zk.cut (λ(st:Int×Unit) w'=>st.1=((Go.Sort.scanDown (λx=>ltI d2[a]! x) d2 I j0:Nat):Int)/\Dtw w' g rest d2/\Fr w.heap.size (·=g) w w') ?_ ?_
 ·clear v1 v2 heq
  refine zj.ghost (λk (st:Int×Unit) w'=>st=((k:Int),())/\k<=j0/\I<=k+1/\Go.Sort.scanDown (λx=>ltI d2[a]! x) d2 (I) k=Go.Sort.scanDown (λx=>ltI d2[a]! x) d2 (I) j0/\Dtw w' g rest d2/\Fr w.heap.size (·=g) w w') j0
   ⟨rfl,Nat.le_refl _,by omega,rfl,hD3,hF3⟩ ?_
  rintro j _ wq ⟨rfl,hj0,hj1,hsc,hDq,hFq⟩ nextq hnextq
  refine zk.cut (λ_ w'=>I<=j/\(λx=>ltI d2[a]! x) d2[j]! =true/\Dtw w' g rest d2/\Fr w.heap.size (·=g) w w') ?_ ?_
  ·refine zg (λh=>?_) (λh=>?_)
   ·have hij:I<=j:=by dsimp only at h;omega
    refine hDq.drew.at rfl (by omega) hn2.symm (hDq.drew.at rfl (by omega) hn2.symm (yr ⟨_,rfl,?_⟩))
    refine zn (λhb=>⟨hij,hb,hDq.drew,hFq.drew⟩) (λhb=>⟨by rw[<-hsc,Zr (p:=λx=>ltI d2[a]! x) (.inr hb)],hDq.drew,hFq.drew⟩)
   ·exact⟨by rw[<-hsc,Zr (p:=λx=>ltI d2[a]! x) (.inl (by dsimp only at h;omega))],hDq.drew,hFq.drew⟩
  ·rintro _ wr ⟨hij,hp,hDr,hFr⟩
   obtain⟨m,rfl⟩:∃m,j=m+1:=⟨j-1,by omega⟩
   rw[show IntKind.i64.wrap (((((m+1:Nat):Int),()):Int×Unit).1-1)=(m:Int) from wr64 (by dsimp only;omega) (by omega)]
   exact hnextq m _ _ (by omega) ⟨rfl,by omega,by omega,by rw[<-hsc,zcV (p:=λx=>ltI d2[a]! x) hij hp],hDr,hFr⟩
 rintro⟨j2,_⟩ w4 ⟨e2,hD4,hF4⟩
 dsimp only at e2⊢
 subst e2
 generalize hJ:Go.Sort.scanDown (λx=>ltI d2[a]! x) d2 I j0=J at v1 v2 heq⊢
 refine zg (λh=>?_) (λh=>?_)
 ·have h:I>J:=by omega
  rw[if_pos h,he]at heq
  have:=hR w4
  rw[heq]at this
  exact this hD4 hF4
 ·have h:¬I>J:=by omega
  rw[if_neg h]at heq
  have hIJ:I<J:=zkw (λx=>(Bool.not_not _).symm) hI hJ h (by omega)
  refine hD4.swap (i:=J) (j:=I) rfl rfl (by omega) (by omega) hn2.symm λw5 hD5 c5=>?_
  rw[wr64 (k:=I+1) (by omega) (by omega),wr64 (k:=J-1) (by omega) (by omega)]
  exact hnext (J-1+1-(I+1)) _ _ (by omega) ⟨I+1,J-1,_,rfl,rfl,by omega,by omega,by omega,hD5,by rw[Go.Sort.size_swp];exact hn2,by rw[<-heq,he],hF4.chg c5 (.inl rfl)⟩
theorem zpv{a b pv:Nat}(hD:Dtw w g rest d)(hn:n=d.size)(hmax:n<=35184372088832)(hab:a<b)(hb:b<=n)(hp1:a<=pv)(hp2:pv<b)
  (hR:∀w',Dtw w' g rest (Go.Sort.partition ltI d a b pv).2.2->Fr w.heap.size (·=g) w w'->R (.tuple #[.int .i64 ((Go.Sort.partition ltI d a b pv).1:Int),.bool (Go.Sort.partition ltI d a b pv).2.1]) w') :
  cR 135 #[.slice (some (blk g)) n c,.int .i64 (a:Int),.int .i64 (b:Int),.int .i64 (pv:Int)] w R:=by
 refine zc.of (ZD ⟨some (blk g),n,c⟩ a b pv R w ?_) λ_ _ h=>h
 have ea:IntKind.i64.wrap ((a:Int)+1)=((a+1:Nat):Int):=wr64 (by omega) (by omega)
 have eb:IntKind.i64.wrap ((b:Int)-1)=((b-1:Nat):Int):=wr64 (by omega) (by omega)
 unfold zY
 rw[ea,eb]
 refine hD.swap (i:=pv) (j:=a) rfl rfl (by omega) (by omega) hn λw1 hD1 c1=>?_
 have hF1:=(Fr.refl w.heap.size (·=g) w).chg c1 (.inl rfl)
 have hn1:(Go.Sort.swp d a pv).size=n:=by rw[Go.Sort.size_swp];exact hn.symm
 have hpt:Go.Sort.partition ltI d a b pv=(if Go.Sort.scanUp (λx=>ltI x (Go.Sort.swp d a pv)[a]!) (Go.Sort.swp d a pv) (b-1) (a+1)>Go.Sort.scanDown (λx=>!ltI x (Go.Sort.swp d a pv)[a]!) (Go.Sort.swp d a pv) (Go.Sort.scanUp (λx=>ltI x (Go.Sort.swp d a pv)[a]!) (Go.Sort.swp d a pv) (b-1) (a+1)) (b-1) then
  (Go.Sort.scanDown (λx=>!ltI x (Go.Sort.swp d a pv)[a]!) (Go.Sort.swp d a pv) (Go.Sort.scanUp (λx=>ltI x (Go.Sort.swp d a pv)[a]!) (Go.Sort.swp d a pv) (b-1) (a+1)) (b-1),true,Go.Sort.swp (Go.Sort.swp d a pv) (Go.Sort.scanDown (λx=>!ltI x (Go.Sort.swp d a pv)[a]!) (Go.Sort.swp d a pv) (Go.Sort.scanUp (λx=>ltI x (Go.Sort.swp d a pv)[a]!) (Go.Sort.swp d a pv) (b-1) (a+1)) (b-1)) a)
  else((Go.Sort.partLoop ltI a (Go.Sort.scanUp (λx=>ltI x (Go.Sort.swp d a pv)[a]!) (Go.Sort.swp d a pv) (b-1) (a+1)+1) (Go.Sort.scanDown (λx=>!ltI x (Go.Sort.swp d a pv)[a]!) (Go.Sort.swp d a pv) (Go.Sort.scanUp (λx=>ltI x (Go.Sort.swp d a pv)[a]!) (Go.Sort.swp d a pv) (b-1) (a+1)) (b-1)-1) (Go.Sort.swp (Go.Sort.swp d a pv) (Go.Sort.scanUp (λx=>ltI x (Go.Sort.swp d a pv)[a]!) (Go.Sort.swp d a pv) (b-1) (a+1)) (Go.Sort.scanDown (λx=>!ltI x (Go.Sort.swp d a pv)[a]!) (Go.Sort.swp d a pv) (Go.Sort.scanUp (λx=>ltI x (Go.Sort.swp d a pv)[a]!) (Go.Sort.swp d a pv) (b-1) (a+1)) (b-1)))).1,false,
   Go.Sort.swp (Go.Sort.partLoop ltI a (Go.Sort.scanUp (λx=>ltI x (Go.Sort.swp d a pv)[a]!) (Go.Sort.swp d a pv) (b-1) (a+1)+1) (Go.Sort.scanDown (λx=>!ltI x (Go.Sort.swp d a pv)[a]!) (Go.Sort.swp d a pv) (Go.Sort.scanUp (λx=>ltI x (Go.Sort.swp d a pv)[a]!) (Go.Sort.swp d a pv) (b-1) (a+1)) (b-1)-1) (Go.Sort.swp (Go.Sort.swp d a pv) (Go.Sort.scanUp (λx=>ltI x (Go.Sort.swp d a pv)[a]!) (Go.Sort.swp d a pv) (b-1) (a+1)) (Go.Sort.scanDown (λx=>!ltI x (Go.Sort.swp d a pv)[a]!) (Go.Sort.swp d a pv) (Go.Sort.scanUp (λx=>ltI x (Go.Sort.swp d a pv)[a]!) (Go.Sort.swp d a pv) (b-1) (a+1)) (b-1)))).2 (Go.Sort.partLoop ltI a (Go.Sort.scanUp (λx=>ltI x (Go.Sort.swp d a pv)[a]!) (Go.Sort.swp d a pv) (b-1) (a+1)+1) (Go.Sort.scanDown (λx=>!ltI x (Go.Sort.swp d a pv)[a]!) (Go.Sort.swp d a pv) (Go.Sort.scanUp (λx=>ltI x (Go.Sort.swp d a pv)[a]!) (Go.Sort.swp d a pv) (b-1) (a+1)) (b-1)-1) (Go.Sort.swp (Go.Sort.swp d a pv) (Go.Sort.scanUp (λx=>ltI x (Go.Sort.swp d a pv)[a]!) (Go.Sort.swp d a pv) (b-1) (a+1)) (Go.Sort.scanDown (λx=>!ltI x (Go.Sort.swp d a pv)[a]!) (Go.Sort.swp d a pv) (Go.Sort.scanUp (λx=>ltI x (Go.Sort.swp d a pv)[a]!) (Go.Sort.swp d a pv) (b-1) (a+1)) (b-1)))).1 a)):=by
  unfold Go.Sort.partition
  rfl
 generalize hpp:Go.Sort.partition ltI d a b pv=pp at hR hpt
 generalize Go.Sort.swp d a pv=d1 at hD1 hn1 hpt
 have hbb:b-1<b:=by omega
 generalize hB1:b-1=b1 at hpt hbb⊢
 obtain⟨u1,u2⟩:=zpA (p:=λx=>ltI x d1[a]!) (d:=d1) (j:=b1) (i:=a+1) (by omega)
 obtain⟨v1,v2⟩:=zhR (p:=λx=>!ltI x d1[a]!) (d:=d1) (i:=Go.Sort.scanUp (λx=>ltI x d1[a]!) d1 b1 (a+1)) (j:=b1) u2
 refine zk.cut (λ(st:Int×Unit) w'=>st.1=((Go.Sort.scanUp (λx=>ltI x d1[a]!) d1 b1 (a+1):Nat):Int)/\Dtw w' g rest d1/\Fr w.heap.size (·=g) w w') ?_ ?_
 ·clear u1 u2 v1 v2 hpt
  refine zj.ghost (λk (st:Int×Unit) w'=>∃i:Nat,st=((i:Int),())/\k=b1+1-i/\(a+1)<=i/\i<=b1+1/\Go.Sort.scanUp (λx=>ltI x d1[a]!) d1 b1 i=Go.Sort.scanUp (λx=>ltI x d1[a]!) d1 b1 (a+1)/\Dtw w' g rest d1/\Fr w.heap.size (·=g) w w') (b1+1-(a+1))
   ⟨(a+1),rfl,rfl,Nat.le_refl _,by omega,rfl,hD1,hF1⟩ ?_
  rintro _ _ wq ⟨i,rfl,rfl,hi0,hi1,hsc,hDq,hFq⟩ nextq hnextq
  refine zk.cut (λ_ w'=>i<=b1/\(λx=>ltI x d1[a]!) d1[i]! =true/\Dtw w' g rest d1/\Fr w.heap.size (·=g) w w') ?_ ?_
  ·refine zg (λh=>?_) (λh=>?_)
   ·have hij:i<=b1:=by dsimp only at h;omega
    refine(hDq.drew.at rfl (by omega) hn1.symm (hDq.drew.at rfl (by omega) hn1.symm (yr ⟨_,rfl,?_⟩)))
    refine zn (λhb=>⟨hij,hb,hDq.drew,hFq.drew⟩) (λhb=>⟨by rw[<-hsc,Zj (p:=λx=>ltI x d1[a]!) (.inr hb)],hDq.drew,hFq.drew⟩)
   ·exact⟨by rw[<-hsc,Zj (p:=λx=>ltI x d1[a]!) (.inl (by dsimp only at h;omega))],hDq.drew,hFq.drew⟩
  ·rintro _ wr ⟨hij,hp,hDr,hFr⟩
   rw[zr (by omega)]
   exact hnextq (b1+1-(i+1)) _ _ (by omega) ⟨i+1,rfl,rfl,by omega,by omega,by rw[<-hsc,zfD (p:=λx=>ltI x d1[a]!) hij hp],hDr,hFr⟩
 rintro⟨i2,_⟩ w3 ⟨e2,hD3,hF3⟩
 dsimp only at e2⊢
 subst e2
 generalize hI:Go.Sort.scanUp (λx=>ltI x d1[a]!) d1 b1 (a+1)=I at u1 u2 v1 v2 hpt⊢
 refine zk.cut (λ(st:Int×Unit) w'=>st.1=((Go.Sort.scanDown (λx=>!ltI x d1[a]!) d1 I b1:Nat):Int)/\Dtw w' g rest d1/\Fr w.heap.size (·=g) w w') ?_ ?_
 ·clear v1 v2 hpt
  refine zj.ghost (λk (st:Int×Unit) w'=>st=((k:Int),())/\k<=b1/\I<=k+1/\Go.Sort.scanDown (λx=>!ltI x d1[a]!) d1 (I) k=Go.Sort.scanDown (λx=>!ltI x d1[a]!) d1 (I) b1/\Dtw w' g rest d1/\Fr w.heap.size (·=g) w w') b1
   ⟨rfl,Nat.le_refl _,by omega,rfl,hD3,hF3⟩ ?_
  rintro j _ wq ⟨rfl,hj0,hj1,hsc,hDq,hFq⟩ nextq hnextq
  refine zk.cut (λ_ w'=>I<=j/\(λx=>!ltI x d1[a]!) d1[j]! =true/\Dtw w' g rest d1/\Fr w.heap.size (·=g) w w') ?_ ?_
  ·refine zg (λh=>?_) (λh=>?_)
   ·have hij:I<=j:=by dsimp only at h;omega
    refine hDq.drew.at rfl (by omega) hn1.symm (hDq.drew.at rfl (by omega) hn1.symm (yr ⟨_,rfl,?_⟩))
    refine zI (zn (λhb=>?_) (λhb=>?_))
    ·exact⟨by rw[<-hsc,Zr (p:=λx=>!ltI x d1[a]!) (.inr (by rw[hb];rfl))],hDq.drew,hFq.drew⟩
    ·exact⟨hij,by dsimp only;rw[hb];rfl,hDq.drew,hFq.drew⟩
   ·exact⟨by rw[<-hsc,Zr (p:=λx=>!ltI x d1[a]!) (.inl (by dsimp only at h;omega))],hDq.drew,hFq.drew⟩
  ·rintro _ wr ⟨hij,hp,hDr,hFr⟩
   obtain⟨m,rfl⟩:∃m,j=m+1:=⟨j-1,by omega⟩
   rw[show IntKind.i64.wrap (((((m+1:Nat):Int),()):Int×Unit).1-1)=(m:Int) from wr64 (by dsimp only;omega) (by omega)]
   exact hnextq m _ _ (by omega) ⟨rfl,by omega,by omega,by rw[<-hsc,zcV (p:=λx=>!ltI x d1[a]!) hij hp],hDr,hFr⟩
 rintro⟨j2,_⟩ w4 ⟨e2,hD4,hF4⟩
 dsimp only at e2⊢
 subst e2
 generalize hJ:Go.Sort.scanDown (λx=>!ltI x d1[a]!) d1 I b1=J at v1 v2 hpt⊢
 refine zg (λh=>?_) (λh=>?_)
 ·have h:I>J:=by omega
  rw[if_pos h]at hpt
  subst hpt
  refine hD4.swap (i:=a) (j:=J) rfl rfl (by omega) (by omega) hn1.symm λw5 hD5 c5=>?_
  exact hR w5 hD5 (hF4.chg c5 (.inl rfl))
 ·have h:¬I>J:=by omega
  rw[if_neg h]at hpt
  refine hD4.swap (i:=J) (j:=I) rfl rfl (by omega) (by omega) hn1.symm λw5 hD5 c5=>?_
  have hF5:=hF4.chg c5 (.inl rfl)
  have hn5:(Go.Sort.swp d1 I J).size=n:=by rw[Go.Sort.size_swp];exact hn1
  generalize Go.Sort.swp d1 I J=d5 at hD5 hn5 hpt
  generalize hpl:Go.Sort.partLoop ltI a (I+1) (J-1) d5=L at hpt
  have hIJ:I<J:=zkw (λ_=>rfl) hI hJ h (by omega)
  rw[wr64 (k:=I+1) (by omega) (by omega),wr64 (k:=J-1) (by omega) (by omega)]
  refine zj.ghost (λk (st:Int×Int×Unit) w'=>∃(i j:Nat) (d':Array Int),st=((i:Int),(j:Int),())/\k=j+1-i/\a<i/\i<=j+1/\j<b/\Dtw w' g rest d'/\d'.size=n/\Go.Sort.partLoop ltI a i j d'=L/\Fr w.heap.size (·=g) w w') (J-1+1-(I+1))
   ⟨I+1,J-1,_,rfl,rfl,by omega,by omega,by omega,hD5,hn5,hpl,hF5⟩ ?_
  clear hpl hD5 hn5 hF5 c5
  rintro _ _ w2 ⟨i0,j0,d2,rfl,rfl,hi,hij0,hjb,hD2,hn2,he,hF2⟩ next hnext
  dsimp only
  obtain⟨u1',u2'⟩:=zpA (p:=λx=>ltI x d2[a]!) (d:=d2) (j:=j0) (i:=i0) hij0
  obtain⟨v1',v2'⟩:=zhR (p:=λx=>!ltI x d2[a]!) (d:=d2) (i:=Go.Sort.scanUp (λx=>ltI x d2[a]!) d2 j0 i0) (j:=j0) u2'
  refine zk.cut (λ(st:Int×Unit) w'=>st.1=((Go.Sort.scanUp (λx=>ltI x d2[a]!) d2 j0 i0:Nat):Int)/\Dtw w' g rest d2/\Fr w.heap.size (·=g) w w') ?_ ?_
  ·clear u1' u2' v1' v2' hpt
   refine zj.ghost (λk (st:Int×Unit) w'=>∃i:Nat,st=((i:Int),())/\k=j0+1-i/\i0<=i/\i<=j0+1/\Go.Sort.scanUp (λx=>ltI x d2[a]!) d2 j0 i=Go.Sort.scanUp (λx=>ltI x d2[a]!) d2 j0 i0/\Dtw w' g rest d2/\Fr w.heap.size (·=g) w w') (j0+1-i0)
    ⟨i0,rfl,rfl,Nat.le_refl _,by omega,rfl,hD2,hF2⟩ ?_
   rintro _ _ wq ⟨i,rfl,rfl,hi0,hi1,hsc,hDq,hFq⟩ nextq hnextq
   refine zk.cut (λ_ w'=>i<=j0/\(λx=>ltI x d2[a]!) d2[i]! =true/\Dtw w' g rest d2/\Fr w.heap.size (·=g) w w') ?_ ?_
   ·refine zg (λh=>?_) (λh=>?_)
    ·have hij:i<=j0:=by dsimp only at h;omega
     refine(hDq.drew.at rfl (by omega) hn2.symm (hDq.drew.at rfl (by omega) hn2.symm (yr ⟨_,rfl,?_⟩)))
     refine zn (λhb=>⟨hij,hb,hDq.drew,hFq.drew⟩) (λhb=>⟨by rw[<-hsc,Zj (p:=λx=>ltI x d2[a]!) (.inr hb)],hDq.drew,hFq.drew⟩)
    ·exact⟨by rw[<-hsc,Zj (p:=λx=>ltI x d2[a]!) (.inl (by dsimp only at h;omega))],hDq.drew,hFq.drew⟩
   ·rintro _ wr ⟨hij,hp,hDr,hFr⟩
    rw[zr (by omega)]
    exact hnextq (j0+1-(i+1)) _ _ (by omega) ⟨i+1,rfl,rfl,by omega,by omega,by rw[<-hsc,zfD (p:=λx=>ltI x d2[a]!) hij hp],hDr,hFr⟩
  rintro⟨i2,_⟩ w3 ⟨e2,hD3,hF3⟩
  dsimp only at e2⊢
  subst e2
  have heq:=Go.Sort.partLoop_eq (lt:=ltI) a i0 j0 d2
  generalize hI':Go.Sort.scanUp (λx=>ltI x d2[a]!) d2 j0 i0=I' at u1' u2' v1' v2' heq⊢
  refine zk.cut (λ(st:Int×Unit) w'=>st.1=((Go.Sort.scanDown (λx=>!ltI x d2[a]!) d2 I' j0:Nat):Int)/\Dtw w' g rest d2/\Fr w.heap.size (·=g) w w') ?_ ?_
  ·clear v1' v2' heq hpt
   refine zj.ghost (λk (st:Int×Unit) w'=>st=((k:Int),())/\k<=j0/\I'<=k+1/\Go.Sort.scanDown (λx=>!ltI x d2[a]!) d2 (I') k=Go.Sort.scanDown (λx=>!ltI x d2[a]!) d2 (I') j0/\Dtw w' g rest d2/\Fr w.heap.size (·=g) w w') j0
    ⟨rfl,Nat.le_refl _,by omega,rfl,hD3,hF3⟩ ?_
   rintro j _ wq ⟨rfl,hj0,hj1,hsc,hDq,hFq⟩ nextq hnextq
   refine zk.cut (λ_ w'=>I'<=j/\(λx=>!ltI x d2[a]!) d2[j]! =true/\Dtw w' g rest d2/\Fr w.heap.size (·=g) w w') ?_ ?_
   ·refine zg (λh=>?_) (λh=>?_)
    ·have hij:I'<=j:=by dsimp only at h;omega
     refine hDq.drew.at rfl (by omega) hn2.symm (hDq.drew.at rfl (by omega) hn2.symm (yr ⟨_,rfl,?_⟩))
     refine zI (zn (λhb=>?_) (λhb=>?_))
     ·exact⟨by rw[<-hsc,Zr (p:=λx=>!ltI x d2[a]!) (.inr (by rw[hb];rfl))],hDq.drew,hFq.drew⟩
     ·exact⟨hij,by dsimp only;rw[hb];rfl,hDq.drew,hFq.drew⟩
    ·exact⟨by rw[<-hsc,Zr (p:=λx=>!ltI x d2[a]!) (.inl (by dsimp only at h;omega))],hDq.drew,hFq.drew⟩
   ·rintro _ wr ⟨hij,hp,hDr,hFr⟩
    obtain⟨m,rfl⟩:∃m,j=m+1:=⟨j-1,by omega⟩
    rw[show IntKind.i64.wrap (((((m+1:Nat):Int),()):Int×Unit).1-1)=(m:Int) from wr64 (by dsimp only;omega) (by omega)]
    exact hnextq m _ _ (by omega) ⟨rfl,by omega,by omega,by rw[<-hsc,zcV (p:=λx=>!ltI x d2[a]!) hij hp],hDr,hFr⟩
  rintro⟨j2,_⟩ w4 ⟨e2,hD4,hF4⟩
  dsimp only at e2⊢
  subst e2
  generalize hJ':Go.Sort.scanDown (λx=>!ltI x d2[a]!) d2 I' j0=J' at v1' v2' heq⊢
  refine zg (λh=>?_) (λh=>?_)
  ·have h:I'>J':=by omega
   rw[if_pos h,he]at heq
   refine hD4.swap (i:=a) (j:=J') rfl rfl (by omega) (by omega) hn2.symm λw5 hD5 c5=>?_
   subst heq
   dsimp only at hpt
   subst hpt
   exact hR w5 hD5 (hF4.chg c5 (.inl rfl))
  ·have h:¬I'>J':=by omega
   rw[if_neg h]at heq
   have hIJ':I'<J':=zkw (λ_=>rfl) hI' hJ' h (by omega)
   refine hD4.swap (i:=J') (j:=I') rfl rfl (by omega) (by omega) hn2.symm λw5 hD5 c5=>?_
   rw[wr64 (k:=I'+1) (by omega) (by omega),wr64 (k:=J'-1) (by omega) (by omega)]
   exact hnext (J'-1+1-(I'+1)) _ _ (by omega) ⟨I'+1,J'-1,_,rfl,rfl,by omega,by omega,by omega,hD5,by rw[Go.Sort.size_swp];exact hn2,by rw[<-heq,he],hF4.chg c5 (.inl rfl)⟩
end
end Go.Proofs
namespace Go.Proofs
open Go.Gk Go.RowKit
theorem ziQ{d:Array Int}{b i:Nat}(h:b<=i\/ltI d[i]! d[i-1]! =true):Go.Sort.scanSorted ltI d b i=i:=by
 rw[Go.Sort.scanSorted,if_neg]
 intro hh
 rw[Bool.and_eq_true,decide_eq_true_eq]at hh
 rcases h with h |h
 ·omega
 ·rw[h]at hh;cases hh.2
theorem zp0{d:Array Int}{b i:Nat}(h1:i<b)(h2:ltI d[i]! d[i-1]! =false):Go.Sort.scanSorted ltI d b (i+1)=Go.Sort.scanSorted ltI d b i:=by
 conv=>rhs;rw[Go.Sort.scanSorted,if_pos (by rw[Bool.and_eq_true,decide_eq_true_eq,h2];exact⟨h1,rfl⟩)]
theorem zl9{d:Array Int}{j:Nat}(h:j=0\/ltI d[j]! d[j-1]! =false):Go.Sort.shiftDown ltI j d=d:=by
 cases j with
 |zero=>rfl
 |succ j=>
  rw[Go.Sort.shiftDown,if_pos]
  rcases h with h |h
  ·omega
  ·rw[Nat.add_sub_cancel]at h;rw[h];rfl
theorem zqU{d:Array Int}{j:Nat}(h:ltI d[j+1]! d[j]! =true):Go.Sort.shiftDown ltI (j+1) d=Go.Sort.shiftDown ltI j (Go.Sort.swp d (j+1) j):=by
 conv=>lhs;rw[Go.Sort.shiftDown,if_neg (by rw[h];simp)]
theorem zlA{d:Array Int}{b j:Nat}(h:b<=j\/ltI d[j]! d[j-1]! =false):Go.Sort.shiftUp ltI b j d=d:=by
 rw[Go.Sort.shiftUp]
 split
 ·rcases h with h |h
  ·omega
  ·rw[h];rfl
 ·rfl
theorem zqV{d:Array Int}{b j:Nat}(h0:j<b)(h:ltI d[j]! d[j-1]! =true):Go.Sort.shiftUp ltI b j d=Go.Sort.shiftUp ltI b (j+1) (Go.Sort.swp d j (j-1)):=by
 conv=>lhs;rw[Go.Sort.shiftUp,if_pos h0,if_neg (by rw[h];simp)]
section
variable {w:World} {g n c:Nat} {rest:List Value} {d:Array Int} {R:VWP}
theorem zk0{a b:Nat}(hD:Dtw w g rest d)(hn:n=d.size)(hmax:n<=35184372088832)(hab:a<b)(hb:b<=n)
  (hR:∀w',Dtw w' g rest (Go.Sort.partialInsertionSort ltI d a b).1->Fr w.heap.size (·=g) w w'->R (.bool (Go.Sort.partialInsertionSort ltI d a b).2) w') :
  cR 132 #[.slice (some (blk g)) n c,.int .i64 (a:Int),.int .i64 (b:Int)] w R:=by
 refine zc.of (yP ⟨some (blk g),n,c⟩ a b R w ?_) λ_ _ h=>h
 have ea:IntKind.i64.wrap ((a:Int)+1)=((a+1:Nat):Int):=wr64 (by omega) (by omega)
 have eba:IntKind.i64.wrap ((b:Int)-(a:Int))=((b-a:Nat):Int):=wr64 (by omega) (by omega)
 unfold zJ
 rw[ea,eba]
 generalize hgoal:Go.Sort.partialInsertionSort ltI d a b=pp at hR
 have hgoal:Go.Sort.partialIns ltI a b 5 (a+1) d=pp:=hgoal
 refine zj.ghost (λs (st:Int×Int×Unit) w'=>∃(i:Nat) (d':Array Int),st=((i:Int),(5:Int)-(s:Int),())/\s<=5/\a+1<=i/\i<=b/\Dtw w' g rest d'/\d'.size=n/\Go.Sort.partialIns ltI a b s i d'=pp/\Fr w.heap.size (·=g) w w') 5
  ⟨a+1,d,rfl,Nat.le_refl _,Nat.le_refl _,by omega,hD,hn.symm,hgoal,Fr.refl _ _ _⟩ ?_
 rintro s _ w1 ⟨i0,d1,rfl,hs,hi0,hib,hD1,hn1,he,hF⟩ next hnext
 dsimp only
 refine zg (λh=>?_) (λh=>?_)
 ·obtain⟨s,rfl⟩:∃m,s=m+1:=⟨s-1,by omega⟩
  rw[show IntKind.i64.wrap ((5:Int)-((s+1:Nat):Int)+1)=(5:Int)-(s:Int) by rw[zy (by omega) (by omega)];omega]
  refine zk.cut (λ(st:Int×Unit) w'=>∃(i:Nat) (d':Array Int),st=((i:Int),())/\a+1<=i/\i<=b/\Dtw w' g rest d'/\d'.size=n/\Go.Sort.partialIns ltI a b s i d'=pp/\Fr w.heap.size (·=g) w w') ?_ ?_
  rotate_left
  ·rintro _ w2 ⟨i,d2,rfl,q1,q2,q3,q4,q5,q6⟩
   exact hnext s _ _ (by omega) ⟨i,d2,rfl,by omega,q1,q2,q3,q4,q5,q6⟩
  refine zk.cut (λ(st:Int×Unit) w'=>∃i:Nat,st=((i:Int),())/\i=Go.Sort.scanSorted ltI d1 b i0/\a+1<=i/\i<=b/\Dtw w' g rest d1/\Fr w.heap.size (·=g) w w') ?_ ?_
  ·refine zj.ghost (λk (st:Int×Unit) w'=>∃i:Nat,st=((i:Int),())/\k=b-i/\a+1<=i/\i<=b/\Go.Sort.scanSorted ltI d1 b i=Go.Sort.scanSorted ltI d1 b i0/\Dtw w' g rest d1/\Fr w.heap.size (·=g) w w') (b-i0)
    ⟨i0,rfl,rfl,hi0,hib,rfl,hD1,hF⟩ ?_
   rintro _ _ wq ⟨i,rfl,rfl,q1,q2,hsc,hDq,hFq⟩ nextq hnextq
   dsimp only
   have ei:IntKind.i64.wrap ((i:Int)-1)=((i-1:Nat):Int):=wr64 (by omega) (by omega)
   rw[ei]
   refine zk.cut (λ_ w'=>i<b/\ltI d1[i]! d1[i-1]! =false/\Dtw w' g rest d1/\Fr w.heap.size (·=g) w w') ?_ ?_
   ·refine zg (λh=>?_) (λh=>?_)
    ·have hib':i<b:=by omega
     refine hDq.drew.at rfl (by omega) hn1.symm (hDq.drew.at rfl (by omega) hn1.symm (yr ⟨_,rfl,?_⟩))
     refine zI (zn (λhb=>?_) (λhb=>⟨hib',hb,hDq.drew,hFq.drew⟩))
     exact⟨i,rfl,by rw[<-hsc,ziQ (.inr hb)],q1,q2,hDq.drew,hFq.drew⟩
    ·exact⟨i,rfl,by rw[<-hsc,ziQ (.inl (by omega))],q1,q2,hDq.drew,hFq.drew⟩
   ·rintro _ wr ⟨hib',hb,hDr,hFr⟩
    rw[zr (by omega)]
    exact hnextq (b-(i+1)) _ _ (by omega) ⟨i+1,rfl,rfl,by omega,by omega,by rw[<-hsc,zp0 hib' hb],hDr,hFr⟩
  rintro _ w2 ⟨i,rfl,ei,q1,q2,hD2,hF2⟩
  dsimp only
  have hps:Go.Sort.partialIns ltI a b (s+1) i0 d1=(if i=b then(d1,true) else if b-a<50 then(d1,false) else
    Go.Sort.partialIns ltI a b s i (if b-i≥2 then Go.Sort.shiftUp ltI b (i+1) (if i-a≥2 then Go.Sort.shiftDown ltI (i-1) (Go.Sort.swp d1 i (i-1)) else Go.Sort.swp d1 i (i-1)) else(if i-a≥2 then Go.Sort.shiftDown ltI (i-1) (Go.Sort.swp d1 i (i-1)) else Go.Sort.swp d1 i (i-1)))):=by
   rw[ei];rfl
  rw[hps]at he
  refine zm (λe=>?_) (λe=>?_)
  ·rw[if_pos (by omega)]at he
   subst he
   exact hR w2 hD2 hF2
  have hib2:i<b:=by omega
  rw[if_neg (by omega)]at he
  refine zg (λh5=>?_) (λh5=>?_)
  ·rw[if_pos (by omega)]at he
   subst he
   exact hR w2 hD2 hF2
  rw[if_neg (by omega)]at he
  have ei1:IntKind.i64.wrap ((i:Int)-1)=((i-1:Nat):Int):=wr64 (by omega) (by omega)
  have eia:IntKind.i64.wrap ((i:Int)-(a:Int))=((i-a:Nat):Int):=wr64 (by omega) (by omega)
  have ebi:IntKind.i64.wrap ((b:Int)-(i:Int))=((b-i:Nat):Int):=wr64 (by omega) (by omega)
  have ei2:IntKind.i64.wrap ((i:Int)+1)=((i+1:Nat):Int):=wr64 (by omega) (by omega)
  rw[ei1,eia,ebi,ei2]
  refine hD2.swap (i:=i-1) (j:=i) rfl rfl (by omega) (by omega) hn1.symm λw3 hD3 c3=>?_
  have hF3:=hF2.chg c3 (.inl rfl)
  have hn3:(Go.Sort.swp d1 i (i-1)).size=n:=by rw[Go.Sort.size_swp];exact hn1
  generalize Go.Sort.swp d1 i (i-1)=d3 at hD3 hn3 he
  refine zk.cut (λ_ w'=>∃d4,Dtw w' g rest d4/\d4.size=n/\d4=(if i-a≥2 then Go.Sort.shiftDown ltI (i-1) d3 else d3)/\Fr w.heap.size (·=g) w w') ?_ ?_
  ·refine zg (λh2=>?_) (λh2=>?_)
   ·rw[if_pos (by omega)]
    refine zj.ghost (λk (st:Int×Unit) w'=>∃d':Array Int,st=((k:Int),())/\k<i/\Dtw w' g rest d'/\d'.size=n/\Go.Sort.shiftDown ltI k d'=Go.Sort.shiftDown ltI (i-1) d3/\Fr w.heap.size (·=g) w w') (i-1)
     ⟨d3,rfl,by omega,hD3,hn3,rfl,hF3⟩ ?_
    rintro j _ wq ⟨dq,rfl,hji,hDq,hnq,hsq,hFq⟩ nextq hnextq
    dsimp only
    refine zg (λh=>?_) (λh=>?_)
    ·obtain⟨m,rfl⟩:∃m,j=m+1:=⟨j-1,by omega⟩
     have em:IntKind.i64.wrap (((m+1:Nat):Int)-1)=(m:Int):=wr64 (by omega) (by omega)
     rw[em]
     refine hDq.drew.at rfl (by omega) hnq.symm (hDq.drew.at rfl (by omega) hnq.symm (yr ⟨_,rfl,?_⟩))
     refine zI (zn (λhb=>?_) (λhb=>⟨dq,hDq.drew,hnq,by rw[<-hsq,zl9 (.inr hb)],hFq.drew⟩))
     refine hDq.drew.swap (i:=m) (j:=m+1) rfl rfl (by omega) (by omega) hnq.symm λwr hDr cr=>?_
     exact hnextq m _ _ (by omega) ⟨_,rfl,by omega,hDr,by rw[Go.Sort.size_swp];exact hnq,by rw[<-hsq,zqU hb],hFq.drew.chg cr (.inl rfl)⟩
    ·exact⟨dq,hDq,hnq,by rw[<-hsq,zl9 (.inl (by omega))],hFq⟩
   ·rw[if_neg (by omega)]
    exact⟨d3,hD3,hn3,rfl,hF3⟩
  rintro _ w4 ⟨d4,hD4,hn4,e4,hF4⟩
  rw[<-e4]at he
  clear e4
  refine zg (λh2=>?_) (λh2=>?_)
  ·rw[if_pos (by omega)]at he
   refine zj.ghost (λk (st:Int×Unit) w'=>∃(j:Nat) (d':Array Int),st=((j:Int),())/\k=b-j/\i<j/\Dtw w' g rest d'/\d'.size=n/\Go.Sort.shiftUp ltI b j d'=Go.Sort.shiftUp ltI b (i+1) d4/\Fr w.heap.size (·=g) w w') (b-(i+1))
    ⟨i+1,d4,rfl,rfl,by omega,hD4,hn4,rfl,hF4⟩ ?_
   rintro _ _ wq ⟨j,dq,rfl,rfl,hij,hDq,hnq,hsq,hFq⟩ nextq hnextq
   dsimp only
   refine zg (λh=>?_) (λh=>?_)
   ·have em:IntKind.i64.wrap ((j:Int)-1)=((j-1:Nat):Int):=wr64 (by omega) (by omega)
    rw[em]
    refine hDq.drew.at rfl (by omega) hnq.symm (hDq.drew.at rfl (by omega) hnq.symm (yr ⟨_,rfl,?_⟩))
    refine zI (zn (λhb=>?_) (λhb=>⟨i,dq,rfl,q1,q2,hDq.drew,hnq,?_,hFq.drew⟩))
    ·refine hDq.drew.swap (i:=j-1) (j:=j) rfl rfl (by omega) (by omega) hnq.symm λwr hDr cr=>?_
     rw[zr (by omega)]
     exact hnextq (b-(j+1)) _ _ (by omega) ⟨j+1,_,rfl,rfl,by omega,hDr,by rw[Go.Sort.size_swp];exact hnq,by rw[<-hsq,zqV (by omega) hb],hFq.drew.chg cr (.inl rfl)⟩
    ·rw[<-he,<-hsq,zlA (.inr hb)]
   ·exact⟨i,dq,rfl,q1,q2,hDq,hnq,by rw[<-he,<-hsq,zlA (.inl (by omega))],hFq⟩
  ·rw[if_neg (by omega)]at he
   exact⟨i,d4,rfl,q1,q2,hD4,hn4,he,hF4⟩
 ·have hs0:s=0:=by omega
  subst hs0
  have he:(d1,false)=pp:=he
  subst he
  exact hR w1 hD1 hF
theorem zem{i j r:Nat}{s:Int}{T:TypeId}(hD:Dtw w g rest d)(hn:n=d.size)(hi:i<n)(hj:j<n)(hS:Blk w r T [.int .i64 s])(hT:T≠22)
  (hR:∀w' (p q:Nat) s',((p=i/\q=j)\/(p=j/\q=i))->Dtw w' g rest d->Blk w' r T [.int .i64 s']->Chg r w w'->R (.tuple #[.int .i64 (p:Int),.int .i64 (q:Int)]) w') :
  cR 184 #[.slice (some (blk g)) n c,.int .i64 (i:Int),.int .i64 (j:Int),.pointer (some (blk r))] w R:=by
 refine zc.of (Yk ⟨some (blk g),n,c⟩ i j (some (blk r)) R w ?_) λ_ _ h=>h
 have hne:g≠r:=Blk.apart hD hS hT.symm
 refine hD.drew.at rfl (by omega) hn (hD.drew.at rfl (by omega) hn (yr ⟨_,rfl,?_⟩))
 refine zn (λhb=>?_) (λhb=>?_)
 ·refine ze rfl (hS.drew.rI0 rfl (ze rfl ⟨hS.drew.wr0 (by simp),Nw.mk ?_⟩))
  have c1:=((Chg.refl r w).drew).trans (Chg.set r 0 w.drew (.int .i64 (IntKind.i64.wrap (s+1))))
  exact hR _ j i _ (.inr ⟨rfl,rfl⟩) (c1.blk hD hne) (hS.drew.set0 _) c1
 ·exact hR _ i j s (.inl ⟨rfl,rfl⟩) hD.drew hS.drew (Chg.refl r w).drew
theorem zh7{i j k r:Nat}{s:Int}{T:TypeId}(hD:Dtw w g rest d)(hn:n=d.size)(hi:i<n)(hj:j<n)(hk:k<n)(hS:Blk w r T [.int .i64 s])(hT:T≠22)
  (hR:∀w' (p:Nat) s',(p=i\/p=j\/p=k)->Dtw w' g rest d->Blk w' r T [.int .i64 s']->Chg r w w'->R (.int .i64 (p:Int)) w') :
  cR 165 #[.slice (some (blk g)) n c,.int .i64 (i:Int),.int .i64 (j:Int),.int .i64 (k:Int),.pointer (some (blk r))] w R:=by
 refine zc.of (Yj ⟨some (blk g),n,c⟩ i j k (some (blk r)) R w ?_) λ_ _ h=>h
 refine zem (n:=n) (c:=c) hD hn hi hj hS hT λw1 a1 b1 s1 h1 hD1 hS1 c1=>⟨_,_,rfl,?_⟩
 refine zem (n:=n) (c:=c) hD1 hn (i:=b1) (j:=k) (by omega) hk hS1 hT λw2 a2 b2 s2 h2 hD2 hS2 c2=>⟨_,_,rfl,?_⟩
 refine zem (n:=n) (c:=c) hD2 hn (i:=a1) (j:=a2) (by omega) (by omega) hS2 hT λw3 a3 b3 s3 h3 hD3 hS3 c3=>⟨_,_,rfl,?_⟩
 exact hR w3 b3 s3 (by omega) hD3 hS3 ((c1.trans c2).trans c3)
theorem zcS{i r:Nat}{s:Int}{T:TypeId}(hD:Dtw w g rest d)(hn:n=d.size)(hmax:n<=35184372088832)(h0:0<i)(hi:i+1<n)(hS:Blk w r T [.int .i64 s])(hT:T≠22)
  (hR:∀w' (p:Nat) s',(i-1<=p/\p<=i+1)->Dtw w' g rest d->Blk w' r T [.int .i64 s']->Chg r w w'->R (.int .i64 (p:Int)) w') :
  cR 164 #[.slice (some (blk g)) n c,.int .i64 (i:Int),.pointer (some (blk r))] w R:=by
 refine zc.of (Zp ⟨some (blk g),n,c⟩ i (some (blk r)) R w ?_) λ_ _ h=>h
 have e1:IntKind.i64.wrap ((i:Int)-1)=((i-1:Nat):Int):=wr64 (by omega) (by omega)
 have e2:IntKind.i64.wrap ((i:Int)+1)=((i+1:Nat):Int):=wr64 (by omega) (by omega)
 unfold zQ
 rw[e1,e2]
 refine zh7 (n:=n) (c:=c) hD hn (by omega) (by omega) (by omega) hS hT λw1 p s1 hp hD1 hS1 c1=>⟨_,rfl,?_⟩
 exact hR w1 p s1 (by omega) hD1 hS1 c1
theorem zm0{a b:Nat}(hD:Dtw w g rest d)(hn:n=d.size)(hmax:n<=35184372088832)(hab:a<b)(hb:b<=n)
  (hR:∀w' (p:Nat) h,a<=p->p<b->Dtw w' g rest d->Fr w.heap.size (·=g) w w'->R (.tuple #[.int .i64 (p:Int),.int .i64 h]) w') :
  cR 130 #[.slice (some (blk g)) n c,.int .i64 (a:Int),.int .i64 (b:Int)] w R:=by
 refine zc.of (Z1 ⟨some (blk g),n,c⟩ a b R w ?_) λ_ _ h=>h
 have eba:IntKind.i64.wrap ((b:Int)-(a:Int))=((b-a:Nat):Int):=wr64 (by omega) (by omega)
 generalize hl:b-a=l at eba
 have e4:IntKind.i64.wrap (Int.tdiv (l:Int) 4)=((l / 4:Nat):Int):=wr64 (by rw[Int.tdiv_eq_ediv_of_nonneg (by omega)];omega) (by omega)
 generalize hq:l / 4=q at e4
 have m1:IntKind.i64.wrap ((q:Int)*1)=(q:Int):=wr64 (by omega) (by omega)
 have m2:IntKind.i64.wrap ((q:Int)*2)=((q*2:Nat):Int):=wr64 (by omega) (by omega)
 have m3:IntKind.i64.wrap ((q:Int)*3)=((q*3:Nat):Int):=wr64 (by omega) (by omega)
 have a1:IntKind.i64.wrap ((a:Int)+(q:Int))=((a+q:Nat):Int):=wr64 (by omega) (by omega)
 have a2:IntKind.i64.wrap ((a:Int)+((q*2:Nat):Int))=((a+q*2:Nat):Int):=wr64 (by omega) (by omega)
 have a3:IntKind.i64.wrap ((a:Int)+((q*3:Nat):Int))=((a+q*3:Nat):Int):=wr64 (by omega) (by omega)
 unfold zV
 rw[eba,e4,m1,m2,m3,a1,a2,a3]
 refine zl λw1 hS1 b1 z1=>?_
 have hD1:=hD.below b1
 have hT:3≠22:=by decide
 have hgl:=hD.lt
 refine zk.cut (λ(st:Int×Unit) w'=>∃(p:Nat) (s:Int),st=((p:Int),())/\a<=p/\p<b/\Dtw w' g rest d/\Blk w' w.heap.size 3 [.int .i64 s]/\Chg w.heap.size w1 w') ?_ ?_
 ·refine zg (λh8=>?_) (λh8=>?_)
  ·refine zk.cut (λ(st:Int×Int×Int×Unit) w'=>∃(i j k:Nat) (s:Int),st=((i:Int),(j:Int),(k:Int),())/\(a<=i/\i<b)/\(a<=j/\j<b)/\(a<=k/\k<b)/\Dtw w' g rest d/\Blk w' w.heap.size 3 [.int .i64 s]/\Chg w.heap.size w1 w') ?_ ?_
   ·refine zg (λh50=>?_) (λh50=>?_)
    ·refine zcS (n:=n) (c:=c) hD1 hn hmax (by omega) (by omega) hS1 hT λw2 p1 s2 hp1 hD2 hS2 c2=>⟨_,rfl,?_⟩
     refine zcS (n:=n) (c:=c) hD2 hn hmax (by omega) (by omega) hS2 hT λw3 p2 s3 hp2 hD3 hS3 c3=>⟨_,rfl,?_⟩
     refine zcS (n:=n) (c:=c) hD3 hn hmax (by omega) (by omega) hS3 hT λw4 p3 s4 hp3 hD4 hS4 c4=>⟨_,rfl,?_⟩
     exact⟨p1,p2,p3,s4,rfl,by omega,by omega,by omega,hD4,hS4,(c2.trans c3).trans c4⟩
    ·exact⟨a+q,a+q*2,a+q*3,0,rfl,by omega,by omega,by omega,hD1,hS1,Chg.refl _ _⟩
   ·rintro _ w2 ⟨i,j,k,s,rfl,hi,hj,hk,hD2,hS2,c2⟩
    refine zh7 (n:=n) (c:=c) hD2 hn (i:=i) (j:=j) (k:=k) (by omega) (by omega) (by omega) hS2 hT λw3 p s3 hp hD3 hS3 c3=>⟨_,rfl,?_⟩
    exact⟨p,s3,rfl,by omega,by omega,hD3,hS3,c2.trans c3⟩
  ·exact⟨a+q*2,0,rfl,by omega,by omega,hD1,hS1,Chg.refl _ _⟩
 ·rintro _ w2 ⟨p,s,rfl,hp1,hp2,hD2,hS2,c2⟩
  have hF:Fr w.heap.size (·=g) w w2:=(Fr.of_below b1).chg c2 (.inr (Nat.le_refl _))
  refine hS2.rI0 rfl (zm (λ_=>hR w2 p _ hp1 hp2 hD2 hF) (λ_=>zm (λ_=>hR w2 p _ hp1 hp2 hD2 hF) (λ_=>hR w2 p _ hp1 hp2 hD2 hF)))
end
end Go.Proofs
namespace Go.Proofs
open Go.Gk Go.RowKit
abbrev zmo:ByteArray:=BM #[0,1,2,2,3,3,3,3,4,4,4,4,4,4,4,4,5,5,5,5,5,5,5,5,5,5,5,5,5,5,5,5,6,6,6,6,6,6,6,6,6,6,6,6,6,6,6,6,6,6,6,6,6,6,6,6,6,6,6,6,6,6,6,6,7,7,7,7,7,7,7,7,7,7,7,7,7,7,7,7,7,7,7,7,7,7,7,7,7,7,7,7,7,7,7,7,7,7,7,7,7,7,7,7,7,7,7,7,7,7,7,7,7,7,7,7,7,7,7,7,7,7,7,7,7,7,7,7,8,8,8,8,8,8,8,8,8,8,8,8,8,8,8,8,8,8,8,8,8,8,8,8,8,8,8,8,8,8,8,8,8,8,8,8,8,8,8,8,8,8,8,8,8,8,8,8,8,8,8,8,8,8,8,8,8,8,8,8,8,8,8,8,8,8,8,8,8,8,8,8,8,8,8,8,8,8,8,8,8,8,8,8,8,8,8,8,8,8,8,8,8,8,8,8,8,8,8,8,8,8,8,8,8,8,8,8,8,8,8,8,8,8,8,8,8,8,8,8,8,8,8,8,8,8,8,8]
theorem zn3:((List.range 256).all λm=>decide ((zmo.data.getD m 0).toNat<=8)&&(m==0||decide (2 ^ (zmo.data.getD m 0).toNat<=2*m)))=true:=by decide +kernel
theorem zn2{m:Nat}(hm:m<256):∃t:Nat,za8 zmo (m:Int)=(t:Int)/\t<=8/\(0<m->2 ^ t<=2*m):=by
 have h:=List.all_eq_true.1 zn3 m (List.mem_range.2 hm)
 rw[Bool.and_eq_true,decide_eq_true_eq,Bool.or_eq_true,decide_eq_true_eq,beq_iff_eq]at h
 exact⟨_,rfl,h.1,λh0=>h.2.resolve_left (by omega)⟩
theorem zo0(x k:Nat)(hk:k<64):Int.fdiv (x:Int) (2 ^ (min k (IntKind.bits .u64)))=((x / 2 ^ k:Nat):Int):=by
 have hm:min k (IntKind.bits .u64)=k:=by rw[show IntKind.bits .u64=64 from rfl];omega
 rw[hm,show((2:Int) ^ k)=((2 ^ k:Nat):Int) by simp,Int.ofNat_fdiv]
theorem ziT{x m L k:Nat}(h:0<x->0<m/\2 ^ L*m<=x)(hm:2 ^ k<=m):0<x->0<m / 2 ^ k/\2 ^ (L+k)*(m / 2 ^ k)<=x:=λhx=>by
 obtain⟨h1,h2⟩:=h hx
 refine⟨Nat.div_pos hm (Nat.two_pow_pos k),?_⟩
 rw[Nat.pow_add,Nat.mul_assoc]
 exact Nat.le_trans (Nat.mul_le_mul_left _ (Nat.mul_div_le m (2 ^ k))) h2
section
variable {w:World} {R:VWP}
theorem zlO{x:Nat}(hx:x<=70368744177664)(hR:∀L:Nat,L<=64->(0<x->2 ^ L<=2*x)->R (.int .i64 (L:Int)) w):cR 137 #[.int .u64 (x:Int)] w R:=by
 refine zc.of (zdF x R w ?_) λ_ _ h=>h
 refine zk.cut (λ(st:Int×Int×Unit) w'=>w'=w/\∃m L:Nat,st=((m:Int),(L:Int),())/\m<2 ^ 32/\L<=32/\(0<x->0<m/\2 ^ L*m<=x)) ?_ ?_
 ·refine zg (λh=>?_) (λh=>?_)
  ·rw[zo0 x 32 (by decide)]
   exact⟨rfl,x / 2 ^ 32,32,rfl,by omega,Nat.le_refl _,by have:=ziT (x:=x) (m:=x) (L:=0) (k:=32) (λh=>⟨h,by omega⟩) (by omega);simpa using this⟩
  ·exact⟨rfl,x,0,rfl,by omega,by omega,λh=>⟨h,by omega⟩⟩
 rintro _ w ⟨rfl,m1,L1,rfl,h1,h2,h3⟩
 refine zk.cut (λ(st:Int×Int×Unit) w'=>w'=w/\∃m L:Nat,st=((m:Int),(L:Int),())/\m<2 ^ 16/\L<=48/\(0<x->0<m/\2 ^ L*m<=x)) ?_ ?_
 ·refine zg (λh=>?_) (λh=>?_)
  ·dsimp only at h⊢
   rw[zo0 m1 16 (by decide)]
   have e:IntKind.i64.wrap ((L1:Int)+16)=((L1+16:Nat):Int):=by rw[zy (by omega) (by omega)];omega
   rw[e]
   exact⟨rfl,m1 / 2 ^ 16,L1+16,rfl,by omega,by omega,ziT h3 (by omega)⟩
  ·exact⟨rfl,m1,L1,rfl,by dsimp only at h;omega,by omega,h3⟩
 rintro _ w ⟨rfl,m2,L2,rfl,h4,h5,h6⟩
 refine zk.cut (λ(st:Int×Int×Unit) w'=>w'=w/\∃m L:Nat,st=((m:Int),(L:Int),())/\m<2 ^ 8/\L<=56/\(0<x->0<m/\2 ^ L*m<=x)) ?_ ?_
 ·refine zg (λh=>?_) (λh=>?_)
  ·dsimp only at h⊢
   rw[zo0 m2 8 (by decide)]
   have e:IntKind.i64.wrap ((L2:Int)+8)=((L2+8:Nat):Int):=by rw[zy (by omega) (by omega)];omega
   rw[e]
   exact⟨rfl,m2 / 2 ^ 8,L2+8,rfl,by omega,by omega,ziT h6 (by omega)⟩
  ·exact⟨rfl,m2,L2,rfl,by dsimp only at h;omega,by omega,h6⟩
 rintro _ w ⟨rfl,m3,L3,rfl,h7,h8,h9⟩
 dsimp only
 have e8:IntKind.u8.wrap (m3:Int)=(m3:Int):=by rw[IntKind.wrap_u8];omega
 rw[e8]
 obtain⟨t,ht,ht8,htm⟩:=zn2 (m:=m3) (by omega)
 refine⟨⟨by omega,Int.lt_of_lt_of_le (b:=256) (by omega) (by decide +kernel)⟩,?_⟩
 ·rw[ht,zy (x:=(t:Int)) (by omega) (by omega)]
  have e:IntKind.i64.wrap ((L3:Int)+(t:Int))=((L3+t:Nat):Int):=by rw[zy (by omega) (by omega)];omega
  rw[e]
  refine hR (L3+t) (by omega) λhx0=>?_
  obtain⟨k1,k2⟩:=h9 hx0
  have:=htm k1
  rw[Nat.pow_add]
  calc 2 ^ L3*2 ^ t<=2 ^ L3*(2*m3):=Nat.mul_le_mul_left _ this
   _=2*(2 ^ L3*m3):=by rw[Nat.mul_left_comm]
   _<=2*x:=Nat.mul_le_mul_left _ k2
theorem zil{x:Nat}(hx:x<=70368744177664)(hR:∀L:Nat,L<=64->(0<x->2 ^ L<=2*x)->R (.int .i64 (L:Int)) w):cR 99 #[.int .u64 (x:Int)] w R:=by
 refine zc.of (zeP x R w ?_) λ_ _ h=>h
 exact zlO hx λL h1 h2=>⟨_,rfl,hR L h1 h2⟩
theorem zlI{x:Nat}(hx:x<=9223372036854775807):IntKind.u64.wrap (x:Int)=(x:Int):=by
 rw[IntKind.wrap_u64]
 exact Int.emod_eq_of_lt (by omega) (by omega)
theorem zkv{x:Nat}(h0:0<x)(hx:x<=35184372088832)(hR:∀L:Nat,2 ^ L<=2*x->R (.int .u64 ((2 ^ L:Nat):Int)) w):cR 162 #[.int .i64 (x:Int)] w R:=by
 refine zc.of (zaJ x R w ?_) λ_ _ h=>h
 unfold yV
 rw[zlI (by omega)]
 refine zil (by omega) λL h1 h2=>⟨_,rfl,?_⟩
 have h3:=h2 h0
 refine zg (λh=>by omega) (λ_=>?_)
 have e:(1:Int)*2 ^ (min (Int.toNat (L:Int)) (IntKind.bits .u64))=((2 ^ L:Nat):Int):=by
  rw[show min (Int.toNat (L:Int)) (IntKind.bits .u64)=L by rw[show IntKind.bits .u64=64 from rfl,Int.toNat_natCast];omega]
  simp
 rw[e,zlI (by omega)]
 exact hR L h3
theorem mask{x:Int}{L:Nat}(hL:2 ^ L<=70368744177664):∃v:Nat,v<2 ^ L/\
  IntKind.i64.wrap (IntKind.u64.wrap ((BitVec.toNat (BitVec.ofInt (IntKind.bits .u64) x &&& BitVec.ofInt (IntKind.bits .u64) (IntKind.u64.wrap (((2 ^ L:Nat):Int)-1))):Nat):Int))=(v:Int):=by
 have hp:=Nat.two_pow_pos L
 have q1:((2 ^ L:Nat):Int)-1=((2 ^ L-1:Nat):Int):=by omega
 have q2:=zlI (x:=2 ^ L-1) (by omega)
 rw[q1,q2,BitVec.toNat_and]
 have hb:(BitVec.ofInt (IntKind.bits .u64) ((2 ^ L-1:Nat):Int)).toNat=2 ^ L-1:=by
  rw[BitVec.ofInt_natCast,BitVec.toNat_ofNat,show IntKind.bits .u64=64 from rfl]
  exact Nat.mod_eq_of_lt (by omega)
 rw[hb]
 have hle:=Nat.and_le_right (n:=(BitVec.ofInt (IntKind.bits .u64) x).toNat) (m:=2 ^ L-1)
 exact⟨(BitVec.ofInt (IntKind.bits .u64) x).toNat &&& (2 ^ L-1),by omega,by rw[zlI (by omega),zy (by omega) (by omega)]⟩
theorem zk4{r:Nat}{T:TypeId}{x:Int}(hS:Blk w r T [.int .u64 x])(hR:∀w' y,Blk w' r T [.int .u64 y]->Chg r w w'->R (.int .u64 y) w'):cR 163 #[.pointer (some (blk r))] w R:=by
 refine zc.of (zbv (some (blk r)) R w ?_) λ_ _ h=>h
 have one:∀{w:World} {x:Int} {v:Int->Int->Int} {K:World->Prop},Blk w r T [.int .u64 x]->(∀w' y,Blk w' r T [.int .u64 y]->Chg r w w'->K w')->
   za (some (blk r)) λa1=>ldI w.drew a1 .u64 λx2=>za (some (blk r)) λa3=>ldI w.drew a3 .u64 λx4=>za (some (blk r)) λa5=>Wr w.drew a5/\Nw (w.drew.setCell a5 (.int .u64 (v x2 x4))) K:=λhS hK=>
  ze rfl (hS.drew.rI0 rfl (ze rfl (hS.drew.rI0 rfl (ze rfl ⟨hS.drew.wr0 (by simp),Nw.mk (hK _ _ (hS.drew.set0 _) (((Chg.refl r _).drew).trans (Chg.set r 0 _ _)))⟩))))
 refine one (v:=λx2 x4=>IntKind.u64.wrap ((BitVec.toNat (BitVec.ofInt (IntKind.bits .u64) x2 ^^^ BitVec.ofInt (IntKind.bits .u64) (IntKind.u64.wrap (x4*2 ^ (min 13 (IntKind.bits .u64))))):Nat):Int)) hS λw1 y1 hS1 c1=>?_
 refine one (v:=λx2 x4=>IntKind.u64.wrap ((BitVec.toNat (BitVec.ofInt (IntKind.bits .u64) x2 ^^^ BitVec.ofInt (IntKind.bits .u64) (Int.fdiv x4 (2 ^ (min 7 (IntKind.bits .u64))))):Nat):Int)) hS1 λw2 y2 hS2 c2=>?_
 refine one (v:=λx2 x4=>IntKind.u64.wrap ((BitVec.toNat (BitVec.ofInt (IntKind.bits .u64) x2 ^^^ BitVec.ofInt (IntKind.bits .u64) (IntKind.u64.wrap (x4*2 ^ (min 17 (IntKind.bits .u64))))):Nat):Int)) hS2 λw3 y3 hS3 c3=>?_
 exact ze rfl (hS3.rI0 rfl (hR w3 y3 hS3 ((c1.trans c2).trans c3)))
end
section
variable {w:World} {g n c:Nat} {rest:List Value} {d:Array Int} {R:VWP}
theorem zlW{a b:Nat}(hD:Dtw w g rest d)(hn:n=d.size)(hmax:n<=35184372088832)(hab:a<b)(hb:b<=n)
  (hR:∀w' d',Dtw w' g rest d'->Go.Sort.PermIn a b d d'->Fr w.heap.size (·=g) w w'->R (.tuple #[]) w') :
  cR 129 #[.slice (some (blk g)) n c,.int .i64 (a:Int),.int .i64 (b:Int)] w R:=by
 refine zc.of (Zu ⟨some (blk g),n,c⟩ a b R w ?_) λ_ _ h=>h
 have eba:IntKind.i64.wrap ((b:Int)-(a:Int))=((b-a:Nat):Int):=wr64 (by omega) (by omega)
 generalize hl:b-a=l at eba
 unfold zS
 rw[eba]
 refine zg (λh8=>?_) (λh8=>hR w d hD (Go.Sort.permIn_refl d a b) (Fr.refl _ _ _))
 have e4:IntKind.i64.wrap (Int.tdiv (l:Int) 4)=((l / 4:Nat):Int):=wr64 (by rw[Int.tdiv_eq_ediv_of_nonneg (by omega)];omega) (by omega)
 generalize hq:l / 4=q at e4
 have m2:IntKind.i64.wrap ((q:Int)*2)=((q*2:Nat):Int):=wr64 (by omega) (by omega)
 have a2:IntKind.i64.wrap ((a:Int)+((q*2:Nat):Int))=((a+q*2:Nat):Int):=wr64 (by omega) (by omega)
 have a3:IntKind.i64.wrap (((a+q*2:Nat):Int)+1)=((a+q*2+1:Nat):Int):=wr64 (by omega) (by omega)
 have a4:IntKind.i64.wrap (((a+q*2:Nat):Int)-1)=((a+q*2-1:Nat):Int):=wr64 (by omega) (by omega)
 rw[e4,m2,a2,a3,a4]
 refine Nw.gen λw1 e1=>?_
 have hS1:∃T,T=239/\Blk w1 w.heap.size T [.int .u64 0]:=⟨_,rfl,by rw[e1];exact Blk.new _ _ _⟩
 obtain⟨T,hT,hS1⟩:=hS1
 have hT':T≠22:=by rw[hT];decide
 clear hT
 have b1:Below w.heap.size w w1:=by rw[e1];exact(Below.refl _ _).alloc (Nat.le_refl _) _
 clear e1
 have hgl:=hD.lt
 refine⟨hS1.wr0 (by simp),Nw.gen λw2 e2=>?_⟩
 have c2:Chg w.heap.size w1 w2:=by rw[e2];exact Chg.set w.heap.size 0 w1 _
 have hS2:Blk w2 w.heap.size T [.int .u64 (IntKind.u64.wrap (l:Int))]:=by rw[e2];exact hS1.set0 _
 clear e2
 have hD2:=c2.blk (hD.below b1) (by omega)
 have hF2:Fr w.heap.size (·=g) w w2:=(Fr.of_below b1).chg c2 (.inr (Nat.le_refl _))
 refine zkv (by omega) (by omega) λL hL=>⟨_,rfl,?_⟩
 refine zj.ghost (λk (st:Int×Unit) w'=>∃(i:Nat) (d':Array Int) (x:Int),st=((i:Int),())/\k=a+q*2+2-i/\a<=i/\i<=a+q*2+2/\Dtw w' g rest d'/\Go.Sort.PermIn a b d d'/\Blk w' w.heap.size T [.int .u64 x]/\Fr w.heap.size (·=g) w w') (a+q*2+2-(a+q*2-1))
  ⟨a+q*2-1,d,_,rfl,rfl,by omega,by omega,hD2,Go.Sort.permIn_refl d a b,hS2,hF2⟩ ?_
 rintro _ _ w3 ⟨i,d3,x3,rfl,rfl,hi1,hi2,hD3,hP3,hS3,hF3⟩ next hnext
 dsimp only
 have hn3:d3.size=n:=by rw[hP3.1];exact hn.symm
 refine zg (λh=>?_) (λh=>hR w3 d3 hD3 hP3 hF3)
 refine zk4 hS3 λw4 y hS4 c4=>⟨_,rfl,?_⟩
 have hD4:=c4.blk hD3 (Blk.apart hD3 hS3 hT'.symm)
 have hF4:=hF3.chg c4 (.inr (Nat.le_refl _))
 obtain⟨v,hv,ev⟩:=mask (x:=y) (L:=L) (by omega)
 dsimp only[zB,Go.Gk.Sl.zw,zi,zu,zb,zh];rw[ev]
 refine zk.cut (λ(st:Int×Unit) w'=>w'=w4/\∃o:Nat,st=((o:Int),())/\o<l) ?_ ?_
 ·refine zg (λh=>?_) (λh=>?_)
  ·rw[wr64 (x:=(v:Int)-(l:Int)) (k:=v-l) (by omega) (by omega)]
   exact⟨rfl,v-l,rfl,by omega⟩
  ·exact⟨rfl,v,rfl,by omega⟩
 ·rintro _ _ ⟨rfl,o,rfl,ho⟩
  dsimp only
  have eo:IntKind.i64.wrap ((a:Int)+(o:Int))=((a+o:Nat):Int):=wr64 (by omega) (by omega)
  rw[eo]
  refine Dtw.swap (hD4) (i:=a+o) (j:=i) rfl rfl (by omega) (by omega) hn3.symm λw5 hD5 c5=>?_
  rw[zr (by omega)]
  refine hnext (a+q*2+2-(i+1)) _ _ (by omega) ⟨i+1,_,y,rfl,rfl,by omega,by omega,hD5,?_,c5.blk hS4 (Ne.symm (Blk.apart hD3 hS3 hT'.symm)),hF4.chg c5 (.inl rfl)⟩
  exact Go.Sort.permIn_trans _ _ _ a b hP3 (Go.Sort.swp_permIn d3 a b i (a+o) (by omega) (by omega) (by omega) (by omega) (by omega))
theorem zpr:∀(N a b:Nat) (lim:Int) (w:World) (d:Array Int) (R:VWP),b-a<=N->Dtw w g rest d->n=d.size->n<=35184372088832->a<=b->b<=n->Go.Sort.Below ltI a b d->
  (∀w' d',Dtw w' g rest d'->Go.Sort.PermIn a b d d'->Go.Sort.SortedIn ltI a b d'->Fr w.heap.size (·=g) w w'->R (.tuple #[]) w')->
  cR 98 #[.slice (some (blk g)) n c,.int .i64 (a:Int),.int .i64 (b:Int),.int .i64 lim] w R:=by
 intro N
 induction N with
 |zero=>
  intro a b lim w d R hN hD hn hmax hab hb hB hR
  refine zc.of (zW ⟨some (blk g),n,c⟩ a b lim R w ?_) λ_ _ h=>h
  refine zj.ghost (λ_ st w'=>st=((a:Int),(b:Int),lim,true,true,())/\w'=w) 0 ⟨rfl,rfl⟩ ?_
  rintro _ _ w1 ⟨rfl,rfl⟩ next _
  dsimp only
  have e:IntKind.i64.wrap ((b:Int)-(a:Int))=((b-a:Nat):Int):=wr64 (by omega) (by omega)
  rw[e]
  refine zg (λh=>?_) (λh=>by omega)
  refine zj6 hD hn hmax hab hb λw2 hD2 hF2=>⟨rfl,?_⟩
  obtain⟨p1,p2⟩:=Go.Sort.insertionSort_holds Go.Sort.swo_ltInt d a b hab (by omega)
  exact hR w2 _ hD2 p1 p2 hF2
 |succ N ih=>
  intro a0 b0 lim0 w d0 R hN hD0 hn0 hmax hab0 hb0 hB0 hR
  refine zc.of (zW ⟨some (blk g),n,c⟩ a0 b0 lim0 R w ?_) λ_ _ h=>h
  refine zj.ghost (λk (st:Int×Int×Int×Bool×Bool×Unit) w'=>∃(a b:Nat) (lim:Int) (wb wp:Bool) (d:Array Int),st=((a:Int),(b:Int),lim,wb,wp,())/\k=b-a/\b-a<=N+1/\a<=b/\b<=n/\Dtw w' g rest d/\d.size=n/\Go.Sort.Below ltI a b d/\
   (∀D,Go.Sort.PermIn a b d D->Go.Sort.SortedIn ltI a b D->Go.Sort.PermIn a0 b0 d0 D/\Go.Sort.SortedIn ltI a0 b0 D)/\Fr w.heap.size (·=g) w w') (b0-a0)
   ⟨a0,b0,lim0,true,true,d0,rfl,rfl,hN,hab0,hb0,hD0,hn0.symm,hB0,λD h1 h2=>⟨h1,h2⟩,Fr.refl _ _ _⟩ ?_
  rintro _ _ w1 ⟨a,b,lim,wb,wp,d,rfl,rfl,hk,hab,hb,hD,hn,hB,hC,hF⟩ next hnext
  dsimp only
  have e:IntKind.i64.wrap ((b:Int)-(a:Int))=((b-a:Nat):Int):=wr64 (by omega) (by omega)
  rw[e]
  refine zg (λh=>?_) (λh12=>?_)
  ·refine zj6 hD hn.symm hmax hab hb λw2 hD2 hF2=>⟨rfl,?_⟩
   obtain⟨p1,p2⟩:=Go.Sort.insertionSort_holds Go.Sort.swo_ltInt d a b hab (by omega)
   obtain⟨q1,q2⟩:=hC _ p1 p2
   exact hR w2 _ hD2 q1 q2 (hF.onto hF2 hF.size)
  have h12:12<b-a:=by omega
  refine zm (λ_=>?_) (λ_=>?_)
  ·refine znw hD hn.symm hmax (by omega) hb λw2 hD2 hF2=>⟨rfl,?_⟩
   obtain⟨p1,p2⟩:=Go.Sort.heapSort_holds Go.Sort.swo_ltInt d a b hab (by omega)
   obtain⟨q1,q2⟩:=hC _ p1 p2
   exact hR w2 _ hD2 q1 q2 (hF.onto hF2 hF.size)
  refine zk.cut (λ_ w'=>∃d1,Dtw w' g rest d1/\Go.Sort.PermIn a b d d1/\Fr w.heap.size (·=g) w w') ?_ ?_
  ·refine zI (zn (λ_=>⟨d,hD,Go.Sort.permIn_refl d a b,hF⟩) (λ_=>?_))
   exact zlW hD hn.symm hmax (by omega) hb λw2 d2 hD2 hP2 hF2=>⟨rfl,d2,hD2,hP2,hF.onto hF2 hF.size⟩
  rintro⟨lim1,_⟩ w2 ⟨d1,hD1,hP1,hF1⟩
  have hn1:d1.size=n:=by rw[hP1.1];exact hn
  have hB1:=hB.perm (by omega) hP1
  dsimp only
  refine zm0 hD1 hn1.symm hmax (by omega) hb λw3 pv hint hp1 hp2 hD1' hF3=>⟨_,_,rfl,?_⟩
  have hF3:=hF1.onto hF3 hF1.size
  refine zk.cut (λ(st:Int×Int×Unit) w'=>∃(p:Nat) (h:Int) (d2:Array Int),st=((p:Int),h,())/\a<=p/\p<b/\Dtw w' g rest d2/\Go.Sort.PermIn a b d1 d2/\Fr w.heap.size (·=g) w w') ?_ ?_
  ·refine zm (λ_=>?_) (λ_=>⟨pv,hint,d1,rfl,hp1,hp2,hD1',Go.Sort.permIn_refl d1 a b,hF3⟩)
   refine zk2 hD1' hn1.symm hmax (by omega) hb λw4 hD4 hF4=>⟨rfl,?_⟩
   have e1:IntKind.i64.wrap ((b:Int)-1)=((b-1:Nat):Int):=wr64 (by omega) (by omega)
   have e2:IntKind.i64.wrap ((pv:Int)-(a:Int))=((pv-a:Nat):Int):=wr64 (by omega) (by omega)
   have e3:IntKind.i64.wrap (((b-1:Nat):Int)-((pv-a:Nat):Int))=((b-1-(pv-a):Nat):Int):=wr64 (by omega) (by omega)
   rw[e1,e2,e3]
   exact⟨b-1-(pv-a),1,_,rfl,by omega,by omega,hD4,Go.Sort.reverseRange_holds d1 a b hab (by omega),hF3.onto hF4 hF3.size⟩
  rintro _ w4 ⟨p,hi,d2,rfl,hp3,hp4,hD2,hP2,hF4⟩
  have hn2:d2.size=n:=by rw[hP2.1];exact hn1
  have hB2:=hB1.perm (by omega) hP2
  have hP02:=Go.Sort.permIn_trans _ _ _ a b hP1 hP2
  dsimp only
  refine zk.cut (λ_ w'=>∃d3,Dtw w' g rest d3/\Go.Sort.PermIn a b d2 d3/\Fr w.heap.size (·=g) w w') ?_ ?_
  ·have same:∃d3,Dtw w4 g rest d3/\Go.Sort.PermIn a b d2 d3/\Fr w.heap.size (·=g) w w4:=⟨d2,hD2,Go.Sort.permIn_refl d2 a b,hF4⟩
   refine zn (λ_=>zn (λ_=>zm (λ_=>?_) (λ_=>same)) (λ_=>same)) (λ_=>same)
   refine zk0 hD2 hn2.symm hmax (by omega) hb λw5 hD5 hF5=>⟨_,rfl,?_⟩
   obtain⟨p1,p2⟩:=Go.Sort.partialInsertionSort_holds Go.Sort.swo_ltInt d2 a b (by omega) (by omega) hB2
   refine zn (λhs=>?_) (λ_=>⟨_,hD5,p1,hF4.onto hF5 hF4.size⟩)
   obtain⟨q1,q2⟩:=hC _ (Go.Sort.permIn_trans _ _ _ a b hP02 p1) (p2 hs)
   exact hR w5 _ hD5 q1 q2 (hF4.onto hF5 hF4.size)
  rintro _ w5 ⟨d3,hD3,hP3,hF5⟩
  have hn3:d3.size=n:=by rw[hP3.1];exact hn2
  have hB3:=hB2.perm (by omega) hP3
  have hP03:=Go.Sort.permIn_trans _ _ _ a b hP02 hP3
  have hC3:∀D,Go.Sort.PermIn a b d3 D->Go.Sort.SortedIn ltI a b D->Go.Sort.PermIn a0 b0 d0 D/\Go.Sort.SortedIn ltI a0 b0 D:=λD h1 h2=>hC D (Go.Sort.permIn_trans _ _ _ a b hP03 h1) h2
  refine zk.cut (λ(st:Int×Unit) w'=>st=((a:Int),())/\Dtw w' g rest d3/\Fr w.heap.size (·=g) w w') ?_ ?_
  ·refine zg (λh=>?_) (λh=>⟨rfl,hD3.drew,hF5.drew⟩)
   have ha0:0<a:=by omega
   have e1:IntKind.i64.wrap ((a:Int)-1)=((a-1:Nat):Int):=wr64 (by omega) (by omega)
   rw[e1]
   refine hD3.drew.at rfl (by omega) hn3.symm (hD3.drew.at rfl (by omega) hn3.symm (yr ⟨_,rfl,?_⟩))
   refine zI (zn (λ_=>⟨rfl,hD3.drew,hF5.drew⟩) (λhl=>?_))
   refine zly hD3.drew hn3.symm hmax (by omega) hb hp3 hp4 λw6 hD6 hF6=>⟨_,rfl,?_⟩
   obtain⟨r1,r2,r3,r4,r5⟩:=Go.Sort.round_eq (lt:=ltI) Go.Sort.swo_ltInt (Go.Sort.partitionEqual_holds ltI) ha0 hp3 hp4 (by omega) hB3 hl (Prod.eta _).symm
   exact hnext (b-(Go.Sort.partitionEqual ltI d3 a b p).1) _ _ (by omega) ⟨_,b,lim1,wb,wp,_,rfl,rfl,by omega,r2,hb,hD6,by rw[r3];exact hn3,r4,λD h1 h2=>by
    obtain⟨s1,s2⟩:=r5 D h1 h2
    exact hC3 D s1 s2,hF5.drew.onto hF6 hF5.drew.size⟩
  rintro _ w6 ⟨rfl,hD6,hF6⟩
  dsimp only
  refine zpv hD6 hn3.symm hmax (by omega) hb hp3 hp4 λw7 hD7 hF7=>⟨_,_,rfl,?_⟩
  have hF7:=hF6.onto hF7 hF6.size
  obtain⟨r1,r2,r3,r4,r5,r6,r7⟩:=Go.Sort.round_part (lt:=ltI) Go.Sort.swo_ltInt (Go.Sort.partition_holds ltI) hp3 hp4 (by omega) hB3 (mid:=(Go.Sort.partition ltI d3 a b p).1) (ap:=(Go.Sort.partition ltI d3 a b p).2.1) (d4:=(Go.Sort.partition ltI d3 a b p).2.2) rfl
  generalize (Go.Sort.partition ltI d3 a b p).1=mid at r1 r2 r4 r5 r6 r7⊢
  generalize (Go.Sort.partition ltI d3 a b p).2.1=ap
  generalize (Go.Sort.partition ltI d3 a b p).2.2=d4 at hD7 r3 r4 r5 r6 r7
  have hn4:d4.size=n:=by rw[r3];exact hn3
  have e1:IntKind.i64.wrap ((mid:Int)+1)=((mid+1:Nat):Int):=wr64 (by omega) (by omega)
  dsimp only[zB,Go.Gk.Sl.zw,zi,zu,zb,zh];rw[e1]
  refine zg (λ_=>?_) (λ_=>?_)
  ·refine ih a mid lim1 w7 d4 _ (by omega) hD7 hn4.symm hmax r1 (by omega) r4 λw8 d8 hD8 hP8 hS8 hF8=>⟨rfl,?_⟩
   obtain⟨t1,t2⟩:=r6 d8 hP8 hS8
   exact hnext (b-(mid+1)) _ _ (by omega) ⟨mid+1,b,lim1,_,_,d8,rfl,rfl,by omega,by omega,hb,hD8,by rw[hP8.1];exact hn4,t1,λD h1 h2=>by
    obtain⟨s1,s2⟩:=t2 D h1 h2
    exact hC3 D s1 s2,hF7.onto hF8 hF7.size⟩
  ·refine ih (mid+1) b lim1 w7 d4 _ (by omega) hD7 hn4.symm hmax (by omega) hb r5 λw8 d8 hD8 hP8 hS8 hF8=>⟨rfl,?_⟩
   obtain⟨t1,t2⟩:=r7 d8 hP8 hS8
   exact hnext (mid-a) _ _ (by omega) ⟨a,mid,lim1,_,_,d8,rfl,rfl,by omega,r1,by omega,hD8,by rw[hP8.1];exact hn4,t1,λD h1 h2=>by
    obtain⟨s1,s2⟩:=t2 D h1 h2
    exact hC3 D s1 s2,hF7.onto hF8 hF7.size⟩
end
end Go.Proofs
namespace Go.Proofs
open Go.Gk Go.RowKit
section
variable {w:World} {R:VWP}
theorem zp3(hR:R (.tuple #[]) w):cR 60 #[.slice none 0 0] w R:=by
 refine zc.of (yO ⟨none,0,0⟩ R w ?_) λ_ _ h=>h
 unfold zU
 have e0:IntKind.u64.wrap (((⟨none,0,0⟩:Sl).l:Nat):Int)=((0:Nat):Int):=by decide
 rw[e0]
 refine zil (x:=0) (by omega) λL _ _=>⟨_,rfl,?_⟩
 refine zc.of (zW ⟨none,0,0⟩ 0 0 L _ w ?_) λ_ _ h=>h
 refine zj.ghost (λ_ st w'=>st=((0:Int),(0:Int),(L:Int),true,true,())/\w'=w) 0 ⟨rfl,rfl⟩ ?_
 rintro _ _ w ⟨rfl,rfl⟩ next _
 refine zH (by show decide (IntKind.i64.wrap ((0:Int)-0)<=12)=true;decide) ?_
 refine zc.of (yi ⟨none,0,0⟩ 0 0 _ w ?_) λ_ _ h=>h
 refine zj.ghost (λ_ (st:Int×Unit) w'=>st=(1,())/\w'=w) 0 ⟨rfl,rfl⟩ ?_
 rintro _ _ w ⟨rfl,rfl⟩ next _
 exact zz (by decide) ⟨rfl,rfl,hR⟩
theorem zfw{r:Sl}{T:List Int}(h:Own w 22 1 r (T.map (Value.int .u32)))(hmax:T.length<=35184372088832)
  (hR:∀(A:List Int) w',Own w' 22 1 r (A.map (Value.int .u32))->A.Perm T->A.Pairwise (·<=·)->Fr w.heap.size (λk=>r.a=some (blk k)) w w'->R (.tuple #[]) w') :
  cR 60 #[.slice r.a r.l r.c] w R:=by
 obtain⟨h0,hc⟩:=h
 rw[List.length_map,Nat.mul_one]at h0
 rcases hc with rfl | ⟨g,cs,ha,hB,h1,h2,h3,h4⟩
 ·have hT:T=[]:=List.eq_nil_of_length_eq_zero h0
  subst hT
  exact zp3 (hR [] w (Own.nil _ _ _) (List.Perm.refl _) List.Pairwise.nil (Fr.refl _ _ _))
 ·obtain⟨ra,rl,rc⟩:=r
  dsimp only at h0 ha h1 h2 h3 h4
  subst ha
  have hD:Dtw w g (cs.drop rl) T.toArray:=by
   unfold Dtw
   rw[Nat.mul_one]at h4
   rw[List.toList_toArray,<-h4,List.take_append_drop]
   exact hB
  refine zc.of (yO ⟨some (blk g),rl,rc⟩ R w ?_) λ_ _ h=>h
  unfold zU
  dsimp only
  rw[zlI (x:=rl) (by omega)]
  refine zil (by omega) λL _ _=>⟨_,rfl,?_⟩
  have hp:=zpr (g:=g) (n:=rl) (c:=rc) (rest:=cs.drop rl) rl 0 rl (L:Int) w T.toArray (λv w'=>v =.tuple #[]/\R (.tuple #[]) w') (by omega) hD (by simpa using h0.symm) (by omega) (by omega) (Nat.le_refl _) (.inl rfl) λw' d' hD' hP hS hF=>⟨rfl,?_⟩
  ·exact hp
  ·have hsz:d'.size=rl:=by rw[hP.1];simpa using h0
   refine hR d'.toList w' ⟨by rw[List.length_map,Nat.mul_one];simpa using hsz,.inr ⟨g,_,rfl,hD',h1,h2,?_,?_⟩⟩ ?_ ?_ (hF.mono (Nat.le_refl _) λk _ hk=>by rw[hk])
   ·rw[List.length_append,List.length_map,List.length_drop,h3,Nat.mul_one,Array.length_toList,hsz]
    omega
   ·rw[List.take_left' (by rw[List.length_map,Array.length_toList,hsz,Nat.mul_one])]
   ·have:=hP.2.2
    rw[Array.toList_extract,Array.toList_extract,List.extract_eq_take_drop,List.extract_eq_take_drop]at this
    simp only[List.drop_zero,Nat.sub_zero]at this
    rwa[List.take_of_length_le (by rw[Array.length_toList];omega),List.take_of_length_le (by omega)]at this
   ·rw[List.pairwise_iff_getElem]
    intro i j hi hj hij
    rw[Array.length_toList]at hi hj
    have:=hS i j (Nat.zero_le _) hij (by omega)
    rw[getElem!_pos d' i hi,getElem!_pos d' j hj]at this
    have:=of_decide_eq_false this
    simp only[Array.getElem_toList]
    omega
theorem zqm{P:Program}{t e:TypeId}{sz bytes B:Nat}(he:YR P t e sz bytes){w:World}{s:Sl}{xs:List Value}(h:Own w e sz s xs)(hB0:B<=w.heap.size)(hF:zA B s){vs:List Value}(hvs:vs.length=sz)(hv:∀u∈vs,u.oneCell'=true){b c:Nat}{T:TypeId}
  (hB:Blk w b T vs) (h63:s.l+1<=9223372036854775807) (hbytes:(s.l+1)*bytes<=140737488355328) {k:Sl->World->Prop}
  (hk:∀r w',Own w' e sz r (xs++vs)->Below B w w'->zA B r->k r w'):zC P t (.slice s.a s.l s.c) (.slice (some (blk b)) 1 c) w k:=by
 refine ZO he h (news:=vs) (by omega) (λj u hj=>hB.cell hj) hv h63 hbytes λr w' h1 hl' hg=>?_
 rcases hg with⟨_,_,h3⟩ | ⟨b',h3,h4,h5⟩
 ·rw[h3]at hl';omega
 ·have hbb:B<=b':=by
   rcases h4 with h4 |h4
   ·exact hF _ h4
   ·omega
  exact hk r w' h1 (yC h5 hbb hB0) (λa ha=>by rw[h3]at ha;cases ha;exact hbb)
end
end Go.Proofs
namespace Go.Gk
theorem zj.two{α β:Type}{body:α×β×Int×Unit->World->(α×β×Int×Unit->World->Prop)->Prop}{w:World}{a0:α}{b0:β}(n:Nat)(hn:n<=9223372036854775807)(I:Nat->α->β->World->Prop)(h0:I 0 a0 b0 w)
  (h:∀k a b w,k<=n->I k a b w->∀next:α×β×Int×Unit->World->Prop,(∀a' b' w',k<n->I (k+1) a' b' w'->next (a',b',IntKind.i64.wrap ((k:Int)+1),()) w')->body (a,b,(k:Int),()) w next):zj body (a0,b0,(0:Int),()) w:=by
 refine zj.ghost (λj s w=>∃k:Nat,k<=n/\j=n-k/\∃a b,s=(a,b,(k:Int),())/\I k a b w) n ⟨0,Nat.zero_le _,rfl,a0,b0,rfl,h0⟩ ?_
 rintro _ _ w ⟨k,hk,rfl,a,b,rfl,hI⟩ next hnext
 refine h k a b w hk hI next λa' b' w' hlt hI'=>?_
 rw[zr (by omega)]
 exact hnext (n-(k+1)) _ _ (by omega) ⟨k+1,by omega,rfl,a',b',rfl,hI'⟩
end Go.Gk
namespace Go.Proofs
open Go.Gk Go.RowKit Go.Gm Go.Gr Go.Dm
section
variable {w:World} {R:VWP}
theorem zoa{s t:Sl}{l m:List Int}(hs:IsS (Value.int .u32) w s l)(ht:IsS (Value.int .u32) w t m)(hR:∀w',Below w.heap.size w w'->R (.bool (decide (l=m))) w'):cR 159 #[.slice s.a s.l s.c,.slice t.a t.l t.c] w R:=by
 refine zc.of (Yi s t R w ?_) λ_ _ h=>h
 have h1:=hs.len
 have h2:=ht.len
 have no:l≠m->∀{w'},Below w.heap.size w w'->R (.bool false) w':=λh {w'} hb=>by
  have:=hR w' hb
  rwa[decide_eq_false h]at this
 refine zE (λe=>no (λh=>e (by rw[h1,h2,h])) (Below.refl _ _)) (λe=>?_)
 refine zj.count l.length hs.bound (λk w'=>Below w.heap.size w w'/\∀j (q1:j<l.length) (q2:j<m.length),j<k->l[j]=m[j]) ⟨Below.refl _ _,λj _ _ h=>by omega⟩ ?_
 rintro k w1 hk ⟨hb,hj⟩ next hnext
 refine zg (λh=>?_) (λh=>?_)
 ·have hlt:k<l.length:=by dsimp only at h;omega
  have hlm:k<m.length:=by omega
  refine zbi (hs.below hb.drew) hlt (zbi (ht.below hb.drew) hlm (zE (λe=>no (λg=>e (by subst g;rfl)) hb.drew) (λe=>hnext _ hlt ⟨hb.drew,λj q1 q2 hjk=>?_⟩)))
  by_cases ej:j=k
  ·subst ej;exact e
  ·exact hj j q1 q2 (by omega)
 ·have hk':k=l.length:=by dsimp only at h;omega
  have:=hR w1 hb
  rwa[decide_eq_true (List.ext_getElem (by omega) λj q1 q2=>hj j q1 q2 (by omega))]at this
theorem zcx{X:Nat->Prop}{w0 w w':World}(hb:Below w0.heap.size w0 w)(h:Fr w.heap.size X w w')(hX:∀k,X k->w0.heap.size<=k):Below w0.heap.size w0 w':=
 ⟨h.os.trans hb.os,h.tape.trans hb.tape,h.output.trans hb.output,Nat.le_trans hb.size h.size,λk hk=>(h.block k (by have:=hb.size;omega) λx=>absurd (hX k x) (by omega)).trans (hb.block k hk)⟩
theorem zl0{w0:World}{r q:Sl}{xs ys:List Value}(hr:Own w 22 1 r xs)(hq:Own w 22 1 q ys)(hFr:zA w0.heap.size r)(hap:∀b,r.a=some (blk b)->q.a≠some (blk b))(hb:Below w0.heap.size w0 w)
  {v:Int} {b c:Nat} {T:TypeId} (hB:Blk w b T [.int .u32 v]) (hlen:r.l+1<=5864062014805) {k:Sl->World->Prop}
  (hk:∀r' w',Own w' 22 1 r' (xs++[.int .u32 v])->Own w' 22 1 q ys->zA w0.heap.size r'->(∀b,r'.a=some (blk b)->q.a≠some (blk b))->Below w0.heap.size w0 w'->k r' w') :
  zC Tryz.prog 26 (.slice r.a r.l r.c) (.slice (some (blk b)) 1 c) w k:=by
 refine zeA eU32 hr (vs:=[.int .u32 v]) rfl (λu hu=>by rw[List.mem_singleton.1 hu];rfl) hB (by omega) (by omega) λr' w' b' h1 _ h3 h4 hf=>?_
 have hx:∀k,r.a=some (blk k)->w0.heap.size<=k:=λk h=>hFr _ h
 have hs:=hb.size
 refine hk r' w' h1 (hf.own hq λb hqb hrb=>hap b hrb hqb) (λa ha=>?_) (λb1 hb1 hq1=>?_) (zcx hb hf hx)
 ·rw[h3]at ha
  cases ha
  rcases h4 with h4 |h4
  ·exact hx _ h4
  ·show w0.heap.size<=b';omega
 ·rw[h3]at hb1
  have hb1:b'=b1:=by cases hb1;rfl
  subst hb1
  rcases h4 with h4 |h4
  ·exact hap _ h4 hq1
  ·have:b'<w.heap.size:=(hq.lt hq1).2
   omega
theorem zer(al:List Ag):∀k,(valN al k).length=(k+1) / 2
 | 0=>rfl
 |k+1=>by
  have ih:=zer al k
  simp only[valN]
  split
  ·rw[List.length_append,ih,List.length_singleton];omega
  ·omega
theorem zbq(al:List Ag):∀k,(parN al k).length=k / 2
 | 0=>rfl
 |k+1=>by
  have ih:=zbq al k
  simp only[parN]
  split
  ·omega
  ·rw[List.length_append,ih,List.length_singleton];omega
theorem ziV(al:List Ag):∀k j,j<(k+1) / 2->(valN al k).getD j 0=(al.getD (2*j) ag0).2.1
 | 0,j,h=>by omega
 |k+1,j,h=>by
  have ih:=ziV al k j
  have hl:=zer al k
  simp only[valN]
  split
  ·by_cases e:j<(k+1) / 2
   ·rw[<-ih e,List.getD_eq_getElem?_getD,List.getElem?_append_left (by omega),List.getD_eq_getElem?_getD]
   ·have:j=(k+1) / 2:=by omega
    have h2:2*j=k:=by omega
    rw[h2,List.getD_eq_getElem?_getD,List.getElem?_append_right (by omega),hl,this,Nat.sub_self]
    rfl
  ·exact ih (by omega)
theorem zg8(al:List Ag):∀k j,j<k / 2->(parN al k).getD j 0=(al.getD (2*j+1) ag0).2.1
 | 0,j,h=>by omega
 |k+1,j,h=>by
  have ih:=zg8 al k j
  have hl:=zbq al k
  simp only[parN]
  split
  ·exact ih (by omega)
  ·by_cases e:j<k / 2
   ·rw[<-ih e,List.getD_eq_getElem?_getD,List.getElem?_append_left (by omega),List.getD_eq_getElem?_getD]
   ·have:j=k / 2:=by omega
    have h2:2*j+1=k:=by omega
    rw[h2,List.getD_eq_getElem?_getD,List.getElem?_append_right (by omega),hl,this,Nat.sub_self]
    rfl
theorem zet{x:Ins}{al:List Ag}(hI:IsAg w x.2.2.2.1 al)(h24:24*al.length<=140737488351232)
  (hR:∀r q w',Own w' 22 1 r ((valN al al.length).map (Value.int .u32))->Own w' 22 1 q ((parN al al.length).map (Value.int .u32))->zA w.heap.size r->zA w.heap.size q->Below w.heap.size w w'->
   R (.tuple #[.slice r.a r.l r.c,.slice q.a q.l q.c]) w'):cR 102 #[inA x] w R:=by
 refine zc.of (zgn x R w ?_) λ_ _ h=>h
 refine zl λw1 hB b1 z1=>?_
 have hB:Blk w1 w.heap.size 50 (inV x):=hB
 have hlen:=hI.len
 refine hB.rS (n:=3) (x:=x.2.2.2.1) rfl ?_
 refine zj.two al.length hI.bound (λk r q w'=>(Own w' 22 1 r ((valN al k).map (Value.int .u32))/\Own w' 22 1 q ((parN al k).map (Value.int .u32)))/\(zA w1.heap.size r/\zA w1.heap.size q)/\(∀b,r.a=some (blk b)->q.a≠some (blk b))/\Below w1.heap.size w1 w')
  ⟨⟨Own.nil _ _ _,Own.nil _ _ _⟩,⟨λa ha=>(by cases ha),λa ha=>(by cases ha)⟩,λb hb=>(by cases hb),Below.refl _ _⟩ ?_
 rintro k r q w3 hk ⟨⟨hr,hq⟩,⟨hFr,hFq⟩,hap,hb⟩ next hnext
 have s1:=b1.size
 refine zg (λh=>?_) (λh=>?_)
 ·have hlt:k<al.length:=by dsimp only at h;omega
  refine zk.cut (λst w'=>(Own w' 22 1 st.1 ((valN al (k+1)).map (Value.int .u32))/\Own w' 22 1 st.2.1 ((parN al (k+1)).map (Value.int .u32)))/\(zA w1.heap.size st.1/\zA w1.heap.size st.2.1)/\(∀b,st.1.a=some (blk b)->st.2.1.a≠some (blk b))/\Below w1.heap.size w1 w') ?_ ?_
  ·refine zfy (hI.below (b1.on hb)) hlt (box3 rfl λw4 h4 b4 z4=>?_)
   have hrl:r.l=(k+1) / 2:=by have:=hr.1;have h2:=zer al k;rw[List.length_map]at this;omega
   have hql:q.l=k / 2:=by have:=hq.1;have h2:=zbq al k;rw[List.length_map]at this;omega
   have hm:Int.tmod (k:Int) 2=((k % 2:Nat):Int):=(Int.ofNat_tmod k 2).symm
   refine zm (λe=>?_) (λe=>?_)
   ·have e':k % 2=0:=by dsimp only at e;omega
    refine h4.rI (n:=1) rfl (zl λw5 h5 b5 z5=>?_)
    have b35:=b4.on b5
    refine zl0 (hr.below b35) (hq.below b35) hFr hap (hb.on b35) (v:=al[k].2.1) h5 (by omega) λr' w6 g1 g2 g3 g4 g5=>⟨⟨?_,?_⟩,⟨g3,hFq⟩,g4,g5⟩
    ·simp only[valN]
     rw[if_pos e',List.map_append,zt hlt]
     exact g1
    ·simp only[parN]
     rw[if_pos e']
     exact g2
   ·have e':¬k % 2=0:=by dsimp only at e;omega
    refine h4.rI (n:=1) rfl (zl λw5 h5 b5 z5=>?_)
    have b35:=b4.on b5
    refine zl0 (hq.below b35) (hr.below b35) hFq (λb h1 h2=>hap b h2 h1) (hb.on b35) (v:=al[k].2.1) h5 (by omega) λq' w6 g1 g2 g3 g4 g5=>⟨⟨?_,?_⟩,⟨hFr,g3⟩,λb h1 h2=>g4 b h2 h1,g5⟩
    ·simp only[valN]
     rw[if_neg e']
     exact g2
    ·simp only[parN]
     rw[if_neg e',List.map_append,zt hlt]
     exact g1
  ·rintro⟨r',q',_⟩ w' h
   exact hnext r' q' w' hlt h
 ·have hk:k=al.length:=by dsimp only at h;omega
  subst hk
  exact hR r q w3 hr hq (λa ha=>by have:=hFr a ha;omega) (λa ha=>by have:=hFq a ha;omega) (b1.on hb)
end
abbrev hmK:List BK:=[.int .i64,.int .i64,.int .i64,.bool]
abbrev hmV(h:Hm):Value:=.agg #[.int .i64 h.1,.int .i64 h.2.1,.int .i64 h.2.2.1,.bool h.2.2.2.1]
abbrev hmL(h:Hm):List Value:=[.int .i64 h.1,.int .i64 h.2.1,.int .i64 h.2.2.1,.bool h.2.2.2.1]
def hm0:Hm:=(0,0,0,false,())
abbrev IsHm(w:World)(r:Nat)(M:List (Int×Hm)):Prop:=IsMq w r hmV M
theorem zlH:Tryz.prog.underlying 80=some (.map 22 78):=by kernel_rfl
theorem zq1:∃i,Tryz.prog.info? 78=some i/\i.zero=some (hmV hm0):=⟨Tryz.t78,by kernel_rfl,rfl⟩
section
variable {w:World} {r:Nat} {M:List (Int×Hm)} {id:Int}
theorem zoR(h:IsHm w r M){φ:Hm->Bool->Prop}(hφ:φ ((zP M id).getD hm0) (zP M id).isSome):ze4 Tryz.prog 80 (.map (some r)) (.int .u32 id) [.int .i64,.int .i64,.int .i64,.bool] w φ:=
 zmq (ks:=hmK) (L:=M) (d:=hm0) zlH uU32 zq1 h hφ
theorem zoS(h:IsHm w r M){φ:Hm->Prop}(hφ:φ ((zP M id).getD hm0)):ziF Tryz.prog 80 (.map (some r)) (.int .u32 id) [.int .i64,.int .i64,.int .i64,.bool] w φ:=
 zn6 (ks:=hmK) (L:=M) (d:=hm0) zlH uU32 zq1 h hφ
end
abbrev bdV(x:Mo)(n:Nat)(v:Fv)(hr gb tb:Nat):List Value:=
 [.int .u32 x.1,.int .u32 x.2.1,.slice x.2.2.1.a x.2.2.1.l x.2.2.1.c,.int .i64 (n:Int),.int .u32 v.1,.int .i64 v.2.1,.slice v.2.2.1.a v.2.2.1.l v.2.2.1.c,.slice v.2.2.2.1.a v.2.2.2.1.l v.2.2.2.1.c,.int .i64 v.2.2.2.2.1,.map (some hr),.pointer (some (Gk.blk gb)),.pointer (some (Gk.blk tb))]
structure IsBd (w:World) (bb:Nat) (x:Mo) (pl:List PI) (fl:List FnL) (n:Nat):Prop where
 ex:∃(v:Fv) (hr gb tb:Nat) (M:List (Int×Hm)) (ov:Nat->Option Nat) (dp:Nat->Int),Blk w bb 83 (bdV x n v hr gb tb)/\IsPl w x.2.2.1 pl/\IsFn w v (fx fl n)/\IsHm w hr M/\(∀id,zP M id=hmO pl fl id)/\IsG w gb (nxF pl fl n)/\Dt w tb (nxF pl fl n) ov dp
section
variable {w w':World} {R:VWP} {bb n:Nat} {x:Mo} {pl:List PI} {fl:List FnL} {id:Int}
theorem IsBd.below(h:IsBd w bb x pl fl n)(hb:Below w.heap.size w w'):IsBd w' bb x pl fl n:=by
 obtain⟨v,hr,gb,tb,M,ov,dp,h1,h2,h3,h4,h5,h6,h7⟩:=h.ex
 exact⟨v,hr,gb,tb,M,ov,dp,h1.below hb,h2.below hb,h3.below hb,h4.below hb,h5,h6.below hb,h7.below hb⟩
theorem zcw{v:Fv}{hr gb tb:Nat}(h:Blk w bb 83 (bdV x n v hr gb tb)){φ:Sl->Prop}(hφ:φ v.2.2.2.1):ldS w (((Gk.blk bb).add 4).add 3) φ:=by
 rw[zs]
 exact h.rS (n:=7) (x:=v.2.2.2.1) rfl hφ
theorem zlx(h:IsBd w bb x pl fl n)(hR:∀w',Below w.heap.size w w'->R (.tuple #[hmV ((hmO pl fl id).getD hm0),.bool (ownP pl fl n id)]) w') :
  cR 101 #[.pointer (some (Gk.blk bb)),.int .u32 id] w R:=by
 obtain⟨v,hr,gb,tb,M,ov,dp,hB,hN,hF,hM,hl,hG,hD⟩:=h.ex
 refine zc.of (zeH _ id R w ?_) λ_ _ h=>h
 refine zl λw1 hC1 b1 z1=>?_
 have hC1:Blk w1 w.heap.size 78 (hmL hm0):=hC1
 refine ze rfl ⟨some hr,(hB.below b1).cell (n:=9) rfl,zoR (hM.below b1) ?_⟩
 rw[hl id]
 generalize hh:(hmO pl fl id).getD hm0=h at hR
 refine box4 rfl λw6 h6 b6 z6=>?_
 have hC6:=(hC1.below b6).drew
 have hd6:=h6.drew
 have bd6:Below w.heap.size w w6.drew:=(b1.on b6).drew
 have fin:∀b,b=ownP pl fl n id->Wr w6.drew (Gk.blk w.heap.size)/\Nw (w6.drew.setCell (Gk.blk w.heap.size) (.int .i64 h.1)) λw7=>Wr w7 ((Gk.blk w.heap.size).add 1)/\Nw (w7.setCell ((Gk.blk w.heap.size).add 1) (.int .i64 h.2.1)) λw8=>
   Wr w8 ((Gk.blk w.heap.size).add 2)/\Nw (w8.setCell ((Gk.blk w.heap.size).add 2) (.int .i64 h.2.2.1)) λw9=>Wr w9 ((Gk.blk w.heap.size).add 3)/\Nw (w9.setCell ((Gk.blk w.heap.size).add 3) (.bool h.2.2.2.1)) λw10=>
   ldI w10 ((Gk.blk w.heap.size).add 0) .i64 λx13=>ldI w10 ((Gk.blk w.heap.size).add 1) .i64 λx14=>ldI w10 ((Gk.blk w.heap.size).add 2) .i64 λx15=>ldB w10 ((Gk.blk w.heap.size).add 3) λx16=>
   R (.tuple #[.agg #[.int .i64 x13,.int .i64 x14,.int .i64 x15,.bool x16],.bool b]) w10:=λb hb=>by
  subst hb
  exact st4 hC6 rfl λw10 h10 c10=>h10.rI (n:=0) rfl (h10.rI (n:=1) rfl (h10.rI (n:=2) rfl (h10.rB (n:=3) rfl (hR w10 (c10.below bd6 (Nat.le_refl _))))))
 refine hd6.rI (n:=0) rfl (hd6.rI (n:=1) rfl (hd6.rI (n:=2) rfl (hd6.rB (n:=3) rfl ?_)))
 cases ho:hmO pl fl id with
 |none=>
  refine zz rfl (fin false ?_)
  unfold ownP
  rw[ho]
 |some h'=>
  have e:h'=h:=by rw[ho]at hh;exact hh
  subst e
  have hown:ownP pl fl n id=(h'.1==(n:Int)&&!h'.2.2.2.1):=by unfold ownP;rw[ho]
  refine zH rfl (hd6.rB (n:=3) rfl (zI (zn (λe=>fin false ?_) (λe=>?_))))
  ·rw[hown,show h'.2.2.2.1=true from e]
   simp
  ·have e:h'.2.2.2.1=false:=e
   have hB6:=((hB.below b1).below b6).drew
   refine hd6.rI0 rfl (ze rfl (hB6.rI (n:=3) rfl ?_))
   refine st4 hC6 rfl λw10 h10 c10=>⟨?_,?_,?_⟩
   ·refine(c10.blk hB6 λq=>?_).cell (n:=3) rfl
    have:=hB.lt
    omega
   ·refine(c10.blk hd6 λq=>?_).cell0 rfl
    have:=b1.size
    omega
   ·refine h10.rI (n:=0) rfl (h10.rI (n:=1) rfl (h10.rI (n:=2) rfl (h10.rB (n:=3) rfl ?_)))
    have:=hR w10 (c10.below bd6 (Nat.le_refl _))
    rw[hown,e]at this
    simpa using this
theorem zj4{h:Hm}(hh:hmO pl fl id=some h)(hn:h.1=(n:Int)):h.2.1=ovI (bkO (fx fl n).bk (mkA pl id))/\h.2.2.1=mkA pl id:=by
 unfold hmO at hh
 cases hf:fnO fl (mkA pl id) with
 |none=>rw[hf]at hh;cases hh
 |some m=>
  rw[hf,Option.map_some,Option.some.injEq]at hh
  have:m=n:=by rw[<-hh]at hn;dsimp only at hn;omega
  subst this
  rw[<-hh]
  exact⟨rfl,rfl⟩
theorem zcB(h:ownP pl fl n id=true):∃hh,hmO pl fl id=some hh/\hh.1=(n:Int)/\hh.2.2.2.1=false:=by
 unfold ownP at h
 split at h
 ·rename_i hh e
  rw[Bool.and_eq_true,beq_iff_eq]at h
  exact⟨hh,e,h.1,by simpa using h.2⟩
 ·cases h
theorem zfq{nx:List (List Nat)}(hx:NxOk nx)(k:Nat):Z5 nx (k:Int)=true↔zO nx (-1) k:=by
 unfold Z5
 rw[Bool.and_eq_true,decide_eq_true_eq,Int.toNat_natCast,List.contains_iff_mem,zcZ hx.rows hx.pos]
 exact⟨λh=>h.2,λh=>⟨by omega,h⟩⟩
theorem znX{od:List Nat}{ov:Nat->Option Nat}{a b:Nat}:DomP od ov (a:Int) (b:Int)↔b∈od/\Anc ov a b:=by
 unfold DomP
 constructor
 ·rintro⟨a',b',e1,e2,h⟩
  have e1:a=a':=by omega
  have e2:b=b':=by omega
  subst e1 e2
  exact h
 ·exact λh=>⟨a,b,rfl,rfl,h⟩
theorem zjz{k:Nat}{p:Int}(h:IsBd w bb x pl fl n)(hR:∀w',Below w.heap.size w w'->R (.bool (mayU pl fl (nxF pl fl n) n id k p)) w') :
  cR 160 #[.pointer (some (Gk.blk bb)),.int .u32 id,.int .i64 (k:Int),.int .i64 p] w R:=by
 refine zc.of (zeG _ id (k:Int) p R w ?_) λ_ _ h=>h
 refine zlx h λw1 b1=>⟨(hmO pl fl id).getD hm0,ownP pl fl n id,rfl,?_⟩
 obtain⟨v,hr,gb,tb,M,ov,dp,hB,hN,hF,hM,hl,hG,hD⟩:=(h.below b1).ex
 refine box4 rfl λw6 h6 b6 z6=>?_
 have b06:=b1.on b6
 have yes:mayU pl fl (nxF pl fl n) n id k p=true->∀{w'},Below w.heap.size w w'->R (.bool true) w':=λe {w'} hb=>by
  have:=hR w' hb
  rwa[e]at this
 refine zk.cut (λ(_:Unit) w8=>Below w6.heap.size w6 w8/\∃hh,hmO pl fl id=some hh/\hh.1=(n:Int)/\ownP pl fl n id=true/\¬hh.2.1<0/\zO (nxF pl fl n) (-1) k) ?_ ?_
 ·refine zI (zn (λe=>?_) (λe=>yes (by unfold mayU;rw[if_neg (by rw[show ownP pl fl n id=false from e];simp)]) b06))
  have e:ownP pl fl n id=true:=e
  obtain⟨hh,ho,h1,h2⟩:=zcB e
  obtain⟨h3,h4⟩:=zj4 ho h1
  rw[ho]at h6
  rw[ho]
  refine h6.rI (n:=1) rfl (zg (λhlt=>yes ?_ b06) (λhge=>?_))
  ·have hlt:hh.2.1<0:=hlt
   rw[h3]at hlt
   unfold mayU
   split
   ·cases hbk:bkO (fx fl n).bk (mkA pl id) with
    |none=>rfl
    |some q=>rw[hbk]at hlt;exact absurd hlt (by show ¬(q:Int)<0;omega)
   ·rfl
  ·have hge:¬hh.2.1<0:=hge
   have hB6:=hB.below b6
   refine ze rfl ⟨some (Gk.blk gb),hB6.cell (n:=10) rfl,GP.reached (nx:=nxF pl fl n) (.inr ⟨gb,rfl,hD.ok,hG.below b6⟩) ⟨_,rfl,?_⟩⟩
   refine zI (zn (λhr=>⟨Below.refl _ _,hh,rfl,h1,e,hge,(zfq hD.ok k).1 hr⟩) (λhr=>yes ?_ b06))
   unfold mayU
   rw[if_neg λq=>?_]
   have:=(zfq hD.ok k).2 q.2
   rw[hr]at this
   cases this
 rintro _ w8 ⟨b68,hh,ho,h1,hown,hge,hre⟩
 obtain⟨h3,h4⟩:=zj4 ho h1
 rw[ho]at h6
 have h8:=h6.below b68
 have b08:=b06.on b68
 have hD8:=(hD.below b6).below b68
 obtain⟨q,hq⟩:∃q:Nat,bkO (fx fl n).bk (mkA pl id)=some q:=by
  cases hbk:bkO (fx fl n).bk (mkA pl id) with
  |none=>rw[hbk]at h3;exact absurd (show hh.2.1<0 by rw[h3];decide) hge
  |some q=>exact⟨q,rfl⟩
 have h3:hh.2.1=(q:Int):=by rw[h3,hq];rfl
 have hm:mayU pl fl (nxF pl fl n) n id k p=if q=k then decide (mkA pl id<p) else(by classical exact decide (¬zO (nxF pl fl n) (q:Int) k)):=by
  unfold mayU
  rw[if_pos ⟨hown,hre⟩,hq]
 refine h8.rI (n:=1) rfl (zm (λe=>?_) (λe=>?_))
 ·have e:hh.2.1=(k:Int):=e
  refine h8.rI (n:=2) rfl ?_
  have:=hR w8 b08
  rw[hm,if_pos (by omega),<-h4]at this
  exact this
 ·have e:¬hh.2.1=(k:Int):=e
  have hB8:=((hB.below b6).below b68).drew
  refine ze rfl ⟨some (Gk.blk tb),hB8.cell (n:=11) rfl,h8.drew.rI (n:=1) rfl ?_⟩
  show zc _ _ #[_,.int .i64 hh.2.1,_] _ _
  rw[h3]
  have bd:Below w8.heap.size w8 w8.drew:=(Below.refl _ _).drew
  refine zig (hD8.below bd) λb w9 b9 hb=>⟨b,rfl,?_⟩
  have:=hR w9 ((b08.on bd).on b9)
  rw[hm,if_neg (by omega)]at this
  have hdr:b=true↔¬zO (nxF pl fl n) (q:Int) k:=by
   rw[hb,znX,<-hD8.domR]
   unfold DomR
   constructor
   ·rintro⟨_,h |h⟩
    ·omega
    ·exact h
   ·exact λh=>⟨hre,.inr h⟩
  have e2:b=(by classical exact decide (¬zO (nxF pl fl n) (q:Int) k)):=by
   classical
   rw[Bool.eq_iff_iff,hdr,decide_eq_true_eq]
  rw[e2]
  exact this
end
end Go.Proofs
namespace Go.Proofs
open Go.Gk Go.RowKit Go.Gm Go.Gr Go.Dm
theorem zgP{P:Program}{fs:List Nat}{n:Nat}{first captured:Array Value}{args:List Value}{w:World}{S:VWP}(hf:fs.contains n=true)(h:zc P n (first.toList++(args++captured.toList)).toArray w S) :
  Zv P fs (.func (.func n) first captured) args w S:=by
 unfold Zv
 simp only[hf]
 exact h
def zcW(pl:List PI)(fl:List FnL)(n i:Nat):Int:=if (zN pl i).any (othP pl fl n)=true then 192 else 0
open Classical in
noncomputable def phiU(pl:List PI)(fl:List FnL)(nx:List (List Nat))(n k i:Nat):Int:=
 if (ix pl i).1≠245 then 0 else if ¬(zd5 (fx fl n).bk nx k).Perm (parN (ix pl i).2.2.2 (ix pl i).2.2.2.length) then 191 else 0
noncomputable def useU(pl:List PI)(fl:List FnL)(nx:List (List Nat))(n k i:Nat):Int:=
 if (ix pl i).1≠245 then(if (zN pl i).any (λid=>!mayU pl fl nx n id k i)=true then 190 else 0)
 else if (List.range ((ix pl i).2.2.2.length / 2)).any (λj=>!mayU pl fl nx n ((ix pl i).2.2.2.getD (2*j) ag0).2.1 (lbN (fx fl n).bk ((ix pl i).2.2.2.getD (2*j+1) ag0).2.1) (bx (fx fl n).bk (lbN (fx fl n).bk ((ix pl i).2.2.2.getD (2*j+1) ag0).2.1)).2.2)=true then 190
 else 0
theorem zkj(pl:List PI)(fl:List FnL)(nx:List (List Nat))(n k i:Nat):fltU pl fl nx n k i=if zcW pl fl n i≠0 then zcW pl fl n i else if phiU pl fl nx n k i≠0 then phiU pl fl nx n k i else useU pl fl nx n k i:=by
 unfold fltU zcW phiU useU
 by_cases h1:(zN pl i).any (othP pl fl n)=true
 ·simp only[if_pos h1]
  rfl
 simp only[if_neg h1]
 by_cases h2:(ix pl i).1≠245
 ·simp only[if_pos h2]
  rfl
 simp only[if_neg h2]
 by_cases h3:¬(zd5 (fx fl n).bk nx k).Perm (parN (ix pl i).2.2.2 (ix pl i).2.2.2.length)
 ·simp only[if_pos h3]
  rfl
 ·simp only[if_neg h3]
  rfl
theorem zhi{bk:List Bk3}(hd:(bk.map (·.1)).Nodup){k:Nat}(hk:k<bk.length):lbO bk (bx bk k).1=some k:=by
 refine zbt hk (beq_self_eq_true _) λj hj=>beq_eq_false_iff_ne.2 λe=>?_
 have:=List.pairwise_iff_getElem.1 (List.nodup_iff_pairwise_ne.1 hd) j k (by rw[List.length_map];omega) (by rwa[List.length_map]) hj
 unfold bx at e
 rw[zt (by omega),zt hk]at e
 simp only[List.getElem_map]at this
 exact this e
theorem zg0{bk:List Bk3}{id:Int}{k:Nat}(h:lbO bk id=some k):k<bk.length/\(bx bk k).1=id:=by
 obtain⟨h1,h2,_⟩:=zal h
 exact⟨h1,beq_iff_eq.1 h2⟩
section
variable {w:World} {R:VWP} {bb n i k:Nat} {x:Mo} {pl:List PI} {fl:List FnL}
theorem zq7{s:Sl}{l:List (Int×Int×Int)}(h:IsBk w s l){k:Nat}(hk:k<l.length){φ:Int->Prop}(hφ:φ l[k].1) :
  (0<=(k:Int)/\(k:Int)<(s.l:Int))/\za s.a λa=>ldI w (a.add (Int.toNat (k:Int)*3)) .u32 φ:=by
 obtain⟨a,ha⟩:=h.base hk
 exact⟨⟨by omega,by have:=h.len;omega⟩,ze ha ⟨_,h.cell a ha k hk 0 (by omega),hφ⟩⟩
theorem zq8{s:Sl}{l:List (Int×Int×Int)}(h:IsBk w s l){k:Nat}(hk:k<l.length){φ:Int->Prop}(hφ:φ l[k].2.2) :
  (0<=(k:Int)/\(k:Int)<(s.l:Int))/\za s.a λa=>ldI w ((a.add (Int.toNat (k:Int)*3)).add 2) .i64 φ:=by
 obtain⟨a,ha⟩:=h.base hk
 exact⟨⟨by omega,by have:=h.len;omega⟩,ze ha ⟨l[k].2.2,by rw[zs];exact h.cell a ha k hk 2 (by omega),hφ⟩⟩
theorem PlOk.at(hp:PlOk pl)(hi:i<pl.length):24*pl[i].2.2.2.length<=140737488351232:=hp.args _ (List.getElem_mem hi)
theorem zm9(hp:PlOk pl)(h:IsBd w bb x pl fl n)(hi:i<pl.length)(hR:∀w',Below w.heap.size w w'->R (.int .i64 (zcW pl fl n i)) w') :
  cR 124 #[.pointer (some (Gk.blk bb)),.int .i64 (k:Int),.int .i64 (i:Int)] w R:=by
 refine zc.of (zdC _ (k:Int) (i:Int) R w ?_) λ_ _ h=>h
 obtain⟨v,hr,gb,tb,M,ov,dp,hB,hN,hF,hM,hl,hG,hD⟩:=h.ex
 refine ze rfl (hB.rS (n:=2) (x:=x.2.2.1) rfl (zbV hN hi λt hI=>?_))
 refine zfG (x:=mkIn pl[i] t) hI (hp.at hi) λr w1 hr1 _ b1=>⟨r,rfl,?_⟩
 have hids:idsP pl[i].2.1 pl[i].2.2.2=zN pl i:=by unfold zN;rw[Zm hi]
 have hr1:Own w1 22 1 r ((zN pl i).map (Value.int .u32)):=by rw[<-hids];exact hr1
 have hS:=hr1.isS
 refine zj.count (zN pl i).length hS.bound (λj w'=>Below w1.heap.size w1 w'/\∀q (h:q<(zN pl i).length),q<j->othP pl fl n (zN pl i)[q]=false) ⟨Below.refl _ _,λq _ h=>by omega⟩ ?_
 rintro j w2 hj ⟨b2,hq⟩ next hnext
 have b02:=b1.on b2
 have hSl:=hS.len
 refine zg (λh=>?_) (λh=>?_)
 ·have hlt:j<(zN pl i).length:=by dsimp only at h;omega
  refine zk.all (zbi (hS.below b2) hlt (ze rfl ⟨some hr,(hB.below b02).cell (n:=9) rfl,zoR (hM.below b02) ?_⟩))
  rw[hl]
  generalize hid:(zN pl i)[j]=id
  refine box4 rfl λw7 h7 b7 z7=>?_
  have go:othP pl fl n id=false->∀{w'},Below w2.heap.size w2 w'->next (IntKind.i64.wrap ((j:Int)+1),()) w':=λho {w'} hb=>hnext w' hlt ⟨b2.on hb,λq h1 h2=>by
   by_cases e:q=j
   ·subst e;rw[hid];exact ho
   ·exact hq q h1 (by omega)⟩
  cases ho:hmO pl fl id with
  |none=>exact zz rfl (go (by unfold othP;rw[ho]) b7.drew)
  |some hh=>
   rw[ho]at h7
   have hoe:othP pl fl n id=(hh.1 !=(n:Int)):=by unfold othP;rw[ho]
   refine zH rfl (h7.drew.rI0 rfl (ze rfl (((hB.below b02).below b7).drew.rI (n:=3) rfl (zE (λe=>?_) (λe=>go ?_ b7.drew)))))
   ·have e:hh.1≠(n:Int):=e
    have:=hR w7.drew (b02.on b7.drew)
    unfold zcW at this
    rw[if_pos (zka hlt (by rw[hid,hoe];exact bne_iff_ne.2 e))]at this
    exact this
   ·have e:hh.1=(n:Int):=e
    rw[hoe,e]
    simp
 ·have:=hR w2 b02
  unfold zcW at this
  rw[zis λq h1=>hq q h1 (by dsimp only at h;omega)]at this
  exact this
theorem zpu(hp:PlOk pl)(h:IsBd w bb x pl fl n)(hi:i<pl.length)(hR:∀w',Below w.heap.size w w'->R (.int .i64 (phiU pl fl (nxF pl fl n) n k i)) w') :
  cR 125 #[.pointer (some (Gk.blk bb)),.int .i64 (k:Int),.int .i64 (i:Int)] w R:=by
 refine zc.of (zeI _ (k:Int) (i:Int) R w ?_) λ_ _ h=>h
 obtain⟨v,hr,gb,tb,M,ov,dp,hB,hN,hF,hM,hl,hG,hD⟩:=h.ex
 have hix:=Zm hi
 refine ze rfl (hB.rS (n:=2) (x:=x.2.2.1) rfl (zmd hN hi (zE (λe=>?_) (λe=>?_))))
 ·have:=hR w (Below.refl _ _)
  unfold phiU at this
  rw[if_pos (by rw[hix];exact e)]at this
  exact this
 refine ze rfl (hB.rS (n:=2) (x:=x.2.2.1) rfl (zbV hN hi λt hI=>?_))
 refine zet (x:=mkIn pl[i] t) hI (hp.at hi) λr q w1 _ hq1 _ hFq b1=>⟨r,q,rfl,?_⟩
 have hB1:=hB.below b1
 refine ze rfl ⟨some (Gk.blk gb),hB1.cell (n:=10) rfl,GP.ahead (nx:=nxF pl fl n) (.inr ⟨gb,rfl,hD.ok,hG.below b1⟩) λs w2 hs2 _ b2=>⟨s,rfl,?_⟩⟩
 rw[zaN]at hs2
 generalize hrow:(zD (nxF pl fl n)).getD k []=row at hs2
 have hlabs:zd5 (fx fl n).bk (nxF pl fl n) k=row.map λp=>(bx (fx fl n).bk p).1:=by unfold zd5;rw[hrow]
 have hS:=hs2.isS (f:=iN)
 have hSl:=hS.len
 have b02:=b1.on b2
 have hnl:(nxF pl fl n).length=(fx fl n).bk.length:=by unfold nxF Y2;rw[Z4,List.length_map]
 have hok:=hD.ok
 have hrowlt:∀p∈row,p<(fx fl n).bk.length:=λp hp'=>by
  rw[<-hrow]at hp'
  unfold zD at hp'
  rw[List.getD_eq_getElem?_getD,List.getElem?_map]at hp'
  cases hq:(List.range (nxF pl fl n).length)[k]? with
  |none=>rw[hq]at hp';cases hp'
  |some a=>rw[hq]at hp';have:=List.mem_range.1 (List.mem_filter.1 hp').1;omega
 have hrowlen:row.length<=4096:=by
  rw[<-hrow]
  unfold zD
  rw[List.getD_eq_getElem?_getD,List.getElem?_map]
  cases hq:(List.range (nxF pl fl n).length)[k]? with
  |none=>simp
  |some a=>
   have h1:=List.length_filter_le (λi=>((nxF pl fl n).getD i []).contains a) (List.range (nxF pl fl n).length)
   rw[List.length_range]at h1
   have:=hok.max
   exact Nat.le_trans h1 this
 have hbk:=hF.bk
 refine zj.countSl row.length (by omega) (λj a w'=>Own w' 22 1 a (((row.take j).map λp=>(bx (fx fl n).bk p).1).map (Value.int .u32))/\zA w2.heap.size a/\Below w2.heap.size w2 w') ⟨Own.nil _ _ _,λa ha=>(by cases ha),Below.refl _ _⟩ ?_
 rintro j a w3 hj ⟨hO,hFa,b3⟩ next hnext
 have b03:=b02.on b3
 refine zg (λh=>?_) (λh=>?_)
 ·have hlt:j<row.length:=by dsimp only at h;omega
  refine zkS (hS.below b3) hlt (ze rfl (zcw (hB.below b03) ?_))
  have hpl:=hrowlt _ (List.getElem_mem hlt)
  refine zq7 (IsC.below yU hbk b03) hpl (zl λw4 h4 b4 z4=>?_)
  have hal:a.l=j:=by have:=hO.1;simp only[List.length_map,List.length_take]at this;omega
  refine ZS eU32 (hO.below b4) (b3.on b4) hFa (v:=.int .u32 ((fx fl n).bk[row[j]]).1) rfl h4 (by omega) (by omega) λr' w5 h5 b5 F5=>hnext r' w5 hlt ⟨?_,F5,b5⟩
  rw[List.take_succ_eq_append_getElem hlt,List.map_append,List.map_append]
  show Own w5 22 1 r' (_++[Value.int .u32 (bx (fx fl n).bk row[j]).1])
  unfold bx
  rw[zt hpl]
  exact h5
 ·have hjl:j=row.length:=by dsimp only at h;omega
  subst hjl
  rw[List.take_length,<-hlabs]at hO
  have hq3:=(hq1.below b2).below b3
  have hq1l:(parN pl[i].2.2.2 pl[i].2.2.2.length).length<=35184372088832:=by rw[zbq];have:=hp.at hi;omega
  have hll:(zd5 (fx fl n).bk (nxF pl fl n) k).length<=35184372088832:=by rw[hlabs,List.length_map];omega
  refine zfw hO hll λA w4 hA4 pA sA f4=>⟨rfl,?_⟩
  have hs1:=b1.size
  have hs2':=b2.size
  have hs3:=b3.size
  have hap:∀b,q.a=some (Gk.blk b)->¬a.a=some (Gk.blk b):=λb h1 h2=>by
   have h3:b<w1.heap.size:=(hq1.lt h1).2
   have h4:w2.heap.size<=b:=hFa _ h2
   omega
  have hq4:=f4.own hq3 hap
  have b04:Below w.heap.size w w4:=zcx b03 f4 λb hb=>by
   have:w2.heap.size<=b:=hFa _ hb
   have:=b02.size
   omega
  refine zfw hq4 hq1l λB w5 hB5 pB sB f5=>⟨rfl,?_⟩
  have b05:Below w.heap.size w w5:=zcx b04 f5 λb hb=>hFq _ hb
  have hA5:=f5.own hA4 λb h1 h2=>hap b h2 h1
  refine zoa hA5.isS hB5.isS λw6 b6=>⟨_,rfl,?_⟩
  have he:A=B↔(zd5 (fx fl n).bk (nxF pl fl n) k).Perm (parN (ix pl i).2.2.2 (ix pl i).2.2.2.length):=by
   rw[hix]
   constructor
   ·intro e
    subst e
    exact pA.symm.trans pB
   ·intro e
    exact List.Perm.eq_of_pairwise (le:=λ(x y:Int)=>x<=y) (λa b _ _ h1 h2=>Int.le_antisymm h1 h2) sA sB ((pA.trans e).trans pB.symm)
  have hfin:=hR w6 (b05.on b6)
  unfold phiU at hfin
  rw[if_neg (by rw[hix,e];decide)]at hfin
  refine zI (zg (λe=>?_) (λe=>?_))
  ·rw[if_neg λh=>h (he.1 e)]at hfin
   exact hfin
  ·rw[if_pos λh=>e (he.2 h)]at hfin
   exact hfin
theorem zpC(F:Fls pl fl)(hp:PlOk pl)(hn:n<fl.length)(h:IsBd w bb x pl fl n)(hi:i<pl.length)(hk:k<(fx fl n).bk.length)(hphi:phiU pl fl (nxF pl fl n) n k i=0)(hR:∀w',Below w.heap.size w w'->R (.int .i64 (useU pl fl (nxF pl fl n) n k i)) w') :
  cR 126 #[.pointer (some (Gk.blk bb)),.int .i64 (k:Int),.int .i64 (i:Int)] w R:=by
 refine zc.of (zeJ _ (k:Int) (i:Int) R w ?_) λ_ _ h=>h
 obtain⟨v,hr,gb,tb,M,ov,dp,hB,hN,hF,hM,hl,hG,hD⟩:=h.ex
 have hix:=Zm hi
 refine ze rfl (hB.rS (n:=2) (x:=x.2.2.1) rfl (zbV hN hi λt hI=>?_))
 refine box4 rfl λw5 h5 b5 z5=>?_
 have h5:Blk w5 w.heap.size 50 (inV (mkIn pl[i] t)):=h5
 refine h5.rI0 rfl (zE (λe=>?_) (λe=>?_))
 ·refine Ins.load (x:=mkIn pl[i] t) h5 (zfG (x:=mkIn pl[i] t) (hI.below b5) (hp.at hi) λr w1 hr1 _ b1=>⟨r,rfl,?_⟩)
  have hids:idsP pl[i].2.1 pl[i].2.2.2=zN pl i:=by unfold zN;rw[hix]
  have hr1:Own w1 22 1 r ((zN pl i).map (Value.int .u32)):=by rw[<-hids];exact hr1
  have hS:=hr1.isS
  have hSl:=hS.len
  have b01:=b5.on b1
  refine zj.count (zN pl i).length hS.bound (λj w'=>Below w1.heap.size w1 w'/\∀q (h:q<(zN pl i).length),q<j->(!mayU pl fl (nxF pl fl n) n (zN pl i)[q] k i)=false) ⟨Below.refl _ _,λq _ h=>by omega⟩ ?_
  rintro j w2 hj ⟨b2,hq⟩ next hnext
  have b02:=b01.on b2
  refine zg (λg=>?_) (λg=>?_)
  ·have hlt:j<(zN pl i).length:=by dsimp only at g;omega
   refine zbi (hS.below b2) hlt (zjz (h.below b02) λw3 b3=>⟨_,rfl,?_⟩)
   refine zn (λe2=>?_) (λe2=>hnext w3 hlt ⟨b2.on b3,λq h1 h2=>?_⟩)
   ·have:=hR w3 (b02.on b3)
    unfold useU at this
    rw[if_pos (by rw[hix];exact e),if_pos (zka hlt e2)]at this
    exact this
   ·by_cases eq:q=j
    ·subst eq;exact e2
    ·exact hq q h1 (by omega)
  ·have:=hR w2 b02
   unfold useU at this
   rw[if_pos (by rw[hix];exact e),zis λq h1=>hq q h1 (by dsimp only at g;omega)]at this
   exact this
 ·have e:pl[i].1=245:=e
  refine Ins.load (x:=mkIn pl[i] t) h5 (zet (x:=mkIn pl[i] t) (hI.below b5) (hp.at hi) λr q w1 hr1 hq1 _ _ b1=>⟨r,q,rfl,?_⟩)
  have hr1:Own w1 22 1 r ((valN pl[i].2.2.2 pl[i].2.2.2.length).map (Value.int .u32)):=hr1
  have hq1:Own w1 22 1 q ((parN pl[i].2.2.2 pl[i].2.2.2.length).map (Value.int .u32)):=hq1
  have hS:=hr1.isS
  have hQ:=hq1.isS
  have hSl:=hS.len
  have b01:=b5.on b1
  have hev:=F.phi i hi (by rw[hix];exact e)
  rw[hix]at hev
  have hvl:=zer pl[i].2.2.2 pl[i].2.2.2.length
  have hql:=zbq pl[i].2.2.2 pl[i].2.2.2.length
  generalize hal:pl[i].2.2.2=al at *
  have hperm:(zd5 (fx fl n).bk (nxF pl fl n) k).Perm (parN al al.length):=by
   unfold phiU at hphi
   rw[if_neg (by rw[hix,e];decide),hix,hal]at hphi
   refine Classical.byContradiction λh=>?_
   rw[if_pos h]at hphi
   cases hphi
  have huse:useU pl fl (nxF pl fl n) n k i=if (List.range (al.length / 2)).any (λj=>!mayU pl fl (nxF pl fl n) n (al.getD (2*j) ag0).2.1 (lbN (fx fl n).bk (al.getD (2*j+1) ag0).2.1) (bx (fx fl n).bk (lbN (fx fl n).bk (al.getD (2*j+1) ag0).2.1)).2.2)=true then 190 else 0:=by
   unfold useU
   rw[if_neg (by rw[hix,e];decide),hix,hal]
  refine zj.count (valN al al.length).length hS.bound (λj w'=>Below w1.heap.size w1 w'/\∀q,q<j->(!mayU pl fl (nxF pl fl n) n (al.getD (2*q) ag0).2.1 (lbN (fx fl n).bk (al.getD (2*q+1) ag0).2.1) (bx (fx fl n).bk (lbN (fx fl n).bk (al.getD (2*q+1) ag0).2.1)).2.2)=false) ⟨Below.refl _ _,λq h=>by omega⟩ ?_
  rintro j w2 hj ⟨b2,hqs⟩ next hnext
  have b02:=b01.on b2
  refine zg (λg=>?_) (λg=>?_)
  ·have hlt:j<(valN al al.length).length:=by dsimp only at g;omega
   have hlq:j<(parN al al.length).length:=by omega
   have hv:=ziV al al.length j (by omega)
   have hpv:=zg8 al al.length j (by omega)
   rw[zt hlt]at hv
   rw[zt hlq]at hpv
   refine zbi (hS.below b2) hlt ?_
   have bd:Below w2.heap.size w2 w2.drew:=(Below.refl _ _).drew
   have b02d:=b02.on bd
   have hB2:=hB.below b02d
   refine ze rfl ⟨some hr,hB2.cell (n:=9) rfl,zbi ((hQ.below b2).below bd) hlq (zoS (hM.below b02d) ?_)⟩
   rw[hl]
   obtain⟨p,hp1,hp2⟩:∃p,p<(fx fl n).bk.length/\(bx (fx fl n).bk p).1=(parN al al.length)[j]:=by
    have:=hperm.symm.mem_iff.1 (List.getElem_mem hlq)
    unfold zd5 at this
    obtain⟨p,hp1,hp2⟩:=List.mem_map.1 this
    refine⟨p,?_,hp2⟩
    refine Classical.byContradiction λhge=>?_
    have hp3:p<(nxF pl fl n).length:=by
     unfold zD at hp1
     rw[List.getD_eq_getElem?_getD,List.getElem?_map]at hp1
     cases hq:(List.range (nxF pl fl n).length)[k]? with
     |none=>rw[hq]at hp1;cases hp1
     |some a=>rw[hq]at hp1;exact List.mem_range.1 (List.mem_filter.1 hp1).1
    have hnl:(nxF pl fl n).length=(fx fl n).bk.length:=by unfold nxF Y2;rw[Z4,List.length_map]
    omega
   have hlb:lbN (fx fl n).bk (al.getD (2*j+1) ag0).2.1=p:=by
    rw[<-hpv,<-hp2]
    unfold lbN
    rw[zhi (F.lab _ (YJ hn)) hp1]
    rfl
   rw[<-hp2,F.homeL hn hp1,Option.getD_some]
   refine ze rfl (zcw hB2 (zq8 (IsC.below yU hF.bk b02d) hp1 ?_))
   refine zjz (h.below b02d) λw3 b3=>⟨_,rfl,?_⟩
   have hbx:(bx (fx fl n).bk p).2.2=(fx fl n).bk[p].2.2:=by unfold bx;rw[zt hp1]
   rw[hv,<-hbx]
   refine zn (λe2=>?_) (λe2=>hnext w3 hlt ⟨(b2.on bd).on b3,λq h2=>?_⟩)
   ·have:=hR w3 (b02d.on b3)
    rw[huse,if_pos (List.any_eq_true.2 ⟨j,List.mem_range.2 (by omega),by rw[hlb];exact e2⟩)]at this
    exact this
   ·by_cases eq:q=j
    ·subst eq;rw[hlb];exact e2
    ·exact hqs q (by omega)
  ·have:=hR w2 b02
   rw[huse,if_neg λh=>?_]at this
   ·exact this
   ·obtain⟨q,h1,h2⟩:=List.any_eq_true.1 h
    rw[List.mem_range]at h1
    rw[hqs q (by dsimp only at g;omega)]at h2
    cases h2
end
end Go.Proofs
namespace Go.Proofs
open Go.Gk Go.RowKit Go.Gm Go.Gr Go.Dm
abbrev Bv:=Int×Int×Sl×Sl×Int×Int×Int×Sl×Sl×Int×Sl×Unit
end Go.Proofs
namespace Go.Proofs
open Go.Gk Go.RowKit Go.Gm Go.Gr Go.Dm
theorem zhY(pl:List PI)(fl:List FnL)(n:Nat):(nxF pl fl n).length=(fx fl n).bk.length:=by unfold nxF Y2;rw[Z4,List.length_map]
theorem zlS{nx:List (List Nat)}{k:Nat}(hk:k<nx.length):(zD nx).getD k []=(List.range nx.length).filter λi=>(nx.getD i []).contains k:=by
 unfold zD
 rw[List.getD_eq_getElem?_getD,List.getElem?_map,List.getElem?_range hk]
 rfl
section
variable {bk:List Bk3} {nx:List (List Nat)} {k:Nat}
theorem zmn(hk:k<nx.length)(hl:nx.length=bk.length)(hd:(bk.map (·.1)).Nodup){q:Int}(hq:q∈zd5 bk nx k):∃p,p<bk.length/\lbO bk q=some p/\(bx bk p).1=q:=by
 unfold zd5 at hq
 rw[zlS hk]at hq
 obtain⟨p,hp,rfl⟩:=List.mem_map.1 hq
 have h1:=List.mem_range.1 (List.mem_filter.1 hp).1
 exact⟨p,by omega,zhi hd (by omega),rfl⟩
end
end Go.Proofs
namespace Go.Proofs
open Go.Gk Go.RowKit Go.Gm Go.Gr Go.Dm
structure Cv (pl:List PI) (fl:List FnL) (S:Hm->Prop) (M:List (Int×Hm)):Prop where
 ok:∀id h,zP M id=some h->hmO pl fl id=some h
 all:∀id h,hmO pl fl id=some h->S h->zP M id=some h
section
variable {pl:List PI} {fl:List FnL} {S S':Hm->Prop} {M:List (Int×Hm)}
theorem Cv.less(h:Cv pl fl S M)(hS:∀id hh,hmO pl fl id=some hh->S' hh->S hh):Cv pl fl S' M:=⟨h.ok,λid hh h1 h2=>h.all id hh h1 (hS id hh h1 h2)⟩
theorem Cv.set(F:Fls pl fl)(h:Cv pl fl S M){id:Int}{h0:Hm}(hh0:hmO pl fl id=some h0)(hS:∀id' hh,hmO pl fl id'=some hh->S' hh->S hh\/hh.2.2.1=h0.2.2.1):Cv pl fl S' (setQ M id h0):=by
 refine⟨λid' hh h1=>?_,λid' hh h1 h2=>?_⟩
 ·rw[ze5]at h1
  split at h1
  ·rename_i e
   rw[e,hh0,h1]
  ·exact h.ok id' hh h1
 ·rw[ze5]
  have eq:id'=id->some h0=some hh:=λe=>by rw[<-hh0,<-h1,e]
  split
  ·rename_i e
   exact eq e
  ·rename_i e
   rcases hS id' hh h1 h2 with h3 |h3
   ·exact h.all id' hh h1 h3
   ·obtain⟨_,i,_,_,_,e1,e2,_⟩:=F.home_inv h1
    obtain⟨_,j,_,_,_,e3,e4,_⟩:=F.home_inv hh0
    have:i=j:=by omega
    subst this
    exact absurd (e2.symm.trans e4) e
end
section
variable {w:World} {R:VWP} {x:Mo} {pl:List PI} {fl:List FnL}
set_option maxHeartbeats 1000000 in
theorem zmh(F:Fls pl fl)(hp:PlOk pl){fs:Sl}{L:List Fe}(hL:Fns w fs L)(hLc:L.map (·.1)=fl)(hN:IsPl w x.2.2.1 pl)
  (hR:∀w' hr M,IsHm w' hr M->(∀id,zP M id=hmO pl fl id)->Below w.heap.size w w'->R (.map (some hr)) w'):cR 56 #[moA x,.slice fs.a fs.l fs.c] w R:=by
 refine zc.of (zgX x fs R w ?_) λ_ _ h=>h
 refine zl λw1 hB1 b1 z1=>?_
 have hB1:Blk w1 w.heap.size 25 (moV x):=hB1
 refine Nw.gen λw2 e2=>?_
 have m2:IsHm w2 w1.heap.size []:=by rw[e2];exact IsMq.new _ _
 have b2:Below w1.heap.size w1 w2:=by rw[e2];exact(Below.refl _ _).alloc (Nat.le_refl _) _
 clear e2
 generalize hr:w1.heap.size=r at m2
 have hrw:w.heap.size<r:=by omega
 have hlen:=hp.len
 have hbound:L.length<=9223372036854775807:=(Own.isC zcL (by omega) hL.own:IsC 5 feV w fs L).bound
 have hfl:L.length=fl.length:=by rw[<-hLc,List.length_map]
 have hget:∀k (h:k<L.length),L[k].1=fx fl k:=λk h=>by
  unfold fx
  rw[zt (by omega)]
  have:(L.map (·.1))[k]'(by rwa[List.length_map])=fl[k]'(by omega):=by congr 1
  rwa[List.getElem_map]at this
 refine zj.count L.length hbound (λk w'=>Below w.heap.size w w'/\Blk w' w.heap.size 25 (moV x)/\∃M,IsHm w' r M/\Cv pl fl (λh=>h.1<(k:Int)) M)
  ⟨b1.on b2,hB1.below b2,[],m2,λid h e=>(by cases e),λid h e1 e2=>by obtain⟨n,_,e3,_⟩:=F.home_inv e1;have e2:h.1<0:=e2;omega⟩ ?_
 rintro n w3 hn ⟨b3,hB3,M,m3,c3⟩ next hnext
 have hll:=hL.len
 refine zg (λh=>?_) (λh=>?_)
 rotate_left
 ·have hne:n=L.length:=by dsimp only at h;omega
  refine hR w3 r M m3 (λid=>?_) b3
  cases ho:hmO pl fl id with
  |none=>
   cases hq:zP M id with
   |none=>rfl
   |some h=>rw[c3.ok id h hq]at ho;cases ho
  |some h=>
   obtain⟨n',_,e1,e2,_⟩:=F.home_inv ho
   exact c3.all id h ho (by show h.1<(n:Int);omega)
 have hlt:n<L.length:=by dsimp only at h;omega
 have hnf:n<fl.length:=by omega
 have hFn:IsFn w (L[n].1.id,L[n].1.at_,L[n].2.1,L[n].2.2,L[n].1.en,()) (fx fl n):=by rw[<-hget n hlt];exact hL.isFn (List.getElem_mem hlt)
 have hps:IsI w L[n].2.1 (fx fl n).ps:=hFn.ps
 have hbk:IsBk w L[n].2.2 (fx fl n).bk:=hFn.bk
 refine zmc (hL.below b3) hlt (zl λw4 hX4 b4 z4=>st5 hX4 rfl λw9 hX9 c9=>?_)
 have hX9:Blk w9 w3.heap.size 46 (fvV (L[n].1.id,L[n].1.at_,L[n].2.1,L[n].2.2,L[n].1.en,())):=hX9
 have b39:Below w3.heap.size w3 w9:=c9.below b4 (Nat.le_refl _)
 have b09:=b3.on b39
 have hB9:=hB3.below b39
 have m9:=m3.below b39
 have hr3:r<w3.heap.size:=m3.lt
 refine hX9.rS (n:=2) (x:=L[n].2.1) rfl ?_
 refine zj.count (fx fl n).ps.length hps.bound (λj w'=>Below w.heap.size w w'/\Blk w' w.heap.size 25 (moV x)/\Blk w' w3.heap.size 46 (fvV (L[n].1.id,L[n].1.at_,L[n].2.1,L[n].2.2,L[n].1.en,()))/\
   ∃M,IsHm w' r M/\Cv pl fl (λh=>h.1<(n:Int)\/(h.1=(n:Int)/\h.2.1=-1/\∃q,∃hq:q<(fx fl n).ps.length,q<j/\(fx fl n).ps[q]=h.2.2.1)) M)
  ⟨b09,hB9,hX9,M,m9,c3.less λid hh _ h2=>h2.elim (λh=>h) λh=>by obtain⟨_,_,q,_,h,_⟩:=h;omega⟩ ?_
 rintro j w10 hj ⟨b10,hB10,hX10,M10,m10,c10⟩ next2 hnext2
 have hpl:=hps.len
 refine zg (λh=>?_) (λh=>?_)
 ·have hjl:j<(fx fl n).ps.length:=by dsimp only at h;omega
  refine zd4 (hps.below b10) hjl (hB10.rS (n:=2) (x:=x.2.2.1) rfl ?_)
  obtain⟨kk,ek,hkk,hho⟩:=F.homeP hnf (List.getElem_mem hjl)
  have hix:=Zm hkk
  rw[ek]
  refine zki (hN.below b10) hkk (zib zlH uU32 m10 (v:=((n:Int),-1,(kk:Int),false,())) rfl λw11 m11 c11=>hnext2 w11 hjl ⟨c11.below b10 (by omega),c11.blk hB10 (by omega),c11.blk hX10 (by omega),_,m11,?_⟩)
  rw[<-hix]
  refine c10.set F hho λid' hh h1 h2=>?_
  rcases h2 with h2 | ⟨h2,h3,q,hq,h4,h5⟩
  ·exact .inl (.inl h2)
  ·by_cases e:q=j
   ·subst e
    exact .inr (by rw[<-h5,ek])
   ·exact .inl (.inr ⟨h2,h3,q,hq,by omega,h5⟩)
 have hjp:j=(fx fl n).ps.length:=by dsimp only at h;omega
 subst hjp
 have c10':Cv pl fl (λh=>h.1<(n:Int)\/(h.1=(n:Int)/\h.2.1<((0:Nat):Int))) M10:=c10.less λid hh h1 h2=>by
  rcases h2 with h2 | ⟨h2,h3⟩
  ·exact .inl h2
  ·obtain⟨n',i,e1,_,_,e4,_,_,_,_,e5⟩:=F.home_inv h1
   have:n'=n:=by omega
   subst this
   rcases e5 with⟨e5,e6,_⟩ | ⟨k,_,e5,_⟩
   ·obtain⟨q,hq,e⟩:=List.getElem_of_mem e6
    exact .inr ⟨h2,e5,q,hq,hq,by omega⟩
   ·omega
 clear c10 hnext2
 refine hX10.rS (n:=3) (x:=L[n].2.2) rfl ?_
 have hbmax:(fx fl n).bk.length<=9223372036854775807:=hbk.bound
 refine zj.count (fx fl n).bk.length hbmax (λk w'=>Below w.heap.size w w'/\Blk w' w.heap.size 25 (moV x)/\Blk w' w3.heap.size 46 (fvV (L[n].1.id,L[n].1.at_,L[n].2.1,L[n].2.2,L[n].1.en,()))/\
   ∃M,IsHm w' r M/\Cv pl fl (λh=>h.1<(n:Int)\/(h.1=(n:Int)/\h.2.1<(k:Int))) M) ⟨b10,hB10,hX10,M10,m10,c10'⟩ ?_
 rintro k w12 hk ⟨b12,hB12,hX12,M12,m12,c12⟩ next3 hnext3
 have hbl:=hbk.len
 refine zg (λh=>?_) (λh=>?_)
 rotate_left
 ·have hke:k=(fx fl n).bk.length:=by dsimp only at h;omega
  refine hnext w12 hlt ⟨b12,hB12,M12,m12,c12.less λid hh h1 h2=>?_⟩
  have h2:hh.1<((n+1:Nat):Int):=h2
  by_cases e:hh.1<(n:Int)
  ·exact .inl e
  ·obtain⟨n',i,e1,_,_,e4,_,_,_,_,e5⟩:=F.home_inv h1
   have:n'=n:=by omega
   subst this
   refine .inr ⟨by omega,?_⟩
   rcases e5 with⟨e5,_,_⟩ | ⟨q,hq,e5,_⟩<;>omega
 have hkl:k<(fx fl n).bk.length:=by dsimp only at h;omega
 obtain⟨f,t,hbx,hft,htl,hop,_,_⟩:=F.bl hnf hkl
 have hbk12:=IsC.below yU hbk b12
 have hgb:bx (fx fl n).bk k=(fx fl n).bk[k]:=zt hkl
 refine zgT hbk12 hkl (box3 rfl λw16 h16 b16 z16=>?_)
 rw[<-hgb,hbx]at h16
 have b016:=b12.on b16
 refine h16.rI0 rfl (h16.rI (n:=1) rfl ?_)
 have hhl:=F.homeL hnf hkl
 rw[hbx]at hhl
 have hr12:r<w12.heap.size:=m12.lt
 refine zib zlH uU32 (m12.below b16) (v:=((n:Int),(k:Int),(f:Int),true,())) rfl λw17 m17 c17=>?_
 have h17:=c17.blk h16 (by omega)
 refine h17.rI (n:=1) rfl ?_
 have e1:(bx (fx fl n).bk k).2.1=(f:Int):=by rw[hbx]
 have e2:(bx (fx fl n).bk k).2.2=(t:Int):=by rw[hbx]
 refine zj.ghost (λm (s:Int×Unit) w'=>∃i:Nat,s=((i:Int),())/\m=t-i/\f<i/\i<=t/\Below w.heap.size w w'/\Blk w' w.heap.size 25 (moV x)/\Blk w' w3.heap.size 46 (fvV (L[n].1.id,L[n].1.at_,L[n].2.1,L[n].2.2,L[n].1.en,()))/\
   Blk w' w12.heap.size 42 [.int .u32 (ix pl f).2.2.1,.int .i64 (f:Int),.int .i64 (t:Int)]/\∃M,IsHm w' r M/\Cv pl fl (λh=>h.1<(n:Int)\/(h.1=(n:Int)/\(h.2.1<(k:Int)\/(h.2.1=(k:Int)/\h.2.2.1<(i:Int))))) M) (t-(f+1))
  ⟨f+1,by rw[zr (k:=f) (by omega)],rfl,by omega,by omega,c17.below b016 (by omega),c17.blk (hB12.below b16) (by omega),c17.blk (hX12.below b16) (by omega),h17,_,m17,?_⟩ ?_
 ·refine c12.set F hhl λid' hh h1 h2=>?_
  rcases h2 with h2 | ⟨h2,h3 | ⟨h3,h4⟩⟩
  ·exact .inl (.inl h2)
  ·exact .inl (.inr ⟨h2,h3⟩)
  ·obtain⟨n',i,q1,_,_,q4,_,_,_,_,q5⟩:=F.home_inv h1
   have:n'=n:=by omega
   subst this
   right
   rcases q5 with⟨q5,_,_⟩ | ⟨q,hq,q5,q6,_⟩
   ·omega
   ·have:q=k:=by omega
    subst this
    show hh.2.2.1=(f:Int)
    omega
 rintro _ _ w18 ⟨i,rfl,rfl,hfi,hit,b18,hB18,hX18,hK18,M18,m18,c18⟩ next4 hnext4
 refine hK18.rI (n:=2) rfl (zg (λh=>?_) (λh=>?_))
 ·have hlt4:i<t:=by dsimp only at h;omega
  have hil:i<pl.length:=by omega
  have hix:=Zm hil
  refine zk.all (hB18.rS (n:=2) (x:=x.2.2.1) rfl (zki (hN.below b18) hil ?_))
  rw[zr (by omega)]
  refine zE (λe=>?_) (λe=>?_)
  ·have e:(ix pl i).2.2.1≠0:=by rw[hix];exact e
   have hho:=F.homeI hnf hkl (by omega) (by omega) e
   refine zib zlH uU32 m18 (v:=((n:Int),(k:Int),(i:Int),false,())) rfl λw19 m19 c19=>hnext4 (t-(i+1)) _ w19 (by omega) ⟨i+1,rfl,rfl,by omega,by omega,c19.below b18 (by omega),c19.blk hB18 (by omega),c19.blk hX18 (by omega),c19.blk hK18 (by omega),_,m19,?_⟩
   rw[<-hix]
   refine c18.set F hho λid' hh h1 h2=>?_
   rcases h2 with h2 | ⟨h2,h3 | ⟨h3,h4⟩⟩
   ·exact .inl (.inl h2)
   ·exact .inl (.inr ⟨h2,.inl h3⟩)
   ·by_cases ei:hh.2.2.1=(i:Int)
    ·exact .inr ei
    ·exact .inl (.inr ⟨h2,.inr ⟨h3,by omega⟩⟩)
  ·have e:(ix pl i).2.2.1=0:=by rw[hix];exact e
   refine hnext4 (t-(i+1)) _ w18 (by omega) ⟨i+1,rfl,rfl,by omega,by omega,b18,hB18,hX18,hK18,M18,m18,c18.less λid' hh h1 h2=>?_⟩
   rcases h2 with h2 | ⟨h2,h3 | ⟨h3,h4⟩⟩
   ·exact .inl h2
   ·exact .inr ⟨h2,.inl h3⟩
   ·refine .inr ⟨h2,.inr ⟨h3,?_⟩⟩
    obtain⟨n',i',_,_,_,q4,q5,q6,_⟩:=F.home_inv h1
    have:i'≠i:=λe'=>by subst e';rw[e]at q5;exact q6 q5.symm
    omega
 ·have hie:i=t:=by dsimp only at h;omega
  subst hie
  refine hnext3 w18 hkl ⟨b18,hB18,hX18,M18,m18,c18.less λid' hh h1 h2=>?_⟩
  rcases h2 with h2 | ⟨h2,h3⟩
  ·exact .inl h2
  ·by_cases ek:hh.2.1<(k:Int)
   ·exact .inr ⟨h2,.inl ek⟩
   ·refine .inr ⟨h2,.inr ⟨by omega,?_⟩⟩
    obtain⟨n',i',q1,_,_,q4,_,_,_,_,q5⟩:=F.home_inv h1
    have:n'=n:=by omega
    subst this
    rcases q5 with⟨q5,_,_⟩ | ⟨q,hq,q5,q6,q7,_⟩
    ·omega
    ·have:q=k:=by omega
     subst this
     omega
end
noncomputable def bodS(pl:List PI)(fl:List FnL)(n:Nat):Int×Int:=match bodE pl fl n with
 |some p=>p
 |none=>(0,0)
section
variable {w:World} {R:VWP} {bb n:Nat} {x:Mo} {pl:List PI} {fl:List FnL}
theorem zm7(hR:∀w',Blk w' w.heap.size 126 [.func (.func 124) #[.pointer (some (Gk.blk bb))] #[],.func (.func 125) #[.pointer (some (Gk.blk bb))] #[],.func (.func 126) #[.pointer (some (Gk.blk bb))] #[]]->Below w.heap.size w w'->
   R (.slice (some (Gk.blk w.heap.size)) 3 3) w'):cR 96 #[.pointer (some (Gk.blk bb))] w R:=by
 refine zc.of (zdB _ R w ?_) λ_ _ h=>h
 exact zl λw1 hB1 b1 z1=>hR w1 hB1 b1
theorem zjq{k i:Nat}(hi:i<pl.length)(h1:(bx (fx fl n).bk k).2.1<=(i:Int))(h2:(i:Int)<(bx (fx fl n).bk k).2.2)(hf:fltU pl fl (nxF pl fl n) n k i≠0)(hj:∀j:Nat,(bx (fx fl n).bk k).2.1<=(j:Int)->j<i->fltU pl fl (nxF pl fl n) n k j=0) :
  bodK pl fl n k=some (fltU pl fl (nxF pl fl n) n k i,(i:Int)):=by
 refine zbT hi (if_pos ⟨⟨h1,h2⟩,hf⟩) λj hji=>if_neg λh=>h.2 (hj j h.1.1 hji)
theorem zjp{k:Nat}(hj:∀j:Nat,(bx (fx fl n).bk k).2.1<=(j:Int)->(j:Int)<(bx (fx fl n).bk k).2.2->fltU pl fl (nxF pl fl n) n k j=0):bodK pl fl n k=none:=
 zg9 λj _=>if_neg λh=>h.2 (hj j h.1.1 h.1.2)
set_option maxHeartbeats 1000000 in
theorem zlX(F:Fls pl fl)(hp:PlOk pl)(hn:n<fl.length)(h:IsBd w bb x pl fl n)(hR:∀w',Below w.heap.size w w'->R (.agg #[.int .i64 (bodS pl fl n).1,.int .i64 (bodS pl fl n).2]) w') :
  cR 58 #[.pointer (some (Gk.blk bb))] w R:=by
 refine zc.of (zdA _ R w ?_) λ_ _ h=>h
 refine zl λw1 hS1 b1 z1=>?_
 have hS1:Blk w1 w.heap.size 29 [.int .i64 0,.int .i64 0]:=hS1
 refine zm7 λw2 hr2 b2=>⟨⟨some (Gk.blk w1.heap.size),3,3⟩,rfl,?_⟩
 have b02:=b1.on b2
 have hS2:=hS1.below b2
 have h2:=h.below b02
 obtain⟨v,hr,gb,tb,M,ov,dp,hB,hN,hF,hM,hl,hG,hD⟩:=h2.ex
 have s1:=b1.size
 have out:∀{w':World} (e a:Int),Blk w' w.heap.size 29 [.int .i64 0,.int .i64 0]->Below w.heap.size w w'->(e,a)=bodS pl fl n->
   Wr w' (Gk.blk w.heap.size)/\Nw (w'.setCell (Gk.blk w.heap.size) (.int .i64 e)) λw8=>Wr w8 ((Gk.blk w.heap.size).add 1)/\Nw (w8.setCell ((Gk.blk w.heap.size).add 1) (.int .i64 a)) λw9=>ldI w9 ((Gk.blk w.heap.size).add 0) .i64 λx9=>ldI w9 ((Gk.blk w.heap.size).add 1) .i64 λx10=>
    R (.agg #[.int .i64 x9,.int .i64 x10]) w9:=λ{w'} e a hS hb he=>
  st2 hS rfl λw9 hS9 c9=>Sp.load hS9 (by
   have:=hR w9 (c9.below hb (Nat.le_refl _))
   rw[<-he]at this
   exact this)
 refine ze rfl (zcw hB ?_)
 have hbk:=hF.bk
 have hbmax:(fx fl n).bk.length<=9223372036854775807:=hbk.bound
 have hbl:=hbk.len
 refine zj.count (fx fl n).bk.length hbmax (λk w'=>Below w2.heap.size w2 w'/\∀j,j<k->bodK pl fl n j=none) ⟨Below.refl _ _,λj h=>by omega⟩ ?_
 rintro k w3 hk ⟨b3,hj⟩ next hnext
 have b03:=b02.on b3
 refine zg (λg=>?_) (λg=>?_)
 rotate_left
 ·refine out 0 0 (hS2.below b3) b03 ?_
  unfold bodS bodE
  rw[zg9 λj hj'=>hj j (by dsimp only at g;omega)]
 have hkl:k<(fx fl n).bk.length:=by dsimp only at g;omega
 obtain⟨f,t,hbx,hft,htl,hop,_,_⟩:=F.bl hn hkl
 have hgb:bx (fx fl n).bk k=(fx fl n).bk[k]:=zt hkl
 have e1:(bx (fx fl n).bk k).2.1=(f:Int):=by rw[hbx]
 have e2:(bx (fx fl n).bk k).2.2=(t:Int):=by rw[hbx]
 have hlen:=hp.len
 refine zgT (IsC.below yU hbk b3) hkl (box3 rfl λw7 h7 b7 z7=>?_)
 rw[<-hgb,hbx]at h7
 refine h7.rI (n:=1) rfl ?_
 refine zj.ghost (λm (s:Int×Unit) w'=>∃i:Nat,s=((i:Int),())/\m=t-i/\f<=i/\i<=t/\Below w7.heap.size w7 w'/\∀q,f<=q->q<i->fltU pl fl (nxF pl fl n) n k q=0) (t-f) ⟨f,rfl,rfl,Nat.le_refl _,by omega,Below.refl _ _,λq h1 h2=>by omega⟩ ?_
 rintro _ _ w8 ⟨i,rfl,rfl,hfi,hit,b8,hq⟩ next2 hnext2
 refine(h7.below b8).rI (n:=2) rfl (zg (λg2=>?_) (λg2=>?_))
 rotate_left
 ·refine hnext w8 hkl ⟨b3.on (b7.on b8),λj h1=>?_⟩
  by_cases e:j=k
  ·subst e
   exact zjp λq h2 h3=>hq q (by omega) (by dsimp only at g2;omega)
  ·exact hj j (by omega)
 have hlt:i<t:=by dsimp only at g2;omega
 have hil:i<pl.length:=by omega
 have b28:=b3.on (b7.on b8)
 have b08:=b02.on b28
 have h8:=h2.below b28
 have hr8:=hr2.below b28
 have hS8:=hS2.below b28
 have hcf1:Tryz.fs.contains 124=true:=by kernel_rfl
 have hcf2:Tryz.fs.contains 125=true:=by kernel_rfl
 have hcf3:Tryz.fs.contains 126=true:=by kernel_rfl
 have hflt:=zkj pl fl (nxF pl fl n) n k i
 have fail:∀{w':World} {e:Int},Below w8.heap.size w8 w'->e≠0->fltU pl fl (nxF pl fl n) n k i=e->
   Wr w' (Gk.blk w.heap.size)/\Nw (w'.setCell (Gk.blk w.heap.size) (.int .i64 e)) λw8=>Wr w8 ((Gk.blk w.heap.size).add 1)/\Nw (w8.setCell ((Gk.blk w.heap.size).add 1) (.int .i64 (i:Int))) λw9=>ldI w9 ((Gk.blk w.heap.size).add 0) .i64 λx9=>ldI w9 ((Gk.blk w.heap.size).add 1) .i64 λx10=>
    R (.agg #[.int .i64 x9,.int .i64 x10]) w9:=λ{w' e} hb hne he=>by
  refine out e (i:Int) (hS8.below hb) (b08.on hb) ?_
  unfold bodS bodE
  rw[zbT hkl (zjq (i:=i) hil (by omega) (by omega) (by rw[he];exact hne) λj h1 h2=>hq j (by omega) h2) λj h1=>hj j h1,he]
 refine zj.count 3 (by decide) (λc w'=>Below w8.heap.size w8 w'/\(0<c->zcW pl fl n i=0)/\(1<c->phiU pl fl (nxF pl fl n) n k i=0)/\(2<c->useU pl fl (nxF pl fl n) n k i=0)) ⟨Below.refl _ _,λh=>by omega,λh=>by omega,λh=>by omega⟩ ?_
 rintro c w9 hc ⟨b9,g1,g2',g3⟩ next3 hnext3
 have h9:=h8.below b9
 have hr9:=hr8.below b9
 refine zg (λg4=>?_) (λg4=>?_)
 ·have hc3:c<3:=by dsimp only at g4;omega
  refine⟨⟨by omega,g4⟩,?_⟩
  match c,hc3 with
  | 0,_=>
   refine ze rfl ⟨_,hr9.cell (n:=0) rfl,zgP hcf1 (zm9 hp h9 hil λw10 b10=>⟨_,rfl,zE (λe=>?_) (λe=>?_)⟩)⟩
   ·exact fail (b9.on b10) e (by rw[hflt,if_pos e])
   ·exact hnext3 w10 (by decide) ⟨b9.on b10,λ_=>e,λh=>by omega,λh=>by omega⟩
  | 1,_=>
   refine ze rfl ⟨_,hr9.cell (n:=1) rfl,zgP hcf2 (zpu hp h9 hil λw10 b10=>⟨_,rfl,zE (λe=>?_) (λe=>?_)⟩)⟩
   ·exact fail (b9.on b10) e (by rw[hflt,if_neg (λh=>h (g1 (by decide))),if_pos e])
   ·exact hnext3 w10 (by decide) ⟨b9.on b10,λ_=>g1 (by decide),λ_=>e,λh=>by omega⟩
  | 2,_=>
   refine ze rfl ⟨_,hr9.cell (n:=2) rfl,zgP hcf3 (zpC F hp hn h9 hil hkl (g2' (by decide)) λw10 b10=>⟨_,rfl,zE (λe=>?_) (λe=>?_)⟩)⟩
   ·exact fail (b9.on b10) e (by rw[hflt,if_neg (λh=>h (g1 (by decide))),if_neg (λh=>h (g2' (by decide)))])
   ·exact hnext3 w10 (by decide) ⟨b9.on b10,λ_=>g1 (by decide),λ_=>g2' (by decide),λ_=>e⟩
 ·have hc3:c=3:=by dsimp only at g4;omega
  subst hc3
  rw[zr (by omega)]
  refine hnext2 (t-(i+1)) _ w9 (by omega) ⟨i+1,rfl,rfl,by omega,by omega,b8.on b9,λq h1 h2=>?_⟩
  by_cases e:q=i
  ·subst e
   rw[hflt,if_neg (λh=>h (g1 (by decide))),if_neg (λh=>h (g2' (by decide))),g3 (by decide)]
  ·exact hq q h1 (by omega)
end
end Go.Proofs
namespace Go.Proofs
open Go.Gk Go.RowKit Go.Gm Go.Gr Go.Dm
theorem ePtr:YR Tryz.prog 73 76 1 8:=⟨by kernel_rfl,Tryz.t76,.pointer none,by kernel_rfl,rfl,rfl,rfl,rfl⟩
theorem zpx{l:List FnL}:∀{m:Nat},(∀f∈l,f.at_+3<=f.en/\(m:Int)<=f.at_)->l.Pairwise (λf g=>f.en<g.at_)->∀{n:Nat},m<=n->(∀f∈l,f.en<(n:Int))->4*l.length<=n-m:=by
 induction l with
 |nil=>intro m _ _ n _ _;exact Nat.zero_le _
 |cons f l ih=>
  intro m h1 h2 n hmn h3
  rw[List.pairwise_cons]at h2
  obtain⟨g1,g2⟩:=h1 f (List.mem_cons_self ..)
  have g3:=h3 f (List.mem_cons_self ..)
  have:=ih (m:=m+4) (λg hg=>⟨(h1 g (List.mem_cons_of_mem _ hg)).1,by have:=h2.1 g hg;omega⟩) h2.2 (n:=n) (by omega) λg hg=>h3 g (List.mem_cons_of_mem _ hg)
  rw[List.length_cons]
  omega
theorem Fls.len4{pl:List PI}{fl:List FnL}(F:Fls pl fl):4*fl.length<=pl.length:=by
 have:=zpx (l:=fl) (m:=0) (λf hf=>by
  obtain⟨a,e,h1,h2,h3,_,_,_,T⟩:=(F.tile f hf).ex
  have hok:=F.fn f hf
  obtain⟨b,hb⟩:=List.exists_mem_of_ne_nil _ hok.ne
  obtain⟨g,t,q1,q2,_⟩:=(hok.ok b hb).ex
  have:=T.bks b hb
  rw[q1]at this
  dsimp only at this
  omega) F.pw (n:=pl.length) (Nat.zero_le _) λf hf=>(F.tile f hf).en_lt
 omega
theorem Fls.len{pl:List PI}{fl:List FnL}(F:Fls pl fl):fl.length<=pl.length:=by have:=F.len4;omega
section
variable {x:Mo} {pl:List PI} {w:World} {R:VWP}
abbrev ptrV(b:Nat):Value:=.pointer (some (Gk.blk b))
structure Bds (w:World) (s:Sl) (x:Mo) (pl:List PI) (fl:List FnL):Prop where
 ex:∃bs:List Nat,bs.length=fl.length/\IsS ptrV w s bs/\∀n (h:n<bs.length),IsBd w bs[n] x pl fl n
theorem Bds.below{w':World}{s:Sl}{fl:List FnL}(h:Bds w s x pl fl)(hb:Below w.heap.size w w'):Bds w' s x pl fl:=by
 obtain⟨bs,h1,h2,h3⟩:=h.ex
 exact⟨bs,h1,h2.below hb,λn hn=>(h3 n hn).below hb⟩
structure Flo (x:Mo) (pl:List PI) (fl:List FnL):Prop where
 ok:(yh x.2.1 pl).1=0
 eq:fl=cutF pl pl.length
 no:∀n,n<fl.length->flwE x pl fl n=none
theorem zo2(h:Flo x pl (cutF pl pl.length)):floE x pl=(0,0):=by
 unfold floE
 rw[if_neg (λq=>q h.ok),zg9 h.no]
theorem zpY(h:(yh x.2.1 pl).1≠0):floE x pl=((yh x.2.1 pl).1,((yh x.2.1 pl).2:Int)):=by
 unfold floE
 rw[if_pos h]
theorem zpX(h:(yh x.2.1 pl).1=0){n:Nat}{p:Int×Int}(hn:n<(cutF pl pl.length).length)(hp:flwE x pl (cutF pl pl.length) n=some p)(hj:∀j,j<n->flwE x pl (cutF pl pl.length) j=none):floE x pl=p:=by
 unfold floE
 rw[if_neg (λq=>q h),zbT hn hp hj]
theorem zq5{fl:List FnL}{n:Nat}(h:(bodS pl fl n).1≠0):bodE pl fl n=some (bodS pl fl n):=by
 unfold bodS at h⊢
 cases hb:bodE pl fl n with
 |none=>rw[hb]at h;exact absurd rfl h
 |some p=>rfl
theorem zmH{fl:List FnL}{n k:Nat}{p:Int×Int}(h:bodK pl fl n k=some p):p.1≠0:=by
 unfold bodK at h
 obtain⟨i,_,h⟩:=List.exists_of_findSome?_eq_some h
 split at h
 ·rename_i g
  cases h
  exact g.2
 ·cases h
theorem zq4{fl:List FnL}{n:Nat}(h:(bodS pl fl n).1=0):bodE pl fl n=none:=by
 unfold bodS at h
 cases hb:bodE pl fl n with
 |none=>rfl
 |some p=>
  rw[hb]at h
  unfold bodE at hb
  obtain⟨k,_,hb⟩:=List.exists_of_findSome?_eq_some hb
  exact absurd h (zmH hb)
set_option maxHeartbeats 1000000 in
theorem zh0(hN:IsPl w x.2.2.1 pl)(hp:PlOk pl)(h0:0<=x.2.1)
  (hbad:∀w',(floE x pl).1≠0->Below w.heap.size w w'->R (.tuple #[.slice none 0 0,.agg #[.int .i64 (floE x pl).1,.int .i64 (floE x pl).2]]) w')
  (hok:∀w' s,Flo x pl (cutF pl pl.length)->Bds w' s x pl (cutF pl pl.length)->Below w.heap.size w w'->R (.tuple #[.slice s.a s.l s.c,.agg #[.int .i64 0,.int .i64 0]]) w') :
  cR 25 #[moA x] w R:=by
 refine zc.of (zgm x R w ?_) λ_ _ h=>h
 refine zl λw1 hB1 b1 z1=>?_
 have hB1:Blk w1 w.heap.size 25 (moV x):=hB1
 refine zl λw2 hS2 b2 z2=>?_
 have hS2:Blk w2 w1.heap.size 29 [.int .i64 0,.int .i64 0]:=hS2
 have hb2:=b1.on b2
 refine Mo.load (hB1.below b2) ?_
 refine zie (x:=x) (hN.below hb2) hp λw3 b3=>⟨((yh x.2.1 pl).1,((yh x.2.1 pl).2:Int),()),rfl,?_⟩
 refine box2 rfl λw6 h6 b6 z6=>?_
 have b26:=b3.on b6
 have hb6:=hb2.on b26
 have hB6:=(hB1.below b2).below b26
 have hS6:=hS2.below b26
 have s1:=b1.size
 have bad:∀{w':World} (e a:Int),Blk w' w1.heap.size 29 [.int .i64 0,.int .i64 0]->Below w.heap.size w w'->(e,a)=floE x pl->e≠0->
   Wr w' (blk w1.heap.size)/\Nw (w'.setCell (blk w1.heap.size) (.int .i64 e)) λw8=>Wr w8 ((blk w1.heap.size).add 1)/\Nw (w8.setCell ((blk w1.heap.size).add 1) (.int .i64 a)) λw9=>ldI w9 ((blk w1.heap.size).add 0) .i64 λx9=>ldI w9 ((blk w1.heap.size).add 1) .i64 λx10=>
    R (.tuple #[.slice none 0 0,.agg #[.int .i64 x9,.int .i64 x10]]) w9:=λ{w'} e a hS hb he hne=>
  st2 hS rfl λw9 hS9 c9=>Sp.load hS9 (by
   have:=hbad w9 (by rw[<-he];exact hne) (c9.below hb (by omega))
   rw[<-he]at this
   exact this)
 refine h6.rI0 rfl (zE (λe=>?_) (λe=>?_))
 ·have e':(yh x.2.1 pl).1≠0:=e
  exact Sp.load h6.drew (bad _ _ hS6.drew hb6.drew (zpY e').symm e')
 have e':(yh x.2.1 pl).1=0:=e
 obtain⟨k1,k2,k3⟩:=zez e'
 have F:=Fls.of hp h0 e'
 refine Mo.load hB6 ?_
 refine zif (x:=x) (hN.below hb6) hp (λfs L w9 _ b9 hL hLc=>⟨fs,(0,0,()),rfl,?_⟩) (λw9 hne _=>absurd k2 hne)
 refine box2 rfl λw12 h12 b12 z12=>?_
 have b612:=b9.on b12
 have hb12:=hb6.on b612
 have hL12:=hL.below b12
 have hS12:=hS6.below b612
 have hB12:=hB6.below b612
 have hll:=hL.len
 have hbadn:∀{n:Nat} {p:Int×Int},n<(cutF pl pl.length).length->flwE x pl (cutF pl pl.length) n=some p->(∀j,j<n->flwE x pl (cutF pl pl.length) j=none)->p=floE x pl:=λh1 h2 h3=>(zpX e' h1 h2 h3).symm
 have hokn:(∀n,n<(cutF pl pl.length).length->flwE x pl (cutF pl pl.length) n=none)->Flo x pl (cutF pl pl.length):=λh=>⟨e',rfl,h⟩
 have hlenp:=hp.len
 have hfll:=F.len
 generalize hfl0:cutF pl pl.length=fl at *
 have hfl:L.length=fl.length:=by rw[<-hLc,List.length_map]
 have hget:∀k (h:k<L.length),L[k].1=fx fl k:=λk h=>by
  unfold fx
  rw[zt (by omega)]
  have:(L.map (·.1))[k]'(by rwa[List.length_map])=fl[k]'(by omega):=by congr 1
  rwa[List.getElem_map]at this
 refine Mo.load hB12 ?_
 refine zmh F hp hL12 hLc (hN.below hb12) λw13 hr M hM' hMl b13=>⟨some hr,rfl,?_⟩
 have hb13:=hb12.on b13
 have hB13:=hB12.below b13
 have hS13:=hS12.below b13
 have hL13:=hL12.below b13
 refine zj.countSl L.length (by omega) (λk s w'=>Below w13.heap.size w13 w'/\(∀j,j<k->flwE x pl fl j=none)/\zA w13.heap.size s/\∃bs:List Nat,bs.length=k/\Own w' 76 1 s (bs.map ptrV)/\
   ∀w'',Below w13.heap.size w13 w''->(∀i,i<w'.heap.size->s.a≠some (blk i)->w''.heap[i]? =w'.heap[i]?)->∀n (h:n<bs.length),IsBd w'' bs[n] x pl fl n)
  ⟨Below.refl _ _,λj h=>by omega,λa ha=>(by cases ha),[],rfl,Own.nil _ _ _,λ_ _ _ n h=>absurd h (Nat.not_lt_zero _)⟩ ?_
 rintro k s w14 hk ⟨b14,hgood,hFs,bs,hbl,hO,hbs⟩ next hnext
 have hb14:=hb13.on b14
 have hL14:=hL13.below b14
 have hB14:=hB13.below b14
 have hS14:=hS13.below b14
 refine zg (λh=>?_) (λh=>?_)
 rotate_left
 ·have hkl:k=L.length:=by dsimp only at h;omega
  refine st2 hS14 rfl λw9 hS9 c9=>?_
  have hb9:=c9.same hS14 hS9
  exact Sp.load hS9 (hok w9 s (hokn λn hn=>hgood n (by omega)) ⟨bs,by omega,hO.isS.below hb9,λn hn=>hbs w9 (b14.on hb9) (λi hi _=>hb9.block i hi) n hn⟩ (hb14.on hb9))
 have hlt:k<L.length:=by dsimp only at h;omega
 have hkf:k<fl.length:=by omega
 have hfe:=hget k hlt
 refine zmc hL14 hlt (zl λw15 hX15 b15 z15=>st5 hX15 rfl λw20 hX20 c20=>?_)
 have b20:Below w14.heap.size w14 w20:=c20.below b15 (Nat.le_refl _)
 have hX20:Blk w20 w14.heap.size 46 (fvV (L[k].1.id,L[k].1.at_,L[k].2.1,L[k].2.2,L[k].1.en,())):=hX20
 have hb20:=hb14.on b20
 have hFk:IsFn w13 (L[k].1.id,L[k].1.at_,L[k].2.1,L[k].2.2,L[k].1.en,()) (fx fl k):=by rw[<-hfe];exact hL13.isFn (List.getElem_mem hlt)
 have hF20:=hFk.below (b14.on b20)
 have hB20:=hB14.below b20
 have hS20:=hS14.below b20
 refine Mo.load hB20 (Fv.load (v:=(L[k].1.id,L[k].1.at_,L[k].2.1,L[k].2.2,L[k].1.en,())) hX20 ?_)
 refine zi5 (x:=x) (v:=(L[k].1.id,L[k].1.at_,L[k].2.1,L[k].2.2,L[k].1.en,())) (f:=fx fl k) (hN.below hb20) hp h0 hF20 (λw21 e a b21 he hne=>⟨none,⟨none,0,0⟩,(e,a,()),rfl,?_⟩) (λw21 gb ms b21 he _ hG hNx hM=>⟨some (blk gb),ms,(0,0,()),rfl,?_⟩)
 ·refine box2 rfl λw24 h24 b24 z24=>?_
  have b2024:=b21.on b24
  refine h24.rI0 rfl (zH (by simpa using hne) (Sp.load h24.drew ?_))
  have hn:flwE x pl fl k=some (e,a):=by
   unfold flwE
   rw[if_pos (by rw[<-he];exact hne),<-he]
  exact bad e a (hS20.below b2024).drew (hb20.on b2024).drew (hbadn hkf hn hgood) hne
 ·refine box2 rfl λw24 h24 b24 z24=>?_
  have b2024:=b21.on b24
  refine h24.rI0 rfl (zz rfl ?_)
  have hflw:flwE x pl fl k=bodE pl fl k:=by
   unfold flwE
   rw[if_neg (by rw[he];simp)]
  refine znf hNx (hG.isG.below b24) λw27 tb ov dp b27 hD hSt hDp=>⟨some (blk tb),0,rfl,?_⟩
  obtain⟨ob,db,rb,hT⟩:=hD
  have b2027:=b2024.on b27
  have hb27:=hb20.on b2027
  refine Mo.load (hB20.below b2027) (Fv.load (v:=(L[k].1.id,L[k].1.at_,L[k].2.1,L[k].2.2,L[k].1.en,())) (hX20.below b2027) (zl λw28 hY28 b28 z28=>?_))
  have hY28:Blk w28 w27.heap.size 83 (bdV x k (L[k].1.id,L[k].1.at_,L[k].2.1,L[k].2.2,L[k].1.en,()) hr gb tb):=hY28
  have b2028:=b2027.on b28
  have b1428:=b20.on b2028
  have hG27:=(hG.below b24).below b27
  have mk:∀w'',Below w13.heap.size w13 w''->Blk w'' w27.heap.size 83 (bdV x k (L[k].1.id,L[k].1.at_,L[k].2.1,L[k].2.2,L[k].1.en,()) hr gb tb)->TB w'' tb gb ob db rb (nxF pl fl k).length (λi=>ovI (ov i)) dp (rkI (zv (nxF pl fl k)))->IsG w'' gb (nxF pl fl k)->IsBd w'' w27.heap.size x pl fl k:=
   λw'' b hY hTB hGG=>⟨_,hr,gb,tb,M,ov,dp,hY,(hN.below hb13).below b,hFk.below b,hM'.below b,hMl,hGG,⟨hNx,⟨gb,ob,db,rb,hTB,hGG⟩,hSt,hDp⟩⟩
  have hBd:=mk w28 (b14.on b1428) hY28 (hT.below b28) (hG27.below b28).isG
  refine zlX F hp hkf hBd λw29 b29=>⟨((bodS pl fl k).1,(bodS pl fl k).2,()),rfl,?_⟩
  refine box2 rfl λw32 h32 b32 z32=>?_
  have b2832:=b29.on b32
  have b1432:=b1428.on b2832
  refine h32.rI0 rfl (zE (λe=>?_) (λe=>?_))
  ·have e:(bodS pl fl k).1≠0:=e
   exact Sp.load h32.drew (bad _ _ (hS14.below b1432).drew (hb14.on b1432).drew (hbadn hkf (by rw[hflw,zq5 e]) hgood) e)
  ·have e:(bodS pl fl k).1=0:=e
   refine zl λw35 h35 b35 z35=>?_
   have b1435:=b1432.on b35
   have hsl:s.l=k:=by have:=hO.1;simp only[List.length_map]at this;omega
   have hO35:=hO.below b1435
   refine zeA ePtr hO35 (vs:=[ptrV w27.heap.size]) rfl (λu hu=>by rw[List.mem_singleton.1 hu];rfl) h35 (by omega) (by omega) λr w36 b' hr36 _ hra hb' f36=>?_
   have z14:=b14.size
   have z1435:=b1435.size
   have b36:Below w13.heap.size w13 w36:=zcx (b14.on b1435) f36 λi hi=>hFs _ hi
   have hF36:zA w13.heap.size r:=λa ha=>by
    rw[hra]at ha
    cases ha
    rcases hb' with h |h
    ·exact hFs _ h
    ·show w13.heap.size<=b'
     omega
   refine hnext r w36 hlt ⟨b36,λj hj=>?_,hF36,bs++[w27.heap.size],by rw[List.length_append,hbl];rfl,by rw[List.map_append];exact hr36,λw'' b'' hk'' n hn=>?_⟩
   ·by_cases ej:j=k
    ·subst ej;rw[hflw,zq4 e]
    ·exact hgood j (by omega)
   have z36:=f36.size
   have keep:∀i,i<w35.heap.size->s.a≠some (blk i)->w''.heap[i]? =w35.heap[i]?:=λi hi hne=>by
    rw[hk'' i (by omega) λe=>?_]
    ·exact f36.block i hi hne
    ·rw[hra]at e
     have e:b'=i:=by cases e;rfl
     subst e
     rcases hb' with h |h
     ·exact hne h
     ·omega
   rw[List.length_append,List.length_singleton]at hn
   by_cases en:n=k
   ·subst en
    rw[List.getElem_append_right (by omega)]
    simp only[hbl,Nat.sub_self,List.getElem_singleton]
    have off:∀{b:Nat} {T:TypeId} {cs:List Value},Blk w35 b T cs->T≠76->Blk w'' b T cs:=λ{b T cs} h hT=>h.of_block (keep b h.lt λe=>by
     obtain⟨cs',hc⟩:=hO35.type e
     exact hT (Blk.type h hc))
    have b2835:=b2832.on b35
    have hT35:=(hT.below b28).below b2835
    have hlow:∀i,w20.heap.size<=i->i<w35.heap.size->w''.heap[i]? =w35.heap[i]?:=λi h1 h2=>keep i h2 λe=>by
     have h3:i<w14.heap.size:=(hO.lt e).2
     have:=b20.size
     omega
    refine mk w'' b'' (off (hY28.below b2835) (by decide)) ⟨off hT35.t (by decide),off hT35.o (by decide),off hT35.d (by decide),off hT35.r (by decide),hT35.ne⟩ ((((hG27.below b28).below b2835).keep hlow).isG)
   ·rw[List.getElem_append_left (by omega)]
    refine hbs w'' b'' (λi hi hne=>?_) n (by omega)
    rw[keep i (by omega) hne]
    exact b1435.block i hi
end
end Go.Proofs
namespace Go.Proofs
open Go.Gk
set_option linter.unusedVariables false
set_option maxRecDepth 100000
def zab:Ann:=(.q (.q .nil))
def YV  (R:VWP) (w:World):Prop:=dx52 30 #[.bool false] w λx2 w1=>dh 12 #[.agg #[zu x2.1,zu x2.2.1,x2.2.2.1.zw]] w1 λx4 w2=>ifB (x4.1==0&&(x4.2.1==0&&true)) (dx52 30 #[.bool true] w2 λx6 w3=>dh 12 #[.agg #[zu x6.1,zu x6.2.1,x6.2.2.1.zw]] w3 λx8 w4=>R (.bool (x8.1==190&&(x8.2.1==7&&true))) w4) (R (.bool false) w2)
theorem zbZ(R)(w)(h:YV  R w):Calls Tryz.prog 11 #[] w (Ret R):=lwC zab Tryz.func11 (by kernel_rfl) (by kernel_rfl) h
def Yu:Ann:=(.q (.seq none (.q (.one (.loop ⟨[0,1],[(5,(.b (.int .i64)))]⟩ (.seq none (.q .c) (.seq none (.one (.q (.cond (.q .nil) .nil))) .nil))))) (.q .nil)))
def Yo(p0:Sl)(p1:Int)(R:VWP)(w:World):Prop:=zj (S:=Int×Unit) (λs1 w1 n2=>ifB (decide (s1.1<(p0.l:Int))) ((0<=s1.1/\s1.1<(p0.l:Int))/\za p0.a λa3=>ldI w1 (a3.add s1.1.toNat) .u32 λx4=>ifB (x4==p1) (R (.bool true) w1) (n2 ((IntKind.i64.wrap (s1.1+(1:Int))),()) w1)) (R (.bool false) w1)) (0,()) w
theorem zbn(p0)(p1)(R)(w)(h:Yo p0 p1 R w):Calls Tryz.prog 18 #[.slice p0.a p0.l p0.c,.int .u32 p1] w (Ret R):=lwC Yu Tryz.func18 (by kernel_rfl) (by kernel_rfl) h
def YC:Ann:=(.q (.q (.seq (some ⟨[2,3],[]⟩) (.q .c) (.q .nil))))
def Y8(p0:Bool)(R:VWP)(w:World):Prop:=Nw (w.alloc (.cells #[zu 0,zu 0,.slice none 0 0] 25)) λw1=>dx53 64 #[zu 0] w1 λx2 w2=>dx53 64 #[zu 0] w2 λx4 w3=>Nw (w3.alloc (.cells #[zb x2.1,zu x2.2.1,.string x2.2.2.1,zb x4.1,zu x4.2.1,.string x4.2.2.1] 136)) λw4=>dx53 65 #[zu 1] w4 λx6 w5=>Nw (w5.alloc (.cells #[zb x6.1,zu x6.2.1,.string x6.2.2.1] 136)) λw6=>dx53 64 #[zu 0] w6 λx8 w7=>dx53 65 #[zu 2] w7 λx10 w8=>Nw (w8.alloc (.cells #[zb x8.1,zu x8.2.1,.string x8.2.2.1,zb x10.1,zu x10.2.1,.string x10.2.2.1] 136)) λw9=>dx53 65 #[zu 8] w9 λx12 w10=>Nw (w10.alloc (.cells #[zb x12.1,zu x12.2.1,.string x12.2.2.1] 136)) λw11=>dx53 65 #[zu 5] w11 λx14 w12=>Nw (w12.alloc (.cells #[zb x14.1,zu x14.2.1,.string x14.2.2.1] 136)) λw13=>Nw (w13.alloc (.cells #[zh 14,zu 0,zu 0,.slice (some (zB w3)) 2 2,zh 19,zu 0,zu 1,.slice none 0 0,zh 33,zu 0,zu 2,.slice (some (zB w5)) 1 1,zh 20,zu 0,zu 7,.slice none 0 0,zh 41,zu 7,zu 8,.slice none 0 0,zh 54,zu 1,zu 3,.slice (some (zB w8)) 2 2,zh 248,zu 0,zu 4,.slice none 0 0,zh 83,zu 7,zu 5,.slice (some (zB w10)) 1 1,zh 83,zu 7,zu 6,.slice (some (zB w12)) 1 1,zh 253,zu 0,zu 0,.slice none 0 0,zh 56,zu 0,zu 0,.slice none 0 0] 50)) λw14=>dm w14 #[zu 0,zu 0,.slice none 0 0] 25 (zu 0) (zu 10) (.slice (some (zB w13)) 11 11) λw18=>zk (S:=Unit) (λm15=>ifB p0 (ldS w18 ((zB w14).add 2) λx17=>(0<=(7:Int)/\7<(x17.l:Int))/\za x17.a λa18=>ldS w18 ((a18.add (7*4)).add 3) λx19=>(0<=(0:Int)/\0<(x19.l:Int))/\za x19.a λa20=>Wr w18 ((a20.add (0*3)).add 1)/\Nw (w18.setCell ((a20.add (0*3)).add 1) (zu 6)) λw19=>m15 () w19) (m15 () w18)) (λs16 w20=>da w20 (zB w14) λx21 x22 x23=>ds w20 (zB w) (zu x21) (zu x22) (x23.zw) λw23=>da w23 (zB w) λx24 x25 x26=>R (.agg #[zu x24,zu x25,x26.zw]) w23)
theorem zb0(p0)(R)(w)(h:Y8 p0 R w):Calls Tryz.prog 30 #[.bool p0] w (Ret R):=lwC YC Tryz.func30 (by kernel_rfl) (by kernel_rfl) h
def zbe:Ann:=(.q (.q .nil))
def zaW(p0:Int)(R:VWP)(w:World):Prop:=Nw (w.alloc (.cells #[zb 0,zu 0,.string (BM #[])] 136)) λw1=>ds w1 (zB w) (zb 4) (zu p0) (.string (BM #[])) λw4=>dr w4 (zB w) λx1 x2 x3=>R (.agg #[zb x1,zu x2,.string x3]) w4
theorem zcP(p0)(R)(w)(h:zaW p0 R w):Calls Tryz.prog 64 #[.int .u32 p0] w (Ret R):=lwC zbe Tryz.func64 (by kernel_rfl) (by kernel_rfl) h
def zcv:Ann:=(.q (.q .nil))
def zck(p0:Int)(R:VWP)(w:World):Prop:=Nw (w.alloc (.cells #[zb 0,zu 0,.string (BM #[])] 136)) λw1=>ds w1 (zB w) (zb 1) (zu p0) (.string (BM #[])) λw4=>dr w4 (zB w) λx1 x2 x3=>R (.agg #[zb x1,zu x2,.string x3]) w4
theorem zeh(p0)(R)(w)(h:zck p0 R w):Calls Tryz.prog 65 #[.int .u32 p0] w (Ret R):=lwC zcv Tryz.func65 (by kernel_rfl) (by kernel_rfl) h
end Go.Proofs
namespace Go.Proofs
open Go.Gk
set_option linter.unusedVariables false
set_option maxRecDepth 100000
end Go.Proofs
namespace Go.Proofs
open Go.Gk
set_option linter.unusedVariables false
set_option maxRecDepth 100000
end Go.Proofs
namespace Go.Proofs
open Go.Gk Go.RowKit Go.Gm
end Go.Proofs
namespace Go.Proofs
open Go.Gk Go.RowKit Go.Gm
theorem zln{α:Type}{f:α->α}{y:α}:∀{l:List α},y∈modL f l->y∈l\/∃x∈l,y=f x
 | [],h=>by cases h
 | [x],h=>.inr ⟨x,by simp,List.mem_singleton.1 h⟩
 |x::z::r,h=>by
  rcases List.mem_cons.1 h with h |h
  ·exact .inl (h▸List.mem_cons_self ..)
  ·rcases zln (l:=z::r) h with h | ⟨u,hu,e⟩
   ·exact .inl (List.mem_cons_of_mem _ h)
   ·exact .inr ⟨u,List.mem_cons_of_mem _ hu,e⟩
theorem ziI{α:Type}{f:α->α}:∀l:List α,(modL f l).length=l.length
 | []=>rfl
 | [_]=>rfl
 |x::z::r=>by
  have:=ziI (f:=f) (z::r)
  simp only[modL,List.length_cons]at this⊢
  omega
theorem zkL(pl:List PI):∀n,(cutF pl n).length<=n/\∀f∈cutF pl n,f.ps.length<=n/\f.bk.length<=n
 | 0=>⟨Nat.le_refl _,λf h=>by cases h⟩
 |n+1=>by
  obtain⟨h1,h2⟩:=zkL pl n
  have key:∀g:FnL->FnL,(∀f∈cutF pl n,(g f).ps.length<=n+1/\(g f).bk.length<=n+1)->(modL g (cutF pl n)).length<=n+1/\∀f∈modL g (cutF pl n),f.ps.length<=n+1/\f.bk.length<=n+1:=λg hg=>by
   refine⟨by rw[ziI];omega,λf hf=>?_⟩
   rcases zln hf with hf | ⟨x,hx,rfl⟩
   ·have:=h2 f hf;omega
   ·exact hg x hx
  show(cutS (cutF pl n) n (ix pl n)).length<=n+1/\∀f∈cutS (cutF pl n) n (ix pl n),_
  unfold cutS
  split
  ·refine⟨by simp;omega,λf hf=>?_⟩
   rcases List.mem_append.1 hf with hf |hf
   ·have:=h2 f hf;omega
   ·rw[List.mem_singleton.1 hf];simp
  split
  ·exact key _ λf hf=>by have:=h2 f hf;simp;omega
  split
  ·exact key _ λf hf=>by have:=h2 f hf;simp;omega
  split
  ·exact key _ λf hf=>by have:=h2 f hf;simp;omega
  split
  ·exact key _ λf hf=>by have:=h2 f hf;simp only[ziI];omega
  ·exact⟨by omega,λf hf=>by have:=h2 f hf;omega⟩
end Go.Proofs
namespace Go.Proofs
open Go.Gk Go.RowKit Go.Gm
end Go.Proofs
namespace Go.Proofs
open Go.Gk Go.RowKit Go.Gr
end Go.Proofs
namespace Go.Proofs
open Go.Gk Go.RowKit Go.Gm
end Go.Proofs
namespace Go.Proofs
open Go.Gk
set_option linter.unusedVariables false
set_option maxRecDepth 100000
end Go.Proofs
namespace Go.Proofs
open Go.Gk Go.RowKit Go.Gm
noncomputable def nxE(x:Mo)(pl:List PI)(f:FnL):List (List Nat):=if (gnwE x pl f).1=0 then Zz (Y2 pl f.bk) else []
noncomputable def mvE(x:Mo)(pl:List PI)(f:FnL):List Mg:=if (gnwE x pl f).1=0 then mgsP pl f.bk else []
section
variable {x:Mo} {pl:List PI} {w:World} {R:VWP} {v:Fv} {f:FnL}
theorem IsM.none(w:World):IsM w ⟨none,0,0⟩ []:=⟨rfl,Nat.le_refl _,Nat.zero_le _,λ_=>rfl,λa ha=>by cases ha⟩
theorem zo4(hN:IsPl w x.2.2.1 pl)(hp:PlOk pl)(h0:0<=x.2.1)(hf:IsFn w v f)
  (hR:∀w' p ms,Below w.heap.size w w'->GP w' p (nxE x pl f)->IsM w' ms (mvE x pl f)->R (.tuple #[.pointer p,.slice ms.a ms.l ms.c,.agg #[.int .i64 (gnwE x pl f).1,.int .i64 (gnwE x pl f).2]]) w') :
  cR 14 #[moA x,fvA v] w R:=by
 refine znu (x:=x) (v:=v) hN hp h0 hf (λw' e a hb he hne=>?_) (λw' gb ms hb h0' _ hG hNx hM=>?_)
 ·have:=hR w' none ⟨none,0,0⟩ hb
  unfold nxE mvE at this
  rw[<-he,if_neg hne,if_neg hne]at this
  exact this (.inl ⟨rfl,rfl⟩) (IsM.none _)
 ·have:=hR w' (some (blk gb)) ms hb
  unfold nxE mvE at this
  rw[h0',if_pos rfl,if_pos rfl]at this
  exact this (.inr ⟨gb,rfl,hNx,hG⟩) hM
theorem znv(h:(gnwE x pl f).1=0):gnwE x pl f=(0,0):=by
 unfold gnwE at h⊢
 split at h
 ·rename_i e;exact absurd h e
 rename_i e
 rw[if_neg e]
 split at h
 ·exact absurd h (by decide)
 rename_i e2
 rw[if_neg e2]
 split at h
 ·exact absurd (show(4:Int)=0 from h) (by decide)
 rename_i e3
 rw[if_neg e3]
 cases e4:f.bk.findSome? (blkE pl f.bk) with
 |none=>rfl
 |some a=>rw[e4]at h;exact absurd (show(140:Int)=0 from h) (by decide)
theorem zlq{w23:World}{b:Nat}{p:Option Addr}{ms:Sl}(c:Chg b w w23)(h:Blk w b 29 [.int .i64 0,.int .i64 0])(h':Blk w23 b 29 [.int .i64 (gnwE x pl f).1,.int .i64 (gnwE x pl f).2])
  (hG:GP w p (nxE x pl f)) (hM:IsM w ms (mvE x pl f)):GP w23 p (nxE x pl f)/\IsM w23 ms (mvE x pl f):=by
 by_cases e:(gnwE x pl f).1=0
 ·rw[znv e]at h'
  have b:=c.same h h'
  exact⟨hG.below b,IsC.below zhW hM b⟩
 ·unfold nxE at hG⊢
  unfold mvE at hM⊢
  rw[if_neg e]at hG hM⊢
  rw[if_neg e]
  refine⟨?_,⟨IsC.len hM,hM.cap,hM.max,hM.nil,λa ha k hk=>absurd hk (Nat.not_lt_zero _)⟩⟩
  rcases hG with h | ⟨gb,_,hNx,_⟩
  ·exact .inl h
  ·exact absurd hNx.pos (by simp)
end
end Go.Proofs
namespace Go.Proofs
open Go.Gk Go.RowKit Go.Gm
end Go.Proofs
namespace Go.Proofs
open Go.Gk Go.RowKit Go.Gm Go.Gr Go.Dm
end Go.Proofs
namespace Go.Proofs
open Go.Gk Go.RowKit Go.Gm Go.Gr Go.Dm
section
variable {x:Mo} {pl:List PI} {w:World} {R:VWP}
theorem zdT(hN:IsPl w x.2.2.1 pl)(hp:PlOk pl)(h0:0<=x.2.1)(hR:∀w',Below w.heap.size w w'->R (.agg #[.int .i64 (floE x pl).1,.int .i64 (floE x pl).2]) w'):cR 12 #[moA x] w R:=by
 refine zc.of (zgW x R w ?_) λ_ _ h=>h
 refine zl λw1 hB1 b1 z1=>?_
 have hB1:Blk w1 w.heap.size 25 (moV x):=hB1
 refine zl λw2 hS2 b2 z2=>?_
 have hS2:Blk w2 w1.heap.size 29 [.int .i64 0,.int .i64 0]:=hS2
 have hb2:=b1.on b2
 have s1:=b1.size
 refine Mo.load (hB1.below b2) (zh0 (x:=x) (hN.below hb2) hp h0 (λw3 _ b3=>⟨⟨none,0,0⟩,((floE x pl).1,(floE x pl).2,()),rfl,?_⟩) (λw3 s hF _ b3=>⟨s,(0,0,()),rfl,?_⟩))
 ·refine box2 rfl λw6 h6 b6 z6=>Sp.load h6 (st2 ((hS2.below b3).below b6) rfl λw8 h8 c8=>Sp.load h8 (hR w8 (c8.below (hb2.on (b3.on b6)) (by omega))))
 ·refine box2 rfl λw6 h6 b6 z6=>Sp.load h6 (st2 ((hS2.below b3).below b6) rfl λw8 h8 c8=>Sp.load h8 ?_)
  have:=hR w8 (c8.below (hb2.on (b3.on b6)) (by omega))
  rw[zo2 hF]at this
  exact this
end
end Go.Proofs
namespace Go.Proofs
open Go.Gk Go.RowKit Go.Gm Go.Gr Go.Dm
section
variable {x:Mo} {pl:List PI} {fl:List FnL} {w:World} {R:VWP} {id q:Int}
theorem zra(hp:PlOk pl)(h0:0<=x.2.1)(hs:(zK x.2.1 pl).1=0)(h:0<=mkA pl id):0<=id/\id<x.2.1:=by
 unfold mkA ya at h
 cases hq:(List.range pl.length).find? (mk1 pl id) with
 |none=>rw[hq]at h;exact absurd h (by decide)
 |some k=>
  obtain⟨hk,hm,_⟩:=zal hq
  unfold mk1 at hm
  rw[Bool.and_eq_true,beq_iff_eq]at hm
  have:=zjf hp h0 hs pl[k] (List.getElem_mem hk)
  have e:(ix pl k).2.2.1=id:=hm.1
  rw[Zm hk]at e
  rwa[e]at this
end
end Go.Proofs
namespace Go.Proofs
open Go.Gk Go.RowKit Go.Gm Go.Gr Go.Dm
end Go.Proofs
namespace Go.Proofs
open Go.Gk
set_option linter.unusedVariables false
set_option maxRecDepth 100000
def Z8:Ann:=(.q (.seq none (.q (.cond (.q .nil) .nil)) (.seq none (.q (.cond (.q .nil) .nil)) (.q (.seq (some ⟨[1,2,5],[]⟩) (.q (.cond (.q .nil) .nil)) (.seq (some ⟨[1,2,5],[(7,(.b .slice)),(8,(.b .ptr))]⟩) .nil (.seq none (.q (.cond (.q .nil) .nil)) (.seq none (.q (.one (.loop ⟨[1,2,5,7],[(9,(.b (.int .i64)))]⟩ (.seq none (.q .c) (.seq none (.one (.q (.seq none (.q (.one (.loop ⟨[1,2,5,7,9],[(10,(.b .bool)),(11,(.b (.int .i64)))]⟩ (.seq none (.q .c) (.seq (some ⟨[1,2,5,7,9,11],[(10,(.b .bool))]⟩) (.one (.q .c)) .nil))))) (.q (.cond (.q .nil) .nil))))) .nil))))) (.seq (some ⟨[1,2,5],[(12,(.b .ptr))]⟩) .nil (.seq none (.q (.one (.loop ⟨[1,2,5,12],[(15,(.b (.int .i64)))]⟩ (.seq none (.q .c) (.seq (some ⟨[1,2,5,12,15],[]⟩) (.one (.seq none (.q .c) (.seq (some ⟨[1,2,5,12,15],[(16,(.b .slice))]⟩) .nil (.q (.q (.one (.loop ⟨[1,2,5,12,15,16,18],[(19,(.b (.int .i64)))]⟩ (.seq none (.q .c) (.seq none (.one (.q (.seq (some ⟨[1,2,5,12,15,16,18,19,20],[(21,(.b .slice))]⟩) .nil (.q (.one (.loop ⟨[1,2,5,12,15,16,18,19,20,21],[(23,(.b (.int .i64)))]⟩ (.seq none (.q .c) (.seq (some ⟨[1,2,5,12,15,16,18,19,20,21,23],[]⟩) (.one (.q (.seq none (.q (.one (.loop ⟨[1,2,5,12,15,16,18,19,20,21,23],[(24,(.b .bool)),(25,(.b (.int .i64)))]⟩ (.seq none (.q .c) (.seq (some ⟨[1,2,5,12,15,16,18,19,20,21,23,25],[(24,(.b .bool))]⟩) (.one (.q .c)) .nil))))) (.q (.cond (.q .nil) .nil))))) .nil)))))))) .nil))))))))) .nil))))) (.q .nil)))))))))))
def Z7(p0:(Int×Int×Sl×Unit))(p1:Int)(R:VWP)(w:World):Prop:=Nw (w.alloc (.cells #[zu p0.1,zu p0.2.1,p0.2.2.1.zw] 25)) λw1=>dv 11 #[] w1 λx2 w2=>ifB (!x2) (R (.bool false) w2) (da w2 (zB w) λx3 x4 x5=>dx52 8 #[.agg #[zu x3,zu x4,x5.zw]] w2 λx7 w3=>dh 12 #[.agg #[zu x7.1,zu x7.2.1,x7.2.2.1.zw]] w3 λx9 w4=>ifB (x9.1 !=0) (R (.bool true) w4) (da w4 (zB w) λx10 x11 x12=>dx52 8 #[.agg #[zu x10,zu x11,x12.zw]] w4 λx14 w5=>de 13 #[.agg #[zu x14.1,zu x14.2.1,x14.2.2.1.zw]] w5 λx16 x17 w6=>dc w6 #[zi 0,zi 0] 29 (zi x17.1) (zi x17.2.1) λw9=>zk (S:=Unit) (λm18=>ifB (decide (p1<(0:Int))) (R (.bool true) w9) (ifB (decide (p1≥(x16.l:Int))) (R (.bool true) w9) (m18 () w9))) (λs19 w10=>zk (S:=Sl×(Option Addr)×Unit) (λm20=>da w10.drew (zB w) λx22 x23 x24=>(0<=p1/\p1<(x16.l:Int))/\za x16.a λa25=>ldS w10.drew ((a25.add (p1.toNat *5)).add 3) λx26=>(0<=(0:Int)/\0<(x26.l:Int))/\za x26.a λa27=>ldI w10.drew (a27.add (0*3)) .u32 λx28=>(dx52 8 #[.agg #[zu x22,zu x23,x24.zw]] w10.drew λx30 w11=>w11.cell? (a27.add (0*3))=some (zu x28)/\w11.cell? ((a25.add (p1.toNat *5)).add 3)=some (x26.zw)/\(de 7 #[.agg #[zu x30.1,zu x30.2.1,x30.2.2.1.zw],zu x28] w11 λx32 x33 w12=>dc w12 #[zi 0,zi 0] 29 (zi x33.1) (zi x33.2.1) λw15=>m20 (x32,(some (zB w12)),()) w15)/\Nw (w11.alloc (.cells #[zi 0,zi 0] 29)) λw16=>w16.cell? (a27.add (0*3))=some (zu x28)/\w16.cell? ((a25.add (p1.toNat *5)).add 3)=some (x26.zw)/\de 7 #[.agg #[zu x30.1,zu x30.2.1,x30.2.2.1.zw],zu x28] w16 λx35 x36 w17=>dd w17 (zB w11) (zi x36.1) (zi x36.2.1) λw19=>m20 (x35,(some (zB w11)),()) w19)/\Nw (w10.drew.alloc (.cells #[zi 0,zi 0] 29)) λw20=>w20.cell? (a27.add (0*3))=some (zu x28)/\w20.cell? ((a25.add (p1.toNat *5)).add 3)=some (x26.zw)/\w20.cell? ((zB w).add 0)=some (zu x22)/\w20.cell? ((zB w).add 1)=some (zu x23)/\w20.cell? ((zB w).add 2)=some (x24.zw)/\dx52 8 #[.agg #[zu x22,zu x23,x24.zw]] w20 λx38 w21=>w21.cell? (a27.add (0*3))=some (zu x28)/\w21.cell? ((a25.add (p1.toNat *5)).add 3)=some (x26.zw)/\de 7 #[.agg #[zu x38.1,zu x38.2.1,x38.2.2.1.zw],zu x28] w21 λx40 x41 w22=>dd w22 (blk w10.drew.heap.size) (zi x41.1) (zi x41.2.1) λw24=>m20 (x40,(some (blk w10.drew.heap.size)),()) w24) (λs21 w25=>za s21.2.1 λa42=>ldI w25 a42 .i64 λx43=>ifB (x43 !=0) (R (.bool false) w25) (zj (S:=Int×Unit) (λs44 w26 n45=>ifB (decide (s44.1<(s21.1.l:Int))) (zj (S:=Bool×Int×Unit) (λs46 w27 n47=>(0<=p1/\p1<(x16.l:Int))/\za x16.a λa48=>ldS w27 ((a48.add (p1.toNat *5)).add 2) λx49=>ifB (decide (s46.2.1<(x49.l:Int))) (zk (S:=Bool×Unit) (λm50=>ldS w27.drew ((zB w).add 2) λx52=>(0<=p1/\p1<(x16.l:Int))/\za x16.a λa53=>ldS w27.drew ((a53.add (p1.toNat *5)).add 2) λx54=>(0<=s46.2.1/\s46.2.1<(x54.l:Int))/\za x54.a λa55=>ldI w27.drew (a55.add s46.2.1.toNat) .i64 λx56=>(0<=x56/\x56<(x52.l:Int))/\za x52.a λa57=>ldI w27.drew ((a57.add (x56.toNat *4)).add 2) .u32 λx58=>(0<=s44.1/\s44.1<(s21.1.l:Int))/\za s21.1.a λa59=>ldI w27.drew (a59.add s44.1.toNat) .u32 λx60=>ifB (x58==x60) (m50 (true,()) w27.drew) (m50 (s46.1,()) w27.drew)) (λs51 w28=>n47 (s51.1,(IntKind.i64.wrap (s46.2.1+(1:Int))),()) w28)) (ifB (!s46.1) (R (.bool false) w27) (n45 ((IntKind.i64.wrap (s44.1+(1:Int))),()) w27))) (false,0,()) w26) (zk (S:=(Option Addr)×Unit) (λm61=>da w26.drew (zB w) λx63 x64 x65=>(0<=p1/\p1<(x16.l:Int))/\za x16.a λa66=>df w26.drew (a66.add (p1.toNat *5)) λx67 x68 x69 x70 x71=>(dx52 8 #[.agg #[zu x63,zu x64,x65.zw]] w26.drew λx73 w29=>w29.cell? ((a66.add (p1.toNat *5)).add 0)=some (zu x67)/\w29.cell? ((a66.add (p1.toNat *5)).add 1)=some (zi x68)/\w29.cell? ((a66.add (p1.toNat *5)).add 2)=some (x69.zw)/\w29.cell? ((a66.add (p1.toNat *5)).add 3)=some (x70.zw)/\w29.cell? ((a66.add (p1.toNat *5)).add 4)=some (zi x71)/\(dj 14 #[.agg #[zu x73.1,zu x73.2.1,x73.2.2.1.zw],.agg #[zu x67,zi x68,x69.zw,x70.zw,zi x71]] w29 λx75 x76 x77 w30=>dc w30 #[zi 0,zi 0] 29 (zi x77.1) (zi x77.2.1) λw33=>m61 (x75,()) w33)/\Nw (w29.alloc (.cells #[zi 0,zi 0] 29)) λw34=>w34.cell? ((a66.add (p1.toNat *5)).add 0)=some (zu x67)/\w34.cell? ((a66.add (p1.toNat *5)).add 1)=some (zi x68)/\w34.cell? ((a66.add (p1.toNat *5)).add 2)=some (x69.zw)/\w34.cell? ((a66.add (p1.toNat *5)).add 3)=some (x70.zw)/\w34.cell? ((a66.add (p1.toNat *5)).add 4)=some (zi x71)/\dj 14 #[.agg #[zu x73.1,zu x73.2.1,x73.2.2.1.zw],.agg #[zu x67,zi x68,x69.zw,x70.zw,zi x71]] w34 λx79 x80 x81 w35=>dd w35 (zB w29) (zi x81.1) (zi x81.2.1) λw37=>m61 (x79,()) w37)/\Nw (w26.drew.alloc (.cells #[zi 0,zi 0] 29)) λw38=>w38.cell? ((a66.add (p1.toNat *5)).add 0)=some (zu x67)/\w38.cell? ((a66.add (p1.toNat *5)).add 1)=some (zi x68)/\w38.cell? ((a66.add (p1.toNat *5)).add 2)=some (x69.zw)/\w38.cell? ((a66.add (p1.toNat *5)).add 3)=some (x70.zw)/\w38.cell? ((a66.add (p1.toNat *5)).add 4)=some (zi x71)/\w38.cell? ((zB w).add 0)=some (zu x63)/\w38.cell? ((zB w).add 1)=some (zu x64)/\w38.cell? ((zB w).add 2)=some (x65.zw)/\dx52 8 #[.agg #[zu x63,zu x64,x65.zw]] w38 λx83 w39=>w39.cell? ((a66.add (p1.toNat *5)).add 0)=some (zu x67)/\w39.cell? ((a66.add (p1.toNat *5)).add 1)=some (zi x68)/\w39.cell? ((a66.add (p1.toNat *5)).add 2)=some (x69.zw)/\w39.cell? ((a66.add (p1.toNat *5)).add 3)=some (x70.zw)/\w39.cell? ((a66.add (p1.toNat *5)).add 4)=some (zi x71)/\dj 14 #[.agg #[zu x83.1,zu x83.2.1,x83.2.2.1.zw],.agg #[zu x67,zi x68,x69.zw,x70.zw,zi x71]] w39 λx85 x86 x87 w40=>dd w40 (blk w26.drew.heap.size) (zi x87.1) (zi x87.2.1) λw42=>m61 (x85,()) w42) (λs62 w43=>zj (S:=Int×Unit) (λs88 w44 n89=>dB 15 #[.pointer s62.1] w44 λx91 w45=>ifB (decide (s88.1<x91)) (zk (S:=Unit) (λm92=>dv 16 #[.pointer s62.1,zi s88.1] w45 λx95 w46=>ifB (!x95) (m92 () w46) (zk (S:=Sl×Unit) (λm96=>da w46.drew (zB w) λx98 x99 x100=>(0<=p1/\p1<(x16.l:Int))/\za x16.a λa101=>ldS w46.drew ((a101.add (p1.toNat *5)).add 3) λx102=>(0<=s88.1/\s88.1<(x102.l:Int))/\za x102.a λa103=>ldI w46.drew (a103.add (s88.1.toNat *3)) .u32 λx104=>(dx52 8 #[.agg #[zu x98,zu x99,x100.zw]] w46.drew λx106 w47=>w47.cell? (a103.add (s88.1.toNat *3))=some (zu x104)/\w47.cell? ((a101.add (p1.toNat *5)).add 3)=some (x102.zw)/\(de 7 #[.agg #[zu x106.1,zu x106.2.1,x106.2.2.1.zw],zu x104] w47 λx108 x109 w48=>dc w48 #[zi 0,zi 0] 29 (zi x109.1) (zi x109.2.1) λw51=>m96 (x108,()) w51)/\Nw (w47.alloc (.cells #[zi 0,zi 0] 29)) λw52=>w52.cell? (a103.add (s88.1.toNat *3))=some (zu x104)/\w52.cell? ((a101.add (p1.toNat *5)).add 3)=some (x102.zw)/\de 7 #[.agg #[zu x106.1,zu x106.2.1,x106.2.2.1.zw],zu x104] w52 λx111 x112 w53=>dd w53 (zB w47) (zi x112.1) (zi x112.2.1) λw55=>m96 (x111,()) w55)/\Nw (w46.drew.alloc (.cells #[zi 0,zi 0] 29)) λw56=>w56.cell? (a103.add (s88.1.toNat *3))=some (zu x104)/\w56.cell? ((a101.add (p1.toNat *5)).add 3)=some (x102.zw)/\w56.cell? ((zB w).add 0)=some (zu x98)/\w56.cell? ((zB w).add 1)=some (zu x99)/\w56.cell? ((zB w).add 2)=some (x100.zw)/\dx52 8 #[.agg #[zu x98,zu x99,x100.zw]] w56 λx114 w57=>w57.cell? (a103.add (s88.1.toNat *3))=some (zu x104)/\w57.cell? ((a101.add (p1.toNat *5)).add 3)=some (x102.zw)/\de 7 #[.agg #[zu x114.1,zu x114.2.1,x114.2.2.1.zw],zu x104] w57 λx116 x117 w58=>dd w58 (blk w46.drew.heap.size) (zi x117.1) (zi x117.2.1) λw60=>m96 (x116,()) w60) (λs97 w61=>dn 17 #[.pointer s62.1,zi s88.1] w61 λx119 w62=>zj (S:=Int×Unit) (λs120 w63 n121=>ifB (decide (s120.1<(x119.l:Int))) ((0<=p1/\p1<(x16.l:Int))/\za x16.a λa122=>ldS w63.drew ((a122.add (p1.toNat *5)).add 3) λx123=>(0<=s120.1/\s120.1<(x119.l:Int))/\za x119.a λa124=>ldI w63.drew (a124.add s120.1.toNat) .i64 λx125=>(0<=x125/\x125<(x123.l:Int))/\za x123.a λa126=>dl w63.drew (a126.add (x125.toNat *3)) λx127 x128 x129=>Nw (w63.drew.alloc (.cells #[zu 0,zi 0,zi 0] 42)) λw64=>w64.cell? ((a126.add (x125.toNat *3)).add 0)=some (zu x127)/\w64.cell? ((a126.add (x125.toNat *3)).add 1)=some (zi x128)/\w64.cell? ((a126.add (x125.toNat *3)).add 2)=some (zi x129)/\w64.cell? (a124.add s120.1.toNat)=some (zi x125)/\w64.cell? ((a122.add (p1.toNat *5)).add 3)=some (x123.zw)/\ds w64 (blk w63.drew.heap.size) (zu x127) (zi x128) (zi x129) λw67=>zk (S:=Sl×Unit) (λm130=>da w67.drew (zB w) λx132 x133 x134=>ldI w67.drew (blk w63.drew.heap.size) .u32 λx135=>(dx52 8 #[.agg #[zu x132,zu x133,x134.zw]] w67.drew λx137 w68=>w68.cell? (blk w63.drew.heap.size)=some (zu x135)/\(de 7 #[.agg #[zu x137.1,zu x137.2.1,x137.2.2.1.zw],zu x135] w68 λx139 x140 w69=>dc w69 #[zi 0,zi 0] 29 (zi x140.1) (zi x140.2.1) λw72=>m130 (x139,()) w72)/\Nw (w68.alloc (.cells #[zi 0,zi 0] 29)) λw73=>w73.cell? (blk w63.drew.heap.size)=some (zu x135)/\de 7 #[.agg #[zu x137.1,zu x137.2.1,x137.2.2.1.zw],zu x135] w73 λx142 x143 w74=>dd w74 (zB w68) (zi x143.1) (zi x143.2.1) λw76=>m130 (x142,()) w76)/\Nw (w67.drew.alloc (.cells #[zi 0,zi 0] 29)) λw77=>w77.cell? (blk w63.drew.heap.size)=some (zu x135)/\w77.cell? ((zB w).add 0)=some (zu x132)/\w77.cell? ((zB w).add 1)=some (zu x133)/\w77.cell? ((zB w).add 2)=some (x134.zw)/\dx52 8 #[.agg #[zu x132,zu x133,x134.zw]] w77 λx145 w78=>w78.cell? (blk w63.drew.heap.size)=some (zu x135)/\de 7 #[.agg #[zu x145.1,zu x145.2.1,x145.2.2.1.zw],zu x135] w78 λx147 x148 w79=>dd w79 (blk w67.drew.heap.size) (zi x148.1) (zi x148.2.1) λw81=>m130 (x147,()) w81) (λs131 w82=>zj (S:=Int×Unit) (λs149 w83 n150=>ifB (decide (s149.1<(s97.1.l:Int))) (zk (S:=Unit) (λm151=>ldI w83 ((blk w63.drew.heap.size).add 1) .i64 λx153=>zj (S:=Bool×Int×Unit) (λs154 w84 n155=>ldI w84 ((blk w63.drew.heap.size).add 2) .i64 λx156=>ifB (decide (s154.2.1<x156)) (zk (S:=Bool×Unit) (λm157=>ldS w84.drew ((zB w).add 2) λx159=>(0<=s154.2.1/\s154.2.1<(x159.l:Int))/\za x159.a λa160=>ldI w84.drew ((a160.add (s154.2.1.toNat *4)).add 2) .u32 λx161=>(0<=s149.1/\s149.1<(s97.1.l:Int))/\za s97.1.a λa162=>ldI w84.drew (a162.add s149.1.toNat) .u32 λx163=>ifB (x161==x163) (m157 (true,()) w84.drew) (m157 (s154.1,()) w84.drew)) (λs158 w85=>n155 (s158.1,(IntKind.i64.wrap (s154.2.1+(1:Int))),()) w85)) (ifB (!s154.1) ((0<=s149.1/\s149.1<(s97.1.l:Int))/\za s97.1.a λa164=>ldI w84 (a164.add s149.1.toNat) .u32 λx165=>dv 18 #[s131.1.zw,zu x165] w84 λx167 w86=>ifB (!x167) (R (.bool false) w86) (m151 () w86)) (m151 () w84))) (false,x153,()) w83) (λs152 w87=>n150 ((IntKind.i64.wrap (s149.1+(1:Int))),()) w87)) (n121 ((IntKind.i64.wrap (s120.1+(1:Int))),()) w83)) (0,()) w82)) (m92 () w63)) (0,()) w62))) (λs93 w88=>n89 ((IntKind.i64.wrap (s88.1+(1:Int))),()) w88)) (R (.bool true) w45)) (0,()) w43))) (0,()) w25)))))
theorem zaf(p0)(p1)(R)(w)(h:Z7 p0 p1 R w):Calls Tryz.prog 4 #[.agg #[.int .u32 p0.1,.int .u32 p0.2.1,.slice p0.2.2.1.a p0.2.2.1.l p0.2.2.1.c],.int .i64 p1] w (Ret R):=lwC Z8 Tryz.func4 (by kernel_rfl) (by kernel_rfl) h
def zhx:Ann:=(.q (.q (.seq none (.q (.cond (.q .nil) .nil)) (.seq none (.q (.one (.loop ⟨[1,5,21,22],[(23,(.b (.int .i64)))]⟩ (.q (.seq none .c (.seq (some ⟨[1,5,21,22,23],[]⟩) (.one (.q (.q (.q (.cond (.q .nil) .nil))))) .nil)))))) (.q .nil)))))
def zht(p0:(Int×Int×Sl×Unit))(p1:Int)(R:VWP)(w:World):Prop:=Nw (w.alloc (.cells #[zu p0.1,zu p0.2.1,p0.2.2.1.zw] 25)) λw1=>Nw (w1.alloc (.cells #[zi 0,zi 0] 29)) λw2=>da w2 (zB w) λx1 x2 x3=>de 25 #[.agg #[zu x1,zu x2,x3.zw]] w2 λx5 x6 w3=>dc w3 #[zi 0,zi 0] 29 (zi x6.1) (zi x6.2.1) λw6=>ldI w6 (zB w3) .i64 λx7=>ifB (x7 !=0) (db w6.drew (zB w3) λx8 x9=>dd w6.drew (zB w1) (zi x8) (zi x9) λw8=>db w8 (zB w1) λx10 x11=>R (.tuple #[.slice none 0 0,.agg #[zi x10,zi x11]]) w8) (zj (S:=Int×Unit) (λs12 w9 n13=>ifB (decide (s12.1<(x5.l:Int))) (zk (S:=Unit) (λm14=>(0<=s12.1/\s12.1<(x5.l:Int))/\za x5.a λa16=>ldP w9 (a16.add s12.1.toNat) λx17=>za x17 λa18=>ldM w9 (a18.add 9) λx19=>ze4 Tryz.prog 80 (.map x19) (zu p1) [(.int .i64),(.int .i64),(.int .i64),.bool] w9 λ(x20:(Int×Int×Int×Bool×Unit)) (b21:Bool)=>dp w9 #[zi 0,zi 0,zi 0,.bool false] 78 (zi x20.1) (zi x20.2.1) (zi x20.2.2.1) (.bool x20.2.2.2.1) λw14=>ifB b21 (ldB w14.drew ((zB w9).add 3) λx22=>ifB x22 (ldI w14.drew (zB w9) .i64 λx23=>za x17 λa24=>ldI w14.drew (a24.add 3) .i64 λx25=>ifB (x23==x25) (ldI w14.drew.drew ((zB w9).add 1) .i64 λx26=>dn 28 #[.pointer x17] w14.drew.drew λx28 w15=>w15.cell? ((zB w9).add 1)=some (zi x26)/\(0<=x26/\x26<(x28.l:Int))/\za x28.a λa29=>ldM w15 (a29.add x26.toNat) λx30=>dO 27 #[.map x30] w15 λx32 w16=>dn 26 #[x32] w16 λx34 w17=>dd w17 (zB w1) (zi 0) (zi 0) λw19=>db w19 (zB w1) λx35 x36=>R (.tuple #[x34.zw,.agg #[zi x35,zi x36]]) w19) (m14 () w14.drew)) (m14 () w14.drew)) (m14 () w14.drew)) (λs15 w20=>n13 ((IntKind.i64.wrap (s12.1+(1:Int))),()) w20)) (dd w9 (zB w1) (zi 3) (zi 0) λw22=>db w22 (zB w1) λx37 x38=>R (.tuple #[.slice none 0 0,.agg #[zi x37,zi x38]]) w22)) (0,()) w6)
theorem zhN(p0)(p1)(R)(w)(h:zht p0 p1 R w):Calls Tryz.prog 7 #[.agg #[.int .u32 p0.1,.int .u32 p0.2.1,.slice p0.2.2.1.a p0.2.2.1.l p0.2.2.1.c],.int .u32 p1] w (Ret R):=lwC zhx Tryz.func7 (by kernel_rfl) (by kernel_rfl) h
def zcm:Ann:=(.q (.one (.q (.q (.q (.one (.loop ⟨[0,4,5],[]⟩ (.one (.seq none (.q (.one (.loop ⟨[0,4,5,20],[(21,(.b (.int .i64)))]⟩ (.q (.seq none .c (.seq none (.one (.q (.q (.one (.loop ⟨[0,4,5,6,20,21,28],[]⟩ (.q (.seq none .c (.one (.q .nil))))))))) .nil)))))) (.q (.seq none (.q (.one (.loop ⟨[0,4,5,40],[(8,(.b .bool)),(41,(.b (.int .i64)))]⟩ (.q (.seq none .c (.seq none (.one (.q (.q (.one (.loop ⟨[0,4,5,9,40,41,49,50],[(8,(.b .bool)),(51,(.b (.int .i64)))]⟩ (.q (.seq none .c (.seq none (.one (.q (.q (.one (.loop ⟨[0,4,5,9,40,41,49,50,51,59],[(8,(.b .bool))]⟩ (.q (.seq none .c (.one (.q (.q (.cond (.q .nil) .nil))))))))))) .nil)))))))) .nil)))))) (.seq none (.q .c) (.q .nil)))))))))))))
def zce(p0:Option Addr)(R:VWP)(w:World):Prop:=du 62 #[.pointer p0] w λx2 x3 w1=>zj (S:=Unit) (λs4 w2 n5=>zj (S:=Int×Unit) (λs6 w3 n7=>ifB (decide (s6.1<(x2.l:Int))) ((0<=s6.1/\s6.1<(x3.l:Int))/\za x3.a λa8=>ldM w3 (a8.add s6.1.toNat) λx9=>rngW Tryz.prog 88 (.map x9) w3 λw4=>zj (S:=Unit) (λs10 w5 n11=>nxtM Tryz.prog (.pointer (some (zB w3))) 0 w5 (λx12 x13 w6=>entW Tryz.prog (.pointer (some (zB w3))) (BK.int .u32) BK.raw w6 λ(x14:Int) (x15:Value)=>(0<=s6.1/\s6.1<(x2.l:Int))/\za x2.a λa16=>ldM w6 (a16.add s6.1.toNat) λx17=>delS Tryz.prog #[88,22] (.map x17) (zu x14) w6 λw8=>n11 () w8) (λw7=>n7 ((IntKind.i64.wrap (s6.1+(1:Int))),()) w7)) () w4) (zj (S:=Bool×Int×Unit) (λs18 w9 n19=>ifB (decide (s18.2.1<(x2.l:Int))) (za p0 λa20=>ldP w9 (a20.add 10) λx21=>dn 63 #[.pointer x21,zi s18.2.1] w9 λx23 w10=>zj (S:=Bool×Int×Unit) (λs24 w11 n25=>ifB (decide (s24.2.1<(x23.l:Int))) ((0<=s24.2.1/\s24.2.1<(x23.l:Int))/\za x23.a λa26=>ldI w11 (a26.add s24.2.1.toNat) .i64 λx27=>(0<=x27/\x27<(x2.l:Int))/\za x2.a λa28=>ldM w11 (a28.add x27.toNat) λx29=>rngW Tryz.prog 88 (.map x29) w11 λw12=>zj (S:=Bool×Unit) (λs30 w13 n31=>nxtM Tryz.prog (.pointer (some (zB w11))) 0 w13 (λx32 x33 w14=>entW Tryz.prog (.pointer (some (zB w11))) (BK.int .u32) BK.raw w14 λ(x34:Int) (x35:Value)=>(0<=s18.2.1/\s18.2.1<(x3.l:Int))/\za x3.a λa36=>ldM w14 (a36.add s18.2.1.toNat) λx37=>ziE Tryz.prog 88 (.map x37) (zu x34) (BK.int .i64) w14 λ(x38:Int)=>ifB (x38==0) ((0<=s18.2.1/\s18.2.1<(x2.l:Int))/\za x2.a λa39=>ldM w14 (a39.add s18.2.1.toNat) λx40=>ziE Tryz.prog 88 (.map x40) (zu x34) (BK.int .i64) w14 λ(x41:Int)=>ifB (x41==0) ((0<=s18.2.1/\s18.2.1<(x2.l:Int))/\za x2.a λa42=>ldM w14 (a42.add s18.2.1.toNat) λx43=>updW Tryz.prog 88 (.map x43) (zu x34) (zi 1) w14 λw16=>n31 (true,()) w16) (n31 (s30.1,()) w14)) (n31 (s30.1,()) w14)) (λw15=>n25 (s30.1,(IntKind.i64.wrap (s24.2.1+(1:Int))),()) w15)) (s24.1,()) w12) (n19 (s24.1,(IntKind.i64.wrap (s18.2.1+(1:Int))),()) w11)) (s18.1,0,()) w10) (ifB s18.1 (n5 () w9) (R (x2.zw) w9))) (false,0,()) w3)) (0,()) w2) () w1
theorem zdY(p0)(R)(w)(h:zce p0 R w):Calls Tryz.prog 28 #[.pointer p0] w (Ret R):=lwC zcm Tryz.func28 (by kernel_rfl) (by kernel_rfl) h
def zcn:Ann:=(.q (.seq none (.q (.one (.loop ⟨[1,2,20],[(3,(.b .slice)),(21,(.b (.int .i64)))]⟩ (.q (.seq none .c (.seq none (.one (.q .nil)) .nil)))))) (.q (.seq none (.q (.one (.loop ⟨[1,2,3,4,37,38],[(39,(.b (.int .i64)))]⟩ (.q (.seq none .c (.seq none (.one (.q (.q (.one (.loop ⟨[1,2,3,4,5,37,38,39,54,55],[(56,(.b (.int .i64)))]⟩ (.q (.seq none .c (.seq (some ⟨[1,2,3,4,5,37,38,39,54,55,56],[]⟩) (.one (.q (.q (.seq none (.q (.cond (.seq none (.q (.one (.loop ⟨[1,2,3,4,5,37,38,39,54,55,56,70,71],[(72,(.b (.int .i64)))]⟩ (.q (.seq none .c (.seq none (.one (.q .nil)) .nil)))))) .nil) .nil)) (.q (.q (.one (.loop ⟨[1,2,3,4,5,12,37,38,39,54,55,56,86,87],[(88,(.b (.int .i64)))]⟩ (.q (.seq none .c (.seq none (.one (.q .nil)) .nil))))))))))) .nil)))))))) .nil)))))) (.q .nil)))))
def zcf(p0:Option Addr)(R:VWP)(w:World):Prop:=Nw (w.alloc (.cells #[.pointer p0] 76)) λw1=>Nw (w1.alloc (.cells #[.slice none 0 0] 89)) λw2=>ldP w2 (zB w) λx1=>za x1 λa2=>ldS w2 ((a2.add 4).add 3) λx3=>zj (S:=Sl×Int×Unit) (λs4 w3 n5=>ifB (decide (s4.2.1<(x3.l:Int))) (ldS w3 (zB w1) λx6=>Nw (w3.alloc (.map #[] 0)) λw4=>Nw (w4.alloc (.cells #[.map (some w3.heap.size)] 88)) λw5=>zC Tryz.prog 89 (x6.zw) (.slice (some (zB w4)) 1 1) w5 λr7 w6=>Wr w6 (zB w1)/\Nw (w6.setCell (zB w1) (r7.zw)) λw7=>Nw (w7.alloc (.map #[] 0)) λw8=>Nw (w8.alloc (.cells #[.map (some w7.heap.size)] 88)) λw9=>zC Tryz.prog 89 (s4.1.zw) (.slice (some (zB w8)) 1 1) w9 λr8 w10=>n5 (r8,(IntKind.i64.wrap (s4.2.1+(1:Int))),()) w10) (ldP w3 (zB w) λx9=>za x9 λa10=>ldS w3 ((a10.add 4).add 3) λx11=>zj (S:=Int×Unit) (λs12 w11 n13=>ifB (decide (s12.1<(x11.l:Int))) ((0<=s12.1/\s12.1<(x11.l:Int))/\za x11.a λa14=>dl w11 (a14.add (s12.1.toNat *3)) λx15 x16 x17=>dm w11 #[zu 0,zi 0,zi 0] 42 (zu x15) (zi x16) (zi x17) λw15=>ldP w15.drew (zB w) λx18=>za x18 λa19=>ldS w15.drew (a19.add 2) λx20=>ldI w15.drew ((zB w11).add 1) .i64 λx21=>ldI w15.drew ((zB w11).add 2) .i64 λx22=>(0<=(IntKind.i64.wrap (x21+(1:Int)))/\(IntKind.i64.wrap (x21+(1:Int)))<=x22/\x22<=(x20.c:Int))/\zj (S:=Int×Unit) (λs23 w16 n24=>ifB (decide (s23.1<(((x22.toNat-(Int.toNat (IntKind.i64.wrap (x21+(1:Int))))):Nat):Int))) (zk (S:=Unit) (λm25=>(0<=s23.1/\s23.1<(((x22.toNat-(Int.toNat (IntKind.i64.wrap (x21+(1:Int))))):Nat):Int))/\za (if x20.c=(Int.toNat (IntKind.i64.wrap (x21+(1:Int)))) then x20.a else Option.map (λa=>a.add ((Int.toNat (IntKind.i64.wrap (x21+(1:Int))))*4)) x20.a) λa27=>dt w16 (a27.add (s23.1.toNat *4)) λx28 x29 x30 x31=>dp w16 #[zh 0,zu 0,zu 0,.slice none 0 0] 50 (zh x28) (zu x29) (zu x30) (x31.zw) λw21=>(0<=s12.1/\s12.1<(s4.1.l:Int))/\za s4.1.a λa32=>ldM w21.drew (a32.add s12.1.toNat) λx33=>ldI w21.drew ((zB w16).add 2) .u32 λx34=>updW Tryz.prog 88 (.map x33) (zu x34) (zi 1) w21.drew λw22=>ldI w22 (zB w16) .u16 λx35=>ifB (x35 !=245) (dt w22 (zB w16) λx36 x37 x38 x39=>dn 69 #[.agg #[zh x36,zu x37,zu x38,x39.zw]] w22 λx41 w23=>zj (S:=Int×Unit) (λs42 w24 n43=>ifB (decide (s42.1<(x41.l:Int))) ((0<=s42.1/\s42.1<(x41.l:Int))/\za x41.a λa44=>ldI w24 (a44.add s42.1.toNat) .u32 λx45=>cR 100 #[zi s12.1,zu x45,.pointer (some (zB w)),.pointer (some (zB w1))] w24 λv46 w25=>v46=(.tuple #[])/\n43 ((IntKind.i64.wrap (s42.1+(1:Int))),()) w25) (m25 () w24)) (0,()) w23) (dt w22 (zB w16) λx47 x48 x49 x50=>du 102 #[.agg #[zh x47,zu x48,zu x49,x50.zw]] w22 λx52 x53 w26=>zj (S:=Int×Unit) (λs54 w27 n55=>ifB (decide (s54.1<(x52.l:Int))) ((0<=s54.1/\s54.1<(x52.l:Int))/\za x52.a λa56=>ldI w27 (a56.add s54.1.toNat) .u32 λx57=>ldP w27.drew (zB w) λx58=>za x58 λa59=>ldM w27.drew (a59.add 9) λx60=>(0<=s54.1/\s54.1<(x53.l:Int))/\za x53.a λa61=>ldI w27.drew (a61.add s54.1.toNat) .u32 λx62=>ziF Tryz.prog 80 (.map x60) (zu x62) [(.int .i64),(.int .i64),(.int .i64),.bool] w27.drew λ(x63:(Int×Int×Int×Bool×Unit))=>cR 100 #[zi x63.2.1,zu x57,.pointer (some (zB w)),.pointer (some (zB w1))] w27.drew λv64 w28=>v64=(.tuple #[])/\n55 ((IntKind.i64.wrap (s54.1+(1:Int))),()) w28) (m25 () w27)) (0,()) w26)) (λs26 w29=>n24 ((IntKind.i64.wrap (s23.1+(1:Int))),()) w29)) (n13 ((IntKind.i64.wrap (s12.1+(1:Int))),()) w16)) (0,()) w15.drew) (ldS w11 (zB w1) λx65=>Wr w11 (zB w1)/\Nw (w11.setCell (zB w1) (x65.zw)) λw30=>ldS w30 (zB w1) λx66=>R (.tuple #[x66.zw,s4.1.zw]) w30)) (0,()) w3)) ((Sl.mk none 0 0),0,()) w2
theorem zdZ(p0)(R)(w)(h:zcf p0 R w):Calls Tryz.prog 62 #[.pointer p0] w (Ret R):=lwC zcn Tryz.func62 (by kernel_rfl) (by kernel_rfl) h
def zbb:Ann:=(.q (.q .c))
def zaT(p0:Int)(p1:Int)(c0:Addr)(c1:Addr)(R:VWP)(w:World):Prop:=ldP w c0 λx1=>dw 101 #[.pointer x1,zu p1] w λx3 x4 w1=>dp w1 #[zi 0,zi 0,zi 0,.bool false] 78 (zi x3.1) (zi x3.2.1) (zi x3.2.2.1) (.bool x3.2.2.2.1) λw6=>ifB x4 (ldS w6 c1 λx5=>(0<=p0/\p0<(x5.l:Int))/\za x5.a λa6=>ldM w6 (a6.add p0.toNat) λx7=>updW Tryz.prog 88 (.map x7) (zu p1) (zi 1) w6 λw7=>R (.tuple #[]) w7) (R (.tuple #[]) w6)
theorem zcM(p0)(p1)(c0)(c1)(R)(w)(h:zaT p0 p1 c0 c1 R w):Calls Tryz.prog 100 #[.int .i64 p0,.int .u32 p1,.pointer (some c0),.pointer (some c1)] w (Ret R):=lwC zbb Tryz.func100 (by kernel_rfl) (by kernel_rfl) h
end Go.Proofs
namespace Go.Proofs
open Go.Gk Go.RowKit Go.Gm Go.Gr Go.Dm
inductive WanN (nx:List (List Nat)) (mk us:Nat->Bool):Nat->Prop
 |here {k:Nat}:mk k=false->us k=true->WanN nx mk us k
 |step {k t:Nat}:mk k=false->t∈nx.getD k []->WanN nx mk us t->WanN nx mk us k
inductive SeeN (nx:List (List Nat)) (mk:Nat->Bool) (fr:Nat):Nat->Prop
 |zero:mk fr=false->SeeN nx mk fr fr
 |step {i t:Nat}:SeeN nx mk fr i->t∈nx.getD i []->mk t=false->SeeN nx mk fr t
section
variable {nx:List (List Nat)} {mk us:Nat->Bool} {fr i:Nat}
theorem SeeN.mk_of(h:SeeN nx mk fr i):mk i=false:=by cases h with
 |zero h=>exact h
 |step _ _ h=>exact h
theorem SeeN.back{k t:Nat}(hk:mk k=false)(ht:t∈nx.getD k [])(h:SeeN nx mk t i):SeeN nx mk k i:=by
 induction h with
 |zero h=>exact .step (.zero hk) ht h
 |step _ h2 h3 ih=>exact .step ih h2 h3
theorem SeeN.wan(h:SeeN nx mk fr i)(hw:WanN nx mk us i):WanN nx mk us fr:=by
 induction h with
 |zero _=>exact hw
 |step h1 h2 _ ih=>exact ih (.step h1.mk_of h2 hw)
theorem zqu:WanN nx mk us fr↔∃i,SeeN nx mk fr i/\us i=true:=by
 constructor
 ·intro h
  induction h with
  |here h1 h2=>exact⟨_,.zero h1,h2⟩
  |step h1 h2 _ ih=>
   obtain⟨i,h3,h4⟩:=ih
   exact⟨i,h3.back h1 h2,h4⟩
 ·rintro⟨i,h1,h2⟩
  exact h1.wan (.here h1.mk_of h2)
theorem SeeN.lt(ok:NxOk nx)(hf:fr<nx.length)(h:SeeN nx mk fr i):i<nx.length:=by
 cases h with
 |zero _=>exact hf
 |step _ h _=>exact ok.rows _ _ h
end
def usN(pl:List PI)(b:Bk3)(id:Int)(i:Nat):Bool:=decide (b.2.1<=(i:Int)/\(i:Int)<b.2.2)&&((ix pl i).1 !=245&&(zN pl i).contains id)
def usQ(pl:List PI)(b:Bk3)(id:Int)(i j:Nat):Bool:=((ix pl i).2.2.2.getD (2*j) ag0).2.1==id&&((ix pl i).2.2.2.getD (2*j+1) ag0).2.1==b.1
def usP(pl:List PI)(f:FnL)(b:Bk3)(id:Int)(i:Nat):Bool:=decide (f.at_<=(i:Int)/\(i:Int)<f.en)&&((ix pl i).1==245&&(List.range ((ix pl i).2.2.2.length / 2)).any (usQ pl b id i))
def usB(pl:List PI)(fl:List FnL)(n:Nat)(id:Int)(k:Nat):Bool:=(List.range pl.length).any (usN pl (bx (fx fl n).bk k) id)||(List.range pl.length).any (usP pl (fx fl n) (bx (fx fl n).bk k) id)
def mkB(pl:List PI)(fl:List FnL)(n:Nat)(id:Int)(k:Nat):Bool:=ovI (bkO (fx fl n).bk (mkA pl id))==(k:Int)
open Classical in
noncomputable def wanB(pl:List PI)(fl:List FnL)(n:Nat)(id:Int)(k:Nat):Bool:=decide (WanN (nxF pl fl n) (mkB pl fl n id) (usB pl fl n id) k)
section
variable {w w':World} {R:VWP} {p:Bv} {pl:List PI} {fl:List FnL} {n k:Nat} {id:Int}
theorem znb{pl:List PI}{fl:List FnL}:usB pl fl n id k=true↔(∃i,i<pl.length/\usN pl (bx (fx fl n).bk k) id i=true)\/∃i,i<pl.length/\usP pl (fx fl n) (bx (fx fl n).bk k) id i=true:=by
 unfold usB
 rw[Bool.or_eq_true,List.any_eq_true,List.any_eq_true]
 simp only[List.mem_range]
end
end Go.Proofs
namespace Go.Proofs
open Go.Gk Go.RowKit Go.Gm Go.Gr Go.Dm
open Classical in
theorem zpD{pl:List PI}{fl:List FnL}{n k:Nat}{id:Int}:wanB pl fl n id k=true↔WanN (nxF pl fl n) (mkB pl fl n id) (usB pl fl n id) k:=by
 unfold wanB
 rw[decide_eq_true_eq]
end Go.Proofs
