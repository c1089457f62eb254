/- FaceB, part 9; made small by a program. -/
import Derived.Test.YtnpdnjmpmeikiaaGreatDoorProg
import Derived.Test.YtnpdnjmpmeikiaaGreatDoorPFaceB8
set_option linter.unusedVariables false
namespace Go.Proofs
open Go.Gk Go.RowKit Go.Gm
section
variable {w:World} {R:VWP} {B cb:Nat} {pl:List PI} {bd:Int}
theorem zsd{p0:Option Addr}{m c:Int}{p:Po}(hR:∀w',Below w.heap.size w w'->R (.bool (mayB m c p)) w'):cR 115 #[.pointer p0,.int .u32 m,.int .u32 c,poA p] w R:=by
 refine za.of (zcr p0 m c p R w ?_) λ_ _ h=>h
 refine zm λw1 hP1 b1 z1=>?_
 have hP1:Blk w1 w.heap.size 52 (poV p):=hP1
 refine hP1.rI (n:=2) (x:=p.2.2.1) rfl (zj (λg=>?_) (λg=>?_))
 ·have:=hR w1 b1
  unfold mayB at this
  rw[decide_eq_true g]at this
  simpa using this
 have g:¬p.2.2.1<0:=g
 refine hP1.rI (n:=2) (x:=p.2.2.1) rfl (hP1.rI (n:=4) (x:=p.2.2.2.2.1) rfl (box4 rfl λw6 hN6 b6 z6=>?_))
 have b06:=b1.on b6
 have hP6:=hP1.below b6
 have hM:mayB m c p=((m==0&&c==1&&p.2.2.1==5&&p.2.2.2.2.1==1)||(m==0&&c==3&&p.2.2.1==0&&p.2.2.2.2.1==4&&p.2.2.2.2.2.1)||(m==4&&c==1&&p.2.2.1==15&&p.2.2.2.2.1==4&&p.2.2.2.2.2.1)):=by
  unfold mayB
  rw[decide_eq_false g,Bool.false_or]
 let Z:Nat->Int×Int×Int×Int:=λk=>if k=0 then(0,1,5,1) else if k=1 then(0,3,0,4) else(4,1,15,4)
 refine zl.count 3 (by omega) (λk w'=>Below w6.heap.size w6 w'/\∀j,j<k->(m,c,p.2.2.1,p.2.2.2.2.1)≠Z j) ⟨Below.refl _ _,λj h=>by omega⟩ ?_
 rintro k w7 hk ⟨b7,hno⟩ next hnext
 have b07:=b06.on b7
 refine zj (λg3=>?_) (λg3=>?_)
 rotate_left
 ·have hke:k=3:=by dsimp only at g3;omega
  subst hke
  have n0:=hno 0 (by omega)
  have n1:=hno 1 (by omega)
  have n2:=hno 2 (by omega)
  have:=hR w7 b07
  rw[hM]at this
  have e0:(m==0&&c==1&&p.2.2.1==5&&p.2.2.2.2.1==1)=false:=by
   cases hq:(m==0&&c==1&&p.2.2.1==5&&p.2.2.2.2.1==1) with
   |false=>rfl
   |true=>
    simp only[Bool.and_eq_true,beq_iff_eq]at hq
    obtain⟨⟨⟨q1,q2⟩,q3⟩,q4⟩:=hq
    exact absurd (by rw[q1,q2,q3,q4];rfl) n0
  have e1:(m==0&&c==3&&p.2.2.1==0&&p.2.2.2.2.1==4)=false:=by
   cases hq:(m==0&&c==3&&p.2.2.1==0&&p.2.2.2.2.1==4) with
   |false=>rfl
   |true=>
    simp only[Bool.and_eq_true,beq_iff_eq]at hq
    obtain⟨⟨⟨q1,q2⟩,q3⟩,q4⟩:=hq
    exact absurd (by rw[q1,q2,q3,q4];rfl) n1
  have e2:(m==4&&c==1&&p.2.2.1==15&&p.2.2.2.2.1==4)=false:=by
   cases hq:(m==4&&c==1&&p.2.2.1==15&&p.2.2.2.2.1==4) with
   |false=>rfl
   |true=>
    simp only[Bool.and_eq_true,beq_iff_eq]at hq
    obtain⟨⟨⟨q1,q2⟩,q3⟩,q4⟩:=hq
    exact absurd (by rw[q1,q2,q3,q4];rfl) n2
  rw[e0,e1,e2]at this
  simpa using this
 have hk3:k<3:=by dsimp only at g3;omega
 refine zo.cut (λ(st:Option Addr×Unit) w'=>st=(some (blk w7.heap.size),())/\Blk w' w7.heap.size 239 [.int .u32 (Z k).1,.int .u32 (Z k).2.1,.int .i64 (Z k).2.2.1,.int .i64 (Z k).2.2.2]/\Below w7.heap.size w7 w') ?_ ?_
 ·refine⟨⟨by dsimp only;omega,by dsimp only;omega⟩,λe=>box4 rfl λw' h' b' _=>⟨rfl,?_,b'⟩,λe=>box4 rfl λw' h' b' _=>⟨rfl,?_,b'⟩,λe=>box4 rfl λw' h' b' _=>⟨rfl,?_,b'⟩⟩
  ·have hk0:k=0:=by dsimp only at e;omega
   subst hk0;exact h'
  ·have hk0:k=1:=by dsimp only at e;omega
   subst hk0;exact h'
  ·have hk0:k=2:=by dsimp only at e;omega
   subst hk0;exact h'
 rintro _ w23 ⟨rfl,hZ,b23⟩
 have hN23:=(hN6.below b7).below b23
 have hP23:=(hP6.below b7).below b23
 refine hN23.rI (n:=0) (x:=m) rfl (hN23.rI (n:=1) (x:=c) rfl (hN23.rI (n:=2) (x:=p.2.2.1) rfl (hN23.rI (n:=3) (x:=p.2.2.2.2.1) rfl (ze rfl (hZ.rI (n:=0) rfl (hZ.rI (n:=1) rfl (hZ.rI (n:=2) rfl (hZ.rI (n:=3) rfl (zz (λe=>?_) (λe=>?_))))))))))
 ·simp only[Bool.and_eq_true,beq_iff_eq,and_true]at e
  obtain⟨q1,q2,q3,q4⟩:=e
  have hkc:k=0\/k=1\/k=2:=by omega
  have:=hR w23 (b07.on b23)
  rw[hM]at this
  refine hP23.rB (n:=5) (x:=p.2.2.2.2.2.1) rfl (zz (λes=>?_) (λes=>?_))
  ·rcases hkc with rfl |rfl |rfl
   ·have q1:m=0:=q1;have q2:c=1:=q2;have q3:p.2.2.1=5:=q3;have q4:p.2.2.2.2.1=1:=q4
    rw[q1,q2,q3,q4]at this
    simpa using this
   ·have q1:m=0:=q1;have q2:c=3:=q2;have q3:p.2.2.1=0:=q3;have q4:p.2.2.2.2.1=4:=q4
    rw[q1,q2,q3,q4,es]at this
    simpa using this
   ·have q1:m=4:=q1;have q2:c=1:=q2;have q3:p.2.2.1=15:=q3;have q4:p.2.2.2.2.1=4:=q4
    rw[q1,q2,q3,q4,es]at this
    simpa using this
  ·refine ze rfl (hZ.rI (n:=3) rfl ?_)
   rcases hkc with rfl |rfl |rfl
   ·have q1:m=0:=q1;have q2:c=1:=q2;have q3:p.2.2.1=5:=q3;have q4:p.2.2.2.2.1=1:=q4
    rw[q1,q2,q3,q4]at this
    have h2:R (.bool true) w23:=by simpa using this
    exact h2
   ·have q1:m=0:=q1;have q2:c=3:=q2;have q3:p.2.2.1=0:=q3;have q4:p.2.2.2.2.1=4:=q4
    rw[q1,q2,q3,q4,es]at this
    have h2:R (.bool false) w23:=by simpa using this
    exact h2
   ·have q1:m=4:=q1;have q2:c=1:=q2;have q3:p.2.2.1=15:=q3;have q4:p.2.2.2.2.1=4:=q4
    rw[q1,q2,q3,q4,es]at this
    have h2:R (.bool false) w23:=by simpa using this
    exact h2
 ·refine hnext w23 hk3 ⟨b7.on b23,λj hj e2=>?_⟩
  by_cases ej:j=k
  ·subst ej
   have e1:=congrArg (λz:Int×Int×Int×Int=>z.1) e2
   have e3:=congrArg (λz:Int×Int×Int×Int=>z.2.1) e2
   have e4:=congrArg (λz:Int×Int×Int×Int=>z.2.2.1) e2
   have e5:=congrArg (λz:Int×Int×Int×Int=>z.2.2.2) e2
   dsimp only at e1 e3 e4 e5
   rw[e1,e3,e4,e5]at e
   simp at e
  ·exact hno j (by omega) e2
theorem zqM{w:World}{s:Sl}{l:List Nat}(h:IsS iN w s l){k:Nat}(hk:k<l.length){φ:Int->Prop}(hφ:φ (l[k]:Int)) :
  (0<=(k:Int)/\(k:Int)<(s.l:Int))/\zc s.a λa=>ldI w (a.add (Int.toNat (k:Int))) .i64 φ:=h.addr hk λ_ _ hc=>⟨_,hc,hφ⟩
theorem zvv{i:Int}{n:Nat}(hn:n∈(fcP pl).rd i):n<(cutF pl pl.length).length:=by
 have hn:n∈zcY (yW (rowsC pl)) i:=hn
 unfold zcY at hn
 split at hn
 ·have:=List.mem_range.1 (List.mem_filter.1 hn).1
  rw[ZE,za5]at this
  exact this
 ·cases hn
theorem FcOk.lay(h:FcOk bd pl):(layP bd pl).1=0:=by
 have:=h.con.ty.chk
 unfold zU at this
 refine Classical.byContradiction λq=>?_
 split at this
 ·rename_i q2
  exact q2 this
 ·exact q this
set_option maxHeartbeats 4000000 in
theorem zsx(h:IsCk w B cb pl)(hF:FcOk bd pl){m f:Int}{n:ByteArray}{r:Sl}{ids:List Int}(hs:IsS (Value.int .u32) w r ids)(hR:∀w',Below w.heap.size w w'->R (.bool ((fcP pl).used (m,f,n,ids))) w') :
  cR 116 #[.pointer (some (blk cb)),enA m f n r] w R:=by
 refine za.of (zet _ (m,f,n,r,()) R w ?_) λ_ _ h=>h
 refine zm λw1 hE1 b1 z1=>?_
 have hE1:Blk w1 w.heap.size 74 (enV m f n r):=hE1
 have b1d:=b1.drew
 have hk:=h.below b1d
 obtain⟨pb,tb,rc,rd,fs,ins,L,h1,_,_,h4,h5,h6,h7,_⟩:=hk
 refine ze rfl ⟨_,h1.cell (n:=2) rfl,hE1.drew.rI (n:=1) (x:=f) rfl ?_⟩
 refine zcP (h.below b1d) λw2 b2=>⟨_,rfl,(h1.below b2).cell (n:=2) rfl,?_⟩
 have hrl:(yW (rowsC pl)).length<=4096:=by rw[ZE];exact hF.cal
 refine zfW hrl (h4.below b2) λrs w3 b3 hO=>⟨rs,rfl,?_⟩
 have hO:Own w3 3 1 rs (((fcP pl).rd ((fcP pl).fn f)).map iN):=hO
 have hrs:IsS iN w3 rs ((fcP pl).rd ((fcP pl).fn f)):=hO.isS
 have hlt:=λi (hi:i∈(fcP pl).rd ((fcP pl).fn f))=>zvv hi
 unfold Fc.used at hR
 have hR:∀w',Below w.heap.size w w'->R (.bool (((fcP pl).rd ((fcP pl).fn f)).all ((fcP pl).usedF ids))) w':=hR
 generalize (fcP pl).rd ((fcP pl).fn f)=Q at hrs hlt hR
 have hql:=hrs.len
 have hLl:L.length=(cutF pl pl.length).length:=by rw[<-h6,List.length_map]
 have b13:Below w1.drew.heap.size w1.drew w3:=b2.on b3
 have b03:=b1d.on b13
 have no:∀{k:Nat} (hk:k<Q.length) {w'},(fcP pl).usedF ids Q[k]=false->Below w.heap.size w w'->R (.bool false) w':=λ{k} hk {w'} e hb=>by
  have:=hR w' hb
  have e2:Q.all ((fcP pl).usedF ids)=false:=by
   rw[List.all_eq_false]
   exact⟨_,List.getElem_mem hk,by rw[e];simp⟩
  rwa[e2]at this
 refine zl.count Q.length hrs.bound (λk w'=>Below w3.heap.size w3 w'/\∀j (hj:j<Q.length),j<k->(fcP pl).usedF ids Q[j]=true) ⟨Below.refl _ _,λj _ h=>by omega⟩ ?_
 rintro k w4 hk ⟨b4,hyes⟩ next hnext
 have b04:=b03.on b4
 have b14:=b13.on b4
 refine zj (λg=>?_) (λg=>?_)
 rotate_left
 ·have:=hR w4 b04
  have e2:Q.all ((fcP pl).usedF ids)=true:=by
   rw[List.all_eq_true]
   intro x hx
   obtain⟨j,hj,rfl⟩:=List.mem_iff_getElem.1 hx
   exact hyes j hj (by dsimp only at g;omega)
  rwa[e2]at this
 have hkl:k<Q.length:=by dsimp only at g;omega
 refine zqM (hrs.below b4) hkl ?_
 have hq:=hlt _ (List.getElem_mem hkl)
 have hqL:Q[k]<L.length:=by omega
 refine ze rfl ((h1.below b14).rS (n:=3) (x:=fs) rfl (zjn (h5.below b14) hqL (box5 rfl λw10 hf10 b10 z10=>?_)))
 have eF:(cutF pl pl.length).getD Q[k] fnZ=L[Q[k]].1:=by
  rw[<-h6,zp (by rw[List.length_map];exact hqL),List.getElem_map]
 have hmem:L[Q[k]].1∈cutF pl pl.length:=by rw[<-eF,zp hq];exact List.getElem_mem hq
 obtain⟨a,e,ea,ee,hae,hepl,_⟩:=zjl hF.lay hmem
 have b10d:=b10.drew
 have b110:=b14.on b10d
 have hf10':=hf10.drew
 refine ze rfl ((h1.below b110).rS (n:=4) (x:=ins) rfl (hf10'.rI (n:=1) (x:=L[Q[k]].1.at_) rfl (hf10'.rI (n:=4) (x:=L[Q[k]].1.en) rfl ?_)))
 have h7':=h7.below b110
 have h7l:=h7'.len
 have h7c:=h7'.cap
 rw[ea,ee]
 refine⟨⟨by omega,by omega,by omega⟩,?_⟩
 have eU:∀ok,(fcP pl).usedF ids Q[k]=ok↔((List.range (e-a)).all λj=>(fcP pl).usedAt ids (a+j))=ok:=λok=>by
  unfold Fc.usedF
  show((List.range (((cutF pl pl.length).getD Q[k] fnZ).en.toNat-((cutF pl pl.length).getD Q[k] fnZ).at_.toNat)).all λj=>(fcP pl).usedAt ids (((cutF pl pl.length).getD Q[k] fnZ).at_.toNat +j))=ok↔_
  rw[eF,ea,ee,Int.toNat_natCast,Int.toNat_natCast]
 have b410:=b4.on b10d
 rw[Int.toNat_natCast,Int.toNat_natCast]
 refine zl.count (e-a) (by have:=h7'.max;omega) (λj w'=>Below w10.drew.heap.size w10.drew w'/\∀i,i<j->(fcP pl).usedAt ids (a+i)=true) ⟨Below.refl _ _,λi h=>by omega⟩ ?_
 rintro j w11 hj ⟨b11,hyes2⟩ next2 hnext2
 refine zj (λg2=>?_) (λg2=>?_)
 rotate_left
 ·refine hnext w11 hkl ⟨b410.on b11,λi hi hik=>?_⟩
  by_cases ei:i=k
  ·subst ei
   refine(eU true).2 (List.all_eq_true.2 λx hx=>hyes2 x ?_)
   have:=List.mem_range.1 hx
   dsimp only at g2
   omega
  ·exact hyes i hi (by omega)
 have hje:j<e-a:=by dsimp only at g2;omega
 have haj:a+j<pl.length:=by omega
 obtain⟨ad,had⟩:=h7.base (show 0<pl.length by omega)
 have b111:=b110.on b11
 rw[if_neg (by omega),had]
 obtain⟨t,hc,hI⟩:=(h7.below b111).elem ad had (a+j) haj
 have cl:∀i,i<4->w11.cell? (((ad.add (a*4)).add (j*4)).add i)=(inV (mkIn pl[a+j] t))[i]?:=λi hi=>by
  rw[zn,zn,show a*4+(j*4+i)=(a+j)*4+i by omega]
  exact hc i hi
 refine⟨⟨by dsimp only;omega,by dsimp only;omega⟩,ze rfl ⟨_,cl 0 (by decide),_,cl 1 (by decide),_,cl 2 (by decide),t,cl 3 (by decide),box4 rfl λw16 hI16 b16 z16=>?_⟩⟩
 have hI16:Blk w16 w11.heap.size 44 (inV (mkIn pl[a+j] t)):=hI16
 have hagr:=YQ hF.shape haj
 refine Ins.load (x:=mkIn pl[a+j] t) hI16 (znS (x:=mkIn pl[a+j] t) (al:=pl[a+j].2.2.2) (IsC.below zG hI b16) (by omega) λri w17 hOi _ b17=>⟨ri,rfl,?_⟩)
 have hri:=hOi.isS
 have b1117:=b16.on b17
 have b1017:=b11.on b1117
 have b117:=b111.on b1117
 have hU:(fcP pl).usedAt ids (a+j)=(idsP pl[a+j].2.1 pl[a+j].2.2.2).all λid=>(fcP pl).cls id==0||ids.contains id:=by
  unfold Fc.usedAt
  show(idsP (ix pl (a+j)).2.1 (ix pl (a+j)).2.2.2).all _=_
  rw[zH haj]
 have hri:IsS (Value.int .u32) w17 ri (idsP pl[a+j].2.1 pl[a+j].2.2.2):=hri
 generalize idsP pl[a+j].2.1 pl[a+j].2.2.2=D at hri hU
 have hDl:=hri.len
 refine zl.count D.length hri.bound (λi w'=>Below w17.heap.size w17 w'/\∀q (hq:q<D.length),q<i->((fcP pl).cls D[q]==0||ids.contains D[q])=true) ⟨Below.refl _ _,λq _ h=>by omega⟩ ?_
 rintro i w18 hi ⟨b18,hyes3⟩ next3 hnext3
 have b1118:=b1117.on b18
 refine zj (λg3=>?_) (λg3=>?_)
 rotate_left
 ·refine hnext2 w18 hje ⟨b11.on b1118,λq hq=>?_⟩
  by_cases eq:q=j
  ·subst eq
   rw[hU,List.all_eq_true]
   intro x hx
   obtain⟨z,hz,rfl⟩:=List.mem_iff_getElem.1 hx
   exact hyes3 z hz (by dsimp only at g3;omega)
  ·exact hyes2 q (by omega)
 have hil:i<D.length:=by dsimp only at g3;omega
 refine zo.cut (λ(_:Unit) w'=>Below w18.heap.size w18 w'/\((fcP pl).cls D[i]==0||ids.contains D[i])=true) ?_ ?_
 rotate_left
 ·rintro _ w21 ⟨b21,hy⟩
  refine hnext3 w21 hil ⟨b18.on b21,λq hq hqi=>?_⟩
  by_cases eq:q=i
  ·subst eq;exact hy
  ·exact hyes3 q hq (by omega)
 have b118:=b117.on b18
 have b018:=b1d.on b118
 refine YR (hri.below b18) hil (zbg (h.below b018) hF λw19 b19=>⟨_,rfl,zy (λq=>?_) (λq=>⟨b19,by rw[q];rfl⟩)⟩)
 have b019:=b018.on b19
 have b119:Below w1.heap.size w1 w19:=(Below.refl w1.heap.size w1).drew.on (b118.on b19)
 refine(hE1.below b119).rS (n:=3) (x:=r) rfl (zgc (hs.below b019) ⟨_,rfl,zI (zz (λq2=>⟨b19,by rw[q2,Bool.or_true]⟩) (λq2=>?_))⟩)
 refine no hkl ((eU false).2 ?_) b019
 rw[List.all_eq_false]
 refine⟨j,List.mem_range.2 hje,?_⟩
 have:(fcP pl).usedAt ids (a+j)=false:=by
  rw[hU,List.all_eq_false]
  refine⟨_,List.getElem_mem hil,?_⟩
  rw[q2,beq_eq_false_iff_ne.2 q]
  simp
 rw[this]
 simp
end
end Go.Proofs
namespace Go.Proofs
open Go.Gk Go.RowKit Go.Gm
section
variable {w:World} {R:VWP} {B cb:Nat} {pl:List PI} {bd:Int}
theorem zwc{F:Fc}{id:Int}(h:0<=F.fn id):∃n:Nat,F.fn id=(n:Int)/\n<F.fl.length:=by
 unfold Fc.fn at h⊢
 cases hf:F.fl.findIdx? λf=>f.id==id with
 |none=>rw[hf]at h;exact absurd h (by decide)
 |some k=>
  obtain⟨h1,_⟩:=List.findIdx?_eq_some_iff_getElem.1 hf
  exact⟨k,rfl,h1⟩
theorem znH{a b:ByteArray}:(a.toList==b.toList)=decide (a=b):=by
 rw[Bool.eq_iff_iff,beq_iff_eq,decide_eq_true_eq]
 refine⟨λh=>?_,λh=>by rw[h]⟩
 have h1:a.data.toList=b.data.toList:=by
  rw[<-Go.ByteArray.toList_eq,<-Go.ByteArray.toList_eq]
  exact h
 exact ByteArray.ext (Array.toList_inj.1 h1)
set_option maxHeartbeats 4000000 in
theorem zni(h:IsCk w B cb pl)(hF:FcOk bd pl){k:Nat}(hk:k<pl.length)(e15:(ix pl k).1=15)(hR:∀w',Below w.heap.size w w'->R (.bool ((fcP pl).enterd k)) w') :
  cR 82 #[.pointer (some (blk cb)),.int .i64 (k:Int)] w R:=by
 refine za.of (zcQ _ k R w ?_) λ_ _ h=>h
 have hk':=h
 obtain⟨pb,tb,rc,rd,fs,ins,L,h1,h2,h3,h4,h5,h6,h7,h8⟩:=hk'
 have hix:=zH hk
 have h3l:3<=pl[k].2.2.2.length:=by have:=Yk hF.shape hk e15 zcs;rwa[hix]at this
 have hmx:=YQ hF.shape hk
 refine ze rfl (h1.rS (n:=4) (x:=ins) rfl (Z8 h7 (Below.refl _ _) hk λt hI=>?_))
 have eE:entF (piOf (mkIn pl[k] t) pl[k].2.2.2)=entF (ix pl k):=by rw[hix]
 refine YS (x:=mkIn pl[k] t) (al:=pl[k].2.2.2) hI h3l hmx λw1 r hr b1=>?_
 rw[eE]at hr⊢
 have hR0:=hR
 unfold Fc.enterd Fc.fnA at hR
 have hR:∀w',Below w.heap.size w w'->R (.bool (decide (0<=(fcP pl).fn (entF (ix pl k)).2.1)&&((fcP pl).fl.getD ((fcP pl).fn (entF (ix pl k)).2.1).toNat fnZ).ps.isEmpty&&(tA (tyL pl) (ix pl ((fcP pl).fl.getD ((fcP pl).fn (entF (ix pl k)).2.1).toNat fnZ).at_.toNat).2.1).kind==1 &&
   ((List.range pl.length).all λj=>!((ix pl j).1==57&&arN (ix pl j) 0==(entF (ix pl k)).2.1)) &&
   ((List.range k).all λj=>!((ix pl j).1==15&&(entF (ix pl j)).1==(entF (ix pl k)).1&&decide ((entF (ix pl j)).2.2.1=(entF (ix pl k)).2.2.1))) &&
   ((entF (ix pl k)).1 !=4||(List.range pl.length).any λj=>(ix pl j).1==16&&arN (ix pl j) 0==(entF (ix pl k)).2.1))) w':=hR
 generalize entF (ix pl k)=E at hr hR⊢
 refine⟨(E.1,E.2.1,E.2.2.1,r,()),rfl,box4 rfl λw6 hE6 b6 z6=>?_⟩
 have hE6:Blk w6 w1.heap.size 74 (enV E.1 E.2.1 E.2.2.1 r):=hE6
 have b06:=b1.on b6
 refine hE6.rI (n:=1) (x:=E.2.1) rfl (zcP (h.below b06) λw7 b7=>⟨_,rfl,?_⟩)
 have b07:=b06.on b7
 have b07d:=b07.drew
 have hE7:=hE6.below b7
 have hLl:L.length=(fcP pl).fl.length:=by show _=(cutF pl pl.length).length;rw[<-h6,List.length_map]
 refine zo.cut (λ(_:Unit) w'=>Below w7.heap.size w7 w'/\decide (0<=(fcP pl).fn E.2.1)=true/\((fcP pl).fl.getD ((fcP pl).fn E.2.1).toNat fnZ).ps.isEmpty=true/\((tA (tyL pl) (ix pl ((fcP pl).fl.getD ((fcP pl).fn E.2.1).toNat fnZ).at_.toNat).2.1).kind==1)=true) ?_ ?_
 ·refine zj (λg=>?_) (λg=>?_)
  ·have:=hR _ b07d
   rw[decide_eq_false (by omega)]at this
   simpa using this
  obtain⟨n,en,hn⟩:=zwc (F:=fcP pl) (id:=E.2.1) (by omega)
  rw[en]at hR⊢
  rw[Int.toNat_natCast]at hR⊢
  have hnL:n<L.length:=by omega
  have h5':=h5.below b07d
  obtain⟨a,ha,hc⟩:=h5'.cellAt hnL
  have eL:(fcP pl).fl.getD n fnZ=L[n].1:=by
   show(cutF pl pl.length).getD n fnZ=_
   rw[<-h6,zp (by rw[List.length_map];exact hnL),List.getElem_map]
  have hmem:L[n].1∈cutF pl pl.length:=by rw[<-h6];exact List.mem_map.2 ⟨_,List.getElem_mem hnL,rfl⟩
  obtain⟨at_,ea,hat,_⟩:=zkQ hmem
  have hps:=(h5'.row _ (List.getElem_mem hnL)).1
  have hpl:=ztK hps
  have hfl:=h5'.len
  rw[eL]at hR⊢
  refine ze rfl ((h1.below b07d).rS (n:=3) (x:=fs) rfl ⟨⟨by omega,by omega⟩,ze ha ⟨L[n].2.1,hc 2 _ (by decide) rfl,?_⟩⟩)
  refine zj (λg2=>?_) (λg2=>?_)
  ·have:=hR _ b07d
   have e2:L[n].1.ps.isEmpty=false:=by
    cases hq:L[n].1.ps with
    |nil=>rw[hq]at hpl;have:L[n].2.1.l=0:=hpl;omega
    |cons _ _=>rfl
   rw[e2]at this
   simpa using this
  have e2:L[n].1.ps.isEmpty=true:=by
   cases hq:L[n].1.ps with
   |nil=>rfl
   |cons _ _=>rw[hq,List.length_cons]at hpl;omega
  have h7':=h7.below b07d
  obtain⟨ad,had⟩:=h7'.base hat
  obtain⟨t2,hc2,_⟩:=h7'.elem ad had at_ hat
  have h7l:=h7'.len
  rw[ea]at hR⊢
  rw[Int.toNat_natCast,zH hat]at hR
  refine ze rfl ⟨_,(h1.below b07d).cell (n:=1) rfl,ze rfl ((h1.below b07d).rS (n:=4) (x:=ins) rfl (ze rfl ((h1.below b07d).rS (n:=3) (x:=fs) rfl ⟨⟨by omega,by omega⟩,ze ha ⟨(at_:Int),hc 1 (.int .i64 (at_:Int)) (by decide) (by show some (Value.int .i64 L[n].1.at_)=_;rw[ea]),⟨by omega,by omega⟩,ze had ⟨pl[at_].2.1,by rw[Int.toNat_natCast,zn];exact hc2 1 (by decide),?_⟩⟩⟩)))⟩
  refine zd9 (h3.below b07d) λw8 b8=>⟨_,rfl,zy (λq=>?_) (λq=>⟨(Below.refl _ _).drew.on b8,by simp,e2,?_⟩)⟩
  ·have:=hR w8 (b07d.on b8)
   rw[beq_eq_false_iff_ne.2 q]at this
   simpa using this
  ·rw[Int.toNat_natCast,zH hat,beq_iff_eq]
   exact q
 rintro _ w9 ⟨b9,d1,d2,d3⟩
 rw[d1,d2,d3]at hR
 simp only[Bool.true_and]at hR
 have b09:=b07.on b9
 have hE9:=hE7.below b9
 have h7l:=h7.len
 refine hE9.rI0 (x:=E.1) rfl (ze rfl ((h1.below b09).rS (n:=4) (x:=ins) rfl ?_))
 let q57:Nat->Bool:=λj=>(ix pl j).1==57&&arN (ix pl j) 0==E.2.1
 let q15:Nat->Bool:=λj=>(ix pl j).1==15&&(entF (ix pl j)).1==E.1&&decide ((entF (ix pl j)).2.2.1=E.2.2.1)
 let q16:Nat->Bool:=λj=>(ix pl j).1==16&&arN (ix pl j) 0==E.2.1
 have hR:∀w',Below w.heap.size w w'->R (.bool (((List.range pl.length).all λj=>!q57 j)&&((List.range k).all λj=>!q15 j)&&(E.1 !=4||(List.range pl.length).any q16))) w':=hR
 refine zl.ghost (λg (st:Bool×Int×Unit) w'=>∃j:Nat,st=(E.1 !=4||(List.range j).any q16,(j:Int),())/\j<=pl.length/\g=pl.length-j/\Below w9.heap.size w9 w'/\(∀i,i<j->q57 i=false)/\∀i,i<j->i<k->q15 i=false) pl.length ⟨0,by simp,Nat.zero_le _,rfl,Below.refl _ _,λi h=>by omega,λi h=>by omega⟩ ?_
 rintro _ _ w10 ⟨j,rfl,hj,rfl,b10,n57,n15⟩ next hnext
 have b010:=b09.on b10
 refine zj (λg=>?_) (λg=>?_)
 rotate_left
 ·have hje:j=pl.length:=by dsimp only at g;omega
  subst hje
  have:=hR w10 b010
  have e1:((List.range pl.length).all λj=>!q57 j)=true:=List.all_eq_true.2 λi hi=>by rw[n57 i (List.mem_range.1 hi)];rfl
  have e2:((List.range k).all λj=>!q15 j)=true:=List.all_eq_true.2 λi hi=>by have:=List.mem_range.1 hi;rw[n15 i (by omega) this];rfl
  rw[e1,e2]at this
  exact this
 have hjl:j<pl.length:=by dsimp only at g;omega
 have hixj:=zH hjl
 have eOp:(ix pl j).1=pl[j].1:=by rw[hixj]
 have eA0:arN (ix pl j) 0=(pl[j].2.2.2.getD 0 ag0).2.1:=by unfold arN;rw[hixj]
 refine zo.cut (λ(st:Bool×Unit) w'=>st=(E.1 !=4||(List.range (j+1)).any q16,())/\Below w10.heap.size w10 w'/\q57 j=false/\(j<k->q15 j=false)) ?_ ?_
 rotate_left
 ·rintro _ w22 ⟨rfl,b22,f57,f15⟩
  dsimp only
  rw[zE (by have:=h7.cap;have:=h7.max;omega)]
  refine hnext (pl.length-(j+1)) _ w22 (by omega) ⟨j+1,rfl,by omega,rfl,b10.on b22,λi hi=>?_,λi hi hik=>?_⟩
  ·by_cases e:i=j
   ·subst e;exact f57
   ·exact n57 i (by omega)
  ·by_cases e:i=j
   ·subst e;exact f15 hik
   ·exact n15 i (by omega) hik
 have any_succ:(List.range (j+1)).any q16=((List.range j).any q16||q16 j):=by
  rw[List.range_succ,List.any_append]
  simp
 have bad57:∀{w'},q57 j=true->Below w.heap.size w w'->R (.bool false) w':=λ{w'} e hb=>by
  have:=hR w' hb
  have e1:((List.range pl.length).all λj=>!q57 j)=false:=List.all_eq_false.2 ⟨j,List.mem_range.2 hjl,by rw[e];simp⟩
  rw[e1]at this
  exact this
 have bad15:∀{w'},j<k->q15 j=true->Below w.heap.size w w'->R (.bool false) w':=λ{w'} hjk e hb=>by
  have:=hR w' hb
  have e1:((List.range k).all λj=>!q15 j)=false:=List.all_eq_false.2 ⟨j,List.mem_range.2 hjk,by rw[e];simp⟩
  rw[e1,Bool.and_false]at this
  exact this
 refine Z8 h7 b010 hjl λtj hIj=>box4 rfl λw15 hJ15 b15 z15=>?_
 have hJ15:Blk w15 w10.heap.size 44 (inV (mkIn pl[j] tj)):=hJ15
 have b015:=b010.on b15
 have htj:IsAg w15 tj pl[j].2.2.2:=IsC.below zG hIj b015
 have htjl:=htj.len
 have hE15:=(hE9.below b10).below b15
 have b15d:=b15.drew
 refine hJ15.rI0 (x:=pl[j].1) rfl (zk (λe57=>?_) (λe57=>zk (λeo=>?_) (λeo=>zk (λe16=>?_) (λe16=>?_))))
 ·have hl:0<pl[j].2.2.2.length:=by have:=Yk hF.shape hjl (by rw[eOp];exact e57) znp;rw[hixj]at this;exact this
  refine hJ15.drew.rS (n:=3) (x:=tj) rfl (argF htj.drew (j:=0) hl (hE15.drew.rI (n:=1) (x:=E.2.1) rfl (zk (λq=>bad57 ?_ b015.drew) (λq=>⟨?_,b15d,?_,λ_=>?_⟩))))
  ·show((ix pl j).1==57&&arN (ix pl j) 0==E.2.1)=true
   rw[eOp,eA0,q,e57];simp
  ·rw[any_succ]
   have:q16 j=false:=by show((ix pl j).1==16&&_)=false;rw[eOp,e57];rfl
   rw[this,Bool.or_false]
  ·show((ix pl j).1==57&&arN (ix pl j) 0==E.2.1)=false
   rw[eA0,beq_eq_false_iff_ne.2 q,Bool.and_false]
  ·show((ix pl j).1==15&&_&&_)=false
   rw[eOp,e57];rfl
 ·have hl3:3<=pl[j].2.2.2.length:=by have:=Yk hF.shape hjl (by rw[eOp];exact eo) zcs;rw[hixj]at this;exact this
  have eEj:entF (piOf (mkIn pl[j] tj) pl[j].2.2.2)=entF (ix pl j):=by rw[hixj]
  have k16:q16 j=false:=by show((ix pl j).1==16&&_)=false;rw[eOp,eo];rfl
  have k57:q57 j=false:=by show((ix pl j).1==57&&_)=false;rw[eOp,eo];rfl
  have st:(E.1 !=4||(List.range j).any q16,())=(E.1 !=4||(List.range (j+1)).any q16,()):=by rw[any_succ,k16,Bool.or_false]
  refine Ins.load (x:=mkIn pl[j] tj) hJ15 (YS (x:=mkIn pl[j] tj) (al:=pl[j].2.2.2) htj hl3 (YQ hF.shape hjl) λw16 rj _ b16=>?_)
  rw[eEj]
  have q15e:q15 j=((entF (ix pl j)).1==E.1&&decide ((entF (ix pl j)).2.2.1=E.2.2.1)):=by
   show((ix pl j).1==15&&_&&_)=_
   rw[eOp,eo]
   simp
  generalize entF (ix pl j)=Ej at q15e⊢
  refine⟨(Ej.1,Ej.2.1,Ej.2.2.1,rj,()),rfl,box4 rfl λw21 hF21 b21 z21=>?_⟩
  have hF21:Blk w21 w16.heap.size 74 (enV Ej.1 Ej.2.1 Ej.2.2.1 rj):=hF21
  have b1521:=b16.on b21
  have hE21:=hE15.below b1521
  refine zj (λgk=>hF21.rI0 (x:=Ej.1) rfl (hE21.rI0 (x:=E.1) rfl (zk (λq=>hF21.rT (n:=2) (x:=Ej.2.2.1) rfl (hE21.rT (n:=2) (x:=E.2.2.1) rfl ?_)) (λq=>⟨st,b15.on b1521,k57,λ_=>?_⟩)))) (λgk=>⟨st,b15.on b1521,k57,λq=>absurd q (by dsimp only at gk;omega)⟩)
  ·rw[znH]
   refine zj (λq2=>bad15 (by dsimp only at gk;omega) ?_ (b015.on b1521)) (λq2=>⟨st,b15.on b1521,k57,λ_=>?_⟩)
   ·rw[q15e,q,q2];simp
   ·rw[q15e,decide_eq_false q2,Bool.and_false]
  ·rw[q15e,beq_eq_false_iff_ne.2 q,Bool.false_and]
 ·have hl:0<pl[j].2.2.2.length:=by have:=yc hF.shape hjl (by rw[eOp];exact e16) zkr;rw[hixj]at this;rw[this];decide
  have k57:q57 j=false:=by show((ix pl j).1==57&&_)=false;rw[eOp,e16];rfl
  have k15:q15 j=false:=by show((ix pl j).1==15&&_&&_)=false;rw[eOp,e16];rfl
  have k16:q16 j=((pl[j].2.2.2.getD 0 ag0).2.1==E.2.1):=by
   show((ix pl j).1==16&&arN (ix pl j) 0==E.2.1)=_
   rw[eOp,e16,eA0]
   simp
  refine zz (λq=>⟨?_,b15d,k57,λ_=>k15⟩) (λq=>?_)
  ·have q:(E.1 !=4||(List.range j).any q16)=true:=q
   rw[any_succ,<-Bool.or_assoc,q,Bool.true_or]
  ·have q:(E.1 !=4||(List.range j).any q16)=false:=q
   refine hJ15.drew.rS (n:=3) (x:=tj) rfl (argF htj.drew (j:=0) hl (hE15.drew.rI (n:=1) (x:=E.2.1) rfl ⟨?_,b15d,k57,λ_=>k15⟩))
   rw[any_succ,<-Bool.or_assoc,q,Bool.false_or,k16]
 ·have k57:q57 j=false:=by show((ix pl j).1==57&&_)=false;rw[eOp,beq_eq_false_iff_ne.2 e57];rfl
  have k15:q15 j=false:=by show((ix pl j).1==15&&_&&_)=false;rw[eOp,beq_eq_false_iff_ne.2 eo];rfl
  have k16:q16 j=false:=by show((ix pl j).1==16&&_)=false;rw[eOp,beq_eq_false_iff_ne.2 e16];rfl
  refine⟨?_,b15,k57,λ_=>k15⟩
  rw[any_succ,k16,Bool.or_false]
end
end Go.Proofs
namespace Go.Proofs
open Go.Gk
set_option linter.unusedVariables false
set_option maxRecDepth 100000
def zkD:Ann:=(.q (.q (.seq (some ⟨[1,3,4,5],[]⟩) (.q .c) (.seq none (.q (.cond (.q .nil) .nil)) (.q (.seq none (.q (.one (.loop ⟨[3,4,5,25,26],[(6,(.b .slice)),(27,(.b (.int .i64)))]⟩ (.q (.seq none .c (.seq (some ⟨[3,4,5,25,26,27],[(6,(.b .slice))]⟩) (.one (.q (.q (.cond (.q .nil) .nil)))) .nil)))))) (.q .nil)))))))
def zk9(p0:(Int×Int×Sl×Unit))(R:VWP)(w:World):Prop:=Nw (w.alloc (.cells #[zu p0.1,zu p0.2.1,p0.2.2.1.zw] 25)) λw1=>Nw (w1.alloc (.cells #[zi 0,zi 0] 29)) λw2=>da w2 (zB w) λx1 x2 x3=>dI 29 #[.agg #[zu x1,zu x2,x3.zw]] w2 λx5 x6 w3=>df w3 #[zi 0,zi 0] 29 (zi x6.1) (zi x6.2.1) λw6=>zo (S:=Unit) (λm7=>ldI w6 (zB w3) .i64 λx9=>ifB (x9==0) (dJ 30 #[.pointer x5] w6 λx11 w7=>de w7 (zB w3) (zi x11.1) (zi x11.2.1) λw9=>m7 () w9) (m7 () w6)) (λs8 w10=>ldI w10 (zB w3) .i64 λx12=>ifB (x12 !=0) (db w10.drew (zB w3) λx13 x14=>de w10.drew (zB w1) (zi x13) (zi x14) λw12=>db w12 (zB w1) λx15 x16=>R (.tuple #[.slice none 0 0,.agg #[zi x15,zi x16]]) w12) (ldS w10 ((zB w).add 2) λx17=>zl (S:=Sl×Int×Unit) (λs18 w13 n19=>ifB (decide (s18.2.1<(x17.l:Int))) (zo (S:=Sl×Unit) (λm20=>(0<=s18.2.1/\s18.2.1<(x17.l:Int))/\zc x17.a λa22=>dc w13 (a22.add (s18.2.1.toNat *4)) λx23 x24 x25 x26=>dg w13 #[zh 0,zu 0,zu 0,.slice none 0 0] 44 (zh x23) (zu x24) (zu x25) (x26.zw) λw18=>ldI w18 (zB w13) .u16 λx27=>ifB (x27==15) (dc w18 (zB w13) λx28 x29 x30 x31=>dx56 31 #[.agg #[zh x28,zu x29,zu x30,x31.zw]] w18 λx33 w19=>Nw (w19.alloc (.cells #[zu 0,zu 0,.string (BM #[]),.slice none 0 0] 74)) λw20=>dx53 w20 (zB w19) (zu x33.1) (zu x33.2.1) (.string x33.2.2.1) (x33.2.2.2.1.zw) λw24=>zs w24.drew ((zB w19).add 2) λx34=>ldI w24.drew (zB w19) .u32 λx35=>ldI w24.drew ((zB w19).add 1) .u32 λx36=>dx52 w24.drew (zB w19) λx37 x38 x39 x40=>dx52 w24.drew (zB w19) λx41 x42 x43 x44=>dj 32 #[.pointer x5,.agg #[zu x37,zu x38,.string x39,x40.zw],zu 1] w24.drew λx46 w25=>w25.cell? ((zB w19).add 0)=some (zu x41)/\w25.cell? ((zB w19).add 1)=some (zu x42)/\w25.cell? ((zB w19).add 2)=some (.string x43)/\w25.cell? ((zB w19).add 3)=some (x44.zw)/\w25.cell? ((zB w19).add 1)=some (zu x36)/\w25.cell? (zB w19)=some (zu x35)/\w25.cell? ((zB w19).add 2)=some (.string x34)/\dj 32 #[.pointer x5,.agg #[zu x41,zu x42,.string x43,x44.zw],zu 3] w25 λx48 w26=>w26.cell? ((zB w19).add 1)=some (zu x36)/\w26.cell? (zB w19)=some (zu x35)/\w26.cell? ((zB w19).add 2)=some (.string x34)/\Nw (w26.alloc (.cells #[.string x34,zu x35,zu x36,x46.zw,x48.zw] 47)) λw27=>zA Tryz.prog 26 (s18.1.zw) (.slice (some (zB w26)) 1 1) w27 λr49 w28=>m20 (r49,()) w28) (m20 (s18.1,()) w18)) (λs21 w29=>n19 (s21.1,(IntKind.i64.wrap (s18.2.1+(1:Int))),()) w29)) (db w13.drew (zB w3) λx50 x51=>de w13.drew (zB w1) (zi x50) (zi x51) λw31=>db w31 (zB w1) λx52 x53=>R (.tuple #[s18.1.zw,.agg #[zi x52,zi x53]]) w31)) ((Sl.mk none 0 0),0,()) w10))
theorem zld(p0)(R)(w)(h:zk9 p0 R w):Calls Tryz.prog 8 #[.agg #[.int .u32 p0.1,.int .u32 p0.2.1,.slice p0.2.2.1.a p0.2.2.1.l p0.2.2.1.c]] w (Ret R):=lwC zkD Tryz.func8 (by kernel_rfl) (by kernel_rfl) h
def zin:Ann:=(.q (.q (.q .nil)))
def zia(p0:(Int×Int×Sl×Unit))(R:VWP)(w:World):Prop:=Nw (w.alloc (.cells #[zu p0.1,zu p0.2.1,p0.2.2.1.zw] 25)) λw1=>Nw (w1.alloc (.cells #[zi 0,zi 0] 29)) λw2=>da w2 (zB w) λx1 x2 x3=>dz 8 #[.agg #[zu x1,zu x2,x3.zw]] w2 λx5 x6 w3=>df w3 #[zi 0,zi 0] 29 (zi x6.1) (zi x6.2.1) λw6=>db w6 (zB w3) λx7 x8=>de w6 (zB w1) (zi x7) (zi x8) λw8=>db w8 (zB w1) λx9 x10=>R (.agg #[zi x9,zi x10]) w8
theorem zjr(p0)(R)(w)(h:zia p0 R w):Calls Tryz.prog 13 #[.agg #[.int .u32 p0.1,.int .u32 p0.2.1,.slice p0.2.2.1.a p0.2.2.1.l p0.2.2.1.c]] w (Ret R):=lwC zin Tryz.func13 (by kernel_rfl) (by kernel_rfl) h
def zjG:Ann:=(.q (.q .nil))
def zjB(p0:Sl)(p1:Sl)(R:VWP)(w:World):Prop:=dK 47 #[p0.zw,p1.zw,.func (.func 48) #[] #[]] w λx2 w1=>R (.bool x2) w1
theorem zkl(p0)(p1)(R)(w)(h:zjB p0 p1 R w):Calls Tryz.prog 18 #[.slice p0.a p0.l p0.c,.slice p1.a p1.l p1.c] w (Ret R):=lwC zjG Tryz.func18 (by kernel_rfl) (by kernel_rfl) h
def zaX:Ann:=(.q (.seq none (.q (.cond (.q .nil) .nil)) (.seq none (.q (.one (.loop ⟨[0,1],[(5,(.b (.int .i64)))]⟩ (.seq none (.q .c) (.seq (some ⟨[0,1,5],[]⟩) (.one (.q (.cond (.q .nil) .nil))) .nil))))) (.q .nil))))
def zaJ(p0:Sl)(p1:Sl)(R:VWP)(w:World):Prop:=ifB ((p0.l:Int) !=(p1.l:Int)) (R (.bool false) w) (zl (S:=Int×Unit) (λs1 w1 n2=>ifB (decide (s1.1<(p0.l:Int))) (zo (S:=Unit) (λm3=>(0<=s1.1/\s1.1<(p1.l:Int))/\zc p1.a λa5=>ldI w1.drew (a5.add (s1.1.toNat *3)) .i64 λx6=>(0<=s1.1/\s1.1<(p0.l:Int))/\zc p0.a λa7=>ldI w1.drew ((a7.add (s1.1.toNat *6)).add 1) .i64 λx8=>ifB (x6 !=x8) (R (.bool false) w1.drew) ((0<=s1.1/\s1.1<(p1.l:Int))/\zc p1.a λa9=>ldI w1.drew ((a9.add (s1.1.toNat *3)).add 1) .i64 λx10=>(0<=s1.1/\s1.1<(p0.l:Int))/\zc p0.a λa11=>ldI w1.drew ((a11.add (s1.1.toNat *6)).add 2) .i64 λx12=>ifB (x10 !=x12) (R (.bool false) w1.drew) ((0<=s1.1/\s1.1<(p1.l:Int))/\zc p1.a λa13=>ldS w1.drew ((a13.add (s1.1.toNat *3)).add 2) λx14=>(0<=s1.1/\s1.1<(p0.l:Int))/\zc p0.a λa15=>ldI w1.drew ((a15.add (s1.1.toNat *6)).add 4) .i64 λx16=>ifB ((x14.l:Int) !=x16) (R (.bool false) w1.drew) (m3 () w1.drew)))) (λs4 w2=>n2 ((IntKind.i64.wrap (s1.1+(1:Int))),()) w2)) (R (.bool true) w1)) (0,()) w)
theorem zdO(p0)(p1)(R)(w)(h:zaJ p0 p1 R w):Calls Tryz.prog 19 #[.slice p0.a p0.l p0.c,.slice p1.a p1.l p1.c] w (Ret R):=lwC zaX Tryz.func19 (by kernel_rfl) (by kernel_rfl) h
def zio:Ann:=(.q (.one (.seq (some ⟨[2,3],[]⟩) (.q (.cond (.q .nil) .nil)) (.q (.seq none (.q (.one (.loop ⟨[2,18,19],[(20,(.b (.int .i64)))]⟩ (.q (.seq none .c (.seq (some ⟨[2,18,19,20],[]⟩) (.one (.q (.seq (some ⟨[2,6,18,19,20],[]⟩) (.q .c) (.seq none (.q (.one (.loop ⟨[2,6,18,19,20,33,34],[(35,(.b (.int .i64)))]⟩ (.q (.seq none .c (.seq (some ⟨[2,6,18,19,20,33,34,35],[]⟩) (.one (.q (.q .c))) .nil)))))) (.q .nil))))) .nil)))))) (.q .nil))))))
def zib(p0:(ByteArray×Int×Int×Sl×Sl×Unit))(p1:(ByteArray×Int×Int×Sl×Sl×Unit))(R:VWP)(w:World):Prop:=Nw (w.alloc (.cells #[.string p0.1,zu p0.2.1,zu p0.2.2.1,p0.2.2.2.1.zw,p0.2.2.2.2.1.zw] 47)) λw1=>Nw (w1.alloc (.cells #[.string p1.1,zu p1.2.1,zu p1.2.2.1,p1.2.2.2.1.zw,p1.2.2.2.2.1.zw] 47)) λw2=>zo (S:=Unit) (λm1=>ldI w2 ((zB w).add 1) .u32 λx3=>ifB (x3 !=0) (R (zi 203) w2) (ldI w2 ((zB w1).add 1) .u32 λx4=>ifB (x4 !=4) (R (zi 203) w2) (m1 () w2))) (λs2 w3=>ldS w3 ((zB w1).add 3) λx5=>zl (S:=Int×Unit) (λs6 w4 n7=>ifB (decide (s6.1<(x5.l:Int))) (zo (S:=Unit) (λm8=>(0<=s6.1/\s6.1<(x5.l:Int))/\zc x5.a λa10=>dW w4 (a10.add (s6.1.toNat *6)) λx11 x12 x13 x14 x15 x16=>dY w4 #[zu 0,zi 0,zi 0,zu 0,zi 0,.bool false] 52 (zu x11) (zi x12) (zi x13) (zu x14) (zi x15) (.bool x16) λw11=>zo (S:=Unit) (λm17=>ldI w11 ((zB w4).add 2) .i64 λx19=>ifB (x19==15) (ldI w11 ((zB w4).add 1) .i64 λx20=>ifB (x20==(-1:Int)) (m8 () w11) (m17 () w11)) (m17 () w11)) (λs18 w12=>ldS w12 ((zB w).add 4) λx21=>zl (S:=Int×Unit) (λs22 w13 n23=>ifB (decide (s22.1<(x21.l:Int))) (zo (S:=Unit) (λm24=>(0<=s22.1/\s22.1<(x21.l:Int))/\zc x21.a λa26=>dW w13 (a26.add (s22.1.toNat *6)) λx27 x28 x29 x30 x31 x32=>dY w13 #[zu 0,zi 0,zi 0,zu 0,zi 0,.bool false] 52 (zu x27) (zi x28) (zi x29) (zu x30) (zi x31) (.bool x32) λw20=>ldI w20 ((zB w4).add 2) .i64 λx33=>ifB (x33==(-1:Int)) (ldI w20 ((zB w13).add 2) .i64 λx34=>ifB (x34==(-1:Int)) (ldI w20 ((zB w13).add 1) .i64 λx35=>ldI w20 ((zB w4).add 1) .i64 λx36=>ifB (x35==x36) (ldI w20 ((zB w13).add 4) .i64 λx37=>ldI w20 ((zB w4).add 4) .i64 λx38=>ifB (x37==x38) (ldB w20 ((zB w13).add 5) λx39=>ldB w20 ((zB w4).add 5) λx40=>ifB (x39==x40) (m8 () w20) (m24 () w20)) (m24 () w20)) (m24 () w20)) (m24 () w20)) (m24 () w20)) (λs25 w21=>n23 ((IntKind.i64.wrap (s22.1+(1:Int))),()) w21)) (R (zi 203) w13)) (0,()) w12)) (λs9 w22=>n7 ((IntKind.i64.wrap (s6.1+(1:Int))),()) w22)) (R (zi 0) w4)) (0,()) w3)
theorem zjs(p0)(p1)(R)(w)(h:zib p0 p1 R w):Calls Tryz.prog 22 #[.agg #[.string p0.1,.int .u32 p0.2.1,.int .u32 p0.2.2.1,.slice p0.2.2.2.1.a p0.2.2.2.1.l p0.2.2.2.1.c,.slice p0.2.2.2.2.1.a p0.2.2.2.2.1.l p0.2.2.2.2.1.c],.agg #[.string p1.1,.int .u32 p1.2.1,.int .u32 p1.2.2.1,.slice p1.2.2.2.1.a p1.2.2.2.1.l p1.2.2.2.1.c,.slice p1.2.2.2.2.1.a p1.2.2.2.2.1.l p1.2.2.2.2.1.c]] w (Ret R):=lwC zio Tryz.func22 (by kernel_rfl) (by kernel_rfl) h
def zau:Ann:=(.q (.seq (some ⟨[2,3],[]⟩) (.q (.cond (.q .nil) .nil)) (.seq none (.q (.one (.loop ⟨[2,3],[(5,(.b (.int .i64)))]⟩ (.seq none (.q .c) (.seq none (.one (.q (.cond (.q .nil) .nil))) .nil))))) (.q .nil))))
def zaj(p0:(ByteArray×Int×Int×Sl×Sl×Unit))(p1:(ByteArray×Int×Int×Sl×Sl×Unit))(R:VWP)(w:World):Prop:=Nw (w.alloc (.cells #[.string p0.1,zu p0.2.1,zu p0.2.2.1,p0.2.2.2.1.zw,p0.2.2.2.2.1.zw] 47)) λw1=>Nw (w1.alloc (.cells #[.string p1.1,zu p1.2.1,zu p1.2.2.1,p1.2.2.2.1.zw,p1.2.2.2.2.1.zw] 47)) λw2=>zo (S:=Unit) (λm1=>ldI w2 ((zB w).add 1) .u32 λx3=>ifB (x3 !=0) (R (zi 203) w2) (ldI w2 ((zB w1).add 1) .u32 λx4=>ifB (x4 !=4) (R (zi 203) w2) (m1 () w2))) (λs2 w3=>zl (S:=Int×Unit) (λs5 w4 n6=>ldS w4 ((zB w1).add 3) λx7=>ifB (decide (s5.1<(x7.l:Int))) (ldS w4.drew ((zB w1).add 3) λx8=>(0<=s5.1/\s5.1<(x8.l:Int))/\zc x8.a λa9=>dW w4.drew (a9.add (s5.1.toNat *6)) λx10 x11 x12 x13 x14 x15=>ldS w4.drew ((zB w).add 4) λx16=>dK 50 #[.agg #[zu x10,zi x11,zi x12,zu x13,zi x14,.bool x15],x16.zw] w4.drew λx18 w5=>ifB (!x18) (R (zi 203) w5) (n6 ((IntKind.i64.wrap (s5.1+(1:Int))),()) w5)) (R (zi 0) w4)) (0,()) w3)
theorem zdi(p0)(p1)(R)(w)(h:zaj p0 p1 R w):Calls Tryz.prog 23 #[.agg #[.string p0.1,.int .u32 p0.2.1,.int .u32 p0.2.2.1,.slice p0.2.2.2.1.a p0.2.2.2.1.l p0.2.2.2.1.c,.slice p0.2.2.2.2.1.a p0.2.2.2.2.1.l p0.2.2.2.2.1.c],.agg #[.string p1.1,.int .u32 p1.2.1,.int .u32 p1.2.2.1,.slice p1.2.2.2.1.a p1.2.2.2.1.l p1.2.2.2.1.c,.slice p1.2.2.2.2.1.a p1.2.2.2.2.1.l p1.2.2.2.2.1.c]] w (Ret R):=lwC zau Tryz.func23 (by kernel_rfl) (by kernel_rfl) h
def zaP:Ann:=(.q (.seq none (.q (.one (.loop ⟨[0,2,10,11],[(12,(.b (.int .i64)))]⟩ (.q (.seq none .c (.seq none (.one (.q (.q (.one (.loop ⟨[0,2,3,10,11,12,20,21],[(22,(.b (.int .i64)))]⟩ (.q (.seq none .c (.seq none (.one (.q (.q (.cond (.q .nil) .nil)))) .nil)))))))) .nil)))))) (.q .nil)))
def zaB(p0:Option Addr)(R:VWP)(w:World):Prop:=Nw (w.alloc (.cells #[zi 0,zi 0] 29)) λw1=>zc p0 λa1=>ldS w1 (a1.add 4) λx2=>zl (S:=Int×Unit) (λs3 w2 n4=>ifB (decide (s3.1<(x2.l:Int))) ((0<=s3.1/\s3.1<(x2.l:Int))/\zc x2.a λa5=>dc w2 (a5.add (s3.1.toNat *4)) λx6 x7 x8 x9=>dg w2 #[zh 0,zu 0,zu 0,.slice none 0 0] 44 (zh x6) (zu x7) (zu x8) (x9.zw) λw7=>ldI w7 (zB w2) .u16 λx10=>dj 53 #[.pointer p0,zh x10] w7 λx12 w8=>zl (S:=Int×Unit) (λs13 w9 n14=>ifB (decide (s13.1<(x12.l:Int))) ((0<=s13.1/\s13.1<(x12.l:Int))/\zc x12.a λa15=>dx58 w9 (a15.add (s13.1.toNat *2)) λx16 x17=>Nw (w9.alloc (.cells #[.nilFunc,zi 0] 128)) λw10=>oneV x16 (de w10 (zB w9) x16 (zi x17) λw12=>ldR w12 (zB w9) λx18=>zL Tryz.prog Tryz.fs x18 [(zi s3.1)] w12 λv19 w13=>∃x20:Bool,v19=(.bool x20)/\ifB (!x20) (ldI w13 ((zB w9).add 1) .i64 λx21=>de w13 (zB w) (zi x21) (zi s3.1) λw15=>db w15 (zB w) λx22 x23=>R (.agg #[zi x22,zi x23]) w15) (n14 ((IntKind.i64.wrap (s13.1+(1:Int))),()) w13))) (n4 ((IntKind.i64.wrap (s3.1+(1:Int))),()) w9)) (0,()) w8) (de w2 (zB w) (zi 0) (zi 0) λw17=>db w17 (zB w) λx24 x25=>R (.agg #[zi x24,zi x25]) w17)) (0,()) w1
theorem zdF(p0)(R)(w)(h:zaB p0 R w):Calls Tryz.prog 30 #[.pointer p0] w (Ret R):=lwC zaP Tryz.func30 (by kernel_rfl) (by kernel_rfl) h
def zmf:Ann:=(.q (.q (.seq none (.q (.cond (.q .nil) .nil)) (.seq none (.q (.one (.loop ⟨[1,2,6,23,24],[(25,(.b (.int .i64)))]⟩ (.q (.seq none .c (.seq (some ⟨[1,2,6,23,24,25],[]⟩) (.one (.q (.q (.cond (.q .nil) .nil)))) .nil)))))) (.q .nil)))))
def zmc(p0:(Int×Int×Sl×Unit))(p1:ByteArray)(p2:Int)(R:VWP)(w:World):Prop:=Nw (w.alloc (.cells #[zu p0.1,zu p0.2.1,p0.2.2.1.zw] 25)) λw1=>Nw (w1.alloc (.cells #[.string (BM #[]),zu 0,zu 0,.slice none 0 0,.slice none 0 0] 47)) λw2=>da w2 (zB w) λx1 x2 x3=>dz 8 #[.agg #[zu x1,zu x2,x3.zw]] w2 λx5 x6 w3=>df w3 #[zi 0,zi 0] 29 (zi x6.1) (zi x6.2.1) λw6=>ldI w6 (zB w3) .i64 λx7=>ifB (x7 !=0) (ldI w6.drew (zB w3) .i64 λx8=>dM w6.drew (zB w1) (.string (BM #[])) (zu 0) (zu 0) (.slice none 0 0) (.slice none 0 0) λw11=>w11.cell? (zB w3)=some (zi x8)/\dx59 w11 (zB w1) λx9 x10 x11 x12 x13=>R (.tuple #[.agg #[.string x9,zu x10,zu x11,x12.zw,x13.zw],zi x8]) w11) (zl (S:=Int×Unit) (λs14 w12 n15=>ifB (decide (s14.1<(x5.l:Int))) (zo (S:=Unit) (λm16=>(0<=s14.1/\s14.1<(x5.l:Int))/\zc x5.a λa18=>dx59 w12 (a18.add (s14.1.toNat *5)) λx19 x20 x21 x22 x23=>Nw (w12.alloc (.cells #[.string (BM #[]),zu 0,zu 0,.slice none 0 0,.slice none 0 0] 47)) λw13=>dM w13 (zB w12) (.string x19) (zu x20) (zu x21) (x22.zw) (x23.zw) λw18=>zs w18 (zB w12) λx24=>ifB (x24.toList==p1.toList) (ldI w18 ((zB w12).add 1) .u32 λx25=>ifB (x25==p2) (dx59 w18 (zB w12) λx26 x27 x28 x29 x30=>dM w18 (zB w1) (.string x26) (zu x27) (zu x28) (x29.zw) (x30.zw) λw23=>dx59 w23 (zB w1) λx31 x32 x33 x34 x35=>R (.tuple #[.agg #[.string x31,zu x32,zu x33,x34.zw,x35.zw],zi 0]) w23) (m16 () w18)) (m16 () w18)) (λs17 w24=>n15 ((IntKind.i64.wrap (s14.1+(1:Int))),()) w24)) (dM w12 (zB w1) (.string (BM #[])) (zu 0) (zu 0) (.slice none 0 0) (.slice none 0 0) λw29=>dx59 w29 (zB w1) λx36 x37 x38 x39 x40=>R (.tuple #[.agg #[.string x36,zu x37,zu x38,x39.zw,x40.zw],zi 5]) w29)) (0,()) w6)
theorem zlP(p0)(p1)(p2)(R)(w)(h:zmc p0 p1 p2 R w):Calls Tryz.prog 38 #[.agg #[.int .u32 p0.1,.int .u32 p0.2.1,.slice p0.2.2.1.a p0.2.2.1.l p0.2.2.1.c],.string p1,.int .u32 p2] w (Ret R):=lwC zmf Tryz.func38 (by kernel_rfl) (by kernel_rfl) h
def zhh:Ann:=(.q (.q .nil))
def zgY(p0:(Int×Int×Int×Int×Int×Bool×Unit))(p1:(Int×Int×Sl×Unit))(R:VWP)(w:World):Prop:=Nw (w.alloc (.cells #[zu p0.1,zi p0.2.1,zi p0.2.2.1,zu p0.2.2.2.1,zi p0.2.2.2.2.1,.bool p0.2.2.2.2.2.1] 52)) λw1=>Nw (w1.alloc (.cells #[zi p1.1,zi p1.2.1,p1.2.2.1.zw] 58)) λw2=>ldI w2 (zB w1) .i64 λx1=>ldI w2 ((zB w).add 1) .i64 λx2=>ifB (x1==x2) (ldI w2 ((zB w1).add 1) .i64 λx3=>ldI w2 ((zB w).add 2) .i64 λx4=>ifB (x3==x4) (ldS w2 ((zB w1).add 2) λx5=>ldI w2 ((zB w).add 4) .i64 λx6=>R (.bool ((x5.l:Int)==x6)) w2) (R (.bool false) w2)) (R (.bool false) w2)
theorem zi6(p0)(p1)(R)(w)(h:zgY p0 p1 R w):Calls Tryz.prog 48 #[.agg #[.int .u32 p0.1,.int .i64 p0.2.1,.int .i64 p0.2.2.1,.int .u32 p0.2.2.2.1,.int .i64 p0.2.2.2.2.1,.bool p0.2.2.2.2.2.1],.agg #[.int .i64 p1.1,.int .i64 p1.2.1,.slice p1.2.2.1.a p1.2.2.1.l p1.2.2.1.c]] w (Ret R):=lwC zhh Tryz.func48 (by kernel_rfl) (by kernel_rfl) h
def zbW:Ann:=(.q (.seq (some ⟨[1,2],[]⟩) (.q (.cond (.q .nil) .nil)) (.seq none (.q (.one (.loop ⟨[1,2],[(5,(.b (.int .i64)))]⟩ (.seq none (.q .c) (.seq (some ⟨[1,2,5],[]⟩) (.one (.q (.cond (.q .nil) .nil))) .nil))))) (.q .nil))))
def zb9(p0:(Int×Int×Int×Int×Int×Bool×Unit))(p1:Sl)(R:VWP)(w:World):Prop:=Nw (w.alloc (.cells #[zu p0.1,zi p0.2.1,zi p0.2.2.1,zu p0.2.2.2.1,zi p0.2.2.2.2.1,.bool p0.2.2.2.2.2.1] 52)) λw1=>zo (S:=Unit) (λm1=>ldI w1 ((zB w).add 2) .i64 λx3=>ifB (x3==15) (ldI w1 ((zB w).add 1) .i64 λx4=>ifB (x4==(-1:Int)) (R (.bool true) w1) (m1 () w1)) (m1 () w1)) (λs2 w2=>zl (S:=Int×Unit) (λs5 w3 n6=>ifB (decide (s5.1<(p1.l:Int))) (zo (S:=Unit) (λm7=>ldI w3.drew ((zB w).add 2) .i64 λx9=>ifB (x9==(-1:Int)) ((0<=s5.1/\s5.1<(p1.l:Int))/\zc p1.a λa10=>ldI w3.drew ((a10.add (s5.1.toNat *6)).add 2) .i64 λx11=>ifB (x11==(-1:Int)) ((0<=s5.1/\s5.1<(p1.l:Int))/\zc p1.a λa12=>ldI w3.drew ((a12.add (s5.1.toNat *6)).add 1) .i64 λx13=>ldI w3.drew ((zB w).add 1) .i64 λx14=>ifB (x13==x14) ((0<=s5.1/\s5.1<(p1.l:Int))/\zc p1.a λa15=>ldI w3.drew ((a15.add (s5.1.toNat *6)).add 4) .i64 λx16=>ldI w3.drew ((zB w).add 4) .i64 λx17=>ifB (x16==x17) ((0<=s5.1/\s5.1<(p1.l:Int))/\zc p1.a λa18=>ldB w3.drew ((a18.add (s5.1.toNat *6)).add 5) λx19=>ldB w3.drew ((zB w).add 5) λx20=>ifB (x19==x20) (R (.bool true) w3.drew) (m7 () w3.drew)) (m7 () w3.drew)) (m7 () w3.drew)) (m7 () w3.drew)) (m7 () w3.drew)) (λs8 w4=>n6 ((IntKind.i64.wrap (s5.1+(1:Int))),()) w4)) (R (.bool false) w3)) (0,()) w2)
theorem zez(p0)(p1)(R)(w)(h:zb9 p0 p1 R w):Calls Tryz.prog 50 #[.agg #[.int .u32 p0.1,.int .i64 p0.2.1,.int .i64 p0.2.2.1,.int .u32 p0.2.2.2.1,.int .i64 p0.2.2.2.2.1,.bool p0.2.2.2.2.2.1],.slice p1.a p1.l p1.c] w (Ret R):=lwC zbW Tryz.func50 (by kernel_rfl) (by kernel_rfl) h
def zaT:Ann:=(.q (.seq none (.q (.one (.q (.cond (.q .nil) (.q (.cond (.q .nil) (.q (.cond (.q .nil) (.q (.cond (.q .nil) .nil)))))))))) (.q .nil)))
def zaF(p0:Option Addr)(p1:Int)(R:VWP)(w:World):Prop:=ifB (p1==15) (Nw (w.alloc (.cells #[.func (.func 82) #[.pointer p0] #[],zi 200,.func (.func 83) #[.pointer p0] #[],zi 201,.func (.func 84) #[.pointer p0] #[],zi 202] 128)) λw1=>R (.slice (some (zB w)) 3 3) w1) (ifB (p1==16) (Nw (w.alloc (.cells #[.func (.func 85) #[.pointer p0] #[],zi 200] 128)) λw2=>R (.slice (some (zB w)) 1 1) w2) (ifB (p1==71) (Nw (w.alloc (.cells #[.func (.func 86) #[.pointer p0] #[],zi 202] 128)) λw3=>R (.slice (some (zB w)) 1 1) w3) (ifB (p1==252) (Nw (w.alloc (.cells #[.func (.func 87) #[.pointer p0] #[],zi 204] 128)) λw4=>R (.slice (some (zB w)) 1 1) w4) (R (.slice none 0 0) w))))
theorem zdJ(p0)(p1)(R)(w)(h:zaF p0 p1 R w):Calls Tryz.prog 53 #[.pointer p0,.int .u16 p1] w (Ret R):=lwC zaT Tryz.func53 (by kernel_rfl) (by kernel_rfl) h
def zaR:Ann:=(.q (.q (.seq none (.q (.one (.loop ⟨[0,5,22,23],[(24,(.b (.int .i64)))]⟩ (.q (.seq none .c (.seq (some ⟨[0,5,22,23,24],[]⟩) (.one (.q (.q (.q (.q (.q (.cond (.q .nil) .nil))))))) .nil)))))) (.q (.seq (some ⟨[5,12],[]⟩) (.q (.cond (.q .nil) .nil)) (.seq none (.q (.cond (.q .nil) .nil)) (.q .nil)))))))
def zaD(p0:Option Addr)(p1:Int)(R:VWP)(w:World):Prop:=zc p0 λa1=>ldS w (a1.add 4) λx2=>(0<=p1/\p1<(x2.l:Int))/\zc x2.a λa3=>dc w (a3.add (p1.toNat *4)) λx4 x5 x6 x7=>dx56 31 #[.agg #[zh x4,zu x5,zu x6,x7.zw]] w λx9 w1=>Nw (w1.alloc (.cells #[zu 0,zu 0,.string (BM #[]),.slice none 0 0] 74)) λw2=>dx53 w2 (zB w1) (zu x9.1) (zu x9.2.1) (.string x9.2.2.1) (x9.2.2.2.1.zw) λw6=>ldS w6 ((zB w1).add 3) λx10=>zl (S:=Int×Unit) (λs11 w7 n12=>ifB (decide (s11.1<(x10.l:Int))) (zo (S:=Unit) (λm13=>(0<=s11.1/\s11.1<(x10.l:Int))/\zc x10.a λa15=>ldI w7 (a15.add s11.1.toNat) .u32 λx16=>dF 54 #[.pointer p0,zu x16] w7 λx18 w8=>dx54 55 #[.pointer p0,zu x16] w8 λx20 w9=>dY w9 #[zu 0,zi 0,zi 0,zu 0,zi 0,.bool false] 52 (zu x20.1) (zi x20.2.1) (zi x20.2.2.1) (zu x20.2.2.2.1) (zi x20.2.2.2.2.1) (.bool x20.2.2.2.2.2.1) λw16=>ldI w16 ((zB w9).add 3) .u32 λx21=>dV 89 #[.pointer p0,zu x21] w16 λx23 x24 w17=>ifB (x18==0) (R (.bool false) w17) (ifB (!x24) (R (.bool false) w17) (ldS w17 ((zB w1).add 3) λx25=>(0<=(0:Int)/\0<=s11.1/\s11.1<=(x25.c:Int))/\dK 114 #[.slice (if x25.c=0 then x25.a else Option.map (λa=>a.add 0) x25.a) (s11.1.toNat-0) (x25.c-0),zu x16] w17 λx27 w18=>ifB x27 (R (.bool false) w18) (ldI w18 (zB w1) .u32 λx28=>dW w18 (zB w9) λx29 x30 x31 x32 x33 x34=>dK 115 #[.pointer p0,zu x28,zu x18,.agg #[zu x29,zi x30,zi x31,zu x32,zi x33,.bool x34]] w18 λx36 w19=>ifB (!x36) (R (.bool false) w19) (m13 () w19))))) (λs14 w20=>n12 ((IntKind.i64.wrap (s11.1+(1:Int))),()) w20)) (dx52 w7 (zB w1) λx37 x38 x39 x40=>dj 32 #[.pointer p0,.agg #[zu x37,zu x38,.string x39,x40.zw],zu 3] w7 λx42 w21=>zo (S:=Unit) (λm43=>dx52 w21 (zB w1) λx45 x46 x47 x48=>dK 116 #[.pointer p0,.agg #[zu x45,zu x46,.string x47,x48.zw]] w21 λx50 w22=>ifB (!x50) (R (.bool false) w22) (dx52 w22 (zB w1) λx51 x52 x53 x54=>dj 32 #[.pointer p0,.agg #[zu x51,zu x52,.string x53,x54.zw],zu 1] w22 λx56 w23=>dK 117 #[x56.zw] w23 λx58 w24=>ifB (!x58) (R (.bool false) w24) (dK 117 #[x42.zw] w24 λx60 w25=>ifB (!x60) (R (.bool false) w25) (m43 () w25)))) (λs44 w26=>ldI w26 (zB w1) .u32 λx61=>ifB (x61==4) (ifB ((x42.l:Int)==1) ((0<=(0:Int)/\0<(x42.l:Int))/\zc x42.a λa62=>ldI w26 ((a62.add (0*6)).add 1) .i64 λx63=>ifB (x63==0) ((0<=(0:Int)/\0<(x42.l:Int))/\zc x42.a λa64=>ldI w26 ((a64.add (0*6)).add 4) .i64 λx65=>R (.bool (x65==1)) w26) (R (.bool false) w26)) (R (.bool false) w26)) (dK 118 #[x42.zw,.func (.func 119) #[] #[]] w26 λx67 w27=>R (.bool x67) w27)))) (0,()) w6
theorem zdH(p0)(p1)(R)(w)(h:zaD p0 p1 R w):Calls Tryz.prog 83 #[.pointer p0,.int .i64 p1] w (Ret R):=lwC zaR Tryz.func83 (by kernel_rfl) (by kernel_rfl) h
def Ya:Ann:=(.q (.q (.q .nil)))
def ZX(p0:Option Addr)(p1:Int)(R:VWP)(w:World):Prop:=Nw (w.alloc (.cells #[.pointer p0] 69)) λw1=>ldP w1 (zB w) λx1=>zc x1 λa2=>ldS w1 (a2.add 4) λx3=>(0<=p1/\p1<(x3.l:Int))/\zc x3.a λa4=>dc w1 (a4.add (p1.toNat *4)) λx5 x6 x7 x8=>dx56 31 #[.agg #[zh x5,zu x6,zu x7,x8.zw]] w1 λx10 w2=>Nw (w2.alloc (.cells #[zu 0,zu 0,.string (BM #[]),.slice none 0 0] 74)) λw3=>dx53 w3 (zB w2) (zu x10.1) (zu x10.2.1) (.string x10.2.2.1) (x10.2.2.2.1.zw) λw7=>ldS w7 ((zB w2).add 3) λx11=>dK 120 #[x11.zw,.func (.func 121) #[] #[.pointer (some (zB w)),.pointer (some (zB w2))]] w7 λx13 w8=>R (.bool (!x13)) w8
theorem zbu(p0)(p1)(R)(w)(h:ZX p0 p1 R w):Calls Tryz.prog 84 #[.pointer p0,.int .i64 p1] w (Ret R):=lwC Ya Tryz.func84 (by kernel_rfl) (by kernel_rfl) h
def zbO:Ann:=(.q (.q (.q (.seq none (.q (.one (.loop ⟨[5,21,22],[(6,(.b .bool)),(23,(.b (.int .i64)))]⟩ (.q (.seq none .c (.seq (some ⟨[5,21,22,23],[(6,(.b .bool))]⟩) (.one (.q (.one (.q (.cond .nil (.q (.cond (.q .nil) .nil))))))) .nil)))))) (.q .nil)))))
def zb1(p0:Option Addr)(p1:Int)(R:VWP)(w:World):Prop:=zc p0 λa1=>ldS w (a1.add 4) λx2=>(0<=p1/\p1<(x2.l:Int))/\zc x2.a λa3=>dc w (a3.add (p1.toNat *4)) λx4 x5 x6 x7=>dg w #[zh 0,zu 0,zu 0,.slice none 0 0] 44 (zh x4) (zu x5) (zu x6) (x7.zw) λw5=>zc p0 λa8=>ldS w5 (a8.add 4) λx9=>(0<=(0:Int)/\0<=p1/\p1<=(x9.c:Int))/\zl (S:=Bool×Int×Unit) (λs10 w6 n11=>ifB (decide (s10.2.1<(((p1.toNat-0):Nat):Int))) (zo (S:=Bool×Unit) (λm12=>(0<=s10.2.1/\s10.2.1<(((p1.toNat-0):Nat):Int))/\zc (if x9.c=0 then x9.a else Option.map (λa=>a.add (0*4)) x9.a) λa14=>dc w6 (a14.add (s10.2.1.toNat *4)) λx15 x16 x17 x18=>dg w6 #[zh 0,zu 0,zu 0,.slice none 0 0] 44 (zh x15) (zu x16) (zu x17) (x18.zw) λw11=>ldI w11.drew (zB w6) .u16 λx19=>ifB (x19==15) (ldS w11.drew ((zB w6).add 3) λx20=>(0<=(0:Int)/\0<(x20.l:Int))/\zc x20.a λa21=>ldI w11.drew ((a21.add (0*3)).add 1) .u32 λx22=>ifB (x22==4) (ldS w11.drew ((zB w6).add 3) λx23=>(0<=(1:Int)/\1<(x23.l:Int))/\zc x23.a λa24=>ldI w11.drew ((a24.add (1*3)).add 1) .u32 λx25=>ldS w11.drew ((zB w).add 3) λx26=>(0<=(0:Int)/\0<(x26.l:Int))/\zc x26.a λa27=>ldI w11.drew ((a27.add (0*3)).add 1) .u32 λx28=>ifB (x25==x28) (m12 (true,()) w11.drew) (ldI w11.drew (zB w6) .u16 λx29=>ifB (x29==16) (ldS w11.drew ((zB w6).add 3) λx30=>ldS w11.drew ((zB w).add 3) λx31=>dK 123 #[x30.zw,x31.zw] w11.drew λx33 w12=>ifB x33 (R (.bool false) w12) (m12 (s10.1,()) w12)) (m12 (s10.1,()) w11.drew))) (ldI w11.drew (zB w6) .u16 λx34=>ifB (x34==16) (ldS w11.drew ((zB w6).add 3) λx35=>ldS w11.drew ((zB w).add 3) λx36=>dK 123 #[x35.zw,x36.zw] w11.drew λx38 w13=>ifB x38 (R (.bool false) w13) (m12 (s10.1,()) w13)) (m12 (s10.1,()) w11.drew))) (ldI w11.drew (zB w6) .u16 λx39=>ifB (x39==16) (ldS w11.drew ((zB w6).add 3) λx40=>ldS w11.drew ((zB w).add 3) λx41=>dK 123 #[x40.zw,x41.zw] w11.drew λx43 w14=>ifB x43 (R (.bool false) w14) (m12 (s10.1,()) w14)) (m12 (s10.1,()) w11.drew))) (λs13 w15=>n11 (s13.1,(IntKind.i64.wrap (s10.2.1+(1:Int))),()) w15)) (R (.bool s10.1) w6)) (false,0,()) w5
theorem zeq(p0)(p1)(R)(w)(h:zb1 p0 p1 R w):Calls Tryz.prog 85 #[.pointer p0,.int .i64 p1] w (Ret R):=lwC zbO Tryz.func85 (by kernel_rfl) (by kernel_rfl) h
def ZP:Ann:=(.q (.q (.q (.q (.seq (some ⟨[0,1,6,7,9],[]⟩) (.one (.q (.cond (.q .nil) (.q (.cond (.q .nil) (.q (.cond (.q .nil) (.q (.cond (.q .nil) .nil))))))))) (.seq none (.q (.one (.loop ⟨[6,7,9,70,71],[(72,(.b (.int .i64)))]⟩ (.q (.seq none .c (.seq (some ⟨[6,7,9,70,71,72],[]⟩) (.one (.q (.q (.cond (.q .nil) .nil)))) .nil)))))) (.q .nil)))))))
def ZL(p0:Option Addr)(p1:Int)(R:VWP)(w:World):Prop:=zc p0 λa1=>ldS w (a1.add 4) λx2=>(0<=p1/\p1<(x2.l:Int))/\zc x2.a λa3=>dc w (a3.add (p1.toNat *4)) λx4 x5 x6 x7=>dg w #[zh 0,zu 0,zu 0,.slice none 0 0] 44 (zh x4) (zu x5) (zu x6) (x7.zw) λw5=>ldS w5.drew ((zB w).add 3) λx8=>(0<=(0:Int)/\0<(x8.l:Int))/\zc x8.a λa9=>ldI w5.drew ((a9.add (0*3)).add 1) .u32 λx10=>ldS w5.drew ((zB w).add 3) λx11=>(0<=(1:Int)/\1<(x11.l:Int))/\zc x11.a λa12=>ldI w5.drew ((a12.add (1*3)).add 1) .u32 λx13=>ldS w5.drew ((zB w).add 3) λx14=>(0<=(2:Int)/\2<=(x14.l:Int)/\(x14.l:Int)<=(x14.c:Int))/\zo (S:=Unit) (λm15=>dK 124 #[zu x13] w5.drew λx18 w6=>ifB (!(x18==((((x14.l-2):Nat):Int)==1))) (R (.bool false) w6) (ifB (decide ((((x14.l-2):Nat):Int)>1)) (R (.bool false) w6) (ifB (x13==0) (R (.bool true) w6) (dF 54 #[.pointer p0,zu x10] w6 λx20 w7=>ifB (x20==0) (R (.bool false) w7) (ifB (x13==11) (Nw (w7.alloc (.cells #[zu 0,zu 5,zu 15] 22)) λw8=>(0<=(0:Int)/\0<(((x14.l-2):Nat):Int))/\zc (if x14.c=2 then x14.a else Option.map (λa=>a.add (2*3)) x14.a) λa21=>ldI w8 ((a21.add (0*3)).add 1) .u32 λx22=>dK 114 #[.slice (some (zB w7)) 3 3,zu x22] w8 λx24 w9=>ifB (!x24) (R (.bool false) w9) (m15 () w9)) (m15 () w7)))))) (λs16 w10=>zc p0 λa25=>ldS w10 (a25.add 4) λx26=>(0<=(0:Int)/\0<=p1/\p1<=(x26.c:Int))/\zl (S:=Int×Unit) (λs27 w11 n28=>ifB (decide (s27.1<(((p1.toNat-0):Nat):Int))) (zo (S:=Unit) (λm29=>(0<=s27.1/\s27.1<(((p1.toNat-0):Nat):Int))/\zc (if x26.c=0 then x26.a else Option.map (λa=>a.add (0*4)) x26.a) λa31=>dc w11 (a31.add (s27.1.toNat *4)) λx32 x33 x34 x35=>dg w11 #[zh 0,zu 0,zu 0,.slice none 0 0] 44 (zh x32) (zu x33) (zu x34) (x35.zw) λw16=>ldI w16 (zB w11) .u16 λx36=>ifB (x36==71) (ldS w16 ((zB w11).add 3) λx37=>(0<=(0:Int)/\0<(x37.l:Int))/\zc x37.a λa38=>ldI w16 ((a38.add (0*3)).add 1) .u32 λx39=>ifB (x39==x10) (ldS w16 ((zB w11).add 3) λx40=>(0<=(1:Int)/\1<(x40.l:Int))/\zc x40.a λa41=>ldI w16 ((a41.add (1*3)).add 1) .u32 λx42=>ifB (x42==x13) (R (.bool false) w16) (dK 124 #[zu x13] w16 λx44 w17=>ifB x44 (ldS w17 ((zB w11).add 3) λx45=>(0<=(1:Int)/\1<(x45.l:Int))/\zc x45.a λa46=>ldI w17 ((a46.add (1*3)).add 1) .u32 λx47=>dK 124 #[zu x47] w17 λx49 w18=>ifB x49 (R (.bool false) w18) (m29 () w18)) (m29 () w17))) (m29 () w16)) (m29 () w16)) (λs30 w19=>n28 ((IntKind.i64.wrap (s27.1+(1:Int))),()) w19)) (R (.bool true) w11)) (0,()) w10)
theorem zbh(p0)(p1)(R)(w)(h:ZL p0 p1 R w):Calls Tryz.prog 86 #[.pointer p0,.int .i64 p1] w (Ret R):=lwC ZP Tryz.func86 (by kernel_rfl) (by kernel_rfl) h
def zbN:Ann:=(.q (.seq none (.q (.one (.loop ⟨[0,1,13,14],[(15,(.b (.int .i64)))]⟩ (.q (.seq none .c (.seq (some ⟨[0,1,13,14,15],[]⟩) (.one (.q (.seq (some ⟨[0,1,6,13,14,15],[]⟩) (.q .c) (.q (.one (.loop ⟨[0,1,13,14,15,41,42],[(43,(.b (.int .i64)))]⟩ (.q (.seq none .c (.seq (some ⟨[0,1,13,14,15,41,42,43],[]⟩) (.one (.q (.q (.q (.cond (.q .nil) .nil))))) .nil))))))))) .nil)))))) (.q .nil)))
def zb0(p0:Option Addr)(p1:Int)(R:VWP)(w:World):Prop:=zc p0 λa1=>ldS w (a1.add 4) λx2=>zl (S:=Int×Unit) (λs3 w1 n4=>ifB (decide (s3.1<(x2.l:Int))) (zo (S:=Unit) (λm5=>(0<=s3.1/\s3.1<(x2.l:Int))/\zc x2.a λa7=>dc w1 (a7.add (s3.1.toNat *4)) λx8 x9 x10 x11=>dg w1 #[zh 0,zu 0,zu 0,.slice none 0 0] 44 (zh x8) (zu x9) (zu x10) (x11.zw) λw6=>zo (S:=Unit) (λm12=>ldI w6 (zB w1) .u16 λx14=>ifB (x14 !=15) (m5 () w6) (ldS w6 ((zB w1).add 3) λx15=>(0<=(0:Int)/\0<(x15.l:Int))/\zc x15.a λa16=>ldI w6 ((a16.add (0*3)).add 1) .u32 λx17=>ifB (x17 !=0) (m5 () w6) (m12 () w6))) (λs13 w7=>zc p0 λa18=>ldP w7.drew (a18.add 2) λx19=>ldS w7.drew ((zB w1).add 3) λx20=>(0<=(1:Int)/\1<(x20.l:Int))/\zc x20.a λa21=>ldI w7.drew ((a21.add (1*3)).add 1) .u32 λx22=>dl 112 #[.pointer p0,zu x22] w7.drew λx24 w8=>w8.cell? (a18.add 2)=some (.pointer x19)/\dj 125 #[.pointer x19,zi x24] w8 λx26 w9=>zl (S:=Int×Unit) (λs27 w10 n28=>ifB (decide (s27.1<(x26.l:Int))) (zo (S:=Unit) (λm29=>(0<=s27.1/\s27.1<(x26.l:Int))/\zc x26.a λa31=>ldI w10 (a31.add s27.1.toNat) .i64 λx32=>zc p0 λa33=>ldS w10 (a33.add 3) λx34=>(0<=x32/\x32<(x34.l:Int))/\zc x34.a λa35=>dL w10 (a35.add (x32.toNat *5)) λx36 x37 x38 x39 x40=>dZ w10 #[zu 0,zi 0,.slice none 0 0,.slice none 0 0,zi 0] 102 (zu x36) (zi x37) (x38.zw) (x39.zw) (zi x40) λw16=>ldI w16 ((zB w10).add 1) .i64 λx41=>ifB (decide (x41<p1)) (ldI w16 ((zB w10).add 4) .i64 λx42=>ifB (decide (p1<x42)) (R (.bool false) w16) (m29 () w16)) (m29 () w16)) (λs30 w17=>n28 ((IntKind.i64.wrap (s27.1+(1:Int))),()) w17)) (m5 () w10)) (0,()) w9)) (λs6 w18=>n4 ((IntKind.i64.wrap (s3.1+(1:Int))),()) w18)) (R (.bool true) w1)) (0,()) w
theorem zep(p0)(p1)(R)(w)(h:zb0 p0 p1 R w):Calls Tryz.prog 87 #[.pointer p0,.int .i64 p1] w (Ret R):=lwC zbN Tryz.func87 (by kernel_rfl) (by kernel_rfl) h
def YM:Ann:=(.q (.q .nil))
def YF(p0:(Int×Int×Int×Int×Int×Bool×Unit))(R:VWP)(w:World):Prop:=Nw (w.alloc (.cells #[zu p0.1,zi p0.2.1,zi p0.2.2.1,zu p0.2.2.2.1,zi p0.2.2.2.2.1,.bool p0.2.2.2.2.2.1] 52)) λw1=>ldI w1 ((zB w).add 2) .i64 λx1=>R (.bool (x1==0)) w1
theorem zcR(p0)(R)(w)(h:YF p0 R w):Calls Tryz.prog 119 #[.agg #[.int .u32 p0.1,.int .i64 p0.2.1,.int .i64 p0.2.2.1,.int .u32 p0.2.2.2.1,.int .i64 p0.2.2.2.2.1,.bool p0.2.2.2.2.2.1]] w (Ret R):=lwC YM Tryz.func119 (by kernel_rfl) (by kernel_rfl) h
def ZA:Ann:=(.q (.q (.q .nil)))
def Z9(p0:Int)(c0:Addr)(c1:Addr)(R:VWP)(w:World):Prop:=ldP w c0 λx1=>dx54 55 #[.pointer x1,zu p0] w λx3 w1=>dY w1 #[zu 0,zi 0,zi 0,zu 0,zi 0,.bool false] 52 (zu x3.1) (zi x3.2.1) (zi x3.2.2.1) (zu x3.2.2.2.1) (zi x3.2.2.2.2.1) (.bool x3.2.2.2.2.2.1) λw8=>ldI w8 ((zB w1).add 1) .i64 λx4=>ifB (decide (x4<(0:Int))) (ldI w8 ((zB w1).add 2) .i64 λx5=>ifB (decide (x5<(0:Int))) (R (.bool true) w8) (ldI w8 c1 .u32 λx6=>ifB (x6==4) (ldP w8 c0 λx7=>dF 54 #[.pointer x7,zu p0] w8 λx9 w9=>ifB (x9==1) (ldP w9 c0 λx10=>dK 122 #[.pointer x10,zu p0] w9 λx12 w10=>R (.bool (!x12)) w10) (R (.bool false) w9)) (R (.bool false) w8))) (ldI w8 c1 .u32 λx13=>ifB (x13==4) (ldP w8 c0 λx14=>dF 54 #[.pointer x14,zu p0] w8 λx16 w11=>ifB (x16==1) (ldP w11 c0 λx17=>dK 122 #[.pointer x17,zu p0] w11 λx19 w12=>R (.bool (!x19)) w12) (R (.bool false) w11)) (R (.bool false) w8))
theorem za0(p0)(c0)(c1)(R)(w)(h:Z9 p0 c0 c1 R w):Calls Tryz.prog 121 #[.int .u32 p0,.pointer (some c0),.pointer (some c1)] w (Ret R):=lwC ZA Tryz.func121 (by kernel_rfl) (by kernel_rfl) h
def Z6:Ann:=(.q (.q .nil))
def Z4(p0:Int)(R:VWP)(w:World):Prop:=ifB (p0==30) (R (.bool true) w) (R (.bool (p0==11)) w)
theorem YY(p0)(R)(w)(h:Z4 p0 R w):Calls Tryz.prog 124 #[.int .u32 p0] w (Ret R):=lwC Z6 Tryz.func124 (by kernel_rfl) (by kernel_rfl) h
end Go.Proofs
namespace Go.Proofs
open Go.Gk Go.RowKit Go.Gm
theorem zqL{w:World}{s:Sl}{l:List Ag}(h:IsAg w s l){k:Nat}(hk:k<l.length){φ:Int->Int->ByteArray->Prop}(hφ:φ l[k].1 l[k].2.1 l[k].2.2) :
  (0<=(k:Int)/\(k:Int)<(s.l:Int))/\zc s.a λa=>ldI w ((a.add (Int.toNat (k:Int)*3)).add 0) .u8 λx=>ldI w ((a.add (Int.toNat (k:Int)*3)).add 1) .u32 λy=>zs w ((a.add (Int.toNat (k:Int)*3)).add 2) λz=>φ x y z:=by
 obtain⟨a,ha⟩:=h.base hk
 have hc:=λj hj=>h.cell a ha k hk j hj
 have hl:=h.len
 exact⟨⟨by omega,by omega⟩,ze ha ⟨_,by rw[zn];exact hc 0 (by decide),_,by rw[zn];exact hc 1 (by decide),_,by rw[zn];exact hc 2 (by decide),hφ⟩⟩
section
variable {w:World} {R:VWP} {B cb:Nat} {pl:List PI} {bd:Int}
theorem zo0{s t:Sl}{l m:List Ag}(hs:IsAg w s l)(ht:IsAg w t m)(hR:∀w',Below w.heap.size w w'->R (.bool (decide (l=m))) w'):cR 123 #[.slice s.a s.l s.c,.slice t.a t.l t.c] w R:=by
 refine za.of (Yg s t R w ?_) λ_ _ h=>h
 have hsl:=hs.len
 have htl:=ht.len
 refine zy (λe=>?_) (λe=>?_)
 ·have:=hR w (Below.refl _ _)
  rwa[decide_eq_false (λq=>e (by rw[q]at hsl;omega))]at this
 have hlm:l.length=m.length:=by omega
 refine zl.count l.length (by have:=hs.cap;have:=hs.max;omega) (λk w'=>Below w.heap.size w w'/\∀j (h1:j<l.length) (h2:j<m.length),j<k->l[j]=m[j]) ⟨Below.refl _ _,λj _ _ h=>by omega⟩ ?_
 rintro k w1 hk ⟨b1,hq⟩ next hnext
 refine zj (λg=>?_) (λg=>?_)
 ·have hkl:k<l.length:=by dsimp only at g;omega
  have b1d:=b1.drew
  refine zqL (IsC.below zG hs b1d) hkl (zqL (IsC.below zG ht b1d) (by omega:k<m.length) (zI (zz (λe=>?_) (λe=>?_))))
  ·simp only[Bool.and_true,Bool.and_eq_true,beq_iff_eq,zmh]at e
   refine hnext _ hkl ⟨b1d,λj h1 h2 hj=>?_⟩
   by_cases ej:j=k
   ·subst ej
    exact Prod.ext e.1 (Prod.ext e.2.1 e.2.2)
   ·exact hq j h1 h2 (by omega)
  ·have:=hR _ b1d
   have hne:l≠m:=λq=>by
    subst q
    rw[Bool.and_true,Bool.and_eq_false_iff,beq_eq_false_iff_ne,Bool.and_eq_false_iff,beq_eq_false_iff_ne]at e
    rcases e with e |e |e
    ·exact e rfl
    ·exact e rfl
    ·rw[show(l[k].2.2==l[k].2.2)=true from zmh.2 rfl]at e
     cases e
   rwa[decide_eq_false hne]at this
 ·have:=hR w1 b1
  have:l=m:=List.ext_getElem hlm λj h1 h2=>hq j h1 h2 (by dsimp only at g;omega)
  have q:=hR w1 b1
  rwa[decide_eq_true this]at q
set_option maxHeartbeats 4000000 in
theorem zkS(h:IsCk w B cb pl)(hF:FcOk bd pl){k:Nat}(hk:k<pl.length)(e15:(ix pl k).1=15)(hR:∀w',Below w.heap.size w w'->R (.bool ((fcP pl).decd (entF (ix pl k)))) w') :
  cR 84 #[.pointer (some (blk cb)),.int .i64 (k:Int)] w R:=by
 refine za.of (zbu _ k R w ?_) λ_ _ h=>h
 refine zm λw1 hC1 b1 z1=>?_
 have hk1:=h.below b1
 obtain⟨pb,tb,rc,rd,fs,ins,L,h1,h2,h3,h4,h5,h6,h7,h8⟩:=hk1
 have hix:=zH hk
 have h3l:3<=pl[k].2.2.2.length:=by have:=Yk hF.shape hk e15 zcs;rwa[hix]at this
 refine⟨_,hC1.cell0 rfl,ze rfl (h1.rS (n:=4) (x:=ins) rfl (Z8 h7 (Below.refl _ _) hk λt hI=>?_))⟩
 have eE:entF (piOf (mkIn pl[k] t) pl[k].2.2.2)=entF (ix pl k):=by rw[hix]
 refine YS (x:=mkIn pl[k] t) (al:=pl[k].2.2.2) hI h3l (YQ hF.shape hk) λw2 r hr b2=>?_
 rw[eE]at hr⊢
 generalize entF (ix pl k)=E at hr hR⊢
 refine⟨(E.1,E.2.1,E.2.2.1,r,()),rfl,box4 rfl λw7 hE7 b7 z7=>?_⟩
 have hE7:Blk w7 w2.heap.size 74 (enV E.1 E.2.1 E.2.2.1 r):=hE7
 have b27:=b2.on b7
 have b07:=b1.on b27
 have hC7:=hC1.below b27
 have hcf:Tryz.fs.contains 121=true:=by kernel_rfl
 let q:Int->Bool:=λid=>(decide (((fcP pl).port id).2.1<0)&&decide (((fcP pl).port id).2.2.1<0))||(E.1==4&&(fcP pl).cls id==1&&!(fcP pl).flat id)
 have hq:(fcP pl).decd E=!E.2.2.2.any q:=by
  unfold Fc.decd
  rw[List.not_any_eq_all_not]
 refine hE7.rS (n:=3) (x:=r) rfl (zol (q:=q) (hr.below b7) (λw8 b8 j hj K hK=>?_) λw8 b8=>⟨_,rfl,?_⟩)
 rotate_left
 ·have:=hR w8 (b07.on b8)
  rwa[hq]at this
 generalize E.2.2.2[j]=id at hK⊢
 unfold zL
 simp only[hcf]
 refine za.of (za0 id (blk w.heap.size) (blk w2.heap.size) K w8 ?_) λ_ _ h=>h
 have b08:=b07.on b8
 have hC8:=hC7.below b8
 have hE8:=hE7.below b8
 refine⟨_,hC8.cell0 rfl,zh7 (h.below b08) hF λw9 b9=>⟨(fcP pl).port id,rfl,?_⟩⟩
 have eq:q id=((decide (((fcP pl).port id).2.1<0)&&decide (((fcP pl).port id).2.2.1<0))||(E.1==4&&(fcP pl).cls id==1&&!(fcP pl).flat id)):=rfl
 rw[eq]at hK
 generalize (fcP pl).port id=p at hK⊢
 refine box6 rfl λw10 hP10 b10 z10=>?_
 have hP10:Blk w10 w9.heap.size 52 (poV p):=hP10
 have b810:=b9.on b10
 have b010:=b08.on b810
 have hC10:=hC8.below b810
 have hE10:=hE8.below b810
 have half:∀(a:Bool),(∀w'',Below w8.heap.size w8 w''->K (.bool (a||(E.1==4&&(fcP pl).cls id==1&&!(fcP pl).flat id))) w'')->a=false->ldI w10 (blk w2.heap.size) .u32 λx6=>ifB (x6==(4:Int)) (ldP w10 (blk w.heap.size) λx7=>cR 54 #[.pointer x7,.int .u32 id] w10 λv8 w9=>∃x9:Int,v8 =.int .u32 x9/\ifB (x9==(1:Int)) (ldP w9 (blk w.heap.size) λx10=>cR 122 #[.pointer x10,.int .u32 id] w9 λv11 w10=>∃x12:Bool,v11 =.bool x12/\K (.bool (!x12)) w10) (K (.bool false) w9)) (K (.bool false) w10):=λa hK ha=>by
  subst ha
  refine hE10.rI0 (x:=E.1) rfl (zk (λe=>⟨_,hC10.cell0 rfl,zbg (h.below b010) hF λw11 b11=>⟨_,rfl,zk (λe2=>⟨_,(hC10.below b11).cell0 rfl,znj ((h.below b010).below b11) hF λw12 b12=>⟨_,rfl,?_⟩⟩) (λe2=>?_)⟩⟩) (λe=>?_))
  ·have:=hK w12 ((b810.on b11).on b12)
   rw[e,e2]at this
   simpa using this
  ·have:=hK w11 (b810.on b11)
   rw[beq_eq_false_iff_ne.2 e2]at this
   simpa using this
  ·have:=hK w10 b810
   rw[beq_eq_false_iff_ne.2 e]at this
   simpa using this
 refine hP10.rI (n:=1) (x:=p.2.1) rfl (zj (λg1=>hP10.rI (n:=2) (x:=p.2.2.1) rfl (zj (λg2=>?_) (λg2=>half _ hK ?_))) (λg1=>half _ hK ?_))
 ·have:=hK w10 b810
  rw[decide_eq_true g1,decide_eq_true g2]at this
  simpa using this
 ·rw[decide_eq_false g2,Bool.and_false]
 ·rw[decide_eq_false g1,Bool.false_and]
theorem zgu{kind:Int}(hR:R (.bool (plcd kind)) w):cR 124 #[.int .u32 kind] w R:=by
 refine za.of (YY kind R w ?_) λ_ _ h=>h
 unfold plcd at hR
 refine zk (λe=>?_) (λe=>?_)
 ·rw[beq_iff_eq.2 e]at hR;exact hR
 ·rw[beq_eq_false_iff_ne.2 e,Bool.false_or]at hR;exact hR
theorem ztp{s:Sl}(h:IsPl w s pl){k n:Nat}(hk:k<n)(hn:n<=pl.length){φ:Int->Int->Int->Sl->Prop}(hφ:∀t,IsAg w t (pl[k]'(by omega)).2.2.2->φ (pl[k]'(by omega)).1 (pl[k]'(by omega)).2.1 (pl[k]'(by omega)).2.2.1 t) :
  (0<=(k:Int)/\(k:Int)<(((n-0:Nat)):Int))/\zc (if s.c=0 then s.a else Option.map (λa=>a.add (0*4)) s.a) λa=>ldI w ((a.add (Int.toNat (k:Int)*4)).add 0) .u16 λx=>ldI w ((a.add (Int.toNat (k:Int)*4)).add 1) .u32 λy=>ldI w ((a.add (Int.toNat (k:Int)*4)).add 2) .u32 λz=>ldS w ((a.add (Int.toNat (k:Int)*4)).add 3) λt=>φ x y z t:=by
 have hkl:k<pl.length:=by omega
 obtain⟨a,ha⟩:=h.base hkl
 obtain⟨t,hc,hI⟩:=h.elem a ha k hkl
 have hl:=h.len
 have hcap:=h.cap
 rw[if_neg (by omega),ha]
 have cl:∀j,j<4->w.cell? (((a.add (0*4)).add (k*4)).add j)=(inV (mkIn pl[k] t))[j]?:=λj hj=>by
  rw[zn,zn,show 0*4+(k*4+j)=k*4+j by omega]
  exact hc j hj
 exact⟨⟨by omega,by omega⟩,ze rfl ⟨_,cl 0 (by decide),_,cl 1 (by decide),_,cl 2 (by decide),t,cl 3 (by decide),hφ t hI⟩⟩
set_option maxHeartbeats 4000000 in
theorem zsf(h:IsCk w B cb pl)(hF:FcOk bd pl){k:Nat}(hk:k<pl.length)(e16:(ix pl k).1=16)(hR:∀w',Below w.heap.size w w'->R (.bool ((fcP pl).modd k)) w') :
  cR 85 #[.pointer (some (blk cb)),.int .i64 (k:Int)] w R:=by
 refine za.of (zeq _ k R w ?_) λ_ _ h=>h
 obtain⟨pb,tb,rc,rd,fs,ins,L,h1,h2,h3,h4,h5,h6,h7,h8⟩:=h
 have hix:=zH hk
 have hl2:pl[k].2.2.2.length=2:=by have:=yc hF.shape hk e16 zkr;rw[hix]at this;exact this
 refine ze rfl (h1.rS (n:=4) (x:=ins) rfl (Z8 h7 (Below.refl _ _) hk λt hI=>box4 rfl λw5 hI5 b5 z5=>?_))
 have hI5:Blk w5 w.heap.size 44 (inV (mkIn pl[k] t)):=hI5
 have h7l:=h7.len
 have h7c:=h7.cap
 refine ze rfl ((h1.below b5).rS (n:=4) (x:=ins) rfl ⟨⟨by decide,by omega,by omega⟩,?_⟩)
 rw[Int.toNat_natCast]
 let qa:Nat->Bool:=λj=>(ix pl j).1==16&&decide ((ix pl j).2.2.2=(ix pl k).2.2.2)
 let qb:Nat->Bool:=λj=>(ix pl j).1==15&&arN (ix pl j) 0==4&&arN (ix pl j) 1==arN (ix pl k) 0
 have hR:∀w',Below w.heap.size w w'->R (.bool (((List.range k).all λj=>!qa j)&&(List.range k).any qb)) w':=hR
 refine zl.ghost (λg (st:Bool×Int×Unit) w'=>∃j:Nat,st=((List.range j).any qb,(j:Int),())/\j<=k/\g=k-j/\Below w5.heap.size w5 w'/\∀i,i<j->qa i=false) k ⟨0,rfl,Nat.zero_le _,rfl,Below.refl _ _,λi h=>by omega⟩ ?_
 rintro _ _ w6 ⟨j,rfl,hj,rfl,b6,na⟩ next hnext
 have b06:=b5.on b6
 refine zj (λg=>?_) (λg=>?_)
 rotate_left
 ·have hje:j=k:=by dsimp only at g;omega
  subst hje
  have:=hR w6 b06
  have e1:((List.range j).all λj=>!qa j)=true:=List.all_eq_true.2 λi hi=>by rw[na i (List.mem_range.1 hi)];rfl
  rw[e1]at this
  exact this
 have hjk:j<k:=by dsimp only at g;omega
 have hjl:j<pl.length:=by omega
 have hixj:=zH hjl
 have eOp:(ix pl j).1=pl[j].1:=by rw[hixj]
 have any_succ:(List.range (j+1)).any qb=((List.range j).any qb||qb j):=by
  rw[List.range_succ,List.any_append]
  simp
 refine zo.cut (λ(st:Bool×Unit) w'=>st=((List.range (j+1)).any qb,())/\Below w6.heap.size w6 w'/\qa j=false) ?_ ?_
 rotate_left
 ·rintro _ w15 ⟨rfl,b15,fa⟩
  dsimp only
  rw[zE (by have:=h7.max;omega)]
  refine hnext (k-(j+1)) _ w15 (by omega) ⟨j+1,rfl,by omega,rfl,b6.on b15,λi hi=>?_⟩
  by_cases e:i=j
  ·subst e;exact fa
  ·exact na i (by omega)
 refine ztp (h7.below b06) hjk (Nat.le_of_lt hk) λtj hIj=>box4 rfl λw11 hJ b11 z11=>?_
 have hJ:Blk w11 w6.heap.size 44 (inV (mkIn pl[j] tj)):=hJ
 have b011:=b06.on b11
 have b011d:=b011.drew
 have b11d:=b11.drew
 have hJd:=hJ.drew
 have htj:IsAg w11.drew tj pl[j].2.2.2:=IsC.below zG hIj b11d
 have ht:IsAg w11.drew t pl[k].2.2.2:=IsC.below zG hI b011d
 have hI11:=((hI5.below b6).below b11).drew
 have none15:pl[j].1≠15->qb j=false:=λe=>by show((ix pl j).1==15&&_&&_)=false;rw[eOp,beq_eq_false_iff_ne.2 e];rfl
 have none16:pl[j].1≠16->qa j=false:=λe=>by show((ix pl j).1==16&&_)=false;rw[eOp,beq_eq_false_iff_ne.2 e];rfl
 have skip:qb j=false->pl[j].1≠16->((List.range j).any qb,())=((List.range (j+1)).any qb,())/\Below w6.heap.size w6 w11.drew/\qa j=false:=λe1 e2=>⟨by rw[any_succ,e1,Bool.or_false],b11d,none16 e2⟩
 refine hJd.rI0 (x:=pl[j].1) rfl (zk (λe=>?_) (λe=>?_))
 ·have hl3:3<=pl[j].2.2.2.length:=by have:=Yk hF.shape hjl (by rw[eOp];exact e) zcs;rw[hixj]at this;exact this
  have qe:qb j=((pl[j].2.2.2.getD 0 ag0).2.1==4&&(pl[j].2.2.2.getD 1 ag0).2.1==(pl[k].2.2.2.getD 0 ag0).2.1):=by
   show((ix pl j).1==15&&arN (ix pl j) 0==4&&arN (ix pl j) 1==arN (ix pl k) 0)=_
   unfold arN
   rw[hixj,hix,e]
   simp
  refine hJd.rS (n:=3) (x:=tj) rfl (argF htj (j:=0) (by omega) (zk (λe0=>hJd.rS (n:=3) (x:=tj) rfl (argF htj (j:=1) (by omega) (hI11.rS (n:=3) (x:=t) rfl (argF ht (j:=0) (by omega) (zk (λe1=>⟨?_,b11d,none16 (by omega)⟩) (λe1=>hJd.rI0 (x:=pl[j].1) rfl (zk (λq=>by omega) (λq=>skip ?_ q)))))))) (λe0=>hJd.rI0 (x:=pl[j].1) rfl (zk (λq=>by omega) (λq=>skip ?_ q)))))
  ·rw[any_succ,qe,beq_iff_eq.2 e0,beq_iff_eq.2 e1];simp
  ·rw[qe,beq_eq_false_iff_ne.2 e1,Bool.and_false]
  ·rw[qe,beq_eq_false_iff_ne.2 e0,Bool.false_and]
 ·refine hJd.rI0 (x:=pl[j].1) rfl (zk (λq=>?_) (λq=>skip (none15 e) q))
  have qe:qa j=decide (pl[j].2.2.2=pl[k].2.2.2):=by
   show((ix pl j).1==16&&decide ((ix pl j).2.2.2=(ix pl k).2.2.2))=_
   rw[hixj,hix,q]
   simp
  refine hJd.rS (n:=3) (x:=tj) rfl (hI11.rS (n:=3) (x:=t) rfl (zo0 htj ht λw12 b12=>⟨_,rfl,?_⟩))
  rw[<-qe]
  refine zz (λe1=>?_) (λe1=>⟨by rw[any_succ,none15 e,Bool.or_false],b11d.on b12,e1⟩)
  have:=hR w12 (b011d.on b12)
  have e2:((List.range k).all λj=>!qa j)=false:=List.all_eq_false.2 ⟨j,List.mem_range.2 hjk,by rw[e1];simp⟩
  rw[e2]at this
  exact this
end
end Go.Proofs
namespace Go.Proofs
open Go.Gk Go.RowKit Go.Gm
section
variable {w:World} {R:VWP} {B cb:Nat} {pl:List PI} {bd:Int}
set_option maxHeartbeats 4000000 in
theorem zkg(h:IsCk w B cb pl)(hF:FcOk bd pl){k:Nat}(hk:k<pl.length)(e71:(ix pl k).1=71)(hR:∀w',Below w.heap.size w w'->R (.bool ((fcP pl).decn k)) w') :
  cR 86 #[.pointer (some (blk cb)),.int .i64 (k:Int)] w R:=by
 refine za.of (zbh _ k R w ?_) λ_ _ h=>h
 have h':=h
 obtain⟨pb,tb,rc,rd,fs,ins,L,h1,h2,h3,h4,h5,h6,h7,h8⟩:=h'
 have hix:=zH hk
 have hl2:2<=pl[k].2.2.2.length:=by have:=Yk hF.shape hk e71 zgG;rw[hix]at this;exact this
 refine ze rfl (h1.rS (n:=4) (x:=ins) rfl (Z8 h7 (Below.refl _ _) hk λt hI=>box4 rfl λw5 hI5 b5 z5=>?_))
 have hI5:Blk w5 w.heap.size 44 (inV (mkIn pl[k] t)):=hI5
 have h7l:=h7.len
 have h7c:=h7.cap
 have b5d:=b5.drew
 have ht:IsAg w5.drew t pl[k].2.2.2:=IsC.below zG hI b5d
 have htl:=ht.len
 have htc:=ht.cap
 have hI5d:=hI5.drew
 obtain⟨A0,hA0⟩:∃A0,A0=(pl[k].2.2.2.getD 0 ag0).2.1:=⟨_,rfl⟩
 obtain⟨A1,hA1⟩:∃A1,A1=(pl[k].2.2.2.getD 1 ag0).2.1:=⟨_,rfl⟩
 have a0:arN (ix pl k) 0=A0:=by unfold arN;rw[hix,hA0]
 have a1:arN (ix pl k) 1=A1:=by unfold arN;rw[hix,hA1]
 have aL:(ix pl k).2.2.2.length=pl[k].2.2.2.length:=by rw[hix]
 unfold Fc.decn at hR
 dsimp only at hR
 have hR:∀w',Below w.heap.size w w'->R (.bool (if plcd (arN (ix pl k) 1) !=((ix pl k).2.2.2.length==3)||decide (3<(ix pl k).2.2.2.length) then false
   else if arN (ix pl k) 1==0 then true
   else(fcP pl).cls (arN (ix pl k) 0) !=0&&(arN (ix pl k) 1 !=11||arN (ix pl k) 2==0||arN (ix pl k) 2==5||arN (ix pl k) 2==15) &&
    (List.range k).all λj=>!((ix pl j).1==71&&arN (ix pl j) 0==arN (ix pl k) 0&&(arN (ix pl j) 1==arN (ix pl k) 1||(plcd (arN (ix pl k) 1)&&plcd (arN (ix pl j) 1)))))) w':=hR
 rw[a0,a1,aL]at hR
 refine hI5d.rS (n:=3) (x:=t) rfl (argF ht (j:=0) (by omega) (hI5d.rS (n:=3) (x:=t) rfl (argF ht (j:=1) (by omega) (hI5d.rS (n:=3) (x:=t) rfl ⟨⟨by decide,by omega,by omega⟩,?_⟩))))
 rw[<-hA0,<-hA1]
 let qa:Nat->Bool:=λj=>(ix pl j).1==71&&arN (ix pl j) 0==A0&&(arN (ix pl j) 1==A1||(plcd A1&&plcd (arN (ix pl j) 1)))
 refine zo.cut (λ(_:Unit) w'=>Below w5.drew.heap.size w5.drew w'/\∀w',Below w.heap.size w w'->R (.bool ((List.range k).all λj=>!qa j)) w') ?_ ?_
 ·refine zgu ⟨_,rfl,zI (zz (λe1=>?_) (λe1=>?_))⟩
  rotate_left
  ·have:=hR _ b5d
   have e2:(plcd A1 !=(pl[k].2.2.2.length==3))=true:=by
    have e3:(((t.l-2:Nat):Int)==(1:Int))=(pl[k].2.2.2.length==3):=by
     rw[Bool.eq_iff_iff,beq_iff_eq,beq_iff_eq]
     omega
    rw[e3]at e1
    rw[bne_iff_ne]
    exact beq_eq_false_iff_ne.1 e1
   rw[if_pos (by rw[e2,Bool.true_or])]at this
   exact this
  have e3:(((t.l-2:Nat):Int)==(1:Int))=(pl[k].2.2.2.length==3):=by
   rw[Bool.eq_iff_iff,beq_iff_eq,beq_iff_eq]
   omega
  rw[e3,beq_iff_eq]at e1
  refine zj (λg=>?_) (λg=>?_)
  ·have:=hR _ b5d
   rw[if_pos (by rw[decide_eq_true (by omega),Bool.or_true])]at this
   exact this
  have hnb:¬((plcd A1 !=(pl[k].2.2.2.length==3)||decide (3<pl[k].2.2.2.length))=true):=by
   rw[e1,bne_self_eq_false,Bool.false_or,decide_eq_true_eq]
   omega
  simp only[if_neg hnb]at hR
  refine zk (λe=>?_) (λe=>?_)
  ·have:=hR _ b5d
   rw[if_pos (beq_iff_eq.2 e)]at this
   exact this
  have hne:¬((A1==0)=true):=by rw[beq_iff_eq];exact e
  simp only[if_neg hne]at hR
  refine zbg (h.below b5d) hF λw7 b7=>⟨_,rfl,zk (λq=>?_) (λq=>?_)⟩
  ·have:=hR _ (b5d.on b7)
   rw[q]at this
   exact this
  have hcl:((fcP pl).cls A0 !=0)=true:=bne_iff_ne.2 q
  rw[hcl]at hR
  simp only[Bool.true_and]at hR
  refine zk (λq11=>?_) (λq11=>⟨b7,λw' hb=>?_⟩)
  rotate_left
  ·have:=hR w' hb
   rw[bne_iff_ne.2 q11]at this
   simp only[Bool.true_or,Bool.true_and]at this
   exact this
  have hl3:pl[k].2.2.2.length=3:=by
   have:plcd A1=true:=by rw[q11];rfl
   rw[this]at e1
   exact beq_iff_eq.1 e1.symm
  refine zm λw8 hV8 b8 z8=>?_
  have b78:=b7.on b8
  have ht8:IsAg w8 t pl[k].2.2.2:=IsC.below zG ht b78
  obtain⟨a,ha⟩:=ht8.base (i:=2) (by omega)
  have hc:=ht8.cell a ha 2 (by omega) 1 (by decide)
  rw[if_neg (by omega),ha]
  refine⟨⟨by decide,by omega⟩,ze rfl ⟨pl[k].2.2.2[2].2.1,?_,?_⟩⟩
  ·rw[zn,zn];exact hc
  have a2:arN (ix pl k) 2=pl[k].2.2.2[2].2.1:=by unfold arN;rw[hix,zp (by omega)]
  rw[a2]at hR
  generalize pl[k].2.2.2[2].2.1=A2 at hR⊢
  have hV:IsS (Value.int .u32) w8 ⟨some (blk w7.heap.size),3,3⟩ [0,5,15]:=znv (l:=[0,5,15]) hV8 (by simp)
  refine zgc (s:=⟨some (blk w7.heap.size),3,3⟩) hV ⟨_,rfl,zI (zz (λe2=>⟨b78,λw' hb=>?_⟩) (λe2=>?_))⟩
  ·have:=hR w' hb
   have e4:(A1 !=11||A2==0||A2==5||A2==15)=true:=by
    simp only[List.contains_cons,List.contains_nil,Bool.or_false,Bool.or_eq_true,beq_iff_eq]at e2
    simp only[Bool.or_eq_true,beq_iff_eq]
    rcases e2 with e2 |e2 |e2
    ·exact .inl (.inl (.inr e2))
    ·exact .inl (.inr e2)
    ·exact .inr e2
   rw[e4]at this
   simp only[Bool.true_and]at this
   exact this
  ·have:=hR w8 (b5d.on b78)
   have e4:(A1 !=11||A2==0||A2==5||A2==15)=false:=by
    rw[q11]
    simp only[List.contains_cons,List.contains_nil,Bool.or_false,Bool.or_eq_false_iff]at e2
    rw[e2.1,e2.2.1,e2.2.2]
    rfl
   rw[e4]at this
   exact this
 rintro _ w10 ⟨b10,hR⟩
 have b010:=b5d.on b10
 refine ze rfl ((h1.below b010).rS (n:=4) (x:=ins) rfl ⟨⟨by decide,by omega,by omega⟩,?_⟩)
 rw[Int.toNat_natCast]
 refine zl.count k (by have:=h7.max;omega) (λj w'=>Below w10.heap.size w10 w'/\∀i,i<j->qa i=false) ⟨Below.refl _ _,λi h=>by omega⟩ ?_
 rintro j w11 hj ⟨b11,na⟩ next hnext
 have b011:=b010.on b11
 refine zj (λg=>?_) (λg=>?_)
 rotate_left
 ·have hje:j=k:=by dsimp only at g;omega
  subst hje
  have:=hR w11 b011
  have e1:((List.range j).all λj=>!qa j)=true:=List.all_eq_true.2 λi hi=>by rw[na i (List.mem_range.1 hi)];rfl
  rw[e1]at this
  exact this
 have hjk:j<k:=by dsimp only at g;omega
 have hjl:j<pl.length:=by omega
 have hixj:=zH hjl
 have eOp:(ix pl j).1=pl[j].1:=by rw[hixj]
 refine zo.cut (λ(_:Unit) w'=>Below w11.heap.size w11 w'/\qa j=false) ?_ ?_
 rotate_left
 ·rintro _ w19 ⟨b19,fa⟩
  refine hnext w19 hjk ⟨b11.on b19,λi hi=>?_⟩
  by_cases e:i=j
  ·subst e;exact fa
  ·exact na i (by omega)
 have bad:∀{w'},Below w.heap.size w w'->qa j=true->R (.bool false) w':=λ{w'} hb e=>by
  have:=hR w' hb
  have e2:((List.range k).all λj=>!qa j)=false:=List.all_eq_false.2 ⟨j,List.mem_range.2 hjk,by rw[e];simp⟩
  rwa[e2]at this
 refine ztp (h7.below b011) hjk (Nat.le_of_lt hk) λtj hIj=>box4 rfl λw16 hJ b16 z16=>?_
 have hJ:Blk w16 w11.heap.size 44 (inV (mkIn pl[j] tj)):=hJ
 have b016:=b011.on b16
 have htj:IsAg w16 tj pl[j].2.2.2:=IsC.below zG hIj b16
 refine hJ.rI0 (x:=pl[j].1) rfl (zk (λe=>?_) (λe=>⟨b16,?_⟩))
 rotate_left
 ·show((ix pl j).1==71&&_&&_)=false
  rw[eOp,beq_eq_false_iff_ne.2 e];rfl
 have hlj:2<=pl[j].2.2.2.length:=by have:=Yk hF.shape hjl (by rw[eOp];exact e) zgG;rw[hixj]at this;exact this
 have qe:qa j=((pl[j].2.2.2.getD 0 ag0).2.1==A0&&((pl[j].2.2.2.getD 1 ag0).2.1==A1||(plcd A1&&plcd (pl[j].2.2.2.getD 1 ag0).2.1))):=by
  show((ix pl j).1==71&&arN (ix pl j) 0==A0&&(arN (ix pl j) 1==A1||(plcd A1&&plcd (arN (ix pl j) 1))))=_
  unfold arN
  rw[hixj,e]
  simp
 refine hJ.rS (n:=3) (x:=tj) rfl (argF htj (j:=0) (by omega) (zk (λe0=>hJ.rS (n:=3) (x:=tj) rfl (argF htj (j:=1) (by omega) (zk (λe1=>bad b016 ?_) (λe1=>zgu ⟨_,rfl,zz (λp1=>hJ.rS (n:=3) (x:=tj) rfl (argF htj (j:=1) (by omega) (zgu ⟨_,rfl,zz (λp2=>bad b016 ?_) (λp2=>⟨b16,?_⟩)⟩))) (λp1=>⟨b16,?_⟩)⟩)))) (λe0=>⟨b16,?_⟩)))
 ·rw[qe,beq_iff_eq.2 e0,beq_iff_eq.2 e1];rfl
 ·rw[qe,beq_iff_eq.2 e0,p1,p2];simp
 ·rw[qe,beq_eq_false_iff_ne.2 e1,p1,p2];simp
 ·rw[qe,beq_eq_false_iff_ne.2 e1,p1];simp
 ·rw[qe,beq_eq_false_iff_ne.2 e0];rfl
set_option maxHeartbeats 4000000 in
theorem zrT(h:IsCk w B cb pl)(hF:FcOk bd pl){k:Nat}(hR:∀w',Below w.heap.size w w'->R (.bool ((fcP pl).kild k)) w') :
  cR 87 #[.pointer (some (blk cb)),.int .i64 (k:Int)] w R:=by
 refine za.of (zep _ k R w ?_) λ_ _ h=>h
 have h':=h
 obtain⟨pb,tb,rc,rd,fs,ins,L,h1,h2,h3,h4,h5,h6,h7,h8⟩:=h'
 have h7l:=h7.len
 have hrl:(yW (rowsC pl)).length<=4096:=by rw[ZE];exact hF.cal
 have hLl:L.length=(cutF pl pl.length).length:=by rw[<-h6,List.length_map]
 refine ze rfl (h1.rS (n:=4) (x:=ins) rfl ?_)
 let hit:Nat->Bool:=λn=>decide (((cutF pl pl.length).getD n fnZ).at_<(k:Int))&&decide ((k:Int)<((cutF pl pl.length).getD n fnZ).en)
 let qk:Nat->Bool:=λj=>!((ix pl j).1==15&&arN (ix pl j) 0==0)||((fcP pl).rd ((fcP pl).fn (arN (ix pl j) 1))).all λn=>!hit n
 have hR:∀w',Below w.heap.size w w'->R (.bool ((List.range pl.length).all qk)) w':=hR
 refine zl.count pl.length h7.bound (λj w'=>Below w.heap.size w w'/\∀i,i<j->qk i=true) ⟨Below.refl _ _,λi h=>by omega⟩ ?_
 rintro j w1 hj ⟨b1,hy⟩ next hnext
 refine zj (λg=>?_) (λg=>?_)
 rotate_left
 ·have hje:j=pl.length:=by dsimp only at g;omega
  subst hje
  have:=hR w1 b1
  have e1:(List.range pl.length).all qk=true:=List.all_eq_true.2 λi hi=>hy i (List.mem_range.1 hi)
  rw[e1]at this
  exact this
 have hjl:j<pl.length:=by dsimp only at g;omega
 have hix:=zH hjl
 have eOp:(ix pl j).1=pl[j].1:=by rw[hix]
 refine zo.cut (λ(_:Unit) w'=>Below w1.heap.size w1 w'/\qk j=true) ?_ ?_
 rotate_left
 ·rintro _ w18 ⟨b18,fa⟩
  refine hnext w18 hjl ⟨b1.on b18,λi hi=>?_⟩
  by_cases e:i=j
  ·subst e;exact fa
  ·exact hy i (by omega)
 refine Z8 h7 b1 hjl λt hI=>box4 rfl λw6 hI6 b6 z6=>?_
 have hI6:Blk w6 w1.heap.size 44 (inV (mkIn pl[j] t)):=hI6
 have b06:=b1.on b6
 have ht:IsAg w6 t pl[j].2.2.2:=IsC.below zG hI b06
 have qe:qk j=(!(pl[j].1==15&&(pl[j].2.2.2.getD 0 ag0).2.1==0)||((fcP pl).rd ((fcP pl).fn (pl[j].2.2.2.getD 1 ag0).2.1)).all λn=>!hit n):=by
  show(!((ix pl j).1==15&&arN (ix pl j) 0==0)||((fcP pl).rd ((fcP pl).fn (arN (ix pl j) 1))).all λn=>!hit n)=_
  unfold arN
  rw[hix]
 refine zo.cut (λ(_:Unit) w'=>w6=w'/\pl[j].1=15/\(pl[j].2.2.2.getD 0 ag0).2.1=0/\3<=pl[j].2.2.2.length) ?_ ?_
 ·refine hI6.rI0 (x:=pl[j].1) rfl (zy (λe=>⟨b6,by rw[qe,beq_eq_false_iff_ne.2 e];rfl⟩) (λe=>?_))
  have hl3:3<=pl[j].2.2.2.length:=by have:=Yk hF.shape hjl (by rw[eOp];exact e) zcs;rw[hix]at this;exact this
  exact hI6.rS (n:=3) (x:=t) rfl (argF ht (j:=0) (by omega) (zy (λe0=>⟨b6,by rw[qe,beq_eq_false_iff_ne.2 e0,Bool.and_false];rfl⟩) (λe0=>⟨rfl,e,e0,hl3⟩)))
 rintro _ w7 ⟨rfl,e15,e0,hl3⟩
 rw[e15,e0]at qe
 simp only[beq_self_eq_true,Bool.and_self,Bool.not_true,Bool.false_or]at qe
 have b06d:=b06.drew
 have b6d:=b6.drew
 refine ze rfl ⟨_,(h1.below b06d).cell (n:=2) rfl,hI6.drew.rS (n:=3) (x:=t) rfl (argF ht.drew (j:=1) (by omega) (zcP (h.below b06d) λw8 b8=>⟨_,rfl,?_⟩))⟩
 have b08:=b06d.on b8
 refine⟨(h1.below b08).cell (n:=2) rfl,zfW hrl (h4.below b08) λrs w9 b9 hO=>⟨rs,rfl,?_⟩⟩
 have hO:Own w9 3 1 rs (((fcP pl).rd ((fcP pl).fn (pl[j].2.2.2.getD 1 ag0).2.1)).map iN):=hO
 have hrs:IsS iN w9 rs ((fcP pl).rd ((fcP pl).fn (pl[j].2.2.2.getD 1 ag0).2.1)):=hO.isS
 have hlt:=λi (hi:i∈(fcP pl).rd ((fcP pl).fn (pl[j].2.2.2.getD 1 ag0).2.1))=>zvv hi
 generalize (fcP pl).rd ((fcP pl).fn (pl[j].2.2.2.getD 1 ag0).2.1)=Q at hrs hlt qe
 have hql:=hrs.len
 have b09:=b08.on b9
 have b69:=(b6d.on b8).on b9
 refine zl.count Q.length hrs.bound (λi w'=>Below w9.heap.size w9 w'/\∀z (hz:z<Q.length),z<i->hit Q[z]=false) ⟨Below.refl _ _,λz _ h=>by omega⟩ ?_
 rintro i w10 hi ⟨b10,hn⟩ next2 hnext2
 have b010:=b09.on b10
 refine zj (λg2=>?_) (λg2=>?_)
 rotate_left
 ·refine⟨b69.on b10,?_⟩
  rw[qe,List.all_eq_true]
  intro x hx
  obtain⟨z,hz,rfl⟩:=List.mem_iff_getElem.1 hx
  rw[hn z hz (by dsimp only at g2;omega)]
  rfl
 have hil:i<Q.length:=by dsimp only at g2;omega
 have hq:=hlt _ (List.getElem_mem hil)
 have hqL:Q[i]<L.length:=by omega
 have eF:(cutF pl pl.length).getD Q[i] fnZ=L[Q[i]].1:=by
  rw[<-h6,zp (by rw[List.length_map];exact hqL),List.getElem_map]
 have eH:hit Q[i]=(decide (L[Q[i]].1.at_<(k:Int))&&decide ((k:Int)<L[Q[i]].1.en)):=by
  show(decide (((cutF pl pl.length).getD Q[i] fnZ).at_<(k:Int))&&decide ((k:Int)<((cutF pl pl.length).getD Q[i] fnZ).en))=_
  rw[eF]
 refine zo.cut (λ(_:Unit) w'=>Below w10.heap.size w10 w'/\hit Q[i]=false) ?_ ?_
 rotate_left
 ·rintro _ w17 ⟨b17,fa⟩
  refine hnext2 w17 hil ⟨b10.on b17,λz hz hzi=>?_⟩
  by_cases e:z=i
  ·subst e;exact fa
  ·exact hn z hz (by omega)
 refine zqM (hrs.below b10) hil (ze rfl ((h1.below b010).rS (n:=3) (x:=fs) rfl (zjn (h5.below b010) hqL (box5 rfl λw16 hf16 b16 z16=>?_))))
 refine hf16.rI (n:=1) (x:=L[Q[i]].1.at_) rfl (zj (λg3=>hf16.rI (n:=4) (x:=L[Q[i]].1.en) rfl (zj (λg4=>?_) (λg4=>⟨b16,?_⟩))) (λg3=>⟨b16,?_⟩))
 ·have:=hR w16 (b010.on b16)
  have e1:(List.range pl.length).all qk=false:=List.all_eq_false.2 ⟨j,List.mem_range.2 hjl,by
   rw[qe]
   have:(Q.all λn=>!hit n)=false:=List.all_eq_false.2 ⟨_,List.getElem_mem hil,by rw[eH,decide_eq_true g3,decide_eq_true g4];simp⟩
   rw[this]
   simp⟩
  rw[e1]at this
  exact this
 ·rw[eH,decide_eq_false g4,Bool.and_false]
 ·rw[eH,decide_eq_false g3,Bool.false_and]
end
end Go.Proofs
namespace Go.Proofs
open Go.Gk Go.RowKit Go.Gm
def pl0(t:Int)(p:Po):Int:=if t=0 then p.2.1 else p.2.2.1
def ctP(t:Int)(l:List Po)(x:Int):Int:=((l.filter λp=>pl0 t p==x).length:Int)
theorem zv2(t:Int)(l:List Po)(x:Int):0<=ctP t l x/\ctP t l x<=l.length:=by
 unfold ctP
 have:=List.length_filter_le (λp=>pl0 t p==x) l
 omega
theorem zor(t:Int){l:List Po}{i:Nat}(hi:i<l.length)(x:Int):ctP t (l.take (i+1)) x=ctP t (l.take i) x+(if pl0 t l[i]=x then 1 else 0):=by
 unfold ctP
 rw[List.take_succ_eq_append_getElem hi,List.filter_append,List.length_append]
 by_cases h:pl0 t l[i]=x
 ·simp[h]
 ·simp[h]
theorem zux{t:Int}{l:List Po}{x:Int}(h:0<ctP t l x):∃p∈l,pl0 t p=x:=by
 unfold ctP at h
 have:0<(l.filter λp=>pl0 t p==x).length:=by omega
 obtain⟨p,hp⟩:=List.exists_mem_of_length_pos this
 rw[List.mem_filter]at hp
 exact⟨p,hp.1,beq_iff_eq.1 hp.2⟩
theorem zqH{t:Int}{l:List Po}{x:Int}{p:Po}(hp:p∈l)(e:pl0 t p=x):0<ctP t l x:=by
 unfold ctP
 have:p∈l.filter λp=>pl0 t p==x:=List.mem_filter.2 ⟨hp,beq_iff_eq.2 e⟩
 have:=List.length_pos_of_mem this
 omega
theorem zug{l:List Po}{i:Nat}(hi:i<l.length){t:Int}(ht:t=0\/t=1)(h0:0<=pl0 t l[i])(hc:0<ctP t (l.take i) (pl0 t l[i])):unlk l=false:=by
 obtain⟨p,hp,e⟩:=zux hc
 unfold unlk
 rw[decide_eq_false_iff_not]
 intro hw
 obtain⟨j,hj,rfl⟩:=List.mem_iff_getElem.1 hp
 rw[List.length_take]at hj
 rw[List.getElem_take]at e
 have:=List.pairwise_iff_getElem.1 hw j i (by omega) hi (by omega)
 unfold unlR at this
 rcases ht with rfl |rfl
 ·exact this.1 ⟨h0,e⟩
 ·exact this.2 ⟨h0,e⟩
theorem zuf{l:List Po}{i:Nat}(hi:i<l.length)(hw:(l.take i).Pairwise unlR)(h:∀t,t=0\/t=1->¬(0<=pl0 t l[i]/\0<ctP t (l.take i) (pl0 t l[i]))):(l.take (i+1)).Pairwise unlR:=by
 rw[List.take_succ_eq_append_getElem hi,List.pairwise_append]
 refine⟨hw,by simp,λa ha b hb=>?_⟩
 rw[List.mem_singleton]at hb
 subst hb
 exact⟨λ⟨q1,q2⟩=>h 0 (.inl rfl) ⟨q1,zqH ha q2⟩,λ⟨q1,q2⟩=>h 1 (.inr rfl) ⟨q1,zqH ha q2⟩⟩
theorem uPk:Tryz.prog.underlying 241=some (.map 242 3):=by kernel_rfl
theorem zPk:∃i,Tryz.prog.info? 3=some i/\i.zero=some (.int .i64 0):=by
 have h:(Tryz.prog.info? 3).map (·.zero)=some (some (.int .i64 0)):=by kernel_rfl
 cases hi:Tryz.prog.info? 3 with
 |none=>rw[hi]at h;cases h
 |some i=>rw[hi]at h;exact⟨i,rfl,by injection h⟩
theorem kPk:PkOk Tryz.prog 242 zjQ:=by
 refine zuM (e:=3) (by kernel_rfl) (by kernel_rfl) ?_ (by kernel_rfl)
 have h:(Tryz.prog.info? 3).map (λi=>Nat.beq i.size 1)=some true:=by kernel_rfl
 cases hi:Tryz.prog.info? 3 with
 |none=>rw[hi]at h;cases h
 |some i=>rw[hi]at h;exact⟨i,rfl,by injection h⟩
section
variable {w:World} {R:VWP}
set_option maxHeartbeats 4000000 in
theorem zka{s:Sl}{l:List Po}(h:IsPs w s l)(hR:∀w',Below w.heap.size w w'->R (.bool (unlk l)) w') :
  cR 117 #[.slice s.a s.l s.c] w R:=by
 refine za.of (zi7 s R w ?_) λ_ _ h=>h
 have hn:=h.len
 have hbd:=h.bound
 refine zqd (kv:=zjQ) (f:=Value.int .i64) λw1 hM0 b0 z0=>?_
 let INV (i:Nat) (w2:World):Prop:=Below w.heap.size w w2/\w.heap.size<w2.heap.size/\(∃L,IsMg w2 w.heap.size zjQ (Value.int .i64) L/\∀t x,t=0\/t=1->(zF L (t,x)).getD 0=ctP t (l.take i) x)/\(l.take i).Pairwise unlR
 refine zl.count l.length hbd INV ⟨b0,by omega,⟨[],hM0,λt x _=>by simp[zF,ctP]⟩,by simp⟩ ?_
 rintro i w2 hi ⟨b2,z2,⟨L0,hM2,hL0⟩,hw⟩ next hnext
 refine zj (λg=>?_) (λg=>?_)
 rotate_left
 ·have hie:i=l.length:=by dsimp only at g;omega
  subst hie
  rw[List.take_length]at hw
  have:=hR w2 b2
  unfold unlk at this
  rwa[decide_eq_true hw]at this
 have hil:i<l.length:=by dsimp only at g;omega
 have bad:∀{w'} {t:Int},(t=0\/t=1)->Below w.heap.size w w'->0<=pl0 t l[i]->0<ctP t (l.take i) (pl0 t l[i])->R (.bool false) w':=λ{w'} {t} ht hb h1 h2=>by
  have:=hR w' hb
  rwa[zug hil ht h1 h2]at this
 refine zeQ (IsC.below zM h b2) hil ?_
 refine box6 rfl λw9 hP b9 z9=>?_
 refine hP.rI (n:=1) rfl (hP.rI (n:=2) rfl ?_)
 have hM9:=hM2.below b9
 have b09:=b2.on b9
 let IV (m:Nat) (w3:World):Prop:=Below w.heap.size w w3/\w.heap.size<w3.heap.size/\(∃L,IsMg w3 w.heap.size zjQ (Value.int .i64) L/\∀t x,t=0\/t=1->(zF L (t,x)).getD 0=ctP t (l.take (if t<(m:Int) then i+1 else i)) x)/\
  ∀t,t=0\/t=1->t<(m:Int)->¬(0<=pl0 t l[i]/\0<ctP t (l.take i) (pl0 t l[i]))
 refine zl.count 2 (by decide) IV ⟨b09,by omega,⟨L0,hM9,λt x ht=>by rw[if_neg (by omega)];exact hL0 t x ht⟩,λt ht h=>by omega⟩ ?_
 rintro m w3 hm ⟨b3,z3,⟨L,hM3,hL⟩,hN⟩ next2 hnext2
 refine zj (λg2=>?_) (λg2=>?_)
 rotate_left
 ·have hme:m=2:=by dsimp only at g2;omega
  subst hme
  refine hnext w3 hil ⟨b3,z3,⟨L,hM3,λt x ht=>?_⟩,zuf hil hw λt ht=>hN t ht (by omega)⟩
  rw[hL t x ht,if_pos (by omega)]
 have hm2:m<2:=by dsimp only at g2;omega
 have hmt:((m:Int)=0\/(m:Int)=1):=by omega
 obtain⟨X,hX⟩:∃X,X=pl0 (m:Int) l[i]:=⟨_,rfl⟩
 have hcL:(zF L ((m:Int),X)).getD 0=ctP (m:Int) (l.take i) X:=by rw[hL _ _ hmt,if_neg (by omega)]
 have hct:=zv2 (m:Int) (l.take i) X
 have htl:(l.take i).length=i:=by rw[List.length_take];omega
 have ew:IntKind.i64.wrap (ctP (m:Int) (l.take i) X+1)=ctP (m:Int) (l.take i) X+1:=zq (by omega) (by omega)
 refine zo.cut (λ(_:Unit) w'=>IV (m+1) w') ?_ ?_
 rotate_left
 ·rintro _ w8 hI
  exact hnext2 w8 hm2 hI
 refine zo.cut (λ(q:Addr×Unit) w'=>q.1=blk w3.heap.size/\Blk w' w3.heap.size 242 [.int .i64 (m:Int),.int .i64 X]/\Below w3.heap.size w3 w'/\w'.heap.size=w3.heap.size+1) ?_ ?_
 ·refine⟨⟨by omega,by omega⟩,λe=>?_,λe=>?_⟩
  ·have e:(m:Int)=0:=e
   have hX:X=l[i].2.1:=by rw[hX,e];rfl
   exact box2 rfl λw4 h4 b4 z4=>⟨rfl,by rw[e,hX];exact h4,b4,z4⟩
  ·have e:(m:Int)=1:=e
   have hX:X=l[i].2.2.1:=by rw[hX,e];rfl
   exact box2 rfl λw4 h4 b4 z4=>⟨rfl,by rw[e,hX];exact h4,b4,z4⟩
 rintro⟨q,_⟩ w4 ⟨rfl,hA,b4,z4⟩
 dsimp only
 have hM4:=hM3.below b4
 have b04:=b3.on b4
 refine zo.cut (λ(_:Unit) w'=>Below w.heap.size w w'/\w.heap.size<w'.heap.size/\Blk w' w3.heap.size 242 [.int .i64 (m:Int),.int .i64 X]/\IsMg w' w.heap.size zjQ (Value.int .i64) (setG L ((m:Int),X) (ctP (m:Int) (l.take i) X+1))) ?_ ?_
 ·have hAd:=hA.drew
  have hMd:=hM4.drew
  have bd:=b04.drew
  refine hAd.rI (n:=0) rfl (hAd.rI (n:=1) rfl ?_)
  have zd:w4.drew.heap.size=w4.heap.size:=rfl
  have fin:∀w5 w6,Chg w.heap.size w4.drew w5->Chg w.heap.size w5 w6->Below w.heap.size w w6/\w.heap.size<w6.heap.size/\Blk w6 w3.heap.size 242 [.int .i64 (m:Int),.int .i64 X]:=λw5 w6 c5 c6=>by
   have c:=c5.trans c6
   exact⟨c.below bd (Nat.le_refl _),by rw[c.size,zd,z4];omega,c.blk hAd (by omega)⟩
  refine⟨?_,?_⟩
  ·refine zhG kPk uPk zPk hMd (k:=((m:Int),X)) rfl ?_
   refine zoW kPk uPk zPk hMd (z:=0) (k:=((m:Int),X)) rfl λv n w5 hM5 c5=>?_
   rw[hcL,ew]
   refine zqQ hM5 (v:=ctP (m:Int) (l.take i) X+1) rfl λw6 hM6 c6=>?_
   rw[zg1]at hM6
   obtain⟨f1,f2,f3⟩:=fin w5 w6 c5 c6
   exact⟨f1,f2,f3,hM6⟩
  ·refine zoW kPk uPk zPk hMd (z:=0) (k:=((m:Int),X)) rfl λv n w5 hM5 c5=>?_
   refine zhG kPk uPk zPk hM5.isMg (k:=((m:Int),X)) rfl ?_
   rw[Y5,if_pos rfl,Option.getD_some,hcL,ew]
   refine zqQ hM5 (v:=ctP (m:Int) (l.take i) X+1) rfl λw6 hM6 c6=>?_
   rw[zg1]at hM6
   obtain⟨f1,f2,f3⟩:=fin w5 w6 c5 c6
   exact⟨f1,f2,f3,hM6⟩
 rintro _ w7 ⟨b7,z7,hA7,hM7⟩
 have good:¬(0<=X/\0<ctP (m:Int) (l.take i) X)->IV (m+1) w7:=λhg=>by
  refine⟨b7,z7,⟨_,hM7,λt x ht=>?_⟩,λt ht hlt=>?_⟩
  ·rw[Y5]
   by_cases e:((t,x):Int×Int)=((m:Int),X)
   ·rw[if_pos e,Option.getD_some]
    obtain⟨e1,e2⟩:=Prod.mk.injEq _ _ _ _▸e
    rw[e1,e2,if_pos (by omega),zor _ hil,if_pos hX.symm]
   ·rw[if_neg e,hL t x ht]
    by_cases q:t=(m:Int)
    ·subst q
     rw[if_neg (by omega),if_pos (by omega),zor _ hil,if_neg (λz=>e (by rw[<-z,hX]))]
     omega
    ·by_cases q1:t<(m:Int)
     ·rw[if_pos q1,if_pos (by omega)]
     ·rw[if_neg q1,if_neg (by omega)]
  ·by_cases q:t=(m:Int)
   ·subst q
    rw[<-hX];exact hg
   ·exact hN t ht (by omega)
 refine⟨⟨by decide,by decide⟩,hA7.rI (n:=1) rfl (zj (λq0=>?_) (λq0=>?_))⟩
 rotate_left
 ·exact good λz=>q0 z.1
 refine hA7.rI (n:=0) rfl (hA7.rI (n:=1) rfl (zhG kPk uPk zPk hM7 (k:=((m:Int),X)) rfl ?_))
 rw[Y5,if_pos rfl,Option.getD_some]
 refine zj (λq1=>?_) (λq1=>?_)
 ·rw[hX]at q0 q1
  exact bad hmt b7 q0 (by omega)
 ·exact good λz=>q1 (by omega)
end
end Go.Proofs
namespace Go.Proofs
open Go.Gk Go.RowKit Go.Gm
theorem IsS.heads{α:Type}{f:α->Value}{w:World}{s:Sl}{l:List α}(h:IsS f w s l){n:Nat}(hn:n<=l.length):IsS f w ⟨if s.c=0 then s.a else s.a.map (λa=>a.add 0),n-0,s.c-0⟩ (l.take n):=by
 have h1:=h.len
 have h2:=h.cap
 have h3:=h.max
 refine⟨by rw[List.length_take];show n-0=_;omega,by show n-0<=s.c-0;omega,by show s.c-0<=_;omega,λq=>?_,λa ha i hi=>?_⟩
 ·have q:(if s.c=0 then s.a else s.a.map (λa=>a.add 0))=none:=q
  show s.c-0=0
  split at q
  ·omega
  ·rw[Option.map_eq_none_iff]at q
   have:=h.nil q
   omega
 ·have ha:(if s.c=0 then s.a else s.a.map (λa=>a.add 0))=some a:=ha
  have hi':=hi
  rw[List.length_take]at hi'
  have hil:i<l.length:=by omega
  rw[if_neg (by omega)]at ha
  cases hb:s.a with
  |none=>rw[hb]at ha;cases ha
  |some b=>
   rw[hb]at ha
   cases ha
   rw[zn,Nat.zero_add,List.getElem_take]
   exact h.cell b hb i hil
def oneP:List Po->Bool
 | [p]=>p.2.1==0&&p.2.2.2.2.1==1
 |_=>false
theorem Fc.outs_of{F:Fc}{e:En}{l:List Po}(hs:SrtP l (F.pts e.2.2.2 3)):F.outs e=if e.1=4 then oneP l else l.any λp=>p.2.2.1==0:=by
 have:F.outs e=if e.1=4 then oneP (F.pts e.2.2.2 3) else(F.pts e.2.2.2 3).any λp=>p.2.2.1==0:=by
  unfold Fc.outs oneP
  rfl
 rw[this]
 have hp:=hs.perm
 generalize F.pts e.2.2.2 3=m at hp⊢
 by_cases h4:e.1=4
 ·rw[if_pos h4,if_pos h4]
  have hl:=hp.length_eq
  match m,l,hl with
  | [],[],_=>rfl
  | [p],[q],_=>
   have:q∈[p]:=hp.mem_iff.1 (List.mem_singleton.2 rfl)
   rw[List.mem_singleton]at this
   rw[this]
  |_::_::_,_::_::_,_=>rfl
 ·rw[if_neg h4,if_neg h4]
  rw[Bool.eq_iff_iff,List.any_eq_true,List.any_eq_true]
  exact⟨λ⟨p,h1,h2⟩=>⟨p,hp.mem_iff.2 h1,h2⟩,λ⟨p,h1,h2⟩=>⟨p,hp.mem_iff.1 h1,h2⟩⟩
section
variable {w:World} {R:VWP} {B cb:Nat} {pl:List PI} {bd:Int}
theorem ztf{p:Po}{K:VWP}(hK:∀w',Below w.heap.size w w'->K (.bool (p.2.2.1==0)) w'):zL Tryz.prog Tryz.fs (.func (.func 119) #[] #[]) [poA p] w K:=by
 have hcf:Tryz.fs.contains 119=true:=by kernel_rfl
 unfold zL
 simp only[hcf]
 refine za.of (zcR p K w ?_) λ_ _ h=>h
 refine zm λw1 hP b1 z1=>?_
 have hP:Blk w1 w.heap.size 52 (poV p):=hP
 exact hP.rI (n:=2) (x:=p.2.2.1) rfl (hK w1 b1)
set_option maxHeartbeats 4000000 in
theorem zpP(h:IsCk w B cb pl)(hF:FcOk bd pl){k:Nat}(hk:k<pl.length)(e15:(ix pl k).1=15)(hR:∀w',Below w.heap.size w w'->R (.bool ((fcP pl).facd (entF (ix pl k)))) w') :
  cR 83 #[.pointer (some (blk cb)),.int .i64 (k:Int)] w R:=by
 refine za.of (zdH _ k R w ?_) λ_ _ h=>h
 have h':=h
 obtain⟨pb,tb,rc,rd,fs,ins,L,h1,h2,h3,h4,h5,h6,h7,h8⟩:=h'
 have hix:=zH hk
 have h3l:3<=pl[k].2.2.2.length:=by have:=Yk hF.shape hk e15 zcs;rwa[hix]at this
 refine ze rfl (h1.rS (n:=4) (x:=ins) rfl (Z8 h7 (Below.refl _ _) hk λt hI=>?_))
 have eE:entF (piOf (mkIn pl[k] t) pl[k].2.2.2)=entF (ix pl k):=by rw[hix]
 have hmx:(entF (ix pl k)).2.2.2.length<=65535:=by
  have:=YQ hF.shape hk
  rw[hix]
  unfold entF
  rw[List.length_map,List.length_drop]
  omega
 refine YS (x:=mkIn pl[k] t) (al:=pl[k].2.2.2) hI h3l (YQ hF.shape hk) λw2 r hr b2=>?_
 rw[eE]at hr⊢
 generalize entF (ix pl k)=E at hr hR hmx⊢
 refine⟨(E.1,E.2.1,E.2.2.1,r,()),rfl,box4 rfl λw7 hE7 b7 z7=>?_⟩
 have hE7:Blk w7 w2.heap.size 74 (enV E.1 E.2.1 E.2.2.1 r):=hE7
 have b07:=b2.on b7
 have hr7:=hr.below b7
 have hrl:=hr7.len
 refine hE7.rS (n:=3) (x:=r) rfl ?_
 have bad:∀{w'},Below w.heap.size w w'->(fcP pl).facd E=false->R (.bool false) w':=λ{w'} hb e=>by
  have:=hR w' hb
  rwa[e]at this
 refine zl.count E.2.2.2.length hr7.bound (λi w'=>Below w7.heap.size w7 w'/\∀j,j<i->(fcP pl).okId E j=true) ⟨Below.refl _ _,λj h=>by omega⟩ ?_
 rintro i w8 hi ⟨b8,hy⟩ next hnext
 have b08:=b07.on b8
 have hE8:=hE7.below b8
 have hr8:=hr7.below b8
 refine zj (λg=>?_) (λg=>?_)
 ·have hil:i<E.2.2.2.length:=by dsimp only at g;omega
  refine zo.cut (λ(_:Unit) w'=>Below w8.heap.size w8 w'/\(fcP pl).okId E i=true) ?_ ?_
  rotate_left
  ·rintro _ w9 ⟨b9,hy9⟩
   refine hnext w9 hil ⟨b8.on b9,λj hj=>?_⟩
   by_cases e:j=i
   ·subst e;exact hy9
   ·exact hy j (by omega)
  have no:∀{w'},Below w8.heap.size w8 w'->(fcP pl).okId E i=false->R (.bool false) w':=λ{w'} hb e=>by
   refine bad (b08.on hb) ?_
   have e2:((List.range E.2.2.2.length).all ((fcP pl).okId E))=false:=List.all_eq_false.2 ⟨i,List.mem_range.2 hil,by rw[e];simp⟩
   unfold Fc.facd
   rw[e2]
   rfl
  have eok:(fcP pl).okId E i=((fcP pl).cls E.2.2.2[i] !=0&&(fcP pl).isN ((fcP pl).port E.2.2.2[i]).2.2.2.1&&!(E.2.2.2.take i).contains E.2.2.2[i]&&mayB E.1 ((fcP pl).cls E.2.2.2[i]) ((fcP pl).port E.2.2.2[i])):=by
   unfold Fc.okId
   rw[zp hil]
  rw[eok]at no⊢
  refine YR hr8 hil (zbg (h.below b08) hF λw9 b9=>⟨_,rfl,?_⟩)
  refine zh7 ((h.below b08).below b9) hF λw10 b10=>⟨(fcP pl).port E.2.2.2[i],rfl,?_⟩
  generalize hp:(fcP pl).port E.2.2.2[i]=p at no⊢
  generalize (fcP pl).cls E.2.2.2[i]=c at no⊢
  refine box6 rfl λw16 hP16 b16 z16=>?_
  have hP16:Blk w16 w10.heap.size 52 (poV p):=hP16
  have b810:=b9.on b10
  have b816:=b810.on b16
  refine hP16.rI (n:=3) (x:=p.2.2.2.1) rfl (zi4 ((h.below b08).below b816) hF λw17 b17=>⟨_,_,rfl,?_⟩)
  have b817:=b816.on b17
  generalize (fcP pl).isN p.2.2.2.1=n at no⊢
  refine zk (λe0=>?_) (λe0=>?_)
  ·exact no b817 (by rw[e0];rfl)
  have ec:(c !=0)=true:=bne_iff_ne.2 e0
  rw[ec]at no⊢
  refine zI (zz (λen=>?_) (λen=>no b817 (by rw[en];rfl)))
  rw[en]at no⊢
  have hr17:=hr8.below b817
  have hcap:=hr17.cap
  refine(hE8.below b817).rS (n:=3) (x:=r) rfl ⟨⟨by decide,by omega,by omega⟩,?_⟩
  rw[Int.toNat_natCast]
  refine zgc (s:=⟨if r.c=0 then r.a else Option.map (λa=>a.add 0) r.a,i-0,r.c-0⟩) (IsS.heads hr17 (Nat.le_of_lt hil)) ⟨_,rfl,zz (λe2=>no b817 (by rw[e2];rfl)) (λe2=>?_)⟩
  rw[e2]at no⊢
  refine(hE8.below b817).rI0 (x:=E.1) rfl (Po.load (p:=p) (hP16.below b17) ?_)
  refine zsd (p:=p) λw19 b19=>⟨_,rfl,zI (zz (λe3=>?_) (λe3=>no (b817.on b19) (by rw[e3];rfl)))⟩
  exact⟨b817.on b19,by rw[e3];rfl⟩
 ·have hie:i=E.2.2.2.length:=by dsimp only at g;omega
  subst hie
  have e1:((List.range E.2.2.2.length).all ((fcP pl).okId E))=true:=List.all_eq_true.2 λj hj=>hy j (List.mem_range.1 hj)
  have efc:(fcP pl).facd E=((fcP pl).used E&&unlk ((fcP pl).pts E.2.2.2 1)&&unlk ((fcP pl).pts E.2.2.2 3)&&(fcP pl).outs E):=by
   unfold Fc.facd
   rw[e1,Bool.true_and]
  have bad:=λ{w'} (hb:Below w8.heap.size w8 w')=>bad (b08.on hb)
  have hR:=λw' (hb:Below w8.heap.size w8 w')=>hR w' (b08.on hb)
  rw[efc]at bad hR
  have hk8:=h.below b08
  refine hE8.rI (n:=0) (x:=E.1) rfl (hE8.rI (n:=1) (x:=E.2.1) rfl (hE8.rT (n:=2) (x:=E.2.2.1) rfl (hE8.rS (n:=3) (x:=r) rfl ?_)))
  refine zly (ids:=E.2.2.2) hk8 hF hr8 hmx λw9 so lo hso hlo b9=>⟨so,rfl,?_⟩
  have hE9:=hE8.below b9
  refine zo.cut (λ(_:Unit) w'=>Below w9.heap.size w9 w'/\∀w',Below w8.heap.size w8 w'->R (.bool ((fcP pl).outs E)) w') ?_ ?_
  ·refine hE9.rI (n:=0) (x:=E.1) rfl (hE9.rI (n:=1) (x:=E.2.1) rfl (hE9.rT (n:=2) (x:=E.2.2.1) rfl (hE9.rS (n:=3) (x:=r) rfl ?_)))
   refine zsx (ids:=E.2.2.2) (hk8.below b9) hF (hr8.below b9) λw10 b10=>⟨_,rfl,zI (zz (λe2=>?_) (λe2=>bad (b9.on b10) (by rw[e2];rfl)))⟩
   have e2:(fcP pl).used E=true:=e2
   rw[e2,Bool.true_and]at bad hR
   have b810:=b9.on b10
   have hE10:=hE9.below b10
   refine hE10.rI (n:=0) (x:=E.1) rfl (hE10.rI (n:=1) (x:=E.2.1) rfl (hE10.rT (n:=2) (x:=E.2.2.1) rfl (hE10.rS (n:=3) (x:=r) rfl ?_)))
   refine zly (ids:=E.2.2.2) (hk8.below b810) hF (hr8.below b810) hmx λw11 si li hsi hli b11=>⟨si,rfl,?_⟩
   refine zka hsi λw12 b12=>⟨_,rfl,?_⟩
   rw[zmK hli.perm]
   have b812:=(b810.on b11).on b12
   refine zI (zz (λe3=>?_) (λe3=>bad b812 (by rw[e3];rfl)))
   rw[e3,Bool.true_and]at bad hR
   have b912:=(b10.on b11).on b12
   refine zka (IsC.below zM hso b912) λw13 b13=>⟨_,rfl,?_⟩
   rw[zmK hlo.perm]
   refine zI (zz (λe4=>?_) (λe4=>bad (b812.on b13) (by rw[e4];rfl)))
   rw[e4,Bool.true_and]at hR
   exact⟨b912.on b13,hR⟩
  rintro _ w10 ⟨b10,hR⟩
  have b810:=b9.on b10
  rw[Fc.outs_of hlo]at hR
  have hso10:=IsC.below zM hso b10
  have hsl:=hso10.len
  refine(hE9.below b10).rI0 (x:=E.1) rfl (zk (λe4=>?_) (λe4=>?_))
  ·rw[if_pos e4]at hR
   refine zk (λel=>?_) (λel=>?_)
   ·have hl1:lo.length=1:=by omega
    obtain⟨p,hp⟩:=List.length_eq_one_iff.1 hl1
    subst hp
    have hR:∀w',Below w8.heap.size w8 w'->R (.bool (p.2.1==0&&p.2.2.2.2.1==1)) w':=hR
    obtain⟨a,ha⟩:=hso10.base (i:=0) (by rw[hl1];exact Nat.one_pos)
    have c1:=hso10.cell a ha 0 (by rw[hl1];exact Nat.one_pos) 1 (by decide)
    have c4:=hso10.cell a ha 0 (by rw[hl1];exact Nat.one_pos) 4 (by decide)
    refine⟨⟨by decide,by omega⟩,ze ha ⟨p.2.1,by rw[zn];exact c1,zk (λe5=>⟨⟨by decide,by omega⟩,ze ha ⟨p.2.2.2.2.1,by rw[zn];exact c4,?_⟩⟩) (λe5=>?_)⟩⟩
    ·have:=hR w10 b810
     rwa[beq_iff_eq.2 e5,Bool.true_and]at this
    ·have:=hR w10 b810
     rwa[beq_eq_false_iff_ne.2 e5,Bool.false_and]at this
   ·have hl1:lo.length≠1:=by omega
    have:=hR w10 b810
    have q:oneP lo=false:=by
     clear this hR hlo hso10 hsl hso el
     match lo,hl1 with
     | [],_=>rfl
     | [_],q=>exact absurd rfl q
     |_::_::_,_=>rfl
    rwa[q]at this
  ·rw[if_neg e4]at hR
   refine zok (q:=λp=>p.2.2.1==0) hso10 (λw11 b11 j hj K hK=>ztf hK) λw11 b11=>⟨_,rfl,hR w11 (b810.on b11)⟩
end
end Go.Proofs
namespace Go.Proofs
open Go.Gk Go.RowKit Go.Gm
def fnO(r:Nat):Nat:=if r=0 then 82 else if r=1 then 83 else if r=2 then 84 else if r=3 then 85 else if r=4 then 86 else 87
def errO(r:Nat):Int:=if r=0 then 200 else if r=1 then 201 else if r=2 then 202 else if r=3 then 200 else if r=4 then 202 else 204
theorem zu5(r:Nat):errO r≠0:=by
 unfold errO
 split
 ·decide
 split
 ·decide
 split
 ·decide
 split
 ·decide
 split
 ·decide
 ·decide
def Fc.okO(F:Fc)(k r:Nat):Bool:=if r=0 then F.enterd k else if r=1 then F.facd (entF (ix F.pl k)) else if r=2 then F.decd (entF (ix F.pl k)) else if r=3 then F.modd k else if r=4 then F.decn k else F.kild k
def Zm(op:Int):List Nat:=if op=15 then [0,1,2] else if op=16 then [3] else if op=71 then [4] else if op=252 then [5] else []
theorem Fc.err_of{F:Fc}{k j:Nat}(hj:j<(Zm (ix F.pl k).1).length)(h0:∀i (hi:i<(Zm (ix F.pl k).1).length),i<j->F.okO k (Zm (ix F.pl k).1)[i]=true)(h1:F.okO k (Zm (ix F.pl k).1)[j]=false):F.err k=errO (Zm (ix F.pl k).1)[j]:=by
 unfold Fc.err
 revert hj h0 h1
 unfold Zm
 split
 ·intro hj h0 h1
  match j,hj,h1 with
  | 0,_,h1=>
   have h1:F.enterd k=false:=h1
   simp only[h1,Bool.not_false,if_true]
   rfl
  | 1,_,h1=>
   have a0:F.enterd k=true:=h0 0 (by simp) (by omega)
   have h1:F.facd (entF (ix F.pl k))=false:=h1
   simp only[a0,h1,Bool.not_true,Bool.not_false,if_true,if_false,Bool.false_eq_true]
   rfl
  | 2,_,h1=>
   have a0:F.enterd k=true:=h0 0 (by simp) (by omega)
   have a1:F.facd (entF (ix F.pl k))=true:=h0 1 (by simp) (by omega)
   have h1:F.decd (entF (ix F.pl k))=false:=h1
   simp only[a0,a1,h1,Bool.not_true,Bool.not_false,if_true,if_false,Bool.false_eq_true]
   rfl
 split
 ·intro hj h0 h1
  match j,hj,h1 with
  | 0,_,h1=>
   have h1:F.modd k=false:=h1
   simp only[h1,Bool.not_false,if_true]
   rfl
 split
 ·intro hj h0 h1
  match j,hj,h1 with
  | 0,_,h1=>
   have h1:F.decn k=false:=h1
   simp only[h1,Bool.not_false,if_true]
   rfl
 split
 ·intro hj h0 h1
  match j,hj,h1 with
  | 0,_,h1=>
   have h1:F.kild k=false:=h1
   simp only[h1,Bool.not_false,if_true]
   rfl
 ·intro hj
  exact absurd hj (by simp)
theorem Fc.err_ok{F:Fc}{k:Nat}(h0:∀i (hi:i<(Zm (ix F.pl k).1).length),F.okO k (Zm (ix F.pl k).1)[i]=true):F.err k=0:=by
 unfold Fc.err
 revert h0
 unfold Zm
 split
 ·intro h0
  have a0:F.enterd k=true:=h0 0 (by simp)
  have a1:F.facd (entF (ix F.pl k))=true:=h0 1 (by simp)
  have a2:F.decd (entF (ix F.pl k))=true:=h0 2 (by simp)
  simp only[a0,a1,a2,Bool.not_true,if_false,Bool.false_eq_true]
 split
 ·intro h0
  have a0:F.modd k=true:=h0 0 (by simp)
  simp only[a0,Bool.not_true,if_false,Bool.false_eq_true]
 split
 ·intro h0
  have a0:F.decn k=true:=h0 0 (by simp)
  simp only[a0,Bool.not_true,if_false,Bool.false_eq_true]
 split
 ·intro h0
  have a0:F.kild k=true:=h0 0 (by simp)
  simp only[a0,Bool.not_true,if_false,Bool.false_eq_true]
 ·intro _
  rfl
abbrev ruV(cb:Nat)(r:Nat):List Value:=[.func (.func (fnO r)) #[.pointer (some (blk cb))] #[],.int .i64 (errO r)]
theorem ziP(cb:Nat):∀r,(ruV cb r).length=2:=λ_=>rfl
section
variable {w:World} {R:VWP} {B cb:Nat} {pl:List PI} {bd:Int}
theorem zqt{op:Int}(hR:∀w' s,IsC 2 (ruV cb) w' s (Zm op)->Below w.heap.size w w'->R (.slice s.a s.l s.c) w'):cR 53 #[.pointer (some (blk cb)),.int .u16 op] w R:=by
 refine za.of (zdJ _ op R w ?_) λ_ _ h=>h
 unfold Zm at hR
 refine zk (λe=>?_) (λe=>zk (λe1=>?_) (λe1=>zk (λe2=>?_) (λe2=>zk (λe3=>?_) (λe3=>?_))))
 ·rw[if_pos e]at hR
  exact zm λw1 hB b1 z1=>hR w1 ⟨some (blk w.heap.size),3,3⟩ (Blk.isC (T:=128) (l:=[0,1,2]) (ziP cb) (by decide) hB (by decide)) b1
 ·rw[if_neg e,if_pos e1]at hR
  exact zm λw1 hB b1 z1=>hR w1 ⟨some (blk w.heap.size),1,1⟩ (Blk.isC (T:=128) (l:=[3]) (ziP cb) (by decide) hB (by decide)) b1
 ·rw[if_neg e,if_neg e1,if_pos e2]at hR
  exact zm λw1 hB b1 z1=>hR w1 ⟨some (blk w.heap.size),1,1⟩ (Blk.isC (T:=128) (l:=[4]) (ziP cb) (by decide) hB (by decide)) b1
 ·rw[if_neg e,if_neg e1,if_neg e2,if_pos e3]at hR
  exact zm λw1 hB b1 z1=>hR w1 ⟨some (blk w.heap.size),1,1⟩ (Blk.isC (T:=128) (l:=[5]) (ziP cb) (by decide) hB (by decide)) b1
 ·rw[if_neg e,if_neg e1,if_neg e2,if_neg e3]at hR
  exact hR w ⟨none,0,0⟩ ⟨rfl,Nat.le_refl _,Nat.zero_le _,λ_=>rfl,λa ha=>by cases ha⟩ (Below.refl _ _)
theorem za.value{P:Program}{fs:List Nat}{f:Nat}{p v:Value}{w:World}{K:VWP}(hc:fs.contains f=true)(h:za P f #[p,v] w K):zL P fs (.func (.func f) #[p] #[]) [v] w K:=by
 unfold zL
 simp only[hc]
 exact h
theorem zuQ(h:IsCk w B cb pl)(hF:FcOk bd pl){k:Nat}(hk:k<pl.length){r:Nat}(hr:r∈Zm (ix pl k).1){K:VWP}(hK:∀w',Below w.heap.size w w'->K (.bool ((fcP pl).okO k r)) w') :
  zL Tryz.prog Tryz.fs (.func (.func (fnO r)) #[.pointer (some (blk cb))] #[]) [.int .i64 (k:Int)] w K:=by
 unfold Zm at hr
 split at hr
 ·rename_i e
  rcases List.mem_cons.1 hr with rfl |hr
  ·exact za.value (f:=82) (by kernel_rfl) (zni h hF hk e hK)
  rcases List.mem_cons.1 hr with rfl |hr
  ·exact za.value (f:=83) (by kernel_rfl) (zpP h hF hk e hK)
  ·cases List.mem_singleton.1 hr
   exact za.value (f:=84) (by kernel_rfl) (zkS h hF hk e hK)
 split at hr
 ·rename_i e
  cases List.mem_singleton.1 hr
  exact za.value (f:=85) (by kernel_rfl) (zsf h hF hk e hK)
 split at hr
 ·rename_i e
  cases List.mem_singleton.1 hr
  exact za.value (f:=86) (by kernel_rfl) (zkg h hF hk e hK)
 split at hr
 ·rename_i e
  cases List.mem_singleton.1 hr
  exact za.value (f:=87) (by kernel_rfl) (zrT h hF hK)
 ·cases hr
set_option maxHeartbeats 4000000 in
theorem zmZ(h:IsCk w B cb pl)(hF:FcOk bd pl)(hR:∀w',Below w.heap.size w w'->R (.agg #[.int .i64 (fcP pl).all.1,.int .i64 (fcP pl).all.2]) w') :
  cR 30 #[.pointer (some (blk cb))] w R:=by
 refine za.of (zdF _ R w ?_) λ_ _ h=>h
 refine zm λw1 hS1 b1 z1=>?_
 have hS1:Blk w1 w.heap.size 29 [.int .i64 0,.int .i64 0]:=hS1
 have h':=h.below b1
 obtain⟨pb,tb,rc,rd,fs,ins,L,h1,h2,h3,h4,h5,h6,h7,h8⟩:=h'
 have h7l:=h7.len
 refine ze rfl (h1.rS (n:=4) (x:=ins) rfl ?_)
 refine zl.count pl.length h7.bound (λk w'=>Below w1.heap.size w1 w'/\∀i,i<k->(fcP pl).err i=0) ⟨Below.refl _ _,λi h=>by omega⟩ ?_
 rintro k w2 hk ⟨b2,h0⟩ next hnext
 have b02:=b1.on b2
 have hS2:=hS1.below b2
 refine zj (λg=>?_) (λg=>?_)
 rotate_left
 ·have hke:k=pl.length:=by dsimp only at g;omega
  subst hke
  refine st2 hS2 rfl λw3 hS3 c3=>hS3.rI (n:=0) rfl (hS3.rI (n:=1) rfl ?_)
  have:=hR w3 (c3.below b02 (Nat.le_refl _))
  have e:(fcP pl).all=(0,0):=Fc.all_ok _ h0
  rwa[e]at this
 have hkl:k<pl.length:=by dsimp only at g;omega
 have hix:=zH hkl
 have eOp:(ix pl k).1=pl[k].1:=by rw[hix]
 refine Z8 h7 b2 hkl λt hI=>?_
 refine box4 rfl λw7 hI7 b7 z7=>?_
 have hI7:Blk w7 w2.heap.size 44 (inV (mkIn pl[k] t)):=hI7
 have b27:=b2.on b7
 refine hI7.rI0 (x:=pl[k].1) rfl ?_
 refine zqt (cb:=cb) λw8 s hs b8=>⟨s,rfl,?_⟩
 rw[<-eOp]at hs
 have b28:=b27.on b8
 have hsl:=hs.len
 refine zl.count (Zm (ix pl k).1).length hs.bound (λj w'=>Below w8.heap.size w8 w'/\∀i (hi:i<(Zm (ix pl k).1).length),i<j->(fcP pl).okO k (Zm (ix pl k).1)[i]=true) ⟨Below.refl _ _,λi _ h=>by omega⟩ ?_
 rintro j w9 hj ⟨b9,hy⟩ next2 hnext2
 have b29:=b28.on b9
 have b09:=b1.on b29
 refine zj (λg2=>?_) (λg2=>?_)
 rotate_left
 ·have hje:j=(Zm (ix pl k).1).length:=by dsimp only at g2;omega
  subst hje
  refine hnext w9 hkl ⟨b29,λi hi=>?_⟩
  by_cases e:i=k
  ·subst e
   exact Fc.err_ok (F:=fcP pl) λi hi=>hy i hi hi
  ·exact h0 i (by omega)
 have hjl:j<(Zm (ix pl k).1).length:=by dsimp only at g2;omega
 have hs9:=IsC.below (ziP cb) hs b9
 obtain⟨a,ha⟩:=hs9.base hjl
 have c0:=hs9.cell a ha j hjl 0 (by decide)
 have c1:=hs9.cell a ha j hjl 1 (by decide)
 refine⟨⟨by omega,by omega⟩,ze ha ⟨_,by rw[zn];exact c0,errO (Zm (ix pl k).1)[j],by rw[zn];exact c1,?_⟩⟩
 refine zm λw10 hU10 b10 z10=>zuI rfl ?_
 have hU10:Blk w10 w9.heap.size 128 [.nilFunc,.int .i64 0]:=hU10
 refine st2 hU10 rfl λw12 hU12 c12=>?_
 have b12:Below w9.heap.size w9 w12:=c12.below b10 (Nat.le_refl _)
 refine⟨_,hU12.cell0 rfl,?_⟩
 have b212:=b29.on b12
 refine zuQ (h.below (b1.on b212)) hF hkl (List.getElem_mem hjl) λw13 b13=>⟨_,rfl,?_⟩
 have b213:=b212.on b13
 refine zI (zz (λe=>?_) (λe=>?_))
 ·refine hnext2 w13 hjl ⟨(b9.on b12).on b13,λi hi hij=>?_⟩
  by_cases q:i=j
  ·subst q;exact e
  ·exact hy i hi (by omega)
 ·refine(hU12.below b13).rI (n:=1) (x:=errO (Zm (ix pl k).1)[j]) rfl ?_
  have hS13:=hS1.below b213
  refine st2 hS13 rfl λw15 hS15 c15=>hS15.rI (n:=0) rfl (hS15.rI (n:=1) rfl ?_)
  have:=hR w15 (c15.below (b1.on b213) (Nat.le_refl _))
  have he:=Fc.err_of (F:=fcP pl) hjl (λi hi hij=>hy i hi hij) e
  have ea:(fcP pl).all=((fcP pl).err k,(k:Int)):=Fc.all_at _ hkl (by rw[he];exact zu5 _) h0
  rw[ea,he]at this
  exact this
end
end Go.Proofs
namespace Go.Proofs
open Go.Gk Go.RowKit Go.Gm
abbrev slN:Sl:=⟨none,0,0⟩
structure Dg (wb w0 w:World) (rd:Nat) (A:Int->List PI):Prop where
 fr:Fr w0.heap.size (λk=>k=rd) w0 w
 base:Below wb.heap.size wb w
 lo:rd<w0.heap.size
 ge:wb.heap.size<=rd
 ex:∃M:List (Int×Sl),IsMg (α:=Sl) w rd (Value.int .u32) BK.slice.v M/\
  (∀id,∃hs:List Ins,hs.length=(A id).length/\Own w 44 4 ((zF M id).getD slN) (flat inV hs)/\zK w0.heap.size ((zF M id).getD slN)/\∀(j:Nat) (h:j<hs.length) (h':j<(A id).length),∃t,hs[j]=mkIn (A id)[j] t/\IsAg wb t ((A id)[j]).2.2.2)/\
  ∀i i' b,i≠i'->((zF M i).getD slN).a=some (Gk.blk b)->((zF M i').getD slN).a≠some (Gk.blk b)
section
variable {wb w0 w w':World} {rd:Nat} {A:Int->List PI}
theorem Dg.below(h:Dg wb w0 w rd A)(hb:Below w.heap.size w w'):Dg wb w0 w' rd A:=by
 obtain⟨M,h1,h2,h3⟩:=h.ex
 have hs:=h.fr.size
 refine⟨h.fr.trans ((Fr.of_below hb).mono hs λ_ _ q=>q),h.base.on hb,h.lo,h.ge,M,h1.below hb,λid=>?_,h3⟩
 obtain⟨hs,g1,g2,g3,g4⟩:=h2 id
 exact⟨hs,g1,g2.below hb,g3,g4⟩
theorem Dg.isDc(h:Dg wb w0 w rd A){F:Fc}(hA:∀id,A id=F.dec id)(hk:∀c,w0.heap.size<=c\/c=rd->c<w.heap.size->w'.heap[c]? =w.heap[c]?)(hb:Below wb.heap.size wb w'):IsDc w' rd F:=by
 obtain⟨M,h1,h2,h3⟩:=h.ex
 refine⟨M,h1.of_block (hk rd (.inr rfl) h1.lt),λid=>?_⟩
 obtain⟨hs,g1,g2,g3,g4⟩:=h2 id
 rw[<-hA]
 have g2':Own w' 44 4 ((zF M id).getD slN) (flat inV hs):=g2.of_block λa ha=>hk _ (.inl (g3 a ha)) (g2.lt ha).2
 have hc:IsC 4 inV w' ((zF M id).getD slN) hs:=Own.isC znt (by omega) g2'
 refine⟨by rw[hc.len,g1],hc.cap,hc.max,hc.nil,λa ha k hk=>?_⟩
 obtain⟨t,e,h5⟩:=g4 k (by omega) hk
 refine⟨t,λj hj=>?_,IsC.below zG h5 hb⟩
 rw[<-e]
 exact hc.cell a ha k (by omega) j hj
theorem Dg.app(h:Dg wb w0 w rd A){p:PI}{t:Sl}(hI:IsAg wb t p.2.2.2){id:Int}(hlen:(A id).length<=1048576) :
  ∃s:Sl,(∀w1 φ,Below w.heap.size w w1->φ s->zax Tryz.prog 119 (.map (some rd)) (.int .u32 id) BK.slice w1 φ)/\
   ∀{w1:World} {b:Nat} (_:Below w.heap.size w w1) (_:Blk w1 b 44 (inV (mkIn p t))) {k:Sl->World->Prop}
    (_:∀r w2,Below w0.heap.size w1 w2->(∀c,c<w1.heap.size->(c<w0.heap.size\/w.heap.size<=c)->w2.heap[c]? =w1.heap[c]?)->
     (∀{K:World->Prop},(∀w3,Dg wb w0 w3 rd (λi=>if i=id then A id++[p] else A i)->K w3)->updW Tryz.prog 119 (.map (some rd)) (.int .u32 id) (.slice r.a r.l r.c) w2 K)->k r w2),
    zA Tryz.prog 23 (.slice s.a s.l s.c) (.slice (some (Gk.blk b)) 1 1) w1 k:=by
 obtain⟨M,h1,h2,h3⟩:=h.ex
 obtain⟨hs,g1,g2,g3,g4⟩:=h2 id
 refine⟨(zF M id).getD slN,λw1 φ hb hφ=>ze6 (β:=BK.slice) (zdL .u32) uDc zue zDc (h1.below hb) rfl hφ,?_⟩
 generalize hS:(zF M id).getD slN=S at g2 g3⊢
 intro w1 b hb hB k hk
 have h1w:=h1.below hb
 have hsz:=hb.size
 have hs0:=h.fr.size
 have hSl:S.l=hs.length:=by have:=g2.1;rw[zP znt]at this;omega
 have hlo:=h.lo
 refine zgM zvo (g2.below hb) (vs:=inV (mkIn p t)) rfl (λu hu=>?_) hB (by omega) (by omega) λr w2 b' hO ha hb' hbel hkeep=>?_
 ·simp only[List.mem_cons,List.not_mem_nil,or_false]at hu
  rcases hu with rfl |rfl |rfl |rfl<;>rfl
 have old:∀{i:Nat},((zF M i).getD slN).a=some (Gk.blk b')->b'<w.heap.size:=λ{i} e=>by
  obtain⟨_,_,q2,_⟩:=h2 i
  exact(q2.lt e).2
 have hSb:S.a=some (Gk.blk b')->b'<w.heap.size/\w0.heap.size<=b':=λe=>⟨(g2.lt e).2,g3 _ e⟩
 have hge:w0.heap.size<=b':=by
  rcases hb' with e |e
  ·exact(hSb e).2
  ·omega
 have nrd:b'≠rd:=by omega
 refine hk r w2 (hbel _ hge (by omega)) (λc hc hc2=>hkeep c hc λe=>?_) λ{K} hK=>?_
 ·subst e
  rcases hb' with e |e
  ·have:=hSb e;omega
  ·omega
 have hM2:IsMg (α:=Sl) w2 rd (Value.int .u32) BK.slice.v M:=h1w.of_block (hkeep rd h1w.lt λe=>nrd e.symm)
 refine zdA (α:=Sl) (v:=r) (zdL .u32) uDc zue hM2 rfl rfl λw3 hM3 c3=>hK w3 ?_
 have keepO:∀i,i≠id->∀a,((zF M i).getD slN).a=some a->a.block<w.heap.size->w3.heap[a.block]? =w.heap[a.block]?:=λi hi a ea hlt=>by
  obtain⟨_,_,q2,q3,_⟩:=h2 i
  have q4:=q3 a ea
  have eb:=(q2.lt ea).1
  refine(c3.block _ (by omega)).trans ((hkeep _ (by omega) λe=>?_).trans (hb.block _ hlt))
  rcases hb' with e2 |e2
  ·rw[<-e]at e2
   exact h3 id i a.block (λq=>hi q.symm) (by rw[hS];exact e2) (by rw[ea,<-eb])
  ·omega
 refine⟨⟨?_,?_,?_,?_,?_⟩,?_,hlo,h.ge,_,hM3,λi=>?_,λi i' c hi e1 e2=>?_⟩
 ·have:=hbel 0 (Nat.zero_le _) (Nat.zero_le _)
  exact(c3.os.trans this.os).trans (hb.os.trans h.fr.os)
 ·have:=hbel 0 (Nat.zero_le _) (Nat.zero_le _)
  exact(c3.tape.trans this.tape).trans (hb.tape.trans h.fr.tape)
 ·have:=hbel 0 (Nat.zero_le _) (Nat.zero_le _)
  exact(c3.output.trans this.output).trans (hb.output.trans h.fr.output)
 ·have:=hbel 0 (Nat.zero_le _) (Nat.zero_le _)
  rw[c3.size]
  exact Nat.le_trans hs0 (Nat.le_trans hsz this.size)
 ·intro c hc hne
  exact(c3.block c hne).trans ((hkeep c (by omega) (by omega)).trans ((hb.block c (by omega)).trans (h.fr.block c hc hne)))
 ·have hgr:=h.ge
  exact c3.below ((h.base.on hb).trans (hbel _ (by omega) (by omega))) hgr
 ·rw[Y5]
  by_cases e:i=id
  ·rw[if_pos e,if_pos e]
   refine⟨hs++[mkIn p t],by rw[List.length_append,List.length_append,g1];rfl,?_,λa h5=>?_,λj q1 q2=>?_⟩
   ·have:flat inV (hs++[mkIn p t])=flat inV hs++inV (mkIn p t):=by simp[flat]
    rw[this]
    exact hO.of_block λa h5=>c3.block _ λq=>by
     have h5:r.a=some a:=h5
     rw[ha]at h5
     cases h5
     exact nrd q
   ·have h5:r.a=some a:=h5
    rw[ha]at h5
    cases h5
    exact hge
   ·by_cases hj:j<hs.length
    ·obtain⟨u,q3,q4⟩:=g4 j hj (by omega)
     exact⟨u,by rw[List.getElem_append_left hj,q3,List.getElem_append_left],by rw[List.getElem_append_left (by omega)];exact q4⟩
    ·rw[List.length_append,List.length_singleton]at q1
     have hj:j=hs.length:=by omega
     subst hj
     exact⟨t,by simp[g1],by simp[g1];exact hI⟩
  ·rw[if_neg e,if_neg e]
   obtain⟨hs',q1,q2,q3,q4⟩:=h2 i
   exact⟨hs',q1,q2.of_block λa ea=>keepO i e a ea (q2.lt ea).2,q3,q4⟩
 ·rw[Y5]at e1 e2
  have clash:∀i,i≠id->((zF M i).getD slN).a=some (Gk.blk b')->False:=λi hi e=>by
   rcases hb' with q |q
   ·exact h3 id i b' (λq=>hi q.symm) (by rw[hS];exact q) e
   ·obtain⟨_,_,q2,_⟩:=h2 i
    have:=(q2.lt e).2
    have:b'<w.heap.size:=this
    omega
  by_cases q:i=id
  ·rw[if_pos q]at e1
   have q':i'≠id:=λz=>hi (by rw[q,z])
   rw[if_neg q']at e2
   have e1:r.a=some (Gk.blk c):=e1
   rw[ha]at e1
   injection e1 with e1
   injection e1 with e1
   subst e1
   exact clash i' q' e2
  ·rw[if_neg q]at e1
   by_cases q':i'=id
   ·rw[if_pos q']at e2
    have e2:r.a=some (Gk.blk c):=e2
    rw[ha]at e2
    injection e2 with e2
    injection e2 with e2
    subst e2
    exact clash i q e1
   ·rw[if_neg q']at e2
    exact h3 i i' c hi e1 e2
end
theorem Fns.chgMap{w w':World}{fs:Sl}{L:List Fe}{rd:Nat}{M:List (Int×Sl)}(h:Fns w fs L)(hM:IsMg (α:=Sl) w rd (Value.int .u32) BK.slice.v M)(hk:∀c,c<w.heap.size->c≠rd->w'.heap[c]? =w.heap[c]?):Fns w' fs L:=by
 have nb:∀{T:TypeId} {sz:Nat} {s:Sl} {xs:List Value},Own w T sz s xs->Own w' T sz s xs:=λ{T sz s xs} ho=>ho.of_block λa ha=>hk _ (ho.lt ha).2 λe=>by
  obtain⟨cs,hc⟩:=ho.type ha
  rw[e]at hc
  exact hM.notBlk hc rfl
 exact⟨nb h.own,λx hx=>⟨nb (h.row x hx).1,nb (h.row x hx).2⟩⟩
def gaT(pl:List PI)(k:Nat)(id:Int):List PI:=(pl.take k).filter λp=>p.1==71&&arN p 0==id
theorem zoE{pl:List PI}{k:Nat}(hk:k<pl.length)(id:Int):gaT pl (k+1) id=if pl[k].1=71/\arN pl[k] 0=id then gaT pl k id++[pl[k]] else gaT pl k id:=by
 unfold gaT
 rw[List.take_succ_eq_append_getElem hk,List.filter_append]
 by_cases h:pl[k].1=71/\arN pl[k] 0=id
 ·rw[if_pos h]
  simp[h.1,h.2]
 ·rw[if_neg h]
  have:(pl[k].1==71&&arN pl[k] 0==id)=false:=by
   rw[Bool.and_eq_false_iff,beq_eq_false_iff_ne,beq_eq_false_iff_ne]
   by_cases q:pl[k].1=71
   ·exact .inr λz=>h ⟨q,z⟩
   ·exact .inl q
  simp[this]
section
variable {x:Mo} {pl:List PI} {w:World} {R:VWP}
theorem zr7{w0:World}{B pb:Nat}{T:TyL}{C:CnL}{V:VnL}(h:IsPo w0 B pb T C V):∃tb,IsTb w0 B tb T/\∀{u:World} {R:VWP},Below w0.heap.size w0 u->R (.pointer (some (Gk.blk tb))) u->cR 15 #[.pointer (some (Gk.blk pb))] u R:=by
 obtain⟨⟨tb,rc,rv,o1,o2,h1,h2,_⟩,_⟩:=h
 exact⟨tb,h2,λ{u R} hb hR=>za.of (zej _ R u (zJ rfl (ze rfl ⟨_,(h1.below hb).cell0 rfl,hR⟩))) λ_ _ h=>h⟩
end
end Go.Proofs
namespace Go.Proofs
open Go.Gk Go.RowKit Go.Gm
section
variable {x:Mo} {pl:List PI} {w:World} {R:VWP}
set_option maxHeartbeats 8000000 in
theorem znG(hN:IsPl w x.2.2.1 pl)(hp:PlOk pl)(h0:0<=x.2.1)(ht:Tab w)
  (hbad:∀w' e a,(e,a)=facE x.2.1 pl->e≠0->Below w.heap.size w w'->R (.tuple #[.pointer none,.agg #[.int .i64 e,.int .i64 a]]) w')
  (hok:∀w' B cb,CnOk x.2.1 pl->cnwE x.2.1 pl=(0,0)->FcOk x.2.1 pl->Below w.heap.size w w'->IsCk w' B cb pl->R (.tuple #[.pointer (some (blk cb)),.agg #[.int .i64 0,.int .i64 0]]) w') :
  cR 29 #[moA x] w R:=by
 refine za.of (zh9 x R w ?_) λ_ _ h=>h
 refine zm λw1 hB1 b1 z1=>?_
 have hB1:Blk w1 w.heap.size 25 (moV x):=hB1
 refine zm λw2 hS2 b2 z2=>?_
 have hS2:Blk w2 w1.heap.size 29 [.int .i64 0,.int .i64 0]:=hS2
 have b02:=b1.on b2
 have hB2:=hB1.below b2
 have bad:∀{w':World} (e a:Int),Blk w' w1.heap.size 29 [.int .i64 0,.int .i64 0]->Below w.heap.size w w'->(e,a)=facE x.2.1 pl->e≠0->
   Wr w' (blk w1.heap.size)/\Nw (w'.setCell (blk w1.heap.size) (.int .i64 e)) λw7=>Wr w7 ((blk w1.heap.size).add 1)/\Nw (w7.setCell ((blk w1.heap.size).add 1) (.int .i64 a)) λw8=>ldI w8 ((blk w1.heap.size).add 0) .i64 λx10=>ldI w8 ((blk w1.heap.size).add 1) .i64 λx11=>
    R (.tuple #[.pointer none,.agg #[.int .i64 x10,.int .i64 x11]]) w8:=λ{w'} e a hS hb he hne=>
  st2 hS rfl λw9 hS9 c9=>Sp.load hS9 (hbad w9 e a he hne (c9.below hb (by omega)))
 refine Mo.load hB2 ?_
 refine zrS (x:=x) (hN.below b02) hp h0 (ht.below b02) (λhc w3 b3=>?_) (λhC w3 pb b3 hPo=>?_)
 ·refine⟨none,((conE x.2.1 pl).1,(conE x.2.1 pl).2,()),rfl,box2 rfl λw6 hS6 b6 z6=>hS6.rI0 (x:=(conE x.2.1 pl).1) rfl (zy (λ_=>?_) (λq=>absurd q hc))⟩
  refine Sp.load hS6.drew (bad _ _ ((hS2.below (b3.on b6)).drew) ((b02.on (b3.on b6)).drew) ?_ hc)
  rw[zo3 hc]
 have hC:CnOk x.2.1 pl:=hC
 refine⟨some (blk pb),(0,0,()),rfl,box2 rfl λw6 hS6 b6 z6=>hS6.rI0 (x:=0) rfl (zy (λq=>absurd rfl q) (λ_=>?_))⟩
 have b26:=b3.on b6
 have b06:=b02.on b26
 have hB6:=hB2.below b26
 have hc0:(conE x.2.1 pl).1=0:=by rw[zi1 (by rw[zgQ hC.ty.chk hC.ty.no]) hC.no]
 refine Mo.load hB6 ?_
 refine zr6 (x:=x) (hN.below b06) hp h0 (λw9 hc b9=>?_) (λw9 rc hcw b9 hcl hnr hKp=>?_)
 ·refine⟨none,((cnwE x.2.1 pl).1,(cnwE x.2.1 pl).2,()),rfl,st2 (hS6.below b9) rfl λw11 hS11 c11=>hS11.rI0 (x:=(cnwE x.2.1 pl).1) rfl (zy (λ_=>?_) (λq=>absurd q hc))⟩
  have b211:Below w2.heap.size w2 w11:=c11.below (b26.on b9) b3.size
  refine Sp.load hS11.drew (bad _ _ ((hS2.below b211).drew) ((b02.on b211).drew) ?_ hc)
  rw[zo2 hc0 hc]
 have s23:=b3.size
 have s36:=b6.size
 have s69:=b9.size
 have s01:=b1.size
 refine⟨some (blk rc),(0,0,()),rfl,st2 (hS6.below b9) rfl λw11 hS11 c11=>hS11.rI0 (x:=0) rfl (zy (λq=>absurd rfl q) (λ_=>?_))⟩
 have b211:Below w2.heap.size w2 w11:=c11.below (b26.on b9) s23
 have b311:Below w3.heap.size w3 w11:=c11.below (b6.on b9) (Nat.le_refl _)
 have b011:=b02.on b211
 have z11:w11.heap.size=w9.heap.size:=c11.size
 have hPo11:=hPo.below b311
 have hCl11:IsCl w11 rc (yW (rowsC pl)):=hKp w11 λk q1 q2=>c11.block k (by omega)
 have hB11:=hB2.below b211
 have hS211:=hS2.below b211
 have hF:FcOk x.2.1 pl:=⟨hC,hp,h0,by rw[za5];exact hcl⟩
 obtain⟨tb,hTb,hTy⟩:=zr7 hPo11
 have bd:=b011.drew
 have hB11d:=hB11.drew
 have cx2:∀{w':World},Below w11.heap.size w11 w'->w'.cell? ((blk w.heap.size).add 2)=some (.slice x.2.2.1.a x.2.2.1.l x.2.2.1.c):=λ{w'} hb=>(hB11.below hb).cell (n:=2) rfl
 have rdr:Below w11.heap.size w11 w11.drew:=(Below.refl _ _).drew
 refine zo.cut (λ(q:Option Addr×Unit) w'=>∃cb rd,q.1=some (blk cb)/\Below w11.heap.size w11 w'/\w11.heap.size<=rd/\rd<w'.heap.size/\w11.heap.size<=cb/\IsMg (α:=Sl) w' rd (Value.int .u32) BK.slice.v []/\
   Blk w' cb 121 [.pointer (some (blk pb)),.pointer (some (blk tb)),.pointer (some (blk rc)),.slice none 0 0,.slice x.2.2.1.a x.2.2.1.l x.2.2.1.c,.map (some rd)]) ?_ ?_
 ·refine hB11d.rS (n:=2) (x:=x.2.2.1) rfl ⟨?_,?_⟩
  ·refine hTy rdr ⟨some (blk tb),rfl,cx2 rdr,zqd (kv:=Value.int .u32) (f:=BK.slice.v) λw15 hM b15 z15=>⟨cx2 (rdr.on b15),zm λw16 hK b16 z16=>?_⟩⟩
   exact⟨_,_,rfl,(rdr.on b15).on b16,Nat.le_refl _,by have:w11.drew.heap.size=w11.heap.size:=rfl;omega,by have:w11.drew.heap.size=w11.heap.size:=rfl;omega,hM.below b16,hK⟩
  ·refine zqd (kv:=Value.int .u32) (f:=BK.slice.v) λw17 hM b17 z17=>⟨cx2 (rdr.on b17),hTy (rdr.on b17) ⟨some (blk tb),rfl,cx2 (rdr.on b17),zm λw19 hK b19 z19=>?_⟩⟩
   exact⟨_,_,rfl,(rdr.on b17).on b19,Nat.le_refl _,by have:w11.drew.heap.size=w11.heap.size:=rfl;omega,by have:w11.drew.heap.size=w11.heap.size:=rfl;omega,hM.below b19,hK⟩
 rintro⟨_,_⟩ w20 ⟨cb,rd,rfl,b20,q1,q2,q3,hM20,hK20⟩
 dsimp only
 have b020:=b011.on b20
 have hB20:=hB11.below b20
 refine Mo.load hB20 ?_
 refine znO (x:=x) (hN.below b020) hp (λfs L w21 _ b21 hL hLc=>⟨fs,(0,0,()),rfl,?_⟩) (λw21 hne _=>absurd hF.lay hne)
 have hK21:=hK20.below b21
 have hM21:=hM20.below b21
 have b1121:=b20.on b21
 have hcr:cb≠rd:=λe=>hM21.notBlk hK21 e.symm
 refine ze rfl ⟨hK21.wr (n:=3) (by show 3<6;decide),Nw.gen λw22 e22=>?_⟩
 have c22:Chg cb w21 w22:=by rw[e22];exact Chg.set _ _ _ _
 have hK22:Blk w22 cb 121 [.pointer (some (blk pb)),.pointer (some (blk tb)),.pointer (some (blk rc)),.slice fs.a fs.l fs.c,.slice x.2.2.1.a x.2.2.1.l x.2.2.1.c,.map (some rd)]:=by rw[e22];exact hK21.set 3 _
 have hM22:=hM21.of_block (c22.block rd λe=>hcr e.symm)
 have hL22:Fns w22 fs L:=hL.chg c22 hK21 (by decide) (by decide) (by decide)
 have b1122:Below w11.heap.size w11 w22:=c22.below b1121 q3
 have b022:=b011.on b1122
 have z22:w22.heap.size=w21.heap.size:=c22.size
 have s21:=b21.size
 have s011:=b011.size
 have hB22:=hB11.below b1122
 refine hB22.rS (n:=2) (x:=x.2.2.1) rfl ?_
 have D0:Dg w w22 w22 rd (gaT pl 0):=⟨Fr.refl _ _ _,b022,by omega,by omega,[],hM22,λid=>⟨[],rfl,Own.nil _ _ _,(λa ha=>by cases ha),λj q=>absurd q (Nat.not_lt_zero j)⟩,λi i' b _ e=>by cases e⟩
 have hNl:=hN.len
 have hlen:=zpY hF.shape
 refine zl.count pl.length hN.bound (λk w'=>Dg w w22 w' rd (gaT pl k)) D0 ?_
 rintro k w23 hk D next hnext
 have b023:=D.base
 have kp:∀{c:Nat},c<w22.heap.size->c≠rd->w23.heap[c]? =w22.heap[c]?:=λh1 h2=>D.fr.block _ h1 h2
 have b1123:Below w11.heap.size w11 w23:=⟨D.fr.os.trans b1122.os,D.fr.tape.trans b1122.tape,D.fr.output.trans b1122.output,Nat.le_trans b1122.size D.fr.size,λc hc=>(kp (by have:=b1122.size;omega) (by omega)).trans (b1122.block c hc)⟩
 have hK23:=hK22.of_block (kp hK22.lt hcr)
 refine zj (λg=>?_) (λg=>?_)
 rotate_left
 ·have hke:k=pl.length:=by dsimp only at g;omega
  subst hke
  have dr:Below w23.heap.size w23 w23.drew:=(Below.refl _ _).drew
  refine Sp.load (hS11.below b1123).drew ?_
  refine st2 (hS211.below b1123).drew rfl λw37 hS37 c37=>Sp.load hS37 ?_
  have b0d:=b023.on dr
  have bw:Below w11.heap.size w11 w23.drew:=b1123.on dr
  have b2z:w2.heap.size<=w11.heap.size:=b211.size
  have hz1:w1.heap.size<w11.heap.size:=by omega
  have b37:Below w.heap.size w w37:=c37.below b0d (by omega)
  have keep37:∀c,c≠w1.heap.size->w37.heap[c]? =w23.heap[c]?:=λc hc=>c37.block c hc
  obtain⟨M,g1,g2,g3⟩:=D.ex
  have hL23:Fns w23 fs L:=by
   obtain⟨M0,gg,_⟩:=D0.ex
   exact hL22.chgMap gg λc h1 h2=>kp h1 h2
  have s1123:=b1123.size
  have e37:∀c,c≠w1.heap.size->c<w11.heap.size->w37.heap[c]? =w11.heap[c]?:=λc h1 h2=>(keep37 c h1).trans (b1123.block c h2)
  have s37:w37.heap.size=w23.heap.size:=c37.size
  refine hok w37 w2.heap.size cb hC hcw hF b37 ⟨pb,tb,rc,rd,fs,x.2.2.1,L,c37.blk hK23.drew (by omega),hPo11.keep (λc h1 h2=>e37 c (by omega) h2) (by omega),hTb.keep (λc h1 h2=>e37 c (by omega) h2),?_,(hL23.below dr).chg c37 (hS211.below b1123).drew (by decide) (by decide) (by decide),hLc,hN.below b37,?_⟩
  ·exact hKp w37 λc h1 h2=>(e37 c (by omega) (by omega)).trans (c11.block c (by omega))
  ·refine D.isDc (λid=>?_) (λc h1 h2=>keep37 c (by omega)) b37
   unfold gaT
   rw[List.take_length]
   rfl
 have hkl:k<pl.length:=by dsimp only at g;omega
 have hix:=zH hkl
 refine zo.cut (λ(_:Unit) w'=>Dg w w22 w' rd (gaT pl (k+1))) ?_ ?_
 rotate_left
 ·rintro _ w35 D35
  exact hnext w35 hkl D35
 refine Z8 hN b023 hkl λt hI=>?_
 refine box4 rfl λw28 hI28 b28 z28=>?_
 have hI28:Blk w28 w23.heap.size 44 (inV (mkIn pl[k] t)):=hI28
 have D28:=D.below b28
 refine hI28.rI0 (x:=pl[k].1) rfl (zk (λe=>?_) (λe=>?_))
 rotate_left
 ·have:gaT pl (k+1)=gaT pl k:=funext λid=>by rw[zoE hkl,if_neg (λz=>e z.1)]
  rw[this]
  exact D28
 have h2l:2<=pl[k].2.2.2.length:=by have:=Yk hF.shape hkl (by rw[hix];exact e) zgG;rwa[hix]at this
 have bd28:=b28.drew
 have b028:Below w.heap.size w w28.drew:=b023.on bd28
 obtain⟨a,ha⟩:=hI.base (i:=0) (by omega)
 obtain⟨A0,hA0⟩:∃A0,A0=(pl[k].2.2.2[0]'(by omega)).2.1:=⟨_,rfl⟩
 have cA:∀{u:World},Below w28.heap.size w28 u->u.cell? ((a.add (0*3)).add 1)=some (.int .u32 A0):=λ{u} hb=>by
  rw[zn,hA0]
  exact(IsC.below zG hI ((b023.on b28).on hb)).cell a ha 0 (by omega) 1 (by decide)
 have hK28:=hK23.below b28
 have htl:=hI.len
 have s23:=b28.size
 have s2223:=D.fr.size
 have hgl:(gaT pl k A0).length<=1048576:=by
  have h1:=List.length_filter_le (λp=>p.1==71&&arN p 0==A0) (pl.take k)
  have h2:(pl.take k).length<=pl.length:=by rw[List.length_take];omega
  unfold gaT
  omega
 obtain⟨S,hlook,happ⟩:=D.app hI (id:=A0) hgl
 have hAg:gaT pl (k+1)=λi=>if i=A0 then gaT pl k A0++[pl[k]] else gaT pl k i:=funext λi=>by
  have e1:arN pl[k] 0=A0:=by unfold arN;rw[hA0,zp (by omega)]
  rw[zoE hkl,e1]
  by_cases q:i=A0
  ·rw[if_pos ⟨e,q.symm⟩,if_pos q,q]
  ·rw[if_neg (λz=>q z.2.symm),if_neg q]
 have dr:Below w28.heap.size w28 w28.drew:=(Below.refl _ _).drew
 have tail:∀{u:World} {b:Nat} {K:World->Prop},Below w28.heap.size w28 u->Blk u b 44 (inV (mkIn pl[k] t))->(∀w',Dg w w22 w' rd (gaT pl (k+1))->K w')->
   zA Tryz.prog 23 (.slice S.a S.l S.c) (.slice (some (blk b)) 1 1) u λr w30=>w30.cell? ((a.add (0*3)).add 1)=some (.int .u32 A0)/\w30.cell? ((blk w23.heap.size).add 3)=some (.slice t.a t.l t.c)/\w30.cell? ((blk cb).add 5)=some (.map (some rd))/\
    updW Tryz.prog 119 (.map (some rd)) (.int .u32 A0) (.slice r.a r.l r.c) w30 K:=λ{u b K} hb hB hK=>by
  have b23u:=b28.on hb
  refine happ b23u hB λr w30 f1 f2 f3=>?_
  have su:=hb.size
  have bwu:Below w.heap.size w w30:=(b023.on b23u).trans (f1.mono (by omega))
  have hI30:Blk w30 w23.heap.size 44 (inV (mkIn pl[k] t)):=(hI28.below hb).of_block (f2 _ (hI28.below hb).lt (.inr (Nat.le_refl _)))
  have hK30:=(hK28.below hb).of_block (f2 cb (hK28.below hb).lt (.inl hK22.lt))
  refine⟨?_,hI30.cell (n:=3) rfl,hK30.cell (n:=5) rfl,f3 λw3 h3=>hK w3 (by rw[hAg];exact h3)⟩
  rw[zn,hA0]
  exact(IsC.below zG hI bwu).cell a ha 0 (by omega) 1 (by decide)
 have hKd:=hK28.drew
 have hId:=hI28.drew
 refine ze rfl ⟨some rd,hKd.cell (n:=5) rfl,hId.rS (n:=3) (x:=t) rfl ⟨⟨by decide,by omega⟩,ze ha ⟨A0,cA dr,?_⟩⟩⟩
 refine ze rfl ⟨some rd,hKd.cell (n:=5) rfl,hId.rS (n:=3) (x:=t) rfl ⟨⟨by decide,by omega⟩,ze ha ⟨A0,cA dr,?_⟩⟩⟩
 refine hId.rI (n:=0) (x:=pl[k].1) rfl (hId.rI (n:=1) (x:=pl[k].2.1) rfl (hId.rI (n:=2) (x:=pl[k].2.2.1) rfl (hId.rS (n:=3) (x:=t) rfl ⟨?_,?_⟩)))
 ·refine hlook w28.drew _ bd28 ⟨hId.cell (n:=0) rfl,hId.cell (n:=1) rfl,hId.cell (n:=2) rfl,hId.cell (n:=3) rfl,cA dr,hId.cell (n:=3) rfl,hKd.cell (n:=5) rfl,?_⟩
  refine zm λw29 hB29 b29 z29=>?_
  have b2829:=dr.on b29
  exact⟨cA b2829,(hI28.below b2829).cell (n:=3) rfl,(hK28.below b2829).cell (n:=5) rfl,tail b2829 hB29 λw' h'=>h'⟩
 ·refine zm λw32 hB32 b32 z32=>?_
  have b2832:=dr.on b32
  have hI32:=hI28.below b2832
  have hK32:=hK28.below b2832
  refine⟨cA b2832,hI32.cell (n:=3) rfl,hK32.cell (n:=5) rfl,cA b2832,hI32.cell (n:=3) rfl,hK32.cell (n:=5) rfl,?_⟩
  exact hlook w32 _ (b28.on b2832) ⟨cA b2832,hI32.cell (n:=3) rfl,hK32.cell (n:=5) rfl,tail b2832 hB32 λw' h'=>h'⟩
end
end Go.Proofs
namespace Go.Proofs
open Go.Gk Go.RowKit Go.Gm
theorem zvZ:Yq Tryz.prog 26 47 5 72:=⟨by kernel_rfl,Tryz.t47,.agg #[.string ⟨#[]⟩,.int .u32 0,.int .u32 0,.slice none 0 0,.slice none 0 0],by kernel_rfl,rfl,rfl,rfl,rfl⟩
structure FaO (w:World) (x:Fw) (f:Fa):Prop where
 name:x.1=f.1
 model:x.2.1=f.2.1
 fn:x.2.2.1=f.2.2.1
 ins:Own w 52 6 x.2.2.2.1 (flat poV f.2.2.2.1)
 outs:Own w 52 6 x.2.2.2.2.1 (flat poV f.2.2.2.2)
theorem FaO.faR{w:World}{x:Fw}{f:Fa}(h:FaO w x f):FaR w x f:=⟨h.name,h.model,h.fn,Own.isC zM (by decide) h.ins,Own.isC zM (by decide) h.outs⟩
theorem FaO.below{w w':World}{x:Fw}{f:Fa}(h:FaO w x f)(hb:Below w.heap.size w w'):FaO w' x f:=⟨h.name,h.model,h.fn,h.ins.below hb,h.outs.below hb⟩
def entN(pl:List PI)(n:Nat):List Nat:=(List.range n).filter λk=>(ix pl k).1==15
theorem zjp(pl:List PI)(n:Nat):entN pl (n+1)=if (ix pl n).1=15 then entN pl n++[n] else entN pl n:=by
 unfold entN
 rw[List.range_succ,List.filter_append]
 by_cases h:(ix pl n).1=15
 ·rw[if_pos h,List.filter_cons,if_pos (beq_iff_eq.2 h)];rfl
 ·rw[if_neg h,List.filter_cons,if_neg (by rw[beq_iff_eq];exact h),List.filter_nil,List.append_nil]
theorem zu4(pl:List PI)(n:Nat):(entN pl n).length<=n:=by
 have:=List.length_filter_le (λk=>(ix pl k).1==15) (List.range n)
 rw[List.length_range]at this
 exact this
structure Ga (w0 w:World) (pl:List PI) (s:Sl) (n:Nat):Prop where
 below:Below w0.heap.size w0 w
 fr:zK w0.heap.size s
 ex:∃(hs:List Fw) (fs:List Fa),hs.length=fs.length/\fs.length=(entN pl n).length/\Own w 47 5 s (flat faV hs)/\(∀(i:Nat) (h:i<hs.length) (h':i<fs.length),FaO w hs[i] fs[i])/\
  ∀(i:Nat) (h:i<fs.length) (h':i<(entN pl n).length),FaOk (fcP pl) fs[i] (ix pl (entN pl n)[i])
section
variable {w0 w w':World} {pl:List PI} {s:Sl} {n:Nat}
theorem Ga.on(h:Ga w0 w pl s n)(hb:Below w.heap.size w w'):Ga w0 w' pl s n:=by
 obtain⟨hs,fs,h1,h2,h3,h4,h5⟩:=h.ex
 exact⟨h.below.on hb,h.fr,hs,fs,h1,h2,h3.below hb,λi q q'=>(h4 i q q').below hb,h5⟩
theorem Ga.push(h:Ga w0 w pl s n)(hn:n<=1048576)(e:(ix pl n).1=15){x:Fw}{f:Fa}(hx:FaO w x f)(hf:FaOk (fcP pl) f (ix pl n)){b:Nat}(hB:Blk w b 47 (faV x)){k:Sl->World->Prop}
  (hk:∀r w',Ga w0 w' pl r (n+1)->k r w'):zA Tryz.prog 26 (.slice s.a s.l s.c) (.slice (some (Gk.blk b)) 1 1) w k:=by
 obtain⟨hs,fs,h1,h2,h3,h4,h5⟩:=h.ex
 have hle:=zu4 pl n
 have hsl:s.l=hs.length:=by have:=h3.1;rw[zP zkq]at this;omega
 refine zj2 zvZ h3 h.below h.fr (vs:=faV x) rfl (λu hu=>by simp only[faV,List.mem_cons,List.not_mem_nil,or_false]at hu;rcases hu with rfl |rfl |rfl |rfl |rfl<;>rfl) hB (by omega) (by omega) λr w1 hO hb hF hz hkeep=>hk r w1 ⟨hb,hF,hs++[x],fs++[f],by rw[List.length_append,List.length_append,h1];rfl,?_,?_,λi q q'=>?_,λi q q'=>?_⟩
 ·rw[zjp,if_pos e,List.length_append,List.length_append,h2];rfl
 ·have:flat faV (hs++[x])=flat faV hs++faV x:=by simp[flat]
  rw[this];exact hO
 ·have mv:∀{y:Fw} {g:Fa},FaO w y g->FaO w1 y g:=λ{y g} hy=>⟨hy.name,hy.model,hy.fn,hy.ins.of_block λa ha=>hkeep _ (hy.ins.lt ha).2 (zfd h3 hy.ins (by decide) ha),hy.outs.of_block λa ha=>hkeep _ (hy.outs.lt ha).2 (zfd h3 hy.outs (by decide) ha)⟩
  by_cases hj:i<hs.length
  ·rw[List.getElem_append_left hj,List.getElem_append_left (by omega)]
   exact mv (h4 i hj (by omega))
  ·rw[List.length_append,List.length_singleton]at q
   have hj:i=hs.length:=by omega
   subst hj
   have e1:(hs++[x])[hs.length]=x:=by simp
   have e2:(fs++[f])[hs.length]=f:=by simp[h1]
   rw[e1,e2]
   exact mv hx
 ·have ee:entN pl (n+1)=entN pl n++[n]:=by rw[zjp,if_pos e]
  have eg:(entN pl (n+1))[i]=(entN pl n++[n])[i]'(by rw[<-ee];exact q'):=by congr 1
  rw[eg]
  by_cases hj:i<fs.length
  ·rw[List.getElem_append_left hj,List.getElem_append_left (by omega)]
   exact h5 i hj (by omega)
  ·rw[List.length_append,List.length_singleton]at q
   have hj:i=fs.length:=by omega
   subst hj
   have e1:(fs++[f])[fs.length]=f:=by simp
   have e2:(entN pl n++[n])[fs.length]'(by rw[List.length_append,List.length_singleton];omega)=n:=by simp[h2]
   rw[e1,e2]
   exact hf
end
structure FacL (pl:List PI) (fs:List Fa):Prop where
 len:fs.length=(entK pl).length
 ok:∀(i:Nat) (h:i<fs.length) (h':i<(entK pl).length),FaOk (fcP pl) fs[i] (ix pl (entK pl)[i])
theorem Ga.facs{w0 w:World}{pl:List PI}{s:Sl}(h:Ga w0 w pl s pl.length):∃fs,znT w s fs/\FacL pl fs:=by
 obtain⟨hs,fs,h1,h2,h3,h4,h5⟩:=h.ex
 exact⟨fs,⟨hs,Own.isC zkq (by decide) h3,h1,λi q q'=>(h4 i q q').faR⟩,h2,h5⟩
section
variable {x:Mo} {pl:List PI} {w:World} {R:VWP}
set_option maxHeartbeats 8000000 in
theorem zkX(hN:IsPl w x.2.2.1 pl)(hp:PlOk pl)(h0:0<=x.2.1)(ht:Tab w)
  (hbad:∀w' e a,(e,a)=facE x.2.1 pl->e≠0->Below w.heap.size w w'->R (.tuple #[.slice none 0 0,.agg #[.int .i64 e,.int .i64 a]]) w')
  (hok:∀w' s fs,facE x.2.1 pl=(0,0)->znQ x.2.1 pl->FacL pl fs->Below w.heap.size w w'->znT w' s fs->R (.tuple #[.slice s.a s.l s.c,.agg #[.int .i64 0,.int .i64 0]]) w') :
  cR 8 #[moA x] w R:=by
 refine za.of (zld x R w ?_) λ_ _ h=>h
 refine zm λw1 hB1 b1 z1=>?_
 have hB1:Blk w1 w.heap.size 25 (moV x):=hB1
 refine zm λw2 hS2 b2 z2=>?_
 have hS2:Blk w2 w1.heap.size 29 [.int .i64 0,.int .i64 0]:=hS2
 have b02:=b1.on b2
 have hB2:=hB1.below b2
 have s01:=b1.size
 have bad:∀{w':World} (e a:Int),Blk w' w1.heap.size 29 [.int .i64 0,.int .i64 0]->Below w.heap.size w w'->(e,a)=facE x.2.1 pl->e≠0->
   Wr w' (blk w1.heap.size)/\Nw (w'.setCell (blk w1.heap.size) (.int .i64 e)) λw7=>Wr w7 ((blk w1.heap.size).add 1)/\Nw (w7.setCell ((blk w1.heap.size).add 1) (.int .i64 a)) λw8=>ldI w8 ((blk w1.heap.size).add 0) .i64 λx10=>ldI w8 ((blk w1.heap.size).add 1) .i64 λx11=>
    R (.tuple #[.slice none 0 0,.agg #[.int .i64 x10,.int .i64 x11]]) w8:=λ{w'} e a hS hb he hne=>
  st2 hS rfl λw9 hS9 c9=>Sp.load hS9 (hbad w9 e a he hne (c9.below hb (by omega)))
 refine Mo.load hB2 ?_
 refine znG (x:=x) (hN.below b02) hp h0 (ht.below b02) (λw3 e a hea hne b3=>?_) (λw3 B cb hC hcw hF b3 hCk=>?_)
 ·refine⟨none,(e,a,()),rfl,box2 rfl λw6 hS6 b6 z6=>?_⟩
  refine zo.cut (λ(_:Unit) w'=>w6=w') (hS6.rI0 (x:=e) rfl (zk (λq=>absurd q hne) λ_=>rfl)) ?_
  rintro _ w10 rfl
  refine hS6.rI0 (x:=e) rfl (zy (λ_=>?_) (λq=>absurd q hne))
  exact Sp.load hS6.drew (bad _ _ ((hS2.below (b3.on b6)).drew) ((b02.on (b3.on b6)).drew) hea hne)
 refine⟨some (blk cb),(0,0,()),rfl,box2 rfl λw6 hS6 b6 z6=>?_⟩
 have b26:=b3.on b6
 have hc0:(conE x.2.1 pl).1=0:=by rw[zi1 (by rw[zgQ hC.ty.chk hC.ty.no]) hC.no]
 have hfe:facE x.2.1 pl=(fcP pl).all:=zi5 hc0 (by rw[hcw])
 have s23:=b3.size
 refine zo.cut (λ(_:Unit) w'=>Below w2.heap.size w2 w'/\w6.heap.size<=w'.heap.size/\IsCk w' B cb pl/\Blk w' w3.heap.size 29 [.int .i64 (fcP pl).all.1,.int .i64 (fcP pl).all.2]) ?_ ?_
 ·refine hS6.rI0 (x:=0) rfl (zk (λ_=>?_) (λq=>absurd rfl q))
  refine zmZ (hCk.below b6) hF λw7 b7=>⟨((fcP pl).all.1,(fcP pl).all.2,()),rfl,?_⟩
  refine st2 (hS6.below b7) rfl λw9 hS9 c9=>⟨c9.below (b26.on b7) s23,by rw[c9.size];exact b7.size,?_,hS9⟩
  exact hCk.below (c9.below (b6.on b7) (Nat.le_refl _))
 rintro _ w10 ⟨b210,z610,hCk10,hS10⟩
 have b010:=b02.on b210
 refine hS10.rI0 (x:=(fcP pl).all.1) rfl (zy (λq=>?_) (λq=>?_))
 ·exact Sp.load hS10.drew (bad _ _ ((hS2.below b210).drew) (b010.drew) hfe.symm q)
 have hz:facE x.2.1 pl=(0,0):=(zte hp h0 (by rw[hfe];exact q)).2
 have hFO:znQ x.2.1 pl:=(zte hp h0 (by rw[hfe];exact q)).1
 have hall:(fcP pl).all=(0,0):=by rw[<-hfe,hz]
 rw[hall]at hS10
 have hS10:Blk w10 w3.heap.size 29 [.int .i64 0,.int .i64 0]:=hS10
 refine(hB2.below b210).rS (n:=2) (x:=x.2.2.1) rfl ?_
 have hlen:=zpY hF.shape
 have hNl:=hN.len
 refine zl.ghost (λg (st:Sl×Int×Unit) w'=>∃(s:Sl) (k:Nat),st=(s,(k:Int),())/\k<=pl.length/\g=pl.length-k/\Ga w10 w' pl s k) pl.length ⟨⟨none,0,0⟩,0,rfl,Nat.zero_le _,rfl,Below.refl _ _,(λa ha=>by cases ha),[],[],rfl,rfl,Own.nil _ _ _,(λi q=>absurd q (Nat.not_lt_zero i)),λi q=>absurd q (Nat.not_lt_zero i)⟩ ?_
 rintro _ _ w13 ⟨s,k,rfl,hk,rfl,G⟩ next hnext
 have b013:=b010.on G.below
 refine zj (λg=>?_) (λg=>?_)
 rotate_left
 ·have hke:k=pl.length:=by dsimp only at g;omega
  subst hke
  obtain⟨fs,hfs,hfl⟩:=G.facs
  have hS13:=hS10.below G.below
  refine Sp.load hS13.drew ?_
  refine st2 ((hS2.below (b210.on G.below)).drew) rfl λw31 hS31 c31=>Sp.load hS31 ?_
  have b31:Below w13.heap.size w13 w31:=((Below.refl w13.heap.size w13).drew).on (c31.same ((hS2.below (b210.on G.below)).drew) hS31)
  exact hok w31 s fs hz hFO hfl (b013.on b31) (hfs.below b31)
 have hkl:k<pl.length:=by dsimp only at g;omega
 have hix:=zH hkl
 have eOp:(ix pl k).1=pl[k].1:=by rw[hix]
 refine zo.cut (λ(st:Sl×Unit) w'=>∃s',st=(s',())/\Ga w10 w' pl s' (k+1)) ?_ ?_
 rotate_left
 ·rintro _ w29 ⟨s',rfl,G'⟩
  dsimp only
  rw[zE (by omega)]
  exact hnext (pl.length-(k+1)) _ w29 (by omega) ⟨s',k+1,rfl,by omega,rfl,G'⟩
 refine Z8 hN b013 hkl λt hI=>?_
 refine box4 rfl λw18 hI18 b18 z18=>?_
 have hI18:Blk w18 w13.heap.size 44 (inV (mkIn pl[k] t)):=hI18
 have G18:=G.on b18
 refine hI18.rI0 (x:=pl[k].1) rfl (zk (λe=>?_) (λe=>?_))
 rotate_left
 ·refine⟨s,rfl,?_⟩
  obtain⟨hs,fs,h1,h2,h3,h4,h5⟩:=G18.ex
  have ee:entN pl (k+1)=entN pl k:=by rw[zjp,if_neg (by rw[eOp];exact e)]
  exact⟨G18.below,G18.fr,hs,fs,h1,by rw[ee];exact h2,h3,h4,by rw[ee];exact h5⟩
 have e15:(ix pl k).1=15:=by rw[eOp];exact e
 have h3l:3<=pl[k].2.2.2.length:=by have:=Yk hF.shape hkl e15 zcs;rwa[hix]at this
 have eE:entF (piOf (mkIn pl[k] t) pl[k].2.2.2)=entF (ix pl k):=by rw[hix]
 have hmx:(entF (ix pl k)).2.2.2.length<=65535:=by
  have:=YQ hF.shape hkl
  rw[hix]
  unfold entF
  rw[List.length_map,List.length_drop]
  omega
 refine hI18.rI (n:=0) (x:=pl[k].1) rfl (hI18.rI (n:=1) (x:=pl[k].2.1) rfl (hI18.rI (n:=2) (x:=pl[k].2.2.1) rfl (hI18.rS (n:=3) (x:=t) rfl ?_)))
 have hI18':IsAg w18 t pl[k].2.2.2:=IsC.below zG hI (b013.on b18)
 refine YS (x:=mkIn pl[k] t) (al:=pl[k].2.2.2) hI18' h3l (YQ hF.shape hkl) λw19 r hr b19=>?_
 have hfo:∀li lo,SrtP li ((fcP pl).pts (entF (ix pl k)).2.2.2 1)->SrtP lo ((fcP pl).pts (entF (ix pl k)).2.2.2 3)->FaOk (fcP pl) ((entF (ix pl k)).2.2.1,(entF (ix pl k)).1,(entF (ix pl k)).2.1,li,lo) (ix pl k):=λli lo q1 q2=>⟨rfl,rfl,rfl,q1,q2⟩
 rw[eE]at hr⊢
 generalize entF (ix pl k)=E at hr hmx hfo⊢
 refine⟨(E.1,E.2.1,E.2.2.1,r,()),rfl,box4 rfl λw24 hE24 b24 z24=>?_⟩
 have hE24:Blk w24 w19.heap.size 74 (enV E.1 E.2.1 E.2.2.1 r):=hE24
 have b1824:=b19.on b24
 have hEd:=hE24.drew
 have bd:=b1824.drew
 refine hEd.rT (n:=2) (x:=E.2.2.1) rfl (hEd.rI0 (x:=E.1) rfl (hEd.rI (n:=1) (x:=E.2.1) rfl ?_))
 refine hEd.rI (n:=0) (x:=E.1) rfl (hEd.rI (n:=1) (x:=E.2.1) rfl (hEd.rT (n:=2) (x:=E.2.2.1) rfl (hEd.rS (n:=3) (x:=r) rfl ?_)))
 refine hEd.rI (n:=0) (x:=E.1) rfl (hEd.rI (n:=1) (x:=E.2.1) rfl (hEd.rT (n:=2) (x:=E.2.2.1) rfl (hEd.rS (n:=3) (x:=r) rfl ?_)))
 have hCk18:=(hCk10.below G.below).below b18
 have hrd:IsS (Value.int .u32) w24.drew r E.2.2.2:=(hr.below b24).drew
 refine zgv (ids:=E.2.2.2) (hCk18.below bd) hF hrd hmx λw25 si li hsi hli b25=>⟨si,rfl,?_⟩
 have hE25:=hEd.below b25
 refine⟨hE25.cell (n:=0) rfl,hE25.cell (n:=1) rfl,hE25.cell (n:=2) rfl,hE25.cell (n:=3) rfl,hE25.cell (n:=1) rfl,hE25.cell0 rfl,hE25.cell (n:=2) rfl,?_⟩
 refine zgv (ids:=E.2.2.2) ((hCk18.below bd).below b25) hF (hrd.below b25) hmx λw26 so lo hso hlo b26'=>⟨so,rfl,?_⟩
 have hE26:=hE25.below b26'
 refine⟨hE26.cell (n:=1) rfl,hE26.cell0 rfl,hE26.cell (n:=2) rfl,zm λw27 hX27 b27 z27=>?_⟩
 have hX27:Blk w27 w26.heap.size 47 (faV (E.2.2.1,E.1,E.2.1,si,so,())):=hX27
 have b1827:=((bd.on b25).on b26').on b27
 refine(G18.on b1827).push (by omega) e15 (x:=(E.2.2.1,E.1,E.2.1,si,so,())) (f:=(E.2.2.1,E.1,E.2.1,li,lo)) ⟨rfl,rfl,rfl,(hsi.below b26').below b27,hso.below b27⟩ (hfo li lo hli hlo) hX27 λr' w28 G28=>⟨r',rfl,G28⟩
end
end Go.Proofs
namespace Go.Proofs
open Go.Gk Go.RowKit Go.Gm
def fndF(fs:List Fa)(name:ByteArray)(model:Int):Option Fa:=fs.find? λf=>decide (f.1=name)&&f.2.1==model
def faZ:Fw:=(⟨#[]⟩,0,0,⟨none,0,0⟩,⟨none,0,0⟩,())
theorem zv3{w:World}{s:Sl}{l:List Fw}(h:IsC 5 faV w s l){k:Nat}(hk:k<l.length){φ:ByteArray->Int->Int->Sl->Sl->Prop}(hφ:φ l[k].1 l[k].2.1 l[k].2.2.1 l[k].2.2.2.1 l[k].2.2.2.2.1) :
  (0<=(k:Int)/\(k:Int)<(s.l:Int))/\zc s.a λa=>zs w ((a.add (Int.toNat (k:Int)*5)).add 0) λy0=>ldI w ((a.add (Int.toNat (k:Int)*5)).add 1) .u32 λy1=>ldI w ((a.add (Int.toNat (k:Int)*5)).add 2) .u32 λy2=>ldS w ((a.add (Int.toNat (k:Int)*5)).add 3) λy3=>ldS w ((a.add (Int.toNat (k:Int)*5)).add 4) λy4=>φ y0 y1 y2 y3 y4:=by
 obtain⟨a,ha⟩:=h.base hk
 have hc:=λj hj=>h.cell a ha k hk j hj
 have hl:=h.len
 exact⟨⟨by omega,by omega⟩,ze ha ⟨_,by rw[zn];exact hc 0 (by decide),_,by rw[zn];exact hc 1 (by decide),_,by rw[zn];exact hc 2 (by decide),l[k].2.2.2.1,by rw[zn];exact hc 3 (by decide),l[k].2.2.2.2.1,by rw[zn];exact hc 4 (by decide),hφ⟩⟩
theorem Fw.load{w:World}{b:Nat}{T:TypeId}{x:Fw}(h:Blk w b T (faV x)){φ:ByteArray->Int->Int->Sl->Sl->Prop}(hφ:φ x.1 x.2.1 x.2.2.1 x.2.2.2.1 x.2.2.2.2.1) :
  zs w ((blk b).add 0) λy0=>ldI w ((blk b).add 1) .u32 λy1=>ldI w ((blk b).add 2) .u32 λy2=>ldS w ((blk b).add 3) λy3=>ldS w ((blk b).add 4) λy4=>φ y0 y1 y2 y3 y4:=
 h.rT (n:=0) rfl (h.rI (n:=1) rfl (h.rI (n:=2) rfl (h.rS (n:=3) rfl (h.rS (n:=4) rfl hφ))))
theorem Blk.memCell{w:World}{a:Addr}{T:TypeId}{cs:List Value}{v:Value}(hB:Blk w a.block T cs)(h:w.cell? a=some v):v∈cs:=by
 unfold World.cell? at h
 have hB:w.heap[a.block]? =some (.cells cs.toArray T (0,0)):=hB
 rw[hB]at h
 dsimp only at h
 split at h
 ·cases h
 ·rw[List.getElem?_toArray]at h
  exact List.mem_of_getElem? h
theorem zpk{w w':World}{s:Sl}{l:List Po}{b:Nat}{T:TypeId}{y:Fw}(h:IsPs w s l)(hB:Blk w b T (faV y))(c:Chg b w w'):IsPs w' s l:=by
 by_cases e:l=[]
 ·subst e
  exact⟨h.len,h.cap,h.max,h.nil,λa _ k hk=>absurd hk (Nat.not_lt_zero k)⟩
 ·have hl:0<l.length:=List.length_pos_iff.2 e
  refine IsC.of_block zM h λa ha _=>c.block _ λq=>?_
  have h1:w.cell? (a.add (0*6+1))=some (.int .i64 l[0].2.1):=h.cell a ha 0 hl 1 (by decide)
  have hB':Blk w (a.add (0*6+1)).block T (faV y):=by rw[Zg,q];exact hB
  have:=Blk.memCell hB' h1
  simp at this
section
variable {x:Mo} {pl:List PI} {w:World} {R:VWP}
theorem znk(hN:IsPl w x.2.2.1 pl)(hp:PlOk pl)(h0:0<=x.2.1)(ht:Tab w)
  (hR:∀w',Below w.heap.size w w'->R (.agg #[.int .i64 (facE x.2.1 pl).1,.int .i64 (facE x.2.1 pl).2]) w') :
  cR 13 #[moA x] w R:=by
 refine za.of (zjr x R w ?_) λ_ _ h=>h
 refine zm λw1 hB1 b1 z1=>?_
 have hB1:Blk w1 w.heap.size 25 (moV x):=hB1
 refine zm λw2 hS2 b2 z2=>?_
 have hS2:Blk w2 w1.heap.size 29 [.int .i64 0,.int .i64 0]:=hS2
 have b02:=b1.on b2
 have s01:=b1.size
 have fin:∀{w3:World} (s:Sl) (e a:Int),(e,a)=facE x.2.1 pl->Below w2.heap.size w2 w3->Nw (w3.alloc (.cells #[(.int .i64 (0:Int)),(.int .i64 (0:Int))] 29)) λw4=>
   Wr w4 (blk w3.heap.size)/\Nw (w4.setCell (blk w3.heap.size) (.int .i64 e)) λw5=>Wr w5 ((blk w3.heap.size).add 1)/\Nw (w5.setCell ((blk w3.heap.size).add 1) (.int .i64 a)) λw6=>
    ldI w6 ((blk w3.heap.size).add 0) .i64 λx7=>ldI w6 ((blk w3.heap.size).add 1) .i64 λx8=>Wr w6 (blk w1.heap.size)/\Nw (w6.setCell (blk w1.heap.size) (.int .i64 x7)) λw7=>Wr w7 ((blk w1.heap.size).add 1)/\
     Nw (w7.setCell ((blk w1.heap.size).add 1) (.int .i64 x8)) λw8=>ldI w8 ((blk w1.heap.size).add 0) .i64 λx9=>ldI w8 ((blk w1.heap.size).add 1) .i64 λx10=>R (.agg #[(.int .i64 x9),(.int .i64 x10)]) w8:=λ{w3} s e a he b3=>by
  refine box2 rfl λw6 hS6 b6 z6=>Sp.load hS6 ?_
  refine st2 ((hS2.below b3).below b6) rfl λw8 hS8 c8=>Sp.load hS8 ?_
  have:=hR w8 (c8.below ((b02.on b3).on b6) (by omega))
  rw[<-he]at this
  exact this
 refine Mo.load (hB1.below b2) ?_
 refine zkX (x:=x) (hN.below b02) hp h0 (ht.below b02) (λw3 e a he _ b3=>⟨⟨none,0,0⟩,(e,a,()),rfl,fin ⟨none,0,0⟩ e a he b3⟩) (λw3 s fs hz _ _ b3 _=>⟨s,(0,0,()),rfl,fin s 0 0 hz.symm b3⟩)
set_option maxHeartbeats 8000000 in
theorem zmo{name:ByteArray}{model:Int}(hN:IsPl w x.2.2.1 pl)(hp:PlOk pl)(h0:0<=x.2.1)(ht:Tab w)
  (hbad:∀w' e a,(e,a)=facE x.2.1 pl->e≠0->Below w.heap.size w w'->R (.tuple #[faA faZ,.int .i64 e]) w')
  (hnone:∀w' fs,facE x.2.1 pl=(0,0)->znQ x.2.1 pl->FacL pl fs->fndF fs name model=none->Below w.heap.size w w'->R (.tuple #[faA faZ,.int .i64 5]) w')
  (hok:∀w' fs y f,facE x.2.1 pl=(0,0)->znQ x.2.1 pl->FacL pl fs->fndF fs name model=some f->Below w.heap.size w w'->FaR w' y f->R (.tuple #[faA y,.int .i64 0]) w') :
  cR 38 #[moA x,.string name,.int .u32 model] w R:=by
 refine za.of (zlP x name model R w ?_) λ_ _ h=>h
 refine zm λw1 hB1 b1 z1=>?_
 have hB1:Blk w1 w.heap.size 25 (moV x):=hB1
 refine zm λw2 hF2 b2 z2=>?_
 have hF2:Blk w2 w1.heap.size 47 (faV faZ):=hF2
 have b02:=b1.on b2
 have s01:=b1.size
 refine Mo.load (hB1.below b2) ?_
 refine zkX (x:=x) (hN.below b02) hp h0 (ht.below b02) (λw3 e a he hne b3=>?_) (λw3 s fs hz hFO hfl b3 hfs=>?_)
 ·refine⟨⟨none,0,0⟩,(e,a,()),rfl,box2 rfl λw6 hS6 b6 z6=>hS6.rI0 (x:=e) rfl (zy (λ_=>?_) (λq=>absurd q hne))⟩
  have s23:=b3.size
  refine hS6.drew.rI0 (x:=e) rfl (st5 ((hF2.below b3).below b6).drew rfl λw11 hF11 c11=>?_)
  have hF11:Blk w11 w1.heap.size 47 (faV faZ):=hF11
  refine⟨(c11.blk hS6.drew (by omega)).cell0 rfl,Fw.load hF11 ?_⟩
  exact hbad w11 e a he hne (c11.below ((b02.on b3).on b6).drew (by omega))
 refine⟨s,(0,0,()),rfl,box2 rfl λw6 hS6 b6 z6=>hS6.rI0 (x:=0) rfl (zy (λq=>absurd rfl q) (λ_=>?_))⟩
 have b06:=(b02.on b3).on b6
 have hF6:=(hF2.below b3).below b6
 have hfs6:=hfs.below b6
 obtain⟨hs,g1,g2,g3⟩:=hfs6.ex
 have hsl:=g1.len
 refine zl.count hs.length g1.bound (λk w'=>Below w6.heap.size w6 w'/\∀j (h:j<fs.length),j<k->(decide (fs[j].1=name)&&fs[j].2.1==model)=false) ⟨Below.refl _ _,λj _ h=>by omega⟩ ?_
 rintro k w12 hk ⟨b12,hno⟩ next hnext
 have b012:=b06.on b12
 have hF12:=hF6.below b12
 refine zj (λg=>?_) (λg=>?_)
 rotate_left
 ·have hke:k=hs.length:=by dsimp only at g;omega
  subst hke
  refine st5 hF12 rfl λw29 hF29 c29=>?_
  have hF29:Blk w29 w1.heap.size 47 (faV faZ):=hF29
  refine Fw.load hF29 (hnone w29 fs hz hFO hfl ?_ (c29.below b012 (by omega)))
  exact zo6 λj hj=>hno j hj (by omega)
 have hkl:k<hs.length:=by dsimp only at g;omega
 have hkf:k<fs.length:=by omega
 have hX:=g3 k hkl hkf
 have g12:=IsC.below zkq g1 b12
 refine zo.cut (λ(_:Unit) w'=>Below w12.heap.size w12 w'/\(decide (fs[k].1=name)&&fs[k].2.1==model)=false) ?_ ?_
 rotate_left
 ·rintro _ w24 ⟨b24,hn⟩
  refine hnext w24 hkl ⟨b12.on b24,λj h hj=>?_⟩
  by_cases e:j=k
  ·subst e;exact hn
  ·exact hno j h (by omega)
 refine zv3 g12 hkl ?_
 generalize hy:hs[k]=y at hX⊢
 refine box5 rfl λw18 hY18 b18 z18=>?_
 have hY18:Blk w18 w12.heap.size 47 (faV y):=hY18
 refine⟨_,hY18.cell0 rfl,?_⟩
 dsimp only
 rw[znH]
 refine zj (λe1=>?_) (λe1=>?_)
 ·refine hY18.rI (n:=1) (x:=y.2.1) rfl (zk (λe2=>?_) (λe2=>?_))
  ·refine Fw.load hY18 (st5 (hF12.below b18) rfl λw23 hF23 c23=>?_)
   have hF23:Blk w23 w1.heap.size 47 (faV y):=hF23
   refine Fw.load hF23 ?_
   have b618:=b12.on b18
   refine hok w23 fs y fs[k] hz hFO hfl ?_ (c23.below (b012.on b18) (by omega)) ?_
   ·refine zo5 hkf (λj h hj=>hno j h hj) ?_
    rw[<-hX.name,<-hX.model,e1,e2]
    simp
   ·have hY:=(hX.below b618)
    exact⟨hY.name,hY.model,hY.fn,zpk hY.ins (hF12.below b18) c23,zpk hY.outs (hF12.below b18) c23⟩
  ·refine⟨b18,?_⟩
   rw[<-hX.model,beq_eq_false_iff_ne.2 e2,Bool.and_false]
 ·refine⟨b18,?_⟩
  rw[<-hX.name,decide_eq_false e1,Bool.false_and]
end
end Go.Proofs
namespace Go.Proofs
open Go.Gk Go.RowKit Go.Gm
def slt0:Slt:=(0,0,[])
def metP(p:Po)(l:List Po):Bool:=(p.2.2.1==15&&p.2.1 ==-1)||l.any λo=>p.2.2.1 ==-1&&o.2.2.1 ==-1&&o.2.1==p.2.1&&o.2.2.2.2.1==p.2.2.2.2.1&&o.2.2.2.2.2.1==p.2.2.2.2.2.1
def matP(v f:Fa):Int:=if v.2.1≠0\/f.2.1≠4 then 203 else if (f.2.2.2.1.all λp=>metP p v.2.2.2.2)=true then 0 else 203
def fitA(p:Po)(x:Slt):Bool:=x.1==p.2.1&&x.2.1==p.2.2.1&&((x.2.2.length:Int)==p.2.2.2.2.1)
def zjK(l:List Po)(s:List Slt):Bool:=decide (l.length=s.length)&&(List.range l.length).all λk=>fitA (l.getD k po0) (s.getD k slt0)
theorem zlh{l:List Po}{s:List Slt}:zjK l s=true↔l.length=s.length/\∀k,k<l.length->fitA (l.getD k po0) (s.getD k slt0)=true:=by
 unfold zjK
 rw[Bool.and_eq_true,decide_eq_true_eq,List.all_eq_true]
 exact⟨λh=>⟨h.1,λk hk=>h.2 k (List.mem_range.2 hk)⟩,λh=>⟨h.1,λk hk=>h.2 k (List.mem_range.1 hk)⟩⟩
theorem zqV{l:List Po}{s:List Slt}{k:Nat}(hk:k<l.length)(h:fitA (l.getD k po0) (s.getD k slt0)=false):zjK l s=false:=by
 cases hf:zjK l s with
 |false=>rfl
 |true=>
  have:=(zlh.1 hf).2 k hk
  rw[h]at this
  cases this
theorem zo8{l:List Po}{s:List Slt}(h:l.length≠s.length):zjK l s=false:=by
 unfold zjK
 rw[decide_eq_false h,Bool.false_and]
end Go.Proofs
