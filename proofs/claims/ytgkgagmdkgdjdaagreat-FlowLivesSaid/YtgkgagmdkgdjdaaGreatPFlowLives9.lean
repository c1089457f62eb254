/- FlowLives, part 9; made small by a program. -/
import Derived.Test.YtgkgagmdkgdjdaaGreatProg
import Derived.Test.YtgkgagmdkgdjdaaGreatPFlowLives8
namespace Go.Proofs
open Go.Gk Go.RowKit Go.Gm Go.Gr Go.Dm
theorem zhy(pl:List PI)(fl:List FnL)(n:Nat):(nxF pl fl n).length=(fx fl n).bk.length:=by unfold nxF Yd;rw[Zw,List.length_map]
theorem zim{nx:List (List Nat)}{k:Nat}(hk:k<nx.length):(zM nx).getD k []=(List.range nx.length).filter λi=>(nx.getD i []).contains k:=by
 unfold zM
 rw[List.getD_eq_getElem?_getD,List.getElem?_map,List.getElem?_range hk]
 rfl
section
variable {bk:List Bk3} {nx:List (List Nat)} {k:Nat}
theorem zsf(hl:nx.length=bk.length)(hd:(bk.map (·.1)).Nodup)(hk:k<nx.length){p:Nat}(hp:p<bk.length):(bx bk p).1∈zaf bk nx k↔k∈nx.getD p []:=by
 unfold zaf
 rw[zim hk,List.mem_map]
 constructor
 ·rintro⟨q,hq,e⟩
  obtain⟨h1,h2⟩:=List.mem_filter.1 hq
  rw[List.mem_range]at h1
  have h3:=zgX hd (k:=p) hp
  have h4:=zgX hd (k:=q) (by omega)
  rw[e,h3]at h4
  cases h4
  exact List.contains_iff_mem.1 h2
 ·exact λh=>⟨p,List.mem_filter.2 ⟨List.mem_range.2 (by omega),List.contains_iff_mem.2 h⟩,rfl⟩
theorem zpK(hl:nx.length=bk.length)(hd:(bk.map (·.1)).Nodup)(hk:k<nx.length):(zaf bk nx k).Nodup:=by
 unfold zaf
 rw[zim hk,List.nodup_iff_pairwise_ne,List.pairwise_map]
 refine List.Pairwise.imp_of_mem (R:=(·<·)) (λ{a b} ha hb h e=>?_) (List.Pairwise.filter _ List.pairwise_lt_range)
 have h1:=List.mem_range.1 (List.mem_filter.1 ha).1
 have h2:=List.mem_range.1 (List.mem_filter.1 hb).1
 have h3:=zgX hd (k:=a) (by omega)
 have h4:=zgX hd (k:=b) (by omega)
 rw[e,h4]at h3
 cases h3
 omega
theorem zlD(hl:nx.length=bk.length)(hd:(bk.map (·.1)).Nodup)(hk:k<nx.length){p:Nat}(hp:p<bk.length):(zaf bk nx k).count (bx bk p).1=if (nx.getD p []).contains k=true then 1 else 0:=by
 rw[(zpK hl hd hk).count]
 simp only[zsf hl hd hk hp,List.contains_iff_mem]
theorem zix(hk:k<nx.length)(hl:nx.length=bk.length)(hd:(bk.map (·.1)).Nodup){q:Int}(hq:q∈zaf bk nx k):∃p,p<bk.length/\lbO bk q=some p/\(bx bk p).1=q:=by
 unfold zaf at hq
 rw[zim hk]at hq
 obtain⟨p,hp,rfl⟩:=List.mem_map.1 hq
 have h1:=List.mem_range.1 (List.mem_filter.1 hp).1
 exact⟨p,by omega,zgX hd (by omega),rfl⟩
theorem zrf(hl:nx.length=bk.length)(hd:(bk.map (·.1)).Nodup)(hk:k<nx.length){ps:List Int}:(zaf bk nx k).Perm ps↔(∀p,p<bk.length->(if (nx.getD p []).contains k=true then 1 else 0)=ps.count (bx bk p).1)/\∀q∈ps,(lbO bk q).isSome=true:=by
 constructor
 ·intro h
  refine⟨λp hp=>?_,λq hq=>?_⟩
  ·rw[<-h.count_eq,zlD hl hd hk hp]
  ·obtain⟨p,_,h2,_⟩:=zix hk hl hd (h.mem_iff.2 hq)
   rw[h2]
   rfl
 ·rintro⟨h1,h2⟩
  rw[List.perm_iff_count]
  intro a
  cases ha:lbO bk a with
  |some p=>
   obtain⟨hp,e⟩:=zfn ha
   rw[<-e,zlD hl hd hk hp,h1 p hp]
  |none=>
   rw[List.count_eq_zero.2,List.count_eq_zero.2]
   ·intro hm
    have:=h2 a hm
    rw[ha]at this
    cases this
   ·intro hm
    obtain⟨p,_,h3,_⟩:=zix hk hl hd hm
    rw[ha]at h3
    cases h3
end
section
variable {w:World} {R:VWP} {p:Bv} {pl:List PI} {fl:List FnL} {n k i:Nat} {id:Int}
theorem zmX(F:Fls pl fl)(h:IsRb w p pl fl n)(ok:NxOk (nxF pl fl n))(hk:k<(fx fl n).bk.length){q:Int}(hR:∀w',Below w.heap.size w w'->R (.bool (mayU pl fl (nxF pl fl n) n id k q)) w') :
  cR 89 #[bvA p,.int .u32 id,.int .i64 (k:Int),.int .i64 q] w R:=by
 refine za.of (zcs p id (k:Int) q R w ?_) λ_ _ h=>h
 refine zn λw1 hP1 b1 z1=>?_
 have hP1:Blk w1 w.heap.size 69 (bvL p):=hP1
 have h1:=h.below b1
 have hnl:=zhy pl fl n
 have yes:mayU pl fl (nxF pl fl n) n id k q=true->∀{w'},Below w.heap.size w w'->R (.bool true) w':=λe {w'} hb=>by
  have:=hR w' hb
  rwa[e]at this
 refine zl.cut (λ(_:Unit) w'=>Below w1.heap.size w1 w'/\ownP pl fl n id=true/\zS (nxF pl fl n) (-1) k) ?_ ?_
 ·refine Bv.load hP1 (zmY F h1 λw2 b2=>⟨_,rfl,zF (zo (λe=>?_) (λe=>yes ?_ (b1.on b2)))⟩)
  ·refine Bv.load (hP1.below b2) (zj8 (h1.below b2) ok (wo:=-1) λw3 bl b b3 hB hl hi=>⟨⟨some (Gk.blk b),bl.length,bl.length⟩,rfl,⟨by omega,by dsimp only;omega⟩,zj rfl ?_⟩)
   refine hB.rB (n:=k) (x:=bl.getD k false) (by rw[List.getElem?_map,List.getElem?_eq_getElem (by omega),zs (by omega)];rfl) (zF (zo (λhr=>⟨b2.on b3,e,(hi k).1 hr⟩) (λhr=>yes ?_ (b1.on (b2.on b3)))))
   unfold mayU
   rw[if_neg λq=>?_]
   rw[(hi k).2 q.2]at hr
   cases hr
  ·unfold mayU
   rw[if_neg (by rw[show ownP pl fl n id=false from e];simp)]
 rintro _ w4 ⟨b4,hown,hre⟩
 have hP4:=hP1.below b4
 have h4:=h1.below b4
 have b04:=b1.on b4
 refine Bv.load hP4 (zew h4 λw5 b5=>⟨_,rfl,?_⟩)
 have hP5:=hP4.below b5
 refine Bv.load hP5 (zk8 (h4.below b5) λw6 b6=>⟨_,rfl,?_⟩)
 have b06:=b04.on (b5.on b6)
 have hP6:=hP5.below b6
 cases hb:bkO (fx fl n).bk (mkA pl id) with
 |none=>
  refine zD (by decide) (yes ?_ b06)
  unfold mayU
  rw[if_pos ⟨hown,hre⟩,hb]
 |some z=>
  have hm:mayU pl fl (nxF pl fl n) n id k q=if z=k then decide (mkA pl id<q) else(by classical exact decide (¬zS (nxF pl fl n) (z:Int) k)):=by
   unfold mayU
   rw[if_pos ⟨hown,hre⟩,hb]
  show ifB (decide ((z:Int)<0)) _ (ifB ((z:Int)==(k:Int)) _ _)
  refine zf (λe=>absurd e (by omega)) (λ_=>zm (λe=>?_) (λe=>?_))
  ·have:=hR w6 b06
   rw[hm,if_pos (by omega)]at this
   exact this
  ·refine Bv.load hP6 (zj8 ((h4.below b5).below b6) ok (wo:=(z:Int)) λw7 bl b b7 hB hl hi=>⟨⟨some (Gk.blk b),bl.length,bl.length⟩,rfl,⟨by omega,by dsimp only;omega⟩,zj rfl ?_⟩)
   refine hB.rB (n:=k) (x:=bl.getD k false) (by rw[List.getElem?_map,List.getElem?_eq_getElem (by omega),zs (by omega)];rfl) ?_
   have:=hR w7 (b06.on b7)
   rw[hm,if_neg (by omega)]at this
   have e2:(!bl.getD k false)=(by classical exact decide (¬zS (nxF pl fl n) (z:Int) k)):=by
    classical
    rw[Bool.eq_iff_iff,decide_eq_true_eq,<-hi k]
    cases bl.getD k false<;>simp
   rw[e2]
   exact this
theorem ztx(pl:List PI)(fl:List FnL)(n:Nat)(id:Int):othP pl fl n id=(decide (ovI (fnO fl (mkA pl id))≥0)&&ovI (fnO fl (mkA pl id)) !=(n:Int)):=by
 unfold othP hmO
 cases hf:fnO fl (mkA pl id) with
 |none=>rfl
 |some m=>
  rw[Option.map_some]
  show((m:Int) !=(n:Int))=(decide ((m:Int)≥0)&&(m:Int) !=(n:Int))
  rw[decide_eq_true (by omega),Bool.true_and]
theorem zs8(al:List Ag)(j:Nat):parN al (2*j+1)=parN al (2*j)/\parN al (2*j+2)=parN al (2*j)++[(al.getD (2*j+1) ag0).2.1]:=by
 have h1:parN al (2*j+1)=parN al (2*j):=by simp only[parN];rw[if_pos (by omega)]
 refine⟨h1,?_⟩
 show(if (2*j+1) % 2=0 then parN al (2*j+1) else parN al (2*j+1)++[(al.getD (2*j+1) ag0).2.1])=_
 rw[if_neg (by omega),h1]
theorem zfR{j:Nat}(h:j<4611686018427387000):IntKind.i64.wrap (((2*j:Nat):Int)+2)=((2*(j+1):Nat):Int)/\IntKind.i64.wrap (((2*j+1:Nat):Int)+2)=((2*(j+1)+1:Nat):Int):=by
 constructor
 ·rw[zq (by omega) (by omega)];omega
 ·rw[zq (by omega) (by omega)];omega
set_option maxHeartbeats 2000000 in
theorem zos(F:Fls pl fl)(hp:PlOk pl)(hn:n<fl.length)(h:IsRb w p pl fl n)(ok:NxOk (nxF pl fl n))(hk:k<(fx fl n).bk.length)(hi:i<pl.length)(hR:∀w',Below w.heap.size w w'->R (.int .i64 (fltU pl fl (nxF pl fl n) n k i)) w') :
  cR 51 #[bvA p,.int .i64 (k:Int),.int .i64 (i:Int)] w R:=by
 refine za.of (zbv p (k:Int) (i:Int) R w ?_) λ_ _ h=>h
 refine zn λw1 hP1 b1 z1=>?_
 have hP1:Blk w1 w.heap.size 69 (bvL p):=hP1
 have h1:=h.below b1
 have hnl:=zhy pl fl n
 have hix:=yg hi
 refine hP1.rS (n:=2) (x:=p.2.2.1) rfl (yu h1.hN hi λt hI=>box4 rfl λw6 h6 b6 z6=>?_)
 have h6:Blk w6 w1.heap.size 50 (inV (mkIn pl[i] t)):=h6
 refine Ins.load (x:=mkIn pl[i] t) h6 (zke (x:=mkIn pl[i] t) (hI.below b6) (hp.at hi) λr w7 hr7 _ b7=>⟨r,rfl,?_⟩)
 have hids:idsP pl[i].2.1 pl[i].2.2.2=zL pl i:=by unfold zL;rw[hix]
 have hr7:Own w7 22 1 r ((zL pl i).map (Value.int .u32)):=by rw[<-hids];exact hr7
 have hS:=hr7.isS
 have hSl:=hS.len
 have b17:=b6.on b7
 have b07:=b1.on b17
 have h7:=h1.below b17
 have hP7:=hP1.below b17
 have hI7:=hI.below b17
 have h67:=h6.below b7
 have hsc:=znz pl fl (nxF pl fl n) n k i
 refine zk.count (zL pl i).length hS.bound (λj w'=>Below w7.heap.size w7 w'/\∀q (h:q<(zL pl i).length),q<j->othP pl fl n (zL pl i)[q]=false) ⟨Below.refl _ _,λq _ h=>by omega⟩ ?_
 rintro j w8 hj ⟨b8,hq⟩ next hnext
 have b08:=b07.on b8
 refine zf (λg=>?_) (λg=>?_)
 ·have hlt:j<(zL pl i).length:=by dsimp only at g;omega
  have bd:Below w8.heap.size w8 w8.drew:=(Below.refl _ _).drew
  have hP8:=(hP7.below b8).below bd
  have h8:=(h7.below b8).below bd
  refine zl.all (hP8.rS (n:=3) (x:=p.2.2.2.1) rfl (Bv.load hP8 (zcK ((hS.below b8).below bd) hlt ?_)))
  generalize hid:(zL pl i)[j]=id
  refine zew h8 λw9 b9=>⟨_,rfl,?_⟩
  have hP9:=hP8.below b9
  obtain⟨L,hL,hLc⟩:=(h8.below b9).hL
  have b89:=bd.on b9
  have go:othP pl fl n id=false->next (IntKind.i64.wrap ((j:Int)+1),()) w9:=λho=>hnext w9 hlt ⟨b8.on b89,λq h1 h2=>by
   by_cases e:q=j
   ·subst e;rw[hid];exact ho
   ·exact hq q h1 (by omega)⟩
  refine⟨hP9.cell (n:=3) rfl,zia hL hLc ⟨_,rfl,?_⟩⟩
  have hod:=ztx pl fl n id
  refine zf (λe=>hP9.rI (n:=4) rfl ?_) (λe=>go (by rw[hod,decide_eq_false e];rfl))
  rw[h8.num]
  refine zo (λe2=>?_) (λe2=>go (by rw[hod,decide_eq_true e,e2];rfl))
  have:=hR w9 (b08.on b89)
  rw[hsc]at this
  unfold zd9 at this
  rw[if_pos (zgL hlt (by rw[hid,hod,decide_eq_true e,e2];rfl)),if_pos (by decide)]at this
  exact this
 have hno:zd9 pl fl n i=0:=by
  unfold zd9
  rw[zeU λq h1=>hq q h1 (by dsimp only at g;omega)]
  rfl
 rw[if_neg (λh=>h hno)]at hsc
 have h68:=h67.below b8
 have hP8:=hP7.below b8
 have h8:=h7.below b8
 refine h68.rI0 rfl (zt (λe=>?_) (λe=>?_))
 ·have e:(ix pl i).1≠245:=by rw[hix];exact e
  have hph:phiU pl fl (nxF pl fl n) n k i=0:=by unfold phiU;rw[if_pos e]
  rw[if_neg (λh=>h hph)]at hsc
  unfold useU at hsc
  rw[if_pos e]at hsc
  refine zk.count (zL pl i).length hS.bound (λj w'=>Below w8.heap.size w8 w'/\∀q (h:q<(zL pl i).length),q<j->(!mayU pl fl (nxF pl fl n) n (zL pl i)[q] k i)=false) ⟨Below.refl _ _,λq _ h=>by omega⟩ ?_
  rintro j2 w12 hj2 ⟨b12,hq2⟩ next2 hnext2
  have b012:=b08.on b12
  refine zf (λg=>?_) (λg=>?_)
  ·have hlt:j2<(zL pl i).length:=by dsimp only at g;omega
   have bd:Below w12.heap.size w12 w12.drew:=(Below.refl _ _).drew
   refine Bv.load ((hP8.below b12).below bd) (zcK (((hS.below b8).below b12).below bd) hlt (zmX F ((h8.below b12).below bd) ok hk λw13 b13=>⟨_,rfl,zo (λe2=>?_) (λe2=>?_)⟩))
   ·have:=hR w13 (b012.on (bd.on b13))
    rw[hsc,if_pos (zgL hlt e2)]at this
    exact this
   ·refine hnext2 w13 hlt ⟨b12.on (bd.on b13),λq h1 h2=>?_⟩
    by_cases eq:q=j2
    ·subst eq;exact e2
    ·exact hq2 q h1 (by omega)
  ·have:=hR w12 b012
   rw[hsc,zeU λq h1=>hq2 q h1 (by dsimp only at g;omega)]at this
   exact this
 have e:pl[i].1=245:=e
 have e':¬(ix pl i).1≠245:=by rw[hix,e];decide
 have hev:=F.phi i hi (by rw[hix];exact e)
 rw[hix]at hev
 have hal24:=hp.at hi
 have hlab:=F.lab _ (zf9 hn)
 have hkn:k<(nxF pl fl n).length:=by omega
 unfold phiU useU at hsc
 rw[if_neg e',if_neg e',hix]at hsc
 have hI8:=hI7.below b8
 have hAl:∀{w':World},Below w8.heap.size w8 w'->IsAg w' t pl[i].2.2.2:=λb=>hI8.below b
 have hIl:=hI8.len
 have hld:∀{w':World},Below w8.heap.size w8 w'->∀{φ:Sl->Prop},φ t->ldS w' ((Gk.blk w1.heap.size).add 3) φ:=λ{w'} b {φ} hφ=>(h68.below b).rS (n:=3) (x:=t) rfl hφ
 generalize hal:pl[i].2.2.2=al at *
 have hpar:∀q∈parN al al.length,∃j,2*j+1<al.length/\q=(al.getD (2*j+1) ag0).2.1:=λq hq=>by
  obtain⟨j,hj,rfl⟩:=List.getElem_of_mem hq
  rw[Yb]at hj
  have:=zfu al al.length j hj
  rw[zs (by rw[Yb];exact hj)]at this
  exact⟨j,by omega,this⟩
 have bad:¬(zaf (fx fl n).bk (nxF pl fl n) k).Perm (parN al al.length)->∀{w'},Below w.heap.size w w'->R (.int .i64 191) w':=λhne {w'} hb=>by
  have:=hR w' hb
  rw[hsc,if_pos hne,if_pos (by decide)]at this
  exact this
 have hperm:=zrf hnl hlab hkn (ps:=parN al al.length)
 obtain⟨hs,hX⟩:=h8.hX
 have hXl:=hX.len
 have hXt:=hX.top.len
 have hP10:∀{w':World},Below w8.heap.size w8 w'->∀{φ:Sl->Prop},φ p.2.2.2.2.2.2.2.2.2.2.1->ldS w' ((Gk.blk w.heap.size).add 10) φ:=λ{w'} b {φ} hφ=>(hP8.below b).rS (n:=10) (x:=p.2.2.2.2.2.2.2.2.2.2.1) rfl hφ
 have hmax:=ok.max
 refine zk.count (nxF pl fl n).length (by omega) (λz w'=>Below w8.heap.size w8 w'/\∀q,q<z->(if ((nxF pl fl n).getD q []).contains k=true then 1 else 0)=(parN al al.length).count (bx (fx fl n).bk q).1) ⟨Below.refl _ _,λq h=>by omega⟩ ?_
 rintro z w14 hz ⟨b14,hzq⟩ next3 hnext3
 have b014:=b08.on b14
 refine hP10 b14 (zf (λg=>?_) (λg=>?_))
 ·have hzl:z<(nxF pl fl n).length:=by omega
  have hzh:z<hs.length:=by omega
  have hrow0:=ok.row_le z
  have hgz:(nxF pl fl n).getD z []=(nxF pl fl n)[z]:=zs hzl
  generalize hrw:(nxF pl fl n)[z]=row at *
  rw[hgz]at hrow0
  have hrow:∀{w':World},Below w8.heap.size w8 w'->IsN w' hs[z] row:=λb=>by rw[<-hrw];exact(hX.below b).row z hzh hzl
  refine zk.ghost (λm (st:Int×Int×Unit) w'=>w14=w'/\∃c:Nat,c<=row.length/\m=row.length-c/\st=((if (row.take c).contains k=true then 1 else 0),(c:Int),())) row.length ⟨rfl,0,Nat.zero_le _,rfl,rfl⟩ ?_
  rintro _ _ _ ⟨rfl,c,hc,rfl,rfl⟩ next4 hnext4
  refine hP10 b14 (zeY (hX.below b14).top hzh ?_)
  have hrl:hs[z].l=row.length:=(hrow b14).len
  dsimp only
  refine zf (λg2=>?_) (λg2=>?_)
  ·have hcl:c<row.length:=by omega
   have go:∀v:Int,v=(if (row.take (c+1)).contains k=true then 1 else 0)->next4 (v,IntKind.i64.wrap ((c:Int)+1),()) w14:=λv hv=>by
    rw[zr (by omega)]
    exact hnext4 (row.length-(c+1)) _ w14 (by omega) ⟨rfl,c+1,by omega,rfl,by rw[hv]⟩
   refine zl.cut (λ(st:Int×Unit) w'=>next4 (st.1,IntKind.i64.wrap ((c:Int)+1),()) w') ?_ λ_ _ hh=>hh
   refine hP10 b14 (zeY (hX.below b14).top hzh (ziZ (hrow b14) hcl ?_))
   refine zm (λe3=>go _ ?_) (λe3=>go _ ?_)
   ·have e3:row[c]=k:=by omega
    rw[List.take_succ_eq_append_getElem hcl,e3]
    simp
   ·have e3:row[c]≠k:=by omega
    have hne:(row.take (c+1)).contains k=(row.take c).contains k:=by
     rw[List.take_succ_eq_append_getElem hcl,Bool.eq_iff_iff,List.contains_iff_mem,List.contains_iff_mem,List.mem_append,List.mem_singleton]
     exact⟨λh=>h.elim id λh=>absurd h.symm e3,.inl⟩
    rw[hne]
  ·have hce:c=row.length:=by omega
   subst hce
   rw[List.take_length]
   generalize hL0:(if row.contains k=true then(1:Int) else 0)=L0
   refine zk.ghost (λm (st:Int×Int×Unit) w'=>Below w8.heap.size w8 w'/\∃c:Nat,2*c<=al.length/\m=al.length-2*c/\st=(L0-((parN al (2*c)).count (bx (fx fl n).bk z).1:Int),((2*c+1:Nat):Int),())) al.length ⟨b14,0,by omega,by omega,by show(L0,(1:Int),())=(L0-((([]:List Int).count _:Nat):Int),_,());simp⟩ ?_
   rintro _ _ w17 ⟨b17,c,hc,rfl,rfl⟩ next5 hnext5
   dsimp only
   refine hld b17 (zf (λg3=>?_) (λg3=>?_))
   ·have hcl:2*c+1<al.length:=by omega
    have bd:Below w17.heap.size w17 w17.drew:=(Below.refl _ _).drew
    have b17d:=b17.on bd
    have go:∀v:Int,v=L0-((parN al (2*(c+1))).count (bx (fx fl n).bk z).1:Int)->next5 (v,IntKind.i64.wrap (((2*c+1:Nat):Int)+2),()) w17.drew:=λv hv=>by
     rw[(zfR (by omega)).2]
     exact hnext5 (al.length-2*(c+1)) _ w17.drew (by omega) ⟨b17d,c+1,by omega,rfl,by rw[hv]⟩
    have hp2:parN al (2*(c+1))=parN al (2*c)++[al[2*c+1].2.1]:=by
     rw[show 2*(c+1)=2*c+2 by omega,(zs8 al c).2,zs hcl]
    have hcle:=Yb al (2*c)
    have hcnt:=List.count_le_length (a:=(bx (fx fl n).bk z).1) (l:=parN al (2*c))
    have hL01:0<=L0/\L0<=1:=by rw[<-hL0];split<;>omega
    refine zl.cut (λ(st:Int×Unit) w'=>next5 (st.1,IntKind.i64.wrap (((2*c+1:Nat):Int)+2),()) w') ?_ λ_ _ hh=>hh
    refine hld b17d (zbt (hAl b17d) hcl ?_)
    have hzb:z<(fx fl n).bk.length:=by omega
    refine Z8 (hP8.below b17d) (znv (h8.below b17d).hB hzb ?_)
    have hbx:bx (fx fl n).bk z=(fx fl n).bk[z]:=zs hzb
    rw[<-hbx]
    refine zm (λe3=>?_) (λe3=>go _ ?_)
    ·have e3:al[2*c+1].2.1=(bx (fx fl n).bk z).1:=e3
     refine go _ ?_
     rw[hp2,List.count_append,e3,List.count_singleton_self,zq (by omega) (by omega)]
     omega
    ·have e3:¬al[2*c+1].2.1=(bx (fx fl n).bk z).1:=e3
     rw[hp2,List.count_append,List.count_singleton,if_neg (by simpa using e3),Nat.add_zero]
   ·have hce:2*c=al.length:=by omega
    rw[hce]
    have hcnt:=List.count_le_length (a:=(bx (fx fl n).bk z).1) (l:=parN al al.length)
    refine zt (λe3=>bad (λhpm=>e3 ?_) (b08.on b17)) (λe3=>hnext3 w17 hzl ⟨b17,λq hq1=>?_⟩)
    ·have:=(hperm.1 hpm).1 z (by omega)
     rw[hgz]at this
     show L0-((parN al al.length).count (bx (fx fl n).bk z).1:Int)=0
     rw[<-this,<-hL0]
     split<;>rfl
    ·by_cases eq:q=z
     ·subst eq
      rw[hgz]
      have e3:L0-((parN al al.length).count (bx (fx fl n).bk q).1:Int)=0:=e3
      rw[<-hL0]at e3
      split at e3
      ·rename_i hcc
       rw[if_pos hcc]
       omega
      ·rename_i hcc
       rw[if_neg hcc]
       omega
     ·exact hzq q (by omega)
 have hcounts:∀q,q<(fx fl n).bk.length->(if ((nxF pl fl n).getD q []).contains k=true then 1 else 0)=(parN al al.length).count (bx (fx fl n).bk q).1:=λq hq=>hzq q (by omega)
 refine zk.ghost (λm (st:Int×Unit) w'=>Below w8.heap.size w8 w'/\∃c:Nat,2*c<=al.length/\m=al.length-2*c/\st=(((2*c+1:Nat):Int),())/\∀j,j<c->(lbO (fx fl n).bk (al.getD (2*j+1) ag0).2.1).isSome=true) al.length ⟨b14,0,by omega,by omega,rfl,λj h=>by omega⟩ ?_
 rintro _ _ w19 ⟨b19,c,hc,rfl,rfl,hcj⟩ next6 hnext6
 dsimp only
 refine hld b19 (zf (λg3=>?_) (λg3=>?_))
 ·have hcl:2*c+1<al.length:=by omega
  have bd:Below w19.heap.size w19 w19.drew:=(Below.refl _ _).drew
  have b19d:=b19.on bd
  refine Bv.load (hP8.below b19d) (hld b19d (zbt (hAl b19d) hcl ?_))
  rw[<-zs (d:=ag0) hcl]
  refine zd8 (h8.below b19d) λw20 b20=>⟨_,rfl,?_⟩
  cases hlb:lbO (fx fl n).bk (al.getD (2*c+1) ag0).2.1 with
  |none=>
   refine zD (by decide) (bad (λhpm=>?_) (b08.on (b19d.on b20)))
   have hmem:(al.getD (2*c+1) ag0).2.1∈parN al al.length:=by
    have h1:=zfu al al.length c (by omega)
    rw[zs (by rw[Yb];omega)]at h1
    rw[<-h1]
    exact List.getElem_mem _
   have:=(hperm.1 hpm).2 _ hmem
   rw[hlb]at this
   cases this
  |some z'=>
   refine zE (decide_eq_false (by show ¬(z':Int)<0;omega)) ?_
   rw[(zfR (by omega)).2]
   refine hnext6 (al.length-2*(c+1)) _ w20 (by omega) ⟨b19d.on b20,c+1,by omega,rfl,rfl,λj hj=>?_⟩
   by_cases ej:j=c
   ·subst ej;rw[hlb];rfl
   ·exact hcj j (by omega)
 have hce:2*c=al.length:=by omega
 have hpm:(zaf (fx fl n).bk (nxF pl fl n) k).Perm (parN al al.length):=by
  refine hperm.2 ⟨hcounts,λq hq=>?_⟩
  obtain⟨j,h1,rfl⟩:=hpar q hq
  exact hcj j (by omega)
 rw[if_neg (λh=>h (if_neg λg=>g hpm))]at hsc
 refine zk.ghost (λm (st:Int×Unit) w'=>Below w8.heap.size w8 w'/\∃c:Nat,2*c<=al.length/\m=al.length-2*c/\st=(((2*c:Nat):Int),())/\∀j,j<c->(!mayU pl fl (nxF pl fl n) n (al.getD (2*j) ag0).2.1 (lbN (fx fl n).bk (al.getD (2*j+1) ag0).2.1) (bx (fx fl n).bk (lbN (fx fl n).bk (al.getD (2*j+1) ag0).2.1)).2.2)=false) al.length ⟨b19,0,by omega,by omega,rfl,λj h=>by omega⟩ ?_
 rintro _ _ w21 ⟨b21,c2,hc2,rfl,rfl,hcj2⟩ next7 hnext7
 dsimp only
 refine hld b21 (zf (λg4=>?_) (λg4=>?_))
 ·have hcl:2*c2+1<al.length:=by omega
  have bd:Below w21.heap.size w21 w21.drew:=(Below.refl _ _).drew
  have b21d:=b21.on bd
  rw[zr (by omega)]
  refine Bv.load (hP8.below b21d) (hld b21d (zbt (hAl b21d) hcl ?_))
  rw[<-zs (d:=ag0) hcl]
  refine zd8 (h8.below b21d) λw22 b22=>⟨_,rfl,?_⟩
  have hsome:=hcj c2 (by omega)
  obtain⟨z',hz'⟩:=Option.isSome_iff_exists.1 hsome
  obtain⟨hzl,_⟩:=zfn hz'
  have hlbn:lbN (fx fl n).bk (al.getD (2*c2+1) ag0).2.1=z':=by unfold lbN;rw[hz'];rfl
  rw[hz']
  have b22d:=(b21d.on b22).drew
  refine Bv.load (hP8.below b22d) (hld b22d (zbt (hAl b22d) (k:=2*c2) (by omega) (Z8 (hP8.below b22d) ?_)))
  show(0<=(z':Int)/\(z':Int)<_)/\_
  refine zl2 (h8.below b22d).hB hzl ?_
  have hbx:bx (fx fl n).bk z'=(fx fl n).bk[z']:=zs hzl
  rw[<-hbx,<-zs (d:=ag0) (show 2*c2<al.length by omega)]
  refine zmX F (h8.below b22d) ok hzl λw23 b23=>⟨_,rfl,zo (λe2=>?_) (λe2=>?_)⟩
  ·have:=hR w23 (b08.on (b22d.on b23))
   rw[hsc,if_pos (List.any_eq_true.2 ⟨c2,List.mem_range.2 (by omega),by rw[hlbn];exact e2⟩)]at this
   exact this
  ·rw[(zfR (by omega)).1]
   refine hnext7 (al.length-2*(c2+1)) _ w23 (by omega) ⟨b22d.on b23,c2+1,by omega,rfl,rfl,λj hj=>?_⟩
   by_cases ej:j=c2
   ·subst ej;rw[hlbn];exact e2
   ·exact hcj2 j (by omega)
 ·have:=hR w21 (b08.on b21)
  rw[hsc,if_neg λh=>?_]at this
  ·exact this
  ·obtain⟨q,h1,h2⟩:=List.any_eq_true.1 h
   rw[List.mem_range]at h1
   rw[hcj2 q (by omega)]at h2
   cases h2
end
structure Cv (pl:List PI) (fl:List FnL) (S:Hm->Prop) (M:List (Int×Hm)):Prop where
 ok:∀id h,zW M id=some h->hmO pl fl id=some h
 all:∀id h,hmO pl fl id=some h->S h->zW M id=some h
section
variable {pl:List PI} {fl:List FnL} {S S':Hm->Prop} {M:List (Int×Hm)}
theorem Cv.less(h:Cv pl fl S M)(hS:∀id hh,hmO pl fl id=some hh->S' hh->S hh):Cv pl fl S' M:=⟨h.ok,λid hh h1 h2=>h.all id hh h1 (hS id hh h1 h2)⟩
theorem Cv.set(F:Fls pl fl)(h:Cv pl fl S M){id:Int}{h0:Hm}(hh0:hmO pl fl id=some h0)(hS:∀id' hh,hmO pl fl id'=some hh->S' hh->S hh\/hh.2.2.1=h0.2.2.1):Cv pl fl S' (setQ M id h0):=by
 refine⟨λid' hh h1=>?_,λid' hh h1 h2=>?_⟩
 ·rw[zhs]at h1
  split at h1
  ·rename_i e
   rw[e,hh0,h1]
  ·exact h.ok id' hh h1
 ·rw[zhs]
  have eq:id'=id->some h0=some hh:=λe=>by rw[<-hh0,<-h1,e]
  split
  ·rename_i e
   exact eq e
  ·rename_i e
   rcases hS id' hh h1 h2 with h3 |h3
   ·exact h.all id' hh h1 h3
   ·obtain⟨_,i,_,_,_,e1,e2,_⟩:=F.home_inv h1
    obtain⟨_,j,_,_,_,e3,e4,_⟩:=F.home_inv hh0
    have:i=j:=by omega
    subst this
    exact absurd (e2.symm.trans e4) e
end
section
variable {w:World} {R:VWP} {x:Mo} {pl:List PI} {fl:List FnL}
set_option maxHeartbeats 1000000 in
theorem zpE(F:Fls pl fl)(hp:PlOk pl){fs:Sl}{L:List Fe}(hL:Fns w fs L)(hLc:L.map (·.1)=fl)(hN:IsPl w x.2.2.1 pl)
  (hR:∀w' hr M,IsHm w' hr M->(∀id,zW M id=hmO pl fl id)->Below w.heap.size w w'->R (.map (some hr)) w'):cR 56 #[moA x,.slice fs.a fs.l fs.c] w R:=by
 refine za.of (zjN x fs R w ?_) λ_ _ h=>h
 refine zn λw1 hB1 b1 z1=>?_
 have hB1:Blk w1 w.heap.size 25 (moV x):=hB1
 refine Nw.gen λw2 e2=>?_
 have m2:IsHm w2 w1.heap.size []:=by rw[e2];exact IsMq.new _ _
 have b2:Below w1.heap.size w1 w2:=by rw[e2];exact(Below.refl _ _).alloc (Nat.le_refl _) _
 clear e2
 generalize hr:w1.heap.size=r at m2
 have hrw:w.heap.size<r:=by omega
 have hlen:=hp.len
 have hbound:L.length<=9223372036854775807:=(Own.isC Yj (by omega) hL.own:IsC 5 feV w fs L).bound
 have hfl:L.length=fl.length:=by rw[<-hLc,List.length_map]
 have hget:∀k (h:k<L.length),L[k].1=fx fl k:=λk h=>by
  unfold fx
  rw[zs (by omega)]
  have:(L.map (·.1))[k]'(by rwa[List.length_map])=fl[k]'(by omega):=by congr 1
  rwa[List.getElem_map]at this
 refine zk.count L.length hbound (λk w'=>Below w.heap.size w w'/\Blk w' w.heap.size 25 (moV x)/\∃M,IsHm w' r M/\Cv pl fl (λh=>h.1<(k:Int)) M)
  ⟨b1.on b2,hB1.below b2,[],m2,λid h e=>(by cases e),λid h e1 e2=>by obtain⟨n,_,e3,_⟩:=F.home_inv e1;have e2:h.1<0:=e2;omega⟩ ?_
 rintro n w3 hn ⟨b3,hB3,M,m3,c3⟩ next hnext
 have hll:=hL.len
 refine zf (λh=>?_) (λh=>?_)
 rotate_left
 ·have hne:n=L.length:=by dsimp only at h;omega
  refine hR w3 r M m3 (λid=>?_) b3
  cases ho:hmO pl fl id with
  |none=>
   cases hq:zW M id with
   |none=>rfl
   |some h=>rw[c3.ok id h hq]at ho;cases ho
  |some h=>
   obtain⟨n',_,e1,e2,_⟩:=F.home_inv ho
   exact c3.all id h ho (by show h.1<(n:Int);omega)
 have hlt:n<L.length:=by dsimp only at h;omega
 have hnf:n<fl.length:=by omega
 have hFn:IsFn w (L[n].1.id,L[n].1.at_,L[n].2.1,L[n].2.2,L[n].1.en,()) (fx fl n):=by rw[<-hget n hlt];exact hL.isFn (List.getElem_mem hlt)
 have hps:IsI w L[n].2.1 (fx fl n).ps:=hFn.ps
 have hbk:IsBk w L[n].2.2 (fx fl n).bk:=hFn.bk
 refine znx (hL.below b3) hlt (zn λw4 hX4 b4 z4=>st5 hX4 rfl λw9 hX9 c9=>?_)
 have hX9:Blk w9 w3.heap.size 46 (fvV (L[n].1.id,L[n].1.at_,L[n].2.1,L[n].2.2,L[n].1.en,())):=hX9
 have b39:Below w3.heap.size w3 w9:=c9.below b4 (Nat.le_refl _)
 have b09:=b3.on b39
 have hB9:=hB3.below b39
 have m9:=m3.below b39
 have hr3:r<w3.heap.size:=m3.lt
 refine hX9.rS (n:=2) (x:=L[n].2.1) rfl ?_
 refine zk.count (fx fl n).ps.length hps.bound (λj w'=>Below w.heap.size w w'/\Blk w' w.heap.size 25 (moV x)/\Blk w' w3.heap.size 46 (fvV (L[n].1.id,L[n].1.at_,L[n].2.1,L[n].2.2,L[n].1.en,()))/\
   ∃M,IsHm w' r M/\Cv pl fl (λh=>h.1<(n:Int)\/(h.1=(n:Int)/\h.2.1=-1/\∃q,∃hq:q<(fx fl n).ps.length,q<j/\(fx fl n).ps[q]=h.2.2.1)) M)
  ⟨b09,hB9,hX9,M,m9,c3.less λid hh _ h2=>h2.elim (λh=>h) λh=>by obtain⟨_,_,q,_,h,_⟩:=h;omega⟩ ?_
 rintro j w10 hj ⟨b10,hB10,hX10,M10,m10,c10⟩ next2 hnext2
 have hpl:=hps.len
 refine zf (λh=>?_) (λh=>?_)
 ·have hjl:j<(fx fl n).ps.length:=by dsimp only at h;omega
  refine zdz (hps.below b10) hjl (hB10.rS (n:=2) (x:=x.2.2.1) rfl ?_)
  obtain⟨kk,ek,hkk,hho⟩:=F.homeP hnf (List.getElem_mem hjl)
  have hix:=yg hkk
  rw[ek]
  refine zl3 (hN.below b10) hkk (zkZ zpo uU32 m10 (v:=((n:Int),-1,(kk:Int),false,())) rfl λw11 m11 c11=>hnext2 w11 hjl ⟨c11.below b10 (by omega),c11.blk hB10 (by omega),c11.blk hX10 (by omega),_,m11,?_⟩)
  rw[<-hix]
  refine c10.set F hho λid' hh h1 h2=>?_
  rcases h2 with h2 | ⟨h2,h3,q,hq,h4,h5⟩
  ·exact .inl (.inl h2)
  ·by_cases e:q=j
   ·subst e
    exact .inr (by rw[<-h5,ek])
   ·exact .inl (.inr ⟨h2,h3,q,hq,by omega,h5⟩)
 have hjp:j=(fx fl n).ps.length:=by dsimp only at h;omega
 subst hjp
 have c10':Cv pl fl (λh=>h.1<(n:Int)\/(h.1=(n:Int)/\h.2.1<((0:Nat):Int))) M10:=c10.less λid hh h1 h2=>by
  rcases h2 with h2 | ⟨h2,h3⟩
  ·exact .inl h2
  ·obtain⟨n',i,e1,_,_,e4,_,_,_,_,e5⟩:=F.home_inv h1
   have:n'=n:=by omega
   subst this
   rcases e5 with⟨e5,e6,_⟩ | ⟨k,_,e5,_⟩
   ·obtain⟨q,hq,e⟩:=List.getElem_of_mem e6
    exact .inr ⟨h2,e5,q,hq,hq,by omega⟩
   ·omega
 clear c10 hnext2
 refine hX10.rS (n:=3) (x:=L[n].2.2) rfl ?_
 have hbmax:(fx fl n).bk.length<=9223372036854775807:=hbk.bound
 refine zk.count (fx fl n).bk.length hbmax (λk w'=>Below w.heap.size w w'/\Blk w' w.heap.size 25 (moV x)/\Blk w' w3.heap.size 46 (fvV (L[n].1.id,L[n].1.at_,L[n].2.1,L[n].2.2,L[n].1.en,()))/\
   ∃M,IsHm w' r M/\Cv pl fl (λh=>h.1<(n:Int)\/(h.1=(n:Int)/\h.2.1<(k:Int))) M) ⟨b10,hB10,hX10,M10,m10,c10'⟩ ?_
 rintro k w12 hk ⟨b12,hB12,hX12,M12,m12,c12⟩ next3 hnext3
 have hbl:=hbk.len
 refine zf (λh=>?_) (λh=>?_)
 rotate_left
 ·have hke:k=(fx fl n).bk.length:=by dsimp only at h;omega
  refine hnext w12 hlt ⟨b12,hB12,M12,m12,c12.less λid hh h1 h2=>?_⟩
  have h2:hh.1<((n+1:Nat):Int):=h2
  by_cases e:hh.1<(n:Int)
  ·exact .inl e
  ·obtain⟨n',i,e1,_,_,e4,_,_,_,_,e5⟩:=F.home_inv h1
   have:n'=n:=by omega
   subst this
   refine .inr ⟨by omega,?_⟩
   rcases e5 with⟨e5,_,_⟩ | ⟨q,hq,e5,_⟩<;>omega
 have hkl:k<(fx fl n).bk.length:=by dsimp only at h;omega
 obtain⟨f,t,hbx,hft,htl,hop,_,_⟩:=F.bl hnf hkl
 have hbk12:=IsC.below zU hbk b12
 have hgb:bx (fx fl n).bk k=(fx fl n).bk[k]:=zs hkl
 refine zf4 hbk12 hkl (box3 rfl λw16 h16 b16 z16=>?_)
 rw[<-hgb,hbx]at h16
 have b016:=b12.on b16
 refine h16.rI0 rfl (h16.rI (n:=1) rfl ?_)
 have hhl:=F.homeL hnf hkl
 rw[hbx]at hhl
 have hr12:r<w12.heap.size:=m12.lt
 refine zkZ zpo uU32 (m12.below b16) (v:=((n:Int),(k:Int),(f:Int),true,())) rfl λw17 m17 c17=>?_
 have h17:=c17.blk h16 (by omega)
 refine h17.rI (n:=1) rfl ?_
 have e1:(bx (fx fl n).bk k).2.1=(f:Int):=by rw[hbx]
 have e2:(bx (fx fl n).bk k).2.2=(t:Int):=by rw[hbx]
 refine zk.ghost (λm (s:Int×Unit) w'=>∃i:Nat,s=((i:Int),())/\m=t-i/\f<i/\i<=t/\Below w.heap.size w w'/\Blk w' w.heap.size 25 (moV x)/\Blk w' w3.heap.size 46 (fvV (L[n].1.id,L[n].1.at_,L[n].2.1,L[n].2.2,L[n].1.en,()))/\
   Blk w' w12.heap.size 42 [.int .u32 (ix pl f).2.2.1,.int .i64 (f:Int),.int .i64 (t:Int)]/\∃M,IsHm w' r M/\Cv pl fl (λh=>h.1<(n:Int)\/(h.1=(n:Int)/\(h.2.1<(k:Int)\/(h.2.1=(k:Int)/\h.2.2.1<(i:Int))))) M) (t-(f+1))
  ⟨f+1,by rw[zr (k:=f) (by omega)],rfl,by omega,by omega,c17.below b016 (by omega),c17.blk (hB12.below b16) (by omega),c17.blk (hX12.below b16) (by omega),h17,_,m17,?_⟩ ?_
 ·refine c12.set F hhl λid' hh h1 h2=>?_
  rcases h2 with h2 | ⟨h2,h3 | ⟨h3,h4⟩⟩
  ·exact .inl (.inl h2)
  ·exact .inl (.inr ⟨h2,h3⟩)
  ·obtain⟨n',i,q1,_,_,q4,_,_,_,_,q5⟩:=F.home_inv h1
   have:n'=n:=by omega
   subst this
   right
   rcases q5 with⟨q5,_,_⟩ | ⟨q,hq,q5,q6,_⟩
   ·omega
   ·have:q=k:=by omega
    subst this
    show hh.2.2.1=(f:Int)
    omega
 rintro _ _ w18 ⟨i,rfl,rfl,hfi,hit,b18,hB18,hX18,hK18,M18,m18,c18⟩ next4 hnext4
 refine hK18.rI (n:=2) rfl (zf (λh=>?_) (λh=>?_))
 ·have hlt4:i<t:=by dsimp only at h;omega
  have hil:i<pl.length:=by omega
  have hix:=yg hil
  refine zl.all (hB18.rS (n:=2) (x:=x.2.2.1) rfl (zl3 (hN.below b18) hil ?_))
  rw[zr (by omega)]
  refine zt (λe=>?_) (λe=>?_)
  ·have e:(ix pl i).2.2.1≠0:=by rw[hix];exact e
   have hho:=F.homeI hnf hkl (by omega) (by omega) e
   refine zkZ zpo uU32 m18 (v:=((n:Int),(k:Int),(i:Int),false,())) rfl λw19 m19 c19=>hnext4 (t-(i+1)) _ w19 (by omega) ⟨i+1,rfl,rfl,by omega,by omega,c19.below b18 (by omega),c19.blk hB18 (by omega),c19.blk hX18 (by omega),c19.blk hK18 (by omega),_,m19,?_⟩
   rw[<-hix]
   refine c18.set F hho λid' hh h1 h2=>?_
   rcases h2 with h2 | ⟨h2,h3 | ⟨h3,h4⟩⟩
   ·exact .inl (.inl h2)
   ·exact .inl (.inr ⟨h2,.inl h3⟩)
   ·by_cases ei:hh.2.2.1=(i:Int)
    ·exact .inr ei
    ·exact .inl (.inr ⟨h2,.inr ⟨h3,by omega⟩⟩)
  ·have e:(ix pl i).2.2.1=0:=by rw[hix];exact e
   refine hnext4 (t-(i+1)) _ w18 (by omega) ⟨i+1,rfl,rfl,by omega,by omega,b18,hB18,hX18,hK18,M18,m18,c18.less λid' hh h1 h2=>?_⟩
   rcases h2 with h2 | ⟨h2,h3 | ⟨h3,h4⟩⟩
   ·exact .inl h2
   ·exact .inr ⟨h2,.inl h3⟩
   ·refine .inr ⟨h2,.inr ⟨h3,?_⟩⟩
    obtain⟨n',i',_,_,_,q4,q5,q6,_⟩:=F.home_inv h1
    have:i'≠i:=λe'=>by subst e';rw[e]at q5;exact q6 q5.symm
    omega
 ·have hie:i=t:=by dsimp only at h;omega
  subst hie
  refine hnext3 w18 hkl ⟨b18,hB18,hX18,M18,m18,c18.less λid' hh h1 h2=>?_⟩
  rcases h2 with h2 | ⟨h2,h3⟩
  ·exact .inl h2
  ·by_cases ek:hh.2.1<(k:Int)
   ·exact .inr ⟨h2,.inl ek⟩
   ·refine .inr ⟨h2,.inr ⟨by omega,?_⟩⟩
    obtain⟨n',i',q1,_,_,q4,_,_,_,_,q5⟩:=F.home_inv h1
    have:n'=n:=by omega
    subst this
    rcases q5 with⟨q5,_,_⟩ | ⟨q,hq,q5,q6,q7,_⟩
    ·omega
    ·have:q=k:=by omega
     subst this
     omega
end
noncomputable def bodS(pl:List PI)(fl:List FnL)(n:Nat):Int×Int:=match bodE pl fl n with
 |some p=>p
 |none=>(0,0)
section
variable {w:World} {R:VWP} {bb n:Nat} {x:Mo} {pl:List PI} {fl:List FnL}
theorem zqn(hR:∀w',Blk w' w.heap.size 126 [.func (.func 124) #[.pointer (some (Gk.blk bb))] #[],.func (.func 125) #[.pointer (some (Gk.blk bb))] #[],.func (.func 126) #[.pointer (some (Gk.blk bb))] #[]]->Below w.heap.size w w'->
   R (.slice (some (Gk.blk w.heap.size)) 3 3) w'):cR 96 #[.pointer (some (Gk.blk bb))] w R:=by
 refine za.of (zg4 _ R w ?_) λ_ _ h=>h
 exact zn λw1 hB1 b1 z1=>hR w1 hB1 b1
theorem zmy{k i:Nat}(hi:i<pl.length)(h1:(bx (fx fl n).bk k).2.1<=(i:Int))(h2:(i:Int)<(bx (fx fl n).bk k).2.2)(hf:fltU pl fl (nxF pl fl n) n k i≠0)(hj:∀j:Nat,(bx (fx fl n).bk k).2.1<=(j:Int)->j<i->fltU pl fl (nxF pl fl n) n k j=0) :
  bodK pl fl n k=some (fltU pl fl (nxF pl fl n) n k i,(i:Int)):=by
 refine zev hi (if_pos ⟨⟨h1,h2⟩,hf⟩) λj hji=>if_neg λh=>h.2 (hj j h.1.1 hji)
theorem zmx{k:Nat}(hj:∀j:Nat,(bx (fx fl n).bk k).2.1<=(j:Int)->(j:Int)<(bx (fx fl n).bk k).2.2->fltU pl fl (nxF pl fl n) n k j=0):bodK pl fl n k=none:=
 zj0 λj _=>if_neg λh=>h.2 (hj j h.1.1 h.1.2)
set_option maxHeartbeats 1000000 in
theorem zp4(F:Fls pl fl)(hp:PlOk pl)(hn:n<fl.length)(h:IsBd w bb x pl fl n)(hR:∀w',Below w.heap.size w w'->R (.agg #[.int .i64 (bodS pl fl n).1,.int .i64 (bodS pl fl n).2]) w') :
  cR 58 #[.pointer (some (Gk.blk bb))] w R:=by
 refine za.of (zg3 _ R w ?_) λ_ _ h=>h
 refine zn λw1 hS1 b1 z1=>?_
 have hS1:Blk w1 w.heap.size 29 [.int .i64 0,.int .i64 0]:=hS1
 refine zqn λw2 hr2 b2=>⟨⟨some (Gk.blk w1.heap.size),3,3⟩,rfl,?_⟩
 have b02:=b1.on b2
 have hS2:=hS1.below b2
 have h2:=h.below b02
 obtain⟨v,hr,gb,tb,M,ov,dp,hB,hN,hF,hM,hl,hG,hD⟩:=h2.ex
 have s1:=b1.size
 have out:∀{w':World} (e a:Int),Blk w' w.heap.size 29 [.int .i64 0,.int .i64 0]->Below w.heap.size w w'->(e,a)=bodS pl fl n->
   Wr w' (Gk.blk w.heap.size)/\Nw (w'.setCell (Gk.blk w.heap.size) (.int .i64 e)) λw8=>Wr w8 ((Gk.blk w.heap.size).add 1)/\Nw (w8.setCell ((Gk.blk w.heap.size).add 1) (.int .i64 a)) λw9=>ldI w9 ((Gk.blk w.heap.size).add 0) .i64 λx9=>ldI w9 ((Gk.blk w.heap.size).add 1) .i64 λx10=>
    R (.agg #[.int .i64 x9,.int .i64 x10]) w9:=λ{w'} e a hS hb he=>
  st2 hS rfl λw9 hS9 c9=>Sp.load hS9 (by
   have:=hR w9 (c9.below hb (Nat.le_refl _))
   rw[<-he]at this
   exact this)
 refine zj rfl (zeW hB ?_)
 have hbk:=hF.bk
 have hbmax:(fx fl n).bk.length<=9223372036854775807:=hbk.bound
 have hbl:=hbk.len
 refine zk.count (fx fl n).bk.length hbmax (λk w'=>Below w2.heap.size w2 w'/\∀j,j<k->bodK pl fl n j=none) ⟨Below.refl _ _,λj h=>by omega⟩ ?_
 rintro k w3 hk ⟨b3,hj⟩ next hnext
 have b03:=b02.on b3
 refine zf (λg=>?_) (λg=>?_)
 rotate_left
 ·refine out 0 0 (hS2.below b3) b03 ?_
  unfold bodS bodE
  rw[zj0 λj hj'=>hj j (by dsimp only at g;omega)]
 have hkl:k<(fx fl n).bk.length:=by dsimp only at g;omega
 obtain⟨f,t,hbx,hft,htl,hop,_,_⟩:=F.bl hn hkl
 have hgb:bx (fx fl n).bk k=(fx fl n).bk[k]:=zs hkl
 have e1:(bx (fx fl n).bk k).2.1=(f:Int):=by rw[hbx]
 have e2:(bx (fx fl n).bk k).2.2=(t:Int):=by rw[hbx]
 have hlen:=hp.len
 refine zf4 (IsC.below zU hbk b3) hkl (box3 rfl λw7 h7 b7 z7=>?_)
 rw[<-hgb,hbx]at h7
 refine h7.rI (n:=1) rfl ?_
 refine zk.ghost (λm (s:Int×Unit) w'=>∃i:Nat,s=((i:Int),())/\m=t-i/\f<=i/\i<=t/\Below w7.heap.size w7 w'/\∀q,f<=q->q<i->fltU pl fl (nxF pl fl n) n k q=0) (t-f) ⟨f,rfl,rfl,Nat.le_refl _,by omega,Below.refl _ _,λq h1 h2=>by omega⟩ ?_
 rintro _ _ w8 ⟨i,rfl,rfl,hfi,hit,b8,hq⟩ next2 hnext2
 refine(h7.below b8).rI (n:=2) rfl (zf (λg2=>?_) (λg2=>?_))
 rotate_left
 ·refine hnext w8 hkl ⟨b3.on (b7.on b8),λj h1=>?_⟩
  by_cases e:j=k
  ·subst e
   exact zmx λq h2 h3=>hq q (by omega) (by dsimp only at g2;omega)
  ·exact hj j (by omega)
 have hlt:i<t:=by dsimp only at g2;omega
 have hil:i<pl.length:=by omega
 have b28:=b3.on (b7.on b8)
 have b08:=b02.on b28
 have h8:=h2.below b28
 have hr8:=hr2.below b28
 have hS8:=hS2.below b28
 have hcf1:Tryz.fs.contains 124=true:=by kernel_rfl
 have hcf2:Tryz.fs.contains 125=true:=by kernel_rfl
 have hcf3:Tryz.fs.contains 126=true:=by kernel_rfl
 have hflt:=znz pl fl (nxF pl fl n) n k i
 have fail:∀{w':World} {e:Int},Below w8.heap.size w8 w'->e≠0->fltU pl fl (nxF pl fl n) n k i=e->
   Wr w' (Gk.blk w.heap.size)/\Nw (w'.setCell (Gk.blk w.heap.size) (.int .i64 e)) λw8=>Wr w8 ((Gk.blk w.heap.size).add 1)/\Nw (w8.setCell ((Gk.blk w.heap.size).add 1) (.int .i64 (i:Int))) λw9=>ldI w9 ((Gk.blk w.heap.size).add 0) .i64 λx9=>ldI w9 ((Gk.blk w.heap.size).add 1) .i64 λx10=>
    R (.agg #[.int .i64 x9,.int .i64 x10]) w9:=λ{w' e} hb hne he=>by
  refine out e (i:Int) (hS8.below hb) (b08.on hb) ?_
  unfold bodS bodE
  rw[zev hkl (zmy (i:=i) hil (by omega) (by omega) (by rw[he];exact hne) λj h1 h2=>hq j (by omega) h2) λj h1=>hj j h1,he]
 refine zk.count 3 (by decide) (λc w'=>Below w8.heap.size w8 w'/\(0<c->zd9 pl fl n i=0)/\(1<c->phiU pl fl (nxF pl fl n) n k i=0)/\(2<c->useU pl fl (nxF pl fl n) n k i=0)) ⟨Below.refl _ _,λh=>by omega,λh=>by omega,λh=>by omega⟩ ?_
 rintro c w9 hc ⟨b9,g1,g2',g3⟩ next3 hnext3
 have h9:=h8.below b9
 have hr9:=hr8.below b9
 refine zf (λg4=>?_) (λg4=>?_)
 ·have hc3:c<3:=by dsimp only at g4;omega
  refine⟨⟨by omega,g4⟩,?_⟩
  match c,hc3 with
  | 0,_=>
   refine zj rfl ⟨_,hr9.cell (n:=0) rfl,zjH hcf1 (zqq hp h9 hil λw10 b10=>⟨_,rfl,zt (λe=>?_) (λe=>?_)⟩)⟩
   ·exact fail (b9.on b10) e (by rw[hflt,if_pos e])
   ·exact hnext3 w10 (by decide) ⟨b9.on b10,λ_=>e,λh=>by omega,λh=>by omega⟩
  | 1,_=>
   refine zj rfl ⟨_,hr9.cell (n:=1) rfl,zjH hcf2 (zsE hp h9 hil λw10 b10=>⟨_,rfl,zt (λe=>?_) (λe=>?_)⟩)⟩
   ·exact fail (b9.on b10) e (by rw[hflt,if_neg (λh=>h (g1 (by decide))),if_pos e])
   ·exact hnext3 w10 (by decide) ⟨b9.on b10,λ_=>g1 (by decide),λ_=>e,λh=>by omega⟩
  | 2,_=>
   refine zj rfl ⟨_,hr9.cell (n:=2) rfl,zjH hcf3 (zsS F hp hn h9 hil hkl (g2' (by decide)) λw10 b10=>⟨_,rfl,zt (λe=>?_) (λe=>?_)⟩)⟩
   ·exact fail (b9.on b10) e (by rw[hflt,if_neg (λh=>h (g1 (by decide))),if_neg (λh=>h (g2' (by decide)))])
   ·exact hnext3 w10 (by decide) ⟨b9.on b10,λ_=>g1 (by decide),λ_=>g2' (by decide),λ_=>e⟩
 ·have hc3:c=3:=by dsimp only at g4;omega
  subst hc3
  rw[zr (by omega)]
  refine hnext2 (t-(i+1)) _ w9 (by omega) ⟨i+1,rfl,rfl,by omega,by omega,b8.on b9,λq h1 h2=>?_⟩
  by_cases e:q=i
  ·subst e
   rw[hflt,if_neg (λh=>h (g1 (by decide))),if_neg (λh=>h (g2' (by decide))),g3 (by decide)]
  ·exact hq q h1 (by omega)
end
theorem ePtr:YT Tryz.prog 73 76 1 8:=⟨by kernel_rfl,Tryz.t76,.pointer none,by kernel_rfl,rfl,rfl,rfl,rfl⟩
theorem zsH{l:List FnL}:∀{m:Nat},(∀f∈l,f.at_+3<=f.en/\(m:Int)<=f.at_)->l.Pairwise (λf g=>f.en<g.at_)->∀{n:Nat},m<=n->(∀f∈l,f.en<(n:Int))->4*l.length<=n-m:=by
 induction l with
 |nil=>intro m _ _ n _ _;exact Nat.zero_le _
 |cons f l ih=>
  intro m h1 h2 n hmn h3
  rw[List.pairwise_cons]at h2
  obtain⟨g1,g2⟩:=h1 f (List.mem_cons_self ..)
  have g3:=h3 f (List.mem_cons_self ..)
  have:=ih (m:=m+4) (λg hg=>⟨(h1 g (List.mem_cons_of_mem _ hg)).1,by have:=h2.1 g hg;omega⟩) h2.2 (n:=n) (by omega) λg hg=>h3 g (List.mem_cons_of_mem _ hg)
  rw[List.length_cons]
  omega
theorem Fls.len4{pl:List PI}{fl:List FnL}(F:Fls pl fl):4*fl.length<=pl.length:=by
 have:=zsH (l:=fl) (m:=0) (λf hf=>by
  obtain⟨a,e,h1,h2,h3,_,_,_,T⟩:=(F.tile f hf).ex
  have hok:=F.fn f hf
  obtain⟨b,hb⟩:=List.exists_mem_of_ne_nil _ hok.ne
  obtain⟨g,t,q1,q2,_⟩:=(hok.ok b hb).ex
  have:=T.bks b hb
  rw[q1]at this
  dsimp only at this
  omega) F.pw (n:=pl.length) (Nat.zero_le _) λf hf=>(F.tile f hf).en_lt
 omega
theorem Fls.len{pl:List PI}{fl:List FnL}(F:Fls pl fl):fl.length<=pl.length:=by have:=F.len4;omega
section
variable {x:Mo} {pl:List PI} {w:World} {R:VWP}
abbrev ptrV(b:Nat):Value:=.pointer (some (Gk.blk b))
structure Bds (w:World) (s:Sl) (x:Mo) (pl:List PI) (fl:List FnL):Prop where
 ex:∃bs:List Nat,bs.length=fl.length/\IsS ptrV w s bs/\∀n (h:n<bs.length),IsBd w bs[n] x pl fl n
theorem Bds.below{w':World}{s:Sl}{fl:List FnL}(h:Bds w s x pl fl)(hb:Below w.heap.size w w'):Bds w' s x pl fl:=by
 obtain⟨bs,h1,h2,h3⟩:=h.ex
 exact⟨bs,h1,h2.below hb,λn hn=>(h3 n hn).below hb⟩
structure Flo (x:Mo) (pl:List PI) (fl:List FnL):Prop where
 ok:(zV x.2.1 pl).1=0
 eq:fl=cutF pl pl.length
 no:∀n,n<fl.length->flwE x pl fl n=none
theorem zrX(h:Flo x pl (cutF pl pl.length)):floE x pl=(0,0):=by
 unfold floE
 rw[if_neg (λq=>q h.ok),zj0 h.no]
theorem zq4(h:(zV x.2.1 pl).1≠0):floE x pl=((zV x.2.1 pl).1,((zV x.2.1 pl).2:Int)):=by
 unfold floE
 rw[if_pos h]
theorem zq3(h:(zV x.2.1 pl).1=0){n:Nat}{p:Int×Int}(hn:n<(cutF pl pl.length).length)(hp:flwE x pl (cutF pl pl.length) n=some p)(hj:∀j,j<n->flwE x pl (cutF pl pl.length) j=none):floE x pl=p:=by
 unfold floE
 rw[if_neg (λq=>q h),zev hn hp hj]
theorem ztK{fl:List FnL}{n:Nat}(h:(bodS pl fl n).1≠0):bodE pl fl n=some (bodS pl fl n):=by
 unfold bodS at h⊢
 cases hb:bodE pl fl n with
 |none=>rw[hb]at h;exact absurd rfl h
 |some p=>rfl
theorem ztc{fl:List FnL}{n k:Nat}{p:Int×Int}(h:bodK pl fl n k=some p):p.1≠0:=by
 unfold bodK at h
 obtain⟨i,_,h⟩:=List.exists_of_findSome?_eq_some h
 split at h
 ·rename_i g
  cases h
  exact g.2
 ·cases h
theorem ztJ{fl:List FnL}{n:Nat}(h:(bodS pl fl n).1=0):bodE pl fl n=none:=by
 unfold bodS at h
 cases hb:bodE pl fl n with
 |none=>rfl
 |some p=>
  rw[hb]at h
  unfold bodE at hb
  obtain⟨k,_,hb⟩:=List.exists_of_findSome?_eq_some hb
  exact absurd h (ztc hb)
set_option maxHeartbeats 1000000 in
theorem zoc(hN:IsPl w x.2.2.1 pl)(hp:PlOk pl)(h0:0<=x.2.1)
  (hbad:∀w',(floE x pl).1≠0->Below w.heap.size w w'->R (.tuple #[.slice none 0 0,.agg #[.int .i64 (floE x pl).1,.int .i64 (floE x pl).2]]) w')
  (hok:∀w' s,Flo x pl (cutF pl pl.length)->Bds w' s x pl (cutF pl pl.length)->Below w.heap.size w w'->R (.tuple #[.slice s.a s.l s.c,.agg #[.int .i64 0,.int .i64 0]]) w') :
  cR 25 #[moA x] w R:=by
 refine za.of (zjc x R w ?_) λ_ _ h=>h
 refine zn λw1 hB1 b1 z1=>?_
 have hB1:Blk w1 w.heap.size 25 (moV x):=hB1
 refine zn λw2 hS2 b2 z2=>?_
 have hS2:Blk w2 w1.heap.size 29 [.int .i64 0,.int .i64 0]:=hS2
 have hb2:=b1.on b2
 refine Mo.load (hB1.below b2) ?_
 refine zlc (x:=x) (hN.below hb2) hp λw3 b3=>⟨((zV x.2.1 pl).1,((zV x.2.1 pl).2:Int),()),rfl,?_⟩
 refine box2 rfl λw6 h6 b6 z6=>?_
 have b26:=b3.on b6
 have hb6:=hb2.on b26
 have hB6:=(hB1.below b2).below b26
 have hS6:=hS2.below b26
 have s1:=b1.size
 have bad:∀{w':World} (e a:Int),Blk w' w1.heap.size 29 [.int .i64 0,.int .i64 0]->Below w.heap.size w w'->(e,a)=floE x pl->e≠0->
   Wr w' (blk w1.heap.size)/\Nw (w'.setCell (blk w1.heap.size) (.int .i64 e)) λw8=>Wr w8 ((blk w1.heap.size).add 1)/\Nw (w8.setCell ((blk w1.heap.size).add 1) (.int .i64 a)) λw9=>ldI w9 ((blk w1.heap.size).add 0) .i64 λx9=>ldI w9 ((blk w1.heap.size).add 1) .i64 λx10=>
    R (.tuple #[.slice none 0 0,.agg #[.int .i64 x9,.int .i64 x10]]) w9:=λ{w'} e a hS hb he hne=>
  st2 hS rfl λw9 hS9 c9=>Sp.load hS9 (by
   have:=hbad w9 (by rw[<-he];exact hne) (c9.below hb (by omega))
   rw[<-he]at this
   exact this)
 refine h6.rI0 rfl (zt (λe=>?_) (λe=>?_))
 ·have e':(zV x.2.1 pl).1≠0:=e
  exact Sp.load h6.drew (bad _ _ hS6.drew hb6.drew (zq4 e').symm e')
 have e':(zV x.2.1 pl).1=0:=e
 obtain⟨k1,k2,k3⟩:=zeq e'
 have F:=Fls.of hp h0 e'
 refine Mo.load hB6 ?_
 refine znQ (x:=x) (hN.below hb6) hp (λfs L w9 _ b9 hL hLc=>⟨fs,(0,0,()),rfl,?_⟩) (λw9 hne _=>absurd k2 hne)
 refine box2 rfl λw12 h12 b12 z12=>?_
 have b612:=b9.on b12
 have hb12:=hb6.on b612
 have hL12:=hL.below b12
 have hS12:=hS6.below b612
 have hB12:=hB6.below b612
 have hll:=hL.len
 have hbadn:∀{n:Nat} {p:Int×Int},n<(cutF pl pl.length).length->flwE x pl (cutF pl pl.length) n=some p->(∀j,j<n->flwE x pl (cutF pl pl.length) j=none)->p=floE x pl:=λh1 h2 h3=>(zq3 e' h1 h2 h3).symm
 have hokn:(∀n,n<(cutF pl pl.length).length->flwE x pl (cutF pl pl.length) n=none)->Flo x pl (cutF pl pl.length):=λh=>⟨e',rfl,h⟩
 have hlenp:=hp.len
 have hfll:=F.len
 generalize hfl0:cutF pl pl.length=fl at *
 have hfl:L.length=fl.length:=by rw[<-hLc,List.length_map]
 have hget:∀k (h:k<L.length),L[k].1=fx fl k:=λk h=>by
  unfold fx
  rw[zs (by omega)]
  have:(L.map (·.1))[k]'(by rwa[List.length_map])=fl[k]'(by omega):=by congr 1
  rwa[List.getElem_map]at this
 refine Mo.load hB12 ?_
 refine zpE F hp hL12 hLc (hN.below hb12) λw13 hr M hM' hMl b13=>⟨some hr,rfl,?_⟩
 have hb13:=hb12.on b13
 have hB13:=hB12.below b13
 have hS13:=hS12.below b13
 have hL13:=hL12.below b13
 refine zk.countSl L.length (by omega) (λk s w'=>Below w13.heap.size w13 w'/\(∀j,j<k->flwE x pl fl j=none)/\zz w13.heap.size s/\∃bs:List Nat,bs.length=k/\Own w' 76 1 s (bs.map ptrV)/\
   ∀w'',Below w13.heap.size w13 w''->(∀i,i<w'.heap.size->s.a≠some (blk i)->w''.heap[i]? =w'.heap[i]?)->∀n (h:n<bs.length),IsBd w'' bs[n] x pl fl n)
  ⟨Below.refl _ _,λj h=>by omega,λa ha=>(by cases ha),[],rfl,Own.nil _ _ _,λ_ _ _ n h=>absurd h (Nat.not_lt_zero _)⟩ ?_
 rintro k s w14 hk ⟨b14,hgood,hFs,bs,hbl,hO,hbs⟩ next hnext
 have hb14:=hb13.on b14
 have hL14:=hL13.below b14
 have hB14:=hB13.below b14
 have hS14:=hS13.below b14
 refine zf (λh=>?_) (λh=>?_)
 rotate_left
 ·have hkl:k=L.length:=by dsimp only at h;omega
  refine st2 hS14 rfl λw9 hS9 c9=>?_
  have hb9:=c9.same hS14 hS9
  exact Sp.load hS9 (hok w9 s (hokn λn hn=>hgood n (by omega)) ⟨bs,by omega,hO.isS.below hb9,λn hn=>hbs w9 (b14.on hb9) (λi hi _=>hb9.block i hi) n hn⟩ (hb14.on hb9))
 have hlt:k<L.length:=by dsimp only at h;omega
 have hkf:k<fl.length:=by omega
 have hfe:=hget k hlt
 refine znx hL14 hlt (zn λw15 hX15 b15 z15=>st5 hX15 rfl λw20 hX20 c20=>?_)
 have b20:Below w14.heap.size w14 w20:=c20.below b15 (Nat.le_refl _)
 have hX20:Blk w20 w14.heap.size 46 (fvV (L[k].1.id,L[k].1.at_,L[k].2.1,L[k].2.2,L[k].1.en,())):=hX20
 have hb20:=hb14.on b20
 have hFk:IsFn w13 (L[k].1.id,L[k].1.at_,L[k].2.1,L[k].2.2,L[k].1.en,()) (fx fl k):=by rw[<-hfe];exact hL13.isFn (List.getElem_mem hlt)
 have hF20:=hFk.below (b14.on b20)
 have hB20:=hB14.below b20
 have hS20:=hS14.below b20
 refine Mo.load hB20 (Fv.load (v:=(L[k].1.id,L[k].1.at_,L[k].2.1,L[k].2.2,L[k].1.en,())) hX20 ?_)
 refine zpC (x:=x) (v:=(L[k].1.id,L[k].1.at_,L[k].2.1,L[k].2.2,L[k].1.en,())) (f:=fx fl k) (hN.below hb20) hp h0 hF20 (λw21 e a b21 he hne=>⟨none,⟨none,0,0⟩,(e,a,()),rfl,?_⟩) (λw21 gb ms b21 he _ hG hNx hM=>⟨some (blk gb),ms,(0,0,()),rfl,?_⟩)
 ·refine box2 rfl λw24 h24 b24 z24=>?_
  have b2024:=b21.on b24
  refine h24.rI0 rfl (zD (by simpa using hne) (Sp.load h24.drew ?_))
  have hn:flwE x pl fl k=some (e,a):=by
   unfold flwE
   rw[if_pos (by rw[<-he];exact hne),<-he]
  exact bad e a (hS20.below b2024).drew (hb20.on b2024).drew (hbadn hkf hn hgood) hne
 ·refine box2 rfl λw24 h24 b24 z24=>?_
  have b2024:=b21.on b24
  refine h24.rI0 rfl (zE rfl ?_)
  have hflw:flwE x pl fl k=bodE pl fl k:=by
   unfold flwE
   rw[if_neg (by rw[he];simp)]
  refine zqM hNx (hG.isG.below b24) λw27 tb ov dp b27 hD hSt hDp=>⟨some (blk tb),0,rfl,?_⟩
  obtain⟨ob,db,rb,hT⟩:=hD
  have b2027:=b2024.on b27
  have hb27:=hb20.on b2027
  refine Mo.load (hB20.below b2027) (Fv.load (v:=(L[k].1.id,L[k].1.at_,L[k].2.1,L[k].2.2,L[k].1.en,())) (hX20.below b2027) (zn λw28 hY28 b28 z28=>?_))
  have hY28:Blk w28 w27.heap.size 83 (bdV x k (L[k].1.id,L[k].1.at_,L[k].2.1,L[k].2.2,L[k].1.en,()) hr gb tb):=hY28
  have b2028:=b2027.on b28
  have b1428:=b20.on b2028
  have hG27:=(hG.below b24).below b27
  have mk:∀w'',Below w13.heap.size w13 w''->Blk w'' w27.heap.size 83 (bdV x k (L[k].1.id,L[k].1.at_,L[k].2.1,L[k].2.2,L[k].1.en,()) hr gb tb)->TB w'' tb gb ob db rb (nxF pl fl k).length (λi=>ovI (ov i)) dp (rkI (zC (nxF pl fl k)))->IsG w'' gb (nxF pl fl k)->IsBd w'' w27.heap.size x pl fl k:=
   λw'' b hY hTB hGG=>⟨_,hr,gb,tb,M,ov,dp,hY,(hN.below hb13).below b,hFk.below b,hM'.below b,hMl,hGG,⟨hNx,⟨gb,ob,db,rb,hTB,hGG⟩,hSt,hDp⟩⟩
  have hBd:=mk w28 (b14.on b1428) hY28 (hT.below b28) (hG27.below b28).isG
  refine zp4 F hp hkf hBd λw29 b29=>⟨((bodS pl fl k).1,(bodS pl fl k).2,()),rfl,?_⟩
  refine box2 rfl λw32 h32 b32 z32=>?_
  have b2832:=b29.on b32
  have b1432:=b1428.on b2832
  refine h32.rI0 rfl (zt (λe=>?_) (λe=>?_))
  ·have e:(bodS pl fl k).1≠0:=e
   exact Sp.load h32.drew (bad _ _ (hS14.below b1432).drew (hb14.on b1432).drew (hbadn hkf (by rw[hflw,ztK e]) hgood) e)
  ·have e:(bodS pl fl k).1=0:=e
   refine zn λw35 h35 b35 z35=>?_
   have b1435:=b1432.on b35
   have hsl:s.l=k:=by have:=hO.1;simp only[List.length_map]at this;omega
   have hO35:=hO.below b1435
   refine zcR ePtr hO35 (vs:=[ptrV w27.heap.size]) rfl (λu hu=>by rw[List.mem_singleton.1 hu];rfl) h35 (by omega) (by omega) λr w36 b' hr36 _ hra hb' f36=>?_
   have z14:=b14.size
   have z1435:=b1435.size
   have b36:Below w13.heap.size w13 w36:=zdw (b14.on b1435) f36 λi hi=>hFs _ hi
   have hF36:zz w13.heap.size r:=λa ha=>by
    rw[hra]at ha
    cases ha
    rcases hb' with h |h
    ·exact hFs _ h
    ·show w13.heap.size<=b'
     omega
   refine hnext r w36 hlt ⟨b36,λj hj=>?_,hF36,bs++[w27.heap.size],by rw[List.length_append,hbl];rfl,by rw[List.map_append];exact hr36,λw'' b'' hk'' n hn=>?_⟩
   ·by_cases ej:j=k
    ·subst ej;rw[hflw,ztJ e]
    ·exact hgood j (by omega)
   have z36:=f36.size
   have keep:∀i,i<w35.heap.size->s.a≠some (blk i)->w''.heap[i]? =w35.heap[i]?:=λi hi hne=>by
    rw[hk'' i (by omega) λe=>?_]
    ·exact f36.block i hi hne
    ·rw[hra]at e
     have e:b'=i:=by cases e;rfl
     subst e
     rcases hb' with h |h
     ·exact hne h
     ·omega
   rw[List.length_append,List.length_singleton]at hn
   by_cases en:n=k
   ·subst en
    rw[List.getElem_append_right (by omega)]
    simp only[hbl,Nat.sub_self,List.getElem_singleton]
    have off:∀{b:Nat} {T:TypeId} {cs:List Value},Blk w35 b T cs->T≠76->Blk w'' b T cs:=λ{b T cs} h hT=>h.of_block (keep b h.lt λe=>by
     obtain⟨cs',hc⟩:=hO35.type e
     exact hT (Blk.type h hc))
    have b2835:=b2832.on b35
    have hT35:=(hT.below b28).below b2835
    have hlow:∀i,w20.heap.size<=i->i<w35.heap.size->w''.heap[i]? =w35.heap[i]?:=λi h1 h2=>keep i h2 λe=>by
     have h3:i<w14.heap.size:=(hO.lt e).2
     have:=b20.size
     omega
    refine mk w'' b'' (off (hY28.below b2835) (by decide)) ⟨off hT35.t (by decide),off hT35.o (by decide),off hT35.d (by decide),off hT35.r (by decide),hT35.ne⟩ ((((hG27.below b28).below b2835).keep hlow).isG)
   ·rw[List.getElem_append_left (by omega)]
    refine hbs w'' b'' (λi hi hne=>?_) n (by omega)
    rw[keep i (by omega) hne]
    exact b1435.block i hi
end
end Go.Proofs
namespace Go.Proofs
open Go.Gk
set_option linter.unusedVariables false
set_option maxRecDepth 100000
set_option linter.unusedVariables false
set_option maxRecDepth 100000
def zcF:Ann:=(.q (.q (.seq none Z10 (.seq none Z10 (.seq none Z10 (.q (.q (.seq none (.q (.one (.loop ⟨[2,3,6],[(8,(.b .slice)),(9,(.b .slice)),(10,(.b (.int .i64)))]⟩ (.seq none Z13 (.seq none (.one (.q (.q (.seq none Z10 (.q (.q (.q (.seq none (.q (.one (.loop ⟨[2,3,6,8,9,10,11,14],[(15,(.b .slice)),(16,(.b (.int .i64)))]⟩ (.seq none Z13 (.seq none (.one (.q Z1W)) .nil))))) .nil)))))))) .nil))))) Z16))))))))
def zc3(p0:(Int×Int×Sl×Unit))(p1:(Int×Int×Sl×Sl×Int×Unit))(R:VWP)(w:World):Prop:=Nw (w.alloc (.cells #[zu p0.1,zu p0.2.1,p0.2.2.1.zw] 25)) λw1=>Nw (w1.alloc (.cells #[zu p1.1,zi p1.2.1,p1.2.2.1.zw,p1.2.2.2.1.zw,zi p1.2.2.2.2.1] 46)) λw2=>Nw (w2.alloc (.cells #[zi 0,zi 0] 29)) λw3=>da w3 (zB w) λx1 x2 x3=>dh 47 #[.agg #[zu x1,zu x2,x3.zw]] w3 λx5 w4=>de w4 #[zi 0,zi 0] 29 (zi x5.1) (zi x5.2.1) λw7=>ldI w7 (zB w4) .i64 λx6=>ifB (x6 !=0) (db w7.drew (zB w4) λx7 x8=>df w7.drew (zB w2) (zi x7) (zi x8) λw9=>db w9 (zB w2) λx9 x10=>R (.tuple #[.pointer none,.slice none 0 0,.agg #[zi x9,zi x10]]) w9) (da w7 (zB w) λx11 x12 x13=>dc w7 (zB w1) λx14 x15 x16 x17 x18=>dz 82 #[.agg #[zu x11,zu x12,x13.zw],.agg #[zu x14,zi x15,x16.zw,x17.zw,zi x18]] w7 λx20 w10=>ifB (!x20) (df w10 (zB w2) (zi 2) (zi 0) λw12=>db w12 (zB w2) λx21 x22=>R (.tuple #[.pointer none,.slice none 0 0,.agg #[zi x21,zi x22]]) w12) (ldS w10 ((zB w1).add 3) λx23=>ifB (decide ((x23.l:Int)>4096)) (ldI w10.drew ((zB w1).add 1) .i64 λx24=>df w10.drew (zB w2) (zi 4) (zi x24) λw14=>db w14 (zB w2) λx25 x26=>R (.tuple #[.pointer none,.slice none 0 0,.agg #[zi x25,zi x26]]) w14) (zk (S:=Sl×Sl×Int×Unit) (λs27 w15 n28=>ldS w15 ((zB w1).add 3) λx29=>ifB (decide (s27.2.2.1<(x29.l:Int))) (ldS w15 ((zB w1).add 3) λx30=>(0<=s27.2.2.1/\s27.2.2.1<(x30.l:Int))/\zc x30.a λa31=>ds w15 (a31.add (s27.2.2.1.toNat *3)) λx32 x33 x34=>dt w15 #[zu 0,zi 0,zi 0] 42 (zu x32) (zi x33) (zi x34) λw19=>da w19 (zB w) λx35 x36 x37=>dc w19 (zB w1) λx38 x39 x40 x41 x42=>ds w19 (zB w15) λx43 x44 x45=>dC 83 #[.agg #[zu x35,zu x36,x37.zw],.agg #[zu x38,zi x39,x40.zw,x41.zw,zi x42],.agg #[zu x43,zi x44,zi x45]] w19 λx47 x48 w20=>dt w20 #[zb 0,zi 0,zi 0] 106 (zb x47.1) (zi x47.2.1) (zi x47.2.2.1) λw24=>ifB (!x48) (ldI w24.drew ((zB w15).add 2) .i64 λx49=>df w24.drew (zB w2) (zi 140) (zi (IntKind.i64.wrap (x49-(2:Int)))) λw26=>db w26 (zB w2) λx50 x51=>R (.tuple #[.pointer none,.slice none 0 0,.agg #[zi x50,zi x51]]) w26) (dB w24 (zB w20) λx52 x53 x54=>Nw (w24.alloc (.cells #[zb x52,zi x53,zi x54] 106)) λw27=>zp Tryz.prog 52 (s27.2.1.zw) (.slice (some (zB w24)) 1 1) w27 λr55 w28=>ldS w28 ((zB w).add 2) λx56=>ldI w28 ((zB w15).add 2) .i64 λx57=>(0<=(IntKind.i64.wrap (x57-(1:Int)))/\(IntKind.i64.wrap (x57-(1:Int)))<(x56.l:Int))/\zc x56.a λa58=>dm w28 (a58.add ((Int.toNat (IntKind.i64.wrap (x57-(1:Int))))*4)) λx59 x60 x61 x62=>dk 84 #[.agg #[zh x59,zu x60,zu x61,x62.zw]] w28 λx64 w29=>zk (S:=Sl×Int×Unit) (λs65 w30 n66=>ifB (decide (s65.2.1<(x64.l:Int))) (dc w30.drew (zB w1) λx67 x68 x69 x70 x71=>(0<=s65.2.1/\s65.2.1<(x64.l:Int))/\zc x64.a λa72=>ldI w30.drew (a72.add s65.2.1.toNat) .u32 λx73=>dl 85 #[.agg #[zu x67,zi x68,x69.zw,x70.zw,zi x71],zu x73] w30.drew λx75 w31=>ifB (decide (x75<(0:Int))) (ldI w31.drew ((zB w15).add 2) .i64 λx76=>df w31.drew (zB w2) (zi 140) (zi (IntKind.i64.wrap (x76-(1:Int)))) λw33=>db w33 (zB w2) λx77 x78=>R (.tuple #[.pointer none,.slice none 0 0,.agg #[zi x77,zi x78]]) w33) (Nw (w31.alloc (.cells #[zi x75] 3)) λw34=>zp Tryz.prog 43 (s65.1.zw) (.slice (some (zB w31)) 1 1) w34 λr79 w35=>n66 (r79,(IntKind.i64.wrap (s65.2.1+(1:Int))),()) w35)) (Nw (w30.alloc (.cells #[s65.1.zw] 43)) λw36=>zp Tryz.prog 67 (s27.1.zw) (.slice (some (zB w30)) 1 1) w36 λr80 w37=>n28 (r80,r55,(IntKind.i64.wrap (s27.2.2.1+(1:Int))),()) w37)) ((Sl.mk none 0 0),0,()) w29)) (dr 86 #[s27.1.zw] w15 λx82 x83 w38=>df w38 (zB w2) (zi 0) (zi 0) λw40=>db w40 (zB w2) λx84 x85=>R (.tuple #[.pointer x82,s27.2.1.zw,.agg #[zi x84,zi x85]]) w40)) ((Sl.mk none 0 0),(Sl.mk none 0 0),0,()) w10)))
theorem zfi(p0)(p1)(R)(w)(h:zc3 p0 p1 R w):cC 49 #[.agg #[.int .u32 p0.1,.int .u32 p0.2.1,.slice p0.2.2.1.a p0.2.2.1.l p0.2.2.1.c],.agg #[.int .u32 p1.1,.int .i64 p1.2.1,.slice p1.2.2.1.a p1.2.2.1.l p1.2.2.1.c,.slice p1.2.2.2.1.a p1.2.2.2.1.l p1.2.2.2.1.c,.int .i64 p1.2.2.2.2.1]] w R:=lwC zcF Tryz.func49 h
def zbk:Ann:=(.q (.q (.seq none Z10 (.q (.seq (some ⟨[3,4,5,6,8,9],[]⟩) Z10 (.seq (some ⟨[3,4,5,6,8,9],[(10,(.b .addr))]⟩) .nil (.seq none Z10 (.seq none (.q (.cond Z1J .nil)) (.seq (some ⟨[6,10],[]⟩) Z13 Z11)))))))))
def zaT(p0:(Int×Int×Sl×Unit))(p1:(Int×Int×Sl×Sl×Int×Unit))(p2:(Int×Int×Int×Unit))(R:VWP)(w:World):Prop:=Nw (w.alloc (.cells #[zu p0.1,zu p0.2.1,p0.2.2.1.zw] 25)) λw1=>Nw (w1.alloc (.cells #[zu p1.1,zi p1.2.1,p1.2.2.1.zw,p1.2.2.2.1.zw,zi p1.2.2.2.2.1] 46)) λw2=>Nw (w2.alloc (.cells #[zu p2.1,zi p2.2.1,zi p2.2.2.1] 42)) λw3=>Nw (w3.alloc (.cells #[zb 0,zi 0,zi 0] 106)) λw4=>dt w4 #[zb 0,zi 0,zi 0] 106 (zb 0) (zi (-1:Int)) (zi (-1:Int)) λw8=>ldI w8 ((zB w2).add 2) .i64 λx1=>ldI w8 ((zB w2).add 1) .i64 λx2=>ifB (decide ((IntKind.i64.wrap (x1-x2))<3)) (dB w8 (zB w4) λx3 x4 x5=>dx w8 (zB w3) (zb x3) (zi x4) (zi x5) λw11=>dB w11 (zB w3) λx6 x7 x8=>R (.tuple #[.agg #[zb x6,zi x7,zi x8],.bool true]) w11) (ldS w8 ((zB w).add 2) λx9=>ldI w8 ((zB w2).add 2) .i64 λx10=>(0<=(IntKind.i64.wrap (x10-(2:Int)))/\(IntKind.i64.wrap (x10-(2:Int)))<(x9.l:Int))/\zc x9.a λa11=>dm w8 (a11.add ((Int.toNat (IntKind.i64.wrap (x10-(2:Int))))*4)) λx12 x13 x14 x15=>dn w8 #[zh 0,zu 0,zu 0,.slice none 0 0] 50 (zh x12) (zu x13) (zu x14) (x15.zw) λw16=>zl (S:=Unit) (λm16=>ldI w16 (zB w8) .u16 λx18=>ifB (x18 !=246) (ldI w16 (zB w8) .u16 λx19=>ifB (x19 !=247) (dB w16 (zB w4) λx20 x21 x22=>dx w16 (zB w3) (zb x20) (zi x21) (zi x22) λw19=>dB w19 (zB w3) λx23 x24 x25=>R (.tuple #[.agg #[zb x23,zi x24,zi x25],.bool true]) w19) (m16 () w16)) (m16 () w16)) (λs17 w20=>zl (S:=Addr×Unit) (λm26=>dc w20.drew (zB w1) λx28 x29 x30 x31 x32=>ldS w20.drew ((zB w8).add 3) λx33=>(0<=(0:Int)/\0<(x33.l:Int))/\zc x33.a λa34=>ldI w20.drew ((a34.add (0*3)).add 1) .u32 λx35=>(dl 85 #[.agg #[zu x28,zi x29,x30.zw,x31.zw,zi x32],zu x35] w20.drew λx37 w21=>dt w21 #[zb 0,zi 0,zi 0] 106 (zb 1) (zi x37) (zi (-1:Int)) λw25=>m26 ((zB w21),()) w25)/\Nw (w20.drew.alloc (.cells #[zb 0,zi 0,zi 0] 106)) λw26=>w26.cell? ((a34.add (0*3)).add 1)=some (zu x35)/\w26.cell? ((zB w8).add 3)=some (x33.zw)/\w26.cell? ((zB w1).add 0)=some (zu x28)/\w26.cell? ((zB w1).add 1)=some (zi x29)/\w26.cell? ((zB w1).add 2)=some (x30.zw)/\w26.cell? ((zB w1).add 3)=some (x31.zw)/\w26.cell? ((zB w1).add 4)=some (zi x32)/\dl 85 #[.agg #[zu x28,zi x29,x30.zw,x31.zw,zi x32],zu x35] w26 λx39 w27=>dx w27 (blk w20.drew.heap.size) (zb 1) (zi x39) (zi (-1:Int)) λw30=>m26 ((blk w20.drew.heap.size),()) w30) (λs27 w31=>ldI w31 (s27.1.add 1) .i64 λx40=>ifB (decide (x40<(0:Int))) (dB w31 (zB w4) λx41 x42 x43=>dx w31 (zB w3) (zb x41) (zi x42) (zi x43) λw34=>dB w34 (zB w3) λx44 x45 x46=>R (.tuple #[.agg #[zb x44,zi x45,zi x46],.bool false]) w34) (ldI w31 (zB w8) .u16 λx47=>ifB (x47==246) (Wr w31 s27.1/\Nw (w31.setCell s27.1 (zb 2)) λw35=>dc w35.drew (zB w1) λx48 x49 x50 x51 x52=>ldS w35.drew ((zB w8).add 3) λx53=>(0<=(1:Int)/\1<(x53.l:Int))/\zc x53.a λa54=>ldI w35.drew ((a54.add (1*3)).add 1) .u32 λx55=>dl 85 #[.agg #[zu x48,zi x49,x50.zw,x51.zw,zi x52],zu x55] w35.drew λx57 w36=>Wr w36 (s27.1.add 2)/\Nw (w36.setCell (s27.1.add 2) (zi x57)) λw37=>dB w37.drew s27.1 λx58 x59 x60=>ldI w37.drew (s27.1.add 2) .i64 λx61=>dx w37.drew (zB w3) (zb x58) (zi x59) (zi x60) λw40=>w40.cell? (s27.1.add 2)=some (zi x61)/\dB w40 (zB w3) λx62 x63 x64=>R (.tuple #[.agg #[zb x62,zi x63,zi x64],.bool (decide (x61≥(0:Int)))]) w40) (zl (S:=Unit) (λm65=>ldS w31 ((zB w).add 2) λx67=>ldI w31 ((zB w2).add 2) .i64 λx68=>(0<=(IntKind.i64.wrap (x68-(1:Int)))/\(IntKind.i64.wrap (x68-(1:Int)))<(x67.l:Int))/\zc x67.a λa69=>ldI w31 (a69.add ((Int.toNat (IntKind.i64.wrap (x68-(1:Int))))*4)) .u16 λx70=>ifB (x70==251) (Wr w31 s27.1/\Nw (w31.setCell s27.1 (zb 3)) λw41=>m65 () w41) (m65 () w31)) (λs66 w42=>dB w42 s27.1 λx71 x72 x73=>dx w42 (zB w3) (zb x71) (zi x72) (zi x73) λw45=>dB w45 (zB w3) λx74 x75 x76=>R (.tuple #[.agg #[zb x74,zi x75,zi x76],.bool true]) w45))))))
theorem zdP(p0)(p1)(p2)(R)(w)(h:zaT p0 p1 p2 R w):cC 83 #[.agg #[.int .u32 p0.1,.int .u32 p0.2.1,.slice p0.2.2.1.a p0.2.2.1.l p0.2.2.1.c],.agg #[.int .u32 p1.1,.int .i64 p1.2.1,.slice p1.2.2.1.a p1.2.2.1.l p1.2.2.1.c,.slice p1.2.2.2.1.a p1.2.2.2.1.l p1.2.2.2.1.c,.int .i64 p1.2.2.2.2.1],.agg #[.int .u32 p2.1,.int .i64 p2.2.1,.int .i64 p2.2.2.1]] w R:=lwC zbk Tryz.func83 h
set_option linter.unusedVariables false
set_option maxRecDepth 100000
def zcD:Ann:=(.q (.q (.seq none Z10 (.q (.seq none (.q (.one (.loop ⟨[1,3,4],[(5,(.b .slice)),(6,(.b (.int .i64)))]⟩ (.seq none Z13 (.seq (some ⟨[1,3,4,6],[(5,(.b .slice))]⟩) (.one (.q (.q (.seq (some ⟨[1,3,4,6,7,8],[(5,(.b .slice))]⟩) Z13 (.seq (some ⟨[1,3,4,5,6,7,8],[]⟩) Z13 (.seq (some ⟨[1,3,4,5,6,7,8],[]⟩) Z13 (.seq (some ⟨[1,3,4,5,6,7,8],[]⟩) Z13 Z13))))))) .nil))))) Z11)))))
def zc1(p0:(Int×Int×Sl×Unit))(R:VWP)(w:World):Prop:=Nw (w.alloc (.cells #[zu p0.1,zu p0.2.1,p0.2.2.1.zw] 25)) λw1=>Nw (w1.alloc (.cells #[zi 0,zi 0] 29)) λw2=>da w2 (zB w) λx1 x2 x3=>dh 79 #[.agg #[zu x1,zu x2,x3.zw]] w2 λx5 w3=>de w3 #[zi 0,zi 0] 29 (zi x5.1) (zi x5.2.1) λw6=>ldI w6 (zB w3) .i64 λx6=>ifB (x6 !=0) (db w6.drew (zB w3) λx7 x8=>df w6.drew (zB w1) (zi x7) (zi x8) λw8=>db w8 (zB w1) λx9 x10=>R (.tuple #[.slice none 0 0,.agg #[zi x9,zi x10]]) w8) (zk (S:=Sl×Int×Unit) (λs11 w9 n12=>ldS w9 ((zB w).add 2) λx13=>ifB (decide (s11.2.1<(x13.l:Int))) (zl (S:=Sl×Unit) (λm14=>ldS w9 ((zB w).add 2) λx16=>(0<=s11.2.1/\s11.2.1<(x16.l:Int))/\zc x16.a λa17=>dm w9 (a17.add (s11.2.1.toNat *4)) λx18 x19 x20 x21=>dn w9 #[zh 0,zu 0,zu 0,.slice none 0 0] 50 (zh x18) (zu x19) (zu x20) (x21.zw) λw14=>zl (S:=Sl×Unit) (λm22=>ldI w14 (zB w9) .u16 λx24=>ifB (x24==54) (ldI w14 ((zB w9).add 2) .u32 λx25=>Nw (w14.alloc (.cells #[zu x25,zi s11.2.1,.slice none 0 0,.slice none 0 0,zi 0] 46)) λw15=>zp Tryz.prog 38 (s11.1.zw) (.slice (some (zB w14)) 1 1) w15 λr26 w16=>m22 (r26,()) w16) (m22 (s11.1,()) w14)) (λs23 w17=>zl (S:=Unit) (λm27=>ldI w17 (zB w9) .u16 λx29=>ifB (x29==55) ((0<=(IntKind.i64.wrap ((s11.1.l:Int)-1))/\(IntKind.i64.wrap ((s11.1.l:Int)-1))<(s23.1.l:Int))/\zc s23.1.a λa30=>ldS w17 ((a30.add ((Int.toNat (IntKind.i64.wrap ((s11.1.l:Int)-1)))*5)).add 2) λx31=>Nw (w17.alloc (.cells #[zi s11.2.1] 3)) λw18=>zp Tryz.prog 43 (x31.zw) (.slice (some (zB w17)) 1 1) w18 λr32 w19=>(0<=(IntKind.i64.wrap ((s11.1.l:Int)-1))/\(IntKind.i64.wrap ((s11.1.l:Int)-1))<(s23.1.l:Int))/\zc s23.1.a λa33=>Wr w19 ((a33.add ((Int.toNat (IntKind.i64.wrap ((s11.1.l:Int)-1)))*5)).add 2)/\Nw (w19.setCell ((a33.add ((Int.toNat (IntKind.i64.wrap ((s11.1.l:Int)-1)))*5)).add 2) (r32.zw)) λw20=>m27 () w20) (m27 () w17)) (λs28 w21=>zl (S:=Unit) (λm34=>ldI w21 (zB w9) .u16 λx36=>ifB (x36==56) ((0<=(IntKind.i64.wrap ((s11.1.l:Int)-1))/\(IntKind.i64.wrap ((s11.1.l:Int)-1))<(s23.1.l:Int))/\zc s23.1.a λa37=>Wr w21 ((a37.add ((Int.toNat (IntKind.i64.wrap ((s11.1.l:Int)-1)))*5)).add 4)/\Nw (w21.setCell ((a37.add ((Int.toNat (IntKind.i64.wrap ((s11.1.l:Int)-1)))*5)).add 4) (zi s11.2.1)) λw22=>m34 () w22) (m34 () w21)) (λs35 w23=>zl (S:=Unit) (λm38=>ldI w23 (zB w9) .u16 λx40=>ifB (x40==248) ((0<=(IntKind.i64.wrap ((s11.1.l:Int)-1))/\(IntKind.i64.wrap ((s11.1.l:Int)-1))<(s23.1.l:Int))/\zc s23.1.a λa41=>ldS w23.drew ((a41.add ((Int.toNat (IntKind.i64.wrap ((s11.1.l:Int)-1)))*5)).add 3) λx42=>ldI w23.drew ((zB w9).add 2) .u32 λx43=>Nw (w23.drew.alloc (.cells #[zu x43,zi s11.2.1,zi 0] 42)) λw24=>w24.cell? ((a41.add ((Int.toNat (IntKind.i64.wrap ((s11.1.l:Int)-1)))*5)).add 3)=some (x42.zw)/\zp Tryz.prog 44 (x42.zw) (.slice (some (blk w23.drew.heap.size)) 1 1) w24 λr44 w25=>(0<=(IntKind.i64.wrap ((s11.1.l:Int)-1))/\(IntKind.i64.wrap ((s11.1.l:Int)-1))<(s23.1.l:Int))/\zc s23.1.a λa45=>Wr w25 ((a45.add ((Int.toNat (IntKind.i64.wrap ((s11.1.l:Int)-1)))*5)).add 3)/\Nw (w25.setCell ((a45.add ((Int.toNat (IntKind.i64.wrap ((s11.1.l:Int)-1)))*5)).add 3) (r44.zw)) λw26=>m38 () w26) (m38 () w23)) (λs39 w27=>ldI w27 (zB w9) .u16 λx46=>dz 81 #[zh x46] w27 λx48 w28=>ifB x48 ((0<=(IntKind.i64.wrap ((s11.1.l:Int)-1))/\(IntKind.i64.wrap ((s11.1.l:Int)-1))<(s23.1.l:Int))/\zc s23.1.a λa49=>ldS w28.drew ((a49.add ((Int.toNat (IntKind.i64.wrap ((s11.1.l:Int)-1)))*5)).add 3) λx50=>(0<=(IntKind.i64.wrap ((s11.1.l:Int)-1))/\(IntKind.i64.wrap ((s11.1.l:Int)-1))<(s23.1.l:Int))/\zc s23.1.a λa51=>ldS w28.drew ((a51.add ((Int.toNat (IntKind.i64.wrap ((s11.1.l:Int)-1)))*5)).add 3) λx52=>(0<=(IntKind.i64.wrap ((x52.l:Int)-1))/\(IntKind.i64.wrap ((x52.l:Int)-1))<(x50.l:Int))/\zc x50.a λa53=>Wr w28.drew ((a53.add ((Int.toNat (IntKind.i64.wrap ((x52.l:Int)-1)))*3)).add 2)/\Nw (w28.drew.setCell ((a53.add ((Int.toNat (IntKind.i64.wrap ((x52.l:Int)-1)))*3)).add 2) (zi (IntKind.i64.wrap (s11.2.1+(1:Int))))) λw29=>m14 (s23.1,()) w29) (m14 (s23.1,()) w28)))))) (λs15 w30=>n12 (s15.1,(IntKind.i64.wrap (s11.2.1+(1:Int))),()) w30)) (db w9.drew (zB w3) λx54 x55=>df w9.drew (zB w1) (zi x54) (zi x55) λw32=>db w32 (zB w1) λx56 x57=>R (.tuple #[s11.1.zw,.agg #[zi x56,zi x57]]) w32)) ((Sl.mk none 0 0),0,()) w6)
theorem zfg(p0)(R)(w)(h:zc1 p0 R w):cC 48 #[.agg #[.int .u32 p0.1,.int .u32 p0.2.1,.slice p0.2.2.1.a p0.2.2.1.l p0.2.2.1.c]] w R:=lwC zcD Tryz.func48 h
def zbm:Ann:=(.q (.q (.seq none (.q (.one (.loop ⟨[3,5],[(7,(.b (.int .i64)))]⟩ Z14))) Z11)))
def zaV(p0:(Int×Int×Sl×Unit))(p1:(Int×Int×Sl×Sl×Int×Unit))(R:VWP)(w:World):Prop:=Nw (w.alloc (.cells #[zu p0.1,zu p0.2.1,p0.2.2.1.zw] 25)) λw1=>Nw (w1.alloc (.cells #[zu p1.1,zi p1.2.1,p1.2.2.1.zw,p1.2.2.2.1.zw,zi p1.2.2.2.2.1] 46)) λw2=>da w2 (zB w) λx1 x2 x3=>di 48 #[.agg #[zu x1,zu x2,x3.zw]] w2 λx5 x6 w3=>de w3 #[zi 0,zi 0] 29 (zi x6.1) (zi x6.2.1) λw6=>zk (S:=Int×Unit) (λs7 w7 n8=>ifB (decide (s7.1<(x5.l:Int))) ((0<=s7.1/\s7.1<(x5.l:Int))/\zc x5.a λa9=>dc w7.drew (a9.add (s7.1.toNat *5)) λx10 x11 x12 x13 x14=>dc w7.drew (zB w1) λx15 x16 x17 x18 x19=>dz 118 #[.agg #[zu x10,zi x11,x12.zw,x13.zw,zi x14],.agg #[zu x15,zi x16,x17.zw,x18.zw,zi x19]] w7.drew λx21 w8=>ifB x21 (R (.bool true) w8) (n8 ((IntKind.i64.wrap (s7.1+(1:Int))),()) w8)) (R (.bool false) w7)) (0,()) w6
theorem zdR(p0)(p1)(R)(w)(h:zaV p0 p1 R w):cC 82 #[.agg #[.int .u32 p0.1,.int .u32 p0.2.1,.slice p0.2.2.1.a p0.2.2.1.l p0.2.2.1.c],.agg #[.int .u32 p1.1,.int .i64 p1.2.1,.slice p1.2.2.1.a p1.2.2.1.l p1.2.2.1.c,.slice p1.2.2.2.1.a p1.2.2.2.1.l p1.2.2.2.1.c,.int .i64 p1.2.2.2.2.1]] w R:=lwC zbm Tryz.func82 h
def zbl:Ann:=Z1O
def zaU(p0:(Int×Int×Sl×Sl×Int×Unit))(p1:Int)(R:VWP)(w:World):Prop:=Nw (w.alloc (.cells #[zu p0.1,zi p0.2.1,p0.2.2.1.zw,p0.2.2.2.1.zw,zi p0.2.2.2.2.1] 46)) λw1=>zk (S:=Int×Unit) (λs1 w2 n2=>ldS w2 ((zB w).add 3) λx3=>ifB (decide (s1.1<(x3.l:Int))) (ldS w2 ((zB w).add 3) λx4=>(0<=s1.1/\s1.1<(x4.l:Int))/\zc x4.a λa5=>ldI w2 (a5.add (s1.1.toNat *3)) .u32 λx6=>ifB (x6==p1) (R (zi s1.1) w2) (n2 ((IntKind.i64.wrap (s1.1+(1:Int))),()) w2)) (R (zi (-1:Int)) w2)) (1,()) w1
theorem zdQ(p0)(p1)(R)(w)(h:zaU p0 p1 R w):cC 85 #[.agg #[.int .u32 p0.1,.int .i64 p0.2.1,.slice p0.2.2.1.a p0.2.2.1.l p0.2.2.1.c,.slice p0.2.2.2.1.a p0.2.2.2.1.l p0.2.2.2.1.c,.int .i64 p0.2.2.2.2.1],.int .u32 p1] w R:=lwC zbl Tryz.func85 h
def YA:Ann:=(.q (.seq (some ⟨[2,3],[]⟩) Z10 (.seq none (.q (.one (.loop ⟨[2,3],[(5,(.b (.int .i64)))]⟩ Z14))) (.seq none (.q (.one (.loop ⟨[2,3],[(6,(.b (.int .i64)))]⟩ Z14))) Z11))))
def Y3(p0:(Int×Int×Sl×Sl×Int×Unit))(p1:(Int×Int×Sl×Sl×Int×Unit))(R:VWP)(w:World):Prop:=Nw (w.alloc (.cells #[zu p0.1,zi p0.2.1,p0.2.2.1.zw,p0.2.2.2.1.zw,zi p0.2.2.2.2.1] 46)) λw1=>Nw (w1.alloc (.cells #[zu p1.1,zi p1.2.1,p1.2.2.1.zw,p1.2.2.2.1.zw,zi p1.2.2.2.2.1] 46)) λw2=>zl (S:=Unit) (λm1=>ldI w2 (zB w) .u32 λx3=>ldI w2 (zB w1) .u32 λx4=>ifB (x3 !=x4) (R (.bool false) w2) (ldI w2 ((zB w).add 1) .i64 λx5=>ldI w2 ((zB w1).add 1) .i64 λx6=>ifB (x5 !=x6) (R (.bool false) w2) (ldI w2 ((zB w).add 4) .i64 λx7=>ldI w2 ((zB w1).add 4) .i64 λx8=>ifB (x7 !=x8) (R (.bool false) w2) (ldS w2 ((zB w).add 2) λx9=>ldS w2 ((zB w1).add 2) λx10=>ifB ((x9.l:Int) !=(x10.l:Int)) (R (.bool false) w2) (ldS w2 ((zB w).add 3) λx11=>ldS w2 ((zB w1).add 3) λx12=>ifB ((x11.l:Int) !=(x12.l:Int)) (R (.bool false) w2) (m1 () w2)))))) (λs2 w3=>zk (S:=Int×Unit) (λs13 w4 n14=>ldS w4 ((zB w).add 2) λx15=>ifB (decide (s13.1<(x15.l:Int))) (ldS w4.drew ((zB w).add 2) λx16=>(0<=s13.1/\s13.1<(x16.l:Int))/\zc x16.a λa17=>ldI w4.drew (a17.add s13.1.toNat) .i64 λx18=>ldS w4.drew ((zB w1).add 2) λx19=>(0<=s13.1/\s13.1<(x19.l:Int))/\zc x19.a λa20=>ldI w4.drew (a20.add s13.1.toNat) .i64 λx21=>ifB (x18 !=x21) (R (.bool false) w4.drew) (n14 ((IntKind.i64.wrap (s13.1+(1:Int))),()) w4.drew)) (zk (S:=Int×Unit) (λs22 w5 n23=>ldS w5 ((zB w).add 3) λx24=>ifB (decide (s22.1<(x24.l:Int))) (ldS w5.drew ((zB w).add 3) λx25=>(0<=s22.1/\s22.1<(x25.l:Int))/\zc x25.a λa26=>ds w5.drew (a26.add (s22.1.toNat *3)) λx27 x28 x29=>ldS w5.drew ((zB w1).add 3) λx30=>(0<=s22.1/\s22.1<(x30.l:Int))/\zc x30.a λa31=>ds w5.drew (a31.add (s22.1.toNat *3)) λx32 x33 x34=>ifB (!(x27==x32&&(x28==x33&&(x29==x34&&true)))) (R (.bool false) w5.drew) (n23 ((IntKind.i64.wrap (s22.1+(1:Int))),()) w5.drew)) (R (.bool true) w5)) (0,()) w4)) (0,()) w3)
theorem zcr(p0)(p1)(R)(w)(h:Y3 p0 p1 R w):cC 118 #[.agg #[.int .u32 p0.1,.int .i64 p0.2.1,.slice p0.2.2.1.a p0.2.2.1.l p0.2.2.1.c,.slice p0.2.2.2.1.a p0.2.2.2.1.l p0.2.2.2.1.c,.int .i64 p0.2.2.2.2.1],.agg #[.int .u32 p1.1,.int .i64 p1.2.1,.slice p1.2.2.1.a p1.2.2.1.l p1.2.2.1.c,.slice p1.2.2.2.1.a p1.2.2.2.1.l p1.2.2.2.1.c,.int .i64 p1.2.2.2.2.1]] w R:=lwC YA Tryz.func118 h
end Go.Proofs
namespace Go.Proofs
open Go.Gk Go.RowKit Go.Gm
theorem zov{α:Type}{f:α->List Value}{sz:Nat}(hf:∀x,(f x).length=sz){v:Value}{y:α}{j:Nat}(hj:j<sz):∀(l:List α) (i:Nat) (h:i<l.length),(f l[i]).set j v=f y->(flat f l).set (i*sz+j) v=flat f (l.set i y)
 |a::l,0,_,e=>by
  have e:(f a).set j v=f y:=e
  simp only[flat,List.flatMap_cons,List.set_cons_zero,Nat.zero_mul,Nat.zero_add]
  rw[List.set_append_left _ _ (by rw[hf];exact hj),e]
 |a::l,i+1,h,e=>by
  have h':i<l.length:=by simpa using h
  have ih:=zov hf hj l i h' e
  simp only[flat,List.flatMap_cons,List.set_cons_succ]at ih⊢
  rw[List.set_append_right _ _ (by rw[hf,Nat.succ_mul];omega),hf,<-ih]
  congr 2
  rw[Nat.succ_mul]
  omega
theorem _root_.Go.Gk.Own.setC{α:Type}{f:α->List Value}{sz:Nat}(hf:∀x,(f x).length=sz){w:World}{T:TypeId}{q:Sl}{b:Nat}{l:List α}(h:Own w T sz q (flat f l))(ha:q.a=some (blk b)){i j:Nat}(hi:i<l.length)(hj:j<sz){v:Value}{y:α}(hv:(f l[i]).set j v=f y) :
  Wr w ((blk b).add (i*sz+j))/\Own (w.setCell ((blk b).add (i*sz+j)) v) T sz q (flat f (l.set i y)):=by
 obtain⟨h1,h2⟩:=h
 rw[zO hf]at h1
 rcases h2 with rfl | ⟨b',cs,e,hB,h3,h4,h5,h6⟩
 ·cases ha
 ·rw[ha]at e
  have e:b=b':=by injection e with e;injection e
  subst e
  have h7:i*sz+j<l.length*sz:=by
   have:(i+1)*sz<=l.length*sz:=Nat.mul_le_mul_right _ hi
   rw[Nat.succ_mul]at this
   omega
  refine⟨hB.wr ?_,by rw[zO hf,List.length_set];exact h1,.inr ⟨b,_,ha,hB.set _ _,h3,h4,by rw[List.length_set];exact h5,?_⟩⟩
  ·have:q.l*sz<=q.c*sz:=Nat.mul_le_mul_right _ h3
   omega
  ·rw[List.take_set,h6,zov hf hj l i hi hv]
theorem _root_.Go.Gk.Own.a_of{w:World}{T:TypeId}{sz:Nat}{q:Sl}{xs:List Value}(h:Own w T sz q xs)(h0:xs≠[]):∃b,q.a=some (blk b):=by
 obtain⟨h1,h2⟩:=h
 rcases h2 with rfl | ⟨b',cs,e,_⟩
 ·exact absurd (List.length_eq_zero_iff.1 (by rw[h1];simp)) h0
 ·exact⟨b',e⟩
theorem zqG{bd:Int}{pl:List PI}(h:(zG bd pl).1=0):∀k,k<=pl.length->k<=totP pl k
 | 0,_=>Nat.zero_le _
 |k+1,hk=>by
  have ih:=zqG h k (by omega)
  rw[zkl (by omega)]
  have hf:=(Ye h).2 k (by omega)
  obtain⟨f,hf,_⟩:=zfa hf
  have:1<=zgx pl[k]:=by
   unfold zgx
   rw[hf]
   unfold zbp
   dsimp only
   omega
  omega
theorem zpM{bd:Int}{pl:List PI}(h:(zG bd pl).1=0):pl.length<=1048576:=Nat.le_trans (zqG h _ (Nat.le_refl _)) (zug h)
theorem zt1{p:PI}(h:zci p.1=8):zx p=8:=by
 unfold zx
 split
 ·rfl
 ·exact h
theorem ziX{pl:List PI}(hg:Z0 pl pl.length){n:Nat}(hn:n<pl.length)(h:(ix pl n).1=55\/(ix pl n).1=56\/(ix pl n).1=248\/zZ (ix pl n).1=true) :
  ∃l f,cutF pl n=l++[f]/\(zZ (ix pl n).1=true->f.bk≠[]):=by
 have h8:zx (ix pl n)=8:=by
  refine zt1 ?_
  obtain⟨p1,p2,p3,p4,p5,p6,p7,p8,p9,p10,p11⟩:=zs9
  rcases h with e |e |e |e
  ·rw[e];exact p2
  ·rw[e];exact p3
  ·rw[e];exact p4
  ·have:=zT e
   have:(ix pl n).1=249\/(ix pl n).1=250\/(ix pl n).1=251\/(ix pl n).1=252\/(ix pl n).1=253\/(ix pl n).1=254\/(ix pl n).1=255:=by omega
   rcases this with e |e |e |e |e |e |e<;>rw[e]<;>assumption
 have ho:=zn8 (hg n hn) h8
 obtain⟨done,last,hc,hd,hl⟩:=zns hg n (by omega)
 generalize zN pl n=ah at ho hl
 generalize yO pl (n-1)=fi at ho
 rcases h with e |e |e |e
 ·rw[e]at ho⊢
  have ho:(ah==54||ah==55)=true:=ho
  have ho:ah=54\/ah=55:=by simpa using ho
  cases hl with
  |out h=>omega
  |head f h hb=>exact⟨done,f,hc,λq=>by cases q⟩
  |shut f h hf=>have:=zT h;omega
  |open_ f bs k h _ _ _ _ _ _ _=>exact absurd (ho.elim (λe=>.inr (.inl e)) λe=>.inr (.inr (.inl e))) h
 ·rw[e]at ho⊢
  have ho:zZ ah=true:=ho
  cases hl with
  |out h=>have:=zT ho;omega
  |head f h hb=>have:=zT ho;omega
  |shut f h hf=>exact⟨done,f,hc,λq=>by cases q⟩
  |open_ f bs k h _ _ _ _ _ _ _=>exact absurd (.inr (.inr (.inr (.inr ho)))) h
 ·rw[e]at ho⊢
  have ho:(ah==54||ah==55||zZ ah)=true:=ho
  cases hl with
  |out h=>rcases h with rfl |rfl<;>cases ho
  |head f h hb=>exact⟨done,f,hc,λq=>by cases q⟩
  |shut f h hf=>exact⟨done,f,hc,λq=>by cases q⟩
  |open_ f bs k h _ _ _ _ _ _ _=>exact⟨done,f,hc,λq=>by cases q⟩
 ·have hr:=zT e
  have hin:¬(ah=0\/ah=54\/ah=55\/ah=56\/zZ ah=true):=λhin=>by
   unfold Yx at ho
   rw[if_neg (by omega),if_neg (by omega),if_neg (by omega),if_neg (by omega),if_pos hin]at ho
   cases ho
  cases hl with
  |out h=>exact absurd (h.elim .inl λe=>.inr (.inr (.inr (.inl e)))) hin
  |head f h hb=>exact absurd (h.elim (λe=>.inr (.inl e)) λe=>.inr (.inr (.inl e))) hin
  |shut f h hf=>exact absurd (.inr (.inr (.inr (.inr h)))) hin
  |open_ f bs k h hb _ _ _ _ _ _=>exact⟨done,f,hc,λ_=>by rw[hb];simp⟩
structure DCt (w0 w:World) (s:Sl) (L:List Fe):Prop where
 b:Below w0.heap.size w0 w
 fns:Fns w s L
 fs:zz w0.heap.size s
 fr:∀x∈L,zz w0.heap.size x.2.1/\zz w0.heap.size x.2.2
 ap:L.Pairwise λx y=>(∀a,x.2.1.a=some a->y.2.1.a≠some a)/\(∀a,x.2.2.a=some a->y.2.2.a≠some a)
section
variable {w0 w w':World} {s:Sl} {L:List Fe} {x:Fe} {pl:List PI}
theorem DCt.below(h:DCt w0 w s L)(hb:Below w.heap.size w w'):DCt w0 w' s L:=⟨h.b.on hb,h.fns.below hb,h.fs,h.fr,h.ap⟩
abbrev zmr(w w':World):Prop:=∀i cs,Blk w i 50 cs->Blk w' i 50 cs
theorem DCt.newF(h:DCt w0 w s L)(hl:L.length<=1048576){id at_:Int}{K:Sl->World->Prop}
  (hK:∀r w',DCt w0 w' r (L++[((⟨id,at_,0,[],[]⟩:FnL),⟨none,0,0⟩,⟨none,0,0⟩)])->zmr w w'->K r w') :
  Nw (w.alloc (.cells #[(.int .u32 id),(.int .i64 at_),(.slice none 0 0),(.slice none 0 0),(.int .i64 (0:Int))] 46)) λw15=>zp Tryz.prog 38 (.slice s.a s.l s.c) (.slice (some (blk w.heap.size)) 1 1) w15 K:=by
 refine zn λw1 hB1 b1 z1=>?_
 have hsl:=h.fns.len
 have h1:=h.below b1
 refine zb2 (w0:=w0) eFun h1.fns.own h1.b h1.fs (vs:=[.int .u32 id,.int .i64 at_,.slice none 0 0,.slice none 0 0,.int .i64 0]) rfl (by simp[Value.oneCell']) hB1 (by omega) (by omega) λr w2 q1 q2 q3 q4 q5=>hK r w2 ⟨q2,⟨?_,λy hy=>?_⟩,q3,λy hy=>?_,?_⟩ ?_
 ·rw[zbu];exact q1
 ·rcases List.mem_append.1 hy with hy |hy
  ·obtain⟨g1,g2⟩:=h1.fns.row y hy
   exact⟨g1.of_block λa ha=>q5 _ (g1.lt ha).2 (Zz h1.fns.own g1 (by decide) ha),g2.of_block λa ha=>q5 _ (g2.lt ha).2 (Zz h1.fns.own g2 (by decide) ha)⟩
  ·rw[List.mem_singleton.1 hy]
   exact⟨Own.nil _ _ _,Own.nil _ _ _⟩
 ·rcases List.mem_append.1 hy with hy |hy
  ·exact h.fr y hy
  ·rw[List.mem_singleton.1 hy]
   exact⟨λa ha=>(by cases ha),λa ha=>(by cases ha)⟩
 ·exact Z9 h.ap λy _=>⟨λa _ q=>(by cases q),λa _ q=>(by cases q)⟩
 ·intro i cs hi
  have hi1:=hi.below b1
  exact hi1.of_block (q5 _ hi1.lt λe=>yI h1.fns.own hi1 (by decide) e)
theorem DCt.len{L0:List Fe}(h:DCt w0 w s (L0++[x])):s.l=L0.length+1:=by have:=h.fns.len;rw[List.length_append]at this;simp at this;omega
theorem DCt.base{L0:List Fe}(h:DCt w0 w s (L0++[x])):∃b cs,s.a=some (Gk.blk b)/\Blk w b 46 cs/\w0.heap.size<=b:=by
 obtain⟨b,hb⟩:=h.fns.own.a_of (by simp)
 obtain⟨cs,hB⟩:=h.fns.own.type hb
 exact⟨b,cs,hb,hB,h.fs _ hb⟩
theorem DCt.cell{L0:List Fe}(h:DCt w0 w s (L0++[x])){b:Nat}(hb:s.a=some (Gk.blk b)){j:Nat}{v:Value}(hj:j<5)(hv:(feV x)[j]? =some v):w.cell? (((Gk.blk b).add (Int.toNat (L0.length:Int)*5)).add j)=some v:=by
 have hc:IsC 5 feV w s (L0++[x]):=Own.isC Yj (by omega) h.fns.own
 have:=hc.cell _ hb L0.length (by simp) j hj
 rw[List.getElem_concat_length rfl]at this
 rw[zy]
 exact this.trans hv
theorem DCt.inLast{L0:List Fe}(h:DCt w0 w s (L0++[x])):0<=(L0.length:Int)/\(L0.length:Int)<(s.l:Int):=by have:=h.len;omega
theorem DCt.upd{L0:List Fe}{y:Fe}(h:DCt w0 w s (L0++[x])){w1:World}(hb1:Below w0.heap.size w0 w1)(hO:Own w1 46 5 s (flat feV (L0++[x])))
  (hrow:∀z∈L0++[y],Own w1 3 1 z.2.1 (z.1.ps.map (Value.int .i64))/\Own w1 42 3 z.2.2 (flat blV z.1.bk))
  (hfr:zz w0.heap.size y.2.1/\zz w0.heap.size y.2.2) (hap:∀z∈L0,(∀a,z.2.1.a=some a->y.2.1.a≠some a)/\(∀a,z.2.2.a=some a->y.2.2.a≠some a))
  {j:Nat} (hj:j<5) {v:Value} (hv:(feV x).set j v=feV y) {K:World->Prop} (hK:∀w',DCt w0 w' s (L0++[y])->zmr w1 w'->K w') :
  (0<=(L0.length:Int)/\(L0.length:Int)<(s.l:Int))/\zc s.a λa=>Wr w1 ((a.add (Int.toNat (L0.length:Int)*5)).add j)/\Nw (w1.setCell ((a.add (Int.toNat (L0.length:Int)*5)).add j) v) K:=by
 obtain⟨b,_,hb,_,hge⟩:=h.base
 obtain⟨cs,hB⟩:=hO.type hb
 have hB:Blk w1 b 46 cs:=hB
 have hi:L0.length<(L0++[x]).length:=by simp
 have hv':(feV (L0++[x])[L0.length]).set j v=feV y:=by rw[List.getElem_concat_length rfl];exact hv
 obtain⟨h1,h2⟩:=hO.setC Yj hb hi hj hv'
 rw[List.set_append_right _ _ (Nat.le_refl _),Nat.sub_self]at h2
 have c:Chg b w1 (w1.setCell ((Gk.blk b).add (L0.length*5+j)) v):=Chg.set b _ w1 v
 refine⟨h.inLast,zj hb ?_⟩
 rw[zy,show Int.toNat (L0.length:Int)=L0.length from rfl]
 refine⟨h1,hK _ ⟨c.below hb1 hge,⟨h2,λz hz=>?_⟩,h.fs,λz hz=>?_,?_⟩ λi cs' hi'=>hi'.of_block (c.block _ λe=>by subst e;exact Blk.apart hi' hB (by decide) rfl)⟩
 ·obtain⟨g1,g2⟩:=hrow z hz
  exact⟨g1.of_block λa ha=>c.block _ λe=>(by subst e;obtain⟨_,q⟩:=g1.type ha;exact Blk.apart q hB (by decide) rfl),g2.of_block λa ha=>c.block _ λe=>(by subst e;obtain⟨_,q⟩:=g2.type ha;exact Blk.apart q hB (by decide) rfl)⟩
 ·rcases List.mem_append.1 hz with hz |hz
  ·exact h.fr z (List.mem_append.2 (.inl hz))
  ·rw[List.mem_singleton.1 hz];exact hfr
 ·exact Z9 (List.pairwise_append.1 h.ap).1 hap
theorem DCt.pushP{L0:List Fe}(h:DCt w0 w s (L0++[x])){b c:Nat}{T:TypeId}{v:Int}(hB:Blk w b T [.int .i64 v])(hlen:x.1.ps.length<=1048576){K:World->Prop}
  (hK:∀w' r,DCt w0 w' s (L0++[(({x.1 with ps:=x.1.ps++[v]}:FnL),r,x.2.2)])->zmr w w'->K w') :
  zp Tryz.prog 43 (.slice x.2.1.a x.2.1.l x.2.1.c) (.slice (some (Gk.blk b)) 1 c) w λr w1=>(0<=(L0.length:Int)/\(L0.length:Int)<(s.l:Int))/\zc s.a λa=>Wr w1 ((a.add (Int.toNat (L0.length:Int)*5)).add 2)/\Nw (w1.setCell ((a.add (Int.toNat (L0.length:Int)*5)).add 2) (.slice r.a r.l r.c)) K:=by
 have hx:x∈L0++[x]:=by simp
 obtain⟨o1,o2⟩:=h.fns.row x hx
 obtain⟨f1,f2⟩:=h.fr x hx
 have hap:=(List.pairwise_append.1 h.ap).2.2
 have hsl:x.2.1.l=x.1.ps.length:=by have:=o1.1;rw[List.length_map]at this;omega
 have hb0:=h.b.size
 refine zcR eInt o1 (vs:=[.int .i64 v]) rfl (by simp[Value.oneCell']) hB (by omega) (by omega) λr w1 b' q1 q2 q3 q4 q5=>?_
 have hX:∀k,x.2.1.a=some (Gk.blk k)->w0.heap.size<=k:=λk e=>f1 _ e
 refine h.upd (y:=(({x.1 with ps:=x.1.ps++[v]}:FnL),r,x.2.2)) (q5.low h.b hX hb0) (q5.own h.fns.own λb e X=>Zy h.fns.own o1 (by decide) e X) (λz hz=>?_) ⟨λa ha=>?_,f2⟩ (λz hz=>⟨λa ha e=>?_,(hap z hz x (by simp)).2⟩) (j:=2) (by omega) rfl λw2 hR hk=>hK w2 r hR λi cs hi=>hk i cs (hi.of_block (q5.block i hi.lt λX=>yI o1 hi (by decide) X))
 ·rcases List.mem_append.1 hz with hz |hz
  ·obtain⟨g1,g2⟩:=h.fns.row z (List.mem_append.2 (.inl hz))
   exact⟨q5.own g1 λb e X=>(hap z hz x (by simp)).1 _ e X,q5.own g2 λb e X=>Zy g2 o1 (by decide) e X⟩
  ·rw[List.mem_singleton.1 hz]
   refine⟨?_,q5.own o2 λb e X=>Zy o2 o1 (by decide) e X⟩
   show Own w1 3 1 r ((x.1.ps++[v]).map (Value.int .i64))
   rw[List.map_append]
   exact q1
 ·have ha:r.a=some a:=ha
  rw[q3]at ha
  cases ha
  rcases q4 with q4 |q4
  ·exact f1 _ q4
  ·show w0.heap.size<=b';omega
 ·have e:r.a=some a:=e
  rw[q3]at e
  cases e
  rcases q4 with q4 |q4
  ·exact(hap z hz x (by simp)).1 _ ha q4
  ·have:=((h.fns.row z (List.mem_append.2 (.inl hz))).1.lt ha).2
   have:b'<w.heap.size:=this
   omega
theorem DCt.pushB{L0:List Fe}(h:DCt w0 w s (L0++[x])){b c:Nat}{T:TypeId}{v:Int×Int×Int}(hB:Blk w b T (blV v))(hlen:x.1.bk.length<=1048576){K:World->Prop}
  (hK:∀w' r,DCt w0 w' s (L0++[(({x.1 with bk:=x.1.bk++[v]}:FnL),x.2.1,r)])->zmr w w'->K w') :
  zp Tryz.prog 44 (.slice x.2.2.a x.2.2.l x.2.2.c) (.slice (some (Gk.blk b)) 1 c) w λr w1=>(0<=(L0.length:Int)/\(L0.length:Int)<(s.l:Int))/\zc s.a λa=>Wr w1 ((a.add (Int.toNat (L0.length:Int)*5)).add 3)/\Nw (w1.setCell ((a.add (Int.toNat (L0.length:Int)*5)).add 3) (.slice r.a r.l r.c)) K:=by
 have hx:x∈L0++[x]:=by simp
 obtain⟨o1,o2⟩:=h.fns.row x hx
 obtain⟨f1,f2⟩:=h.fr x hx
 have hap:=(List.pairwise_append.1 h.ap).2.2
 have hsl:x.2.2.l=x.1.bk.length:=by have:=o2.1;rw[zO zU]at this;omega
 have hb0:=h.b.size
 refine zcR eBlk o2 (vs:=blV v) rfl (by simp[Value.oneCell']) hB (by omega) (by omega) λr w1 b' q1 q2 q3 q4 q5=>?_
 have hX:∀k,x.2.2.a=some (Gk.blk k)->w0.heap.size<=k:=λk e=>f2 _ e
 refine h.upd (y:=(({x.1 with bk:=x.1.bk++[v]}:FnL),x.2.1,r)) (q5.low h.b hX hb0) (q5.own h.fns.own λb e X=>Zy h.fns.own o2 (by decide) e X) (λz hz=>?_) ⟨f1,λa ha=>?_⟩ (λz hz=>⟨(hap z hz x (by simp)).1,λa ha e=>?_⟩) (j:=3) (by omega) rfl λw2 hR hk=>hK w2 r hR λi cs hi=>hk i cs (hi.of_block (q5.block i hi.lt λX=>yI o2 hi (by decide) X))
 ·rcases List.mem_append.1 hz with hz |hz
  ·obtain⟨g1,g2⟩:=h.fns.row z (List.mem_append.2 (.inl hz))
   exact⟨q5.own g1 λb e X=>Zy g1 o2 (by decide) e X,q5.own g2 λb e X=>(hap z hz x (by simp)).2 _ e X⟩
  ·rw[List.mem_singleton.1 hz]
   refine⟨q5.own o1 λb e X=>Zy o1 o2 (by decide) e X,?_⟩
   show Own w1 42 3 r (flat blV (x.1.bk++[v]))
   rw[zbu]
   exact q1
 ·have ha:r.a=some a:=ha
  rw[q3]at ha
  cases ha
  rcases q4 with q4 |q4
  ·exact f2 _ q4
  ·show w0.heap.size<=b';omega
 ·have e:r.a=some a:=e
  rw[q3]at e
  cases e
  rcases q4 with q4 |q4
  ·exact(hap z hz x (by simp)).2 _ ha q4
  ·have:=((h.fns.row z (List.mem_append.2 (.inl hz))).2.lt ha).2
   have:b'<w.heap.size:=this
   omega
theorem DCt.setEn{L0:List Fe}(h:DCt w0 w s (L0++[x])){v:Int}{K:World->Prop}(hK:∀w',DCt w0 w' s (L0++[(({x.1 with en:=v}:FnL),x.2.1,x.2.2)])->zmr w w'->K w') :
  (0<=(L0.length:Int)/\(L0.length:Int)<(s.l:Int))/\zc s.a λa=>Wr w ((a.add (Int.toNat (L0.length:Int)*5)).add 4)/\Nw (w.setCell ((a.add (Int.toNat (L0.length:Int)*5)).add 4) (.int .i64 v)) K:=by
 have hx:x∈L0++[x]:=by simp
 have hap:=(List.pairwise_append.1 h.ap).2.2
 refine h.upd (y:=(({x.1 with en:=v}:FnL),x.2.1,x.2.2)) h.b h.fns.own (λz hz=>?_) (h.fr x hx) (λz hz=>hap z hz x (by simp)) (j:=4) (by omega) rfl hK
 rcases List.mem_append.1 hz with hz |hz
 ·exact h.fns.row z (List.mem_append.2 (.inl hz))
 ·rw[List.mem_singleton.1 hz]
  exact h.fns.row x hx
theorem DCt.setTo{L0:List Fe}(h:DCt w0 w s (L0++[x])){bs:List (Int×Int×Int)}{c:Int×Int×Int}(hb:x.1.bk=bs++[c]){v:Int} :
  ∃b,x.2.2.a=some (Gk.blk b)/\Wr w ((Gk.blk b).add (bs.length*3+2))/\DCt w0 (w.setCell ((Gk.blk b).add (bs.length*3+2)) (.int .i64 v)) s (L0++[(({x.1 with bk:=bs++[(c.1,c.2.1,v)]}:FnL),x.2.1,x.2.2)])/\zmr w (w.setCell ((Gk.blk b).add (bs.length*3+2)) (.int .i64 v)):=by
 have hx:x∈L0++[x]:=by simp
 obtain⟨o1,o2⟩:=h.fns.row x hx
 obtain⟨f1,f2⟩:=h.fr x hx
 have hap:=(List.pairwise_append.1 h.ap).2.2
 rw[hb]at o2
 obtain⟨b,ha⟩:=o2.a_of (by simp)
 obtain⟨cs,hB⟩:=o2.type ha
 have hB:Blk w b 42 cs:=hB
 have hi:bs.length<(bs++[c]).length:=by simp
 obtain⟨h1,h2⟩:=o2.setC zU ha hi (j:=2) (by omega) (v:=.int .i64 v) (y:=(c.1,c.2.1,v)) (by rw[List.getElem_concat_length rfl];rfl)
 rw[List.set_append_right _ _ (Nat.le_refl _),Nat.sub_self]at h2
 have ch:Chg b w (w.setCell ((Gk.blk b).add (bs.length*3+2)) (.int .i64 v)):=Chg.set b _ w _
 have keepO:∀{T:TypeId} {sz:Nat} {q:Sl} {xs:List Value},Own w T sz q xs->T≠42->Own (w.setCell ((Gk.blk b).add (bs.length*3+2)) (.int .i64 v)) T sz q xs:=λg hT=>g.of_block λa hq=>ch.block _ λe=>(by obtain⟨_,q⟩:=g.type hq;exact Blk.apart q hB hT e)
 refine⟨b,ha,h1,⟨ch.below h.b (f2 _ ha),⟨?_,λz hz=>?_⟩,h.fs,λz hz=>?_,?_⟩,λi cs' hi'=>hi'.of_block (ch.block _ λe=>by subst e;exact Blk.apart hi' hB (by decide) rfl)⟩
 ·have:=keepO h.fns.own (by decide)
  rw[zbu]at this⊢
  exact this
 ·rcases List.mem_append.1 hz with hz |hz
  ·obtain⟨g1,g2⟩:=h.fns.row z (List.mem_append.2 (.inl hz))
   refine⟨keepO g1 (by decide),g2.of_block λa ha'=>ch.block _ λe=>?_⟩
   obtain⟨e1,_⟩:=g2.lt ha'
   rw[e]at e1
   rw[e1]at ha'
   exact(hap z hz x (by simp)).2 _ ha' ha
  ·rw[List.mem_singleton.1 hz]
   exact⟨keepO o1 (by decide),h2⟩
 ·rcases List.mem_append.1 hz with hz |hz
  ·exact h.fr z (List.mem_append.2 (.inl hz))
  ·rw[List.mem_singleton.1 hz]
   exact⟨f1,f2⟩
 ·exact Z9 (List.pairwise_append.1 h.ap).1 λz hz=>hap z hz x (by simp)
end
theorem zoE{α:Type}{f:α->α}{y:α}:∀{l:List α},y∈modL f l->y∈l\/∃x∈l,y=f x
 | [],h=>by cases h
 | [x],h=>.inr ⟨x,by simp,List.mem_singleton.1 h⟩
 |x::z::r,h=>by
  rcases List.mem_cons.1 h with h |h
  ·exact .inl (h▸List.mem_cons_self ..)
  ·rcases zoE (l:=z::r) h with h | ⟨u,hu,e⟩
   ·exact .inl (List.mem_cons_of_mem _ h)
   ·exact .inr ⟨u,List.mem_cons_of_mem _ hu,e⟩
theorem zlK{α:Type}{f:α->α}:∀l:List α,(modL f l).length=l.length
 | []=>rfl
 | [_]=>rfl
 |x::z::r=>by
  have:=zlK (f:=f) (z::r)
  simp only[modL,List.length_cons]at this⊢
  omega
theorem zlz(pl:List PI):∀n,(cutF pl n).length<=n/\∀f∈cutF pl n,f.ps.length<=n/\f.bk.length<=n
 | 0=>⟨Nat.le_refl _,λf h=>by cases h⟩
 |n+1=>by
  obtain⟨h1,h2⟩:=zlz pl n
  have key:∀g:FnL->FnL,(∀f∈cutF pl n,(g f).ps.length<=n+1/\(g f).bk.length<=n+1)->(modL g (cutF pl n)).length<=n+1/\∀f∈modL g (cutF pl n),f.ps.length<=n+1/\f.bk.length<=n+1:=λg hg=>by
   refine⟨by rw[zlK];omega,λf hf=>?_⟩
   rcases zoE hf with hf | ⟨x,hx,rfl⟩
   ·have:=h2 f hf;omega
   ·exact hg x hx
  show(cutS (cutF pl n) n (ix pl n)).length<=n+1/\∀f∈cutS (cutF pl n) n (ix pl n),_
  unfold cutS
  split
  ·refine⟨by simp;omega,λf hf=>?_⟩
   rcases List.mem_append.1 hf with hf |hf
   ·have:=h2 f hf;omega
   ·rw[List.mem_singleton.1 hf];simp
  split
  ·exact key _ λf hf=>by have:=h2 f hf;simp;omega
  split
  ·exact key _ λf hf=>by have:=h2 f hf;simp;omega
  split
  ·exact key _ λf hf=>by have:=h2 f hf;simp;omega
  split
  ·exact key _ λf hf=>by have:=h2 f hf;simp only[zlK];omega
  ·exact⟨by omega,λf hf=>by have:=h2 f hf;omega⟩
theorem DCt.split{w0 w:World}{s:Sl}{L:List Fe}{l:List FnL}{f:FnL}(h:DCt w0 w s L)(hs:s.l<=1048577)(hm:L.map (·.1)=l++[f]) :
  ∃L0 x,L=L0++[x]/\x.1=f/\L0.map (·.1)=l/\IntKind.i64.wrap ((s.l:Int)-1)=(L0.length:Int):=by
 obtain⟨L0,L1,rfl,h1,h2⟩:=List.map_eq_append_iff.1 hm
 obtain⟨x,rfl,h3⟩:=List.map_eq_singleton_iff.1 h2
 refine⟨L0,x,rfl,h3,h1,?_⟩
 have:=h.len
 rw[zq (by omega) (by omega)]
 omega
section
variable {x:Mo} {pl:List PI} {w:World} {R:VWP}
def CS5(w6:World)(b:Nat)(s:Sl)(p:PI)(t:Sl)(pl:List PI)(k:Nat)(P:Prop)(s1:Sl)(w':World):Prop:=
 ∃L,DCt w6 w' s1 L/\Blk w' b 50 (inV (mkIn p t))/\((P/\L.map (·.1)=cutF pl (k+1))\/(¬P/\s1=s/\L.map (·.1)=cutF pl k))
set_option maxHeartbeats 1000000 in
theorem zmR(hN:IsPl w x.2.2.1 pl)(hp:PlOk pl)
  (hok:∀fs L w',(layP x.2.1 pl).1=0->Below w.heap.size w w'->Fns w' fs L->L.map (·.1)=cutF pl pl.length->R (.tuple #[.slice fs.a fs.l fs.c,.agg #[.int .i64 0,.int .i64 0]]) w')
  (hbad:∀w',(layP x.2.1 pl).1≠0->Below w.heap.size w w'->R (.tuple #[.slice none 0 0,.agg #[.int .i64 (layP x.2.1 pl).1,.int .i64 ((layP x.2.1 pl).2:Int)]]) w') :
  cR 48 #[moA x] w R:=by
 refine za.of (zfg x R w ?_) λ_ _ h=>h
 refine zn λw1 hB1 b1 z1=>?_
 have hB1:Blk w1 w.heap.size 25 (moV x):=hB1
 refine zn λw2 hS2 b2 z2=>?_
 have hS2:Blk w2 w1.heap.size 29 [.int .i64 0,.int .i64 0]:=hS2
 have hb2:=b1.on b2
 refine Mo.load (hB1.below b2) ?_
 refine zjx (x:=x) (hN.below hb2) hp λw3 b3=>⟨((layP x.2.1 pl).1,((layP x.2.1 pl).2:Int),()),rfl,?_⟩
 refine box2 rfl λw6 h6 b6 z6=>?_
 have b26:=b3.on b6
 have hb6:=hb2.on b26
 have hB6:=(hB1.below b2).below b26
 have hS6:=hS2.below b26
 have s1:=b1.size
 refine h6.rI0 rfl (zt (λe=>?_) (λe=>?_))
 ·have e':(layP x.2.1 pl).1≠0:=e
  exact Sp.load h6.drew (st2 hS6.drew rfl λw8 hS8 c8=>Sp.load hS8 (hbad w8 e' (c8.below hb6.drew (by omega))))
 have e':(layP x.2.1 pl).1=0:=e
 obtain⟨hsh,hg,_⟩:=zlE e'
 have hlen:=zpM hsh
 have hl:=hN.len
 have e2:(layP x.2.1 pl).2=0:=by
  have:layP x.2.1 pl=(0,0):=by
   have h:=e'
   unfold layP at h⊢
   rw[if_neg (λq=>q hsh)]at h⊢
   unfold chkP at h⊢
   cases hf:(List.range pl.length).find? (λk=>!mayP pl k) with
   |some k=>rw[hf]at h;cases h
   |none=>
    rw[hf]at h
    cases ho:zaA pl
    ·simp
    ·rw[ho]at h;cases h
  rw[this]
 refine zk.countSl pl.length (by omega) (λk s w'=>∃L,DCt w6 w' s L/\L.map (·.1)=cutF pl k) ⟨[],⟨Below.refl _ _,Fns.nil _,λa ha=>(by cases ha),λx hx=>(by cases hx),List.Pairwise.nil⟩,rfl⟩ ?_
 rintro k s w9 hk ⟨L,hC,hLm⟩ next hnext
 have b9:=hC.b
 have hb9:=hb6.on b9
 have hB9:=hB6.below b9
 obtain⟨hcl,hcs⟩:=zlz pl k
 have hLl:L.length=(cutF pl k).length:=by rw[<-hLm,List.length_map]
 have hsl:=hC.fns.len
 refine hB9.rS (n:=2) (x:=x.2.2.1) rfl (zf (λh=>?_) (λh=>?_))
 ·have hlt:k<pl.length:=by dsimp only at h;omega
  have eix:ix pl k=pl[k]:=yg hlt
  refine zl.cut (λ(st:Sl×Unit) w'=>∃L',DCt w6 w' st.1 L'/\L'.map (·.1)=cutF pl (k+1)) ?_ ?_
  rotate_left
  ·rintro⟨s',_⟩ w30 ⟨L',hC',hL'⟩
   exact hnext s' w30 hlt ⟨L',hC',hL'⟩
  refine hB9.rS (n:=2) (x:=x.2.2.1) rfl (yu (hN.below hb9) hlt λt _=>?_)
  refine box4 rfl λw14 hX14 b14 z14=>?_
  have hX14:Blk w14 w9.heap.size 50 (inV (mkIn pl[k] t)):=hX14
  have hC14:=hC.below b14
  have upd:∀{l:List FnL} {f:FnL} (g:FnL->FnL) {L0:List Fe} {y:Fe},cutF pl k=l++[f]->L0.map (·.1)=l->y.1=g f->cutS (cutF pl k) k (ix pl k)=modL g (cutF pl k)->(L0++[y]).map (·.1)=cutF pl (k+1):=λ{l f} g {L0 y} h1 h2 h3 h4=>by
   show _=cutS (cutF pl k) k (ix pl k)
   rw[h4,h1,yj,List.map_append,h2,List.map_cons,List.map_nil,h3]
  refine zl.cut (λ(st:Sl×Unit) w'=>CS5 w6 w9.heap.size s pl[k] t pl k (pl[k].1=54) st.1 w') ?_ ?_
  ·refine hX14.rI0 (x:=pl[k].1) rfl (zm (λe=>?_) (λe=>?_))
   ·refine hX14.rI (n:=2) (x:=pl[k].2.2.1) rfl (hC14.newF (by omega) λr w16 hC16 hk16=>⟨_,hC16,hk16 _ _ hX14,.inl ⟨e,?_⟩⟩)
    show _=cutS (cutF pl k) k (ix pl k)
    unfold cutS
    rw[if_pos (by rw[eix];exact e),List.map_append,hLm,eix]
    rfl
   ·exact⟨L,hC14,hX14,.inr ⟨e,rfl,hLm⟩⟩
  rintro⟨s1',_⟩ w17 hc17
  refine zl.cut (λ(_:Unit) w'=>CS5 w6 w9.heap.size s pl[k] t pl k (pl[k].1=54\/pl[k].1=55) s1' w') ?_ ?_
  ·obtain⟨L2,hC17,hX17,hd17⟩:=hc17
   dsimp only
   refine hX17.rI0 (x:=pl[k].1) rfl (zm (λe=>?_) (λe=>?_))
   ·rcases hd17 with⟨q,_⟩ | ⟨q,rfl,hm⟩
    ·omega
    obtain⟨l,f,hcf,_⟩:=ziX hg hlt (.inl (by rw[eix];exact e))
    obtain⟨L0,y,rfl,hy,hL0,en⟩:=hC17.split (by omega) (hm.trans hcf)
    rw[en]
    obtain⟨b,_,hb,_,_⟩:=hC17.base
    have hyl:=(hcs f (by rw[hcf];simp)).1
    refine⟨hC17.inLast,zj hb ⟨y.2.1,hC17.cell hb (by omega) rfl,?_⟩⟩
    refine zn λw18 hV18 b18 z18=>?_
    refine(hC17.below b18).pushP (v:=(k:Int)) hV18 (by rw[hy];omega) λw20 r hC20 hk20=>⟨_,hC20,hk20 _ _ (hX17.below b18),.inl ⟨.inr e,?_⟩⟩
    refine upd (λf=>{f with ps:=f.ps++[(k:Int)]}) hcf hL0 (by rw[<-hy]) ?_
    unfold cutS
    rw[eix,if_neg (by omega),if_pos e]
   ·refine⟨L2,hC17,hX17,?_⟩
    rcases hd17 with⟨q,hm⟩ | ⟨q,hs,hm⟩
    ·exact .inl ⟨.inl q,hm⟩
    ·exact .inr ⟨by omega,hs,hm⟩
  rintro _ w21 hc21
  refine zl.cut (λ(_:Unit) w'=>CS5 w6 w9.heap.size s pl[k] t pl k (pl[k].1=54\/pl[k].1=55\/pl[k].1=56) s1' w') ?_ ?_
  ·obtain⟨L2,hC17,hX17,hd17⟩:=hc21
   dsimp only
   refine hX17.rI0 (x:=pl[k].1) rfl (zm (λe=>?_) (λe=>?_))
   ·rcases hd17 with⟨q,_⟩ | ⟨q,rfl,hm⟩
    ·omega
    obtain⟨l,f,hcf,_⟩:=ziX hg hlt (.inr (.inl (by rw[eix];exact e)))
    obtain⟨L0,y,rfl,hy,hL0,en⟩:=hC17.split (by omega) (hm.trans hcf)
    rw[en]
    refine hC17.setEn λw22 hC22 hk22=>⟨_,hC22,hk22 _ _ hX17,.inl ⟨.inr (.inr e),?_⟩⟩
    refine upd (λf=>{f with en:=(k:Int)}) hcf hL0 (by rw[<-hy]) ?_
    unfold cutS
    rw[eix,if_neg (by omega),if_neg (by omega),if_pos e]
   ·refine⟨L2,hC17,hX17,?_⟩
    rcases hd17 with⟨q,hm⟩ | ⟨q,hs,hm⟩
    ·exact .inl ⟨by omega,hm⟩
    ·exact .inr ⟨by omega,hs,hm⟩
  rintro _ w23 hc23
  refine zl.cut (λ(_:Unit) w'=>CS5 w6 w9.heap.size s pl[k] t pl k (pl[k].1=54\/pl[k].1=55\/pl[k].1=56\/pl[k].1=248) s1' w') ?_ ?_
  ·obtain⟨L2,hC17,hX17,hd17⟩:=hc23
   dsimp only
   refine hX17.rI0 (x:=pl[k].1) rfl (zm (λe=>?_) (λe=>?_))
   ·rcases hd17 with⟨q,_⟩ | ⟨q,rfl,hm⟩
    ·omega
    obtain⟨l,f,hcf,_⟩:=ziX hg hlt (.inr (.inr (.inl (by rw[eix];exact e))))
    obtain⟨L0,y,rfl,hy,hL0,en⟩:=hC17.split (by omega) (hm.trans hcf)
    rw[en]
    have bd:Below w23.heap.size w23 w23.drew:=(Below.refl _ _).drew
    have hC23:=hC17.below bd
    have hX23:=hX17.below bd
    obtain⟨b,_,hb,_,_⟩:=hC23.base
    have hyl:=(hcs f (by rw[hcf];simp)).2
    refine⟨hC17.inLast,zj hb ⟨y.2.2,hC23.cell hb (by omega) rfl,?_⟩⟩
    refine hX23.rI (n:=2) (x:=pl[k].2.2.1) rfl ?_
    refine zn λw24 hV24 b24 z24=>?_
    have hC24:=hC23.below b24
    refine⟨hC24.cell hb (by omega) rfl,?_⟩
    refine hC24.pushB (v:=(pl[k].2.2.1,(k:Int),0)) hV24 (by rw[hy];omega) λw26 r hC26 hk26=>⟨_,hC26,hk26 _ _ (hX23.below b24),.inl ⟨by omega,?_⟩⟩
    refine upd (λf=>{f with bk:=f.bk++[(pl[k].2.2.1,(k:Int),0)]}) hcf hL0 (by rw[<-hy]) ?_
    unfold cutS
    rw[eix,if_neg (by omega),if_neg (by omega),if_neg (by omega),if_pos e]
   ·refine⟨L2,hC17,hX17,?_⟩
    rcases hd17 with⟨q,hm⟩ | ⟨q,hs,hm⟩
    ·exact .inl ⟨by omega,hm⟩
    ·exact .inr ⟨by omega,hs,hm⟩
  rintro _ w27 ⟨L2,hC27,hX27,hd27⟩
  dsimp only
  refine hX27.rI0 (x:=pl[k].1) rfl ?_
  refine zfK (op:=pl[k].1) ⟨_,rfl,zo (λee=>?_) (λee=>?_)⟩
  ·have hr:=zT ee
   rcases hd27 with⟨q,_⟩ | ⟨q,rfl,hm⟩
   ·omega
   obtain⟨l,f,hcf,hne⟩:=ziX hg hlt (.inr (.inr (.inr (by rw[eix];exact ee))))
   have hne:=hne (by rw[eix];exact ee)
   obtain⟨L0,y,rfl,hy,hL0,en⟩:=hC27.split (by omega) (hm.trans hcf)
   rw[en]
   have bd:Below w27.heap.size w27 w27.drew:=(Below.refl _ _).drew
   have hC28:=hC27.below bd
   obtain⟨b,_,hb,_,_⟩:=hC28.base
   have hyl:=(hcs f (by rw[hcf];simp)).2
   obtain⟨bs,c,hbc⟩:∃bs c,y.1.bk=bs++[c]:=by
    rw[hy]
    exact⟨f.bk.dropLast,f.bk.getLast hne,(List.dropLast_concat_getLast hne).symm⟩
   obtain⟨vb,hvb,hwr,hRC,_⟩:=hC28.setTo hbc (v:=((k+1:Nat):Int))
   have hbl:y.2.2.l=bs.length+1:=by
    have:=(hC28.fns.row y (by simp)).2.1
    rw[zO zU,hbc]at this
    simp at this
    omega
   have hbk:bs.length+1<=k:=by
    have:y.1.bk.length=bs.length+1:=by rw[hbc];simp
    rw[hy]at this
    omega
   refine⟨hC28.inLast,zj hb ⟨y.2.2,hC28.cell hb (by omega) rfl,hC28.inLast,zj hb ⟨y.2.2,hC28.cell hb (by omega) rfl,?_⟩⟩⟩
   have ew:IntKind.i64.wrap ((y.2.2.l:Int)-1)=(bs.length:Int):=by rw[zq (by omega) (by omega)];omega
   dsimp only
   rw[ew]
   refine⟨⟨by omega,by omega⟩,zj hvb ?_⟩
   rw[zy,show Int.toNat (bs.length:Int)=bs.length from rfl,zr (by omega)]
   refine⟨hwr,_,hRC,?_⟩
   refine upd (λf=>{f with bk:=modL (λb=>(b.1,b.2.1,(k:Int)+1)) f.bk}) hcf hL0 ?_ ?_
   ·rw[<-hy,hbc,yj]
    show({y.1 with bk:=bs++[(c.1,c.2.1,((k+1:Nat):Int))]}:FnL)={y.1 with bk:=bs++[(c.1,c.2.1,(k:Int)+1)]}
    rw[show((k+1:Nat):Int)=(k:Int)+1 by omega]
   ·unfold cutS
    rw[eix,if_neg (by omega),if_neg (by omega),if_neg (by omega),if_neg (by omega),if_pos ee]
  ·rcases hd27 with⟨q,hm⟩ | ⟨q,rfl,hm⟩
   ·exact⟨L2,hC27,hm⟩
   ·refine⟨L2,hC27,?_⟩
    show _=cutS (cutF pl k) k (ix pl k)
    unfold cutS
    rw[eix,if_neg (by omega),if_neg (by omega),if_neg (by omega),if_neg (by omega),if_neg (by rw[ee];decide)]
    exact hm
 ·have hk':k=pl.length:=by dsimp only at h;omega
  subst hk'
  have hS9:=hS6.below b9
  have h69:=h6.below b9
  have:=Sp.load (φ:=λx54 x55=>Wr w9.drew (blk w1.heap.size)/\Nw (w9.drew.setCell (blk w1.heap.size) (.int .i64 x54)) λw31=>Wr w31 ((blk w1.heap.size).add 1)/\Nw (w31.setCell ((blk w1.heap.size).add 1) (.int .i64 x55)) λw32=>ldI w32 ((blk w1.heap.size).add 0) .i64 λx56=>ldI w32 ((blk w1.heap.size).add 1) .i64 λx57=>R (.tuple #[(.slice s.a s.l s.c),(.agg #[(.int .i64 x56),(.int .i64 x57)])]) w32) h69.drew (st2 hS9.drew rfl λw31 hS31 c31=>Sp.load hS31 (by
   have hF:=hC.fns.below ((Below.refl w9.heap.size w9).drew)
   have:=hok s L w31 e' (c31.below (hb9.drew) (by omega)) (hF.chg c31 hS9.drew (by decide) (by decide) (by decide)) hLm
   rw[e',e2]
   exact this))
  exact this
end
section
variable {w:World} {v u:Fv} {f g:FnL} {R:VWP}
theorem zqi(hf:IsFn w v f)(hg:IsFn w u g)(hR:∀w',Below w.heap.size w w'->R (.bool (decide (f=g))) w'):cR 118 #[fvA v,fvA u] w R:=by
 refine za.of (zcr v u R w ?_) λ_ _ h=>h
 refine zn λw1 hA1 b1 z1=>?_
 have hA1:Blk w1 w.heap.size 46 (fvV v):=hA1
 refine zn λw2 hB2 b2 z2=>?_
 have hB2:Blk w2 w1.heap.size 46 (fvV u):=hB2
 have hA2:=hA1.below b2
 have hb2:=b1.on b2
 have no:f≠g->∀{w'},Below w.heap.size w w'->R (.bool false) w':=λh {w'} hb=>by
  have:=hR w' hb
  rwa[decide_eq_false h]at this
 have p1:=hf.ps.len
 have p2:=hg.ps.len
 have p3:=hf.bk.len
 have p4:=hg.bk.len
 refine zl.cut (λ(_:Unit) w'=>w'=w2/\f.id=g.id/\f.at_=g.at_/\f.en=g.en/\f.ps.length=g.ps.length/\f.bk.length=g.bk.length) ?_ ?_
 ·refine hA2.rI0 (x:=v.1) rfl (hB2.rI0 (x:=u.1) rfl (zt (λe=>no (λh=>e (by rw[hf.id,hg.id,h])) hb2) (λe1=>?_)))
  refine hA2.rI (n:=1) (x:=v.2.1) rfl (hB2.rI (n:=1) (x:=u.2.1) rfl (zt (λe=>no (λh=>e (by rw[hf.at_,hg.at_,h])) hb2) (λe2=>?_)))
  refine hA2.rI (n:=4) (x:=v.2.2.2.2.1) rfl (hB2.rI (n:=4) (x:=u.2.2.2.2.1) rfl (zt (λe=>no (λh=>e (by rw[hf.en,hg.en,h])) hb2) (λe3=>?_)))
  refine hA2.rS (n:=2) (x:=v.2.2.1) rfl (hB2.rS (n:=2) (x:=u.2.2.1) rfl (zt (λe=>no (λh=>e (by rw[p1,p2,h])) hb2) (λe4=>?_)))
  refine hA2.rS (n:=3) (x:=v.2.2.2.1) rfl (hB2.rS (n:=3) (x:=u.2.2.2.1) rfl (zt (λe=>no (λh=>e (by rw[p3,p4,h])) hb2) (λe5=>?_)))
  exact⟨rfl,hf.id.symm.trans (e1.trans hg.id),hf.at_.symm.trans (e2.trans hg.at_),hf.en.symm.trans (e3.trans hg.en),by omega,by omega⟩
 rintro _ w3 ⟨rfl,e1,e2,e3,e4,e5⟩
 refine zk.count f.ps.length (hf.ps.bound) (λk w'=>Below w.heap.size w w'/\Below w3.heap.size w3 w'/\∀j (q1:j<f.ps.length) (q2:j<g.ps.length),j<k->f.ps[j]=g.ps[j]) ⟨hb2,Below.refl _ _,λj _ _ h=>by omega⟩ ?_
 rintro k w4 hk ⟨hb4,b4,hj⟩ next hnext
 have hA4:=hA2.below b4
 have hB4:=hB2.below b4
 refine hA4.rS (n:=2) (x:=v.2.2.1) rfl (zf (λh=>?_) (λh=>?_))
 ·have hlt:k<f.ps.length:=by dsimp only at h;omega
  have hlm:k<g.ps.length:=by omega
  refine hA4.drew.rS (n:=2) (x:=v.2.2.1) rfl (zdz (hf.ps.below hb4).drew hlt ?_)
  refine hB4.drew.rS (n:=2) (x:=u.2.2.1) rfl (zdz (hg.ps.below hb4).drew hlm ?_)
  refine zt (λe=>no (λh=>e (by subst h;rfl)) hb4.drew) (λe=>hnext _ hlt ⟨hb4.drew,b4.drew,λj q1 q2 q3=>?_⟩)
  by_cases ej:j=k
  ·subst ej;exact e
  ·exact hj j q1 q2 (by omega)
 have hk':k=f.ps.length:=by dsimp only at h;omega
 have eps:f.ps=g.ps:=List.ext_getElem e4 λj q1 q2=>hj j q1 q2 (by omega)
 clear hnext
 refine zk.count f.bk.length (hf.bk.bound) (λk w'=>Below w.heap.size w w'/\Below w3.heap.size w3 w'/\∀j (q1:j<f.bk.length) (q2:j<g.bk.length),j<k->f.bk[j]=g.bk[j]) ⟨hb4,b4,λj _ _ h=>by omega⟩ ?_
 rintro i w5 hi ⟨hb5,b5,hj5⟩ next hnext
 have hA5:=hA2.below b5
 have hB5:=hB2.below b5
 refine hA5.rS (n:=3) (x:=v.2.2.2.1) rfl (zf (λh=>?_) (λh=>?_))
 ·have hlt:i<f.bk.length:=by dsimp only at h;omega
  have hlm:i<g.bk.length:=by omega
  refine hA5.drew.rS (n:=3) (x:=v.2.2.2.1) rfl (zf4 (IsC.below zU hf.bk hb5.drew) hlt ?_)
  refine hB5.drew.rS (n:=3) (x:=u.2.2.2.1) rfl (zf4 (IsC.below zU hg.bk hb5.drew) hlm ?_)
  refine zF (zo (λe=>hnext _ hlt ⟨hb5.drew,b5.drew,λj q1 q2 hjk=>?_⟩) (λe=>no (λg=>?_) hb5.drew))
  ·by_cases ej:j=i
   ·subst ej
    simp only[Bool.and_true,Bool.and_eq_true,beq_iff_eq]at e
    exact Prod.ext e.1 (Prod.ext e.2.1 e.2.2)
   ·exact hj5 j q1 q2 (by omega)
  ·subst g
   simp at e
 ·have hi':i=f.bk.length:=by dsimp only at h;omega
  have ebk:f.bk=g.bk:=List.ext_getElem e5 λj q1 q2=>hj5 j q1 q2 (by omega)
  have:=hR w5 hb5
  rwa[decide_eq_true (show f=g by cases f;cases g;simp_all)]at this
theorem zeu{n:Int}(hf:IsFn w v f)(hd:(f.bk.map (·.1)).Nodup)(hR:∀w',Below w.heap.size w w'->R (.int .i64 (lblI f.bk n)) w'):cR 85 #[fvA v,.int .u32 n] w R:=by
 refine za.of (zdQ v n R w ?_) λ_ _ h=>h
 refine zn λw1 hA1 b1 z1=>?_
 have hA1:Blk w1 w.heap.size 46 (fvV v):=hA1
 have hbl:=hf.bk.len
 have hbb:=hf.bk.bound
 refine zk.ghost (λj (st:Int×Unit) w'=>w'=w1/\∃k:Nat,st=((k:Int),())/\j=f.bk.length+1-k/\1<=k/\(k=1\/k<=f.bk.length)/\∀i (h:i<f.bk.length),1<=i->i<k->f.bk[i].1≠n) f.bk.length ⟨rfl,1,rfl,by omega,Nat.le_refl _,.inl rfl,λi _ h1 h2=>by omega⟩ ?_
 rintro _ _ w2 ⟨rfl,k,rfl,rfl,h1,h2,hj⟩ next hnext
 dsimp only
 refine hA1.rS (n:=3) (x:=v.2.2.2.1) rfl (zf (λh=>?_) (λh=>?_))
 ·have hlt:k<f.bk.length:=by omega
  refine hA1.rS (n:=3) (x:=v.2.2.2.1) rfl ?_
  obtain⟨a,ha⟩:=(IsC.below zU hf.bk b1).base hlt
  have hc:=(IsC.below zU hf.bk b1).cell a ha k hlt 0 (by omega)
  refine⟨⟨by omega,by omega⟩,zj ha ⟨f.bk[k].1,?_,zm (λe=>?_) (λe=>?_)⟩⟩
  ·exact hc
  ·have:=hR w2 b1
   unfold lblI lblM at this
   rw[<-e,zo8 hd h1 hlt (f.bk.length-1) (by omega) (by omega)]at this
   exact this
  ·rw[zr (by omega)]
   refine hnext (f.bk.length+1-(k+1)) _ w2 (by omega) ⟨rfl,k+1,rfl,rfl,by omega,.inr (by omega),λi q1 q2 q3=>?_⟩
   by_cases ei:i=k
   ·subst ei;exact e
   ·exact hj i q1 q2 (by omega)
 ·have:=hR w2 b1
  unfold lblI lblM at this
  by_cases h0:f.bk.length=0
  ·rw[h0]at this
   exact this
  ·rw[zo7 (f.bk.length-1) (by omega) λi q1 q2 q3=>hj i q1 q2 (by omega)]at this
   exact this
end
section
variable {x:Mo} {pl:List PI} {w:World} {R:VWP} {v:Fv} {f:FnL}
theorem zoV(hN:IsPl w x.2.2.1 pl)(hp:PlOk pl)(hl:(layP x.2.1 pl).1=0)(hf:IsFn w v f)(hR:∀w',Below w.heap.size w w'->R (.bool (decide (f∈cutF pl pl.length))) w'):cR 82 #[moA x,fvA v] w R:=by
 refine za.of (zdR x v R w ?_) λ_ _ h=>h
 refine zn λw1 hB1 b1 z1=>?_
 have hB1:Blk w1 w.heap.size 25 (moV x):=hB1
 refine zn λw2 hV2 b2 z2=>?_
 have hV2:Blk w2 w1.heap.size 46 (fvV v):=hV2
 have hb2:=b1.on b2
 refine Mo.load (hB1.below b2) ?_
 refine zmR (x:=x) (hN.below hb2) hp (λfs L w3 _ b3 hL hLm=>⟨fs,(0,0,()),rfl,?_⟩) (λw3 hne _=>absurd hl hne)
 refine box2 rfl λw6 h6 b6 z6=>?_
 have b26:=b3.on b6
 have hb6:=hb2.on b26
 have hL6:=hL.below b6
 have hV6:=hV2.below b26
 have hll:=hL.len
 have hc5:IsC 5 feV w6 fs L:=Own.isC Yj (by omega) hL6.own
 have hbd:=hc5.bound
 refine zk.count L.length hbd (λk w'=>Below w6.heap.size w6 w'/\∀j (h:j<L.length),j<k->L[j].1≠f) ⟨Below.refl _ _,λj _ h=>by omega⟩ ?_
 rintro k w7 hk ⟨b7,hj⟩ next hnext
 refine zf (λh=>?_) (λh=>?_)
 ·have hlt:k<L.length:=by dsimp only at h;omega
  have b7d:=b7.drew
  have hL7:=hL6.below b7d
  refine znx hL7 hlt (Fv.load (hV6.below b7d) ?_)
  refine zqi (v:=(L[k].1.id,L[k].1.at_,L[k].2.1,L[k].2.2,L[k].1.en,())) (u:=v) (f:=L[k].1) (g:=f) (hL7.isFn (List.getElem_mem hlt)) (hf.below (hb6.on b7d)) λw8 b8=>⟨_,rfl,zf (λe=>?_) (λe=>hnext w8 hlt ⟨b7d.on b8,λj q1 q2=>?_⟩)⟩
  ·have:=hR w8 (hb6.on (b7d.on b8))
   have hin:f∈cutF pl pl.length:=by rw[<-hLm];exact List.mem_map.2 ⟨L[k],List.getElem_mem hlt,e⟩
   rwa[decide_eq_true hin]at this
  ·by_cases ej:j=k
   ·subst ej;exact e
   ·exact hj j q1 (by omega)
 ·have:=hR w7 (hb6.on b7)
  have hno:f ∉ cutF pl pl.length:=λhm=>by
   rw[<-hLm]at hm
   obtain⟨y,hy,e⟩:=List.mem_map.1 hm
   obtain⟨j,hj',rfl⟩:=List.getElem_of_mem hy
   exact hj j hj' (by dsimp only at h;omega) e
  rwa[decide_eq_false hno]at this
end
end Go.Proofs
namespace Go.Proofs
open Go.Gk Go.RowKit Go.Gr
end Go.Proofs
namespace Go.Proofs
open Go.Gk Go.RowKit Go.Gm
theorem zkb{M:List (Int×Int)}{n:Int}(h:0<=(zI M n).getD (-1)):(zI M n).isSome=true/\(zI M n).getD (-1)=(zI M n).getD 0:=by
 cases e:zI M n with
 |none=>rw[e]at h;exact absurd h (by decide)
 |some v=>exact⟨rfl,rfl⟩
theorem zka{bk:List (Int×Int×Int)}{n:Int}(h:¬0<=lblI bk n):zI (lblM bk) n=none:=by
 unfold lblI at h
 cases e:zI (lblM bk) n with
 |none=>rfl
 |some v=>
  rw[e]at h
  have:=zgY bk _ n v e
  exact absurd (show 0<=v by omega) h
theorem zo6{bk:List (Int×Int×Int)}{n v:Int}(h:zI (lblM bk) n=some v):lblI bk n=v/\1<=v:=by
 have:=zgY bk _ n v h
 exact⟨by unfold lblI;rw[h];rfl,this.1⟩
section
variable {x:Mo} {pl:List PI} {w:World} {R:VWP} {v:Fv} {f:FnL}
set_option maxHeartbeats 1000000 in
theorem zoX{b:Int×Int×Int}(hN:IsPl w x.2.2.1 pl)(hsh:(zG x.2.1 pl).1=0)(hf:IsFn w v f)(hFn:FnOk pl pl.length f)(hd:(f.bk.map (·.1)).Nodup)(hb:b∈f.bk)
  (hR:∀(m:Mg) (o:Bool) w',Below w.heap.size w w'->(o=true->blkM pl f.bk b=some m)->(o=false->blkM pl f.bk b=none)->R (.tuple #[.agg #[.int .u8 m.1,.int .i64 m.2.1,.int .i64 m.2.2],.bool o]) w') :
  cR 83 #[moA x,fvA v,.agg #[.int .u32 b.1,.int .i64 b.2.1,.int .i64 b.2.2]] w R:=by
 refine za.of (zdP x v (b.1,b.2.1,b.2.2,()) R w ?_) λ_ _ h=>h
 obtain⟨fr,to_,hbq,hft,htl,h248,h8f,hend,h8t⟩:=(hFn.ok b hb).ex
 have hl:=hN.len
 have hlen:=zpM hsh
 have h1l:to_-1<pl.length:=by omega
 have h2l:to_-2<pl.length:=by omega
 have ei1:ix pl (to_-1)=pl[to_-1]:=yg h1l
 have ei2:ix pl (to_-2)=pl[to_-2]:=yg h2l
 have hto:b.2.2=(to_:Int):=by rw[hbq]
 have hfrom:b.2.1=(fr:Int):=by rw[hbq]
 have hbM:blkM pl f.bk b=mrgP (lblM f.bk) pl[to_-2].1 pl[to_-2].2.2.2 pl[to_-1].1:=by
  unfold blkM
  rw[hto,Int.toNat_natCast,ei1,ei2]
 have hM:=zlI ((Ye hsh).2 (to_-2) h2l)
 refine zn λw1 hB1 b1 z1=>?_
 have hB1:Blk w1 w.heap.size 25 (moV x):=hB1
 refine zn λw2 hV2 b2 z2=>?_
 have hV2:Blk w2 w1.heap.size 46 (fvV v):=hV2
 refine zn λw3 hK3 b3 z3=>?_
 have hK3:Blk w3 w2.heap.size 42 (blV b):=hK3
 refine zn λw4 hO4 b4 z4=>?_
 have hO4:Blk w4 w3.heap.size 106 [.int .u8 0,.int .i64 0,.int .i64 0]:=hO4
 refine box3 rfl λw8 hX8 b8 z8=>?_
 have hX8:Blk w8 w4.heap.size 106 (mgV (0,-1,-1)):=hX8
 have b28:=b3.on (b4.on b8)
 have b18:=b2.on b28
 have hb8:=b1.on b18
 have hB8:=hB1.below b18
 have hV8:=hV2.below b28
 have hK8:=hK3.below (b4.on b8)
 have hO8:=hO4.below b8
 have sz1:=b1.size
 have sz2:=b2.size
 have sz3:=b3.size
 have sz4:=b4.size
 have out:∀{w':World} (ba:Nat) (y:Mg) (o:Bool),Blk w' ba 106 (mgV y)->Blk w' w3.heap.size 106 [.int .u8 0,.int .i64 0,.int .i64 0]->Below w.heap.size w w'->(o=true->blkM pl f.bk b=some y)->(o=false->blkM pl f.bk b=none)->
   ldI w' ((blk ba).add 0) .u8 λx3=>ldI w' ((blk ba).add 1) .i64 λx4=>ldI w' ((blk ba).add 2) .i64 λx5=>
   Wr w' (blk w3.heap.size)/\Nw (w'.setCell (blk w3.heap.size) (.int .u8 x3)) λw9=>Wr w9 ((blk w3.heap.size).add 1)/\Nw (w9.setCell ((blk w3.heap.size).add 1) (.int .i64 x4)) λw10=>Wr w10 ((blk w3.heap.size).add 2)/\Nw (w10.setCell ((blk w3.heap.size).add 2) (.int .i64 x5)) λw11=>
    ldI w11 ((blk w3.heap.size).add 0) .u8 λx6=>ldI w11 ((blk w3.heap.size).add 1) .i64 λx7=>ldI w11 ((blk w3.heap.size).add 2) .i64 λx8=>R (.tuple #[(.agg #[(.int .u8 x6),(.int .i64 x7),(.int .i64 x8)]),(.bool o)]) w11:=λ{w'} ba y o hY hO hb' h1 h2=>
  hY.rI (n:=0) (x:=y.1) rfl (hY.rI (n:=1) (x:=y.2.1) rfl (hY.rI (n:=2) (x:=y.2.2) rfl (st3 hO rfl λw11 hO11 c11=>hO11.rI (n:=0) (x:=y.1) rfl (hO11.rI (n:=1) (x:=y.2.1) rfl (hO11.rI (n:=2) (x:=y.2.2) rfl (hR y o w11 (c11.below hb' (by omega)) h1 h2))))))
 refine hK8.rI (n:=2) (x:=b.2.2) rfl (hK8.rI (n:=1) (x:=b.2.1) rfl ?_)
 rw[hto,hfrom]
 have ew:IntKind.i64.wrap ((to_:Int)-(fr:Int))=(to_:Int)-fr:=zq (by omega) (by omega)
 rw[ew]
 refine zf (λhsm=>?_) (λhgt=>?_)
 ·have e2:to_-2=fr:=by omega
  have:blkM pl f.bk b=some (0,-1,-1):=by
   rw[hbM]
   have:pl[to_-2].1=248:=by rw[<-ei2,e2];exact h248
   unfold mrgP
   rw[if_neg (by omega),if_neg (by omega)]
  exact out w4.heap.size (0,-1,-1) true hX8 hO8 hb8 (λ_=>this) (λh=>by cases h)
 have et1:IntKind.i64.wrap ((to_:Int)-1)=((to_-1:Nat):Int):=by rw[zq (by omega) (by omega)];omega
 have et2:IntKind.i64.wrap ((to_:Int)-2)=((to_-2:Nat):Int):=by rw[zq (by omega) (by omega)];omega
 refine hB8.rS (n:=2) (x:=x.2.2.1) rfl (hK8.rI (n:=2) (x:=b.2.2) rfl ?_)
 rw[hto,et2]
 refine yu (hN.below hb8) h2l λti hti=>?_
 refine box4 rfl λw16 hI16 b16 z16=>?_
 have hI16:Blk w16 w8.heap.size 50 (inV (mkIn pl[to_-2] ti)):=hI16
 have hti16:IsAg w16 ti pl[to_-2].2.2.2:=hti.below b16
 have hb16:=hb8.on b16
 have hX16:=hX8.below b16
 have hO16:=hO8.below b16
 have hal:=hti.len
 refine zl.cut (λ(_:Unit) w'=>w'=w16/\(pl[to_-2].1=246\/pl[to_-2].1=247)) ?_ ?_
 ·refine hI16.rI0 (x:=pl[to_-2].1) rfl (zt (λe=>?_) (λe=>⟨rfl,.inl e⟩))
  refine hI16.rI0 (x:=pl[to_-2].1) rfl (zt (λe'=>?_) (λe'=>⟨rfl,.inr e'⟩))
  have:blkM pl f.bk b=some (0,-1,-1):=by
   rw[hbM]
   unfold mrgP
   rw[if_neg e',if_neg e]
  exact out w4.heap.size (0,-1,-1) true hX16 hO16 hb16 (λ_=>this) (λh=>by cases h)
 rintro _ w20 ⟨rfl,hop⟩
 have hl0:0<pl[to_-2].2.2.2.length:=by
  rcases hop with e |e
  ·have:=hM.2 e;omega
  ·exact hM.1 e
 have bd:Below w20.heap.size w20 w20.drew:=(Below.refl _ _).drew
 have hV20:=hV8.below b16
 have s8:=b8.size
 have s16:=b16.size
 generalize ea0:(pl[to_-2].2.2.2[0]).2.1=n0
 have eg0:(pl[to_-2].2.2.2.getD 0 ag0).2.1=n0:=by rw[zs hl0,ea0]
 refine zl.cut (λ(st:Addr×Unit) w'=>∃mb,st=(blk mb,())/\Blk w' mb 106 (mgV (1,lblI f.bk n0,-1))/\Below w20.heap.size w20 w'/\w20.heap.size<=mb) ?_ ?_
 ·refine Fv.load (v:=v) hV20.drew ?_
  refine hI16.drew.rS (n:=3) (x:=ti) rfl ?_
  obtain⟨aa,haa⟩:=(IsAg.below hti16 bd).base hl0
  have hc:=(IsAg.below hti16 bd).cell aa haa 0 hl0 1 (by omega)
  have hcn:w20.drew.cell? ((aa.add (0*3)).add 1)=some (.int .u32 n0):=by
   rw[zy,hc,<-ea0];rfl
  refine⟨⟨by omega,by omega⟩,zj haa ⟨n0,hcn,?_,?_⟩⟩
  ·refine zeu (v:=v) (n:=n0) (hf.below (hb16.on bd)) hd λw21 b21=>⟨_,rfl,?_⟩
   refine box3 rfl λw25 hM25 b25 z25=>⟨w21.heap.size,rfl,hM25,(bd.on b21).on b25,?_⟩
   have:=bd.size;have:=b21.size;omega
  ·refine zn λw26 hM26 b26 z26=>?_
   have hM26:Blk w26 w20.drew.heap.size 106 [.int .u8 0,.int .i64 0,.int .i64 0]:=hM26
   have hV26:=hV20.drew.below b26
   have hI26:=hI16.drew.below b26
   refine⟨yP b26 hcn,hI26.cell (n:=3) rfl,hV26.cell (n:=0) rfl,hV26.cell (n:=1) rfl,hV26.cell (n:=2) rfl,hV26.cell (n:=3) rfl,hV26.cell (n:=4) rfl,?_⟩
   refine zeu (v:=v) (n:=n0) (hf.below ((hb16.on bd).on b26)) hd λw27 b27=>⟨_,rfl,?_⟩
   refine st3 (hM26.below b27) rfl λw30 hM30 c30=>⟨w20.drew.heap.size,rfl,hM30,?_,bd.size⟩
   exact c30.below ((bd.on b26).on b27) bd.size
 rintro _ w31 ⟨mb,rfl,hM31,b31,hmb⟩
 have hb31:=hb16.on b31
 have hX31:=hX16.below b31
 have hO31:=hO16.below b31
 have hI31:=hI16.below b31
 have hV31:=hV20.below b31
 have hB31:=(hB8.below b16).below b31
 have hK31:=(hK8.below b16).below b31
 dsimp only
 refine hM31.rI (n:=1) (x:=lblI f.bk n0) rfl (zf (λhneg=>?_) (λhpos=>?_))
 ·have hnone:=zka (bk:=f.bk) (n:=n0) (by omega)
  have:blkM pl f.bk b=none:=by
   rw[hbM]
   unfold mrgP
   rw[eg0,hnone]
   rcases hop with e |e
   ·rw[if_neg (by omega),if_pos e]
   ·rw[if_pos e]
  exact out w4.heap.size (0,-1,-1) false hX31 hO31 hb31 (λh=>by cases h) (λ_=>this)
 obtain⟨hs0,hv0⟩:=zkb (M:=lblM f.bk) (n:=n0) (by unfold lblI at hpos;omega)
 obtain⟨a,ha⟩:=Option.isSome_iff_exists.1 hs0
 obtain⟨hla,_⟩:=zo6 ha
 rw[hla]at hM31
 refine hI31.rI0 (x:=pl[to_-2].1) rfl (zm (λe246=>?_) (λe246=>?_))
 ·have hl1:1<pl[to_-2].2.2.2.length:=hM.2 e246
  generalize ea1:(pl[to_-2].2.2.2[1]).2.1=n1
  have eg1:(pl[to_-2].2.2.2.getD 1 ag0).2.1=n1:=by rw[zs hl1,ea1]
  refine⟨hM31.wr0 (show 0<3 by omega),?_⟩
  refine Nw.gen λw35 e35=>?_
  have hM35:Blk w35 mb 106 (mgV (2,a,-1)):=by rw[e35];exact hM31.set0 _
  have c35:Chg mb w31 w35:=by rw[e35];exact Chg.set mb 0 w31 _
  clear e35
  have kp:∀{c:Nat} {T:TypeId} {cs:List Value},Blk w31 c T cs->c≠mb->Blk w35 c T cs:=λh hne=>c35.blk h hne
  have b35:Below w20.heap.size w20 w35:=c35.below b31 hmb
  have hb35:=hb16.on b35
  have hV35:=hV20.below b35
  have hI35:=hI16.below b35
  have hO35:=hO16.below b35
  have bd5:Below w35.heap.size w35 w35.drew:=(Below.refl _ _).drew
  refine Fv.load (v:=v) hV35.drew ?_
  refine hI35.drew.rS (n:=3) (x:=ti) rfl ?_
  have hti35:IsAg w35.drew ti pl[to_-2].2.2.2:=(hti16.below b35).below bd5
  obtain⟨aa,haa⟩:=hti35.base hl1
  have hc:=hti35.cell aa haa 1 hl1 1 (by omega)
  have hcn:w35.drew.cell? ((aa.add (1*3)).add 1)=some (.int .u32 n1):=by
   rw[zy,hc,<-ea1];rfl
  refine⟨⟨by omega,by omega⟩,zj haa ⟨n1,hcn,?_⟩⟩
  refine zeu (v:=v) (n:=n1) (hf.below (hb35.on bd5)) hd λw36 b36=>⟨_,rfl,?_⟩
  have hM36:=(hM35.below bd5).below b36
  refine⟨hM36.wr (show 2<3 by omega),?_⟩
  refine Nw.gen λw37 e37=>?_
  have hM37:Blk w37 mb 106 (mgV (2,a,lblI f.bk n1)):=by rw[e37];exact hM36.set 2 _
  have c37:Chg mb w36 w37:=by rw[e37];exact Chg.set mb 2 w36 _
  clear e37
  have b37:Below w20.heap.size w20 w37:=c37.below ((b35.on bd5).on b36) hmb
  have hO37:=(hO16.below b37).drew
  have hM37d:=hM37.drew
  refine hM37d.rI (n:=0) (x:=2) rfl (hM37d.rI (n:=1) (x:=a) rfl (hM37d.rI (n:=2) (x:=lblI f.bk n1) rfl (hM37d.rI (n:=2) (x:=lblI f.bk n1) rfl ?_)))
  refine st3 hO37 rfl λw40 hO40 c40=>?_
  have hne:mb≠w3.heap.size:=by omega
  refine⟨(c40.blk hM37d hne).cell (n:=2) rfl,hO40.rI (n:=0) (x:=2) rfl (hO40.rI (n:=1) (x:=a) rfl (hO40.rI (n:=2) (x:=lblI f.bk n1) rfl ?_))⟩
  have hb40:Below w.heap.size w w40:=c40.below ((hb16.on b37).drew) (by omega)
  have hbl:blkM pl f.bk b=(match zI (lblM f.bk) n1 with
    |some c=>some (2,a,c)
    |none=>none):=by
   rw[hbM]
   unfold mrgP
   rw[if_neg (by omega),if_pos e246,eg0,eg1,ha]
   cases zI (lblM f.bk) n1<;>rfl
  have:=hR (2,a,lblI f.bk n1) (decide (lblI f.bk n1≥0)) w40 hb40 (λh=>?_) (λh=>?_)
  ·exact this
  ·have h:=of_decide_eq_true h
   obtain⟨hs1,hv1⟩:=zkb (M:=lblM f.bk) (n:=n1) h
   obtain⟨c,hc'⟩:=Option.isSome_iff_exists.1 hs1
   rw[hbl,hc',(zo6 hc').1]
  ·have h:=of_decide_eq_false h
   rw[hbl,zka h]
 have e247:pl[to_-2].1=247:=by omega
 refine zl.cut (λ(_:Unit) w'=>Blk w' mb 106 (mgV (if pl[to_-1].1=251 then 3 else 1,a,-1))/\Below w20.heap.size w20 w') ?_ ?_
 ·refine hB31.rS (n:=2) (x:=x.2.2.1) rfl (hK31.rI (n:=2) (x:=b.2.2) rfl ?_)
  rw[hto,et1]
  have hN31:=hN.below hb31
  obtain⟨aa,haa⟩:=hN31.base h1l
  obtain⟨tt,q1,q2⟩:=hN31.elem aa haa (to_-1) h1l
  refine⟨⟨by omega,by omega⟩,zj haa ⟨pl[to_-1].1,?_,zm (λe=>⟨hM31.wr0 (show 0<3 by omega),?_⟩) (λe=>⟨?_,b31⟩)⟩⟩
  ·exact q1 0 (by omega)
  ·refine Nw.gen λw41 e41=>⟨?_,?_⟩
   ·rw[e41,if_pos e];exact hM31.set0 _
   ·rw[e41];exact(Chg.set mb 0 w31 _).below b31 hmb
  ·rw[if_neg e];exact hM31
 rintro _ w42 ⟨hM42,b42⟩
 refine out mb _ true hM42 (hO16.below b42) (hb16.on b42) (λ_=>?_) (λh=>by cases h)
 rw[hbM]
 unfold mrgP
 rw[if_pos e247,eg0,ha]
end
end Go.Proofs
namespace Go.Proofs
open Go.Gk
set_option linter.unusedVariables false
set_option maxRecDepth 100000
end Go.Proofs
namespace Go.Proofs
open Go.Gk Go.RowKit Go.Gm
section
variable {x:Mo} {pl:List PI} {w:World} {R:VWP} {v:Fv} {f:FnL}
set_option maxHeartbeats 1000000 in
theorem zmT(hN:IsPl w x.2.2.1 pl)(hp:PlOk pl)(h0:0<=x.2.1)(hf:IsFn w v f)
  (hbad:∀w' e a,Below w.heap.size w w'->(e,a)=gnwE x pl f->e≠0->R (.tuple #[.pointer none,.slice none 0 0,.agg #[.int .i64 e,.int .i64 a]]) w')
  (hok:∀w' rb ms,Below w.heap.size w w'->gnwE x pl f=(0,0)->f∈cutF pl pl.length->IsR w' rb (Zd (Yd pl f.bk))->NxOk (Zd (Yd pl f.bk))->IsM w' ms (mgsP pl f.bk)->R (.tuple #[.pointer (some (blk rb)),.slice ms.a ms.l ms.c,.agg #[.int .i64 0,.int .i64 0]]) w') :
  cR 49 #[moA x,fvA v] w R:=by
 refine za.of (zfi x v R w ?_) λ_ _ h=>h
 refine zn λw1 hB1 b1 z1=>?_
 have hB1:Blk w1 w.heap.size 25 (moV x):=hB1
 refine zn λw2 hV2 b2 z2=>?_
 have hV2:Blk w2 w1.heap.size 46 (fvV v):=hV2
 refine zn λw3 hS3 b3 z3=>?_
 have hS3:Blk w3 w2.heap.size 29 [.int .i64 0,.int .i64 0]:=hS3
 have b13:=b2.on b3
 have hb3:=b1.on b13
 refine Mo.load (hB1.below b13) ?_
 refine zjy (x:=x) (hN.below hb3) hp λw4 b4=>⟨((zV x.2.1 pl).1,((zV x.2.1 pl).2:Int),()),rfl,?_⟩
 refine box2 rfl λw7 h7 b7 z7=>?_
 have b37:=b4.on b7
 have hb7:=hb3.on b37
 have hB7:=(hB1.below b13).below b37
 have hV7:=(hV2.below b3).below b37
 have hS7:=hS3.below b37
 have s1:=b1.size
 have s2:=b2.size
 have bad:∀{w':World} (e a:Int),Blk w' w2.heap.size 29 [.int .i64 0,.int .i64 0]->Below w.heap.size w w'->(e,a)=gnwE x pl f->e≠0->
   Wr w' (blk w2.heap.size)/\Nw (w'.setCell (blk w2.heap.size) (.int .i64 e)) λw8=>Wr w8 ((blk w2.heap.size).add 1)/\Nw (w8.setCell ((blk w2.heap.size).add 1) (.int .i64 a)) λw9=>ldI w9 ((blk w2.heap.size).add 0) .i64 λx9=>ldI w9 ((blk w2.heap.size).add 1) .i64 λx10=>
    R (.tuple #[.pointer none,.slice none 0 0,.agg #[.int .i64 x9,.int .i64 x10]]) w9:=λ{w'} e a hS hb he hne=>
  st2 hS rfl λw9 hS9 c9=>Sp.load hS9 (hbad w9 e a (c9.below hb (by omega)) he hne)
 refine h7.rI0 rfl (zt (λe=>?_) (λe=>?_))
 ·have e':(zV x.2.1 pl).1≠0:=e
  exact Sp.load h7.drew (bad _ _ hS7.drew hb7.drew (by unfold gnwE;rw[if_pos e']) e')
 have e':(zV x.2.1 pl).1=0:=e
 obtain⟨k1,k2,k3⟩:=zeq e'
 have hsh:=zfj k2
 refine Mo.load hB7 (Fv.load (v:=v) hV7 ?_)
 refine zoV (x:=x) (v:=v) (hN.below hb7) hp k2 (hf.below hb7) λw10 b10=>⟨_,rfl,?_⟩
 have hb10:=hb7.on b10
 have hB10:=hB7.below b10
 have hV10:=hV7.below b10
 have hS10:=hS7.below b10
 refine zF (zf (λhin=>?_) (λhin=>?_))
 rotate_left
 ·exact bad 2 0 hS10 hb10 (by unfold gnwE;rw[if_neg (λh=>h e'),if_pos hin]) (by decide)
 have hFn:=znt k2 f hin
 have hnd:=zjl hp h0 e' hFn
 have hbl:=(hf.bk).len
 have hbmax:=(hf.bk).bound
 refine hV10.rS (n:=3) (x:=v.2.2.2.1) rfl (zf (λhgt=>?_) (λhle=>?_))
 ·refine hV10.drew.rI (n:=1) (x:=v.2.1) rfl ?_
  exact bad 4 v.2.1 hS10.drew hb10.drew (by unfold gnwE;rw[if_neg (λh=>h e'),if_neg (λh=>h hin),if_pos (by omega),hf.at_]) (by decide)
 have hle:f.bk.length<=4096:=by omega
 have hpos:0<f.bk.length:=List.length_pos_iff.2 hFn.ne
 have hgn:gnwE x pl f=(match f.bk.findSome? (blkE pl f.bk) with
   |some a=>(140,a)
   |none=>(0,0)):=by unfold gnwE;rw[if_neg (λh=>h e'),if_neg (λh=>h hin),if_neg (by omega)];try rfl
 have hN10:=hN.below hb10
 have hbk10:IsBk w10 v.2.2.2.1 f.bk:=IsC.below zU hf.bk hb10
 have hl:=hN.len
 have hlen:=zpM hsh
 refine zk.ghost (λj (st:Sl×Sl×Int×Unit) w'=>∃(k:Nat) (nx mg:Sl) (hs:List Sl),st=(nx,mg,(k:Int),())/\j=f.bk.length-k/\k<=f.bk.length/\Below w10.heap.size w10 w'/\hs.length=k/\Own w' 43 1 nx (hs.map Sl.val)/\zz w10.heap.size nx/\
  (∀i (h:i<hs.length) (h':i<(Yd pl f.bk).length),Own w' 3 1 hs[i] ((Yd pl f.bk)[i].map (Value.int .i64))/\zz w10.heap.size hs[i])/\Own w' 106 3 mg (flat mgV ((mgsP pl f.bk).take k))/\zz w10.heap.size mg/\
  ∀i (h:i<f.bk.length),i<k->blkE pl f.bk f.bk[i]=none) f.bk.length
  ⟨0,⟨none,0,0⟩,⟨none,0,0⟩,[],rfl,rfl,Nat.zero_le _,Below.refl _ _,rfl,Own.nil _ _ _,λa ha=>(by cases ha),λi h=>(by cases h),Own.nil _ _ _,λa ha=>(by cases ha),λi _ h=>by omega⟩ ?_
 rintro _ _ w15 ⟨k,nx,mg,hs,rfl,rfl,hk,b15,hhl,hnx,hnxF,hrow,hmg,hmgF,hgood⟩ next hnext
 have hb15:=hb10.on b15
 have hV15:=hV10.below b15
 have hB15:=hB10.below b15
 have hS15:=hS10.below b15
 dsimp only
 refine hV15.rS (n:=3) (x:=v.2.2.2.1) rfl (zf (λh=>?_) (λh=>?_))
 ·have hkl:k<f.bk.length:=by omega
  obtain⟨fr,to_,hbq,hft,htl,h248,h8f,hend,h8t⟩:=(hFn.ok _ (List.getElem_mem hkl)).ex
  have hto:f.bk[k].2.2=(to_:Int):=by rw[hbq]
  refine hV15.rS (n:=3) (x:=v.2.2.2.1) rfl (zf4 (IsC.below zU hbk10 b15) hkl ?_)
  refine box3 rfl λw19 hK19 b19 z19=>?_
  have hK19:Blk w19 w15.heap.size 42 (blV f.bk[k]):=hK19
  have b1019:=b15.on b19
  have hb19:=hb10.on b1019
  have et1:IntKind.i64.wrap ((to_:Int)-1)=((to_-1:Nat):Int):=by rw[zq (by omega) (by omega)];omega
  have et2:IntKind.i64.wrap ((to_:Int)-2)=((to_-2:Nat):Int):=by rw[zq (by omega) (by omega)];omega
  have h1l:to_-1<pl.length:=by omega
  have ei1:ix pl (to_-1)=pl[to_-1]:=yg h1l
  have hbT:blkT pl f.bk[k]=tgtP pl[to_-1].1 pl[to_-1].2.2.2:=by
   unfold blkT
   rw[hto,Int.toNat_natCast,ei1]
  refine Mo.load (hB15.below b19) (Fv.load (v:=v) (hV15.below b19) ?_)
  refine hK19.rI (n:=0) (x:=f.bk[k].1) rfl (hK19.rI (n:=1) (x:=f.bk[k].2.1) rfl (hK19.rI (n:=2) (x:=f.bk[k].2.2) rfl ?_))
  refine zoX (x:=x) (v:=v) (hN.below hb19) hsh (hf.below hb19) hFn hnd (List.getElem_mem hkl) λm o w20 b20 hm1 hm2=>⟨(m.1,m.2.1,m.2.2,()),o,rfl,?_⟩
  refine box3 rfl λw24 hM24 b24 z24=>?_
  have hM24:Blk w24 w20.heap.size 106 (mgV m):=hM24
  have b1924:=b20.on b24
  have b1524:=b19.on b1924
  have b1024:=b1019.on b1924
  have hb24:=hb10.on b1024
  have hS24:=hS10.below b1024
  have hK24:=hK19.below b1924
  refine zF (zo (λhokt=>?_) (λhokf=>?_))
  rotate_left
  ·have hnone:=hm2 hokf
   have hE:blkE pl f.bk f.bk[k]=some ((to_:Int)-2):=by unfold blkE;rw[hnone,hto]
   refine hK24.drew.rI (n:=2) (x:=f.bk[k].2.2) rfl ?_
   rw[hto,et2]
   refine bad 140 ((to_-2:Nat):Int) hS24.drew hb24.drew ?_ (by decide)
   rw[hgn,Zf hkl hE λj h1 h2=>hgood j h1 h2]
   dsimp only
   congr 1
   omega
  have hsome:=hm1 hokt
  refine hM24.rI (n:=0) (x:=m.1) rfl (hM24.rI (n:=1) (x:=m.2.1) rfl (hM24.rI (n:=2) (x:=m.2.2) rfl ?_))
  refine zn λw27 hY27 b27 z27=>?_
  have hY27:Blk w27 w24.heap.size 106 (mgV m):=hY27
  have b1527:=b1524.on b27
  have b1027:=b15.on b1527
  have hmgl:mg.l=k:=by
   have:=hmg.1
   rw[zO zkV,List.length_take]at this
   unfold mgsP at this
   rw[List.length_map]at this
   omega
  have hnxl:nx.l=k:=by
   have:=hnx.1
   rw[List.length_map]at this
   omega
  refine zb2 (w0:=w10) eMg (hmg.below b1527) b1027 hmgF rfl (by simp[Value.oneCell']) hY27 (by omega) (by omega) λmg' w28 q1 q2 q3 q4 q5=>?_
  have hb28:=hb10.on q2
  have hB28:=hB10.below q2
  have hV28:=hV10.below q2
  have hS28:=hS10.below q2
  have keep28:∀{T:TypeId} {sz:Nat} {s:Sl} {xs:List Value},Own w27 T sz s xs->106≠T->Own w28 T sz s xs:=λho hT=>ho.of_block λa ha=>q5 _ (ho.lt ha).2 (Zz (hmg.below b1527) ho hT ha)
  have hK27:=hK24.below b27
  have hK28:Blk w28 w15.heap.size 42 (blV f.bk[k]):=hK27.of_block (q5 _ hK27.lt λe=>yI (hmg.below b1527) hK27 (by decide) e)
  refine hB28.rS (n:=2) (x:=x.2.2.1) rfl (hK28.rI (n:=2) (x:=f.bk[k].2.2) rfl ?_)
  rw[hto,et1]
  have hal24:=hp.args _ (List.getElem_mem h1l)
  refine yu (hN.below hb28) h1l λtl htl'=>?_
  refine zmj (x:=mkIn pl[to_-1] tl) htl' hal24 λtg w29 htg htgF b29=>⟨tg,rfl,?_⟩
  have htg:Own w29 22 1 tg ((tgtP pl[to_-1].1 pl[to_-1].2.2.2).map (Value.int .u32)):=htg
  have hlenT:=zlZ pl[to_-1].1 pl[to_-1].2.2.2
  have b1029:=q2.on b29
  have hb29:=hb10.on b1029
  have hS29:=hS10.below b1029
  have hV29:=hV10.below b1029
  have hK29:=hK28.below b29
  generalize htgd:tgtP pl[to_-1].1 pl[to_-1].2.2.2=tgl at *
  have htl2:tg.l=tgl.length:=by have:=htg.1;rw[List.length_map]at this;omega
  refine zk.countSl tgl.length (by omega) (λj r w'=>Below w29.heap.size w29 w'/\Own w' 3 1 r (((tgl.take j).map λn=>(zI (lblM f.bk) n).getD 0).map (Value.int .i64))/\zz w29.heap.size r/\∀i (h:i<tgl.length),i<j->(zI (lblM f.bk) tgl[i]).isSome=true)
   ⟨Below.refl _ _,Own.nil _ _ _,λa ha=>(by cases ha),λi _ h=>by omega⟩ ?_
  rintro j r w30 hj ⟨b30,hO30,hF30,hfound⟩ next2 hnext2
  have b1030:=b1029.on b30
  have hb30:=hb10.on b1030
  have bd:Below w30.heap.size w30 w30.drew:=(Below.refl _ _).drew
  have hV30:=hV29.below b30
  have hS30:=hS29.below b30
  have hK30:=hK29.below b30
  refine zf (λhjl=>?_) (λhjl=>?_)
  ·have hjlt:j<tgl.length:=by dsimp only at hjl;omega
   refine Fv.load (v:=v) hV30.drew ?_
   refine zcK (htg.isS.below (b30.on bd)) hjlt ?_
   refine zeu (v:=v) (hf.below (hb30.on bd)) hnd λw31 b31=>⟨_,rfl,?_⟩
   have b3031:=bd.on b31
   have b2931:=b30.on b3031
   refine zf (λhneg=>?_) (λhnn=>?_)
   ·have hnone:=zka (bk:=f.bk) (n:=tgl[j]) (by omega)
    have hfn:fndP (lblM f.bk) (blkT pl f.bk[k])=none:=by rw[hbT];exact zm8 ⟨tgl[j],List.getElem_mem hjlt,hnone⟩
    have hE:blkE pl f.bk f.bk[k]=some ((to_:Int)-1):=by unfold blkE;rw[hsome,hfn,hto]
    refine(hK29.below b2931).drew.rI (n:=2) (x:=f.bk[k].2.2) rfl ?_
    rw[hto,et1]
    refine bad 140 ((to_-1:Nat):Int) (hS29.below b2931).drew (hb29.on b2931).drew ?_ (by decide)
    rw[hgn,Zf hkl hE λj h1 h2=>hgood j h1 h2]
    dsimp only
    congr 1
    omega
   ·obtain⟨hs1,hv1⟩:=zkb (M:=lblM f.bk) (n:=tgl[j]) (by unfold lblI at hnn;omega)
    refine zn λw34 hD34 b34 z34=>?_
    have b3034:=b3031.on b34
    have hrl:r.l=j:=by
     have:=hO30.1
     rw[List.length_map,List.length_map,List.length_take]at this
     omega
    refine y8 eInt (hO30.below b3034) (b30.on b3034) hF30 rfl hD34 (by omega) (by omega) λr' w35 hO35 hb35 hF35=>hnext2 r' w35 hjlt ⟨hb35,?_,hF35,λi q1 q2=>?_⟩
    ·rw[List.take_succ_eq_append_getElem hjlt,List.map_append,List.map_append]
     have:lblI f.bk tgl[j]=(zI (lblM f.bk) tgl[j]).getD 0:=hv1
     rw[this]at hO35
     exact hO35
    ·by_cases ei:i=j
     ·subst ei;exact hs1
     ·exact hfound i q1 (by omega)
  ·have hjj:j=tgl.length:=by dsimp only at hjl;omega
   subst hjj
   rw[List.take_length]at hO30
   have hall:∀n∈tgl,(zI (lblM f.bk) n).isSome=true:=λn hn=>by
    obtain⟨i,hi,rfl⟩:=List.getElem_of_mem hn
    exact hfound i hi hi
   have hfn:fndP (lblM f.bk) (blkT pl f.bk[k])=some (tgl.map λn=>(zI (lblM f.bk) n).getD 0):=by rw[hbT];exact zjO hall
   have hE:blkE pl f.bk f.bk[k]=none:=by unfold blkE;rw[hsome,hfn]
   refine zn λw36 hZ36 b36 z36=>?_
   have hZ36:Blk w36 w30.heap.size 43 [Sl.val r]:=hZ36
   have b2936:=b30.on b36
   have b2836:=b29.on b2936
   have hnx27:=hnx.below b1527
   have hnx28:=keep28 hnx27 (by decide)
   have q2':=q2.on b2836
   refine zb2 (w0:=w10) eRow (hnx28.below b2836) q2' hnxF rfl (by simp[Value.oneCell',Sl.val]) hZ36 (by omega) (by omega) λnx' w37 u1 u2 u3 u4 u5=>?_
   have hnx36:=hnx28.below b2836
   have keep37:∀{T:TypeId} {sz:Nat} {s:Sl} {xs:List Value},Own w36 T sz s xs->43≠T->Own w37 T sz s xs:=λho hT=>ho.of_block λa ha=>u5 _ (ho.lt ha).2 (Zz hnx36 ho hT ha)
   rw[zr (by omega)]
   refine hnext (f.bk.length-(k+1)) _ _ (by omega) ⟨k+1,nx',mg',hs++[r],rfl,rfl,hkl,u2,by simp[hhl],?_,u3,λi h1 h2=>?_,?_,q3,λi h1 h2=>?_⟩
   ·rw[List.map_append]
    exact u1
   ·by_cases e:i<hs.length
    ·rw[List.getElem_append_left e]
     obtain⟨g1,g2⟩:=hrow i e h2
     exact⟨keep37 ((keep28 (g1.below b1527) (by decide)).below b2836) (by decide),g2⟩
    ·have ei:i=k:=by simp at h1;omega
     subst ei
     have er:(hs++[r])[i]'h1=r:=by rw[List.getElem_append_right (by omega)];simp[hhl]
     rw[er]
     refine⟨?_,λa ha=>by have:=hF30 a ha;have:=b1029.size;omega⟩
     have:(Yd pl f.bk)[i]=tgl.map λn=>(zI (lblM f.bk) n).getD 0:=by
      refine(List.getElem_map (λb=>(fndP (lblM f.bk) (blkT pl b)).getD [])).trans ?_
      rw[hfn]
      rfl
     rw[this]
     exact keep37 (hO30.below b36) (by decide)
   ·have hmk:(mgsP pl f.bk).take (k+1)=(mgsP pl f.bk).take k++[m]:=by
     have hlm:k<(mgsP pl f.bk).length:=by unfold mgsP;rw[List.length_map];exact hkl
     rw[List.take_succ_eq_append_getElem hlm]
     congr 2
     refine(List.getElem_map (λb=>(blkM pl f.bk b).getD (0,-1,-1))).trans ?_
     rw[hsome]
     rfl
    rw[hmk,zbu]
    exact keep37 (q1.below b2836) (by decide)
   ·by_cases e:i=k
    ·subst e;exact hE
    ·exact hgood i h1 (by omega)
 ·have hkk:k=f.bk.length:=by omega
  subst hkk
  have hrl:(Yd pl f.bk).length=f.bk.length:=by unfold Yd;rw[List.length_map]
  have hml:(mgsP pl f.bk).length=f.bk.length:=by unfold mgsP;rw[List.length_map]
  have hg0:gnwE x pl f=(0,0):=by rw[hgn,zgN λj hj=>hgood j hj hj]
  rw[<-hml,List.take_length]at hmg
  have hII:IsII w15 nx hs (Yd pl f.bk):=⟨hnx.isS,by rw[hhl,hrl],λi h1 h2=>(hrow i h1 h2).1.isS⟩
  have hGood:Good (Yd pl f.bk):=by
   intro l hl' y hy
   obtain⟨b,hb,rfl⟩:=List.mem_map.1 hl'
   cases hfd:fndP (lblM f.bk) (blkT pl b) with
   |none=>rw[hfd]at hy;cases hy
   |some l=>
    rw[hfd]at hy
    unfold fndP at hfd
    split at hfd
    ·rename_i hall
     cases hfd
     obtain⟨n,hn,rfl⟩:=List.mem_map.1 hy
     have hs1:=List.all_eq_true.1 hall n hn
     obtain⟨u,hu⟩:=Option.isSome_iff_exists.1 hs1
     rw[hu,Option.getD_some]
     have:=zgY f.bk _ n u hu
     rw[hrl]
     omega
    ·cases hfd
  have h8:∀l∈Yd pl f.bk,8*l.length<=281474976710656:=λl hl'=>by
   obtain⟨b,hb,rfl⟩:=List.mem_map.1 hl'
   cases hfd:fndP (lblM f.bk) (blkT pl b) with
   |none=>simp
   |some l=>
    unfold fndP at hfd
    split at hfd
    ·cases hfd
     obtain⟨fr,to_,rfl,_,htl,_⟩:=(hFn.ok b hb).ex
     show 8*(List.map _ _).length<=_
     rw[List.length_map]
     unfold blkT
     have h1l:to_-1<pl.length:=by omega
     rw[show Int.toNat ((ix pl fr).2.2.1,(fr:Int),(to_:Int)).2.2=to_ from rfl,yg h1l]
     have:=zlZ pl[to_-1].1 pl[to_-1].2.2.2
     have:=hp.args _ (List.getElem_mem h1l)
     omega
    ·cases hfd
  refine zqk hII h8 (λh=>by rw[hrl]at h;omega) (λh=>by rw[hrl]at h;omega) (λ_ _ hng=>absurd hGood hng) λq1 q2 q3 w38 rb b38 hG=>⟨some (blk rb),0,rfl,?_⟩
  have hS38:=hS15.below b38
  refine st2 hS38 rfl λw40 hS40 c40=>Sp.load hS40 ?_
  have b3840:=c40.same hS38 hS40
  have hb38:=hb15.on b38
  exact hok w40 rb mg (hb38.on b3840) hg0 hin (hG.below b3840) (zoo q1 q2 q3) (Own.isC zkV (by omega) ((hmg.below b38).below b3840))
end
end Go.Proofs
namespace Go.Proofs
open Go.Gk Go.RowKit Go.Gm Go.Gr Go.Dm
theorem eBv:YT Tryz.prog 64 69 11 160:=⟨by kernel_rfl,Tryz.t69,.agg #[.int .u32 0,.int .u32 0,.slice none 0 0,.slice none 0 0,.int .i64 0,.int .u32 0,.int .i64 0,.slice none 0 0,.slice none 0 0,.int .i64 0,.slice none 0 0],by kernel_rfl,rfl,rfl,rfl,rfl⟩
theorem ziV(p:Bv):(bvL p).length=11:=rfl
theorem st11{b:Nat}{T:TypeId}{cs:List Value}{v0 v1 v2 v3 v4 v5 v6 v7 v8 v9 v10:Value}{K:World->Prop}{w:World}(hB:Blk w b T cs)(hl:cs.length=11)(hK:∀w',Blk w' b T [v0,v1,v2,v3,v4,v5,v6,v7,v8,v9,v10]->Chg b w w'->K w') :
  Wr w (Gk.blk b)/\Nw (w.setCell (Gk.blk b) v0) λw1=>Wr w1 ((Gk.blk b).add 1)/\Nw (w1.setCell ((Gk.blk b).add 1) v1) λw2=>Wr w2 ((Gk.blk b).add 2)/\Nw (w2.setCell ((Gk.blk b).add 2) v2) λw3=>Wr w3 ((Gk.blk b).add 3)/\Nw (w3.setCell ((Gk.blk b).add 3) v3) λw4=>Wr w4 ((Gk.blk b).add 4)/\Nw (w4.setCell ((Gk.blk b).add 4) v4) λw5=>
   Wr w5 ((Gk.blk b).add 5)/\Nw (w5.setCell ((Gk.blk b).add 5) v5) λw6=>Wr w6 ((Gk.blk b).add 6)/\Nw (w6.setCell ((Gk.blk b).add 6) v6) λw7=>Wr w7 ((Gk.blk b).add 7)/\Nw (w7.setCell ((Gk.blk b).add 7) v7) λw8=>Wr w8 ((Gk.blk b).add 8)/\Nw (w8.setCell ((Gk.blk b).add 8) v8) λw9=>Wr w9 ((Gk.blk b).add 9)/\Nw (w9.setCell ((Gk.blk b).add 9) v9) λw10=>
   Wr w10 ((Gk.blk b).add 10)/\Nw (w10.setCell ((Gk.blk b).add 10) v10) λw11=>K w11:=
 Ym (vs:=[v0,v1,v2,v3,v4,v5,v6,v7,v8,v9,v10]) hB hl hK
structure zlk (w:World) (s:Sl) (hs:List Sl) (ll:List (List Nat)):Prop where
 top:Own w 43 1 s (hs.map Sl.val)
 len:hs.length=ll.length
 row:∀(i:Nat) (h:i<hs.length) (h':i<ll.length),Own w 3 1 hs[i] (ll[i].map iN)
theorem zlk.isNN{w:World}{s:Sl}{hs:List Sl}{ll:List (List Nat)}(h:zlk w s hs ll):IsNN w s hs ll:=⟨h.top.isS,h.len,λi h1 h2=>(h.row i h1 h2).isS⟩
theorem zlk.below{w w':World}{s:Sl}{hs:List Sl}{ll:List (List Nat)}(h:zlk w s hs ll)(hb:Below w.heap.size w w'):zlk w' s hs ll:=⟨h.top.below hb,h.len,λi h1 h2=>(h.row i h1 h2).below hb⟩
theorem znw{w:World}{fs:Sl}{L:List Fe}(h:Fns w fs L){k:Nat}(hk:k<L.length){φ:Sl->Prop}(hφ:φ L[k].2.2):(0<=(k:Int)/\(k:Int)<(fs.l:Int))/\zc fs.a λa=>ldS w ((a.add (Int.toNat (k:Int)*5)).add 3) φ:=by
 have hc:IsC 5 feV w fs L:=Own.isC Yj (by omega) h.own
 obtain⟨a,ha⟩:=hc.base hk
 exact⟨⟨by omega,by have:=h.len;omega⟩,zj ha ⟨L[k].2.2,by rw[zy];exact hc.cell a ha k hk 3 (by omega),hφ⟩⟩
section
variable {x:Mo} {pl:List PI} {w:World} {R:VWP}
structure RBds (w:World) (s:Sl) (pl:List PI) (fl:List FnL):Prop where
 ex:∃ps:List Bv,ps.length=fl.length/\IsC 11 bvL w s ps/\∀n (h:n<ps.length),IsRb w ps[n] pl fl n/\NxOk (nxF pl fl n)
set_option maxHeartbeats 2000000 in
theorem znH(hN:IsPl w x.2.2.1 pl)(hp:PlOk pl)(h0:0<=x.2.1)
  (hbad:∀w',(floE x pl).1≠0->Below w.heap.size w w'->R (.tuple #[.slice none 0 0,.agg #[.int .i64 (floE x pl).1,.int .i64 (floE x pl).2]]) w')
  (hok:∀w' s,Flo x pl (cutF pl pl.length)->RBds w' s pl (cutF pl pl.length)->Below w.heap.size w w'->R (.tuple #[.slice s.a s.l s.c,.agg #[.int .i64 0,.int .i64 0]]) w') :
  cR 21 #[moA x] w R:=by
 refine za.of (zd3 x R w ?_) λ_ _ h=>h
 refine zn λw1 hB1 b1 z1=>?_
 have hB1:Blk w1 w.heap.size 25 (moV x):=hB1
 refine zn λw2 hS2 b2 z2=>?_
 have hS2:Blk w2 w1.heap.size 29 [.int .i64 0,.int .i64 0]:=hS2
 have hb2:=b1.on b2
 refine Mo.load (hB1.below b2) ?_
 refine zjy (x:=x) (hN.below hb2) hp λw3 b3=>⟨((zV x.2.1 pl).1,((zV x.2.1 pl).2:Int),()),rfl,?_⟩
 refine box2 rfl λw6 h6 b6 z6=>?_
 have b26:=b3.on b6
 have hb6:=hb2.on b26
 have hB6:=(hB1.below b2).below b26
 have hS6:=hS2.below b26
 have s1:=b1.size
 have bad:∀{w':World} (e a:Int),Blk w' w1.heap.size 29 [.int .i64 0,.int .i64 0]->Below w.heap.size w w'->(e,a)=floE x pl->e≠0->
   Wr w' (blk w1.heap.size)/\Nw (w'.setCell (blk w1.heap.size) (.int .i64 e)) λw8=>Wr w8 ((blk w1.heap.size).add 1)/\Nw (w8.setCell ((blk w1.heap.size).add 1) (.int .i64 a)) λw9=>ldI w9 ((blk w1.heap.size).add 0) .i64 λx9=>ldI w9 ((blk w1.heap.size).add 1) .i64 λx10=>
    R (.tuple #[.slice none 0 0,.agg #[.int .i64 x9,.int .i64 x10]]) w9:=λ{w'} e a hS hb he hne=>
  st2 hS rfl λw9 hS9 c9=>Sp.load hS9 (by
   have:=hbad w9 (by rw[<-he];exact hne) (c9.below hb (by omega))
   rw[<-he]at this
   exact this)
 refine h6.rI0 rfl (zt (λe=>?_) (λe=>?_))
 ·have e':(zV x.2.1 pl).1≠0:=e
  exact Sp.load h6.drew (bad _ _ hS6.drew hb6.drew (zq4 e').symm e')
 have e':(zV x.2.1 pl).1=0:=e
 obtain⟨k1,k2,k3⟩:=zeq e'
 have F:=Fls.of hp h0 e'
 refine Mo.load hB6 ?_
 refine zmR (x:=x) (hN.below hb6) hp (λfs L w9 _ b9 hL hLc=>⟨fs,(0,0,()),rfl,?_⟩) (λw9 hne _=>absurd k2 hne)
 refine box2 rfl λw12 h12 b12 z12=>?_
 have b612:=b9.on b12
 have hb12:=hb6.on b612
 have hL12:=hL.below b12
 have hS12:=hS6.below b612
 have hB12:=hB6.below b612
 have hll:=hL.len
 have hbadn:∀{n:Nat} {p:Int×Int},n<(cutF pl pl.length).length->flwE x pl (cutF pl pl.length) n=some p->(∀j,j<n->flwE x pl (cutF pl pl.length) j=none)->p=floE x pl:=λh1 h2 h3=>(zq3 e' h1 h2 h3).symm
 have hokn:(∀n,n<(cutF pl pl.length).length->flwE x pl (cutF pl pl.length) n=none)->Flo x pl (cutF pl pl.length):=λh=>⟨e',rfl,h⟩
 have hlenp:=hp.len
 have hfll:=F.len4
 generalize hfl0:cutF pl pl.length=fl at *
 have hfl:L.length=fl.length:=by rw[<-hLc,List.length_map]
 have hget:∀k (h:k<L.length),L[k].1=fx fl k:=λk h=>by
  unfold fx
  rw[zs (by omega)]
  have:(L.map (·.1))[k]'(by rwa[List.length_map])=fl[k]'(by omega):=by congr 1
  rwa[List.getElem_map]at this
 have hc5:IsC 5 feV w12 fs L:=Own.isC Yj (by omega) hL12.own
 refine zk.countSl L.length (by omega) (λk s w'=>Below w12.heap.size w12 w'/\(∀j,j<k->flwE x pl fl j=none)/\zz w12.heap.size s/\∃ps:List Bv,ps.length=k/\Own w' 69 11 s (flat bvL ps)/\
   ∀w'',Below w12.heap.size w12 w''->(∀i,i<w'.heap.size->s.a≠some (blk i)->w''.heap[i]? =w'.heap[i]?)->∀n (h:n<ps.length),IsRb w'' ps[n] pl fl n/\NxOk (nxF pl fl n))
  ⟨Below.refl _ _,λj h=>by omega,λa ha=>(by cases ha),[],rfl,Own.nil _ _ _,λ_ _ _ n h=>absurd h (Nat.not_lt_zero _)⟩ ?_
 rintro n s w13 hn ⟨b13,hgood,hFs,ps,hpl,hO,hps⟩ next hnext
 have hb13:=hb12.on b13
 have hS13:=hS12.below b13
 refine zf (λh=>?_) (λh=>?_)
 rotate_left
 ·have hkl:n=L.length:=by dsimp only at h;omega
  refine st2 hS13 rfl λw9 hS9 c9=>?_
  have hb9:=c9.same hS13 hS9
  exact Sp.load hS9 (hok w9 s (hokn λn hn=>hgood n (by omega)) ⟨ps,by omega,IsC.below ziV (Own.isC ziV (by omega) hO) hb9,λn hn=>hps w9 (b13.on hb9) (λi hi _=>hb9.block i hi) n hn⟩ (hb13.on hb9))
 have hlt:n<L.length:=by dsimp only at h;omega
 have hnf:n<fl.length:=by omega
 have hfe:=hget n hlt
 have hin:fx fl n∈fl:=zf9 hnf
 have bd13:Below w13.heap.size w13 w13.drew:=(Below.refl _ _).drew
 have hidx:0<=(n:Int)/\(n:Int)<(fs.l:Int):=by omega
 obtain⟨fa,hfa⟩:=hc5.base hlt
 have hcell:∀{w':World},Below w12.heap.size w12 w'->∀j u,j<5->(feV L[n])[j]? =some u->w'.cell? ((fa.add (Int.toNat (n:Int)*5)).add j)=some u:=λ{w'} b j u hj hu=>by
  have:=(IsC.below Yj hc5 b).cell fa hfa n hlt j hj
  rw[zy]
  exact this.trans hu
 have hF12:IsFn w12 (L[n].1.id,L[n].1.at_,L[n].2.1,L[n].2.2,L[n].1.en,()) (fx fl n):=by rw[<-hfe];exact hL12.isFn (List.getElem_mem hlt)
 refine zl.cut (λ(st:(Option Addr)×Addr×Unit) w'=>∃(p:Option Addr) (sb:Nat),st=(p,blk sb,())/\Below w13.heap.size w13 w'/\Blk w' sb 29 [.int .i64 (gnwE x pl (fx fl n)).1,.int .i64 (gnwE x pl (fx fl n)).2]/\((gnwE x pl (fx fl n)).1=0->∃rb,p=some (blk rb)/\IsR w' rb (nxF pl fl n)/\NxOk (nxF pl fl n))) ?_ ?_
 ·have b13d:=b13.on bd13
  have hB13:=hB12.below b13d
  have hb13d:=hb12.on b13d
  refine Mo.load hB13 ⟨hidx,zj hfa ⟨_,hcell b13d 0 _ (by omega) rfl,_,hcell b13d 1 _ (by omega) rfl,L[n].2.1,hcell b13d 2 _ (by omega) rfl,L[n].2.2,hcell b13d 3 _ (by omega) rfl,_,hcell b13d 4 _ (by omega) rfl,?_,?_⟩⟩
  ·refine zmT (x:=x) (v:=(L[n].1.id,L[n].1.at_,L[n].2.1,L[n].2.2,L[n].1.en,())) (f:=fx fl n) (hN.below hb13d) hp h0 (hF12.below b13d) (λw14 e a b14 he hne=>⟨none,⟨none,0,0⟩,(e,a,()),rfl,?_⟩) (λw14 rb ms b14 he _ hG hNx hM=>⟨some (blk rb),ms,(0,0,()),rfl,?_⟩)
   ·refine box2 rfl λw17 h17 b17 z17=>⟨none,w14.heap.size,rfl,(bd13.on b14).on b17,by rw[<-he];exact h17,λh=>?_⟩
    rw[<-he]at h
    exact absurd h hne
   ·exact box2 rfl λw17 h17 b17 z17=>⟨some (blk rb),w14.heap.size,rfl,(bd13.on b14).on b17,by rw[he];exact h17,λ_=>⟨rb,rfl,hG.below b17,hNx⟩⟩
  ·refine zn λw18 hD18 b18 z18=>?_
   have hD18:Blk w18 w13.drew.heap.size 29 [.int .i64 0,.int .i64 0]:=hD18
   have hB18:=hB13.below b18
   have b1318:=b13d.on b18
   refine⟨hcell b1318 0 _ (by omega) rfl,hcell b1318 1 _ (by omega) rfl,hcell b1318 2 _ (by omega) rfl,hcell b1318 3 _ (by omega) rfl,hcell b1318 4 _ (by omega) rfl,hB18.cell (n:=0) rfl,hB18.cell (n:=1) rfl,hB18.cell (n:=2) rfl,?_⟩
   have s13:=bd13.size
   refine zmT (x:=x) (v:=(L[n].1.id,L[n].1.at_,L[n].2.1,L[n].2.2,L[n].1.en,())) (f:=fx fl n) (hN.below (hb12.on b1318)) hp h0 (hF12.below b1318) (λw19 e a b19 he hne=>⟨none,⟨none,0,0⟩,(e,a,()),rfl,?_⟩) (λw19 rb ms b19 he _ hG hNx hM=>⟨some (blk rb),ms,(0,0,()),rfl,?_⟩)
   ·refine st2 (hD18.below b19) rfl λw21 h21 c21=>⟨none,w13.drew.heap.size,rfl,c21.below ((bd13.on b18).on b19) s13,by rw[<-he];exact h21,λh=>?_⟩
    rw[<-he]at h
    exact absurd h hne
   ·have hD19:=hD18.below b19
    refine st2 hD19 rfl λw21 h21 c21=>?_
    have bs:=c21.same hD19 h21
    exact⟨some (blk rb),w13.drew.heap.size,rfl,((bd13.on b18).on b19).on bs,by rw[he];exact h21,λ_=>⟨rb,rfl,hG.below bs,hNx⟩⟩
 rintro _ w22 ⟨pp,sb,rfl,b22,hT22,hokg⟩
 have b1222:=b13.on b22
 have hb22:=hb12.on b1222
 have hS22:=hS13.below b22
 dsimp only
 refine hT22.rI0 rfl (zt (λhne=>?_) (λheq=>?_))
 ·have hne:(gnwE x pl (fx fl n)).1≠0:=hne
  have hn':flwE x pl fl n=some (gnwE x pl (fx fl n)):=by
   unfold flwE
   rw[if_pos hne]
  exact Sp.load hT22.drew (bad _ _ hS22.drew hb22.drew (hbadn hnf hn' hgood) hne)
 have heq:(gnwE x pl (fx fl n)).1=0:=heq
 obtain⟨rb,rfl,hG,hNx⟩:=hokg heq
 have hflw:flwE x pl fl n=bodE pl fl n:=by
  unfold flwE
  rw[if_neg (λh=>h heq)]
 have hnl:=zhy pl fl n
 have hmax:=hNx.max
 have hbk12:=hF12.bk
 have hbl:L[n].2.2.l=(fx fl n).bk.length:=hbk12.len
 refine zk.countSl (nxF pl fl n).length (by omega) (λk s w'=>Below w22.heap.size w22 w'/\zz w22.heap.size s/\∃hs,zlk w' s hs ((nxF pl fl n).take k)) ⟨Below.refl _ _,λa ha=>(by cases ha),[],Own.nil _ _ _,rfl,λi h=>absurd h (Nat.not_lt_zero _)⟩ ?_
 rintro k s2 w25 hk ⟨b25,hFs2,hs,hX⟩ next2 hnext2
 have b1225:=b1222.on b25
 refine znw (hL12.below b1225) hlt (zf (λh=>?_) (λh=>?_))
 ·have hkl:k<(nxF pl fl n).length:=by dsimp only at h;omega
  refine RP.next (nx:=nxF pl fl n) (.inr ⟨rb,rfl,hNx,hG.below b25⟩) λr w26 hr b26=>⟨r,rfl,?_⟩
  rw[zb3]at hr
  refine zn λw27 h27 b27 z27=>?_
  have b2527:=b26.on b27
  have hX27:=hX.below b2527
  have hxl:=hX.len
  rw[List.length_take]at hxl
  have hsl:s2.l=k:=by have:=hX.top.1;simp only[List.length_map]at this;omega
  refine zb2 eRow hX27.top (b25.on b2527) hFs2 (vs:=[.slice r.a r.l r.c]) rfl (λu hu=>by rw[List.mem_singleton.1 hu];rfl) h27 (by omega) (by omega) λr' w28 h28 b28 F28 z28 hkeep=>hnext2 r' w28 hkl ⟨b28,F28,hs++[r],by rw[List.map_append];exact h28,by rw[List.length_append,List.length_singleton,List.length_take];omega,λi h1 h2=>?_⟩
  have off:∀{q:Sl} {xs:List Value},Own w27 3 1 q xs->Own w28 3 1 q xs:=λ{q xs} hq=>hq.of_block λa ha=>hkeep _ (hq.lt ha).2 λe=>by
   obtain⟨c1,hc1⟩:=hq.type ha
   obtain⟨c2,hc2⟩:=hX27.top.type e
   exact absurd (Blk.type hc1 hc2) (by decide)
  rw[List.length_append,List.length_singleton]at h1
  by_cases e:i<k
  ·have e1:(hs++[r])[i]'(by rw[List.length_append];simpa using h1)=hs[i]'(by omega):=List.getElem_append_left (by omega)
   have e2:((nxF pl fl n).take (k+1))[i]'h2=((nxF pl fl n).take k)[i]'(by rw[List.length_take];omega):=by rw[List.getElem_take,List.getElem_take]
   rw[e1,e2]
   exact off (hX27.row i (by omega) (by rw[List.length_take];omega))
  ·have ei:i=k:=by omega
   subst ei
   have e1:(hs++[r])[i]'(by rw[List.length_append];simpa using h1)=r:=by rw[List.getElem_append_right (by omega)];simp only[show hs.length=i by omega,Nat.sub_self,List.getElem_singleton]
   have e2:((nxF pl fl n).take (i+1))[i]'h2=(nxF pl fl n).getD i []:=by rw[List.getElem_take,zs hkl]
   rw[e1,e2]
   exact off (hr.below b27)
 have hkl:k=(nxF pl fl n).length:=by dsimp only at h;omega
 subst hkl
 rw[List.take_length]at hX
 clear hnext2
 have bd25:Below w25.heap.size w25 w25.drew:=(Below.refl _ _).drew
 have b12d:=b1225.on bd25
 have hB25:=hB12.below b12d
 refine Mo.load hB25 ⟨hidx,zj hfa ⟨_,hcell b12d 0 _ (by omega) rfl,_,hcell b12d 1 _ (by omega) rfl,L[n].2.1,hcell b12d 2 _ (by omega) rfl,L[n].2.2,hcell b12d 3 _ (by omega) rfl,_,hcell b12d 4 _ (by omega) rfl,?_⟩⟩
 refine zn λw29 hD29 b29 z29=>?_
 have hD29:Blk w29 w25.drew.heap.size 69 (bvL (0,0,⟨none,0,0⟩,⟨none,0,0⟩,0,0,0,⟨none,0,0⟩,⟨none,0,0⟩,0,⟨none,0,0⟩,())):=hD29
 have hB29:=hB25.below b29
 have b1229:=b12d.on b29
 refine⟨hcell b1229 0 _ (by omega) rfl,hcell b1229 1 _ (by omega) rfl,hcell b1229 2 _ (by omega) rfl,hcell b1229 3 _ (by omega) rfl,hcell b1229 4 _ (by omega) rfl,hB29.cell (n:=0) rfl,hB29.cell (n:=1) rfl,hB29.cell (n:=2) rfl,?_⟩
 refine st11 hD29 rfl λw40 hP40 c40=>?_
 obtain⟨p,ep⟩:∃p:Bv,p=(x.1,x.2.1,x.2.2.1,fs,(n:Int),L[n].1.id,L[n].1.at_,L[n].2.1,L[n].2.2,L[n].1.en,s2,()):=⟨_,rfl⟩
 have hP40:Blk w40 w25.drew.heap.size 69 (bvL p):=by rw[ep];exact hP40
 have b2540:Below w25.heap.size w25 w40:=bd25.on (c40.below b29 (Nat.le_refl _))
 have b1240:=b1225.on b2540
 have mk:∀w'',Below w12.heap.size w12 w''->zlk w'' s2 hs (nxF pl fl n)->IsRb w'' p pl fl n:=λw'' b hXX=>by
  rw[ep]
  exact⟨(hN.below hb12).below b,⟨L,hL12.below b,hLc⟩,rfl,IsC.below zU hbk12 b,by rw[<-hfe],by rw[<-hfe],⟨hs,hXX.isNN⟩⟩
 have hR40:=mk w40 b1240 (hX.below b2540)
 refine zk.count (fx fl n).bk.length hbk12.bound (λk w'=>Below w40.heap.size w40 w'/\∀j,j<k->bodK pl fl n j=none) ⟨Below.refl _ _,λj h=>by omega⟩ ?_
 rintro k w41 hk ⟨b41,hj⟩ next3 hnext3
 have b1241:=b1240.on b41
 refine znw (hL12.below b1241) hlt (zf (λg=>?_) (λg=>?_))
 ·have hkl:k<(fx fl n).bk.length:=by dsimp only at g;omega
  obtain⟨f,t,hbx,hft,htl,hop,_,_⟩:=F.bl hnf hkl
  have hgb:bx (fx fl n).bk k=(fx fl n).bk[k]:=zs hkl
  have e1:(bx (fx fl n).bk k).2.1=(f:Int):=by rw[hbx]
  have e2:(bx (fx fl n).bk k).2.2=(t:Int):=by rw[hbx]
  refine znw (hL12.below b1241) hlt (zp9 (IsC.below zU hbk12 b1241) hkl ?_)
  rw[<-hgb,e1]
  refine zk.ghost (λm (s:Int×Unit) w'=>∃i:Nat,s=((i:Int),())/\m=t-i/\f<=i/\i<=t/\Below w41.heap.size w41 w'/\∀q,f<=q->q<i->fltU pl fl (nxF pl fl n) n k q=0) (t-f) ⟨f,rfl,rfl,Nat.le_refl _,by omega,Below.refl _ _,λq h1 h2=>by omega⟩ ?_
  rintro _ _ w42 ⟨i,rfl,rfl,hfi,hit,b42,hq⟩ next4 hnext4
  have b4042:=b41.on b42
  have b1242:=b1240.on b4042
  refine znw (hL12.below b1242) hlt (zl2 (IsC.below zU hbk12 b1242) hkl ?_)
  rw[<-hgb,e2]
  refine zf (λg2=>?_) (λg2=>?_)
  ·have hlt4:i<t:=by dsimp only at g2;omega
   have hil:i<pl.length:=by omega
   refine Bv.load (hP40.below b4042) (zos F hp hnf (hR40.below b4042) hNx hkl hil λw43 b43=>⟨_,rfl,zt (λe=>?_) (λe=>?_)⟩)
   ·have b1243:=b1242.on b43
    refine st2 (hS12.below b1243) rfl λw9 hS9 c9=>Sp.load hS9 ?_
    have hbd:bodE pl fl n=some (fltU pl fl (nxF pl fl n) n k i,(i:Int)):=by
     unfold bodE
     exact zev hkl (zmy (i:=i) hil (by omega) (by omega) e λj h1 h2=>hq j (by omega) h2) λj h1=>hj j h1
    have hfe2:=hbadn hnf (by rw[hflw];exact hbd) hgood
    have:=hbad w9 (by rw[<-hfe2];exact e) (c9.below (hb12.on b1243) (by omega))
    rw[<-hfe2]at this
    exact this
   ·rw[zr (by omega)]
    refine hnext4 (t-(i+1)) _ w43 (by omega) ⟨i+1,rfl,rfl,by omega,by omega,b42.on b43,λq h1 h2=>?_⟩
    by_cases e:q=i
    ·subst e;assumption
    ·exact hq q h1 (by omega)
  ·refine hnext3 w42 hkl ⟨b4042,λj h1=>?_⟩
   by_cases e:j=k
   ·subst e
    exact zmx λq h2 h3=>hq q (by omega) (by dsimp only at g2;omega)
   ·exact hj j (by omega)
 have hbn:bodE pl fl n=none:=by
  unfold bodE
  exact zj0 λj hj'=>hj j (by dsimp only at g;omega)
 have hP41:=hP40.below b41
 refine Bv.load hP41 (zn λw46 h46 b46 z46=>?_)
 have h46:Blk w46 w41.heap.size 69 (bvL p):=h46
 have b1346:Below w13.heap.size w13 w46:=((b22.on b25).on b2540).on (b41.on b46)
 have hO46:=hO.below b1346
 have hsl:s.l=n:=by have:=hO.1;rw[zO ziV,hpl]at this;omega
 refine zcR eBv hO46 (vs:=bvL p) rfl (λu hu=>?_) h46 (by omega) (by omega) λr w47 b' hr47 _ hra hb' f47=>?_
 ·simp only[List.mem_cons,List.not_mem_nil,or_false]at hu
  rcases hu with rfl |rfl |rfl |rfl |rfl |rfl |rfl |rfl |rfl |rfl |rfl<;>rfl
 have z13:=b13.size
 have z1346:=b1346.size
 have b47:Below w12.heap.size w12 w47:=zdw (b13.on b1346) f47 λi hi=>hFs _ hi
 have hF47:zz w12.heap.size r:=λa ha=>by
  rw[hra]at ha
  cases ha
  rcases hb' with h |h
  ·exact hFs _ h
  ·show w12.heap.size<=b'
   omega
 refine hnext r w47 hlt ⟨b47,λj hj=>?_,hF47,ps++[p],by rw[List.length_append,hpl];rfl,by rw[flat,List.flatMap_append];simpa[flat] using hr47,λw'' b'' hk'' m hm=>?_⟩
 ·by_cases ej:j=n
  ·subst ej;rw[hflw,hbn]
  ·exact hgood j (by omega)
 have z47:=f47.size
 have keep:∀i,i<w46.heap.size->s.a≠some (blk i)->w''.heap[i]? =w46.heap[i]?:=λi hi hne=>by
  rw[hk'' i (by omega) λe=>?_]
  ·exact f47.block i hi hne
  ·rw[hra]at e
   have e:b'=i:=by cases e;rfl
   subst e
   rcases hb' with h |h
   ·exact hne h
   ·omega
 rw[List.length_append,List.length_singleton]at hm
 by_cases en:m=n
 ·subst en
  rw[List.getElem_append_right (by omega)]
  simp only[hpl,Nat.sub_self,List.getElem_singleton]
  have hX46:=(hX.below b2540).below (b41.on b46)
  have off:∀{T:TypeId} {q:Sl} {xs:List Value},T≠69->Own w46 T 1 q xs->Own w'' T 1 q xs:=λ{T q xs} hT hq=>hq.of_block λa ha=>keep _ (hq.lt ha).2 λe=>by
   obtain⟨c1,hc1⟩:=hq.type ha
   obtain⟨c2,hc2⟩:=hO46.type e
   exact hT (Blk.type hc1 hc2)
  exact⟨mk w'' b'' ⟨off (by decide) hX46.top,hX46.len,λi h1 h2=>off (by decide) (hX46.row i h1 h2)⟩,hNx⟩
 ·rw[List.getElem_append_left (by omega)]
  refine hps w'' b'' (λi hi hne=>?_) m (by omega)
  rw[keep i (by omega) hne]
  exact b1346.block i hi
end
section
variable {x:Mo} {pl:List PI} {fl:List FnL} {w:World} {R:VWP} {id q:Int}
theorem zuk(hp:PlOk pl)(h0:0<=x.2.1)(hs:(zG x.2.1 pl).1=0)(h:0<=mkA pl id):0<=id/\id<x.2.1:=by
 unfold mkA zK at h
 cases hq:(List.range pl.length).find? (mk1 pl id) with
 |none=>rw[hq]at h;exact absurd h (by decide)
 |some k=>
  obtain⟨hk,hm,_⟩:=zai hq
  unfold mk1 at hm
  rw[Bool.and_eq_true,beq_iff_eq]at hm
  have:=zml hp h0 hs pl[k] (List.getElem_mem hk)
  have e:(ix pl k).2.2.1=id:=hm.1
  rw[yg hk]at e
  rwa[e]at this
end
theorem ztN{w:World}{s:Sl}{ps:List Bv}(h:IsC 11 bvL w s ps){k:Nat}(hk:k<ps.length){φ:Int->Int->Sl->Sl->Int->Int->Int->Sl->Sl->Int->Sl->Prop}(hφ:φ ps[k].1 ps[k].2.1 ps[k].2.2.1 ps[k].2.2.2.1 ps[k].2.2.2.2.1 ps[k].2.2.2.2.2.1 ps[k].2.2.2.2.2.2.1 ps[k].2.2.2.2.2.2.2.1 ps[k].2.2.2.2.2.2.2.2.1 ps[k].2.2.2.2.2.2.2.2.2.1 ps[k].2.2.2.2.2.2.2.2.2.2.1) :
  (0<=(k:Int)/\(k:Int)<(s.l:Int))/\zc s.a λa=>ldI w ((a.add (Int.toNat (k:Int)*11)).add 0) .u32 λx1=>ldI w ((a.add (Int.toNat (k:Int)*11)).add 1) .u32 λx2=>ldS w ((a.add (Int.toNat (k:Int)*11)).add 2) λx3=>ldS w ((a.add (Int.toNat (k:Int)*11)).add 3) λx4=>ldI w ((a.add (Int.toNat (k:Int)*11)).add 4) .i64 λx5=>
   ldI w ((a.add (Int.toNat (k:Int)*11)).add 5) .u32 λx6=>ldI w ((a.add (Int.toNat (k:Int)*11)).add 6) .i64 λx7=>ldS w ((a.add (Int.toNat (k:Int)*11)).add 7) λx8=>ldS w ((a.add (Int.toNat (k:Int)*11)).add 8) λx9=>ldI w ((a.add (Int.toNat (k:Int)*11)).add 9) .i64 λx10=>ldS w ((a.add (Int.toNat (k:Int)*11)).add 10) λx11=>φ x1 x2 x3 x4 x5 x6 x7 x8 x9 x10 x11:=by
 obtain⟨a,ha⟩:=h.base hk
 have hc:∀j,j<11->w.cell? ((a.add (Int.toNat (k:Int)*11)).add j)=(bvL ps[k])[j]?:=λj hj=>by rw[zy];exact h.cell a ha k hk j hj
 exact⟨⟨by omega,by have:=h.len;omega⟩,zj ha ⟨_,hc 0 (by omega),_,hc 1 (by omega),ps[k].2.2.1,hc 2 (by omega),ps[k].2.2.2.1,hc 3 (by omega),_,hc 4 (by omega),_,hc 5 (by omega),_,hc 6 (by omega),ps[k].2.2.2.2.2.2.2.1,hc 7 (by omega),ps[k].2.2.2.2.2.2.2.2.1,hc 8 (by omega),_,hc 9 (by omega),ps[k].2.2.2.2.2.2.2.2.2.2.1,hc 10 (by omega),hφ⟩⟩
end Go.Proofs
