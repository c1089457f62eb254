/- FlowFirst, part 5; made small by a program. -/
import Derived.Test.YtgkgagmdkgdjdaaGreatProg
import Derived.Laws.CopyRow
import Derived.Maps.RangeRun
import Derived.Test.YtgkgagmdkgdjdaaGreatPFlowFirst4
namespace Go.Proofs
open Go.Gk Go.RowKit Go.Gr
theorem zks{n:Nat}{b:Int}(hb:b=24\/b=8\/b=1)(h:n<=4096):(0<=(n:Int)/\(n:Int)<=(n:Int)/\b*(n:Int)<=281474976710656/\(n:Int)<=9223372036854775807):=by
 rcases hb with rfl |rfl |rfl<;>omega
theorem zpS{w:World}{s:Sl}{hs:List Sl}(h:IsS Sl.val w s hs){n:Nat}(hn:s.l=n){k:Nat}(hk:k<hs.length){φ:Sl->Prop}(hφ:φ hs[k]) :
  (0<=(k:Int)/\(k:Int)<(n:Int))/\za s.a λa=>ldS w (a.add (Int.toNat (k:Int))) φ:=by
 subst hn;exact zjw h hk hφ
abbrev zF(ll:List (List Int)):List (List Nat):=ll.map λl=>l.map Int.toNat
theorem zku(ll:List (List Int))(i:Nat)(hi:i<ll.length):(zF ll).getD i []=(ll[i]).map Int.toNat:=by simp[zF,List.getD,hi]
def Good(ll:List (List Int)):Prop:=∀l∈ll,∀x∈l,0<=x/\x<(ll.length:Int)
abbrev Zz(ll:List (List Int)):List (List Nat):=(zF ll).map za9
theorem zd3(n:Nat):zD (List.replicate n ([]:List Nat))=List.replicate n []:=by
 apply List.ext_getElem
 ·simp[zD]
 ·intro j g1 g2
  simp only[zD,List.getElem_map,List.getElem_range,List.getElem_replicate]
  rw[List.filter_eq_nil_iff]
  intro a ha
  have ha:=List.mem_range.1 ha
  simp only[List.length_replicate]at ha
  simp[List.getD,ha]
theorem zaL(ll:List (List Int)):nxP (zF ll) 0 0=List.replicate ll.length []:=by
 rw[zpk];simp[zF]
set_option maxHeartbeats 1000000 in
theorem zjc{s:Sl}{hs:List Sl}{ll:List (List Int)}{w:World}{R:VWP}(h:IsII w s hs ll)
  (h2:ll.length=0->R (.tuple #[.pointer none,.int .i64 2]) w)
  (h4:4096<ll.length->R (.tuple #[.pointer none,.int .i64 4]) w)
  (hbad:0<ll.length->ll.length<=4096->¬Good ll->∀w',Below w.heap.size w w'->R (.tuple #[.pointer none,.int .i64 141]) w')
  (hok:0<ll.length->ll.length<=4096->Good ll->∀w' gb,Below w.heap.size w w'->IsGB w' w.heap.size gb (Zz ll)->IsG w' gb (Zz ll)->R (.tuple #[.pointer (some (blk gb)),.int .i64 0]) w') :
  cR 39 #[.slice s.a s.l s.c] w R:=by
 refine zc.of (zi6 s R w ?_) λ_ _ h=>h
 have hsl:s.l=hs.length:=h.top.len
 have hhl:hs.length=ll.length:=h.len
 have hn:s.l=ll.length:=by omega
 unfold zfu
 rw[hn]
 refine zm (λhe=>h2 (by omega)) (λhne=>zg (λhgt=>h4 (by omega)) (λhle=>?_))
 have hn0:0<ll.length:=by omega
 have hn1:ll.length<=4096:=by omega
 refine zk.cut (λst w7=>∃gb bn ba,st=(some (blk gb),())/\OS w gb bn ba ll.length w7 (nxP (zF ll) 0 0)) ⟨?_,?_⟩ ?_
 ·refine⟨zks (.inl rfl) hn1,Nw.gen λw1 hw1=>⟨zks (.inl rfl) hn1,Nw.gen λw2 hw2=>Nw.gen λw3 hw3=>⟨w2.heap.size,w.heap.size,w1.heap.size,rfl,?_⟩⟩⟩
  have hz1:w1.heap.size=w.heap.size+1:=by rw[hw1];simp
  have hz2:w2.heap.size=w.heap.size+2:=by rw[hw2];simp;omega
  have b1:Blk w1 w.heap.size 43 (List.replicate ll.length (.slice none 0 0)):=by rw[hw1];exact Blk.made w.drew _ _ _
  have b2:Blk w2 w1.heap.size 43 (List.replicate ll.length (.slice none 0 0)):=by rw[hw2];exact Blk.made w1 _ _ _
  have b1':Blk w3 w.heap.size 43 (List.replicate ll.length (.slice none 0 0)):=by rw[hw3,hw2];exact(b1.alloc _).alloc _
  have b2':Blk w3 w1.heap.size 43 (List.replicate ll.length (.slice none 0 0)):=by rw[hw3];exact b2.alloc _
  have hg:Blk w3 w2.heap.size 118 (ZB ⟨some (blk w.heap.size),ll.length,ll.length⟩ ⟨some (blk w1.heap.size),ll.length,ll.length⟩ ⟨none,0,0⟩ ⟨none,0,0⟩ (List.replicate 64 (.int .u64 (0:Int)))):=by
   rw[hw3];exact Blk.new w2 _ _
  refine⟨?_,by rw[zaL];simp,hg,by omega,Nat.le_refl _,by omega,by omega,List.replicate ll.length ⟨none,0,0⟩,List.replicate ll.length ⟨none,0,0⟩,λ_=>0,by rw[zaL];exact Fam.new _ w3 _ _ _ _ b1',by rw[zaL,zd3];exact Fam.new _ w3 _ _ _ _ b2'⟩
  ·rw[hw3,hw2,hw1];exact(((Below.refl _ _).drew.alloc (by simp) _).alloc (by simp) _).alloc (by simp;omega) _
 ·refine⟨zks (.inl rfl) hn1,Nw.gen λw1 hw1=>⟨zks (.inl rfl) hn1,Nw.gen λw2 hw2=>Nw.gen λw3 hw3=>⟨w2.heap.size,w1.heap.size,w.heap.size,rfl,?_⟩⟩⟩
  have hz1:w1.heap.size=w.heap.size+1:=by rw[hw1];simp
  have hz2:w2.heap.size=w.heap.size+2:=by rw[hw2];simp;omega
  have b1:Blk w1 w.heap.size 43 (List.replicate ll.length (.slice none 0 0)):=by rw[hw1];exact Blk.made w.drew _ _ _
  have b2:Blk w2 w1.heap.size 43 (List.replicate ll.length (.slice none 0 0)):=by rw[hw2];exact Blk.made w1 _ _ _
  have b1':Blk w3 w.heap.size 43 (List.replicate ll.length (.slice none 0 0)):=by rw[hw3,hw2];exact(b1.alloc _).alloc _
  have b2':Blk w3 w1.heap.size 43 (List.replicate ll.length (.slice none 0 0)):=by rw[hw3];exact b2.alloc _
  have hg:Blk w3 w2.heap.size 118 (ZB ⟨some (blk w1.heap.size),ll.length,ll.length⟩ ⟨some (blk w.heap.size),ll.length,ll.length⟩ ⟨none,0,0⟩ ⟨none,0,0⟩ (List.replicate 64 (.int .u64 (0:Int)))):=by
   rw[hw3];exact Blk.new w2 _ _
  refine⟨?_,by rw[zaL];simp,hg,by omega,by omega,Nat.le_refl _,by omega,List.replicate ll.length ⟨none,0,0⟩,List.replicate ll.length ⟨none,0,0⟩,λ_=>0,by rw[zaL];exact Fam.new _ w3 _ _ _ _ b2',by rw[zaL,zd3];exact Fam.new _ w3 _ _ _ _ b1'⟩
  ·rw[hw3,hw2,hw1];exact(((Below.refl _ _).drew.alloc (by simp) _).alloc (by simp) _).alloc (by simp;omega) _
 rintro _ w7 ⟨gb,bn,ba,rfl,hos⟩
 have hrl:(zF ll).length=ll.length:=by simp[zF]
 refine zj.count ll.length (by omega) (λi w'=>OS w gb bn ba ll.length w' (nxP (zF ll) i 0)/\∀j,j<i->∀(hj:j<ll.length),∀x∈ll[j],0<=x/\x<(ll.length:Int)) ⟨hos,λj hj=>by omega⟩ ?_
 rintro i w8 hi ⟨hos8,hgood⟩ next hnext
 refine zg (λhlt=>?_) (λhge=>?_)
 ·have hlt:i<ll.length:=by dsimp only at hlt;omega
  have hin:=h.below (w':=w8) (hos8.below.mono (Nat.le_refl _))
  refine zpS hin.top hn (k:=i) (by omega) ?_
  refine Nw.gen λw9 hw9=>?_
  have hb9:Below w8.heap.size w8 w9:=by rw[hw9];exact(Below.refl _ _).alloc (Nat.le_refl _) _
  have hbits9:Bits w9 (blk w8.heap.size) λ_=>false:=by rw[hw9];exact Bits.new w8 _
  have hB9:Blk w9 w8.heap.size 116 (List.replicate 64 (.int .u64 (0:Int))):=by rw[hw9];exact Blk.new w8 _ _
  have hos9:=hos8.grown hb9
  have hsbB:w.heap.size<=w8.heap.size:=hos8.below.size
  have hrow:∀{w':World},Below w.heap.size w w'->IsI w' (hs[i]'(by omega)) ll[i]:=λhb=>(h.below hb).row i (by omega) hlt
  have hrn:(hs[i]'(by omega)).l=(ll[i]).length:=(hrow hos9.below).len
  have hgd:=zku ll i hlt
  clear hw9 hin
  refine zj.count (ll[i]).length (hrow hos9.below).bound (λk w'=>OS w gb bn ba ll.length w' (nxP (zF ll) i k)/\(∃cs,Blk w' w8.heap.size 116 cs)/\Bits w' (blk w8.heap.size) (λj=>((nxP (zF ll) i k).getD i []).contains j)/\
   ∀j,j<k->∀(hj:j<(ll[i]).length),0<=ll[i][j]/\ll[i][j]<(ll.length:Int)) ⟨hos9,⟨_,hB9⟩,?_,λj hj=>by omega⟩ ?_
  ·have e:(nxP (zF ll) i 0).getD i []=[]:=by rw[zcA (by omega)];simp[za9]
   rw[e];simpa using hbits9
  rintro k w10 hk ⟨hos10,⟨cs10,hB10⟩,hbits10,hgood10⟩ nxt hnxt
  refine zg (λhltk=>?_) (λhgek=>?_)
  ·have hltk:k<(ll[i]).length:=by dsimp only at hltk;omega
   refine zk.cut (λ_ w'=>OS w gb bn ba ll.length w' (nxP (zF ll) i (k+1))/\(∃cs,Blk w' w8.heap.size 116 cs)/\Bits w' (blk w8.heap.size) (λj=>((nxP (zF ll) i (k+1)).getD i []).contains j)/\
    0<=ll[i][k]/\ll[i][k]<(ll.length:Int)) ?_ λ_ w' hh=>hnxt w' hltk ⟨hh.1,hh.2.1,hh.2.2.1,λj hj hjl=>by
     by_cases e:j=k
     ·subst e;exact hh.2.2.2
     ·exact hgood10 j (by omega) hjl⟩
   refine zd4 (hrow hos10.below) hltk ?_
   have bad:¬(0<=ll[i][k]/\ll[i][k]<(ll.length:Int))->R (.tuple #[.pointer none,.int .i64 141]) w10:=λhx=>
    hbad hn0 hn1 (λhG=>hx (hG _ (List.getElem_mem hlt) _ (List.getElem_mem hltk))) w10 hos10.below
   refine zk.cut (λ_ w'=>w'=w10/\0<=ll[i][k]/\ll[i][k]<(ll.length:Int)) (zg (λhx=>bad (by omega)) (λhx=>zg (λhx'=>bad (by omega)) (λhx'=>⟨rfl,by omega,by omega⟩))) ?_
   rintro _ wx ⟨ewx,hx0,hx1⟩
   subst wx
   obtain⟨x,hx⟩:=Int.eq_ofNat_of_zero_le hx0
   have hxn:x<ll.length:=by omega
   have hrk:k<((zF ll).getD i []).length:=by rw[hgd];simpa using hltk
   have hrx:((zF ll).getD i [])[k]=x:=by
    have:((zF ll).getD i [])[k]=(ll[i][k]).toNat:=(List.getElem_of_eq hgd hrk).trans (List.getElem_map _)
    rw[this,hx];rfl
   rw[hx]
   refine zi8 (i:=x) (by omega) hbits10 ⟨_,rfl,zI ?_⟩
   refine zn (λhc=>?_) (λhc=>?_)
   ·have hskip:=zpj (rows:=zF ll) (i:=i) (k:=k) (by omega) hrk (by rw[hrx];exact hc)
    rw[hskip]
    exact⟨hos10,⟨_,hB10⟩,hbits10,by omega,by omega⟩
   ·have hpush:=zpi (rows:=zF ll) (i:=i) (k:=k) (by omega) hrk (by rw[hrx];exact hc)
    rw[hrx]at hpush
    refine zkE (i:=x) (by omega) hbits10 λv hbits11=>⟨rfl,?_⟩
    generalize hw11:w10.drew.setCell ((blk w8.heap.size).add (x / 64)) (.int .u64 (v:Int))=w11 at hbits11⊢
    obtain⟨cs11,hB11⟩:∃cs,Blk w11 w8.heap.size 116 cs:=by rw[<-hw11];exact⟨_,hB10.drew.set _ _⟩
    have hos11:OS w gb bn ba ll.length w11 (nxP (zF ll) i k):=by
     obtain⟨o1,o2,o3,o4,o5,o6,o7,hn',ha',ow,f1,f2⟩:=hos10
     have hne3:gb≠w8.heap.size:=o3.apart hB10 (by decide)
     have hne1:w8.heap.size≠bn:=hB10.apart f1.head (by decide)
     have hne2:w8.heap.size≠ba:=hB10.apart f2.head (by decide)
     rw[<-hw11]
     exact⟨o1.drew.setCell (by rw[zp];exact hsbB) _,o2,o3.drew.other (by rw[zp];exact hne3) _,o4,o5,o6,o7,hn',ha',ow,
      (f1.grown (w':=_) (Below.refl _ _).drew).set_other (hB10.drew) hne1 (by decide) _ _,(f2.grown (w':=_) (Below.refl _ _).drew).set_other (hB10.drew) hne2 (by decide) _ _⟩
    have hlen:((nxP (zF ll) i k).getD i []).length<=ll.length:=by
     rw[zcA (by omega),if_neg (by omega),if_pos rfl,hgd]
     refine zou λy hy=>?_
     obtain⟨j,hj,rfl⟩:=List.mem_iff_getElem.1 hy
     have hj':j<k/\j<(ll[i]).length:=by simp at hj;omega
     have:=hgood10 j hj'.1 hj'.2
     simp only[List.getElem_take,List.getElem_map]
     omega
    have hgt:∀j,i<j->(nxP (zF ll) i k).getD j []=[]:=λj hj=>by
     by_cases hjn:j<(zF ll).length
     ·rw[zcA hjn,if_neg (by omega),if_neg (by omega)]
     ·rw[List.getD_eq_getElem?_getD,List.getElem?_eq_none (by rw[zf9];omega)];rfl
    refine znG hos11 hlt hxn hn1 (by omega) (by have:=ziq (nxP (zF ll) i k) x;rw[zf9]at this;omega) hc hgt (by decide) (by decide) hB11 λw' hos' hB'=>?_
    rw[hpush]
    refine⟨hos',⟨_,hB'⟩,?_,by omega,by omega⟩
    have e:∀j,(((nxP (zF ll) i k).set i ((nxP (zF ll) i k).getD i []++[x])).getD i []).contains j=(((nxP (zF ll) i k).getD i []).contains j||j==x):=by
     intro j
     have:((nxP (zF ll) i k).set i ((nxP (zF ll) i k).getD i []++[x])).getD i []=(nxP (zF ll) i k).getD i []++[x]:=by simp[List.getD,zf9,hlt]
     rw[this,Bool.eq_iff_iff]
     simp
    have hbits':Bits w' (blk w8.heap.size) (λj=>((nxP (zF ll) i k).getD i []).contains j||j==x):=
     hbits11.of_block ((show w'.heap[w8.heap.size]? =_ from hB').trans (show w11.heap[w8.heap.size]? =_ from hB11).symm)
    simpa only[e] using hbits'
  ·have hkk:k=(ll[i]).length:=by dsimp only at hgek;omega
   subst hkk
   refine hnext w10 hlt ⟨?_,λj hj hjl x hx=>?_⟩
   ·have:=zph (zF ll) i
    rw[hgd,List.length_map]at this
    rw[<-this]
    exact hos10
   ·by_cases e:j=i
    ·subst e
     obtain⟨m,hm,rfl⟩:=List.mem_iff_getElem.1 hx
     exact hgood10 m hm hm
    ·exact hgood j (by omega) hjl x hx
 ·
  have hi':i=ll.length:=by dsimp only at hge;omega
  subst hi'
  have hG:Good ll:=λl hl x hx=>by
   obtain⟨j,hj,rfl⟩:=List.mem_iff_getElem.1 hl
   exact hgood j hj hj x hx
  have hnx:nxP (zF ll) ll.length 0=Zz ll:=by have:=zqj (zF ll);rwa[hrl]at this
  rw[hnx]at hos8
  obtain⟨o1,o2,o3,o4,o5,o6,o7,hn',ha',ow,f1,f2⟩:=hos8
  have hl1:hn'.length=ll.length:=by rw[f1.len,o2]
  have hl2:ha'.length=ll.length:=by rw[f2.len,Z3,o2]
  have hrows:∀j,∀t∈(Zz ll).getD j [],t<(Zz ll).length:=by
   intro j t ht
   by_cases hj:j<ll.length
   ·have:(Zz ll).getD j []=za9 (ll[j].map Int.toNat):=by simp[Zz,zF,List.getD,hj]
    rw[this,zhk]at ht
    obtain⟨y,hy,rfl⟩:=List.mem_map.1 ht
    have:=hG _ (List.getElem_mem hj) y hy
    simp[Zz,zF]
    omega
   ·simp[Zz,zF,List.getD,hj]at ht
  refine zlJ o3 (f1.isSS hl1 (by omega)) (f1.avoids o3 (by decide) (by decide)) (by rw[o2];exact hn0) (by rw[o2];exact hn1) hrows λw' wk od bs hfr hGw hbits hwk hod hfw hfo=>⟨rfl,?_⟩
  have hz:=o1.size
  have gB:IsGB w' w.heap.size gb (Zz ll):=by
   refine⟨o4,_,_,wk,od,bs,hn',ha',hGw,?_,?_,hwk.isS,hod.isS,hbits,(λa ha=>by cases ha;exact o5),(λa ha=>by cases ha;exact o6),(λa ha=>by have:=hfw a ha;omega),(λa ha=>by have:=hfo a ha;omega),(λi hi a ha=>(f1.own i hi a ha).2),λi hi a ha=>(f2.own i hi a ha).2⟩
   ·exact(f1.isSS hl1 (by omega)).fr hfr (Nat.le_refl _) (f1.avoids o3 (by decide) (by decide))
   ·exact(f2.isSS hl2 (by omega)).fr hfr (Nat.le_refl _) (f2.avoids o3 (by decide) (by decide))
  refine hok hn0 hn1 hG w' gb ?_ gB gB.isG
  exact o1.trans ((hfr.mono (B':=w.heap.size) (X':=λ_=>False) o1.size (λk hk e=>by omega)).below)
end Go.Proofs
namespace Go.Proofs
open Go.Gk Go.RowKit Go.Gr
structure NxOk (nx:List (List Nat)):Prop where
 pos:0<nx.length
 max:nx.length<=4096
 rows:∀i,∀t∈nx.getD i [],t<nx.length
 nodup:∀i,(nx.getD i []).Nodup
theorem NxOk.row_le{nx:List (List Nat)}(h:NxOk nx)(i:Nat):(nx.getD i []).length<=nx.length:=ZJ (h.nodup i) (h.rows i)
theorem NxOk.came{nx:List (List Nat)}(h:NxOk nx):Came nx.length ([],[]) (yo nx nx.length 0 ([],[])):=
 zcY h.rows nx.length 0 ([],[]) h.pos (by simp) (by simp) (by simp)
theorem znF(nx:List (List Nat)):(zv nx).length=(yG nx).length:=by
 have:=zjR nx nx.length 0 ([],[])
 simp[zv,yG]at this⊢
 omega
theorem NxOk.walk_le{nx:List (List Nat)}(h:NxOk nx):(yG nx).length<=nx.length:=ZJ h.came.nodup h.came.lt
theorem zi2{ll:List (List Int)}{j:Nat}(hj:j<ll.length):(Zz ll).getD j []=za9 (ll[j].map Int.toNat):=by simp[Zz,zF,List.getD,hj]
theorem Z4(ll:List (List Int)):(Zz ll).length=ll.length:=by simp[Zz,zF]
theorem zkP{ll:List (List Int)}(h0:0<ll.length)(h1:ll.length<=4096)(hG:Good ll):NxOk (Zz ll):=by
 refine⟨by rw[Z4];exact h0,by rw[Z4];exact h1,λj t ht=>?_,λj=>?_⟩
 ·by_cases hj:j<ll.length
  ·rw[zi2 hj,zhk]at ht
   obtain⟨y,hy,rfl⟩:=List.mem_map.1 ht
   have:=hG _ (List.getElem_mem hj) y hy
   rw[Z4]
   omega
  ·simp[Zz,zF,List.getD,hj]at ht
 ·by_cases hj:j<ll.length
  ·rw[zi2 hj];exact zh1 _
  ·simp[Zz,zF,List.getD,hj]
theorem _root_.Go.Gk.IsS.toI{w:World}{s:Sl}{l:List Nat}(h:IsS iN w s l):IsI w s (l.map λ(x:Nat)=>(x:Int)):=
 ⟨by rw[List.length_map];exact h.len,h.cap,h.max,h.nil,λa ha i hi=>by rw[List.getElem_map];exact h.cell a ha i (by simpa using hi)⟩
theorem zgZ{gb:Nat}{nx:List (List Nat)}{w:World}{R:VWP}(h:IsG w gb nx)(hR:R (.int .i64 (nx.length:Int)) w) :
  cR 15 #[.pointer (some (blk gb))] w R:=by
 refine zc.of (YE _ R w ?_) λ_ _ h=>h
 obtain⟨sn,sa,wk,od,bs,hn,ha,h1,h2,h3,h4,h5,h6⟩:=h
 refine⟨sn,h1.cell0 rfl,?_⟩
 have e:sn.l=nx.length:=by have:=h2.top.len;have:=h2.len;omega
 show R (.int .i64 (sn.l:Int)) w
 rw[e];exact hR
theorem zkl{gb:Nat}{nx:List (List Nat)}{i:Int}{w:World}{R:VWP}(h:IsG w gb nx)(hR:R (.bool (decide (0<=i/\i<nx.length))) w) :
  cR 40 #[.pointer (some (blk gb)),.int .i64 i] w R:=by
 refine zc.of (zae _ i R w ?_) λ_ _ h=>h
 refine zg (λh0=>zgZ h ⟨_,rfl,?_⟩) (λh0=>?_)
 ·have:decide (i<(nx.length:Int))=decide (0<=i/\i<nx.length):=by
   rw[decide_eq_decide];exact⟨λh=>⟨h0,h⟩,λh=>h.2⟩
  dsimp only[zB,Go.Gk.Sl.zw,zi,zu,zb,zh];rw[this];exact hR
 ·have:decide (0<=i/\i<(nx.length:Int))=false:=by rw[decide_eq_false_iff_not];omega
  rw[this]at hR;exact hR
def zfr(ll:List (List Nat))(i:Int):List Nat:=if 0<=i then ll.getD i.toNat [] else []
theorem zaN(ll:List (List Nat))(i:Nat):zfr ll (i:Int)=ll.getD i []:=by simp[zfr]
theorem zjL{ll:List (List Nat)}{i:Int}(h:¬(0<=i/\i<ll.length)):zfr ll i=[]:=by
 unfold zfr
 split
 ·rw[List.getD_eq_getElem?_getD,List.getElem?_eq_none (by omega)];rfl
 ·rfl
theorem zng{gb:Nat}{nx:List (List Nat)}(hx:NxOk nx){i:Int}{w:World}{R:VWP}(h:IsG w gb nx)
  (hR:∀r w',Own w' 3 1 r ((zfr nx i).map iN)->zA w.heap.size r->Below w.heap.size w w'->R (.slice r.a r.l r.c) w') :
  cR 63 #[.pointer (some (blk gb)),.int .i64 i] w R:=by
 refine zc.of (Yz _ i R w ?_) λ_ _ h=>h
 refine zkl h ⟨_,rfl,zI (zg (λhi=>?_) (λhi=>?_))⟩
 ·obtain⟨sn,sa,wk,od,bs,hn,ha,h1,h2,h3,h4,h5,h6⟩:=h
  obtain⟨k,rfl⟩:=Int.eq_ofNat_of_zero_le hi.1
  have hk:k<nx.length:=by have:=hi.2;omega
  have hnl:=h2.len
  have hrl:=hx.row_le k
  have hrm:=hx.max
  have hsz:nx[k].length*8<=140737488355328:=by
   have e:nx[k]=nx.getD k []:=by simp[List.getD,hk]
   rw[e];omega
  refine⟨sn,h1.cell0 rfl,zjw h2.top (by omega) ?_⟩
  refine zft zmi (h2.row k (by omega) hk) hsz λr w' g1 g2 g3=>⟨r,rfl,hR r w' ?_ g2 g3⟩
  rw[zaN]
  simpa[List.getD,hk] using g1
 ·refine hR ⟨none,0,0⟩ w ?_ (λa ha=>by cases ha) (Below.refl _ _)
  rw[zjL (by omega)];exact Own.nil _ _ _
theorem zic{gb:Nat}{nx:List (List Nat)}(hx:NxOk nx){i:Int}{w:World}{R:VWP}(h:IsG w gb nx)
  (hR:∀r w',Own w' 3 1 r ((zfr (zD nx) i).map iN)->zA w.heap.size r->Below w.heap.size w w'->R (.slice r.a r.l r.c) w') :
  cR 17 #[.pointer (some (blk gb)),.int .i64 i] w R:=by
 refine zc.of (Yc _ i R w ?_) λ_ _ h=>h
 refine zkl h ⟨_,rfl,zI (zg (λhi=>?_) (λhi=>?_))⟩
 ·obtain⟨sn,sa,wk,od,bs,hn,ha,h1,h2,h3,h4,h5,h6⟩:=h
  obtain⟨k,rfl⟩:=Int.eq_ofNat_of_zero_le hi.1
  have hk:k<(zD nx).length:=by rw[Z3];have:=hi.2;omega
  have hnl:=h3.len
  have hrl:=ziq nx k
  have hrm:=hx.max
  have hsz:(zD nx)[k].length*8<=140737488355328:=by
   have e:(zD nx)[k]=(zD nx).getD k []:=by simp[List.getD,hk]
   rw[e];omega
  refine⟨sa,h1.cell (n:=1) rfl,zjw h3.top (by omega) ?_⟩
  refine zft zmi (h3.row k (by omega) hk) hsz λr w' g1 g2 g3=>⟨r,rfl,hR r w' ?_ g2 g3⟩
  rw[zaN]
  simpa[List.getD,hk] using g1
 ·refine hR ⟨none,0,0⟩ w ?_ (λa ha=>by cases ha) (Below.refl _ _)
  rw[zjL (by rw[Z3];omega)];exact Own.nil _ _ _
theorem zlP{gb:Nat}{nx:List (List Nat)}(hx:NxOk nx){w:World}{R:VWP}(h:IsG w gb nx)
  (hR:∀r w',Own w' 3 1 r ((zv nx).map iN)->zA w.heap.size r->Below w.heap.size w w'->R (.slice r.a r.l r.c) w') :
  cR 94 #[.pointer (some (blk gb))] w R:=by
 refine zc.of (zc3 _ R w ?_) λ_ _ h=>h
 obtain⟨sn,sa,wk,od,bs,hn,ha,h1,h2,h3,h4,h5,h6⟩:=h
 refine⟨od,h1.cell (n:=3) rfl,zft zmi h5 (by have:=znF nx;have:=hx.walk_le;have:=hx.max;omega) λr w' g1 g2 g3=>⟨r,rfl,hR r w' g1 g2 g3⟩⟩
def Z5(nx:List (List Nat))(i:Int):Bool:=decide (0<=i)&&(yG nx).contains i.toNat
theorem zjT{gb:Nat}{nx:List (List Nat)}(hx:NxOk nx){i:Int}{w:World}{R:VWP}(h:IsG w gb nx)(hR:R (.bool (Z5 nx i)) w) :
  cR 16 #[.pointer (some (blk gb)),.int .i64 i] w R:=by
 refine zc.of (ZA _ i R w ?_) λ_ _ h=>h
 refine zkl h ⟨_,rfl,zg (λhi=>?_) (λhi=>?_)⟩
 ·obtain⟨sn,sa,wk,od,bs,hn,ha,h1,h2,h3,h4,h5,h6⟩:=h
  obtain⟨k,rfl⟩:=Int.eq_ofNat_of_zero_le hi.1
  have hm:=hx.max
  have hk:k<4096:=by have:=hi.2;omega
  refine zi8 hk (zb2.bits h1 h6) ⟨_,rfl,?_⟩
  simpa[Z5] using hR
 ·have:Z5 nx i=false:=by
   unfold Z5
   by_cases h0:0<=i
   ·have:(yG nx).contains i.toNat=false:=by
     rw[<-Bool.not_eq_true,List.contains_iff_mem]
     intro hm
     have:=hx.came.lt _ hm
     omega
    rw[this,Bool.and_false]
   ·simp[h0]
  rw[this]at hR
  exact hR
end Go.Proofs
namespace Go.Proofs
open Go.Gk Go.RowKit Go.Gr
end Go.Proofs
namespace Go.Proofs
open Go.Gk Go.RowKit Go.Gr
end Go.Proofs
namespace Go.Proofs
open Go.Gk Go.RowKit Go.Gr
theorem zgi{nx:List (List Nat)}(hx:NxOk nx){i j:Nat}:i∈(zD nx).getD j []↔j∈nx.getD i []:=by
 by_cases hj:j<nx.length
 ·rw[zfx hj,List.mem_filter,List.mem_range,List.contains_iff_mem]
  refine⟨λh=>h.2,λh=>⟨?_,h⟩⟩
  by_cases hi:i<nx.length
  ·exact hi
  ·simp[List.getD,hi]at h
 ·constructor
  ·intro h;simp[List.getD,Z3,hj]at h
  ·intro h;exact absurd (hx.rows i j h) hj
end Go.Proofs
namespace Go.Proofs
open Go.Gk
set_option linter.unusedVariables false
set_option maxRecDepth 100000
def zhz:Ann:=(.q (.one (.q (.seq none (.q (.cond (.q .nil) .nil)) (.q (.q (.q (.seq none (.q (.one (.loop ⟨[2,5,6,29,30],[(31,(.b (.int .i64)))]⟩ (.q (.seq none .c (.seq (some ⟨[2,5,6,29,30,31],[]⟩) (.one (.q (.seq (some ⟨[2,5,6,7,8,29,30,31],[]⟩) (.q (.cond (.q .nil) .nil)) (.q (.seq none (.q (.one (.loop ⟨[2,5,6,7,29,30,31,50,51],[(9,(.b .bool)),(52,(.b (.int .i64)))]⟩ (.q (.seq none .c (.seq (some ⟨[2,5,6,7,29,30,31,50,51,52],[(9,(.b .bool))]⟩) (.one (.q (.q (.seq none (.q (.cond (.q .nil) .nil)) .nil)))) .nil)))))) (.seq (some ⟨[2,7],[]⟩) (.q .c) (.q .nil))))))) .nil)))))) (.q .nil)))))))))
def zhv(p0:(Int×Int×Sl×Unit))(R:VWP)(w:World):Prop:=Nw (w.alloc (.cells #[zu p0.1,zu p0.2.1,p0.2.2.1.zw] 25)) λw1=>Nw (w1.alloc (.cells #[zi 0,zi 0] 29)) λw2=>da w2 (zB w) λx1 x2 x3=>dX 67 #[.agg #[zu x1,zu x2,x3.zw]] w2 λx5 x6 w3=>Nw (w3.alloc (.cells (List.toArray (List.replicate 20 (zi 0))) 98)) λw4=>Nw (w4.alloc (.cells #[zi 0,zi 0] 29)) λw5=>dF w5 (zB w3) (zi x5.1) (zi x5.2.1) (zi x5.2.2.1) (zi x5.2.2.2.1) (zi x5.2.2.2.2.1) (zi x5.2.2.2.2.2.1) (zi x5.2.2.2.2.2.2.1) (zi x5.2.2.2.2.2.2.2.1) (zi x5.2.2.2.2.2.2.2.2.1) (zi x5.2.2.2.2.2.2.2.2.2.1) (zi x5.2.2.2.2.2.2.2.2.2.2.1) (zi x5.2.2.2.2.2.2.2.2.2.2.2.1) (zi x5.2.2.2.2.2.2.2.2.2.2.2.2.1) (zi x5.2.2.2.2.2.2.2.2.2.2.2.2.2.1) (zi x5.2.2.2.2.2.2.2.2.2.2.2.2.2.2.1) (zi x5.2.2.2.2.2.2.2.2.2.2.2.2.2.2.2.1) (zi x5.2.2.2.2.2.2.2.2.2.2.2.2.2.2.2.2.1) (zi x5.2.2.2.2.2.2.2.2.2.2.2.2.2.2.2.2.2.1) (zi x5.2.2.2.2.2.2.2.2.2.2.2.2.2.2.2.2.2.2.1) (zi x5.2.2.2.2.2.2.2.2.2.2.2.2.2.2.2.2.2.2.2.1) λw25=>dd w25 (zB w4) (zi x6.1) (zi x6.2.1) λw27=>ldI w27 (zB w4) .i64 λx7=>ifB (x7 !=0) (db w27 (zB w4) λx8 x9=>dd w27 (zB w1) (zi x8) (zi x9) λw29=>db w29 (zB w1) λx10 x11=>R (.agg #[zi x10,zi x11]) w29) (ldS w27 ((zB w).add 2) λx12=>di 68 #[x12.zw] w27 λx14 w30=>(0<=(7:Int)/\(7:Int)<10)/\db w30 ((zB w3).add (7*2)) λx15 x16=>dc w30 #[zi 0,zi 0] 97 (zi x15) (zi x16) λw33=>ldS w33 ((zB w).add 2) λx17=>zj (S:=Int×Unit) (λs18 w34 n19=>ifB (decide (s18.1<(x17.l:Int))) (zk (S:=Unit) (λm20=>(0<=s18.1/\s18.1<(x17.l:Int))/\za x17.a λa22=>dt w34 (a22.add (s18.1.toNat *4)) λx23 x24 x25 x26=>dp w34 #[zh 0,zu 0,zu 0,.slice none 0 0] 50 (zh x23) (zu x24) (zu x25) (x26.zw) λw39=>zk (S:=Unit) (λm27=>ldI w39 ((zB w34).add 2) .u32 λx29=>ifB (x29 !=0) (ldI w39 ((zB w34).add 2) .u32 λx30=>ziE Tryz.prog 88 (.map x14) (zu x30) (BK.int .i64) w39 λ(x31:Int)=>ifB (decide (x31<s18.1)) (dd w39 (zB w1) (zi 90) (zi s18.1) λw41=>db w41 (zB w1) λx32 x33=>R (.agg #[zi x32,zi x33]) w41) (m27 () w39)) (m27 () w39)) (λs28 w42=>dt w42 (zB w34) λx34 x35 x36 x37=>dn 69 #[.agg #[zh x34,zu x35,zu x36,x37.zw]] w42 λx39 w43=>zj (S:=Bool×Int×Unit) (λs40 w44 n41=>ifB (decide (s40.2.1<(x39.l:Int))) (zk (S:=Bool×Unit) (λm42=>(0<=s40.2.1/\s40.2.1<(x39.l:Int))/\za x39.a λa44=>ldI w44 (a44.add s40.2.1.toNat) .u32 λx45=>zkq Tryz.prog 88 (.map x14) (zu x45) (BK.int .i64) w44 λ(x46:Int) (b47:Bool)=>ifB (!b47) (dd w44 (zB w1) (zi 91) (zi s18.1) λw46=>db w46 (zB w1) λx48 x49=>R (.agg #[zi x48,zi x49]) w46) (ifB s40.1 (m42 (true,()) w44) (m42 ((decide (x46≥s18.1)),()) w44))) (λs43 w47=>n41 (s43.1,(IntKind.i64.wrap (s40.2.1+(1:Int))),()) w47)) (zk (S:=Unit) (λm50=>ifB (!s40.1) (m20 () w44) (ldI w44 (zB w30) .i64 λx52=>ifB (decide (s18.1<x52)) (m20 () w44) (ldI w44 ((zB w30).add 1) .i64 λx53=>ifB (decide (s18.1≥x53)) (m20 () w44) (m50 () w44)))) (λs51 w48=>dd w48 (zB w1) (zi 92) (zi s18.1) λw50=>db w50 (zB w1) λx54 x55=>R (.agg #[zi x54,zi x55]) w50))) (false,0,()) w43)) (λs21 w51=>n19 ((IntKind.i64.wrap (s18.1+(1:Int))),()) w51)) (dd w34 (zB w1) (zi 0) (zi 0) λw53=>db w53 (zB w1) λx56 x57=>R (.agg #[zi x56,zi x57]) w53)) (0,()) w33)
theorem zhP(p0)(R)(w)(h:zhv p0 R w):Calls Tryz.prog 32 #[.agg #[.int .u32 p0.1,.int .u32 p0.2.1,.slice p0.2.2.1.a p0.2.2.1.l p0.2.2.1.c]] w (Ret R):=lwC zhz Tryz.func32 (by kernel_rfl) (by kernel_rfl) h
end Go.Proofs
namespace Go.Proofs
open Go.Gk
set_option linter.unusedVariables false
set_option maxRecDepth 100000
def zgb:Ann:=(.q (.q (.seq none (.q (.one (.loop ⟨[],[(9,(.b (.int .i64))),(10,(.agg [(.int .u16),(.int .u32),(.int .u32),.slice]))]⟩ (.seq none (.q .nil) (.one (.q .c)))))) (.q .nil))))
def zfP(p0:Sl)(R:VWP)(w:World):Prop:=Nw (w.alloc (.map #[] 0)) λw1=>Nw (w1.alloc (.cells #[.map none] 88)) λw2=>Wr w2 (zB w1)/\Nw (w2.setCell (zB w1) (.map (some w.heap.size))) λw3=>dO 107 #[p0.zw] w3 λx2 w4=>zfv Tryz.prog Tryz.fs x2 w4 (T:=Int×(Int×Int×Int×Sl×Unit)×Unit) (λs3=>[(zi s3.1),(.agg #[zh s3.2.1.1,zu s3.2.1.2.1,zu s3.2.1.2.2.1,s3.2.1.2.2.2.1.zw])]) (λmk4 l5 s3 w5 S6=>dp w5 #[zh 0,zu 0,zu 0,.slice none 0 0] 50 (zh s3.2.1.1) (zu s3.2.1.2.1) (zu s3.2.1.2.2.1) (s3.2.1.2.2.2.1.zw) λw10=>w10.heap[l5]? =some (mk4 .ready none)/\Nw (w10.putObj l5 (mk4 .busy none)) λw11=>ldI w11 ((zB w5).add 2) .u32 λx8=>ifB (x8 !=0) (ldM w11 (zB w1) λx9=>ldI w11 ((zB w5).add 2) .u32 λx10=>updW Tryz.prog 88 (.map x9) (zu x10) (zi s3.1) w11 λw12=>w12.heap[l5]? =some (mk4 .busy none)/\S6 (.bool true) (w12.putObj l5 (mk4 .ready none))) (w11.heap[l5]? =some (mk4 .busy none)/\S6 (.bool true) (w11.putObj l5 (mk4 .ready none)))) (λmk4 l5 d7 w13=>yF mk4 l5 .ready none w13 λw14=>ldM w14 (zB w1) λx11=>Yx (d7::[]) w14 λw15=>R (.map x11) w15)
theorem zhe(p0:Sl)(R:VWP)(w:World)(h:zfP p0 R w):Calls Tryz.prog 68 #[.slice p0.a p0.l p0.c] w (Ret R):=ze6 (fs:=Tryz.fs) (an:=zgb) (args:=[(.slice p0.a p0.l p0.c)]) Tryz.fsOK Tryz.mixed Tryz.func68 (by kernel_rfl) (by kernel_rfl) (Eq.mpr (by kernel_rfl:zjC Tryz.prog Tryz.fs Tryz.f68 zgb [(.slice p0.a p0.l p0.c)] w R=zfP p0 R w) h)
def y5:Ann:=(.q (.q .nil))
def yz(p0:Sl)(R:VWP)(w:World):Prop:=Nw (w.alloc (.cells #[p0.zw] 23)) λw1=>R (.func (.func 141) #[] #[.pointer (some (zB w))]) w1
theorem Zt(p0)(R)(w)(h:yz p0 R w):Calls Tryz.prog 107 #[.slice p0.a p0.l p0.c] w (Ret R):=lwC y5 Tryz.func107 (by kernel_rfl) (by kernel_rfl) h
def yk:Ann:=(.q (.one (.loop ⟨[0,1],[(3,(.b (.int .i64)))]⟩ (.seq none (.q .c) (.seq none (.one (.q .c)) .nil)))))
def yj(p0:Value)(c0:Addr)(R:VWP)(w:World):Prop:=ldS w c0 λx1=>zj (S:=Int×Unit) (λs2 w1 n3=>ifB (decide (s2.1≥(0:Int))) (ldS w1 c0 λx4=>(0<=s2.1/\s2.1<(x4.l:Int))/\za x4.a λa5=>dt w1 (a5.add (s2.1.toNat *4)) λx6 x7 x8 x9=>Zv Tryz.prog Tryz.fs p0 [(zi s2.1),(.agg #[zh x6,zu x7,zu x8,x9.zw])] w1 λv10 w2=>∃x11:Bool,v10=(.bool x11)/\ifB (!x11) (R (.tuple #[]) w2) (n3 ((IntKind.i64.wrap (s2.1-(1:Int))),()) w2)) (R (.tuple #[]) w1)) ((IntKind.i64.wrap ((x1.l:Int)-1)),()) w
theorem Zc(p0)(c0)(R)(w)(h:yj p0 c0 R w):Calls Tryz.prog 141 #[p0,.pointer (some c0)] w (Ret R):=lwC yk Tryz.func141 (by kernel_rfl) (by kernel_rfl) h
end Go.Proofs
namespace Go.Proofs
open Go.Gk
set_option linter.unusedVariables false
set_option maxRecDepth 100000
end Go.Proofs
namespace Go.Proofs
open Go.Gk
set_option linter.unusedVariables false
set_option maxRecDepth 100000
def ZG:Ann:=(.q (.q (.seq none (.q (.one (.loop ⟨[1,2,3],[(4,(.b (.int .i64)))]⟩ (.seq none (.q .c) (.seq none (.one .nil) .nil))))) (.q (.q .nil)))))
def ZE(p0:(Int×Int×Sl×Unit))(R:VWP)(w:World):Prop:=Nw (w.alloc (.cells #[zu p0.1,zu p0.2.1,p0.2.2.1.zw] 25)) λw1=>Nw (w1.alloc (.cells #[zu 0,zu 0,.slice none 0 0] 25)) λw2=>ldS w2 ((zB w).add 2) λx1=>(0<=(x1.l:Int)/\(x1.l:Int)<=(x1.l:Int)/\40*(x1.l:Int)<=281474976710656/\(x1.l:Int)<=9223372036854775807)/\Nw (w2.alloc (.cells (madeCells #[zh 0,zu 0,zu 0,.slice none 0 0] (x1.l*4)) 50)) λw3=>zj (S:=Int×Unit) (λs2 w4 n3=>ldS w4 ((zB w).add 2) λx4=>ifB (decide (s2.1<(x4.l:Int))) (ldS w4 ((zB w).add 2) λx5=>(0<=s2.1/\s2.1<(x5.l:Int))/\za x5.a λa6=>dt w4 (a6.add (s2.1.toNat *4)) λx7 x8 x9 x10=>dY 29 #[.agg #[zh x7,zu x8,zu x9,x10.zw]] w4 λx12 w5=>(0<=s2.1/\s2.1<(x1.l:Int))/\Wr w5 ((zB w2).add (s2.1.toNat *4))/\Nw (w5.setCell ((zB w2).add (s2.1.toNat *4)) (zh x12.1)) λw6=>Wr w6 (((zB w2).add (s2.1.toNat *4)).add 1)/\Nw (w6.setCell (((zB w2).add (s2.1.toNat *4)).add 1) (zu x12.2.1)) λw7=>Wr w7 (((zB w2).add (s2.1.toNat *4)).add 2)/\Nw (w7.setCell (((zB w2).add (s2.1.toNat *4)).add 2) (zu x12.2.2.1)) λw8=>Wr w8 (((zB w2).add (s2.1.toNat *4)).add 3)/\Nw (w8.setCell (((zB w2).add (s2.1.toNat *4)).add 3) (x12.2.2.2.1.zw)) λw9=>n3 ((IntKind.i64.wrap (s2.1+(1:Int))),()) w9) (Wr w4 ((zB w).add 2)/\Nw (w4.setCell ((zB w).add 2) (.slice (some (zB w2)) x1.l x1.l)) λw10=>da w10 (zB w) λx13 x14 x15=>ds w10 (zB w1) (zu x13) (zu x14) (x15.zw) λw13=>da w13 (zB w1) λx16 x17 x18=>R (.agg #[zu x16,zu x17,x18.zw]) w13)) (0,()) w3
theorem zas(p0)(R)(w)(h:ZE p0 R w):Calls Tryz.prog 8 #[.agg #[.int .u32 p0.1,.int .u32 p0.2.1,.slice p0.2.2.1.a p0.2.2.1.l p0.2.2.1.c]] w (Ret R):=lwC ZG Tryz.func8 (by kernel_rfl) (by kernel_rfl) h
end Go.Proofs
namespace Go.Proofs
open Go.Gk Go.RowKit Go.Gm
def Cpy(w:World)(b:Nat)(pl:List PI):Prop:=
 ∃hs:List Ins,hs.length=pl.length/\Blk w b 50 (flat inV hs)/\∀(j:Nat) (h:j<hs.length) (h':j<pl.length),∃c,b<c/\hs[j]=mkIn pl[j] ⟨some (blk c),pl[j].2.2.2.length,pl[j].2.2.2.length⟩/\Blk w c 136 (flat agV pl[j].2.2.2)
theorem Cpy.isPl{w:World}{b:Nat}{pl:List PI}(h:Cpy w b pl)(hm:pl.length<=9223372036854775807)(hm':∀p∈pl,p.2.2.2.length<=9223372036854775807):IsPl w ⟨some (blk b),pl.length,pl.length⟩ pl:=by
 obtain⟨hs,h1,h2,h3⟩:=h
 refine⟨rfl,Nat.le_refl _,hm,(λh=>by cases h),λa ha k hk=>?_⟩
 cases ha
 obtain⟨c,h4,h5,h6⟩:=h3 k (by omega) hk
 refine⟨⟨some (blk c),pl[k].2.2.2.length,pl[k].2.2.2.length⟩,λj hj=>?_,Blk.isC zaD (by omega) h6 (hm' _ (List.getElem_mem hk))⟩
 rw[<-h5]
 have hg:=zi4 zmS hs k (by omega) j hj
 have hlt:j<(inV (hs[k]'(by omega))).length:=hj
 rw[List.getElem?_eq_getElem hlt]at hg⊢
 exact h2.cell hg
theorem yb{x:Mo}{pl:List PI}{w:World}{R:VWP}(hN:IsPl w x.2.2.1 pl)(hp:PlOk pl)
  (hR:∀b w',w.heap.size<=b->Cpy w' b pl->IsPl w' ⟨some (blk b),pl.length,pl.length⟩ pl->Below w.heap.size w w'->R (moA (x.1,x.2.1,⟨some (blk b),pl.length,pl.length⟩,())) w') :
  cR 8 #[moA x] w R:=by
 refine zc.of (zas x R w ?_) λ_ _ h=>h
 refine zl λw1 hB1 b1 z1=>?_
 have hB1:Blk w1 w.heap.size 25 (moV x):=hB1
 refine zl λw2 hC2 b2 z2=>?_
 have hC2:Blk w2 w1.heap.size 25 [.int .u32 0,.int .u32 0,.slice none 0 0]:=hC2
 have hB2:=hB1.below b2
 have hl:=hN.len
 have h40:=hp.len
 refine hB2.rS (n:=2) rfl ⟨⟨by omega,by omega,by omega,by omega⟩,?_⟩
 refine zl λw3 hD3 b3 z3=>?_
 have hb3:=(b1.on b2).on b3
 have hB3:=hB2.below b3
 have hC3:=hC2.below b3
 have hargs:∀p∈pl,p.2.2.2.length<=9223372036854775807:=λp h=>by have:=hp.args p h;omega
 refine zj.count pl.length hN.bound (λk w'=>Below w.heap.size w w'/\w3.heap.size<=w'.heap.size/\Blk w' w.heap.size 25 (moV x)/\Blk w' w1.heap.size 25 [.int .u32 0,.int .u32 0,.slice none 0 0]/\
   ∃(hs:List Ins) (r:List Value),hs.length=k/\Blk w' w2.heap.size 50 (flat inV hs++r)/\r.length=(pl.length-k)*4/\
    ∀(j:Nat) (h:j<hs.length) (h':j<pl.length),∃c,w2.heap.size<c/\hs[j]=mkIn pl[j] ⟨some (blk c),pl[j].2.2.2.length,pl[j].2.2.2.length⟩/\Blk w' c 136 (flat agV pl[j].2.2.2))
  ⟨hb3,Nat.le_refl _,hB3,hC3,[],_,rfl,by simpa[flat] using hD3,by rw[Array.length_toList,size_madeCells,hl];simp,λj h _=>by cases h⟩ ?_
 rintro k w4 hk ⟨hb,hz,hB,hC,hs,r,hhl,hD,hr,hrow⟩ next hnext
 refine hB.rS (n:=2) rfl (zg (λhlt=>?_) (λhge=>?_))
 ·have hlt:k<pl.length:=by dsimp only at hlt;omega
  refine hB.rS (n:=2) rfl (zbV (hN.below hb) hlt λt ht=>?_)
  refine ziY (x:=mkIn pl[k] t) ht (hp.args _ (List.getElem_mem hlt)) λc w5 hc hA5 hI5 b5=>⟨mkIn pl[k] ⟨some (blk c),pl[k].2.2.2.length,pl[k].2.2.2.length⟩,rfl,?_⟩
  have hb5:=hb.on b5
  have hD5:=hD.below b5
  have hB5:=hB.below b5
  have hC5:=hC.below b5
  have s5:=b5.size
  refine⟨⟨by omega,by dsimp only;omega⟩,?_⟩
  have hfl:(flat inV hs).length=k*4:=by rw[ym zmS,hhl]
  obtain⟨r',hr',e⟩:=set4 (flat inV hs) (cs:=r) (m:=pl.length-(k+1)) (by rw[hr];congr 1;omega) (.int .u16 pl[k].1) (.int .u32 pl[k].2.1) (.int .u32 pl[k].2.2.1) (.slice (some (blk c)) pl[k].2.2.2.length pl[k].2.2.2.length)
  rw[hfl]at e
  have hcl:(flat inV hs++r).length=pl.length*4:=by rw[List.length_append,hfl,hr,<-Nat.add_mul];congr 1;omega
  dsimp only
  rw[show Int.toNat (k:Int)=k from rfl]
  simp only[zs]
  have hD1:=hD5.set (k*4) (.int .u16 pl[k].1)
  have hD2:=hD1.set (k*4+1) (.int .u32 pl[k].2.1)
  have hD3:=hD2.set (k*4+2) (.int .u32 pl[k].2.2.1)
  have hD4:=hD3.set (k*4+3) (.slice (some (blk c)) pl[k].2.2.2.length pl[k].2.2.2.length)
  have c1:=(((Chg.set w2.heap.size (k*4) w5 (.int .u16 pl[k].1)).trans (Chg.set w2.heap.size (k*4+1) _ (.int .u32 pl[k].2.1))).trans (Chg.set w2.heap.size (k*4+2) _ (.int .u32 pl[k].2.2.1))).trans
   (Chg.set w2.heap.size (k*4+3) _ (.slice (some (blk c)) pl[k].2.2.2.length pl[k].2.2.2.length))
  refine⟨hD5.wr (by omega),hD1.wr (by rw[List.length_set];omega),hD2.wr (by rw[List.length_set,List.length_set];omega),hD3.wr (by rw[List.length_set,List.length_set,List.length_set];omega),?_⟩
  refine hnext _ hlt ⟨c1.below hb5 (by omega),by rw[c1.size];omega,c1.blk hB5 (by omega),c1.blk hC5 (by omega),hs++[mkIn pl[k] ⟨some (blk c),pl[k].2.2.2.length,pl[k].2.2.2.length⟩],r',by simp[hhl],?_,hr',?_⟩
  ·rw[e]at hD4
   have e2:flat inV (hs++[mkIn pl[k] ⟨some (blk c),pl[k].2.2.2.length,pl[k].2.2.2.length⟩])=flat inV hs++inV (mkIn pl[k] ⟨some (blk c),pl[k].2.2.2.length,pl[k].2.2.2.length⟩):=by
    simp[flat]
   rw[e2]
   exact hD4
  ·intro j h h'
   by_cases hj:j<hs.length
   ·obtain⟨c',g1,g2,g3⟩:=hrow j hj h'
    refine⟨c',g1,?_,c1.blk (g3.below b5) (by omega)⟩
    rw[List.getElem_append_left hj]
    exact g2
   ·have hj':j=k:=by simp at h;omega
    subst hj'
    refine⟨c,by omega,?_,c1.blk hA5 (by omega)⟩
    rw[List.getElem_append_right (by omega)]
    simp[hhl]
 ·have hk':k=pl.length:=by dsimp only at hge;omega
  subst hk'
  simp only[Nat.sub_self,Nat.zero_mul]at hr
  have:r=[]:=List.eq_nil_of_length_eq_zero hr
  subst this
  rw[List.append_nil]at hD
  refine⟨hB.wr (n:=2) (by simp),?_⟩
  rw[hl]
  have c1:=Chg.set w.heap.size 2 w4 (.slice (some (blk w2.heap.size)) pl.length pl.length)
  have hB5:Blk _ w.heap.size 25 (moV (x.1,x.2.1,⟨some (blk w2.heap.size),pl.length,pl.length⟩,())):=hB.set 2 (.slice (some (blk w2.heap.size)) pl.length pl.length)
  have hb5:=c1.below hb (Nat.le_refl _)
  have hC5:=c1.blk hC (by omega)
  have hD5:=c1.blk hD (by omega)
  refine Nw.mk (Mo.load hB5 ?_)
  refine st3 hC5 rfl λw6 hC6 c6=>?_
  have hC6:Blk w6 w1.heap.size 25 (moV (x.1,x.2.1,⟨some (blk w2.heap.size),pl.length,pl.length⟩,())):=hC6
  have hcp:Cpy w6 w2.heap.size pl:=⟨hs,hhl,c6.blk hD5 (by omega),λj h h'=>by
   obtain⟨c',g1,g2,g3⟩:=hrow j h h'
   exact⟨c',g1,g2,c6.blk (c1.blk g3 (by omega)) (by omega)⟩⟩
  refine Mo.load hC6 ?_
  exact hR w2.heap.size w6 (by omega) hcp (hcp.isPl hN.bound hargs) (c6.below hb5 (by omega))
end Go.Proofs
namespace Go.Proofs
open Go.Gk Go.RowKit Go.Gm
abbrev Prs:=List (Int×Int)
def swp(S:Prs):Prs:=S.map λx=>(x.2,x.1)
abbrev idsA(l:List Ag):List Int:=(l.filter λa=>a.1==1).map (·.2.1)
def allI(p:PI):List Int:=p.2.1::p.2.2.1::idsA p.2.2.2
def allP(pl:List PI):List Int:=pl.flatMap allI
open Classical in
theorem zjx{p:PI}{bd:Int}(h:ZQ p bd=0)(hb:0<bd)(h0:0<=p.2.1/\0<=p.2.2.1/\∀x∈p.2.2.2,0<=x.2.1) :
  (∀n∈allI p,0<=n/\n<bd)/\∀x∈p.2.2.2,x.1=1->x.2.2.size=0:=by
 unfold ZQ at h
 cases hfr:frm p.1 with
 |none=>rw[zdW hfr]at h;cases h
 |some g=>
  rw[zdX hfr]at h
  have hek:errK g p.2.1 p.2.2.1 p.2.2.2 bd p.2.2.2.length=0:=by
   refine Classical.byContradiction λhne=>?_
   unfold zdU at h
   rw[if_pos hne]at h
   exact hne h
  obtain⟨e1,e2,e3⟩:=zgk hek
  have hw:=zgf e3
  have idlt:∀{must:Bool} {n e:Int},idP must n bd e=0->e≠0->n<bd:=by
   intro must n e hi he
   unfold idP at hi
   split at hi
   ·rename_i hm
    split at hi
    ·cases hi
    ·rename_i hno
     cases must with
     |true=>exact Int.not_le.1 λhle=>hno ⟨rfl,hle⟩
     |false=>
      have:n=0:=by
       refine Classical.byContradiction λhn=>?_
       rw[bne_iff_ne.2 hn]at hm
       cases hm
      omega
   ·exact absurd hi he
  have hx:∀x∈p.2.2.2,x.1=1->(x.2.1<bd)/\x.2.2.size=0:=by
   intro x hx h1
   obtain⟨j,hj,rfl⟩:=List.mem_iff_getElem.1 hx
   have:=hw j hj
   unfold werr at this
   rw[zt hj]at this
   unfold zcd at this
   split at this
   ·cases this
   ·split at this
    ·cases this
    ·rename_i n1
     split at this
     ·cases this
     ·rename_i n2
      refine⟨Int.not_le.1 λhle=>n2 ⟨h1,.inr hle⟩,?_⟩
      refine Classical.byContradiction λhne=>n1 (.inr ⟨by rw[h1];decide,hne⟩)
  refine⟨λn hn=>?_,λx hx' h1=>(hx x hx' h1).2⟩
  unfold allI at hn
  rcases List.mem_cons.1 hn with rfl |hn
  ·exact⟨h0.1,idlt e1 (by decide)⟩
  ·rcases List.mem_cons.1 hn with rfl |hn
   ·exact⟨h0.2.1,idlt e2 (by decide)⟩
   ·obtain⟨x,hx',rfl⟩:=List.mem_map.1 hn
    obtain⟨hx1,hx2⟩:=List.mem_filter.1 hx'
    exact⟨h0.2.2 x hx1,(hx x hx1 (by simpa using hx2)).1⟩
end Go.Proofs
namespace Go.Proofs
open Go.Gk Go.RowKit Go.Gm
theorem _root_.Go.Gk.Blk.rM0{w:World}{b:Nat}{T:TypeId}{cs:List Value}(h:Blk w b T cs){x:Option Nat}(hn:cs[0]? =some (.map x)){φ:Option Nat->Prop}(hφ:φ x):ldM w (blk b) φ:=⟨x,h.cell0 hn,hφ⟩
theorem uU32:Tryz.prog.underlying 22=some (.int .u32):=by kernel_rfl
section
variable {w0 w:World} {r1 r2:Nat} {S:Prs} {R:VWP}
theorem zpR{w0 w:World}{s:Sl}{pl:List PI}(h:IsPl w0 s pl)(hb:Below w0.heap.size w0 w){k:Nat}(hk:k<pl.length){φ:Int->Int->Int->Sl->Prop}(hφ:∀t,IsAg w0 t pl[k].2.2.2->φ pl[k].1 pl[k].2.1 pl[k].2.2.1 t) :
  (0<=(k:Int)/\(k:Int)<(s.l:Int))/\za s.a λa=>ldI w ((a.add (Int.toNat (k:Int)*4)).add 0) .u16 λx=>ldI w ((a.add (Int.toNat (k:Int)*4)).add 1) .u32 λy=>ldI w ((a.add (Int.toNat (k:Int)*4)).add 2) .u32 λz=>ldS w ((a.add (Int.toNat (k:Int)*4)).add 3) λt=>φ x y z t:=by
 obtain⟨a,ha⟩:=h.base hk
 obtain⟨t,h1,h2⟩:=h.elem a ha k hk
 have hc:∀j,j<4->w.cell? (a.add (k*4+j))=(inV (mkIn pl[k] t))[j]?:=by
  intro j hj
  have hc:=h1 j hj
  have hlt:j<(inV (mkIn pl[k] t)).length:=hj
  rw[List.getElem?_eq_getElem hlt]at hc⊢
  have hb1:=World.block_lt_of_cell? w0 _ hc
  rw[World.cell?_of_block (w:=w0) (hb.block _ hb1)]
  exact hc
 refine⟨⟨by omega,by have:=h.len;omega⟩,ze ha ⟨_,?_,_,?_,_,?_,t,?_,hφ t h2⟩⟩
 ·rw[zs];exact hc 0 (by omega)
 ·rw[zs];exact hc 1 (by omega)
 ·rw[zs];exact hc 2 (by omega)
 ·rw[zs];exact hc 3 (by omega)
end
end Go.Proofs
namespace Go.Proofs
open Go.Gk
set_option linter.unusedVariables false
set_option maxRecDepth 100000
def ZH:Ann:=(.q (.seq (some ⟨[0,1],[]⟩) (.q .c) (.q (.seq (some ⟨[0,6],[]⟩) (.q .c) (.q (.q (.seq none (.one (.loop ⟨[7],[(8,(.b (.int .i64)))]⟩ (.seq none (.q .c) (.one .nil)))) (.q .nil))))))))
def ZF(p0:Sl)(p1:Int)(R:VWP)(w:World):Prop:=zk (S:=Unit) (λm1=>ifB (decide (p1<(0:Int))) (False) (m1 () w)) (λs2 w1=>dZ 122 #[.int .u64 (IntKind.u64.wrap (p0.l:Int)),.int .u64 (IntKind.u64.wrap p1)] w1 λx4 x5 w2=>zk (S:=Unit) (λm6=>ifB (decide (x4>(0:Int))) (False) (ifB (decide (x5>(9223372036854775807:Int))) (False) (m6 () w2))) (λs7 w3=>(0<=(IntKind.i64.wrap x5)/\(IntKind.i64.wrap x5)<=(IntKind.i64.wrap x5)/\8*(IntKind.i64.wrap x5)<=281474976710656/\(IntKind.i64.wrap x5)<=9223372036854775807)/\Nw (w3.alloc (.cells (madeCells #[zi 0] ((Int.toNat (IntKind.i64.wrap x5))*1)) 3)) λw4=>zoo Tryz.prog #[43,43] (.slice (some (zB w3)) (Int.toNat (IntKind.i64.wrap x5)) (Int.toNat (IntKind.i64.wrap x5))) (p0.zw) w4 λx8 w5=>zj (S:=Int×Unit) (λs9 w6 n10=>ifB (decide (s9.1<((Int.toNat (IntKind.i64.wrap x5)):Int))) ((0<=s9.1/\s9.1<=((Int.toNat (IntKind.i64.wrap x5)):Int)/\((Int.toNat (IntKind.i64.wrap x5)):Int)<=((Int.toNat (IntKind.i64.wrap x5)):Int))/\(0<=(0:Int)/\0<=s9.1/\s9.1<=((Int.toNat (IntKind.i64.wrap x5)):Int))/\zoo Tryz.prog #[43,43] (.slice (if (Int.toNat (IntKind.i64.wrap x5))=s9.1.toNat then(some (zB w3)) else Option.map (λa=>a.add s9.1.toNat) (some (zB w3))) ((Int.toNat (IntKind.i64.wrap x5))-s9.1.toNat) ((Int.toNat (IntKind.i64.wrap x5))-s9.1.toNat)) (.slice (if (Int.toNat (IntKind.i64.wrap x5))=0 then(some (zB w3)) else Option.map (λa=>a.add 0) (some (zB w3))) (s9.1.toNat-0) ((Int.toNat (IntKind.i64.wrap x5))-0)) w6.drew λx11 w7=>n10 ((IntKind.i64.wrap (s9.1+x11)),()) w7) (R (.slice (some (zB w3)) (Int.toNat (IntKind.i64.wrap x5)) (Int.toNat (IntKind.i64.wrap x5))) w6)) (x8,()) w5))
theorem zat(p0)(p1)(R)(w)(h:ZF p0 p1 R w):Calls Tryz.prog 93 #[.slice p0.a p0.l p0.c,.int .i64 p1] w (Ret R):=lwC ZH Tryz.func93 (by kernel_rfl) (by kernel_rfl) h
def zd2:Ann:=(.q (.seq none (.cond (.q (.q .nil)) .nil) (.q (.q .nil))))
def zdo(p0:Int)(p1:Int)(R:VWP)(w:World):Prop:=dZ 158 #[.int .u64 p0,.int .u64 p1] w λx2 x3 w1=>R (.tuple #[.int .u64 x2,.int .u64 x3]) w1
theorem zeQ(p0)(p1)(R)(w)(h:zdo p0 p1 R w):Calls Tryz.prog 122 #[.int .u64 p0,.int .u64 p1] w (Ret R):=lwC zd2 Tryz.func122 (by kernel_rfl) (by kernel_rfl) h
def zbO:Ann:=(.q (.q (.q (.q (.q (.q (.q (.q (.q (.q (.q (.q .nil))))))))))))
def Yp(p0:Int)(p1:Int)(R:VWP)(w:World):Prop:=R (.tuple #[.int .u64 (IntKind.u64.wrap ((IntKind.u64.wrap ((IntKind.u64.wrap ((Int.fdiv p0 (2 ^ (min 32 (IntKind.bits .u64))))*(Int.fdiv p1 (2 ^ (min 32 (IntKind.bits .u64))))))+(Int.fdiv (IntKind.u64.wrap ((IntKind.u64.wrap ((Int.fdiv p0 (2 ^ (min 32 (IntKind.bits .u64))))*(IntKind.u64.wrap (BitVec.toNat (BitVec.ofInt (IntKind.bits .u64) p1 &&& BitVec.ofInt (IntKind.bits .u64) 4294967295):Int))))+(Int.fdiv (IntKind.u64.wrap ((IntKind.u64.wrap (BitVec.toNat (BitVec.ofInt (IntKind.bits .u64) p0 &&& BitVec.ofInt (IntKind.bits .u64) 4294967295):Int))*(IntKind.u64.wrap (BitVec.toNat (BitVec.ofInt (IntKind.bits .u64) p1 &&& BitVec.ofInt (IntKind.bits .u64) 4294967295):Int)))) (2 ^ (min 32 (IntKind.bits .u64)))))) (2 ^ (min 32 (IntKind.bits .u64))))))+(Int.fdiv (IntKind.u64.wrap ((IntKind.u64.wrap (BitVec.toNat (BitVec.ofInt (IntKind.bits .u64) (IntKind.u64.wrap ((IntKind.u64.wrap ((Int.fdiv p0 (2 ^ (min 32 (IntKind.bits .u64))))*(IntKind.u64.wrap (BitVec.toNat (BitVec.ofInt (IntKind.bits .u64) p1 &&& BitVec.ofInt (IntKind.bits .u64) 4294967295):Int))))+(Int.fdiv (IntKind.u64.wrap ((IntKind.u64.wrap (BitVec.toNat (BitVec.ofInt (IntKind.bits .u64) p0 &&& BitVec.ofInt (IntKind.bits .u64) 4294967295):Int))*(IntKind.u64.wrap (BitVec.toNat (BitVec.ofInt (IntKind.bits .u64) p1 &&& BitVec.ofInt (IntKind.bits .u64) 4294967295):Int)))) (2 ^ (min 32 (IntKind.bits .u64)))))) &&& BitVec.ofInt (IntKind.bits .u64) 4294967295):Int))+(IntKind.u64.wrap ((IntKind.u64.wrap (BitVec.toNat (BitVec.ofInt (IntKind.bits .u64) p0 &&& BitVec.ofInt (IntKind.bits .u64) 4294967295):Int))*(Int.fdiv p1 (2 ^ (min 32 (IntKind.bits .u64)))))))) (2 ^ (min 32 (IntKind.bits .u64)))))),.int .u64 (IntKind.u64.wrap (p0*p1))]) w
theorem zdG(p0)(p1)(R)(w)(h:Yp p0 p1 R w):Calls Tryz.prog 158 #[.int .u64 p0,.int .u64 p1] w (Ret R):=lwC zbO Tryz.func158 (by kernel_rfl) (by kernel_rfl) h
end Go.Proofs
namespace Go.Proofs
open Go.Gk Go.RowKit
theorem zjQ{n:Nat}(hn:n<=65536):IntKind.u64.wrap (n:Int)=n:=by rw[IntKind.wrap_u64];omega
theorem zf7{n:Nat}(hn:n<=65536):((BitVec.toNat (BitVec.ofInt (IntKind.bits .u64) (n:Int) &&& BitVec.ofInt (IntKind.bits .u64) (4294967295:Int)):Nat):Int)=n:=by
 have h:(BitVec.ofInt 64 (n:Int) &&& BitVec.ofInt 64 (4294967295:Int)).toNat=n:=by
  rw[BitVec.toNat_and,BitVec.toNat_ofInt,BitVec.toNat_ofInt]
  have e1:((n:Int) % ((2 ^ 64:Nat):Int)).toNat=n:=by omega
  have e2:((4294967295:Int) % ((2 ^ 64:Nat):Int)).toNat=2 ^ 32-1:=by decide
  rw[e1,e2,Nat.and_two_pow_sub_one_eq_mod]
  omega
 exact congrArg Int.ofNat h
theorem zne{n:Nat}(hn:n<=65536){w:World}{R:VWP}(hR:R (.tuple #[.int .u64 0,.int .u64 (n:Int)]) w):cR 158 #[.int .u64 1,.int .u64 (n:Int)] w R:=by
 refine zc.of (zdG 1 n R w ?_) λ_ _ h=>h
 unfold Yp
 have e0:((2:Int) ^ (min 32 (IntKind.bits .u64)))=4294967296:=by decide
 have e1:Int.fdiv 1 4294967296=0:=by decide
 have e2:Int.fdiv (n:Int) 4294967296=0:=by rw[Int.fdiv_eq_ediv_of_nonneg _ (by decide)];omega
 have m1:((BitVec.toNat (BitVec.ofInt (IntKind.bits .u64) (1:Int) &&& BitVec.ofInt (IntKind.bits .u64) (4294967295:Int)):Nat):Int)=1:=zf7 (n:=1) (by decide)
 have m0:((BitVec.toNat (BitVec.ofInt (IntKind.bits .u64) (0:Int) &&& BitVec.ofInt (IntKind.bits .u64) (4294967295:Int)):Nat):Int)=0:=zf7 (n:=0) (by decide)
 have u0:IntKind.u64.wrap (0:Int)=0:=by decide
 have u1:IntKind.u64.wrap (1:Int)=1:=by decide
 have f0:Int.fdiv 0 4294967296=0:=by decide
 simp only[e0,e1,e2,zf7 hn,m1,zjQ hn,u0,u1,Int.zero_mul,Int.one_mul,Int.mul_zero,Int.add_zero,f0,m0]
 exact hR
theorem zkb{B:Nat}{w w':World}(h:Below B w w'){g:Nat}(hg:B<=g)(cs:Array Value):Below B w (w'.setRow g cs):=
 ⟨h.os,h.tape,h.output,by simpa[World.setRow] using h.size,λk hk=>(setRow_other w' g k cs (by omega)).trans (h.block k hk)⟩
theorem zju{w:World}{b o:Nat}{cs:List Value}(hD:Blk w b 3 cs){a:Addr}{dl dc sl sc:Nat}{news:List Value}(hn:news.length=Nat.min sl dl)(hsrc:∀j v,news[j]? =some v->w.cell? (a.add j)=some v)
  (hfit:o+news.length<=cs.length) (h1:∀v∈news,v.oneCell'=true) {k:Int->World->Prop}
  (hk:∀w',Blk w' b 3 (cs.take o++news++cs.drop (o+news.length))->(∀B w0,Below B w0 w->B<=b->Below B w0 w')->k (news.length:Int) w') :
  zoo Tryz.prog #[43,43] (.slice (some ⟨b,o,none⟩) dl dc) (.slice (some a) sl sc) w k:=by
 have hun:(Tryz.prog).underlying 43=some (.slice 3):=by kernel_rfl
 have hsz:((Tryz.prog).info? 3).map (·.size)=some 1:=by kernel_rfl
 have hc:=run_copy_row (P:=Tryz.prog) w 43 43 0 3 b o dl dc a sl sc cs.toArray 3 news hun hsz hD hn hsrc (by simpa using hfit) h1
 refine⟨_,_,hc,hk _ ?_ λB w0 hb hB=>zkb hb hB _⟩
 exact setRow_heap w b _ _ _ _ hD
set_option maxHeartbeats 1000000 in
theorem zkD{n:Nat}(hn:n<=65536)(hn1:1<=n){v:Int}{xb:Nat}{w:World}{R:VWP}(hx:Blk w xb 3 [.int .i64 v])
  (hR:∀b w',Blk w' b 3 (List.replicate n (.int .i64 v))->w.heap.size<=b->Below w.heap.size w w'->R (.slice (some (blk b)) n n) w') :
  cR 93 #[.slice (some (blk xb)) 1 1,.int .i64 (n:Int)] w R:=by
 refine zc.of (zat ⟨some (blk xb),1,1⟩ n R w ?_) λ_ _ h=>h
 refine zk.cut (λ_ w'=>w'=w) (zg (λh=>by omega) λ_=>rfl) ?_
 rintro _ _ rfl
 rename_i w
 have e1:IntKind.u64.wrap (((1:Nat):Nat):Int)=1:=by decide
 dsimp only
 rw[e1,zjQ hn]
 refine zc.of (zeQ 1 n _ w ?_) λ_ _ h=>h
 refine zne hn ⟨0,n,rfl,0,n,rfl,?_⟩
 refine zk.cut (λ_ w'=>w'=w) (zg (λh=>absurd h (by decide)) λ_=>zg (λh=>absurd h (by omega)) λ_=>rfl) ?_
 rintro _ _ rfl
 rename_i w
 have e2:IntKind.i64.wrap (n:Int)=n:=zy (by omega) (by omega)
 rw[e2]
 refine⟨⟨by omega,by omega,by omega,by omega⟩,Nw.gen λw4 hw4=>?_⟩
 obtain⟨z,hz⟩:∃z,z=Value.int .i64 0:=⟨_,rfl⟩
 obtain⟨u,hu⟩:∃u,u=Value.int .i64 v:=⟨_,rfl⟩
 have hu1:u.oneCell'=true:=by rw[hu];rfl
 dsimp only[zB,Go.Gk.Sl.zw,zi,zu,zb,zh]at hw4;rw[<-hz]at hw4
 rw[<-hu]at hx hR
 have hD4:Blk w4 w.heap.size 3 (List.replicate n z):=by rw[hw4];exact Blk.made w 3 z n
 have b4:Below w.heap.size w w4:=by rw[hw4];exact(Below.refl _ _).alloc (Nat.le_refl _) _
 have hx4:=hx.below b4
 have tn:Int.toNat ((n:Nat):Int)=n:=rfl
 rw[tn]
 refine zju hD4 (o:=0) (news:=[u]) (by simp[Nat.min_def];omega) (λj x hj=>by
   cases j with
   |zero=>simp at hj;subst hj;exact hx4.cell rfl
   |succ j=>simp at hj) (by simp;omega) (by simpa using hu1) λw5 hD5 hb5=>?_
 have hb5:=hb5 _ _ b4 (Nat.le_refl _)
 have hD5':Blk w5 w.heap.size 3 (List.replicate 1 u++List.replicate (n-1) z):=by
  simpa using hD5
 clear hD5 hD4 hx4 hw4
 refine zj.ghost (λj st w'=>∃m:Nat,1<=m/\m<=n/\j=n-m/\st=((m:Int),())/\Below w.heap.size w w'/\Blk w' w.heap.size 3 (List.replicate m u++List.replicate (n-m) z)) (n-1)
  ⟨1,Nat.le_refl _,hn1,rfl,rfl,hb5,hD5'⟩ ?_
 rintro _ _ w6 ⟨m,hm1,hmn,rfl,rfl,hb,hD⟩ next hnext
 refine zg (λhlt=>?_) (λhge=>?_)
 ·have hlt:m<n:=by dsimp only at hlt;omega
  have tm:Int.toNat ((m:Nat):Int)=m:=rfl
  refine⟨⟨by first |omega | (dsimp only;omega),by first |omega | (dsimp only;omega),by omega⟩,⟨by omega,by first |omega | (dsimp only;omega),by first |omega | (dsimp only;omega)⟩,?_⟩
  dsimp only
  rw[tm,if_neg (by omega:¬n=m),if_neg (by omega:¬n=0)]
  simp only[Option.map_some,Nat.sub_zero]
  have ea:(blk w.heap.size).add m=⟨w.heap.size,m,none⟩:=by rw[zew]
  have e0:(blk w.heap.size).add 0=blk w.heap.size:=by rw[zew]
  rw[ea,e0]
  obtain⟨q,hq⟩:∃q,q=Nat.min m (n-m):=⟨_,rfl⟩
  have hq1:1<=q/\q<=n-m/\q<=m:=by rw[hq];simp only[Nat.min_def];split<;>omega
  have hD':=hD.drew
  refine zju hD' (o:=m) (news:=List.replicate q u) (by rw[List.length_replicate,hq]) (λj x hj=>by
    have hj':j<q:=by have:=(List.getElem?_eq_some_iff.1 hj).1;simpa using this
    rw[List.getElem?_replicate,if_pos hj']at hj
    cases hj
    refine hD'.cell ?_
    rw[List.getElem?_append_left (by simp;omega),List.getElem?_replicate,if_pos (by omega)]) (by simp;omega) (λx hx=>by
    rw[List.eq_of_mem_replicate hx];exact hu1) λw7 hD7 hb7=>?_
  rw[List.length_replicate]at hD7⊢
  rw[show IntKind.i64.wrap ((m:Int)+(q:Int))=((m+q:Nat):Int) by rw[zy (by omega) (by omega)];omega]
  refine hnext (n-(m+q)) _ _ (by omega) ⟨m+q,by omega,by omega,rfl,rfl,hb7 _ _ hb.drew (Nat.le_refl _),?_⟩
  have:(List.replicate m u++List.replicate (n-m) z).take m++List.replicate q u++(List.replicate m u++List.replicate (n-m) z).drop (m+q)=List.replicate (m+q) u++List.replicate (n-(m+q)) z:=by
   rw[List.take_left' (by simp),List.drop_append,List.drop_replicate,List.drop_replicate,List.length_replicate,List.replicate_append_replicate]
   simp
   omega
  rw[<-this]
  exact hD7
 ·have:m=n:=by dsimp only at hge;omega
  subst this
  refine hR w.heap.size w6 ?_ (Nat.le_refl _) hb
  simpa using hD
end Go.Proofs
namespace Go.Proofs
open Go.Gk Go.RowKit Go.Gm
def KeyN(L:List (Int×Int)):Prop:=(L.map (·.1)).Nodup
theorem zlb(k v:Int):∀L:List (Int×Int),(setL L k v).map (·.1)=L.map (·.1)\/((setL L k v).map (·.1)=L.map (·.1)++[k]/\k ∉ L.map (·.1))
 | []=>.inr ⟨rfl,by simp⟩
 |p::r=>by
  simp only[setL]
  split
  ·rename_i e
   left
   simp[e]
  ·rename_i e
   rcases zlb k v r with h | ⟨h1,h2⟩
   ·left
    simp[h]
   ·right
    refine⟨by simp[h1],?_⟩
    rw[List.map_cons,List.mem_cons,not_or]
    exact⟨e,h2⟩
theorem KeyN.set{L:List (Int×Int)}(h:KeyN L)(k v:Int):KeyN (setL L k v):=by
 unfold KeyN at h⊢
 rcases zlb k v L with e | ⟨e,hk⟩
 ·rw[e];exact h
 ·rw[e]
  refine List.nodup_append.2 ⟨h,by simp,?_⟩
  intro a ha b hb e'
  rw[List.mem_singleton]at hb
  rw[e',hb]at ha
  exact hk ha
def mk1(pl:List PI)(id:Int)(k:Nat):Bool:=(pl.getD k pi0).2.2.1==id&&id !=0
def ya(pl:List PI)(id:Int)(n:Nat):Int:=match (List.range n).find? (mk1 pl id) with
 |some k=>(k:Int)
 |none=>-1
def MkOk(L:List (Int×Int))(pl:List PI)(k:Nat):Prop:=∀id,(zL L id=none->∀j,k<=j->j<pl.length->mk1 pl id j=false)/\
 ∀v,zL L id=some v->∃j:Nat,v=(j:Int)/\k<=j/\j<pl.length/\mk1 pl id j=true/\∀i,k<=i->i<j->mk1 pl id i=false
theorem MkOk.end(pl:List PI):MkOk [] pl pl.length:=λ_=>⟨λ_ j h1 h2=>by omega,λv h=>by cases h⟩
theorem MkOk.step{L:List (Int×Int)}{pl:List PI}{k:Nat}(h:MkOk L pl (k+1))(hk:k<pl.length):MkOk (if pl[k].2.2.1≠0 then setL L pl[k].2.2.1 k else L) pl k:=by
 have hm:∀id,mk1 pl id k=(pl[k].2.2.1==id&&id !=0):=λid=>by unfold mk1;rw[zt hk]
 intro id
 obtain⟨h1,h2⟩:=h id
 by_cases e0:pl[k].2.2.1=0
 ·rw[if_neg (λh=>h e0)]
  have hf:mk1 pl id k=false:=by
   rw[hm,e0]
   by_cases e:id=0
   ·rw[e];rfl
   ·rw[beq_eq_false_iff_ne.2 (λh=>e h.symm),Bool.false_and]
  refine⟨λhn j g1 g2=>?_,λv hv=>?_⟩
  ·by_cases e:j=k
   ·subst e;exact hf
   ·exact h1 hn j (by omega) g2
  ·obtain⟨j,q1,q2,q3,q4,q5⟩:=h2 v hv
   refine⟨j,q1,by omega,q3,q4,λi g1 g2=>?_⟩
   by_cases e:i=k
   ·subst e;exact hf
   ·exact q5 i (by omega) g2
 ·rw[if_pos e0,zhj]
  by_cases e:id=pl[k].2.2.1
  ·rw[if_pos e]
   refine⟨λhn=>by(cases hn),λv hv=>⟨k,(Option.some.inj hv).symm,Nat.le_refl _,hk,?_,λi g1 g2=>by omega⟩⟩
   rw[hm,e]
   simp[e0]
  ·rw[if_neg e]
   have hf:mk1 pl id k=false:=by rw[hm,beq_eq_false_iff_ne.2 (λh=>e h.symm),Bool.false_and]
   refine⟨λhn j g1 g2=>?_,λv hv=>?_⟩
   ·by_cases e:j=k
    ·subst e;exact hf
    ·exact h1 hn j (by omega) g2
   ·obtain⟨j,q1,q2,q3,q4,q5⟩:=h2 v hv
    refine⟨j,q1,by omega,q3,q4,λi g1 g2=>?_⟩
    by_cases e:i=k
    ·subst e;exact hf
    ·exact q5 i (by omega) g2
theorem zgG:Tryz.prog.underlying 88=some (.map 22 3):=by kernel_rfl
theorem zid{y:Value}{s:Sl}{pl:List PI}{pb:Nat}{w:World}(Inv:Nat->World->Prop)(S:World->Prop)(h0:Inv pl.length w)
  (hkeep:∀k w',Inv k w'->w'.cell? (blk pb)=some (.slice s.a s.l s.c)/\IsPl w' s pl)
  (hround:∀k (hk:k<pl.length) t w',Inv (k+1) w'->Zv Tryz.prog Tryz.fs y [.int .i64 (k:Int),inA (mkIn pl[k] t)] w' λv w''=>(v =.bool true/\Inv k w'')\/(v =.bool false/\S w''))
  (hend:∀w',Inv 0 w'->S w'):Calls Tryz.prog 141 #[y,.pointer (some (blk pb))] w (Ret λ_ w'=>S w'):=by
 refine Zc y (blk pb) _ w ⟨s,(hkeep _ _ h0).1,?_⟩
 have hlen:=(hkeep _ _ h0).2.len
 have hmax:=(hkeep _ _ h0).2.bound
 dsimp only
 rw[hlen,zy (by omega) (by omega)]
 refine zj.ghost (λj st w'=>j<=pl.length/\st=((j:Int)-1,())/\Inv j w') pl.length ⟨Nat.le_refl _,rfl,h0⟩ ?_
 rintro k _ w1 ⟨hk,rfl,hI⟩ next hnext
 refine zg (λh=>?_) (λh=>?_)
 ·obtain⟨j,rfl⟩:∃j,k=j+1:=⟨k-1,by dsimp only at h;omega⟩
  have hlt:j<pl.length:=by omega
  obtain⟨c1,c2⟩:=hkeep _ _ hI
  have ej:(((j+1:Nat):Int)-1)=(j:Int):=by omega
  dsimp only
  rw[ej]
  refine⟨s,c1,zbV c2 hlt λt _=>?_⟩
  refine Zv.mono (hround j hlt t w1 hI) λv w2 hv=>?_
  rcases hv with⟨rfl,hv⟩ | ⟨rfl,hv⟩
  ·refine⟨true,rfl,zz rfl ?_⟩
   rw[zy (by omega) (by omega)]
   exact hnext j _ _ (by omega) ⟨by omega,rfl,hv⟩
  ·exact⟨false,rfl,zH rfl hv⟩
 ·have hk0:k=0:=by dsimp only at h;omega
  subst hk0
  exact hend w1 hI
theorem zlk{s:Sl}{pl:List PI}{w:World}{R:VWP}(hN:IsPl w s pl)
  (hR:∀w' L,IsMp w' w.heap.size .i64 L->MkOk L pl 0->KeyN L->Below w.heap.size w w'->R (.map (some w.heap.size)) w'):cR 68 #[.slice s.a s.l s.c] w R:=by
 refine zc.of (zhe s R w ?_) λ_ _ h=>h
 refine Nw.gen λw1 e1=>?_
 have m1:IsMp w1 w.heap.size .i64 []:=by rw[e1];exact IsMp.new _ _
 have b1:Below w.heap.size w w1:=by rw[e1];exact(Below.refl _ _).alloc (Nat.le_refl _) _
 have z1:w1.heap.size=w.heap.size+1:=by rw[e1];simp
 clear e1
 refine Nw.gen λw2 e2=>?_
 have hB2:Blk w2 w1.heap.size 88 [.map none]:=by rw[e2];exact Blk.new _ _ _
 have b2:Below w1.heap.size w1 w2:=by rw[e2];exact(Below.refl _ _).alloc (Nat.le_refl _) _
 have z2:w2.heap.size=w.heap.size+2:=by rw[e2];simp[z1]
 clear e2
 refine⟨hB2.wr0 (by simp),Nw.gen λw3 e3=>?_⟩
 have c3:Chg w1.heap.size w2 w3:=by rw[e3];exact Chg.set w1.heap.size 0 w2 _
 have hB3:Blk w3 w1.heap.size 88 [.map (some w.heap.size)]:=by rw[e3];exact hB2.set0 _
 clear e3
 have m3:=(m1.below b2).of_block (c3.block _ (by omega))
 have hb3:Below w.heap.size w w3:=c3.below (b1.on b2) (by omega)
 have z3:=c3.size
 refine zc.of (Zt s _ w3 ?_) λ_ _ h=>h
 refine zl λw4 hC4 b4 z4=>⟨_,rfl,?_⟩
 have hC4:Blk w4 w3.heap.size 23 [.slice s.a s.l s.c]:=hC4
 intro mk hy
 have hcf:Tryz.fs.contains 141=true:=by kernel_rfl
 unfold zjs
 simp only[hcf]
 generalize hw5:((w4.alloc (.deferred (some []))).alloc (mk .ready none))=w5
 have b5:Below w4.heap.size w4 w5:=by rw[<-hw5];exact zbo w4 _ _
 have hd5:w5.heap[w4.heap.size]? =some (.deferred (some [])):=by rw[<-hw5];exact zkn w4 _ _
 have hl5:w5.heap[w4.heap.size+1]? =some (mk .ready none):=by rw[<-hw5];exact zko w4 _ _
 clear hw5
 have b35:=b4.on b5
 refine zid (y:=.func (.yield (w4.heap.size+1)) #[] #[]) (s:=s) (pl:=pl)
  (λk w'=>w'.heap[w4.heap.size+1]? =some (mk .ready none)/\w'.heap[w4.heap.size]? =some (.deferred (some []))/\Blk w' w1.heap.size 88 [.map (some w.heap.size)]/\Blk w' w3.heap.size 23 [.slice s.a s.l s.c]/\Below w.heap.size w w'/\
   ∃L,IsMp w' w.heap.size .i64 L/\MkOk L pl k/\KeyN L) _
  ⟨hl5,hd5,hB3.below b35,hC4.below b5,hb3.on b35,[],m3.below b35,MkOk.end pl,by simp[KeyN]⟩ ?_ ?_ ?_
 ·rintro k w' ⟨h1,h2,h3,h4,h5,_⟩
  exact⟨h4.cell0 rfl,hN.below h5⟩
 ·rintro k hk t w' ⟨h1,h2,h3,h4,h5,L,h6,h7,h8⟩
  have hlt':w4.heap.size+1<w'.heap.size:=(Array.getElem?_eq_some_iff.1 h1).1
  refine hy ((k:Int),mkIn pl[k] t,()) w' _ h1 ?_
  refine box4 rfl λw6 hI6 b6 z6=>?_
  have hI6:Blk w6 w'.heap.size 50 (inV (mkIn pl[k] t)):=hI6
  have hl6:w6.heap[w4.heap.size+1]? =some (mk .ready none):=(b6.block _ hlt').trans h1
  refine⟨hl6,Nw.gen λw7 e7=>?_⟩
  have s6:=b6.size
  have hlt6:w4.heap.size+1<w6.heap.size:=by omega
  have ho7:∀b,b≠w4.heap.size+1->w7.heap[b]? =w6.heap[b]?:=λb hb=>by rw[e7];exact World.putObj_heap_other hb
  have z7:w7.heap.size=w6.heap.size:=by rw[e7];simp
  have hl7:w7.heap[w4.heap.size+1]? =some (mk .busy none):=by rw[e7];exact zbs hlt6 _
  have hb7:Below w.heap.size w w7:=by rw[e7];exact(h5.on b6).putObj (by omega) _
  clear e7
  have d7:w7.heap[w4.heap.size]? =some (.deferred (some [])):=by rw[ho7 _ (by omega),b6.block _ (by omega)];exact h2
  have k3:=(h3.below b6).of_block (ho7 _ (by have:=b4.size;omega))
  have k4:=(h4.below b6).of_block (ho7 _ (by omega))
  have k6:=(h6.below b6).of_block (ho7 _ (by omega))
  have kI:=hI6.of_block (ho7 _ (by omega))
  have hst:=h7.step hk
  have hput:∀{w8:World},w8.heap[w4.heap.size+1]? =some (mk .busy none)->w4.heap.size+1<w8.heap.size:=λh=>(Array.getElem?_eq_some_iff.1 h).1
  refine kI.rI (n:=2) rfl (zE (λe=>?_) (λe=>?_))
  ·have e':pl[k].2.2.1≠0:=e
   rw[if_pos e']at hst
   refine k3.rM0 rfl (kI.rI (n:=2) rfl ?_)
   refine zna zgG uU32 k6 λw8 m8 c8=>?_
   have hl8:w8.heap[w4.heap.size+1]? =some (mk .busy none):=by rw[c8.block _ (by omega)];exact hl7
   refine⟨hl8,.inl ⟨rfl,zbs (hput hl8) _,?_,?_,?_,?_,_,?_,hst,h8.set _ _⟩⟩
   ·rw[World.putObj_heap_other (by omega),c8.block _ (by omega)];exact d7
   ·exact(c8.blk k3 (by omega)).put (by omega) _
   ·exact(c8.blk k4 (by omega)).put (by omega) _
   ·exact(c8.below hb7 (Nat.le_refl _)).putObj (by omega) _
   ·exact m8.of_block (World.putObj_heap_other (by omega))
  ·have e':¬pl[k].2.2.1≠0:=λh=>h e
   rw[if_neg e']at hst
   refine⟨hl7,.inl ⟨rfl,zbs (by omega) _,?_,?_,?_,?_,L,?_,hst,h8⟩⟩
   ·rw[World.putObj_heap_other (by omega)];exact d7
   ·exact k3.put (by omega) _
   ·exact k4.put (by omega) _
   ·exact hb7.putObj (by omega) _
   ·exact k6.of_block (World.putObj_heap_other (by omega))
 ·rintro w' ⟨h1,h2,h3,h4,h5,L,h6,h7,h8⟩
  refine⟨h1,?_⟩
  have k3:=h3.put (l:=w4.heap.size+1) (by omega) (mk .exhausted none)
  refine k3.rM0 rfl (zbh (by rw[World.putObj_heap_other (by omega)];exact h2) ?_)
  refine hR _ L ?_ h7 h8 ?_
  ·exact(h6.of_block (World.putObj_heap_other (by omega))).of_block (World.putObj_heap_other (by omega))
  ·exact(h5.putObj (by omega) _).putObj (by omega) _
end Go.Proofs
namespace Go.Proofs
open Go.Gk Go.RowKit Go.Gm
theorem zgF(w:World)(r:Nat)(o:Obj):Chg r w (ChangeMaps.setBlock w r o):=
 ⟨rfl,rfl,rfl,by simp[ChangeMaps.setBlock],λk hk=>by simp[ChangeMaps.setBlock,Array.getElem?_setIfInBounds_ne (Ne.symm hk)]⟩
section
variable {x:Mo} {pl:List PI} {w:World} {R:VWP}
theorem zjf(hp:PlOk pl)(h0:0<=x.2.1)(hs:(zK x.2.1 pl).1=0):∀p∈pl,0<=p.2.2.1/\p.2.2.1<x.2.1:=by
 obtain⟨nb,hf⟩:=zam hs
 intro p hpm
 obtain⟨i,hi,rfl⟩:=List.mem_iff_getElem.1 hpm
 have:=(zjx (hf i hi) (by omega) (by have:=hp.nums _ (List.getElem_mem hi);exact⟨this.1.1,this.2.1.1,λa ha=>(this.2.2 a ha).1⟩)).1 pl[i].2.2.1 (by unfold allI;simp)
 exact this
end
end Go.Proofs
namespace Go.Proofs
open Go.Gk Go.RowKit Go.Gm
abbrev T20:=Int×Int×Int×Int×Int×Int×Int×Int×Int×Int×Int×Int×Int×Int×Int×Int×Int×Int×Int×Int×Unit
abbrev l20(x:T20):List Int:=[x.1,x.2.1,x.2.2.1,x.2.2.2.1,x.2.2.2.2.1,x.2.2.2.2.2.1,x.2.2.2.2.2.2.1,x.2.2.2.2.2.2.2.1,x.2.2.2.2.2.2.2.2.1,x.2.2.2.2.2.2.2.2.2.1,x.2.2.2.2.2.2.2.2.2.2.1,x.2.2.2.2.2.2.2.2.2.2.2.1,x.2.2.2.2.2.2.2.2.2.2.2.2.1,x.2.2.2.2.2.2.2.2.2.2.2.2.2.1,x.2.2.2.2.2.2.2.2.2.2.2.2.2.2.1,x.2.2.2.2.2.2.2.2.2.2.2.2.2.2.2.1,x.2.2.2.2.2.2.2.2.2.2.2.2.2.2.2.2.1,x.2.2.2.2.2.2.2.2.2.2.2.2.2.2.2.2.2.1,x.2.2.2.2.2.2.2.2.2.2.2.2.2.2.2.2.2.2.1,x.2.2.2.2.2.2.2.2.2.2.2.2.2.2.2.2.2.2.2.1]
abbrev sp20(x:T20):List Value:=[.int .i64 x.1,.int .i64 x.2.1,.int .i64 x.2.2.1,.int .i64 x.2.2.2.1,.int .i64 x.2.2.2.2.1,.int .i64 x.2.2.2.2.2.1,.int .i64 x.2.2.2.2.2.2.1,.int .i64 x.2.2.2.2.2.2.2.1,.int .i64 x.2.2.2.2.2.2.2.2.1,.int .i64 x.2.2.2.2.2.2.2.2.2.1,.int .i64 x.2.2.2.2.2.2.2.2.2.2.1,.int .i64 x.2.2.2.2.2.2.2.2.2.2.2.1,.int .i64 x.2.2.2.2.2.2.2.2.2.2.2.2.1,.int .i64 x.2.2.2.2.2.2.2.2.2.2.2.2.2.1,.int .i64 x.2.2.2.2.2.2.2.2.2.2.2.2.2.2.1,.int .i64 x.2.2.2.2.2.2.2.2.2.2.2.2.2.2.2.1,.int .i64 x.2.2.2.2.2.2.2.2.2.2.2.2.2.2.2.2.1,.int .i64 x.2.2.2.2.2.2.2.2.2.2.2.2.2.2.2.2.2.1,.int .i64 x.2.2.2.2.2.2.2.2.2.2.2.2.2.2.2.2.2.2.1,.int .i64 x.2.2.2.2.2.2.2.2.2.2.2.2.2.2.2.2.2.2.2.1]
abbrev ag20(x:T20):Value:=.agg #[.int .i64 x.1,.int .i64 x.2.1,.int .i64 x.2.2.1,.int .i64 x.2.2.2.1,.int .i64 x.2.2.2.2.1,.int .i64 x.2.2.2.2.2.1,.int .i64 x.2.2.2.2.2.2.1,.int .i64 x.2.2.2.2.2.2.2.1,.int .i64 x.2.2.2.2.2.2.2.2.1,.int .i64 x.2.2.2.2.2.2.2.2.2.1,.int .i64 x.2.2.2.2.2.2.2.2.2.2.1,.int .i64 x.2.2.2.2.2.2.2.2.2.2.2.1,.int .i64 x.2.2.2.2.2.2.2.2.2.2.2.2.1,.int .i64 x.2.2.2.2.2.2.2.2.2.2.2.2.2.1,.int .i64 x.2.2.2.2.2.2.2.2.2.2.2.2.2.2.1,.int .i64 x.2.2.2.2.2.2.2.2.2.2.2.2.2.2.2.1,.int .i64 x.2.2.2.2.2.2.2.2.2.2.2.2.2.2.2.2.1,.int .i64 x.2.2.2.2.2.2.2.2.2.2.2.2.2.2.2.2.2.1,.int .i64 x.2.2.2.2.2.2.2.2.2.2.2.2.2.2.2.2.2.2.1,.int .i64 x.2.2.2.2.2.2.2.2.2.2.2.2.2.2.2.2.2.2.2.1]
theorem zqF{ps:List Int}(h:ps.length=20):∃x:T20,ps=l20 x:=by
 match ps,h with
 | [a0,a1,a2,a3,a4,a5,a6,a7,a8,a9,a10,a11,a12,a13,a14,a15,a16,a17,a18,a19],_=>exact⟨(a0,a1,a2,a3,a4,a5,a6,a7,a8,a9,a10,a11,a12,a13,a14,a15,a16,a17,a18,a19,()),rfl⟩
theorem _root_.Go.Gk.Blk.rI2{w:World}{b:Nat}{T:TypeId}{cs:List Value}(h:Blk w b T cs){m n:Nat}{κ:IntKind}{x:Int}(hn:cs[m+n]? =some (.int κ x)){φ:Int->Prop}(hφ:φ x):ldI w (((Gk.blk b).add m).add n) κ φ:=by
 rw[zs];exact h.rI hn hφ
theorem ld20{w:World}{b:Nat}{T:TypeId}{x:T20}(h:Blk w b T (sp20 x)){φ:Int->Int->Int->Int->Int->Int->Int->Int->Int->Int->Int->Int->Int->Int->Int->Int->Int->Int->Int->Int->Prop}(hφ:φ x.1 x.2.1 x.2.2.1 x.2.2.2.1 x.2.2.2.2.1 x.2.2.2.2.2.1 x.2.2.2.2.2.2.1 x.2.2.2.2.2.2.2.1 x.2.2.2.2.2.2.2.2.1 x.2.2.2.2.2.2.2.2.2.1 x.2.2.2.2.2.2.2.2.2.2.1 x.2.2.2.2.2.2.2.2.2.2.2.1 x.2.2.2.2.2.2.2.2.2.2.2.2.1 x.2.2.2.2.2.2.2.2.2.2.2.2.2.1 x.2.2.2.2.2.2.2.2.2.2.2.2.2.2.1 x.2.2.2.2.2.2.2.2.2.2.2.2.2.2.2.1 x.2.2.2.2.2.2.2.2.2.2.2.2.2.2.2.2.1 x.2.2.2.2.2.2.2.2.2.2.2.2.2.2.2.2.2.1 x.2.2.2.2.2.2.2.2.2.2.2.2.2.2.2.2.2.2.1 x.2.2.2.2.2.2.2.2.2.2.2.2.2.2.2.2.2.2.2.1) :
   ldI w ((blk b).add 0) .i64 λx0=>
   ldI w ((blk b).add 1) .i64 λx1=>
   ldI w ((blk b).add 2) .i64 λx2=>
   ldI w ((blk b).add 3) .i64 λx3=>
   ldI w ((blk b).add 4) .i64 λx4=>
   ldI w ((blk b).add 5) .i64 λx5=>
   ldI w ((blk b).add 6) .i64 λx6=>
   ldI w ((blk b).add 7) .i64 λx7=>
   ldI w ((blk b).add 8) .i64 λx8=>
   ldI w ((blk b).add 9) .i64 λx9=>
   ldI w ((blk b).add 10) .i64 λx10=>
   ldI w ((blk b).add 11) .i64 λx11=>
   ldI w ((blk b).add 12) .i64 λx12=>
   ldI w ((blk b).add 13) .i64 λx13=>
   ldI w ((blk b).add 14) .i64 λx14=>
   ldI w ((blk b).add 15) .i64 λx15=>
   ldI w ((blk b).add 16) .i64 λx16=>
   ldI w ((blk b).add 17) .i64 λx17=>
   ldI w ((blk b).add 18) .i64 λx18=>
   ldI w ((blk b).add 19) .i64 λx19=>
   φ x0 x1 x2 x3 x4 x5 x6 x7 x8 x9 x10 x11 x12 x13 x14 x15 x16 x17 x18 x19:=
 h.rI (n:=0) rfl (h.rI (n:=1) rfl (h.rI (n:=2) rfl (h.rI (n:=3) rfl (h.rI (n:=4) rfl (h.rI (n:=5) rfl (h.rI (n:=6) rfl (h.rI (n:=7) rfl (h.rI (n:=8) rfl (h.rI (n:=9) rfl (h.rI (n:=10) rfl (h.rI (n:=11) rfl (h.rI (n:=12) rfl (h.rI (n:=13) rfl (h.rI (n:=14) rfl (h.rI (n:=15) rfl (h.rI (n:=16) rfl (h.rI (n:=17) rfl (h.rI (n:=18) rfl (h.rI (n:=19) rfl (hφ))))))))))))))))))))
theorem zqX{w:World}{b:Nat}{T:TypeId}{v0 v1:Value}{r:List Value}{x:T20}(h:Blk w b T (v0::v1::(sp20 x++r))){φ:Int->Int->Int->Int->Int->Int->Int->Int->Int->Int->Int->Int->Int->Int->Int->Int->Int->Int->Int->Int->Prop}(hφ:φ x.1 x.2.1 x.2.2.1 x.2.2.2.1 x.2.2.2.2.1 x.2.2.2.2.2.1 x.2.2.2.2.2.2.1 x.2.2.2.2.2.2.2.1 x.2.2.2.2.2.2.2.2.1 x.2.2.2.2.2.2.2.2.2.1 x.2.2.2.2.2.2.2.2.2.2.1 x.2.2.2.2.2.2.2.2.2.2.2.1 x.2.2.2.2.2.2.2.2.2.2.2.2.1 x.2.2.2.2.2.2.2.2.2.2.2.2.2.1 x.2.2.2.2.2.2.2.2.2.2.2.2.2.2.1 x.2.2.2.2.2.2.2.2.2.2.2.2.2.2.2.1 x.2.2.2.2.2.2.2.2.2.2.2.2.2.2.2.2.1 x.2.2.2.2.2.2.2.2.2.2.2.2.2.2.2.2.2.1 x.2.2.2.2.2.2.2.2.2.2.2.2.2.2.2.2.2.2.1 x.2.2.2.2.2.2.2.2.2.2.2.2.2.2.2.2.2.2.2.1) :
   ldI w (((blk b).add 2).add 0) .i64 λx0=>
   ldI w (((blk b).add 2).add 1) .i64 λx1=>
   ldI w (((blk b).add 2).add 2) .i64 λx2=>
   ldI w (((blk b).add 2).add 3) .i64 λx3=>
   ldI w (((blk b).add 2).add 4) .i64 λx4=>
   ldI w (((blk b).add 2).add 5) .i64 λx5=>
   ldI w (((blk b).add 2).add 6) .i64 λx6=>
   ldI w (((blk b).add 2).add 7) .i64 λx7=>
   ldI w (((blk b).add 2).add 8) .i64 λx8=>
   ldI w (((blk b).add 2).add 9) .i64 λx9=>
   ldI w (((blk b).add 2).add 10) .i64 λx10=>
   ldI w (((blk b).add 2).add 11) .i64 λx11=>
   ldI w (((blk b).add 2).add 12) .i64 λx12=>
   ldI w (((blk b).add 2).add 13) .i64 λx13=>
   ldI w (((blk b).add 2).add 14) .i64 λx14=>
   ldI w (((blk b).add 2).add 15) .i64 λx15=>
   ldI w (((blk b).add 2).add 16) .i64 λx16=>
   ldI w (((blk b).add 2).add 17) .i64 λx17=>
   ldI w (((blk b).add 2).add 18) .i64 λx18=>
   ldI w (((blk b).add 2).add 19) .i64 λx19=>
   φ x0 x1 x2 x3 x4 x5 x6 x7 x8 x9 x10 x11 x12 x13 x14 x15 x16 x17 x18 x19:=
 h.rI2 (m:=2) (n:=0) rfl (h.rI2 (m:=2) (n:=1) rfl (h.rI2 (m:=2) (n:=2) rfl (h.rI2 (m:=2) (n:=3) rfl (h.rI2 (m:=2) (n:=4) rfl (h.rI2 (m:=2) (n:=5) rfl (h.rI2 (m:=2) (n:=6) rfl (h.rI2 (m:=2) (n:=7) rfl (h.rI2 (m:=2) (n:=8) rfl (h.rI2 (m:=2) (n:=9) rfl (h.rI2 (m:=2) (n:=10) rfl (h.rI2 (m:=2) (n:=11) rfl (h.rI2 (m:=2) (n:=12) rfl (h.rI2 (m:=2) (n:=13) rfl (h.rI2 (m:=2) (n:=14) rfl (h.rI2 (m:=2) (n:=15) rfl (h.rI2 (m:=2) (n:=16) rfl (h.rI2 (m:=2) (n:=17) rfl (h.rI2 (m:=2) (n:=18) rfl (h.rI2 (m:=2) (n:=19) rfl (hφ))))))))))))))))))))
theorem st20{b:Nat}{T:TypeId}{cs:List Value}{x:T20}{K:World->Prop}{w:World}(hB:Blk w b T cs)(hl:cs.length=20)(hK:∀w',Blk w' b T (sp20 x)->Chg b w w'->K w') :
   Wr w (blk b)/\Nw (w.setCell (blk b) (.int .i64 x.1)) λu0=>
   Wr u0 ((blk b).add 1)/\Nw (u0.setCell ((blk b).add 1) (.int .i64 x.2.1)) λu1=>
   Wr u1 ((blk b).add 2)/\Nw (u1.setCell ((blk b).add 2) (.int .i64 x.2.2.1)) λu2=>
   Wr u2 ((blk b).add 3)/\Nw (u2.setCell ((blk b).add 3) (.int .i64 x.2.2.2.1)) λu3=>
   Wr u3 ((blk b).add 4)/\Nw (u3.setCell ((blk b).add 4) (.int .i64 x.2.2.2.2.1)) λu4=>
   Wr u4 ((blk b).add 5)/\Nw (u4.setCell ((blk b).add 5) (.int .i64 x.2.2.2.2.2.1)) λu5=>
   Wr u5 ((blk b).add 6)/\Nw (u5.setCell ((blk b).add 6) (.int .i64 x.2.2.2.2.2.2.1)) λu6=>
   Wr u6 ((blk b).add 7)/\Nw (u6.setCell ((blk b).add 7) (.int .i64 x.2.2.2.2.2.2.2.1)) λu7=>
   Wr u7 ((blk b).add 8)/\Nw (u7.setCell ((blk b).add 8) (.int .i64 x.2.2.2.2.2.2.2.2.1)) λu8=>
   Wr u8 ((blk b).add 9)/\Nw (u8.setCell ((blk b).add 9) (.int .i64 x.2.2.2.2.2.2.2.2.2.1)) λu9=>
   Wr u9 ((blk b).add 10)/\Nw (u9.setCell ((blk b).add 10) (.int .i64 x.2.2.2.2.2.2.2.2.2.2.1)) λu10=>
   Wr u10 ((blk b).add 11)/\Nw (u10.setCell ((blk b).add 11) (.int .i64 x.2.2.2.2.2.2.2.2.2.2.2.1)) λu11=>
   Wr u11 ((blk b).add 12)/\Nw (u11.setCell ((blk b).add 12) (.int .i64 x.2.2.2.2.2.2.2.2.2.2.2.2.1)) λu12=>
   Wr u12 ((blk b).add 13)/\Nw (u12.setCell ((blk b).add 13) (.int .i64 x.2.2.2.2.2.2.2.2.2.2.2.2.2.1)) λu13=>
   Wr u13 ((blk b).add 14)/\Nw (u13.setCell ((blk b).add 14) (.int .i64 x.2.2.2.2.2.2.2.2.2.2.2.2.2.2.1)) λu14=>
   Wr u14 ((blk b).add 15)/\Nw (u14.setCell ((blk b).add 15) (.int .i64 x.2.2.2.2.2.2.2.2.2.2.2.2.2.2.2.1)) λu15=>
   Wr u15 ((blk b).add 16)/\Nw (u15.setCell ((blk b).add 16) (.int .i64 x.2.2.2.2.2.2.2.2.2.2.2.2.2.2.2.2.1)) λu16=>
   Wr u16 ((blk b).add 17)/\Nw (u16.setCell ((blk b).add 17) (.int .i64 x.2.2.2.2.2.2.2.2.2.2.2.2.2.2.2.2.2.1)) λu17=>
   Wr u17 ((blk b).add 18)/\Nw (u17.setCell ((blk b).add 18) (.int .i64 x.2.2.2.2.2.2.2.2.2.2.2.2.2.2.2.2.2.2.1)) λu18=>
   Wr u18 ((blk b).add 19)/\Nw (u18.setCell ((blk b).add 19) (.int .i64 x.2.2.2.2.2.2.2.2.2.2.2.2.2.2.2.2.2.2.2.1)) λu19=>
   K u19:=
 YQ (vs:=sp20 x) hB hl hK
end Go.Proofs
namespace Go.Proofs
open Go.Gk Go.RowKit Go.Gm
theorem Fns.chg{w w':World}{fs:Sl}{L:List Fe}{b:Nat}{T:TypeId}{cs:List Value}(h:Fns w fs L)(c:Chg b w w')(hB:Blk w b T cs)(h1:46≠T)(h2:3≠T)(h3:42≠T):Fns w' fs L:=by
 have f:Fr w.heap.size (λk=>k=b) w w':=c.fr
 exact⟨f.own h.own λb e e2=>by subst e2;exact zM h.own hB h1 e,λx hx=>
  ⟨f.own (h.row x hx).1 λb e e2=>by subst e2;exact zM (h.row x hx).1 hB h2 e,f.own (h.row x hx).2 λb e e2=>by subst e2;exact zM (h.row x hx).2 hB h3 e⟩⟩
section
variable {x:Mo} {pl:List PI} {w:World} {R:VWP}
theorem zjI(hN:IsPl w x.2.2.1 pl)(hp:PlOk pl)
  (hok:∀bc ps fs L w',layP x.2.1 pl=(0,0)->Ct w w' bc x.2.2.1 pl.length ps fs->Z2 pl 10 pl.length ps->Fns w' fs L->zA w.heap.size fs->cutF pl pl.length=L.map (·.1)->ZU pl pl.length->
   R (.tuple #[.pointer (some (blk bc)),.agg #[.int .i64 0,.int .i64 0]]) w')
  (hbad:∀w',Below w.heap.size w w'->(layP x.2.1 pl).1≠0->R (.tuple #[.pointer none,.agg #[.int .i64 (layP x.2.1 pl).1,.int .i64 ((layP x.2.1 pl).2:Int)]]) w') :
  cR 31 #[moA x] w R:=by
 refine zc.of (zgz x R w ?_) λ_ _ h=>h
 refine zl λw1 hB1 b1 z1=>?_
 have hB1:Blk w1 w.heap.size 25 (moV x):=hB1
 refine zl λw2 hC2 b2 z2=>?_
 have hC2:Blk w2 w1.heap.size 29 [.int .i64 0,.int .i64 0]:=hC2
 have hb2:=b1.on b2
 have s1:=b1.size
 have hlen:=hN.len
 have h40:=hp.len
 refine Mo.load (hB1.below b2) ?_
 refine zlR (x:=x) (hN.below hb2) hp λw3 b3=>⟨((zK x.2.1 pl).1,((zK x.2.1 pl).2:Int),()),rfl,?_⟩
 refine box2 rfl λw4 h4 b4 z4=>?_
 have b24:=b3.on b4
 have hb4:=hb2.on b24
 have hB4:=(hB1.below b2).below b24
 have hC4:=hC2.below b24
 have s24:=b24.size
 refine h4.rI0 rfl (zE (λe=>?_) (λe=>?_))
 ·have e':(zK x.2.1 pl).1≠0:=e
  have hl:layP x.2.1 pl=zK x.2.1 pl:=if_pos e'
  rw[hl]at hbad
  refine Sp.load h4.drew ?_
  refine st2 hC4.drew rfl λw5 h5 c5=>Sp.load h5 ?_
  exact hbad w5 (c5.below hb4.drew (by omega)) e'
 ·have e':(zK x.2.1 pl).1=0:=e
  have hl:layP x.2.1 pl=chkP pl:=if_neg (λh=>h e')
  refine hB4.rS (n:=2) (x:=x.2.2.1) rfl ?_
  refine zl λw9 h9 b9 z9=>?_
  have h9:Blk w9 w4.heap.size 100 (ctV x.2.2.1 (0:Nat) (List.replicate 20 0) ⟨none,0,0⟩):=h9
  have hCt:Ct w4 w9 w4.heap.size x.2.2.1 0 (List.replicate 20 0) ⟨none,0,0⟩:=⟨Nat.le_refl _,b9,h9,List.length_replicate⟩
  have s4:=hb4.size
  dsimp only[zB,Go.Gk.Sl.zw,zi,zu,zb,zh]
  generalize hbc:w4.heap.size=bc at hCt z9
  refine zot hCt (hN.below hb4) h40 (λps fs L w10 hC10 f10 hg ho hP hL hF hcut=>?_) (λn ps fs w10 hC10 f10 hS=>?_)
  ·refine⟨true,rfl,zH rfl ?_⟩
   have hlay:layP x.2.1 pl=(0,0):=by rw[hl,zmI hg,if_neg (by rw[ho];decide)]
   have hR1:=hC4.below hC10.b0
   have hCw:Ct w w10 bc x.2.2.1 pl.length ps fs:=⟨by omega,hb4.on hC10.b0,hC10.blk,hC10.len⟩
   refine st2 hR1 rfl λw12 h12 c12=>Sp.load h12 ?_
   exact hok bc ps fs L w12 hlay (hCw.chg c12 (by omega) (by omega)) hP (hL.chg c12 hR1 (by decide) (by decide) (by decide)) (λa ha=>by have:=hF a ha;have:=b9.size;omega) hcut hg
  ·refine⟨false,rfl,zz rfl ?_⟩
   have bd:Below w10.heap.size w10 w10.drew:=(Below.refl _ _).drew
   have hlay:layP x.2.1 pl=(if n<pl.length then 50 else 51,n):=by rw[hl];exact hS.chk
   rw[hlay]at hbad
   have hBm:=(hB4.below hC10.b0)
   have hR1:=hC4.below hC10.b0
   have hbw:Below w.heap.size w w10:=hb4.on hC10.b0
   refine hC10.blk.drew.rI (n:=1) rfl (hBm.drew.rS (n:=2) (x:=x.2.2.1) rfl (zg (λh=>?_) (λh=>?_)))
   ·have hlt:n<pl.length:=by omega
    rw[if_pos hlt]at hbad
    refine hC10.blk.drew.drew.rI (n:=1) rfl (st2 hR1.drew.drew rfl λw13 h13 c13=>Sp.load h13 ?_)
    exact hbad w13 (c13.below hbw.drew.drew (by omega)) (show(50:Int)≠0 by decide)
   ·have hlt:¬n<pl.length:=by omega
    rw[if_neg hlt]at hbad
    refine hC10.blk.drew.drew.rI (n:=1) rfl (st2 hR1.drew.drew rfl λw13 h13 c13=>Sp.load h13 ?_)
    exact hbad w13 (c13.below hbw.drew.drew (by omega)) (show(51:Int)≠0 by decide)
theorem zlQ(hN:IsPl w x.2.2.1 pl)(hp:PlOk pl)
  (hR:∀(y:T20) w',Below w.heap.size w w'->((layP x.2.1 pl).1=0->Z2 pl 10 pl.length (l20 y)/\ZU pl pl.length)->R (.tuple #[ag20 y,.agg #[.int .i64 (layP x.2.1 pl).1,.int .i64 ((layP x.2.1 pl).2:Int)]]) w') :
  cR 67 #[moA x] w R:=by
 refine zc.of (zf6 x R w ?_) λ_ _ h=>h
 refine zl λw1 hB1 b1 z1=>?_
 have hB1:Blk w1 w.heap.size 25 (moV x):=hB1
 refine zl λw2 hA2 b2 z2=>?_
 refine zl λw3 hC3 b3 z3=>?_
 have hC3:Blk w3 w2.heap.size 29 [.int .i64 0,.int .i64 0]:=hC3
 have hb23:=b2.on b3
 have hb3:=b1.on hb23
 have s1:=b1.size
 refine Mo.load (hB1.below hb23) ?_
 refine zjI (x:=x) (hN.below hb3) hp (λbc ps fs L w4 hlay hC4 hP hL hF hcut hg=>⟨some (blk bc),(0,0,()),rfl,?_⟩) (λw4 b4 hne=>⟨none,((layP x.2.1 pl).1,((layP x.2.1 pl).2:Int),()),rfl,?_⟩)
 ·rw[hlay]at hR
  refine box2 rfl λw7 h7 b7 z7=>?_
  have hC7:=hC4.below b7
  have b37:=hC4.b0.on b7
  have hA7:=((hA2.below b3).below b37).drew
  have hS7:=(hC3.below b37).drew
  have hbw:=(hb3.on b37).drew
  have s37:=b37.size
  have h7:=h7.drew
  obtain⟨y,rfl⟩:=zqF hC7.len
  have hct:=hC7.blk.drew
  generalize w7.drew=w8 at hct hA7 hS7 hbw h7
  refine zz rfl (ze rfl (zqX (x:=y) hct ?_))
  refine Sp.load h7 ?_
  refine st20 (x:=y) hA7 rfl λw49 h49 c49=>?_
  have hS49:=c49.blk hS7 (by omega)
  have h7':=c49.blk h7 (by have:=hC4.b0.size;omega)
  refine⟨h7'.cell (n:=0) rfl,h7'.cell (n:=1) rfl,?_⟩
  refine st2 hS49 rfl λw51 h51 c51=>?_
  refine ld20 (x:=y) (c51.blk h49 (by omega)) (Sp.load h51 ?_)
  exact hR y w51 (c51.below (c49.below hbw (by omega)) (by omega)) λ_=>⟨hP,hg⟩
 ·refine box2 rfl λw7 h7 b7 z7=>?_
  have b37:=b4.on b7
  have hA7:=((hA2.below b3).below b37).drew
  have hS7:=(hC3.below b37).drew
  have hbw:=(hb3.on b37).drew
  have s37:=b37.size
  have s34:=b4.size
  have h7:=h7.drew
  generalize w7.drew=w8 at hA7 hS7 hbw h7
  refine zH rfl (Sp.load h7 ?_)
  refine st20 (x:=(0,0,0,0,0,0,0,0,0,0,0,0,0,0,0,0,0,0,0,0,())) hA7 rfl λw49 h49 c49=>?_
  have hS49:=c49.blk hS7 (by omega)
  have h7':=c49.blk h7 (by omega)
  refine⟨h7'.cell (n:=0) rfl,h7'.cell (n:=1) rfl,?_⟩
  refine st2 hS49 rfl λw51 h51 c51=>?_
  refine ld20 (x:=(0,0,0,0,0,0,0,0,0,0,0,0,0,0,0,0,0,0,0,0,())) (c51.blk h49 (by omega)) (Sp.load h51 ?_)
  exact hR _ w51 (c51.below (c49.below hbw (by omega)) (by omega)) λh=>absurd h hne
end
end Go.Proofs
namespace Go.Proofs
open Go.Gk Go.RowKit Go.Gm
theorem YL{pl:List PI}{id:Int}{n:Nat}:0<=ya pl id n↔∃k,k<n/\mk1 pl id k=true:=by
 unfold ya
 constructor
 ·intro h
  cases e:(List.range n).find? (mk1 pl id) with
  |none=>rw[e]at h;exact absurd h (by decide)
  |some k=>exact⟨k,List.mem_range.1 (List.mem_of_find?_eq_some e),List.find?_some e⟩
 ·rintro⟨k,h1,h2⟩
  cases e:(List.range n).find? (mk1 pl id) with
  |none=>
   rw[List.find?_eq_none]at e
   exact absurd h2 (e k (List.mem_range.2 h1))
  |some k=>exact Int.natCast_nonneg k
theorem zpc(pl:List PI)(k:Nat):mk1 pl 0 k=false:=by unfold mk1;simp
theorem MkOk.lt{L:List (Int×Int)}{pl:List PI}(h:MkOk L pl 0){id v:Int}(hv:zL L id=some v)(n:Nat):v<n↔0<=ya pl id n:=by
 obtain⟨j,rfl,_,q3,q4,q5⟩:=(h id).2 v hv
 rw[YL]
 constructor
 ·intro hh
  exact⟨j,by omega,q4⟩
 ·rintro⟨k,h1,h2⟩
  rcases Nat.lt_or_ge k j with g |g
  ·rw[q5 k (Nat.zero_le _) g]at h2;cases h2
  ·omega
theorem MkOk.none{L:List (Int×Int)}{pl:List PI}(h:MkOk L pl 0){id:Int}(hv:zL L id=none):ya pl id pl.length<0:=by
 rcases Int.lt_or_le (ya pl id pl.length) 0 with g |g
 ·exact g
 ·obtain⟨k,h1,h2⟩:=YL.1 g
  rw[(h id).1 hv k (Nat.zero_le _) h1]at h2
  cases h2
theorem MkOk.some{L:List (Int×Int)}{pl:List PI}(h:MkOk L pl 0){id v:Int}(hv:zL L id=some v):0<=ya pl id pl.length:=by
 obtain⟨j,_,_,q3,q4,_⟩:=(h id).2 v hv
 exact YL.2 ⟨j,q3,q4⟩
def zN(pl:List PI)(n:Nat):List Int:=idsP (ix pl n).2.1 (ix pl n).2.2.2
def fltP(pl:List PI)(n:Nat):Int:=
 if 0<=ya pl (ix pl n).2.2.1 n then 90
 else if (zN pl n).any (λid=>decide (ya pl id pl.length<0))=true then 91
 else if zq (ix pl n)=7/\(zN pl n).any (λid=>decide (ya pl id n<0))=true then 92 else 0
def yh(bound:Int)(pl:List PI):Int×Nat:=if (layP bound pl).1≠0 then layP bound pl else match (List.range pl.length).find? (λk=>fltP pl k !=0) with
 |some k=>(fltP pl k,k)
 |none=>(0,0)
theorem zon{bound:Int}{pl:List PI}(h:(layP bound pl).1≠0):yh bound pl=layP bound pl:=if_pos h
theorem ziu{bound:Int}{pl:List PI}(h:¬(layP bound pl).1≠0){n:Nat}(hn:n<pl.length)(hj:∀j,j<n->fltP pl j=0)(hf:fltP pl n≠0):yh bound pl=(fltP pl n,n):=by
 unfold yh
 rw[if_neg h,zbk hn (by rw[bne_iff_ne.2 hf]) λj hj'=>by rw[hj j hj'];rfl]
theorem znj{bound:Int}{pl:List PI}(h:¬(layP bound pl).1≠0)(hj:∀j,j<pl.length->fltP pl j=0):yh bound pl=(0,0):=by
 unfold yh
 have:(List.range pl.length).find? (λk=>fltP pl k !=0)=none:=by
  rw[List.find?_eq_none]
  intro j hj'
  rw[hj j (List.mem_range.1 hj')]
  simp
 rw[if_neg h,this]
theorem zka{α:Type}{l:List α}{p:α->Bool}{k:Nat}(hk:k<l.length)(h:p l[k]=true):l.any p=true:=List.any_eq_true.2 ⟨l[k],List.getElem_mem hk,h⟩
theorem zis{α:Type}{l:List α}{p:α->Bool}(h:∀k (hk:k<l.length),p l[k]=false):l.any p=false:=by
 cases e:l.any p
 ·rfl
 ·obtain⟨x,h1,h2⟩:=List.any_eq_true.1 e
  obtain⟨k,hk,rfl⟩:=List.mem_iff_getElem.1 h1
  rw[h k hk]at h2
  cases h2
end Go.Proofs
namespace Go.Proofs
open Go.Gk Go.RowKit Go.Gm
theorem zInt:∃i,Tryz.prog.info? 3=some i/\i.zero=some (.int .i64 0):=⟨Tryz.t3,by kernel_rfl,rfl⟩
section
variable {x:Mo} {pl:List PI} {w:World} {R:VWP}
theorem zie(hN:IsPl w x.2.2.1 pl)(hp:PlOk pl)(hR:∀w',Below w.heap.size w w'->R (.agg #[.int .i64 (yh x.2.1 pl).1,.int .i64 ((yh x.2.1 pl).2:Int)]) w') :
  cR 32 #[moA x] w R:=by
 refine zc.of (zhP x R w ?_) λ_ _ h=>h
 refine zl λw1 hB1 b1 z1=>?_
 have hB1:Blk w1 w.heap.size 25 (moV x):=hB1
 refine zl λw2 hC2 b2 z2=>?_
 have hC2:Blk w2 w1.heap.size 29 [.int .i64 0,.int .i64 0]:=hC2
 have hb2:=b1.on b2
 have s1:=b1.size
 have hlen:=hN.len
 have h40:=hp.len
 refine Mo.load (hB1.below b2) ?_
 refine zlQ (x:=x) (hN.below hb2) hp λy w3 b3 hP=>⟨y,((layP x.2.1 pl).1,((layP x.2.1 pl).2:Int),()),rfl,?_⟩
 refine zl λw4 hY4 b4 z4=>?_
 refine zl λw5 hE5 b5 z5=>?_
 have hE5:Blk w5 w4.heap.size 29 [.int .i64 0,.int .i64 0]:=hE5
 refine st20 (x:=y) (hY4.below b5) rfl λw25 hY25 c25=>?_
 refine st2 (c25.blk hE5 (by omega)) rfl λw27 hE27 c27=>?_
 have hY27:=c27.blk hY25 (by omega)
 have b327:Below w3.heap.size w3 w27:=c27.below (c25.below (b4.on b5) (Nat.le_refl _)) (by omega)
 have b227:=b3.on b327
 have hb27:=hb2.on b227
 have hB27:=(hB1.below b2).below b227
 have hC27:=hC2.below b227
 have out:∀{w':World} {a b:Int},Below w27.heap.size w27 w'->(yh x.2.1 pl).1=a->(((yh x.2.1 pl).2:Nat):Int)=b->Wr w' (blk w1.heap.size)/\Nw (w'.setCell (blk w1.heap.size) (.int .i64 a)) λw7=>Wr w7 ((blk w1.heap.size).add 1)/\
   Nw (w7.setCell ((blk w1.heap.size).add 1) (.int .i64 b)) λw8=>ldI w8 ((blk w1.heap.size).add 0) .i64 λx9=>ldI w8 ((blk w1.heap.size).add 1) .i64 λx10=>R (.agg #[(.int .i64 x9),(.int .i64 x10)]) w8:=by
  intro w' a b hb e1 e2
  subst e1 e2
  exact st2 (hC27.below hb) rfl λw8 h8 c8=>Sp.load h8 (hR w8 (c8.below (hb27.on hb) (by omega)))
 refine hE27.rI0 rfl (zE (λe=>?_) (λe=>?_))
 ·have e':(layP x.2.1 pl).1≠0:=e
  have hl:=zon e'
  exact Sp.load hE27 (out (Below.refl _ _) (by rw[hl]) (by rw[hl]))
 have e0:(layP x.2.1 pl).1=0:=e
 have e':¬(layP x.2.1 pl).1≠0:=λh=>h e
 obtain⟨hPT,hG⟩:=hP e0
 obtain⟨q1,q2,q3,q4⟩:=hPT 7 (by omega)
 generalize hfr:(l20 y).getD (2*7) 0=from_ at q1 q2 q4
 generalize hto:(l20 y).getD (2*7+1) 0=to_ at q2 q3 q4
 refine hB27.rS (n:=2) (x:=x.2.2.1) rfl ?_
 refine zlk (hN.below hb27) λw30 L hM30 hMk hKN b30=>⟨some w27.heap.size,rfl,⟨by omega,by omega⟩,?_⟩
 have hY30:=hY27.below b30
 refine hY30.rI2 (m:=7*2) (n:=0) (x:=from_) (by rw[<-hfr];rfl) (hY30.rI2 (m:=7*2) (n:=1) (x:=to_) (by rw[<-hto];rfl) ?_)
 refine box2 rfl λw33 hG33 b33 z33=>?_
 have b2733:=b30.on b33
 have hM33:=hM30.below b33
 have hB33:=hB27.below b2733
 refine hB33.rS (n:=2) (x:=x.2.2.1) rfl ?_
 refine zj.count pl.length hN.bound (λk w'=>Below w33.heap.size w33 w'/\∀j,j<k->fltP pl j=0) ⟨Below.refl _ _,λj hj=>by omega⟩ ?_
 rintro k w34 hk ⟨hb34,hj⟩ next hnext
 have hb2734:=b2733.on hb34
 have hN34:=hN.below (hb27.on hb2734)
 refine zg (λh=>?_) (λh=>?_)
 ·have hlt:k<pl.length:=by dsimp only at h;omega
  have eix:pl[k]=ix pl k:=(Zm hlt).symm
  refine zk.cut (λ_ w'=>Below w33.heap.size w33 w'/\fltP pl k=0) ?_ ?_
  ·refine zbV hN34 hlt λt ht=>?_
   refine box4 rfl λw39 h39 b39 z39=>?_
   have h39:Blk w39 w34.heap.size 50 (inV (mkIn pl[k] t)):=h39
   have hb39:=hb34.on b39
   refine zk.cut (λ_ w'=>w'=w39/\¬0<=ya pl (ix pl k).2.2.1 k) ?_ ?_
   ·refine h39.rI (n:=2) rfl (zE (λe1=>?_) (λe1=>⟨rfl,λg=>?_⟩))
    ·have e1:pl[k].2.2.1≠0:=e1
     refine h39.rI (n:=2) rfl (zoT zgG uU32 zInt (hM33.below hb39) ?_)
     have hmk:mk1 pl (ix pl k).2.2.1 k=true:=by unfold mk1;rw[<-eix,zt hlt,beq_self_eq_true,bne_iff_ne.2 e1];rfl
     cases hl:zL L pl[k].2.2.1 with
     |none=>
      have:=(hMk pl[k].2.2.1).1 hl k (Nat.zero_le _) hlt
      rw[<-eix]at hmk
      rw[hmk]at this
      cases this
     |some v=>
      have hv:=hMk.lt hl k
      rw[eix]at hv
      refine zg (λh=>?_) (λh=>⟨rfl,λg=>h (hv.2 g)⟩)
      have hf:fltP pl k=90:=by unfold fltP;rw[if_pos (hv.1 h)]
      have hb:=ziu e' hlt hj (by rw[hf];decide)
      exact out (b2733.on hb39) (by rw[hb,hf]) (by rw[hb])
    ·have e1:pl[k].2.2.1=0:=e1
     rw[<-eix,e1]at g
     obtain⟨j,_,h2⟩:=YL.1 g
     rw[zpc]at h2
     cases h2
   ·rintro _ w42 ⟨rfl,n90⟩
    refine Ins.load h39 ?_
    have hfl:fltP pl k=if (zN pl k).any (λid=>decide (ya pl id pl.length<0))=true then 91 else if zq (ix pl k)=7/\(zN pl k).any (λid=>decide (ya pl id k<0))=true then 92 else 0:=by
     unfold fltP;rw[if_neg n90]
    refine zfG (x:=mkIn pl[k] t) (ht.below b39) (hp.args _ (List.getElem_mem hlt)) λr w43 hO hF b43=>⟨r,rfl,?_⟩
    have hO:Own w43 22 1 r ((zN pl k).map (Value.int .u32)):=by unfold zN;rw[<-eix];exact hO
    generalize zN pl k=ids at hO hfl
    have hI:=hO.isS
    have hrl:=hI.len
    have hib:=hI.bound
    have hb43:=hb39.on b43
    refine zj.ghost (λj (st:Bool×Int×Unit) w'=>∃(i:Nat),j=ids.length-i/\i<=ids.length/\w'=w43/\st.2.1=(i:Int)/\(∀q (hq:q<ids.length),q<i->0<=ya pl ids[q] pl.length)/\(st.1=true↔∃q,∃hq:q<ids.length,q<i/\ya pl ids[q] k<0)) ids.length
     ⟨0,rfl,Nat.zero_le _,rfl,rfl,λq hq h=>by omega,⟨λh=>(by cases h),λ⟨q,hq,h,_⟩=>by omega⟩⟩ ?_
    rintro _ ⟨ah,_,_⟩ w44 ⟨i,rfl,hi,hw,e2,hmd,hah⟩ next2 hnext2
    dsimp only at e2 hah
    subst hw e2
    refine zg (λh=>?_) (λh=>?_)
    ·have hil:i<ids.length:=by dsimp only at h;omega
     refine zk.cut (λ(st:Bool×Unit) w'=>w'=w44/\0<=ya pl ids[i] pl.length/\(st.1=true↔ah=true\/ya pl ids[i] k<0)) ?_ ?_
     ·refine zbi hI hil (zjA zgG uU32 zInt (hM33.below hb43) ?_)
      cases hl:zL L ids[i] with
      |none=>
       refine zH rfl ?_
       have hf:fltP pl k=91:=by rw[hfl,if_pos (zka hil (decide_eq_true (hMk.none hl)))]
       have hb:=ziu e' hlt hj (by rw[hf];decide)
       exact out (b2733.on hb43) (by rw[hb,hf]) (by rw[hb])
      |some v=>
       refine zz rfl ?_
       have hv:=hMk.lt hl k
       refine zn (λhat=>⟨rfl,hMk.some hl,⟨λ_=>.inl hat,λ_=>rfl⟩⟩) (λhaf=>⟨rfl,hMk.some hl,?_⟩)
       show(decide (v≥(k:Int))=true↔_)
       have haf:ah=false:=haf
       rw[haf]
       constructor
       ·intro g
        have:=of_decide_eq_true g
        right
        rcases Int.lt_or_le (ya pl ids[i] k) 0 with q |q
        ·exact q
        ·have:=hv.2 q;omega
       ·rintro(g |g)
        ·cases g
        ·refine decide_eq_true ?_
         rcases Int.lt_or_le v k with q |q
         ·have:=hv.1 q;omega
         ·exact q
     ·rintro⟨ah',_⟩ w47 ⟨hw,hmi,hah'⟩
      dsimp only at hah'⊢
      subst hw
      rw[zr (by omega)]
      refine hnext2 (ids.length-(i+1)) _ _ (by omega) ⟨i+1,rfl,hil,rfl,rfl,λq hq h=>?_,?_⟩
      ·by_cases eq:q=i
       ·subst eq;exact hmi
       ·exact hmd q hq (by omega)
      ·dsimp only
       rw[hah',hah]
       constructor
       ·rintro(⟨q,hq,h1,h2⟩ |g)
        ·exact⟨q,hq,by omega,h2⟩
        ·exact⟨i,hil,by omega,g⟩
       ·rintro⟨q,hq,h1,h2⟩
        by_cases eq:q=i
        ·subst eq;exact .inr h2
        ·exact .inl ⟨q,hq,by omega,h2⟩
    ·have hil:i=ids.length:=by dsimp only at h;omega
     subst hil
     have n91:¬ids.any (λid=>decide (ya pl id pl.length<0))=true:=by
      rw[zis (p:=λid=>decide (ya pl id pl.length<0)) λq hq=>decide_eq_false (by have:=hmd q hq hq;omega)]
      decide
     rw[if_neg n91]at hfl
     have hany:ids.any (λid=>decide (ya pl id k<0))=ah:=by
      rw[Bool.eq_iff_iff,hah]
      constructor
      ·intro g
       obtain⟨y',y1,y2⟩:=List.any_eq_true.1 g
       obtain⟨q,hq,rfl⟩:=List.mem_iff_getElem.1 y1
       exact⟨q,hq,hq,of_decide_eq_true y2⟩
      ·rintro⟨q,hq,_,h2⟩
       exact zka hq (decide_eq_true h2)
     rw[hany]at hfl
     have hq4:=q4 k hlt
     have hG44:=hG33.below hb43
     refine zk.cut (λ_ w'=>w'=w44/\zq (ix pl k)=7/\ah=true) ?_ ?_
     ·refine zI (zn (λhat=>?_) (λhaf=>⟨hb43,by have haf:ah=false:=haf;rw[hfl,if_neg (λg=>by rw[haf]at g;cases g.2)]⟩))
      refine hG44.rI0 rfl (zg (λh1=>⟨hb43,?_⟩) (λh1=>?_))
      ·rw[hfl,if_neg (λg=>by have:=hq4.2 g.1;dsimp only at h1;omega)]
      ·refine hG44.rI (n:=1) rfl (zg (λh2=>⟨hb43,?_⟩) (λh2=>⟨rfl,hq4.1 ⟨by dsimp only at h1;omega,by dsimp only at h2;omega⟩,hat⟩))
       rw[hfl,if_neg (λg=>by have:=hq4.2 g.1;dsimp only at h2;omega)]
     ·rintro _ w48 ⟨rfl,g1,g2⟩
      have hf:fltP pl k=92:=by rw[hfl,if_pos ⟨g1,g2⟩]
      have hb:=ziu e' hlt hj (by rw[hf];decide)
      exact out (b2733.on hb43) (by rw[hb,hf]) (by rw[hb])
  ·rintro _ w51 ⟨hb51,hf⟩
   refine hnext w51 hlt ⟨hb51,λj hjk=>?_⟩
   by_cases ej:j=k
   ·subst ej;exact hf
   ·exact hj j (by omega)
 ·have hk':k=pl.length:=by dsimp only at h;omega
  have hg:=znj e' (λj hj'=>hj j (by omega))
  exact out hb2734 (by rw[hg]) (by rw[hg];rfl)
end
end Go.Proofs
namespace Go.Proofs
open Go.Gk Go.RowKit Go.Gm
theorem zez{bd:Int}{pl:List PI}(h:(yh bd pl).1=0):yh bd pl=(0,0)/\(layP bd pl).1=0/\∀k,k<pl.length->fltP pl k=0:=by
 unfold yh at h⊢
 by_cases h1:(layP bd pl).1≠0
 ·rw[if_pos h1]at h;exact absurd h h1
 ·rw[if_neg h1]at h⊢
  have h1:(layP bd pl).1=0:=Classical.not_not.1 h1
  cases hf:(List.range pl.length).find? (λk=>fltP pl k !=0) with
  |none=>
   refine⟨rfl,h1,λk hk=>?_⟩
   have:=List.find?_eq_none.1 hf k (List.mem_range.2 hk)
   simpa using this
  |some k=>
   rw[hf]at h
   have:=List.find?_some hf
   dsimp only at h
   rw[h]at this
   simp at this
theorem ze3{bd:Int}{pl:List PI}(h:(layP bd pl).1=0):(zK bd pl).1=0:=by
 unfold layP at h
 by_cases h1:(zK bd pl).1≠0
 ·rw[if_pos h1]at h;exact h
 ·exact Classical.not_not.1 h1
theorem zpZ{pl:List PI}{k:Nat}(h:fltP pl k=0)(h0:(ix pl k).2.2.1≠0):∀j,j<k->j<pl.length->(ix pl j).2.2.1≠(ix pl k).2.2.1:=by
 intro j hj hl e
 have n90:¬0<=ya pl (ix pl k).2.2.1 k:=by
  intro g
  unfold fltP at h
  rw[if_pos g]at h
  cases h
 refine n90 (YL.2 ⟨j,hj,?_⟩)
 unfold mk1
 rw[show pl.getD j pi0=ix pl j from ?_,e,beq_self_eq_true,bne_iff_ne.2 h0]
 ·rfl
 ·rw[zt hl,Zm hl]
theorem znx{bd:Int}{pl:List PI}(hp:PlOk pl)(h0:0<=bd)(h:(zK bd pl).1=0):∀n∈allP pl,0<=n/\n<bd:=by
 obtain⟨h1,h2⟩:=zam h
 intro n hn
 obtain⟨p,hp',hn⟩:=List.mem_flatMap.1 hn
 obtain⟨k,hk,rfl⟩:=List.getElem_of_mem hp'
 have:=hp.nums _ (List.getElem_mem hk)
 exact(zjx (h2 k hk) (by omega) ⟨this.1.1,this.2.1.1,λx hx=>(this.2.2 x hx).1⟩).1 n hn
theorem zre{pl:List PI}{k:Nat}(hk:k<pl.length):pl[k].2.1∈allP pl/\pl[k].2.2.1∈allP pl/\∀a∈pl[k].2.2.2,a.1=1->a.2.1∈allP pl:=by
 have hm:∀{n},n∈allI pl[k]->n∈allP pl:=λh=>List.mem_flatMap.2 ⟨_,List.getElem_mem hk,h⟩
 refine⟨hm (by simp[allI]),hm (by simp[allI]),λa ha h1=>hm ?_⟩
 simp only[allI,List.mem_cons]
 right;right
 exact List.mem_map.2 ⟨a,List.mem_filter.2 ⟨ha,by simp[h1]⟩,rfl⟩
end Go.Proofs
namespace Go.Proofs
open Go.Gk Go.RowKit Go.Gm
theorem zqc{α:Type}{l:List α}{i:Nat}{d:α}(h:l.length<=i):l.getD i d=d:=by simp[List.getD,h]
theorem ze1{p:PI}{b:Int}(h:ZQ p b=0):∃f,frm p.1=some f/\idP f.ty p.2.1 b 40=0/\idP f.re p.2.2.1 b 41=0/\(∀j,j<p.2.2.2.length->werr f p.2.2.2 b j=0)/\
  YO f p.2.2.2.length=true/\zep f p.2.2.2<=65535:=by
 unfold ZQ at h
 cases hf:frm p.1 with
 |none=>rw[zdW hf]at h;cases h
 |some f=>
  rw[zdX hf]at h
  unfold zdU at h
  by_cases e1:errK f p.2.1 p.2.2.1 p.2.2.2 b p.2.2.2.length≠0
  ·rw[if_pos e1]at h;exact absurd h e1
  rw[if_neg e1]at h
  obtain⟨q1,q2,q3⟩:=zgk (Classical.not_not.1 e1)
  by_cases e2:YO f p.2.2.2.length=false
  ·rw[if_pos e2]at h;exact absurd h (by decide)
  rw[if_neg e2]at h
  by_cases e3:65535<zep f p.2.2.2
  ·rw[if_pos e3]at h;exact absurd h (by decide)
  exact⟨f,rfl,q1,q2,zgf q3,by simpa using e2,by omega⟩
structure zjX (bd:Int) (pl:List PI):Prop where
 shape:(zK bd pl).1=0
 lim:0<bd/\bd<=65536
 rng:∀n∈allP pl,0<=n/\n<bd
 new:∀k,k<pl.length->(ix pl k).2.2.1≠0->∀j,j<k->j<pl.length->(ix pl j).2.2.1≠(ix pl k).2.2.1
 made:∀n∈allP pl,n≠0->∃k,k<pl.length/\(ix pl k).2.2.1=n
 ok:yh bd pl=(0,0)
theorem zjX.of{bd:Int}{pl:List PI}(hp:PlOk pl)(h0:0<=bd)(h:(yh bd pl).1=0):zjX bd pl:=by
 obtain⟨c1,c2,c3⟩:=zez h
 have hs:=ze3 c2
 have hbd:=(zam hs).1
 refine⟨hs,by omega,znx hp h0 hs,λk hk h0=>zpZ (c3 k hk) h0,λn hn h0=>?_,c1⟩
 obtain⟨p,hp',hn⟩:=List.mem_flatMap.1 hn
 obtain⟨k,hk,rfl⟩:=List.getElem_of_mem hp'
 have hr:n=pl[k].2.2.1\/n∈zN pl k:=by
  unfold zN idsP idsN
  rw[Zm hk,List.take_length]
  simp only[allI,List.mem_cons]at hn
  rcases hn with e |e |e
  ·right
   refine List.mem_append_left _ ?_
   rw[if_neg (by rw[<-e];exact h0),e]
   exact List.mem_singleton.2 rfl
  ·exact .inl e
  ·right
   exact List.mem_append_right _ e
 rcases hr with e |e
 ·exact⟨k,hk,by rw[Zm hk,e]⟩
 ·have hf:=c3 k hk
  unfold fltP at hf
  by_cases e1:0<=ya pl (ix pl k).2.2.1 k
  ·rw[if_pos e1]at hf;exact absurd hf (by decide)
  rw[if_neg e1]at hf
  by_cases e2:(zN pl k).any (λid=>decide (ya pl id pl.length<0))=true
  ·rw[if_pos e2]at hf;exact absurd hf (by decide)
  have:0<=ya pl n pl.length:=by
   rcases Int.lt_or_le (ya pl n pl.length) 0 with q |q
   ·exact absurd (List.any_eq_true.2 ⟨n,e,decide_eq_true q⟩) e2
   ·exact q
  obtain⟨j,hj,hm⟩:=YL.1 this
  unfold mk1 at hm
  rw[Bool.and_eq_true]at hm
  exact⟨j,hj,beq_iff_eq.1 hm.1⟩
end Go.Proofs
namespace Go.Proofs
open Go.Gk Go.RowKit Go.Gm
end Go.Proofs
namespace Go.Proofs
open Go.Gk Go.RowKit Go.Gm
abbrev Fv:=Int×Int×Sl×Sl×Int×Unit
abbrev fvV(v:Fv):List Value:=[.int .u32 v.1,.int .i64 v.2.1,.slice v.2.2.1.a v.2.2.1.l v.2.2.1.c,.slice v.2.2.2.1.a v.2.2.2.1.l v.2.2.2.1.c,.int .i64 v.2.2.2.2.1]
abbrev fvA(v:Fv):Value:=.agg #[.int .u32 v.1,.int .i64 v.2.1,.slice v.2.2.1.a v.2.2.1.l v.2.2.1.c,.slice v.2.2.2.1.a v.2.2.2.1.l v.2.2.2.1.c,.int .i64 v.2.2.2.2.1]
abbrev IsBk(w:World)(s:Sl)(l:List (Int×Int×Int)):Prop:=IsC 3 blV w s l
structure IsFn (w:World) (v:Fv) (f:FnL):Prop where
 id:v.1=f.id
 at_:v.2.1=f.at_
 ps:IsI w v.2.2.1 f.ps
 bk:IsBk w v.2.2.2.1 f.bk
 en:v.2.2.2.2.1=f.en
noncomputable instance fnD:DecidableEq FnL:=λ_ _=>Classical.propDecidable _
section
variable {w w':World} {v:Fv} {f g:FnL} {R:VWP}
theorem IsFn.below(h:IsFn w v f)(hb:Below w.heap.size w w'):IsFn w' v f:=⟨h.id,h.at_,h.ps.below hb,IsC.below yU h.bk hb,h.en⟩
theorem Fv.load{b:Nat}{T:TypeId}(h:Blk w b T (fvV v)){φ:Int->Int->Sl->Sl->Int->Prop}(hφ:φ v.1 v.2.1 v.2.2.1 v.2.2.2.1 v.2.2.2.2.1) :
  ldI w ((blk b).add 0) .u32 λx1=>ldI w ((blk b).add 1) .i64 λx2=>ldS w ((blk b).add 2) λx3=>ldS w ((blk b).add 3) λx4=>ldI w ((blk b).add 4) .i64 λx5=>φ x1 x2 x3 x4 x5:=
 h.rI (n:=0) (x:=v.1) rfl (h.rI (n:=1) (x:=v.2.1) rfl (h.rS (n:=2) (x:=v.2.2.1) rfl (h.rS (n:=3) (x:=v.2.2.2.1) rfl (h.rI (n:=4) (x:=v.2.2.2.2.1) rfl hφ))))
theorem Fns.isFn{fs:Sl}{L:List Fe}(h:Fns w fs L){x:Fe}(hx:x∈L):IsFn w (x.1.id,x.1.at_,x.2.1,x.2.2,x.1.en,()) x.1:=
 ⟨rfl,rfl,(h.row x hx).1.isS,Own.isC yU (by omega) (h.row x hx).2,rfl⟩
theorem zmc{fs:Sl}{L:List Fe}(h:Fns w fs L){k:Nat}(hk:k<L.length){φ:Int->Int->Sl->Sl->Int->Prop}(hφ:φ L[k].1.id L[k].1.at_ L[k].2.1 L[k].2.2 L[k].1.en) :
  (0<=(k:Int)/\(k:Int)<(fs.l:Int))/\za fs.a λa=>ldI w ((a.add (Int.toNat (k:Int)*5)).add 0) .u32 λx1=>ldI w ((a.add (Int.toNat (k:Int)*5)).add 1) .i64 λx2=>ldS w ((a.add (Int.toNat (k:Int)*5)).add 2) λx3=>ldS w ((a.add (Int.toNat (k:Int)*5)).add 3) λx4=>ldI w ((a.add (Int.toNat (k:Int)*5)).add 4) .i64 λx5=>φ x1 x2 x3 x4 x5:=by
 have hc:IsC 5 feV w fs L:=Own.isC zcL (by omega) h.own
 obtain⟨a,ha⟩:=hc.base hk
 have hcell:=hc.cell a ha k hk
 refine⟨⟨by omega,by have:=h.len;omega⟩,ze ha ⟨_,?_,_,?_,_,?_,_,?_,_,?_,hφ⟩⟩
 ·rw[zs];exact hcell 0 (by omega)
 ·rw[zs];exact hcell 1 (by omega)
 ·rw[zs];exact hcell 2 (by omega)
 ·rw[zs];exact hcell 3 (by omega)
 ·rw[zs];exact hcell 4 (by omega)
theorem zgT{s:Sl}{l:List (Int×Int×Int)}(h:IsBk w s l){k:Nat}(hk:k<l.length){φ:Int->Int->Int->Prop}(hφ:φ l[k].1 l[k].2.1 l[k].2.2) :
  (0<=(k:Int)/\(k:Int)<(s.l:Int))/\za s.a λa=>ldI w ((a.add (Int.toNat (k:Int)*3)).add 0) .u32 λx=>ldI w ((a.add (Int.toNat (k:Int)*3)).add 1) .i64 λy=>ldI w ((a.add (Int.toNat (k:Int)*3)).add 2) .i64 λz=>φ x y z:=by
 obtain⟨a,ha⟩:=h.base hk
 have hc:=h.cell a ha k hk
 refine⟨⟨by omega,by have:=h.len;omega⟩,ze ha ⟨_,?_,_,?_,_,?_,hφ⟩⟩
 ·rw[zs];exact hc 0 (by omega)
 ·rw[zs];exact hc 1 (by omega)
 ·rw[zs];exact hc 2 (by omega)
theorem znZ{s t:Sl}{l m:List Int}(hs:IsI w s l)(ht:IsI w t m)(hR:∀w',Below w.heap.size w w'->R (.bool (decide (l=m))) w'):cR 71 #[.slice s.a s.l s.c,.slice t.a t.l t.c] w R:=by
 refine zc.of (zaI s t R w ?_) λ_ _ h=>h
 have h1:=hs.len
 have h2:=ht.len
 have no:l≠m->∀{w'},Below w.heap.size w w'->R (.bool false) w':=λh {w'} hb=>by
  have:=hR w' hb
  rwa[decide_eq_false h]at this
 refine zE (λe=>no (λh=>e (by rw[h1,h2,h])) (Below.refl _ _)) (λe=>?_)
 refine zj.count l.length hs.bound (λk w'=>Below w.heap.size w w'/\∀j (q1:j<l.length) (q2:j<m.length),j<k->l[j]=m[j]) ⟨Below.refl _ _,λj _ _ h=>by omega⟩ ?_
 rintro k w1 hk ⟨hb,hj⟩ next hnext
 refine zg (λh=>?_) (λh=>?_)
 ·have hlt:k<l.length:=by dsimp only at h;omega
  have hlm:k<m.length:=by omega
  refine zd4 (hs.below hb.drew) hlt (zd4 (ht.below hb.drew) hlm (zE (λe=>no (λg=>e (by subst g;rfl)) hb.drew) (λe=>hnext _ hlt ⟨hb.drew,λj q1 q2 hjk=>?_⟩)))
  by_cases ej:j=k
  ·subst ej;exact e
  ·exact hj j q1 q2 (by omega)
 ·have hk':k=l.length:=by dsimp only at h;omega
  have:=hR w1 hb
  rwa[decide_eq_true (List.ext_getElem (by omega) λj q1 q2=>hj j q1 q2 (by omega))]at this
theorem znY{s t:Sl}{l m:List (Int×Int×Int)}(hs:IsBk w s l)(ht:IsBk w t m)(hR:∀w',Below w.heap.size w w'->R (.bool (decide (l=m))) w'):cR 72 #[.slice s.a s.l s.c,.slice t.a t.l t.c] w R:=by
 refine zc.of (Zw s t R w ?_) λ_ _ h=>h
 have h1:=hs.len
 have h2:=ht.len
 have no:l≠m->∀{w'},Below w.heap.size w w'->R (.bool false) w':=λh {w'} hb=>by
  have:=hR w' hb
  rwa[decide_eq_false h]at this
 refine zE (λe=>no (λh=>e (by rw[h1,h2,h])) (Below.refl _ _)) (λe=>?_)
 refine zj.count l.length hs.bound (λk w'=>Below w.heap.size w w'/\∀j (q1:j<l.length) (q2:j<m.length),j<k->l[j]=m[j]) ⟨Below.refl _ _,λj _ _ h=>by omega⟩ ?_
 rintro k w1 hk ⟨hb,hj⟩ next hnext
 refine zg (λh=>?_) (λh=>?_)
 ·have hlt:k<l.length:=by dsimp only at h;omega
  have hlm:k<m.length:=by omega
  refine zgT (IsC.below yU hs hb.drew) hlt (zgT (IsC.below yU ht hb.drew) hlm (zI (zn (λe=>hnext _ hlt ⟨hb.drew,λj q1 q2 hjk=>?_⟩) (λe=>no (λg=>?_) hb.drew))))
  ·by_cases ej:j=k
   ·subst ej
    simp only[Bool.and_true,Bool.and_eq_true,beq_iff_eq]at e
    exact Prod.ext e.1 (Prod.ext e.2.1 e.2.2)
   ·exact hj j q1 q2 (by omega)
  ·subst g
   simp at e
 ·have hk':k=l.length:=by dsimp only at h;omega
  have:=hR w1 hb
  rwa[decide_eq_true (List.ext_getElem (by omega) λj q1 q2=>hj j q1 q2 (by omega))]at this
theorem zm8{u:Fv}(hf:IsFn w v f)(hg:IsFn w u g)(hR:∀w',Below w.heap.size w w'->R (.bool (decide (f=g))) w'):cR 35 #[fvA v,fvA u] w R:=by
 refine zc.of (zhd v u R w ?_) λ_ _ h=>h
 refine zl λw1 hA1 b1 z1=>?_
 have hA1:Blk w1 w.heap.size 46 (fvV v):=hA1
 refine zl λw2 hB2 b2 z2=>?_
 have hB2:Blk w2 w1.heap.size 46 (fvV u):=hB2
 have hA2:=hA1.below b2
 have hb2:=b1.on b2
 have no:f≠g->∀{w'},Below w.heap.size w w'->R (.bool false) w':=λh {w'} hb=>by
  have:=hR w' hb
  rwa[decide_eq_false h]at this
 refine hA2.rI0 (x:=v.1) rfl (hB2.rI0 (x:=u.1) rfl (zm (λe1=>?_) (λe=>no (λh=>e (by rw[hf.id,hg.id,h])) hb2)))
 refine hA2.rI (n:=1) (x:=v.2.1) rfl (hB2.rI (n:=1) (x:=u.2.1) rfl (zm (λe2=>?_) (λe=>no (λh=>e (by rw[hf.at_,hg.at_,h])) hb2)))
 refine hA2.rI (n:=4) (x:=v.2.2.2.2.1) rfl (hB2.rI (n:=4) (x:=u.2.2.2.2.1) rfl (zm (λe3=>?_) (λe=>no (λh=>e (by rw[hf.en,hg.en,h])) hb2)))
 refine hA2.rS (n:=2) (x:=v.2.2.1) rfl (hB2.rS (n:=2) (x:=u.2.2.1) rfl ?_)
 refine znZ (hf.ps.below hb2) (hg.ps.below hb2) λw3 b3=>⟨_,rfl,?_⟩
 have hb3:=hb2.on b3
 refine zg (λe4=>?_) (λe=>no (λh=>e (by rw[h])) hb3)
 refine(hA2.below b3).rS (n:=3) (x:=v.2.2.2.1) rfl ((hB2.below b3).rS (n:=3) (x:=u.2.2.2.1) rfl ?_)
 refine znY (IsC.below yU hf.bk hb3) (IsC.below yU hg.bk hb3) λw4 b4=>⟨_,rfl,?_⟩
 have:=hR w4 (hb3.on b4)
 have e:decide (f.bk=g.bk)=decide (f=g):=by
  rw[decide_eq_decide]
  constructor
  ·intro e5
   have q1:=hf.id.symm.trans (e1.trans hg.id)
   have q2:=hf.at_.symm.trans (e2.trans hg.at_)
   have q3:=hf.en.symm.trans (e3.trans hg.en)
   cases f;cases g
   simp_all
  ·intro h;rw[h]
 rw[e]
 exact this
theorem zk5{fs:Sl}{L:List Fe}{vb:Nat}(hL:Fns w fs L)(hV:Blk w vb 46 (fvV v))(hf:IsFn w v f)(hR:∀w',Below w.heap.size w w'->R (.bool (decide (f∈L.map (·.1)))) w') :
  cR 33 #[.slice fs.a fs.l fs.c,.func (.func 34) #[] #[.pointer (some (blk vb))]] w R:=by
 refine zc.of (Zb fs _ R w ?_) λ_ _ h=>h
 refine zc.of (Zo fs _ _ w ?_) λ_ _ h=>h
 have hl:=hL.len
 have hcap:fs.l<=9223372036854775807:=by
  have hc:IsC 5 feV w fs L:=Own.isC zcL (by omega) hL.own
  have:=hc.bound
  omega
 have hcf:Tryz.fs.contains 34=true:=by kernel_rfl
 refine zj.count L.length (by omega) (λk w'=>Below w.heap.size w w'/\∀j (h:j<L.length),j<k->L[j].1≠f) ⟨Below.refl _ _,λj _ h=>by omega⟩ ?_
 rintro k w1 hk ⟨hb,hj⟩ next hnext
 refine zg (λh=>?_) (λh=>?_)
 ·have hlt:k<L.length:=by dsimp only at h;omega
  refine zmc (hL.below hb) hlt ?_
  unfold Zv
  simp only[hcf]
  refine zc.of (zgr (L[k].1.id,L[k].1.at_,L[k].2.1,L[k].2.2,L[k].1.en,()) (blk vb) _ w1 ?_) λ_ _ h=>h
  refine zl λw2 hX2 b2 z2=>?_
  have hX2:Blk w2 w1.heap.size 46 (fvV (L[k].1.id,L[k].1.at_,L[k].2.1,L[k].2.2,L[k].1.en,())):=hX2
  have hb2:=hb.on b2
  refine Fv.load hX2 (Fv.load (hV.below hb2) ?_)
  refine zm8 (((hL.below hb2).isFn (List.getElem_mem hlt))) (hf.below hb2) λw3 b3=>⟨_,rfl,_,rfl,?_⟩
  have hb3:=hb2.on b3
  refine zg (λe=>?_) (λe=>hnext w3 hlt ⟨hb3,λj q1 q2=>?_⟩)
  ·refine⟨_,rfl,?_⟩
   have:=hR w3 hb3
   rw[decide_eq_true (List.mem_map.2 ⟨L[k],List.getElem_mem hlt,e⟩)]at this
   rwa[decide_eq_true (by omega)]
  ·by_cases ej:j=k
   ·subst ej;exact e
   ·exact hj j q1 (by omega)
 ·refine⟨_,rfl,?_⟩
  have:=hR w1 hb
  rw[decide_eq_false (λhm=>by
   obtain⟨x,hx,e⟩:=List.mem_map.1 hm
   obtain⟨j,hj',rfl⟩:=List.getElem_of_mem hx
   exact hj j hj' (by dsimp only at h;omega) e)]at this
  dsimp only[zB,Go.Gk.Sl.zw,zi,zu,zb,zh];rwa[decide_eq_false (by decide)]
end
section
variable {x:Mo} {pl:List PI} {w:World} {R:VWP}
theorem zif(hN:IsPl w x.2.2.1 pl)(hp:PlOk pl)
  (hok:∀fs L w',(layP x.2.1 pl).1=0->Below w.heap.size w w'->Fns w' fs L->L.map (·.1)=cutF pl pl.length->R (.tuple #[.slice fs.a fs.l fs.c,.agg #[.int .i64 0,.int .i64 0]]) w')
  (hbad:∀w',(layP x.2.1 pl).1≠0->Below w.heap.size w w'->R (.tuple #[.slice none 0 0,.agg #[.int .i64 (layP x.2.1 pl).1,.int .i64 ((layP x.2.1 pl).2:Int)]]) w') :
  cR 13 #[moA x] w R:=by
 refine zc.of (zhg x R w ?_) λ_ _ h=>h
 refine zl λw1 hB1 b1 z1=>?_
 have hB1:Blk w1 w.heap.size 25 (moV x):=hB1
 refine zl λw2 hC2 b2 z2=>?_
 have hC2:Blk w2 w1.heap.size 29 [.int .i64 0,.int .i64 0]:=hC2
 have hb2:=b1.on b2
 refine Mo.load (hB1.below b2) ?_
 refine zjI (x:=x) (hN.below hb2) hp (λbc ps fs L w3 hlay hC3 hP hL hF hcut hg=>⟨some (blk bc),(0,0,()),rfl,?_⟩) (λw3 b3 hne=>⟨none,((layP x.2.1 pl).1,((layP x.2.1 pl).2:Int),()),rfl,?_⟩)
 ·refine box2 rfl λw6 h6 b6 z6=>?_
  have b26:=hC3.b0.on b6
  have hCc:=(hC3.below b6).drew
  have hS6:=(hC2.below b26).drew
  have h6':=h6.drew
  refine zz rfl (ze rfl ?_)
  refine hCc.blk.rS (n:=22) (x:=fs) (zop hCc.len) ?_
  have s26:=b26.size
  refine Sp.load h6' (st2 hS6 rfl λw8 hS8 c8=>Sp.load hS8 ?_)
  have hL6:Fns w6.drew fs L:=(hL.below b6).below (Below.refl _ _).drew
  exact hok fs L w8 (by rw[hlay]) (c8.below ((hb2.on b26).drew) (by omega)) (hL6.chg c8 hS6 (by decide) (by decide) (by decide)) hcut.symm
 ·refine box2 rfl λw6 h6 b6 z6=>?_
  have b26:=b3.on b6
  have hS6:=(hC2.below b26).drew
  have h6':=h6.drew
  refine zH rfl (Sp.load h6' (st2 hS6 rfl λw8 hS8 c8=>Sp.load hS8 ?_))
  exact hbad w8 hne (c8.below ((hb2.on b26).drew) (by omega))
end
theorem zq0:Tryz.prog.underlying 104=some (.map 22 3):=by kernel_rfl
section
variable {w:World} {R:VWP} {r:Nat} {M:List (Int×Int)}
theorem zir{s:Sl}{ls:List Int}(hM:IsMp w r .i64 M)(hs:IsS (Value.int .u32) w s ls)(hmax:8*ls.length<=140737488355328)
  (hok:∀t w',(∀n∈ls,(zL M n).isSome=true)->Own w' 3 1 t ((ls.map λn=>(zL M n).getD 0).map (Value.int .i64))->zA w.heap.size t->Below w.heap.size w w'->R (.tuple #[.slice t.a t.l t.c,.bool true]) w')
  (hbad:∀w',(∃n∈ls,zL M n=none)->Below w.heap.size w w'->R (.tuple #[.slice none 0 0,.bool false]) w') :
  cR 37 #[.map (some r),.slice s.a s.l s.c] w R:=by
 refine zc.of (zcN (some r) s R w ?_) λ_ _ h=>h
 have hl:=hs.len
 refine zj.countSl ls.length hs.bound (λk t w'=>Own w' 3 1 t (((ls.take k).map λn=>(zL M n).getD 0).map (Value.int .i64))/\zA w.heap.size t/\Below w.heap.size w w'/\∀j (h:j<ls.length),j<k->(zL M ls[j]).isSome=true)
  ⟨Own.nil _ _ _,λa ha=>by(cases ha),Below.refl _ _,λj _ h=>by omega⟩ ?_
 rintro k t w1 hk ⟨hO,hF,hb,hj⟩ next hnext
 refine zg (λh=>?_) (λh=>?_)
 ·have hlt:k<ls.length:=by dsimp only at h;omega
  refine zbi (hs.below hb) hlt (zjA zq0 uU32 zInt (hM.below hb) ?_)
  refine zI (zn (λhsome=>?_) (λhnone=>?_))
  ·refine zl λw2 hD2 b2 z2=>?_
   have htl:t.l=k:=by
    have:=hO.1
    rw[List.length_map,List.length_map,List.length_take]at this
    omega
   refine ZS eInt (hO.below b2) (hb.on b2) hF rfl hD2 (by omega) (by omega) λt' w3 hO3 hb3 hF3=>hnext t' w3 hlt ⟨?_,hF3,hb3,λj q1 q2=>?_⟩
   ·rw[List.take_succ_eq_append_getElem hlt,List.map_append,List.map_append]
    exact hO3
   ·by_cases ej:j=k
    ·subst ej;exact hsome
    ·exact hj j q1 (by omega)
  ·have hnone:(zL M ls[k]).isSome=false:=hnone
   exact hbad w1 ⟨ls[k],List.getElem_mem hlt,by simpa using hnone⟩ hb
 ·have hk':k=ls.length:=by dsimp only at h;omega
  subst hk'
  rw[List.take_length]at hO
  refine hok t w1 (λn hn=>?_) hO hF hb
  obtain⟨j,hj',rfl⟩:=List.getElem_of_mem hn
  exact hj j hj' hj'
def mrgP(M:List (Int×Int))(op:Int)(al:List Ag)(lop:Int):Option Mg:=
 if op=247 then(match zL M (al.getD 0 ag0).2.1 with
  |some a=>some (if lop=251 then 3 else 1,a,-1)
  |none=>none)
 else if op=246 then(match zL M (al.getD 0 ag0).2.1,zL M (al.getD 1 ag0).2.1 with
  |some a,some b=>some (2,a,b)
  |_,_=>none)
 else some (0,-1,-1)
theorem ziH{i last:Ins}{al:List Ag}(hM:IsMp w r .i64 M)(hI:IsAg w i.2.2.2.1 al)(h1:i.1=247->0<al.length)(h2:i.1=246->1<al.length)
  (hR:∀(m:Mg) (b:Bool) w',Below w.heap.size w w'->(b=true->mrgP M i.1 al last.1=some m)->(b=false->mrgP M i.1 al last.1=none)->R (.tuple #[.agg #[.int .u8 m.1,.int .i64 m.2.1,.int .i64 m.2.2],.bool b]) w') :
  cR 36 #[.map (some r),inA i,inA last] w R:=by
 refine zc.of (zbY (some r) i last R w ?_) λ_ _ h=>h
 refine zl λw1 hA1 b1 z1=>?_
 have hA1:Blk w1 w.heap.size 50 (inV i):=hA1
 refine zl λw2 hB2 b2 z2=>?_
 have hB2:Blk w2 w1.heap.size 50 (inV last):=hB2
 refine zl λw3 hX3 b3 z3=>?_
 have hX3:Blk w3 w2.heap.size 106 [.int .u8 0,.int .i64 0,.int .i64 0]:=hX3
 refine box3 rfl λw7 hY7 b7 z7=>?_
 have hY7:Blk w7 w3.heap.size 106 (mgV (0,-1,-1)):=hY7
 have b17:=(b2.on b3).on b7
 have hb7:=b1.on b17
 have hA7:=hA1.below b17
 have hB7:=hB2.below (b3.on b7)
 have hX7:=hX3.below b7
 have hM7:=hM.below hb7
 have hI7:IsAg w7 i.2.2.2.1 al:=hI.below hb7
 have hal:=hI.len
 have out:∀{w':World} (y:Mg),Blk w' w2.heap.size 106 [.int .u8 0,.int .i64 0,.int .i64 0]->∀{K:Int->Int->Int->World->Prop},(∀w'',Chg w2.heap.size w' w''->K y.1 y.2.1 y.2.2 w'')->
   Wr w' (blk w2.heap.size)/\Nw (w'.setCell (blk w2.heap.size) (.int .u8 y.1)) λw10=>Wr w10 ((blk w2.heap.size).add 1)/\Nw (w10.setCell ((blk w2.heap.size).add 1) (.int .i64 y.2.1)) λw11=>Wr w11 ((blk w2.heap.size).add 2)/\Nw (w11.setCell ((blk w2.heap.size).add 2) (.int .i64 y.2.2)) λw12=>
    ldI w12 ((blk w2.heap.size).add 0) .u8 λx11=>ldI w12 ((blk w2.heap.size).add 1) .i64 λx12=>ldI w12 ((blk w2.heap.size).add 2) .i64 λx13=>K x11 x12 x13 w12:=λ{w'} y hX {K} hK=>
  st3 hX rfl λw'' hX'' c=>hX''.rI (n:=0) (x:=y.1) rfl (hX''.rI (n:=1) (x:=y.2.1) rfl (hX''.rI (n:=2) (x:=y.2.2) rfl (hK w'' c)))
 have ldY:∀{w':World},Blk w' w3.heap.size 106 (mgV (0,-1,-1))->∀{φ:Int->Int->Int->Prop},φ 0 (-1) (-1)->ldI w' ((blk w3.heap.size).add 0) .u8 λx8=>ldI w' ((blk w3.heap.size).add 1) .i64 λx9=>ldI w' ((blk w3.heap.size).add 2) .i64 λx10=>φ x8 x9 x10:=λ{w'} hY {φ} hφ=>
  hY.rI (n:=0) (x:=0) rfl (hY.rI (n:=1) (x:=-1) rfl (hY.rI (n:=2) (x:=-1) rfl hφ))
 refine hA7.rI0 (x:=i.1) rfl (zm (λe247=>?_) (λe247=>?_))
 ·have hl0:=h1 e247
  have hm:mrgP M i.1 al last.1=(match zL M (al.getD 0 ag0).2.1 with
    |some a=>some (if last.1=251 then 3 else 1,a,-1)
    |none=>none):=by unfold mrgP;rw[if_pos e247]
  refine hA7.rS (n:=3) (x:=i.2.2.2.1) rfl ?_
  refine zkg hI7 (k:=0) hl0 ?_
  refine zl λw8 hD8 b8 z8=>?_
  have hD8:Blk w8 w7.heap.size 22 (([al[0].2.1]:List Int).map (Value.int .u32)):=hD8
  refine zir (s:=⟨some (blk w7.heap.size),1,1⟩) (ls:=[al[0].2.1]) (hM7.below b8) (hD8.isS rfl rfl (Nat.le_refl _) (by dsimp only;omega)) (by simp) (λt w9 hs hO9 hF9 b9=>⟨t,true,rfl,zz rfl ?_⟩) (λw9 hn b9=>⟨⟨none,0,0⟩,false,rfl,zH rfl ?_⟩)
  ·have b79:=b8.on b9
   have hs0:=hs _ (List.mem_singleton.2 rfl)
   obtain⟨a,ha⟩:=Option.isSome_iff_exists.1 hs0
   rw[zt hl0,ha]at hm
   have hO9:Own w9 3 1 t ([a].map (Value.int .i64)):=by
    simp only[List.map_cons,List.map_nil,ha,Option.getD_some]at hO9⊢
    exact hO9
   refine zk.cut (λ(st:Int×Unit) w'=>w'=w9/\st.1=if last.1=251 then 3 else 1) ?_ ?_
   ·refine(hB7.below b79).rI0 (x:=last.1) rfl (zm (λe=>⟨rfl,?_⟩) (λe=>⟨rfl,?_⟩))
    ·rw[if_pos e]
    ·rw[if_neg e]
   ·rintro⟨kd,_⟩ w9 ⟨rfl,rfl⟩
    refine zd4 hO9.isS (k:=0) (by simp) ?_
    refine out (if last.1=251 then 3 else 1,a,-1) (hX7.below b79) λw12 c12=>?_
    exact hR _ true w12 (c12.below (hb7.on b79) (by have:=b1.size;have:=b2.size;omega)) (λ_=>hm) (λh=>by cases h)
  ·have b79:=b8.on b9
   obtain⟨n,hn1,hn2⟩:=hn
   rw[List.mem_singleton.1 hn1]at hn2
   rw[zt hl0,hn2]at hm
   refine ldY (hY7.below b79) (out (0,-1,-1) (hX7.below b79) λw12 c12=>?_)
   exact hR (0,-1,-1) false w12 (c12.below (hb7.on b79) (by have:=b1.size;have:=b2.size;omega)) (λh=>by cases h) (λ_=>hm)
 refine zm (λe246=>?_) (λe246=>?_)
 ·have hl0:=h2 e246
  have hm:mrgP M i.1 al last.1=(match zL M (al.getD 0 ag0).2.1,zL M (al.getD 1 ag0).2.1 with
    |some a,some b=>some (2,a,b)
    |_,_=>none):=by unfold mrgP;rw[if_neg e247,if_pos e246]
  have bd:Below w7.heap.size w7 w7.drew:=(Below.refl _ _).drew
  have hId:IsAg w7.drew i.2.2.2.1 al:=hI7.below bd
  refine hA7.drew.rS (n:=3) (x:=i.2.2.2.1) rfl ?_
  refine zkg hId (k:=0) (by omega) ?_
  refine hA7.drew.rS (n:=3) (x:=i.2.2.2.1) rfl ?_
  refine zkg hId (k:=1) hl0 ?_
  refine zl λw8 hD8 b8 z8=>?_
  have hD8:Blk w8 w7.drew.heap.size 22 (([al[0].2.1,al[1].2.1]:List Int).map (Value.int .u32)):=hD8
  have b78:=bd.on b8
  refine zir (s:=⟨some (blk w7.drew.heap.size),2,2⟩) (ls:=[al[0].2.1,al[1].2.1]) (hM7.below b78) (hD8.isS rfl rfl (Nat.le_refl _) (by dsimp only;omega)) (by simp) (λt w9 hs hO9 hF9 b9=>⟨t,true,rfl,zz rfl ?_⟩) (λw9 hn b9=>⟨⟨none,0,0⟩,false,rfl,zH rfl ?_⟩)
  ·have b79:=b78.on b9
   obtain⟨a,ha⟩:=Option.isSome_iff_exists.1 (hs al[0].2.1 (by simp))
   obtain⟨b,hb⟩:=Option.isSome_iff_exists.1 (hs al[1].2.1 (by simp))
   rw[zt (show 0<al.length by omega),zt hl0,ha,hb]at hm
   have hO9:Own w9 3 1 t ([a,b].map (Value.int .i64)):=by
    simp only[List.map_cons,List.map_nil,ha,hb,Option.getD_some]at hO9⊢
    exact hO9
   refine zd4 hO9.drew.isS (k:=0) (by simp) (zd4 hO9.drew.isS (k:=1) (by simp) ?_)
   refine out (2,a,b) ((hX7.below b79).drew) λw12 c12=>?_
   exact hR _ true w12 (c12.below ((hb7.on b79).drew) (by have:=b1.size;have:=b2.size;omega)) (λ_=>hm) (λh=>by cases h)
  ·have b79:=b78.on b9
   obtain⟨n,hn1,hn2⟩:=hn
   have hm':mrgP M i.1 al last.1=none:=by
    rw[hm,zt (show 0<al.length by omega),zt hl0]
    rcases List.mem_cons.1 hn1 with e |e
    ·rw[<-e,hn2]
    ·rw[<-List.mem_singleton.1 e,hn2]
     cases zL M al[0].2.1<;>rfl
   refine ldY (hY7.below b79) (out (0,-1,-1) (hX7.below b79) λw12 c12=>?_)
   exact hR (0,-1,-1) false w12 (c12.below (hb7.on b79) (by have:=b1.size;have:=b2.size;omega)) (λh=>by cases h) (λ_=>hm')
 ·refine ldY hY7 (out (0,-1,-1) hX7 λw12 c12=>?_)
  exact hR (0,-1,-1) true w12 (c12.below hb7 (by have:=b1.size;have:=b2.size;omega)) (λ_=>by unfold mrgP;rw[if_neg e247,if_neg e246]) (λh=>by cases h)
end
end Go.Proofs
namespace Go.Proofs
open Go.Gk Go.RowKit Go.Gm
theorem zjH{P:Program}{t e:TypeId}{sz bytes:Nat}(he:YR P t e sz bytes){w0 w:World}{s:Sl}{xs:List Value}(h:Own w e sz s xs)(hb:Below w0.heap.size w0 w)(hF:zA w0.heap.size s){vs:List Value}(hvs:vs.length=sz)(hv:∀u∈vs,u.oneCell'=true){b c:Nat}{T:TypeId}
  (hB:Blk w b T vs) (h63:s.l+1<=9223372036854775807) (hbytes:(s.l+1)*bytes<=140737488355328) {k:Sl->World->Prop}
  (hk:∀r w',Own w' e sz r (xs++vs)->Below w0.heap.size w0 w'->zA w0.heap.size r->w.heap.size<=w'.heap.size->(∀i,i<w.heap.size->s.a≠some (blk i)->w'.heap[i]? =w.heap[i]?)->k r w'):zC P t (.slice s.a s.l s.c) (.slice (some (blk b)) 1 c) w k:=by
 refine ZO he h (news:=vs) (by omega) (λj u hj=>hB.cell hj) hv h63 hbytes λr w' h1 hl' hg=>?_
 rcases hg with⟨_,_,h3⟩ | ⟨b',h3,h4,h5⟩
 ·rw[h3]at hl';omega
 ·have hbb:w0.heap.size<=b':=by
   rcases h4 with h4 |h4
   ·exact hF _ h4
   ·have:=hb.size
    omega
  refine hk r w' h1 (hb.trans (yC h5 hbb hb.size)) (λa ha=>by rw[h3]at ha;cases ha;exact hbb) (yC h5 (Nat.zero_le _) (Nat.zero_le _)).size λi hi hne=>h5.block _ hi λe=>?_
  have e:=Option.some.inj e
  subst e
  rcases h4 with h4 |h4
  ·exact hne h4
  ·omega
section
variable {w w' w0:World} {B:Nat} {s t:Sl} {pl:List PI} {p:PI}
theorem YN{T T':TypeId}{sz b:Nat}{xs cs:List Value}(h:Own w T sz s xs)(hB:Blk w b T' cs)(hT:T≠T'):s.a≠some (Gk.blk b):=λe=>by
 obtain⟨cs',h'⟩:=h.type e
 exact Blk.apart h' hB hT rfl
theorem zbp{T T':TypeId}{sz sz':Nat}{xs ys:List Value}(h:Own w T sz s xs)(k:Own w T' sz' t ys)(hT:T≠T'){a:Addr}(ha:t.a=some a):s.a≠some (Gk.blk a.block):=λe=>by
 obtain⟨cs',h'⟩:=k.type ha
 exact YN h h' hT e
end
end Go.Proofs
namespace Go.Proofs
open Go.Gk Go.RowKit Go.Gm
end Go.Proofs
namespace Go.Proofs
open Go.Gk Go.RowKit Go.Gm
def lblN(bk:List (Int×Int×Int)):Nat->List (Int×Int)
 | 0=>[]
 |k+1=>setL (lblN bk k) (bk.getD (k+1) (0,0,0)).1 ((k:Int)+1)
abbrev lblM(bk:List (Int×Int×Int)):List (Int×Int):=lblN bk (bk.length-1)
def fndP(M:List (Int×Int))(ls:List Int):Option (List Int):=if ls.all (λn=>(zL M n).isSome)=true then some (ls.map λn=>(zL M n).getD 0) else none
def blkM(pl:List PI)(bk:List (Int×Int×Int))(b:Int×Int×Int):Option Mg:=mrgP (lblM bk) (ix pl (b.2.2.toNat-2)).1 (ix pl (b.2.2.toNat-2)).2.2.2 (ix pl (b.2.2.toNat-1)).1
def blkT(pl:List PI)(b:Int×Int×Int):List Int:=tgtP (ix pl (b.2.2.toNat-1)).1 (ix pl (b.2.2.toNat-1)).2.2.2
def blkE(pl:List PI)(bk:List (Int×Int×Int))(b:Int×Int×Int):Option Int:=match blkM pl bk b with
 |none=>some (b.2.2-2)
 |some _=>match fndP (lblM bk) (blkT pl b) with
  |none=>some (b.2.2-1)
  |some _=>none
noncomputable def gnwE(x:Mo)(pl:List PI)(f:FnL):Int×Int:=
 if (yh x.2.1 pl).1≠0 then((yh x.2.1 pl).1,((yh x.2.1 pl).2:Int)) else if f ∉ cutF pl pl.length then(2,0) else if 4096<f.bk.length then(4,f.at_) else
  match f.bk.findSome? (blkE pl f.bk) with
  |some a=>(140,a)
  |none=>(0,0)
def mgsP(pl:List PI)(bk:List (Int×Int×Int)):List Mg:=bk.map λb=>(blkM pl bk b).getD (0,-1,-1)
def Y2(pl:List PI)(bk:List (Int×Int×Int)):List (List Int):=bk.map λb=>(fndP (lblM bk) (blkT pl b)).getD []
theorem ziC(bk:List (Int×Int×Int)):∀k n v,zL (lblN bk k) n=some v->1<=v/\v<=k
 | 0,n,v,h=>by cases h
 |k+1,n,v,h=>by
  simp only[lblN]at h
  rw[zhj]at h
  split at h
  ·cases h;omega
  ·have:=ziC bk k n v h;omega
theorem zj0{M:List (Int×Int)}{ls:List Int}(h:∀n∈ls,(zL M n).isSome=true):fndP M ls=some (ls.map λn=>(zL M n).getD 0):=by
 unfold fndP
 rw[if_pos (List.all_eq_true.2 h)]
theorem zns{M:List (Int×Int)}{ls:List Int}(h:∃n∈ls,zL M n=none):fndP M ls=none:=by
 unfold fndP
 obtain⟨n,hn,e⟩:=h
 rw[if_neg]
 intro ha
 have:=List.all_eq_true.1 ha n hn
 rw[e]at this
 cases this
theorem Yy{α β:Type}{f:α->Option β}:∀{l:List α} {k:Nat} (hk:k<l.length) {v:β},f l[k]=some v->(∀j (h:j<l.length),j<k->f l[j]=none)->l.findSome? f=some v
 |a::l,0,_,v,h,_=>by
  rw[List.findSome?_cons]
  have h:f a=some v:=h
  rw[h]
 |a::l,k+1,hk,v,h,hj=>by
  rw[List.findSome?_cons]
  have h0:f a=none:=hj 0 (by simp) (by omega)
  rw[h0]
  exact Yy (l:=l) (k:=k) (by simpa using hk) h λj h1 h2=>hj (j+1) (by simpa using h1) (by omega)
theorem zh2{α β:Type}{f:α->Option β}{l:List α}(hj:∀j (h:j<l.length),f l[j]=none):l.findSome? f=none:=by
 rw[List.findSome?_eq_none_iff]
 intro a ha
 obtain⟨j,h,rfl⟩:=List.getElem_of_mem ha
 exact hj j h
theorem zp6(op:Int)(al:List Ag):(tgtP op al).length<=al.length:=by
 unfold tgtP
 split
 ·exact zlF op al al.length
 ·simp
theorem zoi:(match frm 247 with |some f=>decide (1<=f.fixed.length) |none=>false)=true:=by decide +kernel
theorem zoh:(match frm 246 with |some f=>decide (2<=f.fixed.length) |none=>false)=true:=by decide +kernel
theorem zpE{f:Fl}{n:Nat}(h:YO f n=true):f.fixed.length<=n:=by
 unfold YO at h
 split at h
 ·cases h
 ·omega
theorem zmu{p:PI}{b:Int}(h:ZQ p b=0):(p.1=247->0<p.2.2.2.length)/\(p.1=246->1<p.2.2.2.length):=by
 obtain⟨f,hf,_,_,_,hw,_⟩:=ze1 h
 have hl:=zpE hw
 refine⟨λe=>?_,λe=>?_⟩
 ·have h1:=zoi
  rw[e]at hf
  rw[hf]at h1
  have:=of_decide_eq_true h1
  omega
 ·have h1:=zoh
  rw[e]at hf
  rw[hf]at h1
  have:=of_decide_eq_true h1
  omega
theorem IsGB.mono{w:World}{B B' gb:Nat}{nx:List (List Nat)}(h:IsGB w B gb nx)(hb:B'<=B):IsGB w B' gb nx:=by
 obtain⟨hg,sn,sa,wk,od,bs,hn,ha,h1,h2,h3,h4,h5,h6,f1,f2,f3,f4,f5,f6⟩:=h
 have st:∀{s:Sl},zA B s->zA B' s:=λh a ha=>Nat.le_trans hb (h a ha)
 exact⟨Nat.le_trans hb hg,sn,sa,wk,od,bs,hn,ha,h1,h2,h3,h4,h5,h6,st f1,st f2,st f3,st f4,λi h=>st (f5 i h),λi h=>st (f6 i h)⟩
section
variable {x:Mo} {pl:List PI} {w:World} {R:VWP} {v:Fv} {f:FnL}
theorem zqA{w:World}{s:Sl}{pl:List PI}(h:IsPl w s pl){k:Nat}(hk:k<pl.length){φ:Addr->Int->Int->Int->Sl->Prop}
  (hφ:∀a t,(∀j,j<4->w.cell? ((a.add (Int.toNat (k:Int)*4)).add j)=(inV (mkIn pl[k] t))[j]?)->IsAg w t pl[k].2.2.2->φ a pl[k].1 pl[k].2.1 pl[k].2.2.1 t) :
  (0<=(k:Int)/\(k:Int)<(s.l:Int))/\za s.a λa=>ldI w ((a.add (Int.toNat (k:Int)*4)).add 0) .u16 λx=>ldI w ((a.add (Int.toNat (k:Int)*4)).add 1) .u32 λy=>ldI w ((a.add (Int.toNat (k:Int)*4)).add 2) .u32 λz=>ldS w ((a.add (Int.toNat (k:Int)*4)).add 3) λt=>φ a x y z t:=by
 obtain⟨a,ha⟩:=h.base hk
 obtain⟨t,h1,h2⟩:=h.elem a ha k hk
 have hc:∀j,j<4->w.cell? ((a.add (Int.toNat (k:Int)*4)).add j)=(inV (mkIn pl[k] t))[j]?:=λj hj=>by rw[zs];exact h1 j hj
 exact⟨⟨by omega,by have:=h.len;omega⟩,ze ha ⟨_,hc 0 (by omega),_,hc 1 (by omega),_,hc 2 (by omega),t,hc 3 (by omega),hφ a t hc h2⟩⟩
theorem eRow:YR Tryz.prog 67 43 1 24:=⟨by kernel_rfl,Tryz.t43,.slice none 0 0,by kernel_rfl,rfl,rfl,rfl,rfl⟩
set_option maxHeartbeats 1000000 in
theorem zi5(hN:IsPl w x.2.2.1 pl)(hp:PlOk pl)(h0:0<=x.2.1)(hf:IsFn w v f)
  (hbad:∀w' e a,Below w.heap.size w w'->(e,a)=gnwE x pl f->e≠0->R (.tuple #[.pointer none,.slice none 0 0,.agg #[.int .i64 e,.int .i64 a]]) w')
  (hok:∀w' gb ms,Below w.heap.size w w'->gnwE x pl f=(0,0)->f∈cutF pl pl.length->IsGB w' w.heap.size gb (Zz (Y2 pl f.bk))->NxOk (Zz (Y2 pl f.bk))->IsM w' ms (mgsP pl f.bk)->R (.tuple #[.pointer (some (blk gb)),.slice ms.a ms.l ms.c,.agg #[.int .i64 0,.int .i64 0]]) w') :
  cR 14 #[moA x,fvA v] w R:=by
 refine zc.of (zhO x v R w ?_) λ_ _ h=>h
 refine zl λw1 hB1 b1 z1=>?_
 have hB1:Blk w1 w.heap.size 25 (moV x):=hB1
 refine zl λw2 hV2 b2 z2=>?_
 have hV2:Blk w2 w1.heap.size 46 (fvV v):=hV2
 refine zl λw3 hS3 b3 z3=>?_
 have hS3:Blk w3 w2.heap.size 29 [.int .i64 0,.int .i64 0]:=hS3
 have b13:=b2.on b3
 have hb3:=b1.on b13
 refine Mo.load (hB1.below b13) ?_
 refine zie (x:=x) (hN.below hb3) hp λw4 b4=>⟨((yh x.2.1 pl).1,((yh x.2.1 pl).2:Int),()),rfl,?_⟩
 refine box2 rfl λw7 h7 b7 z7=>?_
 have b37:=b4.on b7
 have hb7:=hb3.on b37
 have hB7:=(hB1.below b13).below b37
 have hV7:=(hV2.below b3).below b37
 have hS7:=hS3.below b37
 have s2:=b1.size
 have bad:∀{w':World} (e a:Int),Blk w' w2.heap.size 29 [.int .i64 0,.int .i64 0]->Below w.heap.size w w'->(e,a)=gnwE x pl f->e≠0->
   Wr w' (blk w2.heap.size)/\Nw (w'.setCell (blk w2.heap.size) (.int .i64 e)) λw8=>Wr w8 ((blk w2.heap.size).add 1)/\Nw (w8.setCell ((blk w2.heap.size).add 1) (.int .i64 a)) λw9=>ldI w9 ((blk w2.heap.size).add 0) .i64 λx9=>ldI w9 ((blk w2.heap.size).add 1) .i64 λx10=>
    R (.tuple #[.pointer none,.slice none 0 0,.agg #[.int .i64 x9,.int .i64 x10]]) w9:=λ{w'} e a hS hb he hne=>
  st2 hS rfl λw9 hS9 c9=>Sp.load hS9 (hbad w9 e a (c9.below hb (by omega)) he hne)
 refine h7.rI0 rfl (zE (λe=>?_) (λe=>?_))
 ·have e':(yh x.2.1 pl).1≠0:=e
  exact Sp.load h7.drew (bad _ _ hS7.drew hb7.drew (by unfold gnwE;rw[if_pos e']) e')
 have e':(yh x.2.1 pl).1=0:=e
 obtain⟨k1,k2,k3⟩:=zez e'
 have hsh:=ze3 k2
 refine Mo.load hB7 ?_
 refine zif (x:=x) (hN.below hb7) hp (λfs L w10 _ b10 hL hLc=>⟨fs,(0,0,()),rfl,?_⟩) (λw10 hne _=>absurd k2 hne)
 refine box2 rfl λw13 h13 b13' z13=>?_
 have b713:=b10.on b13'
 have hb13:=hb7.on b713
 refine zk5 (v:=v) (f:=f) (hL.below b13') (hV7.below b713) (hf.below hb13) λw14 b14=>⟨_,rfl,?_⟩
 rw[hLc]
 have b714:=b713.on b14
 have hb14:=hb7.on b714
 have hB14:=hB7.below b714
 have hV14:=hV7.below b714
 have hS14:=hS7.below b714
 refine zI (zg (λhin=>?_) (λhin=>?_))
 rotate_left
 ·exact bad 2 0 hS14 hb14 (by unfold gnwE;rw[if_neg (λh=>h e'),if_pos hin]) (by decide)
 have hFn:=zmb k2 f hin
 have hbl:=(hf.bk).len
 have hbc:=(hf.bk).cap
 have hbmax:=(hf.bk).bound
 refine hV14.rS (n:=3) (x:=v.2.2.2.1) rfl (zg (λhgt=>?_) (λhle=>?_))
 ·refine hV14.drew.rI (n:=1) (x:=v.2.1) rfl ?_
  exact bad 4 v.2.1 hS14.drew hb14.drew (by unfold gnwE;rw[if_neg (λh=>h e'),if_neg (λh=>h hin),if_pos (by omega),hf.at_]) (by decide)
 have hle:f.bk.length<=4096:=by omega
 have hpos:0<f.bk.length:=List.length_pos_iff.2 hFn.ne
 have hgn:gnwE x pl f=(match f.bk.findSome? (blkE pl f.bk) with
   |some a=>(140,a)
   |none=>(0,0)):=by unfold gnwE;rw[if_neg (λh=>h e'),if_neg (λh=>h hin),if_neg (by omega)]
 refine Nw.gen λw19 e19=>?_
 have m19:IsMp w19 w14.heap.size .i64 []:=by rw[e19];exact IsMp.new _ _
 have b19:Below w14.heap.size w14 w19:=by rw[e19];exact(Below.refl _ _).alloc (Nat.le_refl _) _
 have z19:w19.heap.size=w14.heap.size+1:=by rw[e19];simp
 clear e19
 have hV19:=hV14.below b19
 refine hV19.rS (n:=3) (x:=v.2.2.2.1) rfl ⟨⟨by omega,by omega,by omega⟩,?_⟩
 obtain⟨ab,hab⟩:=(hf.bk).base hpos
 have hb19:=hb14.on b19
 refine zj.count (f.bk.length-1) (by omega) (λk w'=>Below w14.heap.size w19 w'/\IsMp w' w14.heap.size .i64 (lblN f.bk k)) ⟨Below.refl _ _,m19⟩ ?_
 rintro k w20 hk ⟨f20,m20⟩ next hnext
 have b20:Below w14.heap.size w14 w20:=b19.trans f20
 have hb20:=hb14.on b20
 have s20:=f20.size
 rw[hbl]
 refine zg (λh=>?_) (λh=>?_)
 ·have hlt:k+1<f.bk.length:=by dsimp only at h;omega
  have hcell:=(IsC.below yU hf.bk hb20).cell ab hab (k+1) hlt
  refine⟨⟨by omega,by omega⟩,?_⟩
  rw[if_neg (by omega),hab]
  refine ze rfl ?_
  have ec:∀j,((ab.add (1*3)).add (Int.toNat (k:Int)*3)).add j=ab.add ((k+1)*3+j):=λj=>by
   rw[zs,zs,show Int.toNat (k:Int)=k from rfl]
   congr 1
   omega
  dsimp only[dl,dm,zB,Go.Gk.Sl.zw,zi,zu,zb,zh];rw[ec,ec,ec]
  refine⟨_,hcell 0 (by omega),_,hcell 1 (by omega),_,hcell 2 (by omega),?_⟩
  refine box3 rfl λw24 h24 b24 z24=>?_
  refine h24.rI0 rfl ?_
  rw[zr (by omega)]
  refine zna zq0 uU32 (m20.below b24) λw25 m25 c25=>?_
  have hn25:=hnext w25 (by omega)
  rw[zr (by omega)]at hn25
  refine hn25 ⟨f20.trans (c25.below (b24.mono (by omega)) (Nat.le_refl _)),?_⟩
  simp only[lblN]
  rw[zt hlt]
  exact m25
 have hk':k=f.bk.length-1:=by dsimp only at h;omega
 subst hk'
 have m20:IsMp w20 w14.heap.size .i64 (lblM f.bk):=m20
 have hV20:=hV14.below b20
 have hB20:=hB14.below b20
 have hS20:=hS14.below b20
 have lM:=m20.lt
 have hN20:=hN.below hb20
 have hbk20:IsBk w20 v.2.2.2.1 f.bk:=IsC.below yU hf.bk hb20
 have hl:=hN.len
 have h40:=hp.len
 refine hV20.rS (n:=3) (x:=v.2.2.2.1) rfl ?_
 rw[hbl]
 refine zj.ghost (λj (st:Sl×Sl×Int×Unit) w'=>∃(k:Nat) (nx mg:Sl) (hs:List Sl),st=(nx,mg,(k:Int),())/\j=f.bk.length-k/\k<=f.bk.length/\Below w20.heap.size w20 w'/\hs.length=k/\Own w' 43 1 nx (hs.map Sl.val)/\zA w20.heap.size nx/\
  (∀i (h:i<hs.length) (h':i<(Y2 pl f.bk).length),Own w' 3 1 hs[i] ((Y2 pl f.bk)[i].map (Value.int .i64))/\zA w20.heap.size hs[i])/\Own w' 106 3 mg (flat mgV ((mgsP pl f.bk).take k))/\zA w20.heap.size mg/\
  ∀i (h:i<f.bk.length),i<k->blkE pl f.bk f.bk[i]=none) f.bk.length
  ⟨0,⟨none,0,0⟩,⟨none,0,0⟩,[],rfl,rfl,Nat.zero_le _,Below.refl _ _,rfl,Own.nil _ _ _,λa ha=>(by cases ha),λi h=>(by cases h),Own.nil _ _ _,λa ha=>(by cases ha),λi _ h=>by omega⟩ ?_
 clear hnext
 rintro _ _ w26 ⟨k,nx,mg,hs,rfl,rfl,hk,b26,hhl,hnx,hnxF,hrow,hmg,hmgF,hgood⟩ next hnext
 have hb26:=hb20.on b26
 dsimp only
 refine zg (λh=>?_) (λh=>?_)
 ·have hkl:k<f.bk.length:=by omega
  obtain⟨fr,to_,hbq,hft,htl,h248,h8f,hend,h8t⟩:=(hFn.ok _ (List.getElem_mem hkl)).ex
  have hto:f.bk[k].2.2=(to_:Int):=by rw[hbq]
  have elB:∀{φ:Int->Int->Int->Prop},φ f.bk[k].1 f.bk[k].2.1 f.bk[k].2.2->(0<=(k:Int)/\(k:Int)<((f.bk.length:Nat):Int))/\za v.2.2.2.1.a λa=>ldI w26 ((a.add (Int.toNat (k:Int)*3)).add 0) .u32 λx=>ldI w26 ((a.add (Int.toNat (k:Int)*3)).add 1) .i64 λy=>ldI w26 ((a.add (Int.toNat (k:Int)*3)).add 2) .i64 λz=>φ x y z:=λhφ=>by
   have:=zgT (IsC.below yU hbk20 b26) hkl hφ
   rwa[hbl]at this
  refine elB ?_
  refine box3 rfl λw30 hK30 b30 z30=>?_
  have hK30:Blk w30 w26.heap.size 42 (blV f.bk[k]):=hK30
  have b2030:=b26.on b30
  have hB30:=hB20.below b2030
  refine hB30.rS (n:=2) (x:=x.2.2.1) rfl (hK30.rI (n:=2) (x:=f.bk[k].2.2) rfl ?_)
  rw[hto]
  have et1:IntKind.i64.wrap ((to_:Int)-1)=((to_-1:Nat):Int):=by rw[zy (by omega) (by omega)];omega
  have et2:IntKind.i64.wrap ((to_:Int)-2)=((to_-2:Nat):Int):=by rw[zy (by omega) (by omega)];omega
  rw[et1]
  have h1l:to_-1<pl.length:=by omega
  have h2l:to_-2<pl.length:=by omega
  have ei1:ix pl (to_-1)=pl[to_-1]:=Zm h1l
  have ei2:ix pl (to_-2)=pl[to_-2]:=Zm h2l
  refine zbV (hN20.below b2030) h1l λtl htl'=>?_
  refine box4 rfl λw35 hL35 b35 z35=>?_
  have hL35:Blk w35 w30.heap.size 50 (inV (mkIn pl[to_-1] tl)):=hL35
  have b2035:=b2030.on b35
  have bd:Below w35.heap.size w35 w35.drew:=(Below.refl _ _).drew
  have b2035d:=b2035.on bd
  have hMargs:=zmu ((zam hsh).2 (to_-2) h2l)
  have hbM:blkM pl f.bk f.bk[k]=mrgP (lblM f.bk) pl[to_-2].1 pl[to_-2].2.2.2 pl[to_-1].1:=by
   unfold blkM
   rw[hto,Int.toNat_natCast,ei1,ei2]
  have hbT:blkT pl f.bk[k]=tgtP pl[to_-1].1 pl[to_-1].2.2.2:=by
   unfold blkT
   rw[hto,Int.toNat_natCast,ei1]
  have s26:=b26.size
  have s30:=b30.size
  have s35:=b35.size
  refine zk.cut (λ(st:(Option Addr)×Bool×Unit) w'=>∃(mb:Nat) (m:Mg) (ok:Bool),st=(some (blk mb),ok,())/\Blk w' mb 106 (mgV m)/\Below w35.heap.size w35 w'/\(ok=true->blkM pl f.bk f.bk[k]=some m)/\(ok=false->blkM pl f.bk f.bk[k]=none)) ?_ ?_
  ·refine(hB30.below b35).drew.rS (n:=2) (x:=x.2.2.1) rfl ((hK30.below b35).drew.rI (n:=2) (x:=f.bk[k].2.2) rfl ?_)
   rw[hto,et2]
   refine zqA ((hN20.below b2035d)) h2l λaM ti hcM hti=>?_
   refine Ins.load (x:=mkIn pl[to_-1] tl) hL35.drew ⟨?_,?_⟩
   ·refine ziH (i:=mkIn pl[to_-2] ti) (last:=mkIn pl[to_-1] tl) (m20.below b2035d) hti hMargs.1 hMargs.2 λm b w36 b36 hm1 hm2=>⟨(m.1,m.2.1,m.2.2,()),b,rfl,?_⟩
    refine box3 rfl λw40 hX40 b40 z40=>?_
    exact⟨w36.heap.size,m,b,rfl,hX40,(bd.on b36).on b40,λhb=>by rw[hbM];exact hm1 hb,λhb=>by rw[hbM];exact hm2 hb⟩
   ·refine zl λw41 hX41 b41 z41=>?_
    have hX41:Blk w41 w35.drew.heap.size 106 [.int .u8 0,.int .i64 0,.int .i64 0]:=hX41
    have hL41:=hL35.drew.below b41
    have hK41:=((hK30.below b35).drew).below b41
    have hB41:=((hB30.below b35).drew).below b41
    have hcM41:∀j vv,(inV (mkIn pl[to_-2] ti))[j]? =some vv->j<4->w41.cell? ((aM.add (Int.toNat ((to_-2:Nat):Int)*4)).add j)=some vv:=λj vv hv hj=>z0 b41 ((hcM j hj).trans hv)
    refine⟨hL41.cell (n:=0) rfl,hL41.cell (n:=1) rfl,hL41.cell (n:=2) rfl,hL41.cell (n:=3) rfl,hcM41 0 _ rfl (by omega),hcM41 1 _ rfl (by omega),hcM41 2 _ rfl (by omega),hcM41 3 _ rfl (by omega),?_,hB41.cell (n:=2) rfl,?_⟩
    ·rw[<-hto]
     exact hK41.cell (n:=2) rfl
    refine ziH (i:=mkIn pl[to_-2] ti) (last:=mkIn pl[to_-1] tl) ((m20.below b2035d).below b41) (IsAg.below hti b41) hMargs.1 hMargs.2 λm b w42 b42 hm1 hm2=>⟨(m.1,m.2.1,m.2.2,()),b,rfl,?_⟩
    have b4142:=b41.on b42
    refine st3 (hX41.below b42) rfl λw45 hX45 c45=>?_
    exact⟨w35.drew.heap.size,m,b,rfl,hX45,c45.below (bd.on b4142) (Nat.le_refl _),λhb=>by rw[hbM];exact hm1 hb,λhb=>by rw[hbM];exact hm2 hb⟩
  rintro _ w46 ⟨mb,m,ok,rfl,hX46,b46,hm1,hm2⟩
  have b2046:=b2035.on b46
  have b2646:=(b30.on b35).on b46
  have hb46:=hb20.on b2046
  have hK46:=(hK30.below b35).below b46
  have hS46:=hS20.below b2046
  dsimp only
  refine zI (zn (λhokt=>?_) (λhokf=>?_))
  rotate_left
  ·have hnone:=hm2 hokf
   have hE:blkE pl f.bk f.bk[k]=some ((to_:Int)-2):=by unfold blkE;rw[hnone,hto]
   refine hK46.drew.rI (n:=2) (x:=f.bk[k].2.2) rfl ?_
   rw[hto,et2]
   refine bad 140 ((to_-2:Nat):Int) hS46.drew hb46.drew ?_ (by decide)
   rw[hgn,Yy hkl hE λj h1 h2=>hgood j h1 h2]
   dsimp only
   congr 1
   omega
  have hsome:=hm1 hokt
  have hL46:=hL35.below b46
  have hal24:=hp.args _ (List.getElem_mem h1l)
  refine Ins.load (x:=mkIn pl[to_-1] tl) hL46 ?_
  refine zjW (x:=mkIn pl[to_-1] tl) ((IsAg.below htl' b35).below b46) hal24 λtg w49 htg htgF b49=>⟨tg,rfl,?_⟩
  have htg:Own w49 22 1 tg ((tgtP pl[to_-1].1 pl[to_-1].2.2.2).map (Value.int .u32)):=htg
  have hlenT:=zp6 pl[to_-1].1 pl[to_-1].2.2.2
  have b2049:=b2046.on b49
  refine zir (M:=lblM f.bk) (m20.below b2049) htg.isS (by omega) (λt w50 hall hO50 hF50 b50=>⟨t,true,rfl,zz rfl ?_⟩) (λw50 hnone b50=>⟨⟨none,0,0⟩,false,rfl,zH rfl ?_⟩)
  rotate_left
  ·have b4650:=b49.on b50
   have hE:blkE pl f.bk f.bk[k]=some ((to_:Int)-1):=by unfold blkE;rw[hsome,hbT,zns hnone,hto]
   refine(hK46.below b4650).drew.rI (n:=2) (x:=f.bk[k].2.2) rfl ?_
   rw[hto,et1]
   refine bad 140 ((to_-1:Nat):Int) (hS46.below b4650).drew (hb46.on b4650).drew ?_ (by decide)
   rw[hgn,Yy hkl hE λj h1 h2=>hgood j h1 h2]
   dsimp only
   congr 1
   omega
  have b4650:=b49.on b50
  have hX50:=hX46.below b4650
  have hE:blkE pl f.bk f.bk[k]=none:=by unfold blkE;rw[hsome,hbT,zj0 hall]
  refine ze rfl ?_
  refine hX50.rI (n:=0) (x:=m.1) rfl (hX50.rI (n:=1) (x:=m.2.1) rfl (hX50.rI (n:=2) (x:=m.2.2) rfl ?_))
  refine zl λw53 hY53 b53 z53=>?_
  have hY53:Blk w53 w50.heap.size 106 (mgV m):=hY53
  have b2653:=(b2646.on b4650).on b53
  have b2053:=b26.on b2653
  have hmgl:mg.l=k:=by
   have:=hmg.1
   rw[ym zhW,List.length_take]at this
   unfold mgsP at this
   rw[List.length_map]at this
   omega
  refine zjH (w0:=w20) eMg (hmg.below b2653) b2053 hmgF rfl (by simp[Value.oneCell']) hY53 (by omega) (by omega) λmg' w54 q1 q2 q3 q4 q5=>?_
  refine zl λw55 hZ55 b55 z55=>?_
  have hZ55:Blk w55 w54.heap.size 43 [Sl.val t]:=hZ55
  have hnx54:Own w54 43 1 nx (hs.map Sl.val):=(hnx.below b2653).of_block λa ha=>q5 _ ((hnx.below b2653).lt ha).2 (zbp (hmg.below b2653) (hnx.below b2653) (by decide) ha)
  have ht53:=hO50.below b53
  have ht54:Own w54 3 1 t _:=ht53.of_block λa ha=>q5 _ (ht53.lt ha).2 (zbp (hmg.below b2653) ht53 (by decide) ha)
  have hnxl:nx.l=k:=by
   have:=hnx.1
   rw[List.length_map]at this
   omega
  have q2':=q2.on b55
  refine zjH (w0:=w20) eRow (hnx54.below b55) q2' hnxF rfl (by simp[Value.oneCell',Sl.val]) hZ55 (by omega) (by omega) λnx' w56 u1 u2 u3 u4 u5=>?_
  have hnx55:=hnx54.below b55
  rw[zr (by omega)]
  refine hnext (f.bk.length-(k+1)) _ _ (by omega) ⟨k+1,nx',mg',hs++[t],rfl,rfl,hkl,u2,by simp[hhl],?_,u3,λi h1 h2=>?_,?_,q3,λi h1 h2=>?_⟩
  ·rw[List.map_append]
   exact u1
  ·have keepI:∀{s:Sl} {xs:List Value},Own w53 3 1 s xs->Own w56 3 1 s xs:=λ{s xs} ho=>by
    have ho54:Own w54 3 1 s xs:=ho.of_block λa ha=>q5 _ (ho.lt ha).2 (zbp (hmg.below b2653) ho (by decide) ha)
    have ho55:=ho54.below b55
    exact ho55.of_block λa ha=>u5 _ (ho55.lt ha).2 (zbp hnx55 ho55 (by decide) ha)
   by_cases e:i<hs.length
   ·rw[List.getElem_append_left e]
    obtain⟨g1,g2⟩:=hrow i e h2
    exact⟨keepI (g1.below b2653),g2⟩
   ·have ei:i=k:=by simp at h1;omega
    subst ei
    have er:(hs++[t])[i]'h1=t:=by rw[List.getElem_append_right (by omega)];simp[hhl]
    rw[er]
    refine⟨?_,λa ha=>by have:=hF50 a ha;have:=b2049.size;omega⟩
    have:(Y2 pl f.bk)[i]=(tgtP pl[to_-1].1 pl[to_-1].2.2.2).map λn=>(zL (lblM f.bk) n).getD 0:=by
     refine(List.getElem_map (λb=>(fndP (lblM f.bk) (blkT pl b)).getD [])).trans ?_
     rw[hbT,zj0 hall]
     rfl
    rw[this]
    exact keepI ht53
  ·have hmk:(mgsP pl f.bk).take (k+1)=(mgsP pl f.bk).take k++[m]:=by
    have hlm:k<(mgsP pl f.bk).length:=by unfold mgsP;rw[List.length_map];exact hkl
    rw[List.take_succ_eq_append_getElem hlm]
    congr 2
    refine(List.getElem_map (λb=>(blkM pl f.bk b).getD (0,-1,-1))).trans ?_
    rw[hsome]
    rfl
   rw[hmk,zgU]
   have q1':=q1.below b55
   exact q1'.of_block λa ha=>u5 _ (q1'.lt ha).2 (zbp hnx55 q1' (by decide) ha)
  ·by_cases e:i=k
   ·subst e;exact hE
   ·exact hgood i h1 (by omega)
 ·have hkk:k=f.bk.length:=by omega
  subst hkk
  have hrl:(Y2 pl f.bk).length=f.bk.length:=by unfold Y2;rw[List.length_map]
  have hml:(mgsP pl f.bk).length=f.bk.length:=by unfold mgsP;rw[List.length_map]
  have hg0:gnwE x pl f=(0,0):=by rw[hgn,zh2 λj hj=>hgood j hj hj]
  rw[<-hml,List.take_length]at hmg
  have hII:IsII w26 nx hs (Y2 pl f.bk):=⟨hnx.isS,by rw[hhl,hrl],λi h1 h2=>(hrow i h1 h2).1.isS⟩
  have hGood:Good (Y2 pl f.bk):=by
   intro l hl' y hy
   obtain⟨b,hb,rfl⟩:=List.mem_map.1 hl'
   cases hfd:fndP (lblM f.bk) (blkT pl b) with
   |none=>rw[hfd]at hy;cases hy
   |some l=>
    rw[hfd]at hy
    unfold fndP at hfd
    split at hfd
    ·rename_i hall
     cases hfd
     obtain⟨n,hn,rfl⟩:=List.mem_map.1 hy
     have hs1:=List.all_eq_true.1 hall n hn
     obtain⟨u,hu⟩:=Option.isSome_iff_exists.1 hs1
     rw[hu,Option.getD_some]
     have:=ziC f.bk _ n u hu
     rw[hrl]
     omega
    ·cases hfd
  refine zjc hII (λh=>by rw[hrl]at h;omega) (λh=>by rw[hrl]at h;omega) (λ_ _ hng=>absurd hGood hng) λq1 q2 q3 w57 gb b57 hG _=>⟨some (blk gb),0,rfl,?_⟩
  have b2057:=b26.on b57
  refine st2 (hS20.below b2057) rfl λw59 hS59 c59=>Sp.load hS59 ?_
  have hb57:=hb20.on b2057
  have hM57:=hmg.below b57
  refine hok w59 gb mg (c59.below hb57 (by omega)) hg0 hin ?_ (zkP q1 q2 q3) ?_
  ·exact(hG.keep λk k1 _=>c59.block k (by have:=b26.size;have:=hS20.lt;omega)).mono (hb20.on b26).size
  ·exact Own.isC zhW (by omega) (hM57.of_block λa ha=>c59.block _ λe=>by
    obtain⟨cs,hc⟩:=hM57.type ha
    exact Blk.apart hc (hS20.below b2057) (by decide) e)
theorem znu(hN:IsPl w x.2.2.1 pl)(hp:PlOk pl)(h0:0<=x.2.1)(hf:IsFn w v f)
  (hbad:∀w' e a,Below w.heap.size w w'->(e,a)=gnwE x pl f->e≠0->R (.tuple #[.pointer none,.slice none 0 0,.agg #[.int .i64 e,.int .i64 a]]) w')
  (hok:∀w' gb ms,Below w.heap.size w w'->gnwE x pl f=(0,0)->f∈cutF pl pl.length->IsG w' gb (Zz (Y2 pl f.bk))->NxOk (Zz (Y2 pl f.bk))->IsM w' ms (mgsP pl f.bk)->R (.tuple #[.pointer (some (blk gb)),.slice ms.a ms.l ms.c,.agg #[.int .i64 0,.int .i64 0]]) w') :
  cR 14 #[moA x,fvA v] w R:=by
 exact zi5 hN hp h0 hf hbad λw' gb ms h1 h2 h3 h4 h5 h6=>hok w' gb ms h1 h2 h3 h4.isG h5 h6
end
end Go.Proofs
namespace Go.Proofs
open Go.Gk Go.RowKit Go.Gm
theorem Chg.same{b:Nat}{T:TypeId}{cs:List Value}{w w':World}(c:Chg b w w')(h:Blk w b T cs)(h':Blk w' b T cs):Below w.heap.size w w':=
 ⟨c.os,c.tape,c.output,Nat.le_of_eq c.size.symm,λk _=>by
  by_cases e:k=b
  ·subst e;exact h'.trans h.symm
  ·exact c.block k e⟩
theorem zmm:(match frm 248 with |some f=>f.re |none=>false)=true:=by decide +kernel
theorem zld{bd:Int}{pl:List PI}(hs:(zK bd pl).1=0){k:Nat}(hk:k<pl.length)(h:(ix pl k).1=248):(ix pl k).2.2.1≠0:=by
 have hf:=(zam hs).2 k hk
 rw[Zm hk]at h⊢
 obtain⟨f,hf,_,h2,_⟩:=ze1 hf
 have h1:=zmm
 rw[h]at hf
 rw[hf]at h1
 have h1:f.re=true:=h1
 rw[h1]at h2
 intro e
 rw[e]at h2
 simp[idP]at h2
theorem BkOk.label{pl:List PI}{n:Nat}{b:Int×Int×Int}(h:BkOk pl n b):∃f:Nat,b.1=(ix pl f).2.2.1/\b.2.1=(f:Int)/\f<n/\(ix pl f).1=248:=by
 obtain⟨f,t,rfl,h2,h3,h4,_⟩:=h.ex
 exact⟨f,rfl,rfl,by omega,h4⟩
theorem zkm{bd:Int}{pl:List PI}(hp:PlOk pl)(h0:0<=bd)(h:(yh bd pl).1=0){f:FnL}(hf:FnOk pl pl.length f):(f.bk.map (·.1)).Nodup:=by
 have hw:=zjX.of hp h0 h
 rw[List.nodup_iff_pairwise_ne,List.pairwise_map,List.pairwise_iff_getElem]
 intro i j hi hj hij e
 have hlt:=List.pairwise_iff_getElem.1 hf.lt i j hi hj hij
 obtain⟨a,a1,a2,a3,a4⟩:=(hf.ok _ (List.getElem_mem hi)).label
 obtain⟨b,b1,b2,b3,b4⟩:=(hf.ok _ (List.getElem_mem hj)).label
 rw[a2,b2]at hlt
 rw[a1,b1]at e
 exact hw.new b b3 (zld hw.shape b3 b4) a (by omega) a3 e
end Go.Proofs
namespace Go.Proofs
open Go.Gk Go.RowKit Go.Gm
abbrev Bk3:=Int×Int×Int
structure Tile (pl:List PI) (a n:Nat) (ps:List Int) (bk:List Bk3):Prop where
 all:∀i:Nat,a<i->i<n->(i:Int)∈ps\/∃b∈bk,b.2.1<=(i:Int)/\(i:Int)<b.2.2
 par:∀p∈ps,∃k:Nat,p=(k:Int)/\a<k/\k<n/\(ix pl k).1=55
 pb:∀p∈ps,∀b∈bk,p<b.2.1
 bks:∀b∈bk,(a:Int)<b.2.1/\b.2.2<=(n:Int)
 lt:bk.Pairwise λb c=>b.2.2<=c.2.1
 nl:∀b∈bk,∀i:Nat,b.2.1<(i:Int)->(i:Int)<b.2.2->(ix pl i).1≠248
structure FnT (pl:List PI) (n:Nat) (f:FnL):Prop where
 ex:∃a e:Nat,f.at_=(a:Int)/\f.en=(e:Int)/\a<e/\e<n/\(ix pl a).1=54/\(ix pl e).1=56/\Tile pl a e f.ps f.bk
theorem FnT.mono{pl:List PI}{n m:Nat}{f:FnL}(h:FnT pl n f)(hm:n<=m):FnT pl m f:=by
 obtain⟨a,e,h1,h2,h3,h4,h5⟩:=h.ex
 exact⟨a,e,h1,h2,h3,by omega,h5⟩
theorem FnT.en_lt{pl:List PI}{n:Nat}{f:FnL}(h:FnT pl n f):f.en<(n:Int):=by
 obtain⟨a,e,h1,h2,h3,h4,h5⟩:=h.ex
 omega
inductive zk9 (pl:List PI) (n:Nat) (ah:Int):List FnL->Prop
 |out (h:ah=0\/ah=56):zk9 pl n ah []
 |head (f:FnL) (a:Nat) (h:ah=54\/ah=55) (hf:f.at_=(a:Int)/\a<n/\(ix pl a).1=54) (hb:f.bk=[]) (T:Tile pl a n f.ps []):zk9 pl n ah [f]
 |shut (f:FnL) (a:Nat) (h:y8 ah=true) (hf:f.at_=(a:Int)/\a<n/\(ix pl a).1=54) (T:Tile pl a n f.ps f.bk):zk9 pl n ah [f]
 |open_ (f:FnL) (a:Nat) (bs:List Bk3) (k:Nat) (h:¬(ah=0\/ah=54\/ah=55\/ah=56\/y8 ah=true)) (hf:f.at_=(a:Int)/\a<k/\(ix pl a).1=54) (hk:k<n)
   (hb:f.bk=bs++[((ix pl k).2.2.1,(k:Int),0)]) (T:Tile pl a k f.ps bs) (hnl:∀i:Nat,k<i->i<n->(ix pl i).1≠248):zk9 pl n ah [f]
structure CutT (pl:List PI) (n:Nat):Prop where
 ex:∃done last,cutF pl n=done++last/\(∀f∈done,FnT pl n f)/\done.Pairwise (λf g=>f.en<g.at_)/\(∀f∈done,∀g∈last,f.en<g.at_)/\zk9 pl n (zZ pl n) last
theorem Tile.nil(pl:List PI)(n:Nat):Tile pl n (n+1) [] []:=
 ⟨λi _ _=>absurd ‹n<i› (by omega),λ_ h=>(by cases h),λ_ h=>(by cases h),λ_ h=>(by cases h),.nil,λ_ h=>(by cases h)⟩
theorem Tile.param{pl:List PI}{a n:Nat}{ps:List Int}(T:Tile pl a n ps [])(han:a<n)(h:(ix pl n).1=55):Tile pl a (n+1) (ps++[(n:Int)]) []:=by
 refine⟨λi h1 h2=>?_,λp hp=>?_,λ_ _ _ hb=>(by cases hb),λ_ hb=>(by cases hb),.nil,λ_ hb=>(by cases hb)⟩
 ·by_cases e:i=n
  ·subst e;exact .inl (List.mem_append_right _ (List.mem_singleton_self _))
  ·rcases T.all i h1 (by omega) with h | ⟨b,hb,_⟩
   ·exact .inl (List.mem_append_left _ h)
   ·cases hb
 ·rcases List.mem_append.1 hp with hp |hp
  ·obtain⟨k,h1,h2,h3,h4⟩:=T.par p hp
   exact⟨k,h1,h2,by omega,h4⟩
  ·exact⟨n,List.mem_singleton.1 hp,han,by omega,h⟩
theorem Tile.block{pl:List PI}{a k n:Nat}{ps:List Int}{bs:List Bk3}(T:Tile pl a k ps bs)(hak:a<k)(hkn:k<n)(hnl:∀i:Nat,k<i->i<n+1->(ix pl i).1≠248)(x:Int):Tile pl a (n+1) ps (bs++[(x,(k:Int),(n:Int)+1)]):=by
 refine⟨λi h1 h2=>?_,λp hp=>?_,λp hp b hb=>?_,λb hb=>?_,zcc T.lt λy hy=>(T.bks y hy).2,λb hb i h1 h2=>?_⟩
 ·by_cases e:i<k
  ·rcases T.all i h1 e with h | ⟨b,hb,h⟩
   ·exact .inl h
   ·exact .inr ⟨b,List.mem_append_left _ hb,h⟩
  ·exact .inr ⟨_,List.mem_append_right _ (List.mem_singleton_self _),by dsimp only;omega,by dsimp only;omega⟩
 ·obtain⟨j,h1,h2,h3,h4⟩:=T.par p hp
  exact⟨j,h1,h2,by omega,h4⟩
 ·rcases List.mem_append.1 hb with hb |hb
  ·exact T.pb p hp b hb
  ·rw[List.mem_singleton.1 hb]
   obtain⟨j,h1,h2,h3,h4⟩:=T.par p hp
   dsimp only
   omega
 ·rcases List.mem_append.1 hb with hb |hb
  ·have:=T.bks b hb
   omega
  ·rw[List.mem_singleton.1 hb]
   dsimp only
   omega
 ·rcases List.mem_append.1 hb with hb |hb
  ·exact T.nl b hb i h1 h2
  ·rw[List.mem_singleton.1 hb]at h1 h2
   dsimp only at h1 h2
   exact hnl i (by omega) (by omega)
theorem CutT.step{pl:List PI}{n:Nat}(h:CutT pl n)(hm:mayP pl n=true)(hg:ZU pl n):CutT pl (n+1):=by
 obtain⟨done,last,hc,hd,hpw,hx,hl⟩:=h.ex
 have hd':∀f∈done,FnT pl (n+1) f:=λf hf=>(hd f hf).mono (by omega)
 have hc':cutF pl (n+1)=cutS (cutF pl n) n (ix pl n):=rfl
 refine⟨?_⟩
 by_cases h8:zq (ix pl n)=8
 ·have ha':zZ pl (n+1)=(ix pl n).1:=zbf h8
  have ho:=zoX hm h8
  have hne:=zpm h8
  generalize hah:zZ pl n=ah at hl ho
  generalize zar pl (n-1)=fi at ho
  have hcS:∀f,cutF pl n=done++[f]->∀g:FnL->FnL,modL g (cutF pl n)=done++[g f]:=λf e g=>by rw[e,yD]
  rw[ha',hc']
  by_cases e54:(ix pl n).1=54
  ·rw[e54]at ho⊢
   have ho:(ah==0||ah==56)=true:=ho
   have hah2:ah=0\/ah=56:=by simpa using ho
   have hlast:last=[]:=by
    cases hl with
    |out h=>rfl
    |head f a h hb=>omega
    |shut f a h hf=>have:=yy h;omega
    |open_ f a bs k h _ _ _ _ _=>exact absurd (hah2.elim .inl λe=>.inr (.inr (.inr (.inl e)))) h
   subst hlast
   refine⟨done,[⟨(ix pl n).2.2.1,n,0,[],[]⟩],?_,hd',hpw,λf hf g hg=>?_,.head _ n (.inl rfl) ⟨rfl,by omega,e54⟩ rfl (Tile.nil pl n)⟩
   ·unfold cutS
    rw[if_pos e54,hc,List.append_nil]
   ·rw[List.mem_singleton.1 hg]
    exact(hd f hf).en_lt
  by_cases e55:(ix pl n).1=55
  ·have ho:(ah==54||ah==55)=true:=by rw[e55]at ho;exact ho
   have hah2:ah=54\/ah=55:=by simpa using ho
   obtain⟨f,a,rfl,hf,hb,T⟩:∃f a,last=[f]/\(f.at_=((a:Nat):Int)/\a<n/\(ix pl a).1=54)/\f.bk=[]/\Tile pl a n f.ps []:=by
    cases hl with
    |out h=>omega
    |head f a h hf hb T=>exact⟨f,a,rfl,hf,hb,T⟩
    |shut f a h hf=>have:=yy h;omega
    |open_ f a bs k h _ _ _ _ _=>exact absurd (hah2.elim (λe=>.inr (.inl e)) λe=>.inr (.inr (.inl e))) h
   rw[e55]
   refine⟨done,_,?_,hd',hpw,λg hg g' hg'=>?_,.head {f with ps:=f.ps++[(n:Int)]} a (.inr rfl) ⟨hf.1,by omega,hf.2.2⟩ hb (T.param hf.2.1 e55)⟩
   ·unfold cutS
    rw[if_neg e54,if_pos e55,hcS f hc]
   ·rw[List.mem_singleton.1 hg']
    exact hx g hg f (List.mem_singleton_self _)
  by_cases e248:(ix pl n).1=248
  ·have ho:(ah==54||ah==55||y8 ah)=true:=by rw[e248]at ho;exact ho
   have hin:¬((248:Int)=0\/(248:Int)=54\/(248:Int)=55\/(248:Int)=56\/y8 248=true):=by decide
   obtain⟨f,a,rfl,hf,T⟩:∃f a,last=[f]/\(f.at_=((a:Nat):Int)/\a<n/\(ix pl a).1=54)/\Tile pl a n f.ps f.bk:=by
    cases hl with
    |out h=>rcases h with rfl |rfl<;>cases ho
    |head f a h hf hb T=>exact⟨f,a,rfl,hf,by rw[hb];exact T⟩
    |shut f a h hf T=>exact⟨f,a,rfl,hf,T⟩
    |open_ f a bs k h _ _ _ _ _=>
     refine absurd ?_ h
     rw[Bool.or_eq_true,Bool.or_eq_true,beq_iff_eq,beq_iff_eq]at ho
     rcases ho with(e |e) |e
     ·exact .inr (.inl e)
     ·exact .inr (.inr (.inl e))
     ·exact .inr (.inr (.inr (.inr e)))
   rw[e248]
   refine⟨done,_,?_,hd',hpw,λg hg g' hg'=>?_,.open_ {f with bk:=f.bk++[((ix pl n).2.2.1,(n:Int),0)]} a f.bk n hin hf (by omega) rfl T λi h1 h2=>absurd h1 (by omega)⟩
   ·unfold cutS
    rw[if_neg e54,if_neg e55,if_neg (by omega),if_pos e248,hcS f hc]
   ·rw[List.mem_singleton.1 hg']
    exact hx g hg f (List.mem_singleton_self _)
  by_cases e56:(ix pl n).1=56
  ·have ho:y8 ah=true:=by rw[e56]at ho;exact ho
   obtain⟨f,a,rfl,hf,T⟩:∃f a,last=[f]/\(f.at_=((a:Nat):Int)/\a<n/\(ix pl a).1=54)/\Tile pl a n f.ps f.bk:=by
    cases hl with
    |out h=>have:=yy ho;omega
    |head f a h hb=>have:=yy ho;omega
    |shut f a h hf T=>exact⟨f,a,rfl,hf,T⟩
    |open_ f a bs k h _ _ _ _ _=>exact absurd (.inr (.inr (.inr (.inr ho)))) h
   refine⟨done++[{f with en:=n}],[],?_,λg hg=>?_,zcc hpw λy hy=>hx y hy f (List.mem_singleton_self _),λ_ _ _ h=>(by cases h),by rw[e56];exact .out (.inr rfl)⟩
   ·unfold cutS
    rw[if_neg e54,if_neg e55,if_pos e56,hcS f hc,List.append_nil]
   ·rcases List.mem_append.1 hg with hg |hg
    ·exact hd' g hg
    ·rw[List.mem_singleton.1 hg]
     exact⟨a,n,hf.1,rfl,hf.2.1,by omega,hf.2.2,e56,T⟩
  have hin:¬(ah=0\/ah=54\/ah=55\/ah=56\/y8 ah=true):=λhin=>by
   unfold zaj at ho
   rw[if_neg e54,if_neg e55,if_neg e248,if_neg e56,if_pos hin]at ho
   cases ho
  obtain⟨f,a,bs,k,rfl,hf,hk,hb,T,hnl⟩:∃f a bs k,last=[f]/\(f.at_=((a:Nat):Int)/\a<k/\(ix pl a).1=54)/\k<n/\f.bk=bs++[((ix pl k).2.2.1,(k:Int),0)]/\Tile pl a k f.ps bs/\∀i:Nat,k<i->i<n+1->(ix pl i).1≠248:=by
   cases hl with
   |out h=>exact absurd (h.elim .inl λe=>.inr (.inr (.inr (.inl e)))) hin
   |head f a h hf hb=>exact absurd (h.elim (λe=>.inr (.inl e)) λe=>.inr (.inr (.inl e))) hin
   |shut f a h hf=>exact absurd (.inr (.inr (.inr (.inr h)))) hin
   |open_ f a bs k h hf hk hb T hnl=>exact⟨f,a,bs,k,rfl,hf,hk,hb,T,λi h1 h2=>by
    by_cases e:i=n
    ·subst e;exact e248
    ·exact hnl i h1 (by omega)⟩
  by_cases ee:y8 (ix pl n).1=true
  ·refine⟨done,_,?_,hd',hpw,λg hg g' hg'=>?_,.shut {f with bk:=bs++[((ix pl k).2.2.1,(k:Int),(n:Int)+1)]} a ee ⟨hf.1,by omega,hf.2.2⟩ (T.block hf.2.1 hk hnl _)⟩
   ·unfold cutS
    rw[if_neg e54,if_neg e55,if_neg e56,if_neg e248,if_pos ee,hcS f hc]
    simp only[hb,yD]
   ·rw[List.mem_singleton.1 hg']
    exact hx g hg f (List.mem_singleton_self _)
  ·refine⟨done,[f],?_,hd',hpw,hx,.open_ f a bs k (λg=>?_) hf (by omega) hb T hnl⟩
   ·unfold cutS
    rw[if_neg e54,if_neg e55,if_neg e56,if_neg e248,if_neg ee,hc]
   ·rcases g with g |g |g |g |g
    ·exact hne g
    ·exact e54 g
    ·exact e55 g
    ·exact e56 g
    ·exact ee g
 ·have ha':zZ pl (n+1)=0:=if_neg h8
  have h0:zZ pl n=0:=by
   cases n with
   |zero=>rfl
   |succ m=>
    refine if_neg λe=>?_
    have:=zhb (pl:=pl) (n:=m+1+1) (hg.step hm) (i:=m) (j:=m+1) (by omega) (by omega)
    have:=zak (ix pl (m+1))
    omega
  have hlast:last=[]:=by
   rw[h0]at hl
   cases hl with
   |out h=>rfl
   |head f a h hb=>omega
   |shut f a h hf=>have:=yy h;omega
   |open_ f a bs k h _ _ _ _ _=>exact absurd (.inl rfl) h
  subst hlast
  rw[ha',hc',ziy (.inl h8),hc]
  exact⟨done,[],rfl,hd',hpw,hx,.out (.inl rfl)⟩
theorem zkM{pl:List PI}(hg:ZU pl pl.length):∀n,n<=pl.length->CutT pl n
 | 0,_=>⟨[],[],rfl,λ_ h=>(by cases h),.nil,λ_ h=>(by cases h),.out (.inl rfl)⟩
 |n+1,h=>(zkM hg n (by omega)).step (hg n (by omega)) λk hk=>hg k (by omega)
theorem znm{bd:Int}{pl:List PI}(h:(layP bd pl).1=0):(∀f∈cutF pl pl.length,FnT pl pl.length f)/\(cutF pl pl.length).Pairwise (λf g=>f.en<g.at_):=by
 obtain⟨_,hg,ho⟩:=zle h
 obtain⟨done,last,hc,hd,hpw,_,hl⟩:=(zkM hg pl.length (Nat.le_refl _)).ex
 have hah:zZ pl pl.length=0\/zZ pl pl.length=56:=by
  cases hlen:pl.length with
  |zero=>exact .inl rfl
  |succ m=>
   by_cases h8:zq (ix pl m)=8
   ·right
    rw[zbf h8]
    unfold zbS at ho
    rw[hlen,Nat.add_sub_cancel]at ho
    simp only[h8,Bool.or_eq_false_iff]at ho
    have:=ho.2
    simpa using this
   ·exact .inl (if_neg h8)
 have hlast:last=[]:=by
  generalize zZ pl pl.length=ah at hl hah
  cases hl with
  |out h=>rfl
  |head f a h hb=>omega
  |shut f a h hf=>have:=yy h;omega
  |open_ f a bs k h _ _ _ _ _=>exact absurd (hah.elim .inl λe=>.inr (.inr (.inr (.inl e)))) h
 subst hlast
 rw[hc,List.append_nil]
 exact⟨hd,hpw⟩
end Go.Proofs
namespace Go.Gr
inductive zO (nx:List (List Nat)) (wo:Int):Nat->Prop
 |zero:wo≠0->0<nx.length->zO nx wo 0
 |step {i t:Nat}:zO nx wo i->t∈nx.getD i []->(t:Int)≠wo->zO nx wo t
structure Clo (nx:List (List Nat)) (Q:Nat->Prop) (s s':List Nat×List Nat):Prop where
 came:∀x∈s.1,x∈s'.1
 closed:∀x∈s'.1,x∈s.1\/∀t∈nx.getD x [],t∈s'.1
 sound:∀x∈s'.1,x∈s.1\/Q x
theorem znU{nx:List (List Nat)}(hnx:∀i,∀t∈nx.getD i [],t<nx.length){Q:Nat->Prop}(hQ:∀i,Q i->∀t∈nx.getD i [],Q t) :
  ∀(f i:Nat) (s:List Nat×List Nat),i<nx.length->s.1.Nodup->(∀x∈s.1,x<nx.length)->i ∉ s.1->nx.length<=s.1.length+f->Q i->Clo nx Q s (yo nx f i s)/\i∈(yo nx f i s).1:=by
 intro f
 induction f with
 |zero=>
  intro i s hi hnd hlt hni hf
  have:=zc9 hnd hlt hi hni
  omega
 |succ f ih=>
  intro i s hi hnd hlt hni hf hq
  have hslt:=zc9 hnd hlt hi hni
  have all:∀(l:List Nat) (s1:List Nat×List Nat),(∀t∈l,t<nx.length/\Q t)->s1.1.Nodup->(∀x∈s1.1,x<nx.length)->nx.length<=s1.1.length+f->Clo nx Q s1 (zG nx f l s1)/\∀t∈l,t∈(zG nx f l s1).1:=by
   intro l
   induction l with
   |nil=>intro s1 _ _ _ _;exact⟨⟨λ_ h=>h,λ_ h=>.inl h,λ_ h=>.inl h⟩,by simp⟩
   |cons t r ihl=>
    intro s1 hl h1 h2 h3
    have e:zG nx f (t::r) s1=zG nx f r (if s1.1.contains t then s1 else yo nx f t s1):=rfl
    rw[e]
    have ht:=hl t (by simp)
    by_cases hc:t∈s1.1
    ·rw[if_pos (by simpa using hc)]
     obtain⟨g1,g2⟩:=ihl s1 (λu hu=>hl u (by simp[hu])) h1 h2 h3
     refine⟨g1,λu hu=>?_⟩
     rcases List.mem_cons.1 hu with rfl |hu
     ·exact g1.came _ hc
     ·exact g2 u hu
    ·rw[if_neg (by simpa using hc)]
     obtain⟨v1,v2⟩:=ih t s1 ht.1 h1 h2 hc h3 ht.2
     have hv:=zcY hnx f t s1 ht.1 h1 h2 hc
     have hm:s1.1.length<=(yo nx f t s1).1.length:=by obtain⟨l,e⟩:=hv.more;rw[e];simp
     obtain⟨g1,g2⟩:=ihl (yo nx f t s1) (λu hu=>hl u (by simp[hu])) hv.nodup hv.lt (by omega)
     refine⟨⟨λx hx=>g1.came x (v1.came x hx),λx hx=>?_,λx hx=>?_⟩,λu hu=>?_⟩
     ·rcases g1.closed x hx with h |h
      ·rcases v1.closed x h with h |h
       ·exact .inl h
       ·exact .inr λu hu=>g1.came u (h u hu)
      ·exact .inr h
     ·rcases g1.sound x hx with h |h
      ·exact v1.sound x h
      ·exact .inr h
     ·rcases List.mem_cons.1 hu with rfl |hu
      ·exact g1.came _ v2
      ·exact g2 u hu
  rw[zbw]
  have hb:(s.1++[i]).Nodup:=by
   rw[List.nodup_append]
   exact⟨hnd,by simp,λx hx y hy=>by simp at hy;subst hy;intro e;subst e;exact hni hx⟩
  obtain⟨a1,a2⟩:=all (nx.getD i []) (s.1++[i],s.2) (λt ht=>⟨hnx i t ht,hQ i hq t ht⟩) hb (λx hx=>by
   rcases List.mem_append.1 hx with h |h
   ·exact hlt x h
   ·simp at h;subst h;exact hi) (by simp;omega)
  refine⟨⟨λx hx=>a1.came x (List.mem_append.2 (.inl hx)),λx hx=>?_,λx hx=>?_⟩,a1.came i (by simp)⟩
  ·rcases a1.closed x hx with h |h
   ·rcases List.mem_append.1 h with h |h
    ·exact .inl h
    ·simp at h;subst h;exact .inr a2
   ·exact .inr h
  ·rcases a1.sound x hx with h |h
   ·rcases List.mem_append.1 h with h |h
    ·exact .inl h
    ·simp at h;subst h;exact .inr hq
   ·exact .inr h
theorem zcZ{nx:List (List Nat)}(hnx:∀i,∀t∈nx.getD i [],t<nx.length)(h0:0<nx.length)(j:Nat):j∈yG nx↔zO nx (-1) j:=by
 obtain⟨c,c0⟩:=znU hnx (Q:=zO nx (-1)) (λi hi t ht=>.step hi ht (by omega)) nx.length 0 ([],[]) h0 (by simp) (by simp) (by simp) (by simp) (.zero (by decide) h0)
 constructor
 ·intro h
  rcases c.sound j h with h |h
  ·cases h
  ·exact h
 ·intro h
  induction h with
  |zero=>exact c0
  |step _ ht _ ih=>
   rcases c.closed _ ih with h |h
   ·cases h
   ·exact h _ ht
end Go.Gr
namespace Go.Gr
def Pe(nx:List (List Nat))(l:List Nat):Prop:=∀a b x,l=a++x::b->a=[]\/∃y∈a,x∈nx.getD y []
def Pl(nx:List (List Nat))(m:List Nat):Prop:=∀a b x,m=a++x::b->b=[]\/∃y∈b,x∈nx.getD y []
theorem znD{a b:List Nat}(h:(a++b).Nodup):a.Nodup/\b.Nodup/\∀x∈a,x ∉ b:=by
 rw[List.nodup_append]at h
 exact⟨h.1,h.2.1,λx hx hy=>h.2.2 x hx x hy rfl⟩
theorem znV{nx:List (List Nat)}(hnx:∀i,∀t∈nx.getD i [],t<nx.length) :
  ∀(f i:Nat) (s:List Nat×List Nat),i<nx.length->s.1.Nodup->(∀x∈s.1,x<nx.length)->i ∉ s.1->nx.length<=s.1.length+f->
   ∃l m,(yo nx f i s).1=s.1++i::l/\(yo nx f i s).2=s.2++(m++[i])/\(∀x,x∈m↔x∈l)/\m.Nodup/\Pe nx (i::l)/\Pl nx (m++[i]):=by
 intro f
 induction f with
 |zero=>
  intro i s hi hnd hlt hni hf
  have:=zc9 hnd hlt hi hni
  omega
 |succ f ih=>
  intro i s hi hnd hlt hni hf
  have hslt:=zc9 hnd hlt hi hni
  have all:∀(r:List Nat) (s1:List Nat×List Nat),(∀t∈r,t<nx.length/\t∈nx.getD i [])->s1.1.Nodup->(∀x∈s1.1,x<nx.length)->nx.length<=s1.1.length+f->
    (∃l m,s1.1=s.1++i::l/\s1.2=s.2++m/\(∀x,x∈m↔x∈l)/\m.Nodup/\Pe nx (i::l)/\∀a b x,m=a++x::b->(∃y∈b,x∈nx.getD y [])\/x∈nx.getD i [])->
    ∃l m,(zG nx f r s1).1=s.1++i::l/\(zG nx f r s1).2=s.2++m/\(∀x,x∈m↔x∈l)/\m.Nodup/\Pe nx (i::l)/\∀a b x,m=a++x::b->(∃y∈b,x∈nx.getD y [])\/x∈nx.getD i []:=by
   intro r
   induction r with
   |nil=>intro s1 _ _ _ _ h;exact h
   |cons t r ihl=>
    intro s1 hl h1 h2 h3 h
    have e:zG nx f (t::r) s1=zG nx f r (if s1.1.contains t then s1 else yo nx f t s1):=rfl
    rw[e]
    have ht:=hl t (by simp)
    by_cases hc:t∈s1.1
    ·rw[if_pos (by simpa using hc)]
     exact ihl s1 (λu hu=>hl u (by simp[hu])) h1 h2 h3 h
    ·rw[if_neg (by simpa using hc)]
     obtain⟨l2,m2,v1,v2,v3,v4,v5,v6⟩:=ih t s1 ht.1 h1 h2 hc h3
     have hv:=zcY hnx f t s1 ht.1 h1 h2 hc
     have hm:s1.1.length<=(yo nx f t s1).1.length:=by obtain⟨l,e⟩:=hv.more;rw[e];simp
     refine ihl (yo nx f t s1) (λu hu=>hl u (by simp[hu])) hv.nodup hv.lt (by omega) ?_
     obtain⟨l,m,g1,g2,g3,g4,g5,g6⟩:=h
     have hnd':=hv.nodup
     rw[v1,g1]at hnd'
     obtain⟨_,n2,n3⟩:=znD hnd'
     have n2':=List.nodup_cons.1 n2
     refine⟨l++t::l2,m++(m2++[t]),by rw[v1,g1];simp,by rw[v2,g2];simp,λx=>?_,?_,?_,?_⟩
     ·simp only[List.mem_append,List.mem_cons,List.not_mem_nil,or_false,g3 x,v3 x]
      constructor<;>(rintro(h |h |h)<;>simp[h])
     ·rw[List.nodup_append]
      refine⟨g4,?_,λx hx y hy=>?_⟩
      ·rw[List.nodup_append]
       exact⟨v4,by simp,λx hx y hy=>by
        simp at hy;subst hy
        intro e;subst e
        exact n2'.1 ((v3 _).1 hx)⟩
      ·intro e;subst e
       refine n3 x (by simp[(g3 x).1 hx]) ?_
       rcases List.mem_append.1 hy with hy |hy
       ·exact List.mem_cons_of_mem _ ((v3 x).1 hy)
       ·simp at hy;subst hy;exact List.mem_cons_self ..
     ·intro a b x hx
      have hx:(i::l)++(t::l2)=a++x::b:=by simpa using hx
      rcases List.append_eq_append_iff.1 hx with⟨a',ha,hb⟩ | ⟨c',ha,hb⟩
      ·rcases v5 a' b x hb with e | ⟨y,hy,hxy⟩
       ·subst e
        simp at hb
        exact .inr ⟨i,by rw[ha];simp,by rw[<-hb.1];exact ht.2⟩
       ·exact .inr ⟨y,by rw[ha];simp[hy],hxy⟩
      ·cases c' with
       |nil=>
        simp at hb ha
        exact .inr ⟨i,by rw[<-ha];simp,by rw[hb.1];exact ht.2⟩
       |cons z c'=>
        simp at hb
        rw[<-hb.1]at ha
        exact g5 a c' x ha
     ·intro a b x hx
      rcases List.append_eq_append_iff.1 hx with⟨a',ha,hb⟩ | ⟨c',ha,hb⟩
      ·rcases v6 a' b x hb with e |h
       ·subst e
        have:x=t:=by have:=congrArg List.getLast? hb;simpa using this.symm
        subst this
        exact .inr ht.2
       ·exact .inl h
      ·cases c' with
       |nil=>
        simp at hb
        rcases v6 [] b x (by simp[hb]) with e |h
        ·subst e
         have:x=t:=by
          have:=congrArg List.getLast? hb
          simpa using this
         subst this
         exact .inr ht.2
        ·exact .inl h
       |cons z c'=>
        simp at hb
        obtain⟨rfl,rfl⟩:=hb
        rcases g6 a c' x ha with⟨y,hy,hxy⟩ |h
        ·exact .inl ⟨y,by simp[hy],hxy⟩
        ·exact .inr h
  have hb:(s.1++[i]).Nodup:=by
   rw[List.nodup_append]
   exact⟨hnd,by simp,λx hx y hy=>by simp at hy;subst hy;intro e;subst e;exact hni hx⟩
  rw[zbw]
  obtain⟨l,m,g1,g2,g3,g4,g5,g6⟩:=all (nx.getD i []) (s.1++[i],s.2) (λt ht=>⟨hnx i t ht,ht⟩) hb (λx hx=>by
   rcases List.mem_append.1 hx with h |h
   ·exact hlt x h
   ·simp at h;subst h;exact hi) (by simp;omega)
   ⟨[],[],by simp,by simp,by simp,by simp,λa b x hx=>by
    cases a with
    |nil=>exact .inl rfl
    |cons _ a=>simp at hx,λa b x hx=>by simp at hx⟩
  refine⟨l,m,g1,by rw[g2];simp,g3,g4,g5,λa b x hx=>?_⟩
  rcases List.append_eq_append_iff.1 hx with⟨a',ha,hb⟩ | ⟨c',ha,hb⟩
  ·cases a' with
   |nil=>simp at hb;exact .inl hb.2
   |cons z a'=>simp at hb
  ·cases c' with
   |nil=>simp at hb;exact .inl hb.2
   |cons z c'=>
    simp at hb
    obtain⟨rfl,rfl⟩:=hb
    rcases g6 a c' x ha with⟨y,hy,hxy⟩ |h
    ·exact .inr ⟨y,by simp[hy],hxy⟩
    ·exact .inr ⟨i,by simp,h⟩
end Go.Gr
namespace Go.Proofs
open Go.Gk Go.RowKit Go.Gr
structure zq3 (nx:List (List Nat)):Prop where
 head:∃l,yG nx=0::l
 par:∀k (hk:k<(yG nx).length),0<k->∃j,∃hj:j<k,(yG nx)[k]∈nx.getD ((yG nx)[j]'(by omega)) []
 ohead:∃l,zv nx=0::l
 mem:∀x,x∈zv nx↔x∈yG nx
 nodup:(zv nx).Nodup
 opar:∀k (hk:k<(zv nx).length),0<k->∃j,∃hj:j<k,(zv nx)[k]∈nx.getD ((zv nx)[j]'(by omega)) []
 closed:∀x∈yG nx,∀t∈nx.getD x [],t∈yG nx
theorem _root_.Go.Proofs.NxOk.walkOk{nx:List (List Nat)}(h:NxOk nx):zq3 nx:=by
 obtain⟨l,m,g1,g2,g3,g4,g5,g6⟩:=znV h.rows nx.length 0 ([],[]) h.pos (by simp) (by simp) (by simp) (by simp)
 have hw:yG nx=0::l:=by simpa[yG] using g1
 have ho:zv nx=0::m.reverse:=by simp[zv,g2]
 have hnd:=h.came.nodup
 have hw':(0::l).Nodup:=by rw[<-hw];exact hnd
 have hmem:∀x,x∈zv nx↔x∈yG nx:=λx=>by rw[ho,hw];simp[g3 x]
 refine⟨⟨l,hw⟩,λk hk h0=>?_,⟨_,ho⟩,hmem,?_,λk hk h0=>?_,λx hx t ht=>?_⟩
 ·have hk':k<(0::l).length:=by rw[<-hw];exact hk
  have e:(0::l)=(0::l).take k++(0::l)[k]::(0::l).drop (k+1):=by rw[<-List.drop_eq_getElem_cons hk',List.take_append_drop]
  rcases g5 _ _ _ e with e | ⟨y,hy,hxy⟩
  ·have:=congrArg List.length e;simp at this;omega
  ·obtain⟨j,hj,rfl⟩:=List.mem_iff_getElem.1 hy
   have hjk:j<k:=by rw[List.length_take]at hj;omega
   refine⟨j,hjk,?_⟩
   rw[List.getElem_take]at hxy
   simp only[hw]
   exact hxy
 ·rw[ho,List.nodup_cons]
  refine⟨λhx=>?_,List.pairwise_reverse.2 (g4.imp λh=>h.symm)⟩
  have:=(g3 0).1 (List.mem_reverse.1 hx)
  exact(List.nodup_cons.1 hw').1 this
 ·have ho':zv nx=(m++[0]).reverse:=by simp[ho]
  obtain⟨q,hq⟩:∃q,q=m++[0]:=⟨_,rfl⟩
  rw[<-hq]at g6 ho'
  have hl:(zv nx).length=q.length:=by rw[ho'];simp
  have hk2:q.length-1-k<q.length:=by omega
  have e:q=q.take (q.length-1-k)++q[q.length-1-k]::q.drop (q.length-1-k+1):=by rw[<-List.drop_eq_getElem_cons hk2,List.take_append_drop]
  have ek:∀j (hj:j<(zv nx).length),(zv nx)[j]=q[q.length-1-j]'(by omega):=λj hj=>by simp only[ho',List.getElem_reverse]
  rcases g6 _ _ _ e with e | ⟨y,hy,hxy⟩
  ·have:=congrArg List.length e;simp at this;omega
  ·obtain⟨j,hj,rfl⟩:=List.mem_iff_getElem.1 hy
   rw[List.length_drop]at hj
   rw[List.getElem_drop]at hxy
   refine⟨q.length-1-(q.length-1-k+1+j),by omega,?_⟩
   rw[ek k hk,ek _ (by omega)]
   have e9:q.length-1-(q.length-1-(q.length-1-k+1+j))=q.length-1-k+1+j:=by omega
   simp only[e9]
   exact hxy
 ·exact(zcZ h.rows h.pos t).2 (.step ((zcZ h.rows h.pos x).1 hx) ht (by omega))
end Go.Proofs
namespace Go.Proofs
open Go.Gk
set_option linter.unusedVariables false
set_option maxRecDepth 100000
def zjo:Ann:=(.q (.seq none (.q (.cond (.q .nil) .nil)) (.q (.seq (some ⟨[0],[(5,(.b .ptr))]⟩) .nil (.q (.seq none (.q (.one (.loop ⟨[5,6,28,29],[(30,(.b (.int .i64)))]⟩ (.q (.seq none .c (.seq none (.one (.q .nil)) .nil)))))) (.q (.seq none (.q (.one (.loop ⟨[5,46,47],[(48,(.b (.int .i64)))]⟩ (.q (.seq none .c (.seq (some ⟨[5,46,47,48],[]⟩) (.one (.q (.q (.q .c)))) .nil)))))) (.q .nil)))))))))
def zgL(p0:Option Addr)(R:VWP)(w:World):Prop:=ifB (Option.isNone p0) (R (.tuple #[.pointer none,zi 1]) w) (dB 15 #[.pointer p0] w λx2 w1=>zk (S:=(Option Addr)×Unit) (λm3=>(Nw (w1.drew.alloc (.cells #[zi (-1:Int)] 3)) λw2=>(dn 93 #[.slice (some (blk w1.drew.heap.size)) 1 1,zi x2] w2 λx6 w3=>(Nw (w3.alloc (.cells #[zi (-1:Int)] 3)) λw4=>(dn 93 #[.slice (some (zB w3)) 1 1,zi x2] w4 λx8 w5=>(0<=x2/\x2<=x2/\8*x2<=281474976710656/\x2<=9223372036854775807)/\Nw (w5.alloc (.cells (madeCells #[zi 0] (x2.toNat *1)) 3)) λw6=>Nw (w6.alloc (.cells #[.pointer p0,x6.zw,x8.zw,.slice (some (zB w5)) x2.toNat x2.toNat] 168)) λw7=>m3 ((some (zB w6)),()) w7)/\(0<=x2/\x2<=x2/\8*x2<=281474976710656/\x2<=9223372036854775807)/\Nw (w4.alloc (.cells (madeCells #[zi 0] (x2.toNat *1)) 3)) λw8=>dn 93 #[.slice (some (zB w3)) 1 1,zi x2] w8 λx10 w9=>Nw (w9.alloc (.cells #[.pointer p0,x6.zw,x10.zw,.slice (some (zB w4)) x2.toNat x2.toNat] 168)) λw10=>m3 ((some (zB w9)),()) w10)/\(0<=x2/\x2<=x2/\8*x2<=281474976710656/\x2<=9223372036854775807)/\Nw (w3.alloc (.cells (madeCells #[zi 0] (x2.toNat *1)) 3)) λw11=>Nw (w11.alloc (.cells #[zi (-1:Int)] 3)) λw12=>dn 93 #[.slice (some (zB w11)) 1 1,zi x2] w12 λx12 w13=>Nw (w13.alloc (.cells #[.pointer p0,x6.zw,x12.zw,.slice (some (zB w3)) x2.toNat x2.toNat] 168)) λw14=>m3 ((some (zB w13)),()) w14)/\(Nw (w2.alloc (.cells #[zi (-1:Int)] 3)) λw15=>(dn 93 #[.slice (some (blk w1.drew.heap.size)) 1 1,zi x2] w15 λx14 w16=>(dn 93 #[.slice (some (zB w2)) 1 1,zi x2] w16 λx16 w17=>(0<=x2/\x2<=x2/\8*x2<=281474976710656/\x2<=9223372036854775807)/\Nw (w17.alloc (.cells (madeCells #[zi 0] (x2.toNat *1)) 3)) λw18=>Nw (w18.alloc (.cells #[.pointer p0,x14.zw,x16.zw,.slice (some (zB w17)) x2.toNat x2.toNat] 168)) λw19=>m3 ((some (zB w18)),()) w19)/\(0<=x2/\x2<=x2/\8*x2<=281474976710656/\x2<=9223372036854775807)/\Nw (w16.alloc (.cells (madeCells #[zi 0] (x2.toNat *1)) 3)) λw20=>dn 93 #[.slice (some (zB w2)) 1 1,zi x2] w20 λx18 w21=>Nw (w21.alloc (.cells #[.pointer p0,x14.zw,x18.zw,.slice (some (zB w16)) x2.toNat x2.toNat] 168)) λw22=>m3 ((some (zB w21)),()) w22)/\(0<=x2/\x2<=x2/\8*x2<=281474976710656/\x2<=9223372036854775807)/\Nw (w15.alloc (.cells (madeCells #[zi 0] (x2.toNat *1)) 3)) λw23=>dn 93 #[.slice (some (blk w1.drew.heap.size)) 1 1,zi x2] w23 λx20 w24=>dn 93 #[.slice (some (zB w2)) 1 1,zi x2] w24 λx22 w25=>Nw (w25.alloc (.cells #[.pointer p0,x20.zw,x22.zw,.slice (some (zB w15)) x2.toNat x2.toNat] 168)) λw26=>m3 ((some (zB w25)),()) w26)/\(0<=x2/\x2<=x2/\8*x2<=281474976710656/\x2<=9223372036854775807)/\Nw (w2.alloc (.cells (madeCells #[zi 0] (x2.toNat *1)) 3)) λw27=>(dn 93 #[.slice (some (blk w1.drew.heap.size)) 1 1,zi x2] w27 λx24 w28=>Nw (w28.alloc (.cells #[zi (-1:Int)] 3)) λw29=>dn 93 #[.slice (some (zB w28)) 1 1,zi x2] w29 λx26 w30=>Nw (w30.alloc (.cells #[.pointer p0,x24.zw,x26.zw,.slice (some (zB w2)) x2.toNat x2.toNat] 168)) λw31=>m3 ((some (zB w30)),()) w31)/\Nw (w27.alloc (.cells #[zi (-1:Int)] 3)) λw32=>dn 93 #[.slice (some (blk w1.drew.heap.size)) 1 1,zi x2] w32 λx28 w33=>dn 93 #[.slice (some (zB w27)) 1 1,zi x2] w33 λx30 w34=>Nw (w34.alloc (.cells #[.pointer p0,x28.zw,x30.zw,.slice (some (zB w2)) x2.toNat x2.toNat] 168)) λw35=>m3 ((some (zB w34)),()) w35)/\(Nw (w1.drew.alloc (.cells #[zi (-1:Int)] 3)) λw36=>(Nw (w36.alloc (.cells #[zi (-1:Int)] 3)) λw37=>(dn 93 #[.slice (some (zB w36)) 1 1,zi x2] w37 λx32 w38=>(dn 93 #[.slice (some (blk w1.drew.heap.size)) 1 1,zi x2] w38 λx34 w39=>(0<=x2/\x2<=x2/\8*x2<=281474976710656/\x2<=9223372036854775807)/\Nw (w39.alloc (.cells (madeCells #[zi 0] (x2.toNat *1)) 3)) λw40=>Nw (w40.alloc (.cells #[.pointer p0,x32.zw,x34.zw,.slice (some (zB w39)) x2.toNat x2.toNat] 168)) λw41=>m3 ((some (zB w40)),()) w41)/\(0<=x2/\x2<=x2/\8*x2<=281474976710656/\x2<=9223372036854775807)/\Nw (w38.alloc (.cells (madeCells #[zi 0] (x2.toNat *1)) 3)) λw42=>dn 93 #[.slice (some (blk w1.drew.heap.size)) 1 1,zi x2] w42 λx36 w43=>Nw (w43.alloc (.cells #[.pointer p0,x32.zw,x36.zw,.slice (some (zB w38)) x2.toNat x2.toNat] 168)) λw44=>m3 ((some (zB w43)),()) w44)/\(0<=x2/\x2<=x2/\8*x2<=281474976710656/\x2<=9223372036854775807)/\Nw (w37.alloc (.cells (madeCells #[zi 0] (x2.toNat *1)) 3)) λw45=>dn 93 #[.slice (some (zB w36)) 1 1,zi x2] w45 λx38 w46=>dn 93 #[.slice (some (blk w1.drew.heap.size)) 1 1,zi x2] w46 λx40 w47=>Nw (w47.alloc (.cells #[.pointer p0,x38.zw,x40.zw,.slice (some (zB w37)) x2.toNat x2.toNat] 168)) λw48=>m3 ((some (zB w47)),()) w48)/\(0<=x2/\x2<=x2/\8*x2<=281474976710656/\x2<=9223372036854775807)/\Nw (w36.alloc (.cells (madeCells #[zi 0] (x2.toNat *1)) 3)) λw49=>Nw (w49.alloc (.cells #[zi (-1:Int)] 3)) λw50=>dn 93 #[.slice (some (zB w49)) 1 1,zi x2] w50 λx42 w51=>dn 93 #[.slice (some (blk w1.drew.heap.size)) 1 1,zi x2] w51 λx44 w52=>Nw (w52.alloc (.cells #[.pointer p0,x42.zw,x44.zw,.slice (some (zB w36)) x2.toNat x2.toNat] 168)) λw53=>m3 ((some (zB w52)),()) w53)/\(0<=x2/\x2<=x2/\8*x2<=281474976710656/\x2<=9223372036854775807)/\Nw (w1.drew.alloc (.cells (madeCells #[zi 0] (x2.toNat *1)) 3)) λw54=>(Nw (w54.alloc (.cells #[zi (-1:Int)] 3)) λw55=>(dn 93 #[.slice (some (zB w54)) 1 1,zi x2] w55 λx46 w56=>Nw (w56.alloc (.cells #[zi (-1:Int)] 3)) λw57=>dn 93 #[.slice (some (zB w56)) 1 1,zi x2] w57 λx48 w58=>Nw (w58.alloc (.cells #[.pointer p0,x46.zw,x48.zw,.slice (some (blk w1.drew.heap.size)) x2.toNat x2.toNat] 168)) λw59=>m3 ((some (zB w58)),()) w59)/\Nw (w55.alloc (.cells #[zi (-1:Int)] 3)) λw60=>dn 93 #[.slice (some (zB w54)) 1 1,zi x2] w60 λx50 w61=>dn 93 #[.slice (some (zB w55)) 1 1,zi x2] w61 λx52 w62=>Nw (w62.alloc (.cells #[.pointer p0,x50.zw,x52.zw,.slice (some (blk w1.drew.heap.size)) x2.toNat x2.toNat] 168)) λw63=>m3 ((some (zB w62)),()) w63)/\Nw (w54.alloc (.cells #[zi (-1:Int)] 3)) λw64=>Nw (w64.alloc (.cells #[zi (-1:Int)] 3)) λw65=>dn 93 #[.slice (some (zB w64)) 1 1,zi x2] w65 λx54 w66=>dn 93 #[.slice (some (zB w54)) 1 1,zi x2] w66 λx56 w67=>Nw (w67.alloc (.cells #[.pointer p0,x54.zw,x56.zw,.slice (some (blk w1.drew.heap.size)) x2.toNat x2.toNat] 168)) λw68=>m3 ((some (zB w67)),()) w68) (λs4 w69=>dn 94 #[.pointer p0] w69 λx58 w70=>zj (S:=Int×Unit) (λs59 w71 n60=>ifB (decide (s59.1<(x58.l:Int))) ((0<=s59.1/\s59.1<(x58.l:Int))/\za x58.a λa61=>ldI w71 (a61.add s59.1.toNat) .i64 λx62=>za s4.1 λa63=>ldS w71 (a63.add 3) λx64=>(0<=x62/\x62<(x64.l:Int))/\za x64.a λa65=>Wr w71 (a65.add x62.toNat)/\Nw (w71.setCell (a65.add x62.toNat) (zi s59.1)) λw72=>n60 ((IntKind.i64.wrap (s59.1+(1:Int))),()) w72) (cR 95 #[.pointer s4.1,x58.zw] w71 λv66 w73=>v66=(.tuple #[])/\zj (S:=Int×Unit) (λs67 w74 n68=>ifB (decide (s67.1<(x58.l:Int))) (zk (S:=Unit) (λm69=>(0<=s67.1/\s67.1<(x58.l:Int))/\za x58.a λa71=>ldI w74 (a71.add s67.1.toNat) .i64 λx72=>za s4.1 λa73=>ldS w74 (a73.add 2) λx74=>(0<=x72/\x72<(x74.l:Int))/\za x74.a λa75=>Wr w74 (a75.add x72.toNat)/\Nw (w74.setCell (a75.add x72.toNat) (zi 0)) λw75=>za s4.1 λa76=>ldS w75 (a76.add 1) λx77=>(0<=x72/\x72<(x77.l:Int))/\za x77.a λa78=>ldI w75 (a78.add x72.toNat) .i64 λx79=>ifB (x79 !=(-1:Int)) (za s4.1 λa80=>ldS w75.drew (a80.add 2) λx81=>za s4.1 λa82=>ldS w75.drew (a82.add 2) λx83=>za s4.1 λa84=>ldS w75.drew (a84.add 1) λx85=>(0<=x72/\x72<(x85.l:Int))/\za x85.a λa86=>ldI w75.drew (a86.add x72.toNat) .i64 λx87=>(0<=x87/\x87<(x83.l:Int))/\za x83.a λa88=>ldI w75.drew (a88.add x87.toNat) .i64 λx89=>(0<=x72/\x72<(x81.l:Int))/\za x81.a λa90=>Wr w75.drew (a90.add x72.toNat)/\Nw (w75.drew.setCell (a90.add x72.toNat) (zi (IntKind.i64.wrap (x89+(1:Int))))) λw76=>m69 () w76) (m69 () w75)) (λs70 w77=>n68 ((IntKind.i64.wrap (s67.1+(1:Int))),()) w77)) (R (.tuple #[.pointer s4.1,zi 0]) w74)) (0,()) w73)) (0,()) w70))
theorem zja(p0)(R)(w)(h:zgL p0 R w):Calls Tryz.prog 57 #[.pointer p0] w (Ret R):=lwC zjo Tryz.func57 (by kernel_rfl) (by kernel_rfl) h
def zbG:Ann:=(.one (.q (.one (.loop ⟨[0,1],[]⟩ (.one (.seq none (.q (.one (.loop ⟨[0,1,9,10],[(11,(.b (.int .i64)))]⟩ (.q (.seq none .c (.seq (some ⟨[0,1,9,10,11],[]⟩) (.one (.q (.seq none (.q .c) (.q (.seq none (.q (.one (.loop ⟨[0,1,5,9,10,11,22,23],[(6,(.b (.int .i64))),(24,(.b (.int .i64)))]⟩ (.q (.seq none .c (.seq (some ⟨[0,1,5,9,10,11,22,23,24],[(6,(.b (.int .i64)))]⟩) (.one (.q (.seq (some ⟨[0,1,5,6,8,9,10,11,22,23,24],[]⟩) (.q .c) (.q .c)))) .nil)))))) (.q (.cond (.q .nil) .nil))))))) .nil)))))) .nil))))))
def Yl(p0:Option Addr)(p1:Sl)(R:VWP)(w:World):Prop:=zj (S:=Unit) (λs1 w1 n2=>zj (S:=Int×Unit) (λs3 w2 n4=>ifB (decide (s3.1<(p1.l:Int))) (zk (S:=Unit) (λm5=>(0<=s3.1/\s3.1<(p1.l:Int))/\za p1.a λa7=>ldI w2 (a7.add s3.1.toNat) .i64 λx8=>ifB (x8==0) (m5 () w2) (za p0 λa9=>ldP w2 a9 λx10=>dn 17 #[.pointer x10,zi x8] w2 λx12 w3=>zj (S:=Int×Int×Unit) (λs13 w4 n14=>ifB (decide (s13.2.1<(x12.l:Int))) (zk (S:=Int×Unit) (λm15=>(0<=s13.2.1/\s13.2.1<(x12.l:Int))/\za x12.a λa17=>ldI w4 (a17.add s13.2.1.toNat) .i64 λx18=>zk (S:=Unit) (λm19=>ifB (x18 !=0) (za p0 λa21=>ldS w4 (a21.add 1) λx22=>(0<=x18/\x18<(x22.l:Int))/\za x22.a λa23=>ldI w4 (a23.add x18.toNat) .i64 λx24=>ifB (x24==(-1:Int)) (m15 (s13.1,()) w4) (m19 () w4)) (m19 () w4)) (λs20 w5=>ifB (s13.1==(-1:Int)) (m15 (x18,()) w5) (dB 123 #[.pointer p0,zi s13.1,zi x18] w5 λx26 w6=>m15 (x26,()) w6))) (λs16 w7=>n14 (s16.1,(IntKind.i64.wrap (s13.2.1+(1:Int))),()) w7)) (za p0 λa27=>ldS w4 (a27.add 1) λx28=>(0<=x8/\x8<(x28.l:Int))/\za x28.a λa29=>ldI w4 (a29.add x8.toNat) .i64 λx30=>ifB (s13.1 !=x30) (za p0 λa31=>ldS w4 (a31.add 1) λx32=>(0<=x8/\x8<(x32.l:Int))/\za x32.a λa33=>Wr w4 (a33.add x8.toNat)/\Nw (w4.setCell (a33.add x8.toNat) (zi s13.1)) λw8=>n2 () w8) (m5 () w4))) ((-1:Int),0,()) w3)) (λs6 w9=>n4 ((IntKind.i64.wrap (s3.1+(1:Int))),()) w9)) (R (.tuple #[]) w2)) (0,()) w1) () w
theorem zd9(p0)(p1)(R)(w)(h:Yl p0 p1 R w):Calls Tryz.prog 95 #[.pointer p0,.slice p1.a p1.l p1.c] w (Ret R):=lwC zbG Tryz.func95 (by kernel_rfl) (by kernel_rfl) h
def zdq:Ann:=(.q (.seq none (.one (.loop ⟨[0],[(1,(.b (.int .i64))),(2,(.b (.int .i64)))]⟩ (.seq none (.q .c) (.one (.seq (some ⟨[0],[(1,(.b (.int .i64))),(2,(.b (.int .i64)))]⟩) (.q .c) .nil))))) (.q .nil)))
def zdf(p0:Option Addr)(p1:Int)(p2:Int)(R:VWP)(w:World):Prop:=zj (S:=Int×Int×Unit) (λs1 w1 n2=>ifB (s1.1 !=s1.2.1) (zk (S:=Int×Int×Unit) (λm3=>za p0 λa5=>ldS w1.drew (a5.add 3) λx6=>(0<=s1.1/\s1.1<(x6.l:Int))/\za x6.a λa7=>ldI w1.drew (a7.add s1.1.toNat) .i64 λx8=>za p0 λa9=>ldS w1.drew (a9.add 3) λx10=>(0<=s1.2.1/\s1.2.1<(x10.l:Int))/\za x10.a λa11=>ldI w1.drew (a11.add s1.2.1.toNat) .i64 λx12=>ifB (decide (x8<x12)) (m3 (s1.2.1,s1.1,()) w1.drew) (m3 (s1.1,s1.2.1,()) w1.drew)) (λs4 w2=>za p0 λa13=>ldS w2 (a13.add 1) λx14=>(0<=s4.1/\s4.1<(x14.l:Int))/\za x14.a λa15=>ldI w2 (a15.add s4.1.toNat) .i64 λx16=>n2 (x16,s4.2.1,()) w2)) (R (zi s1.1) w1)) (p1,p2,()) w
theorem zeF(p0)(p1)(p2)(R)(w)(h:zdf p0 p1 p2 R w):Calls Tryz.prog 123 #[.pointer p0,.int .i64 p1,.int .i64 p2] w (Ret R):=lwC zdq Tryz.func123 (by kernel_rfl) (by kernel_rfl) h
def YX:Ann:=(.q (.seq none (.q (.one (.loop ⟨[],[(11,(.b (.int .i64)))]⟩ (.q (.one (.q (.cond (.q .nil) .nil))))))) (.q .nil)))
def Zy(p0:Option Addr)(p1:Int)(p2:Int)(R:VWP)(w:World):Prop:=Nw (w.alloc (.cells #[zi p1] 3)) λw1=>Nw (w1.alloc (.cells #[.bool false] 4)) λw2=>dO 191 #[.pointer p0,zi p2] w2 λx2 w3=>zfv Tryz.prog Tryz.fs x2 w3 (T:=Int×Unit) (λs3=>[(zi s3.1)]) (λmk4 l5 s3 w4 S6=>w4.heap[l5]? =some (mk4 .ready none)/\Nw (w4.putObj l5 (mk4 .busy none)) λw5=>ldI w5 (zB w) .i64 λx8=>ifB (s3.1==x8) (Wr w5 (zB w1)/\Nw (w5.setCell (zB w1) (.bool true)) λw6=>w6.heap[l5]? =some (mk4 .busy none)/\S6 (.bool false) (w6.putObj l5 (mk4 .done (some .ret)))) (w5.heap[l5]? =some (mk4 .busy none)/\S6 (.bool true) (w5.putObj l5 (mk4 .ready none)))) (λmk4 l5 d7 w7=>(yF mk4 l5 .ready none w7 λw8=>Wr w8 (zB w1)/\Nw (w8.setCell (zB w1) (.bool false)) λw9=>Yx (d7::[]) w9 λw10=>ldB w10 (zB w1) λx9=>R (.bool x9) w10)\/(yF mk4 l5 .done (some .ret) w7 λw11=>Yx (d7::[]) w11 λw12=>ldB w12 (zB w1) λx10=>R (.bool x10) w12))
theorem zbU(p0:Option Addr)(p1:Int)(p2:Int)(R:VWP)(w:World)(h:Zy p0 p1 p2 R w):Calls Tryz.prog 183 #[.pointer p0,.int .i64 p1,.int .i64 p2] w (Ret R):=ze6 (fs:=Tryz.fs) (an:=YX) (args:=[(.pointer p0),(.int .i64 p1),(.int .i64 p2)]) Tryz.fsOK Tryz.mixed Tryz.func183 (by kernel_rfl) (by kernel_rfl) (Eq.mpr (by kernel_rfl:zjC Tryz.prog Tryz.fs Tryz.f183 YX [(.pointer p0),(.int .i64 p1),(.int .i64 p2)] w R=Zy p0 p1 p2 R w) h)
def zfa:Ann:=(.q (.q .nil))
def zeR(p0:Option Addr)(p1:Int)(R:VWP)(w:World):Prop:=Nw (w.alloc (.cells #[.pointer p0] 81)) λw1=>Nw (w1.alloc (.cells #[zi p1] 3)) λw2=>R (.func (.func 194) #[] #[.pointer (some (zB w)),.pointer (some (zB w1))]) w2
theorem zgh(p0)(p1)(R)(w)(h:zeR p0 p1 R w):Calls Tryz.prog 191 #[.pointer p0,.int .i64 p1] w (Ret R):=lwC zfa Tryz.func191 (by kernel_rfl) (by kernel_rfl) h
def zdp:Ann:=(.seq none (.q .c) (.q (.one (.loop ⟨[0,1],[(4,(.b (.int .i64)))]⟩ (.seq none (.q .c) (.seq none (.one (.q .c)) .nil))))))
def zde(p0:Value)(c0:Addr)(c1:Addr)(R:VWP)(w:World):Prop:=ldP w c0 λx1=>ldI w c1 .i64 λx2=>dv 195 #[.pointer x1,zi x2] w λx4 w1=>ifB (!x4) (R (.tuple #[]) w1) (ldI w1 c1 .i64 λx5=>zj (S:=Int×Unit) (λs6 w2 n7=>ifB (s6.1 !=(-1:Int)) (Zv Tryz.prog Tryz.fs p0 [(zi s6.1)] w2 λv8 w3=>∃x9:Bool,v8=(.bool x9)/\ifB (!x9) (R (.tuple #[]) w3) (ldP w3 c0 λx10=>za x10 λa11=>ldS w3 (a11.add 1) λx12=>(0<=s6.1/\s6.1<(x12.l:Int))/\za x12.a λa13=>ldI w3 (a13.add s6.1.toNat) .i64 λx14=>n7 (x14,()) w3)) (R (.tuple #[]) w2)) (x5,()) w1)
theorem zeE(p0)(c0)(c1)(R)(w)(h:zde p0 c0 c1 R w):Calls Tryz.prog 194 #[p0,.pointer (some c0),.pointer (some c1)] w (Ret R):=lwC zdp Tryz.func194 (by kernel_rfl) (by kernel_rfl) h
def zba:Ann:=(.q (.q .nil))
def zaS(p0:Option Addr)(p1:Int)(R:VWP)(w:World):Prop:=ifB (!(Option.isNone p0)) (ifB (decide (p1≥(0:Int))) (za p0 λa1=>ldS w (a1.add 2) λx2=>ifB (decide (p1<(x2.l:Int))) (za p0 λa3=>ldS w (a3.add 2) λx4=>(0<=p1/\p1<(x4.l:Int))/\za x4.a λa5=>ldI w (a5.add p1.toNat) .i64 λx6=>R (.bool (x6 !=(-1:Int))) w) (R (.bool false) w)) (R (.bool false) w)) (R (.bool false) w)
theorem zcJ(p0)(p1)(R)(w)(h:zaS p0 p1 R w):Calls Tryz.prog 195 #[.pointer p0,.int .i64 p1] w (Ret R):=lwC zba Tryz.func195 (by kernel_rfl) (by kernel_rfl) h
end Go.Proofs
namespace Go.Gk
end Go.Gk
namespace Go.Proofs
open Go.Gk Go.RowKit Go.Gr
end Go.Proofs
namespace Go.Proofs
open Go.Gk Go.RowKit Go.Gr
end Go.Proofs
namespace Go.Proofs
open Go.Gk Go.RowKit Go.Gr
end Go.Proofs
namespace Go.Proofs
open Go.Gk Go.RowKit Go.Gr
structure Mk (w0:World) (nx:List (List Nat)) (wo:Int) (w:World) (bl:List Bool):Prop where
 below:Below w0.heap.size w0 w
 blk:Blk w w0.heap.size 4 (bl.map Value.bool)
 len:bl.length=nx.length
 sound:∀j,bl.getD j false=true->zO nx wo j
 zero:bl.getD 0 false=true
end Go.Proofs
