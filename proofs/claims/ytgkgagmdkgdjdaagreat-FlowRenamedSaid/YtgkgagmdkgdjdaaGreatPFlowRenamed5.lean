/- FlowRenamed, part 5; made small by a program. -/
import Derived.Test.YtgkgagmdkgdjdaaGreatProg
import Derived.Laws.CopyRow
import Derived.Maps.RangeRun
import Derived.Test.YtgkgagmdkgdjdaaGreatPFlowRenamed4
namespace Go.Proofs
open Go.Gk Go.RowKit Go.Gr
theorem zlp{n:Nat}{b:Int}(hb:b=24\/b=8\/b=1)(h:n<=4096):(0<=(n:Int)/\(n:Int)<=(n:Int)/\b*(n:Int)<=281474976710656/\(n:Int)<=9223372036854775807):=by
 rcases hb with rfl |rfl |rfl<;>omega
theorem zrw{w:World}{s:Sl}{hs:List Sl}(h:IsS Sl.val w s hs){n:Nat}(hn:s.l=n){k:Nat}(hk:k<hs.length){φ:Sl->Prop}(hφ:φ hs[k]) :
  (0<=(k:Int)/\(k:Int)<(n:Int))/\za s.a λa=>ldS w (a.add (Int.toNat (k:Int))) φ:=by
 subst hn;exact zkw h hk hφ
abbrev zH(ll:List (List Int)):List (List Nat):=ll.map λl=>l.map Int.toNat
theorem zlr(ll:List (List Int))(i:Nat)(hi:i<ll.length):(zH ll).getD i []=(ll[i]).map Int.toNat:=by simp[zH,List.getD,hi]
def Good(ll:List (List Int)):Prop:=∀l∈ll,∀x∈l,0<=x/\x<(ll.length:Int)
abbrev YA(ll:List (List Int)):List (List Nat):=(zH ll).map zbi
theorem zef(n:Nat):zL (List.replicate n ([]:List Nat))=List.replicate n []:=by
 apply List.ext_getElem
 ·simp[zL]
 ·intro j g1 g2
  simp only[zL,List.getElem_map,List.getElem_range,List.getElem_replicate]
  rw[List.filter_eq_nil_iff]
  intro a ha
  have ha:=List.mem_range.1 ha
  simp only[List.length_replicate]at ha
  simp[List.getD,ha]
theorem zbu(ll:List (List Int)):nxP (zH ll) 0 0=List.replicate ll.length []:=by
 rw[zqC];simp[zH]
set_option maxHeartbeats 1000000 in
theorem zkd{s:Sl}{hs:List Sl}{ll:List (List Int)}{w:World}{R:VWP}(h:IsII w s hs ll)
  (h2:ll.length=0->R (.tuple #[.pointer none,.int .i64 2]) w)
  (h4:4096<ll.length->R (.tuple #[.pointer none,.int .i64 4]) w)
  (hbad:0<ll.length->ll.length<=4096->¬Good ll->∀w',Below w.heap.size w w'->R (.tuple #[.pointer none,.int .i64 141]) w')
  (hok:0<ll.length->ll.length<=4096->Good ll->∀w' gb,Below w.heap.size w w'->IsGB w' w.heap.size gb (YA ll)->IsG w' gb (YA ll)->R (.tuple #[.pointer (some (blk gb)),.int .i64 0]) w') :
  cR 39 #[.slice s.a s.l s.c] w R:=by
 refine zc.of (zjx s R w ?_) λ_ _ h=>h
 have hsl:s.l=hs.length:=h.top.len
 have hhl:hs.length=ll.length:=h.len
 have hn:s.l=ll.length:=by omega
 unfold zgd
 rw[hn]
 refine zn (λhe=>h2 (by omega)) (λhne=>zg (λhgt=>h4 (by omega)) (λhle=>?_))
 have hn0:0<ll.length:=by omega
 have hn1:ll.length<=4096:=by omega
 refine zk.cut (λst w7=>∃gb bn ba,st=(some (blk gb),())/\OS w gb bn ba ll.length w7 (nxP (zH ll) 0 0)) ⟨?_,?_⟩ ?_
 ·refine⟨zlp (.inl rfl) hn1,Nw.gen λw1 hw1=>⟨zlp (.inl rfl) hn1,Nw.gen λw2 hw2=>Nw.gen λw3 hw3=>⟨w2.heap.size,w.heap.size,w1.heap.size,rfl,?_⟩⟩⟩
  have hz1:w1.heap.size=w.heap.size+1:=by rw[hw1];simp
  have hz2:w2.heap.size=w.heap.size+2:=by rw[hw2];simp;omega
  have b1:Blk w1 w.heap.size 43 (List.replicate ll.length (.slice none 0 0)):=by rw[hw1];exact Blk.made w.drew _ _ _
  have b2:Blk w2 w1.heap.size 43 (List.replicate ll.length (.slice none 0 0)):=by rw[hw2];exact Blk.made w1 _ _ _
  have b1':Blk w3 w.heap.size 43 (List.replicate ll.length (.slice none 0 0)):=by rw[hw3,hw2];exact(b1.alloc _).alloc _
  have b2':Blk w3 w1.heap.size 43 (List.replicate ll.length (.slice none 0 0)):=by rw[hw3];exact b2.alloc _
  have hg:Blk w3 w2.heap.size 118 (Ya ⟨some (blk w.heap.size),ll.length,ll.length⟩ ⟨some (blk w1.heap.size),ll.length,ll.length⟩ ⟨none,0,0⟩ ⟨none,0,0⟩ (List.replicate 64 (.int .u64 (0:Int)))):=by
   rw[hw3];exact Blk.new w2 _ _
  refine⟨?_,by rw[zbu];simp,hg,by omega,Nat.le_refl _,by omega,by omega,List.replicate ll.length ⟨none,0,0⟩,List.replicate ll.length ⟨none,0,0⟩,λ_=>0,by rw[zbu];exact Fam.new _ w3 _ _ _ _ b1',by rw[zbu,zef];exact Fam.new _ w3 _ _ _ _ b2'⟩
  ·rw[hw3,hw2,hw1];exact(((Below.refl _ _).drew.alloc (by simp) _).alloc (by simp) _).alloc (by simp;omega) _
 ·refine⟨zlp (.inl rfl) hn1,Nw.gen λw1 hw1=>⟨zlp (.inl rfl) hn1,Nw.gen λw2 hw2=>Nw.gen λw3 hw3=>⟨w2.heap.size,w1.heap.size,w.heap.size,rfl,?_⟩⟩⟩
  have hz1:w1.heap.size=w.heap.size+1:=by rw[hw1];simp
  have hz2:w2.heap.size=w.heap.size+2:=by rw[hw2];simp;omega
  have b1:Blk w1 w.heap.size 43 (List.replicate ll.length (.slice none 0 0)):=by rw[hw1];exact Blk.made w.drew _ _ _
  have b2:Blk w2 w1.heap.size 43 (List.replicate ll.length (.slice none 0 0)):=by rw[hw2];exact Blk.made w1 _ _ _
  have b1':Blk w3 w.heap.size 43 (List.replicate ll.length (.slice none 0 0)):=by rw[hw3,hw2];exact(b1.alloc _).alloc _
  have b2':Blk w3 w1.heap.size 43 (List.replicate ll.length (.slice none 0 0)):=by rw[hw3];exact b2.alloc _
  have hg:Blk w3 w2.heap.size 118 (Ya ⟨some (blk w1.heap.size),ll.length,ll.length⟩ ⟨some (blk w.heap.size),ll.length,ll.length⟩ ⟨none,0,0⟩ ⟨none,0,0⟩ (List.replicate 64 (.int .u64 (0:Int)))):=by
   rw[hw3];exact Blk.new w2 _ _
  refine⟨?_,by rw[zbu];simp,hg,by omega,by omega,Nat.le_refl _,by omega,List.replicate ll.length ⟨none,0,0⟩,List.replicate ll.length ⟨none,0,0⟩,λ_=>0,by rw[zbu];exact Fam.new _ w3 _ _ _ _ b2',by rw[zbu,zef];exact Fam.new _ w3 _ _ _ _ b1'⟩
  ·rw[hw3,hw2,hw1];exact(((Below.refl _ _).drew.alloc (by simp) _).alloc (by simp) _).alloc (by simp;omega) _
 rintro _ w7 ⟨gb,bn,ba,rfl,hos⟩
 have hrl:(zH ll).length=ll.length:=by simp[zH]
 refine zj.count ll.length (by omega) (λi w'=>OS w gb bn ba ll.length w' (nxP (zH ll) i 0)/\∀j,j<i->∀(hj:j<ll.length),∀x∈ll[j],0<=x/\x<(ll.length:Int)) ⟨hos,λj hj=>by omega⟩ ?_
 rintro i w8 hi ⟨hos8,hgood⟩ next hnext
 refine zg (λhlt=>?_) (λhge=>?_)
 ·have hlt:i<ll.length:=by dsimp only at hlt;omega
  have hin:=h.below (w':=w8) (hos8.below.mono (Nat.le_refl _))
  refine zrw hin.top hn (k:=i) (by omega) ?_
  refine Nw.gen λw9 hw9=>?_
  have hb9:Below w8.heap.size w8 w9:=by rw[hw9];exact(Below.refl _ _).alloc (Nat.le_refl _) _
  have hbits9:Bits w9 (blk w8.heap.size) λ_=>false:=by rw[hw9];exact Bits.new w8 _
  have hB9:Blk w9 w8.heap.size 116 (List.replicate 64 (.int .u64 (0:Int))):=by rw[hw9];exact Blk.new w8 _ _
  have hos9:=hos8.grown hb9
  have hsbB:w.heap.size<=w8.heap.size:=hos8.below.size
  have hrow:∀{w':World},Below w.heap.size w w'->IsI w' (hs[i]'(by omega)) ll[i]:=λhb=>(h.below hb).row i (by omega) hlt
  have hrn:(hs[i]'(by omega)).l=(ll[i]).length:=(hrow hos9.below).len
  have hgd:=zlr ll i hlt
  clear hw9 hin
  refine zj.count (ll[i]).length (hrow hos9.below).bound (λk w'=>OS w gb bn ba ll.length w' (nxP (zH ll) i k)/\(∃cs,Blk w' w8.heap.size 116 cs)/\Bits w' (blk w8.heap.size) (λj=>((nxP (zH ll) i k).getD i []).contains j)/\
   ∀j,j<k->∀(hj:j<(ll[i]).length),0<=ll[i][j]/\ll[i][j]<(ll.length:Int)) ⟨hos9,⟨_,hB9⟩,?_,λj hj=>by omega⟩ ?_
  ·have e:(nxP (zH ll) i 0).getD i []=[]:=by rw[zdi (by omega)];simp[zbi]
   rw[e];simpa using hbits9
  rintro k w10 hk ⟨hos10,⟨cs10,hB10⟩,hbits10,hgood10⟩ nxt hnxt
  refine zg (λhltk=>?_) (λhgek=>?_)
  ·have hltk:k<(ll[i]).length:=by dsimp only at hltk;omega
   refine zk.cut (λ_ w'=>OS w gb bn ba ll.length w' (nxP (zH ll) i (k+1))/\(∃cs,Blk w' w8.heap.size 116 cs)/\Bits w' (blk w8.heap.size) (λj=>((nxP (zH ll) i (k+1)).getD i []).contains j)/\
    0<=ll[i][k]/\ll[i][k]<(ll.length:Int)) ?_ λ_ w' hh=>hnxt w' hltk ⟨hh.1,hh.2.1,hh.2.2.1,λj hj hjl=>by
     by_cases e:j=k
     ·subst e;exact hh.2.2.2
     ·exact hgood10 j (by omega) hjl⟩
   refine ze7 (hrow hos10.below) hltk ?_
   have bad:¬(0<=ll[i][k]/\ll[i][k]<(ll.length:Int))->R (.tuple #[.pointer none,.int .i64 141]) w10:=λhx=>
    hbad hn0 hn1 (λhG=>hx (hG _ (List.getElem_mem hlt) _ (List.getElem_mem hltk))) w10 hos10.below
   refine zk.cut (λ_ w'=>w'=w10/\0<=ll[i][k]/\ll[i][k]<(ll.length:Int)) (zg (λhx=>bad (by omega)) (λhx=>zg (λhx'=>bad (by omega)) (λhx'=>⟨rfl,by omega,by omega⟩))) ?_
   rintro _ wx ⟨ewx,hx0,hx1⟩
   subst wx
   obtain⟨x,hx⟩:=Int.eq_ofNat_of_zero_le hx0
   have hxn:x<ll.length:=by omega
   have hrk:k<((zH ll).getD i []).length:=by rw[hgd];simpa using hltk
   have hrx:((zH ll).getD i [])[k]=x:=by
    have:((zH ll).getD i [])[k]=(ll[i][k]).toNat:=(List.getElem_of_eq hgd hrk).trans (List.getElem_map _)
    rw[this,hx];rfl
   rw[hx]
   refine zjz (i:=x) (by omega) hbits10 ⟨_,rfl,zM ?_⟩
   refine zo (λhc=>?_) (λhc=>?_)
   ·have hskip:=zqB (rows:=zH ll) (i:=i) (k:=k) (by omega) hrk (by rw[hrx];exact hc)
    rw[hskip]
    exact⟨hos10,⟨_,hB10⟩,hbits10,by omega,by omega⟩
   ·have hpush:=zqA (rows:=zH ll) (i:=i) (k:=k) (by omega) hrk (by rw[hrx];exact hc)
    rw[hrx]at hpush
    refine zlJ (i:=x) (by omega) hbits10 λv hbits11=>⟨rfl,?_⟩
    generalize hw11:w10.drew.setCell ((blk w8.heap.size).add (x / 64)) (.int .u64 (v:Int))=w11 at hbits11⊢
    obtain⟨cs11,hB11⟩:∃cs,Blk w11 w8.heap.size 116 cs:=by rw[<-hw11];exact⟨_,hB10.drew.set _ _⟩
    have hos11:OS w gb bn ba ll.length w11 (nxP (zH ll) i k):=by
     obtain⟨o1,o2,o3,o4,o5,o6,o7,hn',ha',ow,f1,f2⟩:=hos10
     have hne3:gb≠w8.heap.size:=o3.apart hB10 (by decide)
     have hne1:w8.heap.size≠bn:=hB10.apart f1.head (by decide)
     have hne2:w8.heap.size≠ba:=hB10.apart f2.head (by decide)
     rw[<-hw11]
     exact⟨o1.drew.setCell (by rw[zq];exact hsbB) _,o2,o3.drew.other (by rw[zq];exact hne3) _,o4,o5,o6,o7,hn',ha',ow,
      (f1.grown (w':=_) (Below.refl _ _).drew).set_other (hB10.drew) hne1 (by decide) _ _,(f2.grown (w':=_) (Below.refl _ _).drew).set_other (hB10.drew) hne2 (by decide) _ _⟩
    have hlen:((nxP (zH ll) i k).getD i []).length<=ll.length:=by
     rw[zdi (by omega),if_neg (by omega),if_pos rfl,hgd]
     refine zpL λy hy=>?_
     obtain⟨j,hj,rfl⟩:=List.mem_iff_getElem.1 hy
     have hj':j<k/\j<(ll[i]).length:=by simp at hj;omega
     have:=hgood10 j hj'.1 hj'.2
     simp only[List.getElem_take,List.getElem_map]
     omega
    have hgt:∀j,i<j->(nxP (zH ll) i k).getD j []=[]:=λj hj=>by
     by_cases hjn:j<(zH ll).length
     ·rw[zdi hjn,if_neg (by omega),if_neg (by omega)]
     ·rw[List.getD_eq_getElem?_getD,List.getElem?_eq_none (by rw[zgt];omega)];rfl
    refine zpe hos11 hlt hxn hn1 (by omega) (by have:=zjf (nxP (zH ll) i k) x;rw[zgt]at this;omega) hc hgt (by decide) (by decide) hB11 λw' hos' hB'=>?_
    rw[hpush]
    refine⟨hos',⟨_,hB'⟩,?_,by omega,by omega⟩
    have e:∀j,(((nxP (zH ll) i k).set i ((nxP (zH ll) i k).getD i []++[x])).getD i []).contains j=(((nxP (zH ll) i k).getD i []).contains j||j==x):=by
     intro j
     have:((nxP (zH ll) i k).set i ((nxP (zH ll) i k).getD i []++[x])).getD i []=(nxP (zH ll) i k).getD i []++[x]:=by simp[List.getD,zgt,hlt]
     rw[this,Bool.eq_iff_iff]
     simp
    have hbits':Bits w' (blk w8.heap.size) (λj=>((nxP (zH ll) i k).getD i []).contains j||j==x):=
     hbits11.of_block ((show w'.heap[w8.heap.size]? =_ from hB').trans (show w11.heap[w8.heap.size]? =_ from hB11).symm)
    simpa only[e] using hbits'
  ·have hkk:k=(ll[i]).length:=by dsimp only at hgek;omega
   subst hkk
   refine hnext w10 hlt ⟨?_,λj hj hjl x hx=>?_⟩
   ·have:=zq9 (zH ll) i
    rw[hgd,List.length_map]at this
    rw[<-this]
    exact hos10
   ·by_cases e:j=i
    ·subst e
     obtain⟨m,hm,rfl⟩:=List.mem_iff_getElem.1 hx
     exact hgood10 m hm hm
    ·exact hgood j (by omega) hjl x hx
 ·
  have hi':i=ll.length:=by dsimp only at hge;omega
  subst hi'
  have hG:Good ll:=λl hl x hx=>by
   obtain⟨j,hj,rfl⟩:=List.mem_iff_getElem.1 hl
   exact hgood j hj hj x hx
  have hnx:nxP (zH ll) ll.length 0=YA ll:=by have:=zrF (zH ll);rwa[hrl]at this
  rw[hnx]at hos8
  obtain⟨o1,o2,o3,o4,o5,o6,o7,hn',ha',ow,f1,f2⟩:=hos8
  have hl1:hn'.length=ll.length:=by rw[f1.len,o2]
  have hl2:ha'.length=ll.length:=by rw[f2.len,ZU,o2]
  have hrows:∀j,∀t∈(YA ll).getD j [],t<(YA ll).length:=by
   intro j t ht
   by_cases hj:j<ll.length
   ·have:(YA ll).getD j []=zbi (ll[j].map Int.toNat):=by simp[YA,zH,List.getD,hj]
    rw[this,zia]at ht
    obtain⟨y,hy,rfl⟩:=List.mem_map.1 ht
    have:=hG _ (List.getElem_mem hj) y hy
    simp[YA,zH]
    omega
   ·simp[YA,zH,List.getD,hj]at ht
  refine zmW o3 (f1.isSS hl1 (by omega)) (f1.avoids o3 (by decide) (by decide)) (by rw[o2];exact hn0) (by rw[o2];exact hn1) hrows λw' wk od bs hfr hGw hbits hwk hod hfw hfo=>⟨rfl,?_⟩
  have hz:=o1.size
  have gB:IsGB w' w.heap.size gb (YA ll):=by
   refine⟨o4,_,_,wk,od,bs,hn',ha',hGw,?_,?_,hwk.isS,hod.isS,hbits,(λa ha=>by cases ha;exact o5),(λa ha=>by cases ha;exact o6),(λa ha=>by have:=hfw a ha;omega),(λa ha=>by have:=hfo a ha;omega),(λi hi a ha=>(f1.own i hi a ha).2),λi hi a ha=>(f2.own i hi a ha).2⟩
   ·exact(f1.isSS hl1 (by omega)).fr hfr (Nat.le_refl _) (f1.avoids o3 (by decide) (by decide))
   ·exact(f2.isSS hl2 (by omega)).fr hfr (Nat.le_refl _) (f2.avoids o3 (by decide) (by decide))
  refine hok hn0 hn1 hG w' gb ?_ gB gB.isG
  exact o1.trans ((hfr.mono (B':=w.heap.size) (X':=λ_=>False) o1.size (λk hk e=>by omega)).below)
end Go.Proofs
namespace Go.Proofs
open Go.Gk Go.RowKit Go.Gr
structure NxOk (nx:List (List Nat)):Prop where
 pos:0<nx.length
 max:nx.length<=4096
 rows:∀i,∀t∈nx.getD i [],t<nx.length
 nodup:∀i,(nx.getD i []).Nodup
theorem NxOk.row_le{nx:List (List Nat)}(h:NxOk nx)(i:Nat):(nx.getD i []).length<=nx.length:=Yj (h.nodup i) (h.rows i)
theorem NxOk.came{nx:List (List Nat)}(h:NxOk nx):Came nx.length ([],[]) (yu nx nx.length 0 ([],[])):=
 zdB h.rows nx.length 0 ([],[]) h.pos (by simp) (by simp) (by simp)
theorem zpc(nx:List (List Nat)):(zy nx).length=(yO nx).length:=by
 have:=zkP nx nx.length 0 ([],[])
 simp[zy,yO]at this⊢
 omega
theorem NxOk.walk_le{nx:List (List Nat)}(h:NxOk nx):(yO nx).length<=nx.length:=Yj h.came.nodup h.came.lt
theorem zjv{ll:List (List Int)}{j:Nat}(hj:j<ll.length):(YA ll).getD j []=zbi (ll[j].map Int.toNat):=by simp[YA,zH,List.getD,hj]
theorem ZV(ll:List (List Int)):(YA ll).length=ll.length:=by simp[YA,zH]
theorem zpM{ll:List (List Int)}(h0:0<ll.length)(h1:ll.length<=4096)(hG:Good ll):NxOk (YA ll):=by
 refine⟨by rw[ZV];exact h0,by rw[ZV];exact h1,λj t ht=>?_,λj=>?_⟩
 ·by_cases hj:j<ll.length
  ·rw[zjv hj,zia]at ht
   obtain⟨y,hy,rfl⟩:=List.mem_map.1 ht
   have:=hG _ (List.getElem_mem hj) y hy
   rw[ZV]
   omega
  ·simp[YA,zH,List.getD,hj]at ht
 ·by_cases hj:j<ll.length
  ·rw[zjv hj];exact zit _
  ·simp[YA,zH,List.getD,hj]
theorem _root_.Go.Gk.IsS.toI{w:World}{s:Sl}{l:List Nat}(h:IsS iN w s l):IsI w s (l.map λ(x:Nat)=>(x:Int)):=
 ⟨by rw[List.length_map];exact h.len,h.cap,h.max,h.nil,λa ha i hi=>by rw[List.getElem_map];exact h.cell a ha i (by simpa using hi)⟩
theorem zhP{gb:Nat}{nx:List (List Nat)}{w:World}{R:VWP}(h:IsG w gb nx)(hR:R (.int .i64 (nx.length:Int)) w) :
  cR 15 #[.pointer (some (blk gb))] w R:=by
 refine zc.of (zas _ R w ?_) λ_ _ h=>h
 obtain⟨sn,sa,wk,od,bs,hn,ha,h1,h2,h3,h4,h5,h6⟩:=h
 refine⟨sn,h1.cell0 rfl,?_⟩
 have e:sn.l=nx.length:=by have:=h2.top.len;have:=h2.len;omega
 show R (.int .i64 (sn.l:Int)) w
 rw[e];exact hR
theorem zlj{gb:Nat}{nx:List (List Nat)}{i:Int}{w:World}{R:VWP}(h:IsG w gb nx)(hR:R (.bool (decide (0<=i/\i<nx.length))) w) :
  cR 40 #[.pointer (some (blk gb)),.int .i64 i] w R:=by
 refine zc.of (zaG _ i R w ?_) λ_ _ h=>h
 refine zg (λh0=>zhP h ⟨_,rfl,?_⟩) (λh0=>?_)
 ·have:decide (i<(nx.length:Int))=decide (0<=i/\i<nx.length):=by
   rw[decide_eq_decide];exact⟨λh=>⟨h0,h⟩,λh=>h.2⟩
  dsimp only[zB,Go.Gk.Sl.zw,zi,zu,zb,zh];rw[this];exact hR
 ·have:decide (0<=i/\i<(nx.length:Int))=false:=by rw[decide_eq_false_iff_not];omega
  rw[this]at hR;exact hR
def zga(ll:List (List Nat))(i:Int):List Nat:=if 0<=i then ll.getD i.toNat [] else []
theorem zdk(ll:List (List Nat))(i:Nat):zga ll (i:Int)=ll.getD i []:=by simp[zga]
theorem zkJ{ll:List (List Nat)}{i:Int}(h:¬(0<=i/\i<ll.length)):zga ll i=[]:=by
 unfold zga
 split
 ·rw[List.getD_eq_getElem?_getD,List.getElem?_eq_none (by omega)];rfl
 ·rfl
theorem zo2{gb:Nat}{nx:List (List Nat)}(hx:NxOk nx){i:Int}{w:World}{R:VWP}(h:IsG w gb nx)
  (hR:∀r w',Own w' 3 1 r ((zga nx i).map iN)->zC w.heap.size r->Below w.heap.size w w'->R (.slice r.a r.l r.c) w') :
  cR 63 #[.pointer (some (blk gb)),.int .i64 i] w R:=by
 refine zc.of (zaa _ i R w ?_) λ_ _ h=>h
 refine zlj h ⟨_,rfl,zM (zg (λhi=>?_) (λhi=>?_))⟩
 ·obtain⟨sn,sa,wk,od,bs,hn,ha,h1,h2,h3,h4,h5,h6⟩:=h
  obtain⟨k,rfl⟩:=Int.eq_ofNat_of_zero_le hi.1
  have hk:k<nx.length:=by have:=hi.2;omega
  have hnl:=h2.len
  have hrl:=hx.row_le k
  have hrm:=hx.max
  have hsz:nx[k].length*8<=140737488355328:=by
   have e:nx[k]=nx.getD k []:=by simp[List.getD,hk]
   rw[e];omega
  refine⟨sn,h1.cell0 rfl,zkw h2.top (by omega) ?_⟩
  refine zgc zny (h2.row k (by omega) hk) hsz λr w' g1 g2 g3=>⟨r,rfl,hR r w' ?_ g2 g3⟩
  rw[zdk]
  simpa[List.getD,hk] using g1
 ·refine hR ⟨none,0,0⟩ w ?_ (λa ha=>by cases ha) (Below.refl _ _)
  rw[zkJ (by omega)];exact Own.nil _ _ _
theorem ziR{gb:Nat}{nx:List (List Nat)}(hx:NxOk nx){i:Int}{w:World}{R:VWP}(h:IsG w gb nx)
  (hR:∀r w',Own w' 3 1 r ((zga (zL nx) i).map iN)->zC w.heap.size r->Below w.heap.size w w'->R (.slice r.a r.l r.c) w') :
  cR 17 #[.pointer (some (blk gb)),.int .i64 i] w R:=by
 refine zc.of (YB _ i R w ?_) λ_ _ h=>h
 refine zlj h ⟨_,rfl,zM (zg (λhi=>?_) (λhi=>?_))⟩
 ·obtain⟨sn,sa,wk,od,bs,hn,ha,h1,h2,h3,h4,h5,h6⟩:=h
  obtain⟨k,rfl⟩:=Int.eq_ofNat_of_zero_le hi.1
  have hk:k<(zL nx).length:=by rw[ZU];have:=hi.2;omega
  have hnl:=h3.len
  have hrl:=zjf nx k
  have hrm:=hx.max
  have hsz:(zL nx)[k].length*8<=140737488355328:=by
   have e:(zL nx)[k]=(zL nx).getD k []:=by simp[List.getD,hk]
   rw[e];omega
  refine⟨sa,h1.cell (n:=1) rfl,zkw h3.top (by omega) ?_⟩
  refine zgc zny (h3.row k (by omega) hk) hsz λr w' g1 g2 g3=>⟨r,rfl,hR r w' ?_ g2 g3⟩
  rw[zdk]
  simpa[List.getD,hk] using g1
 ·refine hR ⟨none,0,0⟩ w ?_ (λa ha=>by cases ha) (Below.refl _ _)
  rw[zkJ (by rw[ZU];omega)];exact Own.nil _ _ _
theorem znd{gb:Nat}{nx:List (List Nat)}(hx:NxOk nx){w:World}{R:VWP}(h:IsG w gb nx)
  (hR:∀r w',Own w' 3 1 r ((zy nx).map iN)->zC w.heap.size r->Below w.heap.size w w'->R (.slice r.a r.l r.c) w') :
  cR 94 #[.pointer (some (blk gb))] w R:=by
 refine zc.of (zcZ _ R w ?_) λ_ _ h=>h
 obtain⟨sn,sa,wk,od,bs,hn,ha,h1,h2,h3,h4,h5,h6⟩:=h
 refine⟨od,h1.cell (n:=3) rfl,zgc zny h5 (by have:=zpc nx;have:=hx.walk_le;have:=hx.max;omega) λr w' g1 g2 g3=>⟨r,rfl,hR r w' g1 g2 g3⟩⟩
def ZW(nx:List (List Nat))(i:Int):Bool:=decide (0<=i)&&(yO nx).contains i.toNat
theorem zkS{gb:Nat}{nx:List (List Nat)}(hx:NxOk nx){i:Int}{w:World}{R:VWP}(h:IsG w gb nx)(hR:R (.bool (ZW nx i)) w) :
  cR 16 #[.pointer (some (blk gb)),.int .i64 i] w R:=by
 refine zc.of (ZZ _ i R w ?_) λ_ _ h=>h
 refine zlj h ⟨_,rfl,zg (λhi=>?_) (λhi=>?_)⟩
 ·obtain⟨sn,sa,wk,od,bs,hn,ha,h1,h2,h3,h4,h5,h6⟩:=h
  obtain⟨k,rfl⟩:=Int.eq_ofNat_of_zero_le hi.1
  have hm:=hx.max
  have hk:k<4096:=by have:=hi.2;omega
  refine zjz hk (zbX.bits h1 h6) ⟨_,rfl,?_⟩
  simpa[ZW] using hR
 ·have:ZW nx i=false:=by
   unfold ZW
   by_cases h0:0<=i
   ·have:(yO nx).contains i.toNat=false:=by
     rw[<-Bool.not_eq_true,List.contains_iff_mem]
     intro hm
     have:=hx.came.lt _ hm
     omega
    rw[this,Bool.and_false]
   ·simp[h0]
  rw[this]at hR
  exact hR
end Go.Proofs
namespace Go.Proofs
open Go.Gk Go.RowKit Go.Gr
end Go.Proofs
namespace Go.Proofs
open Go.Gk Go.RowKit Go.Gr
end Go.Proofs
namespace Go.Proofs
open Go.Gk Go.RowKit Go.Gr
theorem zlU{nx:List (List Nat)}(hx:NxOk nx){i j:Nat}:i∈(zL nx).getD j []↔j∈nx.getD i []:=by
 by_cases hj:j<nx.length
 ·rw[zgf hj,List.mem_filter,List.mem_range,List.contains_iff_mem]
  refine⟨λh=>h.2,λh=>⟨?_,h⟩⟩
  by_cases hi:i<nx.length
  ·exact hi
  ·simp[List.getD,hi]at h
 ·constructor
  ·intro h;simp[List.getD,ZU,hj]at h
  ·intro h;exact absurd (hx.rows i j h) hj
end Go.Proofs
namespace Go.Proofs
open Go.Gk
set_option linter.unusedVariables false
set_option maxRecDepth 100000
def zir:Ann:=(.q (.one (.q (.seq none (.q (.cond (.q .nil) .nil)) (.q (.q (.q (.seq none (.q (.one (.loop ⟨[2,5,6,29,30],[(31,(.b (.int .i64)))]⟩ (.q (.seq none .c (.seq (some ⟨[2,5,6,29,30,31],[]⟩) (.one (.q (.seq (some ⟨[2,5,6,7,8,29,30,31],[]⟩) (.q (.cond (.q .nil) .nil)) (.q (.seq none (.q (.one (.loop ⟨[2,5,6,7,29,30,31,50,51],[(9,(.b .bool)),(52,(.b (.int .i64)))]⟩ (.q (.seq none .c (.seq (some ⟨[2,5,6,7,29,30,31,50,51,52],[(9,(.b .bool))]⟩) (.one (.q (.q (.seq none (.q (.cond (.q .nil) .nil)) .nil)))) .nil)))))) (.seq (some ⟨[2,7],[]⟩) (.q .c) (.q .nil))))))) .nil)))))) (.q .nil)))))))))
def zim(p0:(Int×Int×Sl×Unit))(R:VWP)(w:World):Prop:=Nw (w.alloc (.cells #[zu p0.1,zu p0.2.1,p0.2.2.1.zw] 25)) λw1=>Nw (w1.alloc (.cells #[zi 0,zi 0] 29)) λw2=>da w2 (zB w) λx1 x2 x3=>dX 67 #[.agg #[zu x1,zu x2,x3.zw]] w2 λx5 x6 w3=>Nw (w3.alloc (.cells (List.toArray (List.replicate 20 (zi 0))) 98)) λw4=>Nw (w4.alloc (.cells #[zi 0,zi 0] 29)) λw5=>dF w5 (zB w3) (zi x5.1) (zi x5.2.1) (zi x5.2.2.1) (zi x5.2.2.2.1) (zi x5.2.2.2.2.1) (zi x5.2.2.2.2.2.1) (zi x5.2.2.2.2.2.2.1) (zi x5.2.2.2.2.2.2.2.1) (zi x5.2.2.2.2.2.2.2.2.1) (zi x5.2.2.2.2.2.2.2.2.2.1) (zi x5.2.2.2.2.2.2.2.2.2.2.1) (zi x5.2.2.2.2.2.2.2.2.2.2.2.1) (zi x5.2.2.2.2.2.2.2.2.2.2.2.2.1) (zi x5.2.2.2.2.2.2.2.2.2.2.2.2.2.1) (zi x5.2.2.2.2.2.2.2.2.2.2.2.2.2.2.1) (zi x5.2.2.2.2.2.2.2.2.2.2.2.2.2.2.2.1) (zi x5.2.2.2.2.2.2.2.2.2.2.2.2.2.2.2.2.1) (zi x5.2.2.2.2.2.2.2.2.2.2.2.2.2.2.2.2.2.1) (zi x5.2.2.2.2.2.2.2.2.2.2.2.2.2.2.2.2.2.2.1) (zi x5.2.2.2.2.2.2.2.2.2.2.2.2.2.2.2.2.2.2.2.1) λw25=>dd w25 (zB w4) (zi x6.1) (zi x6.2.1) λw27=>ldI w27 (zB w4) .i64 λx7=>ifB (x7 !=0) (db w27 (zB w4) λx8 x9=>dd w27 (zB w1) (zi x8) (zi x9) λw29=>db w29 (zB w1) λx10 x11=>R (.agg #[zi x10,zi x11]) w29) (ldS w27 ((zB w).add 2) λx12=>di 68 #[x12.zw] w27 λx14 w30=>(0<=(7:Int)/\(7:Int)<10)/\db w30 ((zB w3).add (7*2)) λx15 x16=>dc w30 #[zi 0,zi 0] 97 (zi x15) (zi x16) λw33=>ldS w33 ((zB w).add 2) λx17=>zj (S:=Int×Unit) (λs18 w34 n19=>ifB (decide (s18.1<(x17.l:Int))) (zk (S:=Unit) (λm20=>(0<=s18.1/\s18.1<(x17.l:Int))/\za x17.a λa22=>dt w34 (a22.add (s18.1.toNat *4)) λx23 x24 x25 x26=>dp w34 #[zh 0,zu 0,zu 0,.slice none 0 0] 50 (zh x23) (zu x24) (zu x25) (x26.zw) λw39=>zk (S:=Unit) (λm27=>ldI w39 ((zB w34).add 2) .u32 λx29=>ifB (x29 !=0) (ldI w39 ((zB w34).add 2) .u32 λx30=>zj8 Tryz.prog 88 (.map x14) (zu x30) (BK.int .i64) w39 λ(x31:Int)=>ifB (decide (x31<s18.1)) (dd w39 (zB w1) (zi 90) (zi s18.1) λw41=>db w41 (zB w1) λx32 x33=>R (.agg #[zi x32,zi x33]) w41) (m27 () w39)) (m27 () w39)) (λs28 w42=>dt w42 (zB w34) λx34 x35 x36 x37=>dn 69 #[.agg #[zh x34,zu x35,zu x36,x37.zw]] w42 λx39 w43=>zj (S:=Bool×Int×Unit) (λs40 w44 n41=>ifB (decide (s40.2.1<(x39.l:Int))) (zk (S:=Bool×Unit) (λm42=>(0<=s40.2.1/\s40.2.1<(x39.l:Int))/\za x39.a λa44=>ldI w44 (a44.add s40.2.1.toNat) .u32 λx45=>zln Tryz.prog 88 (.map x14) (zu x45) (BK.int .i64) w44 λ(x46:Int) (b47:Bool)=>ifB (!b47) (dd w44 (zB w1) (zi 91) (zi s18.1) λw46=>db w46 (zB w1) λx48 x49=>R (.agg #[zi x48,zi x49]) w46) (ifB s40.1 (m42 (true,()) w44) (m42 ((decide (x46≥s18.1)),()) w44))) (λs43 w47=>n41 (s43.1,(IntKind.i64.wrap (s40.2.1+(1:Int))),()) w47)) (zk (S:=Unit) (λm50=>ifB (!s40.1) (m20 () w44) (ldI w44 (zB w30) .i64 λx52=>ifB (decide (s18.1<x52)) (m20 () w44) (ldI w44 ((zB w30).add 1) .i64 λx53=>ifB (decide (s18.1≥x53)) (m20 () w44) (m50 () w44)))) (λs51 w48=>dd w48 (zB w1) (zi 92) (zi s18.1) λw50=>db w50 (zB w1) λx54 x55=>R (.agg #[zi x54,zi x55]) w50))) (false,0,()) w43)) (λs21 w51=>n19 ((IntKind.i64.wrap (s18.1+(1:Int))),()) w51)) (dd w34 (zB w1) (zi 0) (zi 0) λw53=>db w53 (zB w1) λx56 x57=>R (.agg #[zi x56,zi x57]) w53)) (0,()) w33)
theorem ziF(p0)(R)(w)(h:zim p0 R w):Calls Tryz.prog 32 #[.agg #[.int .u32 p0.1,.int .u32 p0.2.1,.slice p0.2.2.1.a p0.2.2.1.l p0.2.2.1.c]] w (Ret R):=lwC zir Tryz.func32 (by kernel_rfl) (by kernel_rfl) h
def zgP:Ann:=(.q (.q (.seq none (.q (.one (.loop ⟨[1,2,4,15,16],[(5,(.b .slice)),(17,(.b (.int .i64)))]⟩ (.q (.seq none .c (.seq none (.one (.q (.q (.seq none (.q (.one (.loop ⟨[1,2,4,5,7,15,16,17,36,37],[(38,(.b (.int .i64)))]⟩ (.q (.seq none .c (.seq (some ⟨[1,2,4,5,7,15,16,17,36,37,38],[]⟩) (.one (.q (.q .c))) .nil)))))) .nil)))) .nil)))))) (.q (.q .nil)))))
def zgB(p0:(Int×Int×Sl×Unit))(p1:Value)(R:VWP)(w:World):Prop:=Nw (w.alloc (.cells #[zu p0.1,zu p0.2.1,p0.2.2.1.zw] 25)) λw1=>Nw (w1.alloc (.cells #[zu 0,zu 0,.slice none 0 0] 25)) λw2=>ldS w2 ((zB w).add 2) λx1=>(0<=(0:Int)/\0<=(x1.l:Int)/\40*(x1.l:Int)<=281474976710656/\(x1.l:Int)<=9223372036854775807)/\Nw (w2.alloc (.cells (madeCells #[zh 0,zu 0,zu 0,.slice none 0 0] (x1.l*4)) 50)) λw3=>ldS w3 ((zB w).add 2) λx2=>zj (S:=Sl×Int×Unit) (λs3 w4 n4=>ifB (decide (s3.2.1<(x2.l:Int))) ((0<=s3.2.1/\s3.2.1<(x2.l:Int))/\za x2.a λa5=>dt w4 (a5.add (s3.2.1.toNat *4)) λx6 x7 x8 x9=>dp w4 #[zh 0,zu 0,zu 0,.slice none 0 0] 50 (zh x6) (zu x7) (zu x8) (x9.zw) λw9=>ldI w9.drew ((zB w4).add 1) .u32 λx10=>ldI w9.drew ((zB w4).add 2) .u32 λx11=>ldS w9.drew ((zB w4).add 3) λx12=>yE Tryz.prog Tryz.fs p1 [(zu x10)] w9.drew λv13 w10=>∃x14:Int,v13=(zu x14)/\w10.cell? ((zB w4).add 3)=some (x12.zw)/\w10.cell? ((zB w4).add 2)=some (zu x11)/\yE Tryz.prog Tryz.fs p1 [(zu x11)] w10 λv15 w11=>∃x16:Int,v15=(zu x16)/\w11.cell? ((zB w4).add 3)=some (x12.zw)/\dn 78 #[x12.zw] w11 λx18 w12=>Wr w12 ((zB w4).add 1)/\Nw (w12.setCell ((zB w4).add 1) (zu x14)) λw13=>Wr w13 ((zB w4).add 2)/\Nw (w13.setCell ((zB w4).add 2) (zu x16)) λw14=>Wr w14 ((zB w4).add 3)/\Nw (w14.setCell ((zB w4).add 3) (x18.zw)) λw15=>ldS w15 ((zB w4).add 3) λx19=>zj (S:=Int×Unit) (λs20 w16 n21=>ifB (decide (s20.1<(x19.l:Int))) (zk (S:=Unit) (λm22=>(0<=s20.1/\s20.1<(x19.l:Int))/\za x19.a λa24=>dr w16 (a24.add (s20.1.toNat *3)) λx25 x26 x27=>Nw (w16.alloc (.cells #[zb 0,zu 0,.string (BM #[])] 136)) λw17=>ds w17 (zB w16) (zb x25) (zu x26) (.string x27) λw20=>ldI w20 (zB w16) .u8 λx28=>ifB (x28==1) (ldS w20.drew ((zB w4).add 3) λx29=>ldI w20.drew ((zB w16).add 1) .u32 λx30=>yE Tryz.prog Tryz.fs p1 [(zu x30)] w20.drew λv31 w21=>∃x32:Int,v31=(zu x32)/\w21.cell? ((zB w4).add 3)=some (x29.zw)/\(0<=s20.1/\s20.1<(x29.l:Int))/\za x29.a λa33=>Wr w21 ((a33.add (s20.1.toNat *3)).add 1)/\Nw (w21.setCell ((a33.add (s20.1.toNat *3)).add 1) (zu x32)) λw22=>m22 () w22) (m22 () w20)) (λs23 w23=>n21 ((IntKind.i64.wrap (s20.1+(1:Int))),()) w23)) (dt w16 (zB w4) λx34 x35 x36 x37=>Nw (w16.alloc (.cells #[zh x34,zu x35,zu x36,x37.zw] 50)) λw24=>zE Tryz.prog 23 (s3.1.zw) (.slice (some (zB w16)) 1 1) w24 λr38 w25=>n4 (r38,(IntKind.i64.wrap (s3.2.1+(1:Int))),()) w25)) (0,()) w15) (Wr w4 ((zB w).add 2)/\Nw (w4.setCell ((zB w).add 2) (s3.1.zw)) λw26=>da w26 (zB w) λx39 x40 x41=>ds w26 (zB w1) (zu x39) (zu x40) (x41.zw) λw29=>da w29 (zB w1) λx42 x43 x44=>R (.agg #[zu x42,zu x43,x44.zw]) w29)) ((Sl.mk (some (zB w2)) 0 x1.l),0,()) w3
theorem zhW(p0)(p1)(R)(w)(h:zgB p0 p1 R w):Calls Tryz.prog 45 #[.agg #[.int .u32 p0.1,.int .u32 p0.2.1,.slice p0.2.2.1.a p0.2.2.1.l p0.2.2.1.c],p1] w (Ret R):=lwC zgP Tryz.func45 (by kernel_rfl) (by kernel_rfl) h
def Zf:Ann:=(.q (.seq none (.q (.cond (.q .nil) .nil)) (.q .nil)))
def Zd(p0:Sl)(R:VWP)(w:World):Prop:=ifB (Option.isNone p0.a) (R (.slice none 0 0) w) (Nw (w.alloc (.cells #[] 136)) λw1=>zE Tryz.prog 48 (.slice (some (zB w)) 0 0) (p0.zw) w1 λr1 w2=>R (r1.zw) w2)
theorem Yl(p0)(R)(w)(h:Zd p0 R w):Calls Tryz.prog 78 #[.slice p0.a p0.l p0.c] w (Ret R):=lwC Zf Tryz.func78 (by kernel_rfl) (by kernel_rfl) h
end Go.Proofs
namespace Go.Proofs
open Go.Gk
set_option linter.unusedVariables false
set_option maxRecDepth 100000
def zgO:Ann:=(.q (.q (.seq none (.q (.one (.loop ⟨[],[(9,(.b (.int .i64))),(10,(.agg [(.int .u16),(.int .u32),(.int .u32),.slice]))]⟩ (.seq none (.q .nil) (.one (.q .c)))))) (.q .nil))))
def zgA(p0:Sl)(R:VWP)(w:World):Prop:=Nw (w.alloc (.map #[] 0)) λw1=>Nw (w1.alloc (.cells #[.map none] 88)) λw2=>Wr w2 (zB w1)/\Nw (w2.setCell (zB w1) (.map (some w.heap.size))) λw3=>dO 107 #[p0.zw] w3 λx2 w4=>zge Tryz.prog Tryz.fs x2 w4 (T:=Int×(Int×Int×Int×Sl×Unit)×Unit) (λs3=>[(zi s3.1),(.agg #[zh s3.2.1.1,zu s3.2.1.2.1,zu s3.2.1.2.2.1,s3.2.1.2.2.2.1.zw])]) (λmk4 l5 s3 w5 S6=>dp w5 #[zh 0,zu 0,zu 0,.slice none 0 0] 50 (zh s3.2.1.1) (zu s3.2.1.2.1) (zu s3.2.1.2.2.1) (s3.2.1.2.2.2.1.zw) λw10=>w10.heap[l5]? =some (mk4 .ready none)/\Nw (w10.putObj l5 (mk4 .busy none)) λw11=>ldI w11 ((zB w5).add 2) .u32 λx8=>ifB (x8 !=0) (ldM w11 (zB w1) λx9=>ldI w11 ((zB w5).add 2) .u32 λx10=>updW Tryz.prog 88 (.map x9) (zu x10) (zi s3.1) w11 λw12=>w12.heap[l5]? =some (mk4 .busy none)/\S6 (.bool true) (w12.putObj l5 (mk4 .ready none))) (w11.heap[l5]? =some (mk4 .busy none)/\S6 (.bool true) (w11.putObj l5 (mk4 .ready none)))) (λmk4 l5 d7 w13=>yM mk4 l5 .ready none w13 λw14=>ldM w14 (zB w1) λx11=>YX (d7::[]) w14 λw15=>R (.map x11) w15)
theorem zhV(p0:Sl)(R:VWP)(w:World)(h:zgA p0 R w):Calls Tryz.prog 68 #[.slice p0.a p0.l p0.c] w (Ret R):=zfl (fs:=Tryz.fs) (an:=zgO) (args:=[(.slice p0.a p0.l p0.c)]) Tryz.fsOK Tryz.mixed Tryz.func68 (by kernel_rfl) (by kernel_rfl) (Eq.mpr (by kernel_rfl:zkB Tryz.prog Tryz.fs Tryz.f68 zgO [(.slice p0.a p0.l p0.c)] w R=zgA p0 R w) h)
def yB:Ann:=(.q (.q .nil))
def y9(p0:Sl)(R:VWP)(w:World):Prop:=Nw (w.alloc (.cells #[p0.zw] 23)) λw1=>R (.func (.func 141) #[] #[.pointer (some (zB w))]) w1
theorem ZD(p0)(R)(w)(h:y9 p0 R w):Calls Tryz.prog 107 #[.slice p0.a p0.l p0.c] w (Ret R):=lwC yB Tryz.func107 (by kernel_rfl) (by kernel_rfl) h
def ym:Ann:=(.q (.one (.loop ⟨[0,1],[(3,(.b (.int .i64)))]⟩ (.seq none (.q .c) (.seq none (.one (.q .c)) .nil)))))
def yl(p0:Value)(c0:Addr)(R:VWP)(w:World):Prop:=ldS w c0 λx1=>zj (S:=Int×Unit) (λs2 w1 n3=>ifB (decide (s2.1≥(0:Int))) (ldS w1 c0 λx4=>(0<=s2.1/\s2.1<(x4.l:Int))/\za x4.a λa5=>dt w1 (a5.add (s2.1.toNat *4)) λx6 x7 x8 x9=>yE Tryz.prog Tryz.fs p0 [(zi s2.1),(.agg #[zh x6,zu x7,zu x8,x9.zw])] w1 λv10 w2=>∃x11:Bool,v10=(.bool x11)/\ifB (!x11) (R (.tuple #[]) w2) (n3 ((IntKind.i64.wrap (s2.1-(1:Int))),()) w2)) (R (.tuple #[]) w1)) ((IntKind.i64.wrap ((x1.l:Int)-1)),()) w
theorem Zv(p0)(c0)(R)(w)(h:yl p0 c0 R w):Calls Tryz.prog 141 #[p0,.pointer (some c0)] w (Ret R):=lwC ym Tryz.func141 (by kernel_rfl) (by kernel_rfl) h
end Go.Proofs
namespace Go.Proofs
open Go.Gk
set_option linter.unusedVariables false
set_option maxRecDepth 100000
end Go.Proofs
namespace Go.Proofs
open Go.Gk
set_option linter.unusedVariables false
set_option maxRecDepth 100000
def Yf:Ann:=(.q (.q (.seq none (.q (.one (.loop ⟨[1,2,3],[(4,(.b (.int .i64)))]⟩ (.seq none (.q .c) (.seq none (.one .nil) .nil))))) (.q (.q .nil)))))
def Yd(p0:(Int×Int×Sl×Unit))(R:VWP)(w:World):Prop:=Nw (w.alloc (.cells #[zu p0.1,zu p0.2.1,p0.2.2.1.zw] 25)) λw1=>Nw (w1.alloc (.cells #[zu 0,zu 0,.slice none 0 0] 25)) λw2=>ldS w2 ((zB w).add 2) λx1=>(0<=(x1.l:Int)/\(x1.l:Int)<=(x1.l:Int)/\40*(x1.l:Int)<=281474976710656/\(x1.l:Int)<=9223372036854775807)/\Nw (w2.alloc (.cells (madeCells #[zh 0,zu 0,zu 0,.slice none 0 0] (x1.l*4)) 50)) λw3=>zj (S:=Int×Unit) (λs2 w4 n3=>ldS w4 ((zB w).add 2) λx4=>ifB (decide (s2.1<(x4.l:Int))) (ldS w4 ((zB w).add 2) λx5=>(0<=s2.1/\s2.1<(x5.l:Int))/\za x5.a λa6=>dt w4 (a6.add (s2.1.toNat *4)) λx7 x8 x9 x10=>dY 29 #[.agg #[zh x7,zu x8,zu x9,x10.zw]] w4 λx12 w5=>(0<=s2.1/\s2.1<(x1.l:Int))/\Wr w5 ((zB w2).add (s2.1.toNat *4))/\Nw (w5.setCell ((zB w2).add (s2.1.toNat *4)) (zh x12.1)) λw6=>Wr w6 (((zB w2).add (s2.1.toNat *4)).add 1)/\Nw (w6.setCell (((zB w2).add (s2.1.toNat *4)).add 1) (zu x12.2.1)) λw7=>Wr w7 (((zB w2).add (s2.1.toNat *4)).add 2)/\Nw (w7.setCell (((zB w2).add (s2.1.toNat *4)).add 2) (zu x12.2.2.1)) λw8=>Wr w8 (((zB w2).add (s2.1.toNat *4)).add 3)/\Nw (w8.setCell (((zB w2).add (s2.1.toNat *4)).add 3) (x12.2.2.2.1.zw)) λw9=>n3 ((IntKind.i64.wrap (s2.1+(1:Int))),()) w9) (Wr w4 ((zB w).add 2)/\Nw (w4.setCell ((zB w).add 2) (.slice (some (zB w2)) x1.l x1.l)) λw10=>da w10 (zB w) λx13 x14 x15=>ds w10 (zB w1) (zu x13) (zu x14) (x15.zw) λw13=>da w13 (zB w1) λx16 x17 x18=>R (.agg #[zu x16,zu x17,x18.zw]) w13)) (0,()) w3
theorem zaR(p0)(R)(w)(h:Yd p0 R w):Calls Tryz.prog 8 #[.agg #[.int .u32 p0.1,.int .u32 p0.2.1,.slice p0.2.2.1.a p0.2.2.1.l p0.2.2.1.c]] w (Ret R):=lwC Yf Tryz.func8 (by kernel_rfl) (by kernel_rfl) h
end Go.Proofs
namespace Go.Proofs
open Go.Gk Go.RowKit Go.Gm
def Cpy(w:World)(b:Nat)(pl:List PI):Prop:=
 ∃hs:List Ins,hs.length=pl.length/\Blk w b 50 (flat inV hs)/\∀(j:Nat) (h:j<hs.length) (h':j<pl.length),∃c,b<c/\hs[j]=mkIn pl[j] ⟨some (blk c),pl[j].2.2.2.length,pl[j].2.2.2.length⟩/\Blk w c 136 (flat agV pl[j].2.2.2)
theorem Cpy.isPl{w:World}{b:Nat}{pl:List PI}(h:Cpy w b pl)(hm:pl.length<=9223372036854775807)(hm':∀p∈pl,p.2.2.2.length<=9223372036854775807):IsPl w ⟨some (blk b),pl.length,pl.length⟩ pl:=by
 obtain⟨hs,h1,h2,h3⟩:=h
 refine⟨rfl,Nat.le_refl _,hm,(λh=>by cases h),λa ha k hk=>?_⟩
 cases ha
 obtain⟨c,h4,h5,h6⟩:=h3 k (by omega) hk
 refine⟨⟨some (blk c),pl[k].2.2.2.length,pl[k].2.2.2.length⟩,λj hj=>?_,Blk.isC yG (by omega) h6 (hm' _ (List.getElem_mem hk))⟩
 rw[<-h5]
 have hg:=zgY zlh hs k (by omega) j hj
 have hlt:j<(inV (hs[k]'(by omega))).length:=hj
 rw[List.getElem?_eq_getElem hlt]at hg⊢
 exact h2.cell hg
theorem Yo{x:Mo}{pl:List PI}{w:World}{R:VWP}(hN:IsPl w x.2.2.1 pl)(hp:PlOk pl)
  (hR:∀b w',w.heap.size<=b->Cpy w' b pl->IsPl w' ⟨some (blk b),pl.length,pl.length⟩ pl->Below w.heap.size w w'->R (moA (x.1,x.2.1,⟨some (blk b),pl.length,pl.length⟩,())) w') :
  cR 8 #[moA x] w R:=by
 refine zc.of (zaR x R w ?_) λ_ _ h=>h
 refine zl λw1 hB1 b1 z1=>?_
 have hB1:Blk w1 w.heap.size 25 (moV x):=hB1
 refine zl λw2 hC2 b2 z2=>?_
 have hC2:Blk w2 w1.heap.size 25 [.int .u32 0,.int .u32 0,.slice none 0 0]:=hC2
 have hB2:=hB1.below b2
 have hl:=hN.len
 have h40:=hp.len
 refine hB2.rS (n:=2) rfl ⟨⟨by omega,by omega,by omega,by omega⟩,?_⟩
 refine zl λw3 hD3 b3 z3=>?_
 have hb3:=(b1.on b2).on b3
 have hB3:=hB2.below b3
 have hC3:=hC2.below b3
 have hargs:∀p∈pl,p.2.2.2.length<=9223372036854775807:=λp h=>by have:=hp.args p h;omega
 refine zj.count pl.length hN.bound (λk w'=>Below w.heap.size w w'/\w3.heap.size<=w'.heap.size/\Blk w' w.heap.size 25 (moV x)/\Blk w' w1.heap.size 25 [.int .u32 0,.int .u32 0,.slice none 0 0]/\
   ∃(hs:List Ins) (r:List Value),hs.length=k/\Blk w' w2.heap.size 50 (flat inV hs++r)/\r.length=(pl.length-k)*4/\
    ∀(j:Nat) (h:j<hs.length) (h':j<pl.length),∃c,w2.heap.size<c/\hs[j]=mkIn pl[j] ⟨some (blk c),pl[j].2.2.2.length,pl[j].2.2.2.length⟩/\Blk w' c 136 (flat agV pl[j].2.2.2))
  ⟨hb3,Nat.le_refl _,hB3,hC3,[],_,rfl,by simpa[flat] using hD3,by rw[Array.length_toList,size_madeCells,hl];simp,λj h _=>by cases h⟩ ?_
 rintro k w4 hk ⟨hb,hz,hB,hC,hs,r,hhl,hD,hr,hrow⟩ next hnext
 refine hB.rS (n:=2) rfl (zg (λhlt=>?_) (λhge=>?_))
 ·have hlt:k<pl.length:=by dsimp only at hlt;omega
  refine hB.rS (n:=2) rfl (zbF (hN.below hb) hlt λt ht=>?_)
  refine zjZ (x:=mkIn pl[k] t) ht (hp.args _ (List.getElem_mem hlt)) λc w5 hc hA5 hI5 b5=>⟨mkIn pl[k] ⟨some (blk c),pl[k].2.2.2.length,pl[k].2.2.2.length⟩,rfl,?_⟩
  have hb5:=hb.on b5
  have hD5:=hD.below b5
  have hB5:=hB.below b5
  have hC5:=hC.below b5
  have s5:=b5.size
  refine⟨⟨by omega,by dsimp only;omega⟩,?_⟩
  have hfl:(flat inV hs).length=k*4:=by rw[zQ zlh,hhl]
  obtain⟨r',hr',e⟩:=set4 (flat inV hs) (cs:=r) (m:=pl.length-(k+1)) (by rw[hr];congr 1;omega) (.int .u16 pl[k].1) (.int .u32 pl[k].2.1) (.int .u32 pl[k].2.2.1) (.slice (some (blk c)) pl[k].2.2.2.length pl[k].2.2.2.length)
  rw[hfl]at e
  have hcl:(flat inV hs++r).length=pl.length*4:=by rw[List.length_append,hfl,hr,<-Nat.add_mul];congr 1;omega
  dsimp only
  rw[show Int.toNat (k:Int)=k from rfl]
  simp only[zA]
  have hD1:=hD5.set (k*4) (.int .u16 pl[k].1)
  have hD2:=hD1.set (k*4+1) (.int .u32 pl[k].2.1)
  have hD3:=hD2.set (k*4+2) (.int .u32 pl[k].2.2.1)
  have hD4:=hD3.set (k*4+3) (.slice (some (blk c)) pl[k].2.2.2.length pl[k].2.2.2.length)
  have c1:=(((Chg.set w2.heap.size (k*4) w5 (.int .u16 pl[k].1)).trans (Chg.set w2.heap.size (k*4+1) _ (.int .u32 pl[k].2.1))).trans (Chg.set w2.heap.size (k*4+2) _ (.int .u32 pl[k].2.2.1))).trans
   (Chg.set w2.heap.size (k*4+3) _ (.slice (some (blk c)) pl[k].2.2.2.length pl[k].2.2.2.length))
  refine⟨hD5.wr (by omega),hD1.wr (by rw[List.length_set];omega),hD2.wr (by rw[List.length_set,List.length_set];omega),hD3.wr (by rw[List.length_set,List.length_set,List.length_set];omega),?_⟩
  refine hnext _ hlt ⟨c1.below hb5 (by omega),by rw[c1.size];omega,c1.blk hB5 (by omega),c1.blk hC5 (by omega),hs++[mkIn pl[k] ⟨some (blk c),pl[k].2.2.2.length,pl[k].2.2.2.length⟩],r',by simp[hhl],?_,hr',?_⟩
  ·rw[e]at hD4
   have e2:flat inV (hs++[mkIn pl[k] ⟨some (blk c),pl[k].2.2.2.length,pl[k].2.2.2.length⟩])=flat inV hs++inV (mkIn pl[k] ⟨some (blk c),pl[k].2.2.2.length,pl[k].2.2.2.length⟩):=by
    simp[flat]
   rw[e2]
   exact hD4
  ·intro j h h'
   by_cases hj:j<hs.length
   ·obtain⟨c',g1,g2,g3⟩:=hrow j hj h'
    refine⟨c',g1,?_,c1.blk (g3.below b5) (by omega)⟩
    rw[List.getElem_append_left hj]
    exact g2
   ·have hj':j=k:=by simp at h;omega
    subst hj'
    refine⟨c,by omega,?_,c1.blk hA5 (by omega)⟩
    rw[List.getElem_append_right (by omega)]
    simp[hhl]
 ·have hk':k=pl.length:=by dsimp only at hge;omega
  subst hk'
  simp only[Nat.sub_self,Nat.zero_mul]at hr
  have:r=[]:=List.eq_nil_of_length_eq_zero hr
  subst this
  rw[List.append_nil]at hD
  refine⟨hB.wr (n:=2) (by simp),?_⟩
  rw[hl]
  have c1:=Chg.set w.heap.size 2 w4 (.slice (some (blk w2.heap.size)) pl.length pl.length)
  have hB5:Blk _ w.heap.size 25 (moV (x.1,x.2.1,⟨some (blk w2.heap.size),pl.length,pl.length⟩,())):=hB.set 2 (.slice (some (blk w2.heap.size)) pl.length pl.length)
  have hb5:=c1.below hb (Nat.le_refl _)
  have hC5:=c1.blk hC (by omega)
  have hD5:=c1.blk hD (by omega)
  refine Nw.mk (Mo.load hB5 ?_)
  refine st3 hC5 rfl λw6 hC6 c6=>?_
  have hC6:Blk w6 w1.heap.size 25 (moV (x.1,x.2.1,⟨some (blk w2.heap.size),pl.length,pl.length⟩,())):=hC6
  have hcp:Cpy w6 w2.heap.size pl:=⟨hs,hhl,c6.blk hD5 (by omega),λj h h'=>by
   obtain⟨c',g1,g2,g3⟩:=hrow j h h'
   exact⟨c',g1,g2,c6.blk (c1.blk g3 (by omega)) (by omega)⟩⟩
  refine Mo.load hC6 ?_
  exact hR w2.heap.size w6 (by omega) hcp (hcp.isPl hN.bound hargs) (c6.below hb5 (by omega))
end Go.Proofs
namespace Go.Proofs
open Go.Gk Go.RowKit Go.Gm
abbrev Prs:=List (Int×Int)
def swp(S:Prs):Prs:=S.map λx=>(x.2,x.1)
abbrev idsA(l:List Ag):List Int:=(l.filter λa=>a.1==1).map (·.2.1)
def allI(p:PI):List Int:=p.2.1::p.2.2.1::idsA p.2.2.2
def allP(pl:List PI):List Int:=pl.flatMap allI
open Classical in
theorem zkx{p:PI}{bd:Int}(h:yp p bd=0)(hb:0<bd)(h0:0<=p.2.1/\0<=p.2.2.1/\∀x∈p.2.2.2,0<=x.2.1) :
  (∀n∈allI p,0<=n/\n<bd)/\∀x∈p.2.2.2,x.1=1->x.2.2.size=0:=by
 unfold yp at h
 cases hfr:frm p.1 with
 |none=>rw[ze9 hfr]at h;cases h
 |some g=>
  rw[zcx hfr]at h
  have hek:errK g p.2.1 p.2.2.1 p.2.2.2 bd p.2.2.2.length=0:=by
   refine Classical.byContradiction λhne=>?_
   unfold zdw at h
   rw[if_pos hne]at h
   exact hne h
  obtain⟨e1,e2,e3⟩:=zgW hek
  have hw:=zgU e3
  have idlt:∀{must:Bool} {n e:Int},idP must n bd e=0->e≠0->n<bd:=by
   intro must n e hi he
   unfold idP at hi
   split at hi
   ·rename_i hm
    split at hi
    ·cases hi
    ·rename_i hno
     cases must with
     |true=>exact Int.not_le.1 λhle=>hno ⟨rfl,hle⟩
     |false=>
      have:n=0:=by
       refine Classical.byContradiction λhn=>?_
       rw[bne_iff_ne.2 hn]at hm
       cases hm
      omega
   ·exact absurd hi he
  have hx:∀x∈p.2.2.2,x.1=1->(x.2.1<bd)/\x.2.2.size=0:=by
   intro x hx h1
   obtain⟨j,hj,rfl⟩:=List.mem_iff_getElem.1 hx
   have:=hw j hj
   unfold werr at this
   rw[zm hj]at this
   unfold ZS at this
   split at this
   ·cases this
   ·split at this
    ·cases this
    ·rename_i n1
     split at this
     ·cases this
     ·rename_i n2
      refine⟨Int.not_le.1 λhle=>n2 ⟨h1,.inr hle⟩,?_⟩
      refine Classical.byContradiction λhne=>n1 (.inr ⟨by rw[h1];decide,hne⟩)
  refine⟨λn hn=>?_,λx hx' h1=>(hx x hx' h1).2⟩
  unfold allI at hn
  rcases List.mem_cons.1 hn with rfl |hn
  ·exact⟨h0.1,idlt e1 (by decide)⟩
  ·rcases List.mem_cons.1 hn with rfl |hn
   ·exact⟨h0.2.1,idlt e2 (by decide)⟩
   ·obtain⟨x,hx',rfl⟩:=List.mem_map.1 hn
    obtain⟨hx1,hx2⟩:=List.mem_filter.1 hx'
    exact⟨h0.2.2 x hx1,(hx x hx1 (by simpa using hx2)).1⟩
end Go.Proofs
namespace Go.Proofs
open Go.Gk Go.RowKit Go.Gm
theorem _root_.Go.Gk.Blk.rM0{w:World}{b:Nat}{T:TypeId}{cs:List Value}(h:Blk w b T cs){x:Option Nat}(hn:cs[0]? =some (.map x)){φ:Option Nat->Prop}(hφ:φ x):ldM w (blk b) φ:=⟨x,h.cell0 hn,hφ⟩
theorem uU32:Tryz.prog.underlying 22=some (.int .u32):=by kernel_rfl
section
variable {w0 w:World} {r1 r2:Nat} {S:Prs} {R:VWP}
theorem zrv{w0 w:World}{s:Sl}{pl:List PI}(h:IsPl w0 s pl)(hb:Below w0.heap.size w0 w){k:Nat}(hk:k<pl.length){φ:Int->Int->Int->Sl->Prop}(hφ:∀t,IsAg w0 t pl[k].2.2.2->φ pl[k].1 pl[k].2.1 pl[k].2.2.1 t) :
  (0<=(k:Int)/\(k:Int)<(s.l:Int))/\za s.a λa=>ldI w ((a.add (Int.toNat (k:Int)*4)).add 0) .u16 λx=>ldI w ((a.add (Int.toNat (k:Int)*4)).add 1) .u32 λy=>ldI w ((a.add (Int.toNat (k:Int)*4)).add 2) .u32 λz=>ldS w ((a.add (Int.toNat (k:Int)*4)).add 3) λt=>φ x y z t:=by
 obtain⟨a,ha⟩:=h.base hk
 obtain⟨t,h1,h2⟩:=h.elem a ha k hk
 have hc:∀j,j<4->w.cell? (a.add (k*4+j))=(inV (mkIn pl[k] t))[j]?:=by
  intro j hj
  have hc:=h1 j hj
  have hlt:j<(inV (mkIn pl[k] t)).length:=hj
  rw[List.getElem?_eq_getElem hlt]at hc⊢
  have hb1:=World.block_lt_of_cell? w0 _ hc
  rw[World.cell?_of_block (w:=w0) (hb.block _ hb1)]
  exact hc
 refine⟨⟨by omega,by have:=h.len;omega⟩,ze ha ⟨_,?_,_,?_,_,?_,t,?_,hφ t h2⟩⟩
 ·rw[zA];exact hc 0 (by omega)
 ·rw[zA];exact hc 1 (by omega)
 ·rw[zA];exact hc 2 (by omega)
 ·rw[zA];exact hc 3 (by omega)
end
end Go.Proofs
namespace Go.Proofs
open Go.Gk
set_option linter.unusedVariables false
set_option maxRecDepth 100000
def Yg:Ann:=(.q (.seq (some ⟨[0,1],[]⟩) (.q .c) (.q (.seq (some ⟨[0,6],[]⟩) (.q .c) (.q (.q (.seq none (.one (.loop ⟨[7],[(8,(.b (.int .i64)))]⟩ (.seq none (.q .c) (.one .nil)))) (.q .nil))))))))
def Ye(p0:Sl)(p1:Int)(R:VWP)(w:World):Prop:=zk (S:=Unit) (λm1=>ifB (decide (p1<(0:Int))) (False) (m1 () w)) (λs2 w1=>dZ 122 #[.int .u64 (IntKind.u64.wrap (p0.l:Int)),.int .u64 (IntKind.u64.wrap p1)] w1 λx4 x5 w2=>zk (S:=Unit) (λm6=>ifB (decide (x4>(0:Int))) (False) (ifB (decide (x5>(9223372036854775807:Int))) (False) (m6 () w2))) (λs7 w3=>(0<=(IntKind.i64.wrap x5)/\(IntKind.i64.wrap x5)<=(IntKind.i64.wrap x5)/\8*(IntKind.i64.wrap x5)<=281474976710656/\(IntKind.i64.wrap x5)<=9223372036854775807)/\Nw (w3.alloc (.cells (madeCells #[zi 0] ((Int.toNat (IntKind.i64.wrap x5))*1)) 3)) λw4=>zpF Tryz.prog #[43,43] (.slice (some (zB w3)) (Int.toNat (IntKind.i64.wrap x5)) (Int.toNat (IntKind.i64.wrap x5))) (p0.zw) w4 λx8 w5=>zj (S:=Int×Unit) (λs9 w6 n10=>ifB (decide (s9.1<((Int.toNat (IntKind.i64.wrap x5)):Int))) ((0<=s9.1/\s9.1<=((Int.toNat (IntKind.i64.wrap x5)):Int)/\((Int.toNat (IntKind.i64.wrap x5)):Int)<=((Int.toNat (IntKind.i64.wrap x5)):Int))/\(0<=(0:Int)/\0<=s9.1/\s9.1<=((Int.toNat (IntKind.i64.wrap x5)):Int))/\zpF Tryz.prog #[43,43] (.slice (if (Int.toNat (IntKind.i64.wrap x5))=s9.1.toNat then(some (zB w3)) else Option.map (λa=>a.add s9.1.toNat) (some (zB w3))) ((Int.toNat (IntKind.i64.wrap x5))-s9.1.toNat) ((Int.toNat (IntKind.i64.wrap x5))-s9.1.toNat)) (.slice (if (Int.toNat (IntKind.i64.wrap x5))=0 then(some (zB w3)) else Option.map (λa=>a.add 0) (some (zB w3))) (s9.1.toNat-0) ((Int.toNat (IntKind.i64.wrap x5))-0)) w6.drew λx11 w7=>n10 ((IntKind.i64.wrap (s9.1+x11)),()) w7) (R (.slice (some (zB w3)) (Int.toNat (IntKind.i64.wrap x5)) (Int.toNat (IntKind.i64.wrap x5))) w6)) (x8,()) w5))
theorem zaS(p0)(p1)(R)(w)(h:Ye p0 p1 R w):Calls Tryz.prog 93 #[.slice p0.a p0.l p0.c,.int .i64 p1] w (Ret R):=lwC Yg Tryz.func93 (by kernel_rfl) (by kernel_rfl) h
def zee:Ann:=(.q (.seq none (.cond (.q (.q .nil)) .nil) (.q (.q .nil))))
def zdQ(p0:Int)(p1:Int)(R:VWP)(w:World):Prop:=dZ 158 #[.int .u64 p0,.int .u64 p1] w λx2 x3 w1=>R (.tuple #[.int .u64 x2,.int .u64 x3]) w1
theorem zf6(p0)(p1)(R)(w)(h:zdQ p0 p1 R w):Calls Tryz.prog 122 #[.int .u64 p0,.int .u64 p1] w (Ret R):=lwC zee Tryz.func122 (by kernel_rfl) (by kernel_rfl) h
def zct:Ann:=(.q (.q (.q (.q (.q (.q (.q (.q (.q (.q (.q (.q .nil))))))))))))
def YP(p0:Int)(p1:Int)(R:VWP)(w:World):Prop:=R (.tuple #[.int .u64 (IntKind.u64.wrap ((IntKind.u64.wrap ((IntKind.u64.wrap ((Int.fdiv p0 (2 ^ (min 32 (IntKind.bits .u64))))*(Int.fdiv p1 (2 ^ (min 32 (IntKind.bits .u64))))))+(Int.fdiv (IntKind.u64.wrap ((IntKind.u64.wrap ((Int.fdiv p0 (2 ^ (min 32 (IntKind.bits .u64))))*(IntKind.u64.wrap (BitVec.toNat (BitVec.ofInt (IntKind.bits .u64) p1 &&& BitVec.ofInt (IntKind.bits .u64) 4294967295):Int))))+(Int.fdiv (IntKind.u64.wrap ((IntKind.u64.wrap (BitVec.toNat (BitVec.ofInt (IntKind.bits .u64) p0 &&& BitVec.ofInt (IntKind.bits .u64) 4294967295):Int))*(IntKind.u64.wrap (BitVec.toNat (BitVec.ofInt (IntKind.bits .u64) p1 &&& BitVec.ofInt (IntKind.bits .u64) 4294967295):Int)))) (2 ^ (min 32 (IntKind.bits .u64)))))) (2 ^ (min 32 (IntKind.bits .u64))))))+(Int.fdiv (IntKind.u64.wrap ((IntKind.u64.wrap (BitVec.toNat (BitVec.ofInt (IntKind.bits .u64) (IntKind.u64.wrap ((IntKind.u64.wrap ((Int.fdiv p0 (2 ^ (min 32 (IntKind.bits .u64))))*(IntKind.u64.wrap (BitVec.toNat (BitVec.ofInt (IntKind.bits .u64) p1 &&& BitVec.ofInt (IntKind.bits .u64) 4294967295):Int))))+(Int.fdiv (IntKind.u64.wrap ((IntKind.u64.wrap (BitVec.toNat (BitVec.ofInt (IntKind.bits .u64) p0 &&& BitVec.ofInt (IntKind.bits .u64) 4294967295):Int))*(IntKind.u64.wrap (BitVec.toNat (BitVec.ofInt (IntKind.bits .u64) p1 &&& BitVec.ofInt (IntKind.bits .u64) 4294967295):Int)))) (2 ^ (min 32 (IntKind.bits .u64)))))) &&& BitVec.ofInt (IntKind.bits .u64) 4294967295):Int))+(IntKind.u64.wrap ((IntKind.u64.wrap (BitVec.toNat (BitVec.ofInt (IntKind.bits .u64) p0 &&& BitVec.ofInt (IntKind.bits .u64) 4294967295):Int))*(Int.fdiv p1 (2 ^ (min 32 (IntKind.bits .u64)))))))) (2 ^ (min 32 (IntKind.bits .u64)))))),.int .u64 (IntKind.u64.wrap (p0*p1))]) w
theorem zer(p0)(p1)(R)(w)(h:YP p0 p1 R w):Calls Tryz.prog 158 #[.int .u64 p0,.int .u64 p1] w (Ret R):=lwC zct Tryz.func158 (by kernel_rfl) (by kernel_rfl) h
end Go.Proofs
namespace Go.Proofs
open Go.Gk Go.RowKit
theorem zkO{n:Nat}(hn:n<=65536):IntKind.u64.wrap (n:Int)=n:=by rw[IntKind.wrap_u64];omega
theorem zgr{n:Nat}(hn:n<=65536):((BitVec.toNat (BitVec.ofInt (IntKind.bits .u64) (n:Int) &&& BitVec.ofInt (IntKind.bits .u64) (4294967295:Int)):Nat):Int)=n:=by
 have h:(BitVec.ofInt 64 (n:Int) &&& BitVec.ofInt 64 (4294967295:Int)).toNat=n:=by
  rw[BitVec.toNat_and,BitVec.toNat_ofInt,BitVec.toNat_ofInt]
  have e1:((n:Int) % ((2 ^ 64:Nat):Int)).toNat=n:=by omega
  have e2:((4294967295:Int) % ((2 ^ 64:Nat):Int)).toNat=2 ^ 32-1:=by decide
  rw[e1,e2,Nat.and_two_pow_sub_one_eq_mod]
  omega
 exact congrArg Int.ofNat h
theorem zo0{n:Nat}(hn:n<=65536){w:World}{R:VWP}(hR:R (.tuple #[.int .u64 0,.int .u64 (n:Int)]) w):cR 158 #[.int .u64 1,.int .u64 (n:Int)] w R:=by
 refine zc.of (zer 1 n R w ?_) λ_ _ h=>h
 unfold YP
 have e0:((2:Int) ^ (min 32 (IntKind.bits .u64)))=4294967296:=by decide
 have e1:Int.fdiv 1 4294967296=0:=by decide
 have e2:Int.fdiv (n:Int) 4294967296=0:=by rw[Int.fdiv_eq_ediv_of_nonneg _ (by decide)];omega
 have m1:((BitVec.toNat (BitVec.ofInt (IntKind.bits .u64) (1:Int) &&& BitVec.ofInt (IntKind.bits .u64) (4294967295:Int)):Nat):Int)=1:=zgr (n:=1) (by decide)
 have m0:((BitVec.toNat (BitVec.ofInt (IntKind.bits .u64) (0:Int) &&& BitVec.ofInt (IntKind.bits .u64) (4294967295:Int)):Nat):Int)=0:=zgr (n:=0) (by decide)
 have u0:IntKind.u64.wrap (0:Int)=0:=by decide
 have u1:IntKind.u64.wrap (1:Int)=1:=by decide
 have f0:Int.fdiv 0 4294967296=0:=by decide
 simp only[e0,e1,e2,zgr hn,m1,zkO hn,u0,u1,Int.zero_mul,Int.one_mul,Int.mul_zero,Int.add_zero,f0,m0]
 exact hR
theorem zla{B:Nat}{w w':World}(h:Below B w w'){g:Nat}(hg:B<=g)(cs:Array Value):Below B w (w'.setRow g cs):=
 ⟨h.os,h.tape,h.output,by simpa[World.setRow] using h.size,λk hk=>(setRow_other w' g k cs (by omega)).trans (h.block k hk)⟩
theorem zku{w:World}{b o:Nat}{cs:List Value}(hD:Blk w b 3 cs){a:Addr}{dl dc sl sc:Nat}{news:List Value}(hn:news.length=Nat.min sl dl)(hsrc:∀j v,news[j]? =some v->w.cell? (a.add j)=some v)
  (hfit:o+news.length<=cs.length) (h1:∀v∈news,v.oneCell'=true) {k:Int->World->Prop}
  (hk:∀w',Blk w' b 3 (cs.take o++news++cs.drop (o+news.length))->(∀B w0,Below B w0 w->B<=b->Below B w0 w')->k (news.length:Int) w') :
  zpF Tryz.prog #[43,43] (.slice (some ⟨b,o,none⟩) dl dc) (.slice (some a) sl sc) w k:=by
 have hun:(Tryz.prog).underlying 43=some (.slice 3):=by kernel_rfl
 have hsz:((Tryz.prog).info? 3).map (·.size)=some 1:=by kernel_rfl
 have hc:=run_copy_row (P:=Tryz.prog) w 43 43 0 3 b o dl dc a sl sc cs.toArray 3 news hun hsz hD hn hsrc (by simpa using hfit) h1
 refine⟨_,_,hc,hk _ ?_ λB w0 hb hB=>zla hb hB _⟩
 exact setRow_heap w b _ _ _ _ hD
set_option maxHeartbeats 1000000 in
theorem zlH{n:Nat}(hn:n<=65536)(hn1:1<=n){v:Int}{xb:Nat}{w:World}{R:VWP}(hx:Blk w xb 3 [.int .i64 v])
  (hR:∀b w',Blk w' b 3 (List.replicate n (.int .i64 v))->w.heap.size<=b->Below w.heap.size w w'->R (.slice (some (blk b)) n n) w') :
  cR 93 #[.slice (some (blk xb)) 1 1,.int .i64 (n:Int)] w R:=by
 refine zc.of (zaS ⟨some (blk xb),1,1⟩ n R w ?_) λ_ _ h=>h
 refine zk.cut (λ_ w'=>w'=w) (zg (λh=>by omega) λ_=>rfl) ?_
 rintro _ _ rfl
 rename_i w
 have e1:IntKind.u64.wrap (((1:Nat):Nat):Int)=1:=by decide
 dsimp only
 rw[e1,zkO hn]
 refine zc.of (zf6 1 n _ w ?_) λ_ _ h=>h
 refine zo0 hn ⟨0,n,rfl,0,n,rfl,?_⟩
 refine zk.cut (λ_ w'=>w'=w) (zg (λh=>absurd h (by decide)) λ_=>zg (λh=>absurd h (by omega)) λ_=>rfl) ?_
 rintro _ _ rfl
 rename_i w
 have e2:IntKind.i64.wrap (n:Int)=n:=zz (by omega) (by omega)
 rw[e2]
 refine⟨⟨by omega,by omega,by omega,by omega⟩,Nw.gen λw4 hw4=>?_⟩
 obtain⟨z,hz⟩:∃z,z=Value.int .i64 0:=⟨_,rfl⟩
 obtain⟨u,hu⟩:∃u,u=Value.int .i64 v:=⟨_,rfl⟩
 have hu1:u.oneCell'=true:=by rw[hu];rfl
 dsimp only[zB,Go.Gk.Sl.zw,zi,zu,zb,zh]at hw4;rw[<-hz]at hw4
 rw[<-hu]at hx hR
 have hD4:Blk w4 w.heap.size 3 (List.replicate n z):=by rw[hw4];exact Blk.made w 3 z n
 have b4:Below w.heap.size w w4:=by rw[hw4];exact(Below.refl _ _).alloc (Nat.le_refl _) _
 have hx4:=hx.below b4
 have tn:Int.toNat ((n:Nat):Int)=n:=rfl
 rw[tn]
 refine zku hD4 (o:=0) (news:=[u]) (by simp[Nat.min_def];omega) (λj x hj=>by
   cases j with
   |zero=>simp at hj;subst hj;exact hx4.cell rfl
   |succ j=>simp at hj) (by simp;omega) (by simpa using hu1) λw5 hD5 hb5=>?_
 have hb5:=hb5 _ _ b4 (Nat.le_refl _)
 have hD5':Blk w5 w.heap.size 3 (List.replicate 1 u++List.replicate (n-1) z):=by
  simpa using hD5
 clear hD5 hD4 hx4 hw4
 refine zj.ghost (λj st w'=>∃m:Nat,1<=m/\m<=n/\j=n-m/\st=((m:Int),())/\Below w.heap.size w w'/\Blk w' w.heap.size 3 (List.replicate m u++List.replicate (n-m) z)) (n-1)
  ⟨1,Nat.le_refl _,hn1,rfl,rfl,hb5,hD5'⟩ ?_
 rintro _ _ w6 ⟨m,hm1,hmn,rfl,rfl,hb,hD⟩ next hnext
 refine zg (λhlt=>?_) (λhge=>?_)
 ·have hlt:m<n:=by dsimp only at hlt;omega
  have tm:Int.toNat ((m:Nat):Int)=m:=rfl
  refine⟨⟨by first |omega | (dsimp only;omega),by first |omega | (dsimp only;omega),by omega⟩,⟨by omega,by first |omega | (dsimp only;omega),by first |omega | (dsimp only;omega)⟩,?_⟩
  dsimp only
  rw[tm,if_neg (by omega:¬n=m),if_neg (by omega:¬n=0)]
  simp only[Option.map_some,Nat.sub_zero]
  have ea:(blk w.heap.size).add m=⟨w.heap.size,m,none⟩:=by rw[zeZ]
  have e0:(blk w.heap.size).add 0=blk w.heap.size:=by rw[zeZ]
  rw[ea,e0]
  obtain⟨q,hq⟩:∃q,q=Nat.min m (n-m):=⟨_,rfl⟩
  have hq1:1<=q/\q<=n-m/\q<=m:=by rw[hq];simp only[Nat.min_def];split<;>omega
  have hD':=hD.drew
  refine zku hD' (o:=m) (news:=List.replicate q u) (by rw[List.length_replicate,hq]) (λj x hj=>by
    have hj':j<q:=by have:=(List.getElem?_eq_some_iff.1 hj).1;simpa using this
    rw[List.getElem?_replicate,if_pos hj']at hj
    cases hj
    refine hD'.cell ?_
    rw[List.getElem?_append_left (by simp;omega),List.getElem?_replicate,if_pos (by omega)]) (by simp;omega) (λx hx=>by
    rw[List.eq_of_mem_replicate hx];exact hu1) λw7 hD7 hb7=>?_
  rw[List.length_replicate]at hD7⊢
  rw[show IntKind.i64.wrap ((m:Int)+(q:Int))=((m+q:Nat):Int) by rw[zz (by omega) (by omega)];omega]
  refine hnext (n-(m+q)) _ _ (by omega) ⟨m+q,by omega,by omega,rfl,rfl,hb7 _ _ hb.drew (Nat.le_refl _),?_⟩
  have:(List.replicate m u++List.replicate (n-m) z).take m++List.replicate q u++(List.replicate m u++List.replicate (n-m) z).drop (m+q)=List.replicate (m+q) u++List.replicate (n-(m+q)) z:=by
   rw[List.take_left' (by simp),List.drop_append,List.drop_replicate,List.drop_replicate,List.length_replicate,List.replicate_append_replicate]
   simp
   omega
  rw[<-this]
  exact hD7
 ·have:m=n:=by dsimp only at hge;omega
  subst this
  refine hR w.heap.size w6 ?_ (Nat.le_refl _) hb
  simpa using hD
end Go.Proofs
namespace Go.Proofs
open Go.Gk Go.RowKit Go.Gm
def KeyN(L:List (Int×Int)):Prop:=(L.map (·.1)).Nodup
theorem zmi(k v:Int):∀L:List (Int×Int),(setL L k v).map (·.1)=L.map (·.1)\/((setL L k v).map (·.1)=L.map (·.1)++[k]/\k ∉ L.map (·.1))
 | []=>.inr ⟨rfl,by simp⟩
 |p::r=>by
  simp only[setL]
  split
  ·rename_i e
   left
   simp[e]
  ·rename_i e
   rcases zmi k v r with h | ⟨h1,h2⟩
   ·left
    simp[h]
   ·right
    refine⟨by simp[h1],?_⟩
    rw[List.map_cons,List.mem_cons,not_or]
    exact⟨e,h2⟩
theorem KeyN.set{L:List (Int×Int)}(h:KeyN L)(k v:Int):KeyN (setL L k v):=by
 unfold KeyN at h⊢
 rcases zmi k v L with e | ⟨e,hk⟩
 ·rw[e];exact h
 ·rw[e]
  refine List.nodup_append.2 ⟨h,by simp,?_⟩
  intro a ha b hb e'
  rw[List.mem_singleton]at hb
  rw[e',hb]at ha
  exact hk ha
def mk1(pl:List PI)(id:Int)(k:Nat):Bool:=(pl.getD k pi0).2.2.1==id&&id !=0
def zU(pl:List PI)(id:Int)(n:Nat):Int:=match (List.range n).find? (mk1 pl id) with
 |some k=>(k:Int)
 |none=>-1
def MkOk(L:List (Int×Int))(pl:List PI)(k:Nat):Prop:=∀id,(zJ L id=none->∀j,k<=j->j<pl.length->mk1 pl id j=false)/\
 ∀v,zJ L id=some v->∃j:Nat,v=(j:Int)/\k<=j/\j<pl.length/\mk1 pl id j=true/\∀i,k<=i->i<j->mk1 pl id i=false
theorem MkOk.end(pl:List PI):MkOk [] pl pl.length:=λ_=>⟨λ_ j h1 h2=>by omega,λv h=>by cases h⟩
theorem MkOk.step{L:List (Int×Int)}{pl:List PI}{k:Nat}(h:MkOk L pl (k+1))(hk:k<pl.length):MkOk (if pl[k].2.2.1≠0 then setL L pl[k].2.2.1 k else L) pl k:=by
 have hm:∀id,mk1 pl id k=(pl[k].2.2.1==id&&id !=0):=λid=>by unfold mk1;rw[zm hk]
 intro id
 obtain⟨h1,h2⟩:=h id
 by_cases e0:pl[k].2.2.1=0
 ·rw[if_neg (λh=>h e0)]
  have hf:mk1 pl id k=false:=by
   rw[hm,e0]
   by_cases e:id=0
   ·rw[e];rfl
   ·rw[beq_eq_false_iff_ne.2 (λh=>e h.symm),Bool.false_and]
  refine⟨λhn j g1 g2=>?_,λv hv=>?_⟩
  ·by_cases e:j=k
   ·subst e;exact hf
   ·exact h1 hn j (by omega) g2
  ·obtain⟨j,q1,q2,q3,q4,q5⟩:=h2 v hv
   refine⟨j,q1,by omega,q3,q4,λi g1 g2=>?_⟩
   by_cases e:i=k
   ·subst e;exact hf
   ·exact q5 i (by omega) g2
 ·rw[if_pos e0,zde]
  by_cases e:id=pl[k].2.2.1
  ·rw[if_pos e]
   refine⟨λhn=>by(cases hn),λv hv=>⟨k,(Option.some.inj hv).symm,Nat.le_refl _,hk,?_,λi g1 g2=>by omega⟩⟩
   rw[hm,e]
   simp[e0]
  ·rw[if_neg e]
   have hf:mk1 pl id k=false:=by rw[hm,beq_eq_false_iff_ne.2 (λh=>e h.symm),Bool.false_and]
   refine⟨λhn j g1 g2=>?_,λv hv=>?_⟩
   ·by_cases e:j=k
    ·subst e;exact hf
    ·exact h1 hn j (by omega) g2
   ·obtain⟨j,q1,q2,q3,q4,q5⟩:=h2 v hv
    refine⟨j,q1,by omega,q3,q4,λi g1 g2=>?_⟩
    by_cases e:i=k
    ·subst e;exact hf
    ·exact q5 i (by omega) g2
theorem zh5:Tryz.prog.underlying 88=some (.map 22 3):=by kernel_rfl
theorem ziT{y:Value}{s:Sl}{pl:List PI}{pb:Nat}{w:World}(Inv:Nat->World->Prop)(S:World->Prop)(h0:Inv pl.length w)
  (hkeep:∀k w',Inv k w'->w'.cell? (blk pb)=some (.slice s.a s.l s.c)/\IsPl w' s pl)
  (hround:∀k (hk:k<pl.length) t w',Inv (k+1) w'->yE Tryz.prog Tryz.fs y [.int .i64 (k:Int),inA (mkIn pl[k] t)] w' λv w''=>(v =.bool true/\Inv k w'')\/(v =.bool false/\S w''))
  (hend:∀w',Inv 0 w'->S w'):Calls Tryz.prog 141 #[y,.pointer (some (blk pb))] w (Ret λ_ w'=>S w'):=by
 refine Zv y (blk pb) _ w ⟨s,(hkeep _ _ h0).1,?_⟩
 have hlen:=(hkeep _ _ h0).2.len
 have hmax:=(hkeep _ _ h0).2.bound
 dsimp only
 rw[hlen,zz (by omega) (by omega)]
 refine zj.ghost (λj st w'=>j<=pl.length/\st=((j:Int)-1,())/\Inv j w') pl.length ⟨Nat.le_refl _,rfl,h0⟩ ?_
 rintro k _ w1 ⟨hk,rfl,hI⟩ next hnext
 refine zg (λh=>?_) (λh=>?_)
 ·obtain⟨j,rfl⟩:∃j,k=j+1:=⟨k-1,by dsimp only at h;omega⟩
  have hlt:j<pl.length:=by omega
  obtain⟨c1,c2⟩:=hkeep _ _ hI
  have ej:(((j+1:Nat):Int)-1)=(j:Int):=by omega
  dsimp only
  rw[ej]
  refine⟨s,c1,zbF c2 hlt λt _=>?_⟩
  refine yE.mono (hround j hlt t w1 hI) λv w2 hv=>?_
  rcases hv with⟨rfl,hv⟩ | ⟨rfl,hv⟩
  ·refine⟨true,rfl,zD rfl ?_⟩
   rw[zz (by omega) (by omega)]
   exact hnext j _ _ (by omega) ⟨by omega,rfl,hv⟩
  ·exact⟨false,rfl,zG rfl hv⟩
 ·have hk0:k=0:=by dsimp only at h;omega
  subst hk0
  exact hend w1 hI
theorem zmt{s:Sl}{pl:List PI}{w:World}{R:VWP}(hN:IsPl w s pl)
  (hR:∀w' L,IsMp w' w.heap.size .i64 L->MkOk L pl 0->KeyN L->Below w.heap.size w w'->R (.map (some w.heap.size)) w'):cR 68 #[.slice s.a s.l s.c] w R:=by
 refine zc.of (zhV s R w ?_) λ_ _ h=>h
 refine Nw.gen λw1 e1=>?_
 have m1:IsMp w1 w.heap.size .i64 []:=by rw[e1];exact IsMp.new _ _
 have b1:Below w.heap.size w w1:=by rw[e1];exact(Below.refl _ _).alloc (Nat.le_refl _) _
 have z1:w1.heap.size=w.heap.size+1:=by rw[e1];simp
 clear e1
 refine Nw.gen λw2 e2=>?_
 have hB2:Blk w2 w1.heap.size 88 [.map none]:=by rw[e2];exact Blk.new _ _ _
 have b2:Below w1.heap.size w1 w2:=by rw[e2];exact(Below.refl _ _).alloc (Nat.le_refl _) _
 have z2:w2.heap.size=w.heap.size+2:=by rw[e2];simp[z1]
 clear e2
 refine⟨hB2.wr0 (by simp),Nw.gen λw3 e3=>?_⟩
 have c3:Chg w1.heap.size w2 w3:=by rw[e3];exact Chg.set w1.heap.size 0 w2 _
 have hB3:Blk w3 w1.heap.size 88 [.map (some w.heap.size)]:=by rw[e3];exact hB2.set0 _
 clear e3
 have m3:=(m1.below b2).of_block (c3.block _ (by omega))
 have hb3:Below w.heap.size w w3:=c3.below (b1.on b2) (by omega)
 have z3:=c3.size
 refine zc.of (ZD s _ w3 ?_) λ_ _ h=>h
 refine zl λw4 hC4 b4 z4=>⟨_,rfl,?_⟩
 have hC4:Blk w4 w3.heap.size 23 [.slice s.a s.l s.c]:=hC4
 intro mk hy
 have hcf:Tryz.fs.contains 141=true:=by kernel_rfl
 unfold zjl
 simp only[hcf]
 generalize hw5:((w4.alloc (.deferred (some []))).alloc (mk .ready none))=w5
 have b5:Below w4.heap.size w4 w5:=by rw[<-hw5];exact zay w4 _ _
 have hd5:w5.heap[w4.heap.size]? =some (.deferred (some [])):=by rw[<-hw5];exact zj2 w4 _ _
 have hl5:w5.heap[w4.heap.size+1]? =some (mk .ready none):=by rw[<-hw5];exact zj3 w4 _ _
 clear hw5
 have b35:=b4.on b5
 refine ziT (y:=.func (.yield (w4.heap.size+1)) #[] #[]) (s:=s) (pl:=pl)
  (λk w'=>w'.heap[w4.heap.size+1]? =some (mk .ready none)/\w'.heap[w4.heap.size]? =some (.deferred (some []))/\Blk w' w1.heap.size 88 [.map (some w.heap.size)]/\Blk w' w3.heap.size 23 [.slice s.a s.l s.c]/\Below w.heap.size w w'/\
   ∃L,IsMp w' w.heap.size .i64 L/\MkOk L pl k/\KeyN L) _
  ⟨hl5,hd5,hB3.below b35,hC4.below b5,hb3.on b35,[],m3.below b35,MkOk.end pl,by simp[KeyN]⟩ ?_ ?_ ?_
 ·rintro k w' ⟨h1,h2,h3,h4,h5,_⟩
  exact⟨h4.cell0 rfl,hN.below h5⟩
 ·rintro k hk t w' ⟨h1,h2,h3,h4,h5,L,h6,h7,h8⟩
  have hlt':w4.heap.size+1<w'.heap.size:=(Array.getElem?_eq_some_iff.1 h1).1
  refine hy ((k:Int),mkIn pl[k] t,()) w' _ h1 ?_
  refine box4 rfl λw6 hI6 b6 z6=>?_
  have hI6:Blk w6 w'.heap.size 50 (inV (mkIn pl[k] t)):=hI6
  have hl6:w6.heap[w4.heap.size+1]? =some (mk .ready none):=(b6.block _ hlt').trans h1
  refine⟨hl6,Nw.gen λw7 e7=>?_⟩
  have s6:=b6.size
  have hlt6:w4.heap.size+1<w6.heap.size:=by omega
  have ho7:∀b,b≠w4.heap.size+1->w7.heap[b]? =w6.heap[b]?:=λb hb=>by rw[e7];exact World.putObj_heap_other hb
  have z7:w7.heap.size=w6.heap.size:=by rw[e7];simp
  have hl7:w7.heap[w4.heap.size+1]? =some (mk .busy none):=by rw[e7];exact zae hlt6 _
  have hb7:Below w.heap.size w w7:=by rw[e7];exact(h5.on b6).putObj (by omega) _
  clear e7
  have d7:w7.heap[w4.heap.size]? =some (.deferred (some [])):=by rw[ho7 _ (by omega),b6.block _ (by omega)];exact h2
  have k3:=(h3.below b6).of_block (ho7 _ (by have:=b4.size;omega))
  have k4:=(h4.below b6).of_block (ho7 _ (by omega))
  have k6:=(h6.below b6).of_block (ho7 _ (by omega))
  have kI:=hI6.of_block (ho7 _ (by omega))
  have hst:=h7.step hk
  have hput:∀{w8:World},w8.heap[w4.heap.size+1]? =some (mk .busy none)->w4.heap.size+1<w8.heap.size:=λh=>(Array.getElem?_eq_some_iff.1 h).1
  refine kI.rI (n:=2) rfl (zF (λe=>?_) (λe=>?_))
  ·have e':pl[k].2.2.1≠0:=e
   rw[if_pos e']at hst
   refine k3.rM0 rfl (kI.rI (n:=2) rfl ?_)
   refine zox zh5 uU32 k6 λw8 m8 c8=>?_
   have hl8:w8.heap[w4.heap.size+1]? =some (mk .busy none):=by rw[c8.block _ (by omega)];exact hl7
   refine⟨hl8,.inl ⟨rfl,zae (hput hl8) _,?_,?_,?_,?_,_,?_,hst,h8.set _ _⟩⟩
   ·rw[World.putObj_heap_other (by omega),c8.block _ (by omega)];exact d7
   ·exact(c8.blk k3 (by omega)).put (by omega) _
   ·exact(c8.blk k4 (by omega)).put (by omega) _
   ·exact(c8.below hb7 (Nat.le_refl _)).putObj (by omega) _
   ·exact m8.of_block (World.putObj_heap_other (by omega))
  ·have e':¬pl[k].2.2.1≠0:=λh=>h e
   rw[if_neg e']at hst
   refine⟨hl7,.inl ⟨rfl,zae (by omega) _,?_,?_,?_,?_,L,?_,hst,h8⟩⟩
   ·rw[World.putObj_heap_other (by omega)];exact d7
   ·exact k3.put (by omega) _
   ·exact k4.put (by omega) _
   ·exact hb7.putObj (by omega) _
   ·exact k6.of_block (World.putObj_heap_other (by omega))
 ·rintro w' ⟨h1,h2,h3,h4,h5,L,h6,h7,h8⟩
  refine⟨h1,?_⟩
  have k3:=h3.put (l:=w4.heap.size+1) (by omega) (mk .exhausted none)
  refine k3.rM0 rfl (zaw (by rw[World.putObj_heap_other (by omega)];exact h2) ?_)
  refine hR _ L ?_ h7 h8 ?_
  ·exact(h6.of_block (World.putObj_heap_other (by omega))).of_block (World.putObj_heap_other (by omega))
  ·exact(h5.putObj (by omega) _).putObj (by omega) _
end Go.Proofs
namespace Go.Proofs
open Go.Gk Go.RowKit Go.Gm
theorem zh3(w:World)(r:Nat)(o:Obj):Chg r w (ChangeMaps.setBlock w r o):=
 ⟨rfl,rfl,rfl,by simp[ChangeMaps.setBlock],λk hk=>by simp[ChangeMaps.setBlock,Array.getElem?_setIfInBounds_ne (Ne.symm hk)]⟩
theorem zjY{n:Int}(h:0<=n)(h2:n<=4294967295):IntKind.u32.wrap n=n:=by
 rw[IntKind.wrap_u32]
 exact Int.emod_eq_of_lt h (Int.lt_of_le_of_lt h2 (by decide))
section
variable {x:Mo} {pl:List PI} {w:World} {R:VWP}
theorem zkg(hp:PlOk pl)(h0:0<=x.2.1)(hs:(zs x.2.1 pl).1=0):∀p∈pl,0<=p.2.2.1/\p.2.2.1<x.2.1:=by
 obtain⟨nb,hf⟩:=yN hs
 intro p hpm
 obtain⟨i,hi,rfl⟩:=List.mem_iff_getElem.1 hpm
 have:=(zkx (hf i hi) (by omega) (by have:=hp.nums _ (List.getElem_mem hi);exact⟨this.1.1,this.2.1.1,λa ha=>(this.2.2 a ha).1⟩)).1 pl[i].2.2.1 (by unfold allI;simp)
 exact this
end
end Go.Proofs
namespace Go.Proofs
open Go.Gk Go.RowKit Go.Gm
abbrev T20:=Int×Int×Int×Int×Int×Int×Int×Int×Int×Int×Int×Int×Int×Int×Int×Int×Int×Int×Int×Int×Unit
abbrev l20(x:T20):List Int:=[x.1,x.2.1,x.2.2.1,x.2.2.2.1,x.2.2.2.2.1,x.2.2.2.2.2.1,x.2.2.2.2.2.2.1,x.2.2.2.2.2.2.2.1,x.2.2.2.2.2.2.2.2.1,x.2.2.2.2.2.2.2.2.2.1,x.2.2.2.2.2.2.2.2.2.2.1,x.2.2.2.2.2.2.2.2.2.2.2.1,x.2.2.2.2.2.2.2.2.2.2.2.2.1,x.2.2.2.2.2.2.2.2.2.2.2.2.2.1,x.2.2.2.2.2.2.2.2.2.2.2.2.2.2.1,x.2.2.2.2.2.2.2.2.2.2.2.2.2.2.2.1,x.2.2.2.2.2.2.2.2.2.2.2.2.2.2.2.2.1,x.2.2.2.2.2.2.2.2.2.2.2.2.2.2.2.2.2.1,x.2.2.2.2.2.2.2.2.2.2.2.2.2.2.2.2.2.2.1,x.2.2.2.2.2.2.2.2.2.2.2.2.2.2.2.2.2.2.2.1]
abbrev sp20(x:T20):List Value:=[.int .i64 x.1,.int .i64 x.2.1,.int .i64 x.2.2.1,.int .i64 x.2.2.2.1,.int .i64 x.2.2.2.2.1,.int .i64 x.2.2.2.2.2.1,.int .i64 x.2.2.2.2.2.2.1,.int .i64 x.2.2.2.2.2.2.2.1,.int .i64 x.2.2.2.2.2.2.2.2.1,.int .i64 x.2.2.2.2.2.2.2.2.2.1,.int .i64 x.2.2.2.2.2.2.2.2.2.2.1,.int .i64 x.2.2.2.2.2.2.2.2.2.2.2.1,.int .i64 x.2.2.2.2.2.2.2.2.2.2.2.2.1,.int .i64 x.2.2.2.2.2.2.2.2.2.2.2.2.2.1,.int .i64 x.2.2.2.2.2.2.2.2.2.2.2.2.2.2.1,.int .i64 x.2.2.2.2.2.2.2.2.2.2.2.2.2.2.2.1,.int .i64 x.2.2.2.2.2.2.2.2.2.2.2.2.2.2.2.2.1,.int .i64 x.2.2.2.2.2.2.2.2.2.2.2.2.2.2.2.2.2.1,.int .i64 x.2.2.2.2.2.2.2.2.2.2.2.2.2.2.2.2.2.2.1,.int .i64 x.2.2.2.2.2.2.2.2.2.2.2.2.2.2.2.2.2.2.2.1]
abbrev ag20(x:T20):Value:=.agg #[.int .i64 x.1,.int .i64 x.2.1,.int .i64 x.2.2.1,.int .i64 x.2.2.2.1,.int .i64 x.2.2.2.2.1,.int .i64 x.2.2.2.2.2.1,.int .i64 x.2.2.2.2.2.2.1,.int .i64 x.2.2.2.2.2.2.2.1,.int .i64 x.2.2.2.2.2.2.2.2.1,.int .i64 x.2.2.2.2.2.2.2.2.2.1,.int .i64 x.2.2.2.2.2.2.2.2.2.2.1,.int .i64 x.2.2.2.2.2.2.2.2.2.2.2.1,.int .i64 x.2.2.2.2.2.2.2.2.2.2.2.2.1,.int .i64 x.2.2.2.2.2.2.2.2.2.2.2.2.2.1,.int .i64 x.2.2.2.2.2.2.2.2.2.2.2.2.2.2.1,.int .i64 x.2.2.2.2.2.2.2.2.2.2.2.2.2.2.2.1,.int .i64 x.2.2.2.2.2.2.2.2.2.2.2.2.2.2.2.2.1,.int .i64 x.2.2.2.2.2.2.2.2.2.2.2.2.2.2.2.2.2.1,.int .i64 x.2.2.2.2.2.2.2.2.2.2.2.2.2.2.2.2.2.2.1,.int .i64 x.2.2.2.2.2.2.2.2.2.2.2.2.2.2.2.2.2.2.2.1]
theorem zsi{ps:List Int}(h:ps.length=20):∃x:T20,ps=l20 x:=by
 match ps,h with
 | [a0,a1,a2,a3,a4,a5,a6,a7,a8,a9,a10,a11,a12,a13,a14,a15,a16,a17,a18,a19],_=>exact⟨(a0,a1,a2,a3,a4,a5,a6,a7,a8,a9,a10,a11,a12,a13,a14,a15,a16,a17,a18,a19,()),rfl⟩
theorem _root_.Go.Gk.Blk.rI2{w:World}{b:Nat}{T:TypeId}{cs:List Value}(h:Blk w b T cs){m n:Nat}{κ:IntKind}{x:Int}(hn:cs[m+n]? =some (.int κ x)){φ:Int->Prop}(hφ:φ x):ldI w (((Gk.blk b).add m).add n) κ φ:=by
 rw[zA];exact h.rI hn hφ
theorem ld20{w:World}{b:Nat}{T:TypeId}{x:T20}(h:Blk w b T (sp20 x)){φ:Int->Int->Int->Int->Int->Int->Int->Int->Int->Int->Int->Int->Int->Int->Int->Int->Int->Int->Int->Int->Prop}(hφ:φ x.1 x.2.1 x.2.2.1 x.2.2.2.1 x.2.2.2.2.1 x.2.2.2.2.2.1 x.2.2.2.2.2.2.1 x.2.2.2.2.2.2.2.1 x.2.2.2.2.2.2.2.2.1 x.2.2.2.2.2.2.2.2.2.1 x.2.2.2.2.2.2.2.2.2.2.1 x.2.2.2.2.2.2.2.2.2.2.2.1 x.2.2.2.2.2.2.2.2.2.2.2.2.1 x.2.2.2.2.2.2.2.2.2.2.2.2.2.1 x.2.2.2.2.2.2.2.2.2.2.2.2.2.2.1 x.2.2.2.2.2.2.2.2.2.2.2.2.2.2.2.1 x.2.2.2.2.2.2.2.2.2.2.2.2.2.2.2.2.1 x.2.2.2.2.2.2.2.2.2.2.2.2.2.2.2.2.2.1 x.2.2.2.2.2.2.2.2.2.2.2.2.2.2.2.2.2.2.1 x.2.2.2.2.2.2.2.2.2.2.2.2.2.2.2.2.2.2.2.1) :
   ldI w ((blk b).add 0) .i64 λx0=>
   ldI w ((blk b).add 1) .i64 λx1=>
   ldI w ((blk b).add 2) .i64 λx2=>
   ldI w ((blk b).add 3) .i64 λx3=>
   ldI w ((blk b).add 4) .i64 λx4=>
   ldI w ((blk b).add 5) .i64 λx5=>
   ldI w ((blk b).add 6) .i64 λx6=>
   ldI w ((blk b).add 7) .i64 λx7=>
   ldI w ((blk b).add 8) .i64 λx8=>
   ldI w ((blk b).add 9) .i64 λx9=>
   ldI w ((blk b).add 10) .i64 λx10=>
   ldI w ((blk b).add 11) .i64 λx11=>
   ldI w ((blk b).add 12) .i64 λx12=>
   ldI w ((blk b).add 13) .i64 λx13=>
   ldI w ((blk b).add 14) .i64 λx14=>
   ldI w ((blk b).add 15) .i64 λx15=>
   ldI w ((blk b).add 16) .i64 λx16=>
   ldI w ((blk b).add 17) .i64 λx17=>
   ldI w ((blk b).add 18) .i64 λx18=>
   ldI w ((blk b).add 19) .i64 λx19=>
   φ x0 x1 x2 x3 x4 x5 x6 x7 x8 x9 x10 x11 x12 x13 x14 x15 x16 x17 x18 x19:=
 h.rI (n:=0) rfl (h.rI (n:=1) rfl (h.rI (n:=2) rfl (h.rI (n:=3) rfl (h.rI (n:=4) rfl (h.rI (n:=5) rfl (h.rI (n:=6) rfl (h.rI (n:=7) rfl (h.rI (n:=8) rfl (h.rI (n:=9) rfl (h.rI (n:=10) rfl (h.rI (n:=11) rfl (h.rI (n:=12) rfl (h.rI (n:=13) rfl (h.rI (n:=14) rfl (h.rI (n:=15) rfl (h.rI (n:=16) rfl (h.rI (n:=17) rfl (h.rI (n:=18) rfl (h.rI (n:=19) rfl (hφ))))))))))))))))))))
theorem zs1{w:World}{b:Nat}{T:TypeId}{v0 v1:Value}{r:List Value}{x:T20}(h:Blk w b T (v0::v1::(sp20 x++r))){φ:Int->Int->Int->Int->Int->Int->Int->Int->Int->Int->Int->Int->Int->Int->Int->Int->Int->Int->Int->Int->Prop}(hφ:φ x.1 x.2.1 x.2.2.1 x.2.2.2.1 x.2.2.2.2.1 x.2.2.2.2.2.1 x.2.2.2.2.2.2.1 x.2.2.2.2.2.2.2.1 x.2.2.2.2.2.2.2.2.1 x.2.2.2.2.2.2.2.2.2.1 x.2.2.2.2.2.2.2.2.2.2.1 x.2.2.2.2.2.2.2.2.2.2.2.1 x.2.2.2.2.2.2.2.2.2.2.2.2.1 x.2.2.2.2.2.2.2.2.2.2.2.2.2.1 x.2.2.2.2.2.2.2.2.2.2.2.2.2.2.1 x.2.2.2.2.2.2.2.2.2.2.2.2.2.2.2.1 x.2.2.2.2.2.2.2.2.2.2.2.2.2.2.2.2.1 x.2.2.2.2.2.2.2.2.2.2.2.2.2.2.2.2.2.1 x.2.2.2.2.2.2.2.2.2.2.2.2.2.2.2.2.2.2.1 x.2.2.2.2.2.2.2.2.2.2.2.2.2.2.2.2.2.2.2.1) :
   ldI w (((blk b).add 2).add 0) .i64 λx0=>
   ldI w (((blk b).add 2).add 1) .i64 λx1=>
   ldI w (((blk b).add 2).add 2) .i64 λx2=>
   ldI w (((blk b).add 2).add 3) .i64 λx3=>
   ldI w (((blk b).add 2).add 4) .i64 λx4=>
   ldI w (((blk b).add 2).add 5) .i64 λx5=>
   ldI w (((blk b).add 2).add 6) .i64 λx6=>
   ldI w (((blk b).add 2).add 7) .i64 λx7=>
   ldI w (((blk b).add 2).add 8) .i64 λx8=>
   ldI w (((blk b).add 2).add 9) .i64 λx9=>
   ldI w (((blk b).add 2).add 10) .i64 λx10=>
   ldI w (((blk b).add 2).add 11) .i64 λx11=>
   ldI w (((blk b).add 2).add 12) .i64 λx12=>
   ldI w (((blk b).add 2).add 13) .i64 λx13=>
   ldI w (((blk b).add 2).add 14) .i64 λx14=>
   ldI w (((blk b).add 2).add 15) .i64 λx15=>
   ldI w (((blk b).add 2).add 16) .i64 λx16=>
   ldI w (((blk b).add 2).add 17) .i64 λx17=>
   ldI w (((blk b).add 2).add 18) .i64 λx18=>
   ldI w (((blk b).add 2).add 19) .i64 λx19=>
   φ x0 x1 x2 x3 x4 x5 x6 x7 x8 x9 x10 x11 x12 x13 x14 x15 x16 x17 x18 x19:=
 h.rI2 (m:=2) (n:=0) rfl (h.rI2 (m:=2) (n:=1) rfl (h.rI2 (m:=2) (n:=2) rfl (h.rI2 (m:=2) (n:=3) rfl (h.rI2 (m:=2) (n:=4) rfl (h.rI2 (m:=2) (n:=5) rfl (h.rI2 (m:=2) (n:=6) rfl (h.rI2 (m:=2) (n:=7) rfl (h.rI2 (m:=2) (n:=8) rfl (h.rI2 (m:=2) (n:=9) rfl (h.rI2 (m:=2) (n:=10) rfl (h.rI2 (m:=2) (n:=11) rfl (h.rI2 (m:=2) (n:=12) rfl (h.rI2 (m:=2) (n:=13) rfl (h.rI2 (m:=2) (n:=14) rfl (h.rI2 (m:=2) (n:=15) rfl (h.rI2 (m:=2) (n:=16) rfl (h.rI2 (m:=2) (n:=17) rfl (h.rI2 (m:=2) (n:=18) rfl (h.rI2 (m:=2) (n:=19) rfl (hφ))))))))))))))))))))
theorem st20{b:Nat}{T:TypeId}{cs:List Value}{x:T20}{K:World->Prop}{w:World}(hB:Blk w b T cs)(hl:cs.length=20)(hK:∀w',Blk w' b T (sp20 x)->Chg b w w'->K w') :
   Wr w (blk b)/\Nw (w.setCell (blk b) (.int .i64 x.1)) λu0=>
   Wr u0 ((blk b).add 1)/\Nw (u0.setCell ((blk b).add 1) (.int .i64 x.2.1)) λu1=>
   Wr u1 ((blk b).add 2)/\Nw (u1.setCell ((blk b).add 2) (.int .i64 x.2.2.1)) λu2=>
   Wr u2 ((blk b).add 3)/\Nw (u2.setCell ((blk b).add 3) (.int .i64 x.2.2.2.1)) λu3=>
   Wr u3 ((blk b).add 4)/\Nw (u3.setCell ((blk b).add 4) (.int .i64 x.2.2.2.2.1)) λu4=>
   Wr u4 ((blk b).add 5)/\Nw (u4.setCell ((blk b).add 5) (.int .i64 x.2.2.2.2.2.1)) λu5=>
   Wr u5 ((blk b).add 6)/\Nw (u5.setCell ((blk b).add 6) (.int .i64 x.2.2.2.2.2.2.1)) λu6=>
   Wr u6 ((blk b).add 7)/\Nw (u6.setCell ((blk b).add 7) (.int .i64 x.2.2.2.2.2.2.2.1)) λu7=>
   Wr u7 ((blk b).add 8)/\Nw (u7.setCell ((blk b).add 8) (.int .i64 x.2.2.2.2.2.2.2.2.1)) λu8=>
   Wr u8 ((blk b).add 9)/\Nw (u8.setCell ((blk b).add 9) (.int .i64 x.2.2.2.2.2.2.2.2.2.1)) λu9=>
   Wr u9 ((blk b).add 10)/\Nw (u9.setCell ((blk b).add 10) (.int .i64 x.2.2.2.2.2.2.2.2.2.2.1)) λu10=>
   Wr u10 ((blk b).add 11)/\Nw (u10.setCell ((blk b).add 11) (.int .i64 x.2.2.2.2.2.2.2.2.2.2.2.1)) λu11=>
   Wr u11 ((blk b).add 12)/\Nw (u11.setCell ((blk b).add 12) (.int .i64 x.2.2.2.2.2.2.2.2.2.2.2.2.1)) λu12=>
   Wr u12 ((blk b).add 13)/\Nw (u12.setCell ((blk b).add 13) (.int .i64 x.2.2.2.2.2.2.2.2.2.2.2.2.2.1)) λu13=>
   Wr u13 ((blk b).add 14)/\Nw (u13.setCell ((blk b).add 14) (.int .i64 x.2.2.2.2.2.2.2.2.2.2.2.2.2.2.1)) λu14=>
   Wr u14 ((blk b).add 15)/\Nw (u14.setCell ((blk b).add 15) (.int .i64 x.2.2.2.2.2.2.2.2.2.2.2.2.2.2.2.1)) λu15=>
   Wr u15 ((blk b).add 16)/\Nw (u15.setCell ((blk b).add 16) (.int .i64 x.2.2.2.2.2.2.2.2.2.2.2.2.2.2.2.2.1)) λu16=>
   Wr u16 ((blk b).add 17)/\Nw (u16.setCell ((blk b).add 17) (.int .i64 x.2.2.2.2.2.2.2.2.2.2.2.2.2.2.2.2.2.1)) λu17=>
   Wr u17 ((blk b).add 18)/\Nw (u17.setCell ((blk b).add 18) (.int .i64 x.2.2.2.2.2.2.2.2.2.2.2.2.2.2.2.2.2.2.1)) λu18=>
   Wr u18 ((blk b).add 19)/\Nw (u18.setCell ((blk b).add 19) (.int .i64 x.2.2.2.2.2.2.2.2.2.2.2.2.2.2.2.2.2.2.2.1)) λu19=>
   K u19:=
 za3 (vs:=sp20 x) hB hl hK
end Go.Proofs
namespace Go.Proofs
open Go.Gk Go.RowKit Go.Gm
theorem Fns.chg{w w':World}{fs:Sl}{L:List Fe}{b:Nat}{T:TypeId}{cs:List Value}(h:Fns w fs L)(c:Chg b w w')(hB:Blk w b T cs)(h1:46≠T)(h2:3≠T)(h3:42≠T):Fns w' fs L:=by
 have f:Fr w.heap.size (λk=>k=b) w w':=c.fr
 exact⟨f.own h.own λb e e2=>by subst e2;exact zP h.own hB h1 e,λx hx=>
  ⟨f.own (h.row x hx).1 λb e e2=>by subst e2;exact zP (h.row x hx).1 hB h2 e,f.own (h.row x hx).2 λb e e2=>by subst e2;exact zP (h.row x hx).2 hB h3 e⟩⟩
section
variable {x:Mo} {pl:List PI} {w:World} {R:VWP}
theorem zkG(hN:IsPl w x.2.2.1 pl)(hp:PlOk pl)
  (hok:∀bc ps fs L w',layP x.2.1 pl=(0,0)->Ct w w' bc x.2.2.1 pl.length ps fs->ZT pl 10 pl.length ps->Fns w' fs L->zC w.heap.size fs->cutF pl pl.length=L.map (·.1)->Y1 pl pl.length->
   R (.tuple #[.pointer (some (blk bc)),.agg #[.int .i64 0,.int .i64 0]]) w')
  (hbad:∀w',Below w.heap.size w w'->(layP x.2.1 pl).1≠0->R (.tuple #[.pointer none,.agg #[.int .i64 (layP x.2.1 pl).1,.int .i64 ((layP x.2.1 pl).2:Int)]]) w') :
  cR 31 #[moA x] w R:=by
 refine zc.of (zhn x R w ?_) λ_ _ h=>h
 refine zl λw1 hB1 b1 z1=>?_
 have hB1:Blk w1 w.heap.size 25 (moV x):=hB1
 refine zl λw2 hC2 b2 z2=>?_
 have hC2:Blk w2 w1.heap.size 29 [.int .i64 0,.int .i64 0]:=hC2
 have hb2:=b1.on b2
 have s1:=b1.size
 have hlen:=hN.len
 have h40:=hp.len
 refine Mo.load (hB1.below b2) ?_
 refine zjb (x:=x) (hN.below hb2) hp λw3 b3=>⟨((zs x.2.1 pl).1,((zs x.2.1 pl).2:Int),()),rfl,?_⟩
 refine box2 rfl λw4 h4 b4 z4=>?_
 have b24:=b3.on b4
 have hb4:=hb2.on b24
 have hB4:=(hB1.below b2).below b24
 have hC4:=hC2.below b24
 have s24:=b24.size
 refine h4.rI0 rfl (zF (λe=>?_) (λe=>?_))
 ·have e':(zs x.2.1 pl).1≠0:=e
  have hl:layP x.2.1 pl=zs x.2.1 pl:=if_pos e'
  rw[hl]at hbad
  refine Sp.load h4.drew ?_
  refine st2 hC4.drew rfl λw5 h5 c5=>Sp.load h5 ?_
  exact hbad w5 (c5.below hb4.drew (by omega)) e'
 ·have e':(zs x.2.1 pl).1=0:=e
  have hl:layP x.2.1 pl=chkP pl:=if_neg (λh=>h e')
  refine hB4.rS (n:=2) (x:=x.2.2.1) rfl ?_
  refine zl λw9 h9 b9 z9=>?_
  have h9:Blk w9 w4.heap.size 100 (ctV x.2.2.1 (0:Nat) (List.replicate 20 0) ⟨none,0,0⟩):=h9
  have hCt:Ct w4 w9 w4.heap.size x.2.2.1 0 (List.replicate 20 0) ⟨none,0,0⟩:=⟨Nat.le_refl _,b9,h9,List.length_replicate⟩
  have s4:=hb4.size
  dsimp only[zB,Go.Gk.Sl.zw,zi,zu,zb,zh]
  generalize hbc:w4.heap.size=bc at hCt z9
  refine zpK hCt (hN.below hb4) h40 (λps fs L w10 hC10 f10 hg ho hP hL hF hcut=>?_) (λn ps fs w10 hC10 f10 hS=>?_)
  ·refine⟨true,rfl,zG rfl ?_⟩
   have hlay:layP x.2.1 pl=(0,0):=by rw[hl,zoc hg,if_neg (by rw[ho];decide)]
   have hR1:=hC4.below hC10.b0
   have hCw:Ct w w10 bc x.2.2.1 pl.length ps fs:=⟨by omega,hb4.on hC10.b0,hC10.blk,hC10.len⟩
   refine st2 hR1 rfl λw12 h12 c12=>Sp.load h12 ?_
   exact hok bc ps fs L w12 hlay (hCw.chg c12 (by omega) (by omega)) hP (hL.chg c12 hR1 (by decide) (by decide) (by decide)) (λa ha=>by have:=hF a ha;have:=b9.size;omega) hcut hg
  ·refine⟨false,rfl,zD rfl ?_⟩
   have bd:Below w10.heap.size w10 w10.drew:=(Below.refl _ _).drew
   have hlay:layP x.2.1 pl=(if n<pl.length then 50 else 51,n):=by rw[hl];exact hS.chk
   rw[hlay]at hbad
   have hBm:=(hB4.below hC10.b0)
   have hR1:=hC4.below hC10.b0
   have hbw:Below w.heap.size w w10:=hb4.on hC10.b0
   refine hC10.blk.drew.rI (n:=1) rfl (hBm.drew.rS (n:=2) (x:=x.2.2.1) rfl (zg (λh=>?_) (λh=>?_)))
   ·have hlt:n<pl.length:=by omega
    rw[if_pos hlt]at hbad
    refine hC10.blk.drew.drew.rI (n:=1) rfl (st2 hR1.drew.drew rfl λw13 h13 c13=>Sp.load h13 ?_)
    exact hbad w13 (c13.below hbw.drew.drew (by omega)) (show(50:Int)≠0 by decide)
   ·have hlt:¬n<pl.length:=by omega
    rw[if_neg hlt]at hbad
    refine hC10.blk.drew.drew.rI (n:=1) rfl (st2 hR1.drew.drew rfl λw13 h13 c13=>Sp.load h13 ?_)
    exact hbad w13 (c13.below hbw.drew.drew (by omega)) (show(51:Int)≠0 by decide)
theorem zne(hN:IsPl w x.2.2.1 pl)(hp:PlOk pl)
  (hR:∀(y:T20) w',Below w.heap.size w w'->((layP x.2.1 pl).1=0->ZT pl 10 pl.length (l20 y)/\Y1 pl pl.length)->R (.tuple #[ag20 y,.agg #[.int .i64 (layP x.2.1 pl).1,.int .i64 ((layP x.2.1 pl).2:Int)]]) w') :
  cR 67 #[moA x] w R:=by
 refine zc.of (zgq x R w ?_) λ_ _ h=>h
 refine zl λw1 hB1 b1 z1=>?_
 have hB1:Blk w1 w.heap.size 25 (moV x):=hB1
 refine zl λw2 hA2 b2 z2=>?_
 refine zl λw3 hC3 b3 z3=>?_
 have hC3:Blk w3 w2.heap.size 29 [.int .i64 0,.int .i64 0]:=hC3
 have hb23:=b2.on b3
 have hb3:=b1.on hb23
 have s1:=b1.size
 refine Mo.load (hB1.below hb23) ?_
 refine zkG (x:=x) (hN.below hb3) hp (λbc ps fs L w4 hlay hC4 hP hL hF hcut hg=>⟨some (blk bc),(0,0,()),rfl,?_⟩) (λw4 b4 hne=>⟨none,((layP x.2.1 pl).1,((layP x.2.1 pl).2:Int),()),rfl,?_⟩)
 ·rw[hlay]at hR
  refine box2 rfl λw7 h7 b7 z7=>?_
  have hC7:=hC4.below b7
  have b37:=hC4.b0.on b7
  have hA7:=((hA2.below b3).below b37).drew
  have hS7:=(hC3.below b37).drew
  have hbw:=(hb3.on b37).drew
  have s37:=b37.size
  have h7:=h7.drew
  obtain⟨y,rfl⟩:=zsi hC7.len
  have hct:=hC7.blk.drew
  generalize w7.drew=w8 at hct hA7 hS7 hbw h7
  refine zD rfl (ze rfl (zs1 (x:=y) hct ?_))
  refine Sp.load h7 ?_
  refine st20 (x:=y) hA7 rfl λw49 h49 c49=>?_
  have hS49:=c49.blk hS7 (by omega)
  have h7':=c49.blk h7 (by have:=hC4.b0.size;omega)
  refine⟨h7'.cell (n:=0) rfl,h7'.cell (n:=1) rfl,?_⟩
  refine st2 hS49 rfl λw51 h51 c51=>?_
  refine ld20 (x:=y) (c51.blk h49 (by omega)) (Sp.load h51 ?_)
  exact hR y w51 (c51.below (c49.below hbw (by omega)) (by omega)) λ_=>⟨hP,hg⟩
 ·refine box2 rfl λw7 h7 b7 z7=>?_
  have b37:=b4.on b7
  have hA7:=((hA2.below b3).below b37).drew
  have hS7:=(hC3.below b37).drew
  have hbw:=(hb3.on b37).drew
  have s37:=b37.size
  have s34:=b4.size
  have h7:=h7.drew
  generalize w7.drew=w8 at hA7 hS7 hbw h7
  refine zG rfl (Sp.load h7 ?_)
  refine st20 (x:=(0,0,0,0,0,0,0,0,0,0,0,0,0,0,0,0,0,0,0,0,())) hA7 rfl λw49 h49 c49=>?_
  have hS49:=c49.blk hS7 (by omega)
  have h7':=c49.blk h7 (by omega)
  refine⟨h7'.cell (n:=0) rfl,h7'.cell (n:=1) rfl,?_⟩
  refine st2 hS49 rfl λw51 h51 c51=>?_
  refine ld20 (x:=(0,0,0,0,0,0,0,0,0,0,0,0,0,0,0,0,0,0,0,0,())) (c51.blk h49 (by omega)) (Sp.load h51 ?_)
  exact hR _ w51 (c51.below (c49.below hbw (by omega)) (by omega)) λh=>absurd h hne
end
end Go.Proofs
namespace Go.Proofs
open Go.Gk Go.RowKit Go.Gm
theorem za0{pl:List PI}{id:Int}{n:Nat}:0<=zU pl id n↔∃k,k<n/\mk1 pl id k=true:=by
 unfold zU
 constructor
 ·intro h
  cases e:(List.range n).find? (mk1 pl id) with
  |none=>rw[e]at h;exact absurd h (by decide)
  |some k=>exact⟨k,List.mem_range.1 (List.mem_of_find?_eq_some e),List.find?_some e⟩
 ·rintro⟨k,h1,h2⟩
  cases e:(List.range n).find? (mk1 pl id) with
  |none=>
   rw[List.find?_eq_none]at e
   exact absurd h2 (e k (List.mem_range.2 h1))
  |some k=>exact Int.natCast_nonneg k
theorem zq4(pl:List PI)(k:Nat):mk1 pl 0 k=false:=by unfold mk1;simp
theorem MkOk.lt{L:List (Int×Int)}{pl:List PI}(h:MkOk L pl 0){id v:Int}(hv:zJ L id=some v)(n:Nat):v<n↔0<=zU pl id n:=by
 obtain⟨j,rfl,_,q3,q4,q5⟩:=(h id).2 v hv
 rw[za0]
 constructor
 ·intro hh
  exact⟨j,by omega,q4⟩
 ·rintro⟨k,h1,h2⟩
  rcases Nat.lt_or_ge k j with g |g
  ·rw[q5 k (Nat.zero_le _) g]at h2;cases h2
  ·omega
theorem MkOk.none{L:List (Int×Int)}{pl:List PI}(h:MkOk L pl 0){id:Int}(hv:zJ L id=none):zU pl id pl.length<0:=by
 rcases Int.lt_or_le (zU pl id pl.length) 0 with g |g
 ·exact g
 ·obtain⟨k,h1,h2⟩:=za0.1 g
  rw[(h id).1 hv k (Nat.zero_le _) h1]at h2
  cases h2
theorem MkOk.some{L:List (Int×Int)}{pl:List PI}(h:MkOk L pl 0){id v:Int}(hv:zJ L id=some v):0<=zU pl id pl.length:=by
 obtain⟨j,_,_,q3,q4,_⟩:=(h id).2 v hv
 exact za0.2 ⟨j,q3,q4⟩
def zK(pl:List PI)(n:Nat):List Int:=idsP (ix pl n).2.1 (ix pl n).2.2.2
def fltP(pl:List PI)(n:Nat):Int:=
 if 0<=zU pl (ix pl n).2.2.1 n then 90
 else if (zK pl n).any (λid=>decide (zU pl id pl.length<0))=true then 91
 else if zt (ix pl n)=7/\(zK pl n).any (λid=>decide (zU pl id n<0))=true then 92 else 0
def yc(bound:Int)(pl:List PI):Int×Nat:=if (layP bound pl).1≠0 then layP bound pl else match (List.range pl.length).find? (λk=>fltP pl k !=0) with
 |some k=>(fltP pl k,k)
 |none=>(0,0)
theorem zpE{bound:Int}{pl:List PI}(h:(layP bound pl).1≠0):yc bound pl=layP bound pl:=if_pos h
theorem zjn{bound:Int}{pl:List PI}(h:¬(layP bound pl).1≠0){n:Nat}(hn:n<pl.length)(hj:∀j,j<n->fltP pl j=0)(hf:fltP pl n≠0):yc bound pl=(fltP pl n,n):=by
 unfold yc
 rw[if_neg h,zbI hn (by rw[bne_iff_ne.2 hf]) λj hj'=>by rw[hj j hj'];rfl]
theorem zo6{bound:Int}{pl:List PI}(h:¬(layP bound pl).1≠0)(hj:∀j,j<pl.length->fltP pl j=0):yc bound pl=(0,0):=by
 unfold yc
 have:(List.range pl.length).find? (λk=>fltP pl k !=0)=none:=by
  rw[List.find?_eq_none]
  intro j hj'
  rw[hj j (List.mem_range.1 hj')]
  simp
 rw[if_neg h,this]
theorem zkZ{α:Type}{l:List α}{p:α->Bool}{k:Nat}(hk:k<l.length)(h:p l[k]=true):l.any p=true:=List.any_eq_true.2 ⟨l[k],List.getElem_mem hk,h⟩
theorem zjh{α:Type}{l:List α}{p:α->Bool}(h:∀k (hk:k<l.length),p l[k]=false):l.any p=false:=by
 cases e:l.any p
 ·rfl
 ·obtain⟨x,h1,h2⟩:=List.any_eq_true.1 e
  obtain⟨k,hk,rfl⟩:=List.mem_iff_getElem.1 h1
  rw[h k hk]at h2
  cases h2
end Go.Proofs
namespace Go.Proofs
open Go.Gk Go.RowKit Go.Gm
theorem zInt:∃i,Tryz.prog.info? 3=some i/\i.zero=some (.int .i64 0):=⟨Tryz.t3,by kernel_rfl,rfl⟩
section
variable {x:Mo} {pl:List PI} {w:World} {R:VWP}
theorem ziU(hN:IsPl w x.2.2.1 pl)(hp:PlOk pl)(hR:∀w',Below w.heap.size w w'->R (.agg #[.int .i64 (yc x.2.1 pl).1,.int .i64 ((yc x.2.1 pl).2:Int)]) w') :
  cR 32 #[moA x] w R:=by
 refine zc.of (ziF x R w ?_) λ_ _ h=>h
 refine zl λw1 hB1 b1 z1=>?_
 have hB1:Blk w1 w.heap.size 25 (moV x):=hB1
 refine zl λw2 hC2 b2 z2=>?_
 have hC2:Blk w2 w1.heap.size 29 [.int .i64 0,.int .i64 0]:=hC2
 have hb2:=b1.on b2
 have s1:=b1.size
 have hlen:=hN.len
 have h40:=hp.len
 refine Mo.load (hB1.below b2) ?_
 refine zne (x:=x) (hN.below hb2) hp λy w3 b3 hP=>⟨y,((layP x.2.1 pl).1,((layP x.2.1 pl).2:Int),()),rfl,?_⟩
 refine zl λw4 hY4 b4 z4=>?_
 refine zl λw5 hE5 b5 z5=>?_
 have hE5:Blk w5 w4.heap.size 29 [.int .i64 0,.int .i64 0]:=hE5
 refine st20 (x:=y) (hY4.below b5) rfl λw25 hY25 c25=>?_
 refine st2 (c25.blk hE5 (by omega)) rfl λw27 hE27 c27=>?_
 have hY27:=c27.blk hY25 (by omega)
 have b327:Below w3.heap.size w3 w27:=c27.below (c25.below (b4.on b5) (Nat.le_refl _)) (by omega)
 have b227:=b3.on b327
 have hb27:=hb2.on b227
 have hB27:=(hB1.below b2).below b227
 have hC27:=hC2.below b227
 have out:∀{w':World} {a b:Int},Below w27.heap.size w27 w'->(yc x.2.1 pl).1=a->(((yc x.2.1 pl).2:Nat):Int)=b->Wr w' (blk w1.heap.size)/\Nw (w'.setCell (blk w1.heap.size) (.int .i64 a)) λw7=>Wr w7 ((blk w1.heap.size).add 1)/\
   Nw (w7.setCell ((blk w1.heap.size).add 1) (.int .i64 b)) λw8=>ldI w8 ((blk w1.heap.size).add 0) .i64 λx9=>ldI w8 ((blk w1.heap.size).add 1) .i64 λx10=>R (.agg #[(.int .i64 x9),(.int .i64 x10)]) w8:=by
  intro w' a b hb e1 e2
  subst e1 e2
  exact st2 (hC27.below hb) rfl λw8 h8 c8=>Sp.load h8 (hR w8 (c8.below (hb27.on hb) (by omega)))
 refine hE27.rI0 rfl (zF (λe=>?_) (λe=>?_))
 ·have e':(layP x.2.1 pl).1≠0:=e
  have hl:=zpE e'
  exact Sp.load hE27 (out (Below.refl _ _) (by rw[hl]) (by rw[hl]))
 have e0:(layP x.2.1 pl).1=0:=e
 have e':¬(layP x.2.1 pl).1≠0:=λh=>h e
 obtain⟨hPT,hG⟩:=hP e0
 obtain⟨q1,q2,q3,q4⟩:=hPT 7 (by omega)
 generalize hfr:(l20 y).getD (2*7) 0=from_ at q1 q2 q4
 generalize hto:(l20 y).getD (2*7+1) 0=to_ at q2 q3 q4
 refine hB27.rS (n:=2) (x:=x.2.2.1) rfl ?_
 refine zmt (hN.below hb27) λw30 L hM30 hMk hKN b30=>⟨some w27.heap.size,rfl,⟨by omega,by omega⟩,?_⟩
 have hY30:=hY27.below b30
 refine hY30.rI2 (m:=7*2) (n:=0) (x:=from_) (by rw[<-hfr];rfl) (hY30.rI2 (m:=7*2) (n:=1) (x:=to_) (by rw[<-hto];rfl) ?_)
 refine box2 rfl λw33 hG33 b33 z33=>?_
 have b2733:=b30.on b33
 have hM33:=hM30.below b33
 have hB33:=hB27.below b2733
 refine hB33.rS (n:=2) (x:=x.2.2.1) rfl ?_
 refine zj.count pl.length hN.bound (λk w'=>Below w33.heap.size w33 w'/\∀j,j<k->fltP pl j=0) ⟨Below.refl _ _,λj hj=>by omega⟩ ?_
 rintro k w34 hk ⟨hb34,hj⟩ next hnext
 have hb2734:=b2733.on hb34
 have hN34:=hN.below (hb27.on hb2734)
 refine zg (λh=>?_) (λh=>?_)
 ·have hlt:k<pl.length:=by dsimp only at h;omega
  have eix:pl[k]=ix pl k:=(yr hlt).symm
  refine zk.cut (λ_ w'=>Below w33.heap.size w33 w'/\fltP pl k=0) ?_ ?_
  ·refine zbF hN34 hlt λt ht=>?_
   refine box4 rfl λw39 h39 b39 z39=>?_
   have h39:Blk w39 w34.heap.size 50 (inV (mkIn pl[k] t)):=h39
   have hb39:=hb34.on b39
   refine zk.cut (λ_ w'=>w'=w39/\¬0<=zU pl (ix pl k).2.2.1 k) ?_ ?_
   ·refine h39.rI (n:=2) rfl (zF (λe1=>?_) (λe1=>⟨rfl,λg=>?_⟩))
    ·have e1:pl[k].2.2.1≠0:=e1
     refine h39.rI (n:=2) rfl (zqv zh5 uU32 zInt (hM33.below hb39) ?_)
     have hmk:mk1 pl (ix pl k).2.2.1 k=true:=by unfold mk1;rw[<-eix,zm hlt,beq_self_eq_true,bne_iff_ne.2 e1];rfl
     cases hl:zJ L pl[k].2.2.1 with
     |none=>
      have:=(hMk pl[k].2.2.1).1 hl k (Nat.zero_le _) hlt
      rw[<-eix]at hmk
      rw[hmk]at this
      cases this
     |some v=>
      have hv:=hMk.lt hl k
      rw[eix]at hv
      refine zg (λh=>?_) (λh=>⟨rfl,λg=>h (hv.2 g)⟩)
      have hf:fltP pl k=90:=by unfold fltP;rw[if_pos (hv.1 h)]
      have hb:=zjn e' hlt hj (by rw[hf];decide)
      exact out (b2733.on hb39) (by rw[hb,hf]) (by rw[hb])
    ·have e1:pl[k].2.2.1=0:=e1
     rw[<-eix,e1]at g
     obtain⟨j,_,h2⟩:=za0.1 g
     rw[zq4]at h2
     cases h2
   ·rintro _ w42 ⟨rfl,n90⟩
    refine Ins.load h39 ?_
    have hfl:fltP pl k=if (zK pl k).any (λid=>decide (zU pl id pl.length<0))=true then 91 else if zt (ix pl k)=7/\(zK pl k).any (λid=>decide (zU pl id k<0))=true then 92 else 0:=by
     unfold fltP;rw[if_neg n90]
    refine zg0 (x:=mkIn pl[k] t) (ht.below b39) (hp.args _ (List.getElem_mem hlt)) λr w43 hO hF b43=>⟨r,rfl,?_⟩
    have hO:Own w43 22 1 r ((zK pl k).map (Value.int .u32)):=by unfold zK;rw[<-eix];exact hO
    generalize zK pl k=ids at hO hfl
    have hI:=hO.isS
    have hrl:=hI.len
    have hib:=hI.bound
    have hb43:=hb39.on b43
    refine zj.ghost (λj (st:Bool×Int×Unit) w'=>∃(i:Nat),j=ids.length-i/\i<=ids.length/\w'=w43/\st.2.1=(i:Int)/\(∀q (hq:q<ids.length),q<i->0<=zU pl ids[q] pl.length)/\(st.1=true↔∃q,∃hq:q<ids.length,q<i/\zU pl ids[q] k<0)) ids.length
     ⟨0,rfl,Nat.zero_le _,rfl,rfl,λq hq h=>by omega,⟨λh=>(by cases h),λ⟨q,hq,h,_⟩=>by omega⟩⟩ ?_
    rintro _ ⟨ah,_,_⟩ w44 ⟨i,rfl,hi,hw,e2,hmd,hah⟩ next2 hnext2
    dsimp only at e2 hah
    subst hw e2
    refine zg (λh=>?_) (λh=>?_)
    ·have hil:i<ids.length:=by dsimp only at h;omega
     refine zk.cut (λ(st:Bool×Unit) w'=>w'=w44/\0<=zU pl ids[i] pl.length/\(st.1=true↔ah=true\/zU pl ids[i] k<0)) ?_ ?_
     ·refine zar hI hil (zk9 zh5 uU32 zInt (hM33.below hb43) ?_)
      cases hl:zJ L ids[i] with
      |none=>
       refine zG rfl ?_
       have hf:fltP pl k=91:=by rw[hfl,if_pos (zkZ hil (decide_eq_true (hMk.none hl)))]
       have hb:=zjn e' hlt hj (by rw[hf];decide)
       exact out (b2733.on hb43) (by rw[hb,hf]) (by rw[hb])
      |some v=>
       refine zD rfl ?_
       have hv:=hMk.lt hl k
       refine zo (λhat=>⟨rfl,hMk.some hl,⟨λ_=>.inl hat,λ_=>rfl⟩⟩) (λhaf=>⟨rfl,hMk.some hl,?_⟩)
       show(decide (v≥(k:Int))=true↔_)
       have haf:ah=false:=haf
       rw[haf]
       constructor
       ·intro g
        have:=of_decide_eq_true g
        right
        rcases Int.lt_or_le (zU pl ids[i] k) 0 with q |q
        ·exact q
        ·have:=hv.2 q;omega
       ·rintro(g |g)
        ·cases g
        ·refine decide_eq_true ?_
         rcases Int.lt_or_le v k with q |q
         ·have:=hv.1 q;omega
         ·exact q
     ·rintro⟨ah',_⟩ w47 ⟨hw,hmi,hah'⟩
      dsimp only at hah'⊢
      subst hw
      rw[zv (by omega)]
      refine hnext2 (ids.length-(i+1)) _ _ (by omega) ⟨i+1,rfl,hil,rfl,rfl,λq hq h=>?_,?_⟩
      ·by_cases eq:q=i
       ·subst eq;exact hmi
       ·exact hmd q hq (by omega)
      ·dsimp only
       rw[hah',hah]
       constructor
       ·rintro(⟨q,hq,h1,h2⟩ |g)
        ·exact⟨q,hq,by omega,h2⟩
        ·exact⟨i,hil,by omega,g⟩
       ·rintro⟨q,hq,h1,h2⟩
        by_cases eq:q=i
        ·subst eq;exact .inr h2
        ·exact .inl ⟨q,hq,by omega,h2⟩
    ·have hil:i=ids.length:=by dsimp only at h;omega
     subst hil
     have n91:¬ids.any (λid=>decide (zU pl id pl.length<0))=true:=by
      rw[zjh (p:=λid=>decide (zU pl id pl.length<0)) λq hq=>decide_eq_false (by have:=hmd q hq hq;omega)]
      decide
     rw[if_neg n91]at hfl
     have hany:ids.any (λid=>decide (zU pl id k<0))=ah:=by
      rw[Bool.eq_iff_iff,hah]
      constructor
      ·intro g
       obtain⟨y',y1,y2⟩:=List.any_eq_true.1 g
       obtain⟨q,hq,rfl⟩:=List.mem_iff_getElem.1 y1
       exact⟨q,hq,hq,of_decide_eq_true y2⟩
      ·rintro⟨q,hq,_,h2⟩
       exact zkZ hq (decide_eq_true h2)
     rw[hany]at hfl
     have hq4:=q4 k hlt
     have hG44:=hG33.below hb43
     refine zk.cut (λ_ w'=>w'=w44/\zt (ix pl k)=7/\ah=true) ?_ ?_
     ·refine zM (zo (λhat=>?_) (λhaf=>⟨hb43,by have haf:ah=false:=haf;rw[hfl,if_neg (λg=>by rw[haf]at g;cases g.2)]⟩))
      refine hG44.rI0 rfl (zg (λh1=>⟨hb43,?_⟩) (λh1=>?_))
      ·rw[hfl,if_neg (λg=>by have:=hq4.2 g.1;dsimp only at h1;omega)]
      ·refine hG44.rI (n:=1) rfl (zg (λh2=>⟨hb43,?_⟩) (λh2=>⟨rfl,hq4.1 ⟨by dsimp only at h1;omega,by dsimp only at h2;omega⟩,hat⟩))
       rw[hfl,if_neg (λg=>by have:=hq4.2 g.1;dsimp only at h2;omega)]
     ·rintro _ w48 ⟨rfl,g1,g2⟩
      have hf:fltP pl k=92:=by rw[hfl,if_pos ⟨g1,g2⟩]
      have hb:=zjn e' hlt hj (by rw[hf];decide)
      exact out (b2733.on hb43) (by rw[hb,hf]) (by rw[hb])
  ·rintro _ w51 ⟨hb51,hf⟩
   refine hnext w51 hlt ⟨hb51,λj hjk=>?_⟩
   by_cases ej:j=k
   ·subst ej;exact hf
   ·exact hj j (by omega)
 ·have hk':k=pl.length:=by dsimp only at h;omega
  have hg:=zo6 e' (λj hj'=>hj j (by omega))
  exact out hb2734 (by rw[hg]) (by rw[hg];rfl)
end
end Go.Proofs
namespace Go.Proofs
open Go.Gk Go.RowKit Go.Gm
def Zi(g:Int->Int)(a:Ag):Ag:=if a.1=1 then(a.1,g a.2.1,a.2.2) else a
def Z9(g:Int->Int)(p:PI):PI:=(p.1,g p.2.1,g p.2.2.1,p.2.2.2.map (Zi g))
def zp(g:Int->Int)(pl:List PI):List PI:=pl.map (Z9 g)
theorem zfd{bd:Int}{pl:List PI}(h:(yc bd pl).1=0):yc bd pl=(0,0)/\(layP bd pl).1=0/\∀k,k<pl.length->fltP pl k=0:=by
 unfold yc at h⊢
 by_cases h1:(layP bd pl).1≠0
 ·rw[if_pos h1]at h;exact absurd h h1
 ·rw[if_neg h1]at h⊢
  have h1:(layP bd pl).1=0:=Classical.not_not.1 h1
  cases hf:(List.range pl.length).find? (λk=>fltP pl k !=0) with
  |none=>
   refine⟨rfl,h1,λk hk=>?_⟩
   have:=List.find?_eq_none.1 hf k (List.mem_range.2 hk)
   simpa using this
  |some k=>
   rw[hf]at h
   have:=List.find?_some hf
   dsimp only at h
   rw[h]at this
   simp at this
theorem zhX{bd:Int}{pl:List PI}(h:(layP bd pl).1=0):(zs bd pl).1=0:=by
 unfold layP at h
 by_cases h1:(zs bd pl).1≠0
 ·rw[if_pos h1]at h;exact h
 ·exact Classical.not_not.1 h1
theorem zr3{pl:List PI}{k:Nat}(h:fltP pl k=0)(h0:(ix pl k).2.2.1≠0):∀j,j<k->j<pl.length->(ix pl j).2.2.1≠(ix pl k).2.2.1:=by
 intro j hj hl e
 have n90:¬0<=zU pl (ix pl k).2.2.1 k:=by
  intro g
  unfold fltP at h
  rw[if_pos g]at h
  cases h
 refine n90 (za0.2 ⟨j,hj,?_⟩)
 unfold mk1
 rw[show pl.getD j pi0=ix pl j from ?_,e,beq_self_eq_true,bne_iff_ne.2 h0]
 ·rfl
 ·rw[zm hl,yr hl]
theorem zfh{bd:Int}{pl:List PI}(hp:PlOk pl)(h0:0<=bd)(h:(zs bd pl).1=0):∀n∈allP pl,0<=n/\n<bd:=by
 obtain⟨h1,h2⟩:=yN h
 intro n hn
 obtain⟨p,hp',hn⟩:=List.mem_flatMap.1 hn
 obtain⟨k,hk,rfl⟩:=List.getElem_of_mem hp'
 have:=hp.nums _ (List.getElem_mem hk)
 exact(zkx (h2 k hk) (by omega) ⟨this.1.1,this.2.1.1,λx hx=>(this.2.2 x hx).1⟩).1 n hn
theorem zfo{pl:List PI}{k:Nat}(hk:k<pl.length):pl[k].2.1∈allP pl/\pl[k].2.2.1∈allP pl/\∀a∈pl[k].2.2.2,a.1=1->a.2.1∈allP pl:=by
 have hm:∀{n},n∈allI pl[k]->n∈allP pl:=λh=>List.mem_flatMap.2 ⟨_,List.getElem_mem hk,h⟩
 refine⟨hm (by simp[allI]),hm (by simp[allI]),λa ha h1=>hm ?_⟩
 simp only[allI,List.mem_cons]
 right;right
 exact List.mem_map.2 ⟨a,List.mem_filter.2 ⟨ha,by simp[h1]⟩,rfl⟩
end Go.Proofs
namespace Go.Proofs
open Go.Gk Go.RowKit Go.Gm
theorem YZ{α:Type}{l:List α}{i:Nat}{d:α}(h:l.length<=i):l.getD i d=d:=by simp[List.getD,h]
theorem zl3(g:Int->Int)(a:Ag):(Zi g a).1=a.1:=by unfold Zi;split<;>rfl
theorem zov(g:Int->Int)(a:Ag):(Zi g a).2.2=a.2.2:=by unfold Zi;split<;>rfl
theorem zdn(g:Int->Int){a:Ag}(h:a.1=1):(Zi g a).2.1=g a.2.1:=by unfold Zi;rw[if_pos h]
theorem zh4(g:Int->Int){a:Ag}(h:a.1≠1):Zi g a=a:=by unfold Zi;rw[if_neg h]
theorem zme{g:Int->Int}{must:Bool}{n b b' e:Int}(he:e≠0)(h:idP must n b e=0)(hz:g 0=0)(hg:n≠0->0<g n/\g n<b'):idP must (g n) b' e=0:=by
 unfold idP at h⊢
 by_cases em:must=(n !=0)
 ·have em':must=(g n !=0):=by
   rw[em]
   by_cases h0:n=0
   ·rw[h0,hz]
   ·have:=hg h0
    rw[bne_iff_ne.2 h0,bne_iff_ne.2 (show g n≠0 by omega)]
  rw[if_pos em',if_neg]
  rintro⟨m,hb⟩
  rw[m]at em
  have h0:n≠0:=bne_iff_ne.1 em.symm
  have:=hg h0
  omega
 ·rw[if_neg em]at h
  exact absurd h he
theorem znX{g:Int->Int}{c b b':Int}{a:Ag}(h:ZS c a b=0)(hg:a.1=1->a.2.1≠0->0<g a.2.1/\g a.2.1<b'):ZS c (Zi g a) b'=0:=by
 unfold ZS at h
 by_cases n1:c=0\/a.1≠ZM c
 ·rw[if_pos n1]at h;exact absurd h (by decide)
 rw[if_neg n1]at h
 by_cases n2:(a.1=3/\a.2.1≠0)\/(a.1≠3/\a.2.2.size≠0)
 ·rw[if_pos n2]at h;exact absurd h (by decide)
 rw[if_neg n2]at h
 by_cases n3:a.1=1/\(a.2.1=0\/b<=a.2.1)
 ·rw[if_pos n3]at h;exact absurd h (by decide)
 rw[if_neg n3]at h
 by_cases n4:a.1=4/\zfR c a.2.1=false
 ·rw[if_pos n4]at h;exact absurd h (by decide)
 rw[if_neg n4]at h
 by_cases n5:nul a.2.2=true
 ·rw[if_pos n5]at h;exact absurd h (by decide)
 by_cases e:a.1=1
 ·have h0:a.2.1≠0:=λg0=>n3 ⟨e,.inl g0⟩
  obtain⟨g1,g2⟩:=hg e h0
  unfold Zi ZS
  rw[if_pos e]
  dsimp only
  rw[if_neg n1,if_neg,if_neg,if_neg,if_neg n5]
  ·rintro⟨q,_⟩;omega
  ·rintro⟨_,q⟩;omega
  ·rintro(⟨q,_⟩ |q)
   ·omega
   ·exact n2 (.inr q)
 ·rw[zh4 g e]
  unfold ZS
  rw[if_neg n1,if_neg n2,if_neg (λq=>e q.1),if_neg n4,if_neg n5]
theorem zrl{c b:Int}{a:Ag}(h:ZS c a b=0)(e:a.1=1):a.2.1≠0:=by
 intro h0
 unfold ZS at h
 by_cases n1:c=0\/a.1≠ZM c
 ·rw[if_pos n1]at h;exact absurd h (by decide)
 rw[if_neg n1]at h
 by_cases n2:(a.1=3/\a.2.1≠0)\/(a.1≠3/\a.2.2.size≠0)
 ·rw[if_pos n2]at h;exact absurd h (by decide)
 rw[if_neg n2,if_pos ⟨e,.inl h0⟩]at h
 exact absurd h (by decide)
theorem zo9(g:Int->Int)(a:Ag):cost (Zi g a)=cost a:=by unfold cost;rw[zl3,zov]
theorem znl(g:Int->Int)(al:List Ag)(k:Nat):zeg (al.map (Zi g)) k=zeg al k:=by
 unfold zeg
 rw[<-List.map_take,List.map_map]
 congr 1
 exact List.map_congr_left λa _=>zo9 g a
theorem zjL(g:Int->Int)(f:Fl)(al:List Ag):zbP f (al.map (Zi g))=zbP f al:=by
 unfold zbP;rw[List.length_map,znl]
theorem znP(g:Int->Int)(p:PI):zeS (Z9 g p)=zeS p:=by
 unfold zeS Z9
 dsimp only
 cases frm p.1 with
 |none=>rfl
 |some f=>exact zjL g f _
theorem zo3{f:Fl}{al:List Ag}{b:Int}{k:Nat}(h:∀j,j<k->werr f al b j=0):argK f al b k=0:=by
 unfold argK
 have:(List.range k).find? (λj=>werr f al b j !=0)=none:=by
  rw[List.find?_eq_none]
  intro j hj
  rw[h j (List.mem_range.1 hj)]
  simp
 rw[this]
theorem ZA{p:PI}{b:Int}(h:yp p b=0):∃f,frm p.1=some f/\idP f.ty p.2.1 b 40=0/\idP f.re p.2.2.1 b 41=0/\(∀j,j<p.2.2.2.length->werr f p.2.2.2 b j=0)/\
  ZR f p.2.2.2.length=true/\zbP f p.2.2.2<=65535:=by
 unfold yp at h
 cases hf:frm p.1 with
 |none=>rw[ze9 hf]at h;cases h
 |some f=>
  rw[zcx hf]at h
  unfold zdw at h
  by_cases e1:errK f p.2.1 p.2.2.1 p.2.2.2 b p.2.2.2.length≠0
  ·rw[if_pos e1]at h;exact absurd h e1
  rw[if_neg e1]at h
  obtain⟨q1,q2,q3⟩:=zgW (Classical.not_not.1 e1)
  by_cases e2:ZR f p.2.2.2.length=false
  ·rw[if_pos e2]at h;exact absurd h (by decide)
  rw[if_neg e2]at h
  by_cases e3:65535<zbP f p.2.2.2
  ·rw[if_pos e3]at h;exact absurd h (by decide)
  exact⟨f,rfl,q1,q2,zgU q3,by simpa using e2,by omega⟩
theorem zpS{p:PI}{b:Int}{f:Fl}(hf:frm p.1=some f)(h1:idP f.ty p.2.1 b 40=0)(h2:idP f.re p.2.2.1 b 41=0)(h3:∀j,j<p.2.2.2.length->werr f p.2.2.2 b j=0)
  (h4:ZR f p.2.2.2.length=true) (h5:zbP f p.2.2.2<=65535):yp p b=0:=by
 unfold yp
 rw[zcx hf]
 unfold zdw errK
 rw[h1,h2,zo3 h3,h4]
 rw[if_neg (by simp),if_neg (by simp),if_neg (by omega)]
theorem znq{g:Int->Int}{p:PI}{b b':Int}(h:yp p b=0)(hz:g 0=0)(hg:∀n∈allI p,n≠0->0<g n/\g n<b'):yp (Z9 g p) b'=0:=by
 obtain⟨f,hf,h1,h2,h3,h4,h5⟩:=ZA h
 refine zpS (p:=Z9 g p) (f:=f) hf (zme (by decide) h1 hz (hg _ (by simp[allI]))) (zme (by decide) h2 hz (hg _ (by simp[allI]))) (λj hj=>?_) ?_ ?_
 ·have hj:j<p.2.2.2.length:=by simpa[Z9] using hj
  have hw:=h3 j hj
  unfold werr at hw⊢
  unfold Z9
  dsimp only
  rw[zm (by rw[List.length_map];exact hj),List.getElem_map]
  rw[zm hj]at hw
  refine znX hw λe=>hg _ ?_
  simp only[allI,List.mem_cons]
  right;right
  exact List.mem_map.2 ⟨_,List.mem_filter.2 ⟨List.getElem_mem hj,by simp[e]⟩,rfl⟩
 ·unfold Z9;dsimp only;rw[List.length_map];exact h4
 ·unfold Z9;dsimp only;rw[zjL];exact h5
theorem zrg:(match frm 59 with |some f=>ZM (letP f 0:Int) |none=>0)=4:=by decide +kernel
theorem zpd{g:Int->Int}{p:PI}{b:Int}(h:yp p b=0):zt (Z9 g p)=zt p:=by
 obtain⟨f,hf,_,_,h3,_,_⟩:=ZA h
 have:zfU (Z9 g p)=zfU p:=by
  unfold zfU Z9
  dsimp only
  by_cases e:p.1=59
  ·cases hl:p.2.2.2 with
   |nil=>rfl
   |cons a r=>
    have hw:=h3 0 (by rw[hl];simp)
    unfold werr at hw
    rw[hl]at hw
    have hk:=(Y0 hw).2
    have hv:=zrg
    rw[e]at hf
    rw[hf]at hv
    have hv:ZM (letP f 0:Int)=4:=hv
    have hk:a.1=ZM (letP f 0:Int):=hk
    rw[List.map_cons]
    dsimp only
    rw[zh4 g (show a.1≠1 by rw[hk,hv];decide)]
  ·rw[beq_eq_false_iff_ne.2 e]
   rfl
 unfold zt
 rw[this]
 rfl
structure zx (g:Int->Int) (pl:List PI) (b':Int):Prop where
 zero:g 0=0
 rng:∀n∈allP pl,n≠0->0<g n/\g n<b'
 inj:∀m∈allP pl,∀n∈allP pl,g m=g n->m=n
 pos:0<b'/\b'<=65536
theorem y7(g:Int->Int)(pl:List PI):(zp g pl).length=pl.length:=List.length_map _
theorem zeO{p:PI}{pl:List PI}(hp:p∈pl){n:Int}(h:n∈allI p):n∈allP pl:=List.mem_flatMap.2 ⟨p,hp,h⟩
theorem Yq{g:Int->Int}(hz:g 0=0)(pl:List PI)(k:Nat):ix (zp g pl) k=Z9 g (ix pl k):=by
 by_cases hk:k<pl.length
 ·rw[ix,zm (by rw[y7];exact hk),yr hk]
  unfold zp
  rw[List.getElem_map]
 ·unfold ix
  rw[YZ (by rw[y7];omega),YZ (by omega)]
  unfold Z9
  rw[hz]
  rfl
theorem zrs{pl ql:List PI}(hl:pl.length=ql.length)(h1:∀k,(ix pl k).1=(ix ql k).1)(h2:∀k,zt (ix pl k)=zt (ix ql k)):chkP pl=chkP ql:=by
 have hm:∀n,mdlP pl n=mdlP ql n:=λn=>by unfold mdlP;simp only[h2]
 have ho:∀n,zfY pl n=zfY ql n:=λn=>by unfold zfY;simp only[h2]
 have ha:∀n,zX pl n=zX ql n:=λn=>by cases n with
  |zero=>rfl
  |succ n=>simp only[zX,h1,h2]
 have hf:∀n,Yt pl n=Yt ql n:=λn=>by
  induction n with
  |zero=>rfl
  |succ n ih=>simp only[Yt,h1,ih]
 have hy:(λk=>!mayP pl k)=λk=>!mayP ql k:=funext λn=>by unfold mayP;rw[ho,hm,h2,h1,ha,hf]
 have hop:zaK pl=zaK ql:=by unfold zaK;rw[hm,hl,h1,h2]
 unfold chkP
 rw[hy,hl,hop]
theorem zsx{bound:Int}{pl:List PI}(h:(zs bound pl).1=0):totP pl pl.length<=1048576:=by
 cases hl:pl.length with
 |zero=>simp[totP]
 |succ n=>
  unfold zs at h
  split at h
  ·cases h
  ·split at h
   ·dsimp only at h
    split at h
    ·rename_i hf;exact absurd h hf
    ·cases h
   ·rename_i hn
    have:=List.find?_eq_none.1 hn n (List.mem_range.2 (by omega))
    unfold badI at this
    simp only[Bool.or_eq_true,not_or,decide_eq_true_eq]at this
    omega
theorem zpq(pl:List PI){a b:Nat}(h:a<=b)(hb:b<=pl.length):totP pl a<=totP pl b:=by
 induction b with
 |zero=>
      have:a=0:=by omega
      subst this;exact Nat.le_refl _
 |succ b ih=>
  by_cases e:a=b+1
  ·subst e;exact Nat.le_refl _
  ·have:=ih (by omega) (by omega)
   rw[zkN (by omega)]
   omega
theorem zpr(g:Int->Int)(pl:List PI)(k:Nat):totP (zp g pl) k=totP pl k:=by
 unfold totP zp
 rw[<-List.map_take,List.map_map]
 congr 2
 exact List.map_congr_left λp _=>znP g p
section
variable {g:Int->Int} {pl:List PI} {b b':Int}
theorem zx.fault(h:zx g pl b')(hs:(zs b pl).1=0):∀k,k<pl.length->yp (ix (zp g pl) k) b'=0:=by
 intro k hk
 rw[Yq h.zero]
 have hf:=(yN hs).2 k hk
 rw[yr hk]
 exact znq hf h.zero λn hn=>h.rng n (zeO (List.getElem_mem hk) hn)
theorem zx.shape(h:zx g pl b')(hs:(zs b pl).1=0):zs b' (zp g pl)=(0,0):=by
 have hb:=h.pos
 refine zjP (by omega) λj hj=>?_
 have hj':j<pl.length:=by rwa[y7]at hj
 refine zjj hj ?_ ?_
 ·have:=h.fault hs j hj'
  rwa[yr hj]at this
 ·rw[zpr]
  have:=zpq pl (a:=j+1) (b:=pl.length) (by omega) (Nat.le_refl _)
  have:=zsx hs
  omega
theorem zx.part(h:zx g pl b')(hs:(zs b pl).1=0)(k:Nat):zt (ix (zp g pl) k)=zt (ix pl k):=by
 rw[Yq h.zero]
 by_cases hk:k<pl.length
 ·exact zpd (b:=b) (by rw[yr hk];exact(yN hs).2 k hk)
 ·have:ix pl k=pi0:=YZ (by omega)
  rw[this]
  unfold Z9
  rw[h.zero]
  rfl
theorem zx.chk(h:zx g pl b')(hs:(zs b pl).1=0):chkP (zp g pl)=chkP pl:=
 zrs (y7 g pl) (λk=>by rw[Yq h.zero];rfl) (h.part hs)
theorem zx.iff0(h:zx g pl b'){n:Int}(hn:n∈allP pl\/n=0):g n=0↔n=0:=by
 constructor
 ·intro e
  rcases hn with hn |hn
  ·refine Classical.byContradiction λh0=>?_
   have:=h.rng n hn h0
   omega
  ·exact hn
 ·intro e;rw[e,h.zero]
theorem zx.eq(h:zx g pl b'){m n:Int}(hm:m∈allP pl\/m=0)(hn:n∈allP pl\/n=0):g m=g n↔m=n:=by
 constructor
 ·intro e
  rcases hm with hm |hm
  ·rcases hn with hn |hn
   ·exact h.inj m hm n hn e
   ·subst hn;rw[h.zero]at e;exact(h.iff0 (.inl hm)).1 e
  ·subst hm
   rw[h.zero]at e
   exact((h.iff0 hn).1 e.symm).symm
 ·intro e;rw[e]
theorem zd8(pl:List PI)(k:Nat):(ix pl k).2.2.1∈allP pl\/(ix pl k).2.2.1=0:=by
 by_cases hk:k<pl.length
 ·left;rw[yr hk];exact(zfo hk).2.1
 ·right
  have:ix pl k=pi0:=YZ (by omega)
  rw[this]
theorem zx.mk1(h:zx g pl b'){id:Int}(hid:id∈allP pl\/id=0)(k:Nat):Go.Proofs.mk1 (zp g pl) (g id) k=Go.Proofs.mk1 pl id k:=by
 unfold Go.Proofs.mk1
 rw[show(zp g pl).getD k pi0=ix (zp g pl) k from rfl,show pl.getD k pi0=ix pl k from rfl,Yq h.zero]
 unfold Z9
 dsimp only
 rw[Bool.eq_iff_iff]
 simp only[Bool.and_eq_true,beq_iff_eq,bne_iff_ne,ne_eq]
 rw[h.eq (zd8 pl k) hid,h.iff0 hid]
theorem zx.maker(h:zx g pl b'){id:Int}(hid:id∈allP pl\/id=0)(n:Nat):zU (zp g pl) (g id) n=zU pl id n:=by
 unfold zU
 rw[show Go.Proofs.mk1 (zp g pl) (g id)=Go.Proofs.mk1 pl id from funext (h.mk1 hid)]
theorem zr7{p:PI}{n:Int}(h:n∈idsP p.2.1 p.2.2.2):n∈allI p:=by
 unfold idsP idsN at h
 rw[List.take_length]at h
 rcases List.mem_append.1 h with h |h
 ·split at h
  ·cases h
  ·rw[List.mem_singleton.1 h];simp[allI]
 ·simp only[allI,List.mem_cons]
  exact .inr (.inr h)
theorem zji{k:Nat}{n:Int}(h:n∈zK pl k):n∈allP pl\/n=0:=by
 unfold zK at h
 by_cases hk:k<pl.length
 ·rw[yr hk]at h
  exact .inl (zeO (List.getElem_mem hk) (zr7 h))
 ·have:ix pl k=pi0:=YZ (by omega)
  rw[this]at h
  cases h
theorem zhE(g:Int->Int):∀al:List Ag,(((al.map (Zi g)).filter λa=>a.1==1).map (·.2.1))=(((al.filter λa=>a.1==1).map (·.2.1)).map g)
 | []=>rfl
 |a::al=>by
  rw[List.map_cons,List.filter_cons,List.filter_cons,zl3]
  by_cases e:a.1=1
  ·rw[if_pos (beq_iff_eq.2 e),if_pos (beq_iff_eq.2 e),List.map_cons,List.map_cons,List.map_cons,zhE g al,zdn g e]
  ·rw[if_neg (λq=>e (beq_iff_eq.1 q)),if_neg (λq=>e (beq_iff_eq.1 q)),zhE g al]
theorem zx.ids(h:zx g pl b')(k:Nat):zK (zp g pl) k=(zK pl k).map g:=by
 have hty:(ix pl k).2.1∈allP pl\/(ix pl k).2.1=0:=by
  by_cases hk:k<pl.length
  ·left;rw[yr hk];exact(zfo hk).1
  ·right
   have:ix pl k=pi0:=YZ (by omega)
   rw[this]
 unfold zK
 rw[Yq h.zero]
 unfold Z9 idsP idsN
 dsimp only
 rw[List.take_length,List.take_length,List.map_append,zhE]
 congr 1
 by_cases e:(ix pl k).2.1=0
 ·rw[if_pos e,if_pos (by rw[e,h.zero])];rfl
 ·rw[if_neg e,if_neg (λq=>e ((h.iff0 hty).1 q))];rfl
theorem Yh{α β:Type}{l:List α}{f:α->β}{p:β->Bool}{q:α->Bool}(h:∀x∈l,p (f x)=q x):(l.map f).any p=l.any q:=by
 induction l with
 |nil=>rfl
 |cons x l ih=>rw[List.map_cons,List.any_cons,List.any_cons,h x List.mem_cons_self,ih λy hy=>h y (List.mem_cons_of_mem _ hy)]
theorem zx.flt(h:zx g pl b')(hs:(zs b pl).1=0)(k:Nat):fltP (zp g pl) k=fltP pl k:=by
 unfold fltP
 rw[h.ids,h.part hs,y7]
 rw[Yh (q:=λid=>decide (zU pl id pl.length<0)) λn hn=>by rw[h.maker (zji hn)]]
 rw[Yh (q:=λid=>decide (zU pl id k<0)) λn hn=>by rw[h.maker (zji hn)]]
 have:(ix (zp g pl) k).2.2.1=g (ix pl k).2.2.1:=by rw[Yq h.zero];rfl
 rw[this,h.maker (zd8 pl k)]
theorem zx.chk9(h:zx g pl b')(hs:(zs b pl).1=0):yc b' (zp g pl)=yc b pl:=by
 have hl:layP b' (zp g pl)=layP b pl:=by
  unfold layP
  rw[h.shape hs,h.chk hs,if_neg (by simp),if_neg (by rw[hs];simp)]
 unfold yc
 rw[hl,y7]
 simp only[h.flt hs]
end
structure zkW (bd:Int) (pl:List PI):Prop where
 shape:(zs bd pl).1=0
 lim:0<bd/\bd<=65536
 rng:∀n∈allP pl,0<=n/\n<bd
 new:∀k,k<pl.length->(ix pl k).2.2.1≠0->∀j,j<k->j<pl.length->(ix pl j).2.2.1≠(ix pl k).2.2.1
 made:∀n∈allP pl,n≠0->∃k,k<pl.length/\(ix pl k).2.2.1=n
 ok:yc bd pl=(0,0)
theorem zkW.of{bd:Int}{pl:List PI}(hp:PlOk pl)(h0:0<=bd)(h:(yc bd pl).1=0):zkW bd pl:=by
 obtain⟨c1,c2,c3⟩:=zfd h
 have hs:=zhX c2
 have hbd:=(yN hs).1
 refine⟨hs,by omega,zfh hp h0 hs,λk hk h0=>zr3 (c3 k hk) h0,λn hn h0=>?_,c1⟩
 obtain⟨p,hp',hn⟩:=List.mem_flatMap.1 hn
 obtain⟨k,hk,rfl⟩:=List.getElem_of_mem hp'
 have hr:n=pl[k].2.2.1\/n∈zK pl k:=by
  unfold zK idsP idsN
  rw[yr hk,List.take_length]
  simp only[allI,List.mem_cons]at hn
  rcases hn with e |e |e
  ·right
   refine List.mem_append_left _ ?_
   rw[if_neg (by rw[<-e];exact h0),e]
   exact List.mem_singleton.2 rfl
  ·exact .inl e
  ·right
   exact List.mem_append_right _ e
 rcases hr with e |e
 ·exact⟨k,hk,by rw[yr hk,e]⟩
 ·have hf:=c3 k hk
  unfold fltP at hf
  by_cases e1:0<=zU pl (ix pl k).2.2.1 k
  ·rw[if_pos e1]at hf;exact absurd hf (by decide)
  rw[if_neg e1]at hf
  by_cases e2:(zK pl k).any (λid=>decide (zU pl id pl.length<0))=true
  ·rw[if_pos e2]at hf;exact absurd hf (by decide)
  have:0<=zU pl n pl.length:=by
   rcases Int.lt_or_le (zU pl n pl.length) 0 with q |q
   ·exact absurd (List.any_eq_true.2 ⟨n,e,decide_eq_true q⟩) e2
   ·exact q
  obtain⟨j,hj,hm⟩:=za0.1 this
  unfold mk1 at hm
  rw[Bool.and_eq_true]at hm
  exact⟨j,hj,beq_iff_eq.1 hm.1⟩
end Go.Proofs
namespace Go.Proofs
open Go.Gk Go.RowKit Go.Gm
abbrev rngI(n:Nat):List Int:=(List.range n).map λ(k:Nat)=>(k:Int)
theorem znO(n:Nat):(rngI n).Nodup:=by
 refine List.pairwise_map.2 (List.nodup_range.imp λ{a b} h=>?_)
 omega
theorem zq3{n:Nat}{x:Int}:x∈rngI n↔0<=x/\x<n:=by
 constructor
 ·intro h
  obtain⟨k,hk,rfl⟩:=List.mem_map.1 h
  have:=List.mem_range.1 hk
  omega
 ·rintro⟨h1,h2⟩
  exact List.mem_map.2 ⟨x.toNat,List.mem_range.2 (by omega),by omega⟩
structure WayP (bd:Int) (T:List Int):Prop where
 len:(T.length:Int)=bd
 zero:T.getD 0 1=0
 perm:T.Perm (rngI T.length)
noncomputable instance wayD (bd:Int) (T:List Int):Decidable (WayP bd T):=Classical.propDecidable _
noncomputable def wayB(bd:Int)(T:List Int):Bool:=decide (WayP bd T)
theorem zkQ{bd:Int}{T:List Int}(h:WayP bd T):wayB bd T=true:=by unfold wayB;exact decide_eq_true h
theorem zjW{bd:Int}{T:List Int}(h:¬WayP bd T):wayB bd T=false:=by unfold wayB;exact decide_eq_false h
theorem zri{bd:Int}{T:List Int}:wayB bd T=true↔WayP bd T:=by unfold wayB;exact decide_eq_true_iff
theorem WayP.nodup{bd:Int}{T:List Int}(h:WayP bd T):T.Nodup:=h.perm.nodup_iff.2 (znO _)
theorem zjR{T A:List Int}(hp:A.Perm T)(hs:A.Pairwise (·<=·)):T.Perm (rngI T.length)↔∀n (h:n<A.length),A[n]=(n:Int):=by
 constructor
 ·intro h
  have e:A=rngI T.length:=List.Perm.eq_of_pairwise (le:=λ(x y:Int)=>x<=y) (λa b _ _ h1 h2=>Int.le_antisymm h1 h2) hs
   (List.pairwise_map.2 (List.pairwise_lt_range.imp λ{a b} h=>by omega)) (hp.trans h)
  intro n hn
  subst e
  simp
 ·intro h
  refine hp.symm.trans ?_
  have e:A=rngI A.length:=List.ext_getElem (by simp) λn h1 h2=>by rw[h n h1];simp
  rw[<-hp.length_eq]
  rw[e]
  simp
abbrev toG(T:List Int)(n:Int):Int:=T.getD n.toNat 0
theorem WayP.turn{bd:Int}{T:List Int}{pl:List PI}(h:WayP bd T)(hp:PlOk pl)(h0:0<=bd)(hs:(zs bd pl).1=0):zx (toG T) pl bd:=by
 have hb:=(yN hs).1
 have hl:=h.len
 have hr:=zfh hp h0 hs
 have hz:toG T 0=0:=by
  have:=h.zero
  unfold toG
  rw[zm (show(0:Int).toNat<T.length by simp;omega)]
  rw[zm (by omega)]at this
  exact this
 have hin:∀m n:Int,0<=m->m<bd->0<=n->n<bd->toG T m=toG T n->m=n:=by
  intro m n m1 m2 n1 n2 e
  unfold toG at e
  rw[zm (by omega),zm (by omega)]at e
  have:=(List.getElem_inj (h₀:=by omega) (h₁:=by omega) h.nodup).1 e
  omega
 refine⟨hz,λn hn n0=>?_,λm hm n hn e=>?_,by omega⟩
 ·obtain⟨n1,n2⟩:=hr n hn
  have hm:toG T n∈T:=by unfold toG;rw[zm (by omega)];exact List.getElem_mem _
  have:=zq3.1 (h.perm.mem_iff.1 hm)
  have:toG T n≠0:=λe=>n0 (hin n 0 n1 n2 (by omega) (by omega) (by rw[e,hz]))
  omega
 ·obtain⟨n1,n2⟩:=hr n hn
  obtain⟨m1,m2⟩:=hr m hm
  exact hin m n m1 m2 n1 n2 e
end Go.Proofs
namespace Go.Proofs
open Go.Gk Go.RowKit Go.Gm
abbrev Fv:=Int×Int×Sl×Sl×Int×Unit
abbrev fvV(v:Fv):List Value:=[.int .u32 v.1,.int .i64 v.2.1,.slice v.2.2.1.a v.2.2.1.l v.2.2.1.c,.slice v.2.2.2.1.a v.2.2.2.1.l v.2.2.2.1.c,.int .i64 v.2.2.2.2.1]
abbrev fvA(v:Fv):Value:=.agg #[.int .u32 v.1,.int .i64 v.2.1,.slice v.2.2.1.a v.2.2.1.l v.2.2.1.c,.slice v.2.2.2.1.a v.2.2.2.1.l v.2.2.2.1.c,.int .i64 v.2.2.2.2.1]
abbrev IsBk(w:World)(s:Sl)(l:List (Int×Int×Int)):Prop:=IsC 3 blV w s l
structure IsFn (w:World) (v:Fv) (f:FnL):Prop where
 id:v.1=f.id
 at_:v.2.1=f.at_
 ps:IsI w v.2.2.1 f.ps
 bk:IsBk w v.2.2.2.1 f.bk
 en:v.2.2.2.2.1=f.en
noncomputable instance fnD:DecidableEq FnL:=λ_ _=>Classical.propDecidable _
section
variable {w w':World} {v:Fv} {f g:FnL} {R:VWP}
theorem IsFn.below(h:IsFn w v f)(hb:Below w.heap.size w w'):IsFn w' v f:=⟨h.id,h.at_,h.ps.below hb,IsC.below Zj h.bk hb,h.en⟩
theorem Fv.load{b:Nat}{T:TypeId}(h:Blk w b T (fvV v)){φ:Int->Int->Sl->Sl->Int->Prop}(hφ:φ v.1 v.2.1 v.2.2.1 v.2.2.2.1 v.2.2.2.2.1) :
  ldI w ((blk b).add 0) .u32 λx1=>ldI w ((blk b).add 1) .i64 λx2=>ldS w ((blk b).add 2) λx3=>ldS w ((blk b).add 3) λx4=>ldI w ((blk b).add 4) .i64 λx5=>φ x1 x2 x3 x4 x5:=
 h.rI (n:=0) (x:=v.1) rfl (h.rI (n:=1) (x:=v.2.1) rfl (h.rS (n:=2) (x:=v.2.2.1) rfl (h.rS (n:=3) (x:=v.2.2.2.1) rfl (h.rI (n:=4) (x:=v.2.2.2.2.1) rfl hφ))))
theorem Fns.isFn{fs:Sl}{L:List Fe}(h:Fns w fs L){x:Fe}(hx:x∈L):IsFn w (x.1.id,x.1.at_,x.2.1,x.2.2,x.1.en,()) x.1:=
 ⟨rfl,rfl,(h.row x hx).1.isS,Own.isC Zj (by omega) (h.row x hx).2,rfl⟩
theorem zno{fs:Sl}{L:List Fe}(h:Fns w fs L){k:Nat}(hk:k<L.length){φ:Int->Int->Sl->Sl->Int->Prop}(hφ:φ L[k].1.id L[k].1.at_ L[k].2.1 L[k].2.2 L[k].1.en) :
  (0<=(k:Int)/\(k:Int)<(fs.l:Int))/\za fs.a λa=>ldI w ((a.add (Int.toNat (k:Int)*5)).add 0) .u32 λx1=>ldI w ((a.add (Int.toNat (k:Int)*5)).add 1) .i64 λx2=>ldS w ((a.add (Int.toNat (k:Int)*5)).add 2) λx3=>ldS w ((a.add (Int.toNat (k:Int)*5)).add 3) λx4=>ldI w ((a.add (Int.toNat (k:Int)*5)).add 4) .i64 λx5=>φ x1 x2 x3 x4 x5:=by
 have hc:IsC 5 feV w fs L:=Own.isC ziI (by omega) h.own
 obtain⟨a,ha⟩:=hc.base hk
 have hcell:=hc.cell a ha k hk
 refine⟨⟨by omega,by have:=h.len;omega⟩,ze ha ⟨_,?_,_,?_,_,?_,_,?_,_,?_,hφ⟩⟩
 ·rw[zA];exact hcell 0 (by omega)
 ·rw[zA];exact hcell 1 (by omega)
 ·rw[zA];exact hcell 2 (by omega)
 ·rw[zA];exact hcell 3 (by omega)
 ·rw[zA];exact hcell 4 (by omega)
theorem zhK{s:Sl}{l:List (Int×Int×Int)}(h:IsBk w s l){k:Nat}(hk:k<l.length){φ:Int->Int->Int->Prop}(hφ:φ l[k].1 l[k].2.1 l[k].2.2) :
  (0<=(k:Int)/\(k:Int)<(s.l:Int))/\za s.a λa=>ldI w ((a.add (Int.toNat (k:Int)*3)).add 0) .u32 λx=>ldI w ((a.add (Int.toNat (k:Int)*3)).add 1) .i64 λy=>ldI w ((a.add (Int.toNat (k:Int)*3)).add 2) .i64 λz=>φ x y z:=by
 obtain⟨a,ha⟩:=h.base hk
 have hc:=h.cell a ha k hk
 refine⟨⟨by omega,by have:=h.len;omega⟩,ze ha ⟨_,?_,_,?_,_,?_,hφ⟩⟩
 ·rw[zA];exact hc 0 (by omega)
 ·rw[zA];exact hc 1 (by omega)
 ·rw[zA];exact hc 2 (by omega)
theorem zp0{s t:Sl}{l m:List Int}(hs:IsI w s l)(ht:IsI w t m)(hR:∀w',Below w.heap.size w w'->R (.bool (decide (l=m))) w'):cR 71 #[.slice s.a s.l s.c,.slice t.a t.l t.c] w R:=by
 refine zc.of (zbr s t R w ?_) λ_ _ h=>h
 have h1:=hs.len
 have h2:=ht.len
 have no:l≠m->∀{w'},Below w.heap.size w w'->R (.bool false) w':=λh {w'} hb=>by
  have:=hR w' hb
  rwa[decide_eq_false h]at this
 refine zF (λe=>no (λh=>e (by rw[h1,h2,h])) (Below.refl _ _)) (λe=>?_)
 refine zj.count l.length hs.bound (λk w'=>Below w.heap.size w w'/\∀j (q1:j<l.length) (q2:j<m.length),j<k->l[j]=m[j]) ⟨Below.refl _ _,λj _ _ h=>by omega⟩ ?_
 rintro k w1 hk ⟨hb,hj⟩ next hnext
 refine zg (λh=>?_) (λh=>?_)
 ·have hlt:k<l.length:=by dsimp only at h;omega
  have hlm:k<m.length:=by omega
  refine ze7 (hs.below hb.drew) hlt (ze7 (ht.below hb.drew) hlm (zF (λe=>no (λg=>e (by subst g;rfl)) hb.drew) (λe=>hnext _ hlt ⟨hb.drew,λj q1 q2 hjk=>?_⟩)))
  by_cases ej:j=k
  ·subst ej;exact e
  ·exact hj j q1 q2 (by omega)
 ·have hk':k=l.length:=by dsimp only at h;omega
  have:=hR w1 hb
  rwa[decide_eq_true (List.ext_getElem (by omega) λj q1 q2=>hj j q1 q2 (by omega))]at this
theorem zpz{s t:Sl}{l m:List (Int×Int×Int)}(hs:IsBk w s l)(ht:IsBk w t m)(hR:∀w',Below w.heap.size w w'->R (.bool (decide (l=m))) w'):cR 72 #[.slice s.a s.l s.c,.slice t.a t.l t.c] w R:=by
 refine zc.of (ZI s t R w ?_) λ_ _ h=>h
 have h1:=hs.len
 have h2:=ht.len
 have no:l≠m->∀{w'},Below w.heap.size w w'->R (.bool false) w':=λh {w'} hb=>by
  have:=hR w' hb
  rwa[decide_eq_false h]at this
 refine zF (λe=>no (λh=>e (by rw[h1,h2,h])) (Below.refl _ _)) (λe=>?_)
 refine zj.count l.length hs.bound (λk w'=>Below w.heap.size w w'/\∀j (q1:j<l.length) (q2:j<m.length),j<k->l[j]=m[j]) ⟨Below.refl _ _,λj _ _ h=>by omega⟩ ?_
 rintro k w1 hk ⟨hb,hj⟩ next hnext
 refine zg (λh=>?_) (λh=>?_)
 ·have hlt:k<l.length:=by dsimp only at h;omega
  have hlm:k<m.length:=by omega
  refine zhK (IsC.below Zj hs hb.drew) hlt (zhK (IsC.below Zj ht hb.drew) hlm (zM (zo (λe=>hnext _ hlt ⟨hb.drew,λj q1 q2 hjk=>?_⟩) (λe=>no (λg=>?_) hb.drew))))
  ·by_cases ej:j=k
   ·subst ej
    simp only[Bool.and_true,Bool.and_eq_true,beq_iff_eq]at e
    exact Prod.ext e.1 (Prod.ext e.2.1 e.2.2)
   ·exact hj j q1 q2 (by omega)
  ·subst g
   simp at e
 ·have hk':k=l.length:=by dsimp only at h;omega
  have:=hR w1 hb
  rwa[decide_eq_true (List.ext_getElem (by omega) λj q1 q2=>hj j q1 q2 (by omega))]at this
theorem znR{u:Fv}(hf:IsFn w v f)(hg:IsFn w u g)(hR:∀w',Below w.heap.size w w'->R (.bool (decide (f=g))) w'):cR 35 #[fvA v,fvA u] w R:=by
 refine zc.of (zhT v u R w ?_) λ_ _ h=>h
 refine zl λw1 hA1 b1 z1=>?_
 have hA1:Blk w1 w.heap.size 46 (fvV v):=hA1
 refine zl λw2 hB2 b2 z2=>?_
 have hB2:Blk w2 w1.heap.size 46 (fvV u):=hB2
 have hA2:=hA1.below b2
 have hb2:=b1.on b2
 have no:f≠g->∀{w'},Below w.heap.size w w'->R (.bool false) w':=λh {w'} hb=>by
  have:=hR w' hb
  rwa[decide_eq_false h]at this
 refine hA2.rI0 (x:=v.1) rfl (hB2.rI0 (x:=u.1) rfl (zn (λe1=>?_) (λe=>no (λh=>e (by rw[hf.id,hg.id,h])) hb2)))
 refine hA2.rI (n:=1) (x:=v.2.1) rfl (hB2.rI (n:=1) (x:=u.2.1) rfl (zn (λe2=>?_) (λe=>no (λh=>e (by rw[hf.at_,hg.at_,h])) hb2)))
 refine hA2.rI (n:=4) (x:=v.2.2.2.2.1) rfl (hB2.rI (n:=4) (x:=u.2.2.2.2.1) rfl (zn (λe3=>?_) (λe=>no (λh=>e (by rw[hf.en,hg.en,h])) hb2)))
 refine hA2.rS (n:=2) (x:=v.2.2.1) rfl (hB2.rS (n:=2) (x:=u.2.2.1) rfl ?_)
 refine zp0 (hf.ps.below hb2) (hg.ps.below hb2) λw3 b3=>⟨_,rfl,?_⟩
 have hb3:=hb2.on b3
 refine zg (λe4=>?_) (λe=>no (λh=>e (by rw[h])) hb3)
 refine(hA2.below b3).rS (n:=3) (x:=v.2.2.2.1) rfl ((hB2.below b3).rS (n:=3) (x:=u.2.2.2.1) rfl ?_)
 refine zpz (IsC.below Zj hf.bk hb3) (IsC.below Zj hg.bk hb3) λw4 b4=>⟨_,rfl,?_⟩
 have:=hR w4 (hb3.on b4)
 have e:decide (f.bk=g.bk)=decide (f=g):=by
  rw[decide_eq_decide]
  constructor
  ·intro e5
   have q1:=hf.id.symm.trans (e1.trans hg.id)
   have q2:=hf.at_.symm.trans (e2.trans hg.at_)
   have q3:=hf.en.symm.trans (e3.trans hg.en)
   cases f;cases g
   simp_all
  ·intro h;rw[h]
 rw[e]
 exact this
theorem zl7{fs:Sl}{L:List Fe}{vb:Nat}(hL:Fns w fs L)(hV:Blk w vb 46 (fvV v))(hf:IsFn w v f)(hR:∀w',Below w.heap.size w w'->R (.bool (decide (f∈L.map (·.1)))) w') :
  cR 33 #[.slice fs.a fs.l fs.c,.func (.func 34) #[] #[.pointer (some (blk vb))]] w R:=by
 refine zc.of (Zu fs _ R w ?_) λ_ _ h=>h
 refine zc.of (Z6 fs _ _ w ?_) λ_ _ h=>h
 have hl:=hL.len
 have hcap:fs.l<=9223372036854775807:=by
  have hc:IsC 5 feV w fs L:=Own.isC ziI (by omega) hL.own
  have:=hc.bound
  omega
 have hcf:Tryz.fs.contains 34=true:=by kernel_rfl
 refine zj.count L.length (by omega) (λk w'=>Below w.heap.size w w'/\∀j (h:j<L.length),j<k->L[j].1≠f) ⟨Below.refl _ _,λj _ h=>by omega⟩ ?_
 rintro k w1 hk ⟨hb,hj⟩ next hnext
 refine zg (λh=>?_) (λh=>?_)
 ·have hlt:k<L.length:=by dsimp only at h;omega
  refine zno (hL.below hb) hlt ?_
  unfold yE
  simp only[hcf]
  refine zc.of (zhf (L[k].1.id,L[k].1.at_,L[k].2.1,L[k].2.2,L[k].1.en,()) (blk vb) _ w1 ?_) λ_ _ h=>h
  refine zl λw2 hX2 b2 z2=>?_
  have hX2:Blk w2 w1.heap.size 46 (fvV (L[k].1.id,L[k].1.at_,L[k].2.1,L[k].2.2,L[k].1.en,())):=hX2
  have hb2:=hb.on b2
  refine Fv.load hX2 (Fv.load (hV.below hb2) ?_)
  refine znR (((hL.below hb2).isFn (List.getElem_mem hlt))) (hf.below hb2) λw3 b3=>⟨_,rfl,_,rfl,?_⟩
  have hb3:=hb2.on b3
  refine zg (λe=>?_) (λe=>hnext w3 hlt ⟨hb3,λj q1 q2=>?_⟩)
  ·refine⟨_,rfl,?_⟩
   have:=hR w3 hb3
   rw[decide_eq_true (List.mem_map.2 ⟨L[k],List.getElem_mem hlt,e⟩)]at this
   rwa[decide_eq_true (by omega)]
  ·by_cases ej:j=k
   ·subst ej;exact e
   ·exact hj j q1 (by omega)
 ·refine⟨_,rfl,?_⟩
  have:=hR w1 hb
  rw[decide_eq_false (λhm=>by
   obtain⟨x,hx,e⟩:=List.mem_map.1 hm
   obtain⟨j,hj',rfl⟩:=List.getElem_of_mem hx
   exact hj j hj' (by dsimp only at h;omega) e)]at this
  dsimp only[zB,Go.Gk.Sl.zw,zi,zu,zb,zh];rwa[decide_eq_false (by decide)]
end
section
variable {x:Mo} {pl:List PI} {w:World} {R:VWP}
theorem zl8(hN:IsPl w x.2.2.1 pl)(hp:PlOk pl)
  (hok:∀fs L w',(layP x.2.1 pl).1=0->Below w.heap.size w w'->Fns w' fs L->L.map (·.1)=cutF pl pl.length->R (.tuple #[.slice fs.a fs.l fs.c,.agg #[.int .i64 0,.int .i64 0]]) w')
  (hbad:∀w',(layP x.2.1 pl).1≠0->Below w.heap.size w w'->R (.tuple #[.slice none 0 0,.agg #[.int .i64 (layP x.2.1 pl).1,.int .i64 ((layP x.2.1 pl).2:Int)]]) w') :
  cR 13 #[moA x] w R:=by
 refine zc.of (zhY x R w ?_) λ_ _ h=>h
 refine zl λw1 hB1 b1 z1=>?_
 have hB1:Blk w1 w.heap.size 25 (moV x):=hB1
 refine zl λw2 hC2 b2 z2=>?_
 have hC2:Blk w2 w1.heap.size 29 [.int .i64 0,.int .i64 0]:=hC2
 have hb2:=b1.on b2
 refine Mo.load (hB1.below b2) ?_
 refine zkG (x:=x) (hN.below hb2) hp (λbc ps fs L w3 hlay hC3 hP hL hF hcut hg=>⟨some (blk bc),(0,0,()),rfl,?_⟩) (λw3 b3 hne=>⟨none,((layP x.2.1 pl).1,((layP x.2.1 pl).2:Int),()),rfl,?_⟩)
 ·refine box2 rfl λw6 h6 b6 z6=>?_
  have b26:=hC3.b0.on b6
  have hCc:=(hC3.below b6).drew
  have hS6:=(hC2.below b26).drew
  have h6':=h6.drew
  refine zD rfl (ze rfl ?_)
  refine hCc.blk.rS (n:=22) (x:=fs) (zpG hCc.len) ?_
  have s26:=b26.size
  refine Sp.load h6' (st2 hS6 rfl λw8 hS8 c8=>Sp.load hS8 ?_)
  have hL6:Fns w6.drew fs L:=(hL.below b6).below (Below.refl _ _).drew
  exact hok fs L w8 (by rw[hlay]) (c8.below ((hb2.on b26).drew) (by omega)) (hL6.chg c8 hS6 (by decide) (by decide) (by decide)) hcut.symm
 ·refine box2 rfl λw6 h6 b6 z6=>?_
  have b26:=b3.on b6
  have hS6:=(hC2.below b26).drew
  have h6':=h6.drew
  refine zG rfl (Sp.load h6' (st2 hS6 rfl λw8 hS8 c8=>Sp.load hS8 ?_))
  exact hbad w8 hne (c8.below ((hb2.on b26).drew) (by omega))
end
theorem zrV:Tryz.prog.underlying 104=some (.map 22 3):=by kernel_rfl
section
variable {w:World} {R:VWP} {r:Nat} {M:List (Int×Int)}
theorem zjg{s:Sl}{ls:List Int}(hM:IsMp w r .i64 M)(hs:IsS (Value.int .u32) w s ls)(hmax:8*ls.length<=140737488355328)
  (hok:∀t w',(∀n∈ls,(zJ M n).isSome=true)->Own w' 3 1 t ((ls.map λn=>(zJ M n).getD 0).map (Value.int .i64))->zC w.heap.size t->Below w.heap.size w w'->R (.tuple #[.slice t.a t.l t.c,.bool true]) w')
  (hbad:∀w',(∃n∈ls,zJ M n=none)->Below w.heap.size w w'->R (.tuple #[.slice none 0 0,.bool false]) w') :
  cR 37 #[.map (some r),.slice s.a s.l s.c] w R:=by
 refine zc.of (zdz (some r) s R w ?_) λ_ _ h=>h
 have hl:=hs.len
 refine zj.countSl ls.length hs.bound (λk t w'=>Own w' 3 1 t (((ls.take k).map λn=>(zJ M n).getD 0).map (Value.int .i64))/\zC w.heap.size t/\Below w.heap.size w w'/\∀j (h:j<ls.length),j<k->(zJ M ls[j]).isSome=true)
  ⟨Own.nil _ _ _,λa ha=>by(cases ha),Below.refl _ _,λj _ h=>by omega⟩ ?_
 rintro k t w1 hk ⟨hO,hF,hb,hj⟩ next hnext
 refine zg (λh=>?_) (λh=>?_)
 ·have hlt:k<ls.length:=by dsimp only at h;omega
  refine zar (hs.below hb) hlt (zk9 zrV uU32 zInt (hM.below hb) ?_)
  refine zM (zo (λhsome=>?_) (λhnone=>?_))
  ·refine zl λw2 hD2 b2 z2=>?_
   have htl:t.l=k:=by
    have:=hO.1
    rw[List.length_map,List.length_map,List.length_take]at this
    omega
   refine Yx eInt (hO.below b2) (hb.on b2) hF rfl hD2 (by omega) (by omega) λt' w3 hO3 hb3 hF3=>hnext t' w3 hlt ⟨?_,hF3,hb3,λj q1 q2=>?_⟩
   ·rw[List.take_succ_eq_append_getElem hlt,List.map_append,List.map_append]
    exact hO3
   ·by_cases ej:j=k
    ·subst ej;exact hsome
    ·exact hj j q1 (by omega)
  ·have hnone:(zJ M ls[k]).isSome=false:=hnone
   exact hbad w1 ⟨ls[k],List.getElem_mem hlt,by simpa using hnone⟩ hb
 ·have hk':k=ls.length:=by dsimp only at h;omega
  subst hk'
  rw[List.take_length]at hO
  refine hok t w1 (λn hn=>?_) hO hF hb
  obtain⟨j,hj',rfl⟩:=List.getElem_of_mem hn
  exact hj j hj' hj'
def mrgP(M:List (Int×Int))(op:Int)(al:List Ag)(lop:Int):Option Mg:=
 if op=247 then(match zJ M (al.getD 0 ag0).2.1 with
  |some a=>some (if lop=251 then 3 else 1,a,-1)
  |none=>none)
 else if op=246 then(match zJ M (al.getD 0 ag0).2.1,zJ M (al.getD 1 ag0).2.1 with
  |some a,some b=>some (2,a,b)
  |_,_=>none)
 else some (0,-1,-1)
theorem zjC{i last:Ins}{al:List Ag}(hM:IsMp w r .i64 M)(hI:IsAg w i.2.2.2.1 al)(h1:i.1=247->0<al.length)(h2:i.1=246->1<al.length)
  (hR:∀(m:Mg) (b:Bool) w',Below w.heap.size w w'->(b=true->mrgP M i.1 al last.1=some m)->(b=false->mrgP M i.1 al last.1=none)->R (.tuple #[.agg #[.int .u8 m.1,.int .i64 m.2.1,.int .i64 m.2.2],.bool b]) w') :
  cR 36 #[.map (some r),inA i,inA last] w R:=by
 refine zc.of (zc5 (some r) i last R w ?_) λ_ _ h=>h
 refine zl λw1 hA1 b1 z1=>?_
 have hA1:Blk w1 w.heap.size 50 (inV i):=hA1
 refine zl λw2 hB2 b2 z2=>?_
 have hB2:Blk w2 w1.heap.size 50 (inV last):=hB2
 refine zl λw3 hX3 b3 z3=>?_
 have hX3:Blk w3 w2.heap.size 106 [.int .u8 0,.int .i64 0,.int .i64 0]:=hX3
 refine box3 rfl λw7 hY7 b7 z7=>?_
 have hY7:Blk w7 w3.heap.size 106 (mgV (0,-1,-1)):=hY7
 have b17:=(b2.on b3).on b7
 have hb7:=b1.on b17
 have hA7:=hA1.below b17
 have hB7:=hB2.below (b3.on b7)
 have hX7:=hX3.below b7
 have hM7:=hM.below hb7
 have hI7:IsAg w7 i.2.2.2.1 al:=hI.below hb7
 have hal:=hI.len
 have out:∀{w':World} (y:Mg),Blk w' w2.heap.size 106 [.int .u8 0,.int .i64 0,.int .i64 0]->∀{K:Int->Int->Int->World->Prop},(∀w'',Chg w2.heap.size w' w''->K y.1 y.2.1 y.2.2 w'')->
   Wr w' (blk w2.heap.size)/\Nw (w'.setCell (blk w2.heap.size) (.int .u8 y.1)) λw10=>Wr w10 ((blk w2.heap.size).add 1)/\Nw (w10.setCell ((blk w2.heap.size).add 1) (.int .i64 y.2.1)) λw11=>Wr w11 ((blk w2.heap.size).add 2)/\Nw (w11.setCell ((blk w2.heap.size).add 2) (.int .i64 y.2.2)) λw12=>
    ldI w12 ((blk w2.heap.size).add 0) .u8 λx11=>ldI w12 ((blk w2.heap.size).add 1) .i64 λx12=>ldI w12 ((blk w2.heap.size).add 2) .i64 λx13=>K x11 x12 x13 w12:=λ{w'} y hX {K} hK=>
  st3 hX rfl λw'' hX'' c=>hX''.rI (n:=0) (x:=y.1) rfl (hX''.rI (n:=1) (x:=y.2.1) rfl (hX''.rI (n:=2) (x:=y.2.2) rfl (hK w'' c)))
 have ldY:∀{w':World},Blk w' w3.heap.size 106 (mgV (0,-1,-1))->∀{φ:Int->Int->Int->Prop},φ 0 (-1) (-1)->ldI w' ((blk w3.heap.size).add 0) .u8 λx8=>ldI w' ((blk w3.heap.size).add 1) .i64 λx9=>ldI w' ((blk w3.heap.size).add 2) .i64 λx10=>φ x8 x9 x10:=λ{w'} hY {φ} hφ=>
  hY.rI (n:=0) (x:=0) rfl (hY.rI (n:=1) (x:=-1) rfl (hY.rI (n:=2) (x:=-1) rfl hφ))
 refine hA7.rI0 (x:=i.1) rfl (zn (λe247=>?_) (λe247=>?_))
 ·have hl0:=h1 e247
  have hm:mrgP M i.1 al last.1=(match zJ M (al.getD 0 ag0).2.1 with
    |some a=>some (if last.1=251 then 3 else 1,a,-1)
    |none=>none):=by unfold mrgP;rw[if_pos e247]
  refine hA7.rS (n:=3) (x:=i.2.2.2.1) rfl ?_
  refine zlg hI7 (k:=0) hl0 ?_
  refine zl λw8 hD8 b8 z8=>?_
  have hD8:Blk w8 w7.heap.size 22 (([al[0].2.1]:List Int).map (Value.int .u32)):=hD8
  refine zjg (s:=⟨some (blk w7.heap.size),1,1⟩) (ls:=[al[0].2.1]) (hM7.below b8) (hD8.isS rfl rfl (Nat.le_refl _) (by dsimp only;omega)) (by simp) (λt w9 hs hO9 hF9 b9=>⟨t,true,rfl,zD rfl ?_⟩) (λw9 hn b9=>⟨⟨none,0,0⟩,false,rfl,zG rfl ?_⟩)
  ·have b79:=b8.on b9
   have hs0:=hs _ (List.mem_singleton.2 rfl)
   obtain⟨a,ha⟩:=Option.isSome_iff_exists.1 hs0
   rw[zm hl0,ha]at hm
   have hO9:Own w9 3 1 t ([a].map (Value.int .i64)):=by
    simp only[List.map_cons,List.map_nil,ha,Option.getD_some]at hO9⊢
    exact hO9
   refine zk.cut (λ(st:Int×Unit) w'=>w'=w9/\st.1=if last.1=251 then 3 else 1) ?_ ?_
   ·refine(hB7.below b79).rI0 (x:=last.1) rfl (zn (λe=>⟨rfl,?_⟩) (λe=>⟨rfl,?_⟩))
    ·rw[if_pos e]
    ·rw[if_neg e]
   ·rintro⟨kd,_⟩ w9 ⟨rfl,rfl⟩
    refine ze7 hO9.isS (k:=0) (by simp) ?_
    refine out (if last.1=251 then 3 else 1,a,-1) (hX7.below b79) λw12 c12=>?_
    exact hR _ true w12 (c12.below (hb7.on b79) (by have:=b1.size;have:=b2.size;omega)) (λ_=>hm) (λh=>by cases h)
  ·have b79:=b8.on b9
   obtain⟨n,hn1,hn2⟩:=hn
   rw[List.mem_singleton.1 hn1]at hn2
   rw[zm hl0,hn2]at hm
   refine ldY (hY7.below b79) (out (0,-1,-1) (hX7.below b79) λw12 c12=>?_)
   exact hR (0,-1,-1) false w12 (c12.below (hb7.on b79) (by have:=b1.size;have:=b2.size;omega)) (λh=>by cases h) (λ_=>hm)
 refine zn (λe246=>?_) (λe246=>?_)
 ·have hl0:=h2 e246
  have hm:mrgP M i.1 al last.1=(match zJ M (al.getD 0 ag0).2.1,zJ M (al.getD 1 ag0).2.1 with
    |some a,some b=>some (2,a,b)
    |_,_=>none):=by unfold mrgP;rw[if_neg e247,if_pos e246]
  have bd:Below w7.heap.size w7 w7.drew:=(Below.refl _ _).drew
  have hId:IsAg w7.drew i.2.2.2.1 al:=hI7.below bd
  refine hA7.drew.rS (n:=3) (x:=i.2.2.2.1) rfl ?_
  refine zlg hId (k:=0) (by omega) ?_
  refine hA7.drew.rS (n:=3) (x:=i.2.2.2.1) rfl ?_
  refine zlg hId (k:=1) hl0 ?_
  refine zl λw8 hD8 b8 z8=>?_
  have hD8:Blk w8 w7.drew.heap.size 22 (([al[0].2.1,al[1].2.1]:List Int).map (Value.int .u32)):=hD8
  have b78:=bd.on b8
  refine zjg (s:=⟨some (blk w7.drew.heap.size),2,2⟩) (ls:=[al[0].2.1,al[1].2.1]) (hM7.below b78) (hD8.isS rfl rfl (Nat.le_refl _) (by dsimp only;omega)) (by simp) (λt w9 hs hO9 hF9 b9=>⟨t,true,rfl,zD rfl ?_⟩) (λw9 hn b9=>⟨⟨none,0,0⟩,false,rfl,zG rfl ?_⟩)
  ·have b79:=b78.on b9
   obtain⟨a,ha⟩:=Option.isSome_iff_exists.1 (hs al[0].2.1 (by simp))
   obtain⟨b,hb⟩:=Option.isSome_iff_exists.1 (hs al[1].2.1 (by simp))
   rw[zm (show 0<al.length by omega),zm hl0,ha,hb]at hm
   have hO9:Own w9 3 1 t ([a,b].map (Value.int .i64)):=by
    simp only[List.map_cons,List.map_nil,ha,hb,Option.getD_some]at hO9⊢
    exact hO9
   refine ze7 hO9.drew.isS (k:=0) (by simp) (ze7 hO9.drew.isS (k:=1) (by simp) ?_)
   refine out (2,a,b) ((hX7.below b79).drew) λw12 c12=>?_
   exact hR _ true w12 (c12.below ((hb7.on b79).drew) (by have:=b1.size;have:=b2.size;omega)) (λ_=>hm) (λh=>by cases h)
  ·have b79:=b78.on b9
   obtain⟨n,hn1,hn2⟩:=hn
   have hm':mrgP M i.1 al last.1=none:=by
    rw[hm,zm (show 0<al.length by omega),zm hl0]
    rcases List.mem_cons.1 hn1 with e |e
    ·rw[<-e,hn2]
    ·rw[<-List.mem_singleton.1 e,hn2]
     cases zJ M al[0].2.1<;>rfl
   refine ldY (hY7.below b79) (out (0,-1,-1) (hX7.below b79) λw12 c12=>?_)
   exact hR (0,-1,-1) false w12 (c12.below (hb7.on b79) (by have:=b1.size;have:=b2.size;omega)) (λh=>by cases h) (λ_=>hm')
 ·refine ldY hY7 (out (0,-1,-1) hX7 λw12 c12=>?_)
  exact hR (0,-1,-1) true w12 (c12.below hb7 (by have:=b1.size;have:=b2.size;omega)) (λ_=>by unfold mrgP;rw[if_neg e247,if_neg e246]) (λh=>by cases h)
end
end Go.Proofs
namespace Go.Proofs
open Go.Gk Go.RowKit Go.Gm
theorem zs0:YK Tryz.prog 23 50 4 40:=⟨by kernel_rfl,Tryz.t50,.agg #[.int .u16 0,.int .u32 0,.int .u32 0,.slice none 0 0],by kernel_rfl,rfl,rfl,rfl,rfl⟩
theorem eArg:YK Tryz.prog 48 136 3 24:=⟨by kernel_rfl,Tryz.t136,.agg #[.int .u8 0,.int .u32 0,.string (BM #[])],by kernel_rfl,rfl,rfl,rfl,rfl⟩
theorem zic{P:Program}{t e:TypeId}{sz bytes:Nat}(he:YK P t e sz bytes){w0 w:World}{s:Sl}{xs:List Value}(h:Own w e sz s xs)(hb:Below w0.heap.size w0 w)(hF:zC w0.heap.size s){vs:List Value}(hvs:vs.length=sz)(hv:∀u∈vs,u.oneCell'=true){b c:Nat}{T:TypeId}
  (hB:Blk w b T vs) (h63:s.l+1<=9223372036854775807) (hbytes:(s.l+1)*bytes<=140737488355328) {k:Sl->World->Prop}
  (hk:∀r w',Own w' e sz r (xs++vs)->Below w0.heap.size w0 w'->zC w0.heap.size r->w.heap.size<=w'.heap.size->(∀i,i<w.heap.size->s.a≠some (blk i)->w'.heap[i]? =w.heap[i]?)->k r w'):zE P t (.slice s.a s.l s.c) (.slice (some (blk b)) 1 c) w k:=by
 refine ZL he h (news:=vs) (by omega) (λj u hj=>hB.cell hj) hv h63 hbytes λr w' h1 hl' hg=>?_
 rcases hg with⟨_,_,h3⟩ | ⟨b',h3,h4,h5⟩
 ·rw[h3]at hl';omega
 ·have hbb:w0.heap.size<=b':=by
   rcases h4 with h4 |h4
   ·exact hF _ h4
   ·have:=hb.size
    omega
  refine hk r w' h1 (hb.trans (yo h5 hbb hb.size)) (λa ha=>by rw[h3]at ha;cases ha;exact hbb) (yo h5 (Nat.zero_le _) (Nat.zero_le _)).size λi hi hne=>h5.block _ hi λe=>?_
  have e:=Option.some.inj e
  subst e
  rcases h4 with h4 |h4
  ·exact hne h4
  ·omega
def Zo(w:World)(B:Nat)(s:Sl)(pl:List PI):Prop:=
 ∃hs:List Ins,hs.length=pl.length/\Own w 50 4 s (flat inV hs)/\zC B s/\∀(j:Nat) (h:j<hs.length) (h':j<pl.length),∃t,hs[j]=mkIn pl[j] t/\Own w 136 3 t (flat agV pl[j].2.2.2)/\zC B t
section
variable {w w' w0:World} {B:Nat} {s t:Sl} {pl:List PI} {p:PI}
theorem Zo.keep(h:Zo w B s pl)(hk:∀i,B<=i->i<w.heap.size->w'.heap[i]? =w.heap[i]?):Zo w' B s pl:=by
 obtain⟨hs,h1,h2,h3,h4⟩:=h
 refine⟨hs,h1,h2.of_block λa ha=>hk _ (h3 a ha) (h2.lt ha).2,h3,λj hj hj'=>?_⟩
 obtain⟨t,e,h5,h6⟩:=h4 j hj hj'
 exact⟨t,e,h5.of_block λa ha=>hk _ (h6 a ha) (h5.lt ha).2,h6⟩
theorem Zo.below(h:Zo w B s pl)(hb:Below w.heap.size w w'):Zo w' B s pl:=h.keep λi _ hi=>hb.block i hi
theorem Zo.nil(w:World)(B:Nat):Zo w B ⟨none,0,0⟩ []:=⟨[],rfl,Own.nil _ _ _,λa ha=>by(cases ha),λj h=>by(cases h)⟩
theorem Zo.isPl(h:Zo w B s pl):IsPl w s pl:=by
 obtain⟨hs,h1,h2,h3,h4⟩:=h
 have hc:IsC 4 inV w s hs:=Own.isC zlh (by omega) h2
 refine⟨by rw[hc.len,h1],hc.cap,hc.max,hc.nil,λa ha k hk=>?_⟩
 obtain⟨t,e,h5,h6⟩:=h4 k (by omega) hk
 refine⟨t,λj hj=>?_,Own.isC yG (by omega) h5⟩
 rw[<-e]
 exact hc.cell a ha k (by omega) j hj
theorem Yv{T T':TypeId}{sz b:Nat}{xs cs:List Value}(h:Own w T sz s xs)(hB:Blk w b T' cs)(hT:T≠T'):s.a≠some (Gk.blk b):=λe=>by
 obtain⟨cs',h'⟩:=h.type e
 exact Blk.apart h' hB hT rfl
theorem Yw{T T':TypeId}{sz sz':Nat}{xs ys:List Value}(h:Own w T sz s xs)(k:Own w T' sz' t ys)(hT:T≠T'){a:Addr}(ha:t.a=some a):s.a≠some (Gk.blk a.block):=λe=>by
 obtain⟨cs',h'⟩:=k.type ha
 exact Yv h h' hT e
theorem Zo.push{b c:Nat}(h:Zo w w0.heap.size s pl)(hb:Below w0.heap.size w0 w)(ht:Own w 136 3 t (flat agV p.2.2.2))(hF:zC w0.heap.size t)(hB:Blk w b 50 (inV (mkIn p t)))(hl:40*(pl.length+1)<=140737488355328){K:Sl->World->Prop}
  (hK:∀r w',Zo w' w0.heap.size r (pl++[p])->Below w0.heap.size w0 w'->w.heap.size<=w'.heap.size->(∀i T cs,Blk w i T cs->T≠50->w'.heap[i]? =w.heap[i]?)->K r w'):zE Tryz.prog 23 (.slice s.a s.l s.c) (.slice (some (blk b)) 1 c) w K:=by
 have hsl:=h.isPl.len
 obtain⟨hs,h1,h2,h3,h4⟩:=h
 refine zic zs0 h2 hb h3 rfl (by simp[Value.oneCell']) hB (by omega) (by omega) λr w' k1 k2 k3 k4 k5=>hK r w' ⟨hs++[mkIn p t],by simp[h1],?_,k3,?_⟩ k2 k4 λi T cs hi hT=>k5 i hi.lt (Yv h2 hi hT.symm)
 ·simpa[flat] using k1
 ·intro j hj hj'
  by_cases hlt:j<hs.length
  ·obtain⟨t',e,h5,h6⟩:=h4 j hlt (by omega)
   rw[List.getElem_append_left hlt]
   have e2:(pl++[p])[j]=pl[j]'(by omega):=List.getElem_append_left (by omega)
   rw[e2]
   exact⟨t',e,h5.of_block λa ha=>k5 _ (h5.lt ha).2 (Yw h2 h5 (by decide) ha),h6⟩
  ·have ej:j=hs.length:=by simp at hj;omega
   subst ej
   have e2:(pl++[p])[hs.length]=p:=by simp[h1]
   rw[e2]
   exact⟨t,by simp,ht.of_block λa ha=>k5 _ (ht.lt ha).2 (Yw h2 ht (by decide) ha),hF⟩
end
theorem zl6{s:Sl}{l:List Ag}{w:World}{R:VWP}(h:IsAg w s l)(h24:24*l.length<=140737488351232)
  (hR:∀r w',Own w' 136 3 r (flat agV l)->zC w.heap.size r->Below w.heap.size w w'->R (.slice r.a r.l r.c) w') :
  cR 78 #[.slice s.a s.l s.c] w R:=by
 refine zc.of (Yl s R w ?_) λ_ _ h=>h
 refine zo (λhn=>?_) (λhn=>?_)
 ·have hn:s.a=none:=by simpa using hn
  have hc:=h.nil hn
  have:l=[]:=List.eq_nil_of_length_eq_zero (by have:=h.len;have:=h.cap;omega)
  subst this
  exact hR ⟨none,0,0⟩ w (Own.nil _ _ _) (λa ha=>by cases ha) (Below.refl _ _)
 ·obtain⟨a,ha⟩:∃a,s.a=some a:=by
   cases hs:s.a with
   |none=>rw[hs]at hn;cases hn
   |some a=>exact⟨a,rfl⟩
  refine Nw.gen λw1 hw1=>?_
  have hB:Blk w1 w.heap.size 136 []:=by rw[hw1];exact Blk.new w 136 #[]
  have hb1:Below w.heap.size w w1:=by rw[hw1];exact(Below.refl _ _).alloc (Nat.le_refl _) _
  have hO:Own w1 136 3 ⟨some (blk w.heap.size),0,0⟩ []:=⟨rfl,.inr ⟨_,[],rfl,hB,Nat.le_refl _,by simp,rfl,rfl⟩⟩
  have h':=IsAg.below h hb1
  dsimp only[zB,Go.Gk.Sl.zw,zi,zu,zb,zh];rw[ha,h.len]
  refine ZL eArg hO (m:=l.length) (news:=flat agV l) (zQ yG l) (λj u hj=>?_) (λu hu=>?_) (by have:=h.bound;simp;omega) (by simp;omega) λr w' h1 _ h3=>?_
  ·have hlt:j<l.length*3:=by
    have:=(List.getElem?_eq_some_iff.1 hj).1
    rwa[zQ yG]at this
   have e:j=j / 3*3+j % 3:=by omega
   have hg:=zgY yG l (j / 3) (by omega) (j % 3) (by omega)
   have hc:=h'.cell a ha (j / 3) (by omega) (j % 3) (by omega)
   rw[e]at hj
   rw[e,hc,<-hg,hj]
  ·obtain⟨x,_,hx⟩:=List.mem_flatMap.1 hu
   simp only[agV,List.mem_cons,List.not_mem_nil,or_false]at hx
   rcases hx with rfl |rfl |rfl<;>rfl
  ·have h1:Own w' 136 3 r (flat agV l):=by simpa using h1
   rcases h3 with⟨h4,h5,h6⟩ | ⟨b,h4,h5,h6⟩
   ·subst h5
    exact hR _ _ h1 (λa ha=>by rw[h4]at ha;cases ha) hb1
   ·have hbb:w.heap.size<=b:=by
     rcases h5 with h5 |h5
     ·cases h5;exact Nat.le_refl _
     ·have:=hb1.size;omega
    exact hR _ _ h1 (λa ha=>by rw[h4]at ha;cases ha;exact hbb) (hb1.trans (yo h6 hbb hb1.size))
theorem zmb:∀(l:List Ag) (i:Nat) (h:i<l.length) (v:Int),(flat agV l).set (i*3+1) (.int .u32 v)=flat agV (l.set i (l[i].1,v,l[i].2.2))
 |a::l,0,_,v=>rfl
 |a::l,i+1,h,v=>by
  have ih:=zmb l i (by simpa using h) v
  simp only[flat,List.flatMap_cons,List.set_cons_succ,List.getElem_cons_succ]at ih⊢
  rw[List.set_append_right _ _ (by rw[yG];omega),yG,<-ih]
  congr 2
  omega
theorem Own.num{w:World}{q:Sl}{b:Nat}{l:List Ag}(h:Own w 136 3 q (flat agV l))(ha:q.a=some (blk b)){i:Nat}(hi:i<l.length)(v:Int) :
  Wr w ((blk b).add (i*3+1))/\Own (w.setCell ((blk b).add (i*3+1)) (.int .u32 v)) 136 3 q (flat agV (l.set i (l[i].1,v,l[i].2.2))):=by
 obtain⟨h1,h2⟩:=h
 rw[zQ yG]at h1
 rcases h2 with rfl | ⟨b',cs,e,hB,h3,h4,h5,h6⟩
 ·cases ha
 ·rw[ha]at e
  have e:b=b':=by injection e with e;injection e
  subst e
  refine⟨hB.wr ?_,by rw[zQ yG,List.length_set];exact h1,.inr ⟨b,_,ha,hB.set _ _,h3,h4,by rw[List.length_set];exact h5,?_⟩⟩
  ·have:q.l*3<=q.c*3:=Nat.mul_le_mul_right _ h3
   omega
  ·rw[List.take_set,h6,zmb l i hi v]
end Go.Proofs
namespace Go.Proofs
open Go.Gk Go.RowKit Go.Gm
theorem zs8{b:Nat}{T:TypeId}{v0 v1 v2 v3 u1 u2 u3:Value}{K:World->Prop}{w:World}(hB:Blk w b T [v0,v1,v2,v3])(hK:∀w',Blk w' b T [v0,u1,u2,u3]->Chg b w w'->K w') :
  Wr w ((blk b).add 1)/\Nw (w.setCell ((blk b).add 1) u1) λw1=>Wr w1 ((blk b).add 2)/\Nw (w1.setCell ((blk b).add 2) u2) λw2=>Wr w2 ((blk b).add 3)/\Nw (w2.setCell ((blk b).add 3) u3) λw3=>K w3:=
 ⟨hB.wr (by simp),Nw.mk ⟨(hB.set 1 u1).wr (by simp),Nw.mk ⟨((hB.set 1 u1).set 2 u2).wr (by simp),Nw.mk (hK _ (((hB.set 1 u1).set 2 u2).set 3 u3) (((Chg.set b 1 w u1).trans (Chg.set b 2 _ u2)).trans (Chg.set b 3 _ u3)))⟩⟩⟩
theorem Zo.chg{w w':World}{B b:Nat}{s:Sl}{pl:List PI}(h:Zo w B s pl)(c:Chg b w w')(hb:b<B):Zo w' B s pl:=h.keep λi hi _=>c.block i (by omega)
theorem Zo.lower{w:World}{B B':Nat}{s:Sl}{pl:List PI}(h:Zo w B s pl)(hB:B'<=B):Zo w B' s pl:=by
 obtain⟨hs,h1,h2,h3,h4⟩:=h
 refine⟨hs,h1,h2,λa ha=>Nat.le_trans hB (h3 a ha),λj hj hj'=>?_⟩
 obtain⟨t,e,h5,h6⟩:=h4 j hj hj'
 exact⟨t,e,h5,λa ha=>Nat.le_trans hB (h6 a ha)⟩
def upTo(g:Int->Int)(al:List Ag)(i:Nat):List Ag:=(al.take i).map (Zi g)++al.drop i
section
variable {g:Int->Int} {al:List Ag} {i:Nat}
theorem zh6:(upTo g al i).length=al.length:=by
 unfold upTo
 rw[List.length_append,List.length_map,List.length_take,List.length_drop]
 omega
theorem zjT(hi:i<al.length)(h:i<(upTo g al i).length):(upTo g al i)[i]=al[i]:=by
 have e:(upTo g al i)[i]? =some al[i]:=by
  unfold upTo
  rw[List.getElem?_append_right (by rw[List.length_map,List.length_take];omega),List.length_map,List.length_take,Nat.min_eq_left (Nat.le_of_lt hi),Nat.sub_self,List.getElem?_drop,Nat.add_zero,List.getElem?_eq_getElem hi]
 exact(List.getElem?_eq_some_iff.1 e).2
theorem zmU(hi:i<al.length):(upTo g al i).set i (Zi g al[i])=upTo g al (i+1):=by
 unfold upTo
 rw[List.set_append_right _ _ (by rw[List.length_map,List.length_take];omega),List.take_succ_eq_append_getElem hi,List.map_append,List.length_map,List.length_take,Nat.min_eq_left (Nat.le_of_lt hi),Nat.sub_self,List.drop_eq_getElem_cons hi,List.set_cons_zero,List.append_assoc]
 rfl
theorem zps(hi:i<al.length)(e:al[i].1≠1):upTo g al (i+1)=upTo g al i:=by
 rw[<-zmU hi,zh4 g e,<-zjT (g:=g) hi (by rw[zh6];exact hi),List.set_getElem_self]
theorem zrc:upTo g al al.length=al.map (Zi g):=by unfold upTo;simp
theorem zpt:upTo g al 0=al:=by unfold upTo;simp
end
theorem znU(g:Int->Int){pl:List PI}{k:Nat}(hk:k<pl.length):zp g (pl.take (k+1))=zp g (pl.take k)++[Z9 g pl[k]]:=by
 unfold zp
 rw[List.take_succ_eq_append_getElem hk,List.map_append]
 rfl
section
variable {x:Mo} {pl:List PI} {w:World} {R:VWP}
theorem zmS{f:Value}{g:Int->Int}(hN:IsPl w x.2.2.1 pl)(hp:PlOk pl)
  (hf:∀w',Below w.heap.size w w'->∀n∈allP pl,yE Tryz.prog Tryz.fs f [.int .u32 n] w' λv w''=>v =.int .u32 (g n)/\Below w'.heap.size w' w'')
  (hR:∀s w',Zo w' w.heap.size s (zp g pl)->Below w.heap.size w w'->R (moA (x.1,x.2.1,s,())) w'):cR 45 #[moA x,f] w R:=by
 refine zc.of (zhW x f R w ?_) λ_ _ h=>h
 refine zl λw1 hB1 b1 z1=>?_
 have hB1:Blk w1 w.heap.size 25 (moV x):=hB1
 refine zl λw2 hC2 b2 z2=>?_
 have hC2:Blk w2 w1.heap.size 25 [.int .u32 0,.int .u32 0,.slice none 0 0]:=hC2
 have hB2:=hB1.below b2
 have hl:=hN.len
 have h40:=hp.len
 refine hB2.rS (n:=2) (x:=x.2.2.1) rfl ⟨⟨by omega,by omega,by omega,by omega⟩,?_⟩
 refine zl λw3 hD3 b3 z3=>?_
 have hb3:=(b1.on b2).on b3
 have hB3:=hB2.below b3
 have hC3:=hC2.below b3
 refine hB3.rS (n:=2) (x:=x.2.2.1) rfl ?_
 have hO3:Zo w3 w.heap.size ⟨some (blk w2.heap.size),0,x.2.2.1.l⟩ (zp g (pl.take 0)):=by
  refine⟨[],rfl,⟨rfl,.inr ⟨_,_,rfl,hD3,Nat.zero_le _,(by dsimp only;omega),?_,rfl⟩⟩,λa ha=>?_,λj h=>by(cases h)⟩
  ·rw[Array.length_toList,size_madeCells]
  ·cases ha
   show w.heap.size<=w2.heap.size
   omega
 refine zj.countSl pl.length hN.bound (λk r w'=>Zo w' w.heap.size r (zp g (pl.take k))/\Below w.heap.size w w'/\w3.heap.size<=w'.heap.size/\Blk w' w.heap.size 25 (moV x)/\Blk w' w1.heap.size 25 [.int .u32 0,.int .u32 0,.slice none 0 0])
  ⟨hO3,hb3,Nat.le_refl _,hB3,hC3⟩ ?_
 rintro k r w4 hk ⟨hO,hb,hz,hB,hC⟩ next hnext
 refine zg (λh=>?_) (λh=>?_)
 ·have hlt:k<pl.length:=by dsimp only at h;omega
  obtain⟨m1,m2,m3⟩:=zfo hlt
  have h24:=hp.args _ (List.getElem_mem hlt)
  refine zbF (hN.below hb) hlt λt ht=>?_
  refine box4 rfl λw5 hI5 b5 z5=>?_
  have hI5:Blk w5 w4.heap.size 50 (inV (mkIn pl[k] t)):=hI5
  have bd:Below w5.heap.size w5 w5.drew:=(Below.refl _ _).drew
  refine hI5.drew.rI (n:=1) (x:=pl[k].2.1) rfl (hI5.drew.rI (n:=2) (x:=pl[k].2.2.1) rfl (hI5.drew.rS (n:=3) (x:=t) rfl ?_))
  have hb5:=(hb.on b5).on bd
  refine yE.mono (hf _ hb5 _ m1) λv w6 ⟨hv,b6⟩=>⟨g pl[k].2.1,hv,?_⟩
  have hI6:=hI5.drew.below b6
  have hb6:=hb5.on b6
  refine⟨hI6.cell (n:=3) rfl,hI6.cell (n:=2) rfl,?_⟩
  refine yE.mono (hf _ hb6 _ m2) λv w7 ⟨hv',b7⟩=>⟨g pl[k].2.2.1,hv',?_⟩
  have hI7:=hI6.below b7
  have hb7:=hb6.on b7
  have b47:=((b5.on bd).on b6).on b7
  refine⟨hI7.cell (n:=3) rfl,?_⟩
  refine zl6 (ht.below b47) h24 λq w8 hq hqF b8=>⟨q,rfl,?_⟩
  have hI8:=hI7.below b8
  have s47:=b47.size
  have hi7:=hI7.lt
  refine zs8 hI8 λw9 hI9 c9=>?_
  have hI9:Blk w9 w4.heap.size 50 (inV (pl[k].1,g pl[k].2.1,g pl[k].2.2.1,q,())):=hI9
  have hq9:Own w9 136 3 q (flat agV (upTo g pl[k].2.2.2 0)):=by
   rw[zpt]
   exact hq.of_block λa ha=>c9.block _ (by have:=hqF a ha;omega)
  have b49:Below w4.heap.size w4 w9:=c9.below (b47.on b8) (Nat.le_refl _)
  have hb9:=hb.on b49
  have s9:=c9.size
  have s8:=b8.size
  have hql:q.l=pl[k].2.2.2.length:=by
   have:=hq.1
   rw[zQ yG]at this
   omega
  refine hI9.rS (n:=3) (x:=q) rfl ?_
  refine zj.count pl[k].2.2.2.length (by omega) (λi w'=>Own w' 136 3 q (flat agV (upTo g pl[k].2.2.2 i))/\Blk w' w4.heap.size 50 (inV (pl[k].1,g pl[k].2.1,g pl[k].2.2.1,q,()))/\Below w7.heap.size w9 w') ⟨hq9,hI9,Below.refl _ _⟩ ?_
  rintro i w10 hi ⟨hq10,hI10,f10⟩ next2 hnext2
  have s10:=f10.size
  refine zg (λh=>?_) (λh=>?_)
  ·have hil:i<pl[k].2.2.2.length:=by dsimp only at h;omega
   refine zk.cut (λ_ w'=>Own w' 136 3 q (flat agV (upTo g pl[k].2.2.2 (i+1)))/\Blk w' w4.heap.size 50 (inV (pl[k].1,g pl[k].2.1,g pl[k].2.2.1,q,()))/\Below w7.heap.size w9 w') ?_ (λ_ w' hP=>hnext2 w' hil hP)
   have hul:i<(upTo g pl[k].2.2.2 i).length:=by rw[zh6];exact hil
   have hIs:IsAg w10 q (upTo g pl[k].2.2.2 i):=Own.isC yG (by omega) hq10
   refine ze6 hIs hul ?_
   rw[zjT hil hul]
   refine box3 rfl λw11 hA11 b11 z11=>?_
   have f11:Below w7.heap.size w9 w11:=f10.trans (b11.mono (by omega))
   refine hA11.rI0 rfl (zn (λe=>?_) (λe=>?_))
   ·have hI11:=hI10.below b11
    have bd11:Below w11.heap.size w11 w11.drew:=(Below.refl _ _).drew
    have s11:=b11.size
    refine hI11.drew.rS (n:=3) (x:=q) rfl (hA11.drew.rI (n:=1) (x:=pl[k].2.2.2[i].2.1) rfl ?_)
    refine yE.mono (hf _ ((hb9.trans (f11.mono (by have:=hb7.size;omega))).drew) _ (m3 _ (List.getElem_mem hil) e)) λv w12 ⟨hv2,b12⟩=>⟨g pl[k].2.2.2[i].2.1,hv2,?_⟩
    have b1112:=bd11.on b12
    have hI12:=hI11.below b1112
    have hq12:=(hq10.below b11).below b1112
    obtain⟨a,ha⟩:=hIs.base hul
    have ha':q.a=some (blk a.block):=by rw[ha];exact congrArg some (hq10.lt ha).1
    obtain⟨n1,n2⟩:=Own.num hq12 ha' (by rw[zh6];exact hil) (g pl[k].2.2.2[i].2.1)
    have haF:=hqF a ha
    refine⟨hI12.cell (n:=3) rfl,⟨by omega,by dsimp only;omega⟩,ze ha' ?_⟩
    dsimp only
    rw[show Int.toNat (i:Int)=i from rfl,zA]
    refine⟨n1,Nw.mk ⟨?_,(Chg.set a.block _ w12 _).blk hI12 (by omega),?_⟩⟩
    ·have hs:=zmU (g:=g) hil
     have hg:=zjT (g:=g) hil (by rw[zh6];exact hil)
     have hA:Zi g pl[k].2.2.2[i]=(pl[k].2.2.2[i].1,g pl[k].2.2.2[i].2.1,pl[k].2.2.2[i].2.2):=by unfold Zi;rw[if_pos e]
     rw[hg]at n2
     rw[hA]at hs
     rw[hs]at n2
     exact n2
    ·have f12:Below w7.heap.size w9 w12:=f11.trans (b1112.mono (by omega))
     exact f12.setCell (by rw[zq];exact haF) _
   ·refine⟨?_,hI10.below b11,f11⟩
    rw[zps hil e]
    exact hq10.below b11
  ·have hi':i=pl[k].2.2.2.length:=by dsimp only at h;omega
   subst hi'
   rw[zrc]at hq10
   have hb10:=hb9.trans (f10.mono (by have:=hb7.size;omega))
   have b410:Below w4.heap.size w4 w10:=b49.trans (f10.mono (by omega))
   have s410:=b410.size
   refine Ins.load hI10 ?_
   refine zl λw11 hD11 b11 z11=>?_
   have hD11:Blk w11 w10.heap.size 50 (inV (mkIn (Z9 g pl[k]) q)):=hD11
   refine Zo.push (w0:=w) (p:=Z9 g pl[k]) (t:=q) ((hO.below b410).below b11) (hb10.on b11) (hq10.below b11) (λa ha=>by have:=hqF a ha;have:=hb7.size;omega) hD11 (by rw[y7,List.length_take];omega) λr' w12 hO12 hb12 hz12 hk12=>?_
   rw[<-znU g hlt]at hO12
   have s11:=b11.size
   refine hnext r' w12 hlt ⟨hO12,hb12,by omega,?_,?_⟩
   ·exact((hB.below b410).below b11).of_block (hk12 _ _ _ ((hB.below b410).below b11) (by decide))
   ·exact((hC.below b410).below b11).of_block (hk12 _ _ _ ((hC.below b410).below b11) (by decide))
 ·have hk':k=pl.length:=by dsimp only at h;omega
  subst hk'
  rw[List.take_length]at hO
  have c1:=Chg.set w.heap.size 2 w4 (.slice r.a r.l r.c)
  refine⟨hB.wr (n:=2) (by simp),Nw.mk ?_⟩
  have hB5:Blk _ w.heap.size 25 (moV (x.1,x.2.1,r,())):=hB.set 2 (.slice r.a r.l r.c)
  have hC5:=c1.blk hC (by omega)
  refine Mo.load hB5 ?_
  refine st3 hC5 rfl λw6 hC6 c6=>?_
  have hC6:Blk w6 w1.heap.size 25 (moV (x.1,x.2.1,r,())):=hC6
  refine Mo.load hC6 ?_
  have hO6:Zo w6 w.heap.size r (zp g pl):=by
   obtain⟨hs,h1,h2,h3,h4⟩:=hO
   have keep:∀i T cs,Blk w4 i T cs->T≠25->w6.heap[i]? =w4.heap[i]?:=λi T cs hi hT=>by
    rw[c6.block i (Blk.apart hi hC hT),c1.block i (Blk.apart hi hB hT)]
   refine⟨hs,h1,h2.of_block λa ha=>?_,h3,λj hj hj'=>?_⟩
   ·obtain⟨cs,hc⟩:=h2.type ha
    exact keep _ _ _ hc (by decide)
   ·obtain⟨t,e,h5,h6⟩:=h4 j hj hj'
    refine⟨t,e,h5.of_block λa ha=>?_,h6⟩
    obtain⟨cs,hc⟩:=h5.type ha
    exact keep _ _ _ hc (by decide)
  exact hR r w6 hO6 (c6.below (c1.below hb (Nat.le_refl _)) (by omega))
end
end Go.Proofs
namespace Go.Proofs
open Go.Gk Go.RowKit Go.Gm
def lblN(bk:List (Int×Int×Int)):Nat->List (Int×Int)
 | 0=>[]
 |k+1=>setL (lblN bk k) (bk.getD (k+1) (0,0,0)).1 ((k:Int)+1)
abbrev lblM(bk:List (Int×Int×Int)):List (Int×Int):=lblN bk (bk.length-1)
def fndP(M:List (Int×Int))(ls:List Int):Option (List Int):=if ls.all (λn=>(zJ M n).isSome)=true then some (ls.map λn=>(zJ M n).getD 0) else none
def blkM(pl:List PI)(bk:List (Int×Int×Int))(b:Int×Int×Int):Option Mg:=mrgP (lblM bk) (ix pl (b.2.2.toNat-2)).1 (ix pl (b.2.2.toNat-2)).2.2.2 (ix pl (b.2.2.toNat-1)).1
def blkT(pl:List PI)(b:Int×Int×Int):List Int:=tgtP (ix pl (b.2.2.toNat-1)).1 (ix pl (b.2.2.toNat-1)).2.2.2
def blkE(pl:List PI)(bk:List (Int×Int×Int))(b:Int×Int×Int):Option Int:=match blkM pl bk b with
 |none=>some (b.2.2-2)
 |some _=>match fndP (lblM bk) (blkT pl b) with
  |none=>some (b.2.2-1)
  |some _=>none
noncomputable def gnwE(x:Mo)(pl:List PI)(f:FnL):Int×Int:=
 if (yc x.2.1 pl).1≠0 then((yc x.2.1 pl).1,((yc x.2.1 pl).2:Int)) else if f ∉ cutF pl pl.length then(2,0) else if 4096<f.bk.length then(4,f.at_) else
  match f.bk.findSome? (blkE pl f.bk) with
  |some a=>(140,a)
  |none=>(0,0)
def mgsP(pl:List PI)(bk:List (Int×Int×Int)):List Mg:=bk.map λb=>(blkM pl bk b).getD (0,-1,-1)
def zbm(pl:List PI)(bk:List (Int×Int×Int)):List (List Int):=bk.map λb=>(fndP (lblM bk) (blkT pl b)).getD []
theorem zmn(bk:List (Int×Int×Int)):∀k n v,zJ (lblN bk k) n=some v->1<=v/\v<=k
 | 0,n,v,h=>by cases h
 |k+1,n,v,h=>by
  simp only[lblN]at h
  rw[zde]at h
  split at h
  ·cases h;omega
  ·have:=zmn bk k n v h;omega
theorem zk0{M:List (Int×Int)}{ls:List Int}(h:∀n∈ls,(zJ M n).isSome=true):fndP M ls=some (ls.map λn=>(zJ M n).getD 0):=by
 unfold fndP
 rw[if_pos (List.all_eq_true.2 h)]
theorem zoH{M:List (Int×Int)}{ls:List Int}(h:∃n∈ls,zJ M n=none):fndP M ls=none:=by
 unfold fndP
 obtain⟨n,hn,e⟩:=h
 rw[if_neg]
 intro ha
 have:=List.all_eq_true.1 ha n hn
 rw[e]at this
 cases this
theorem YY{α β:Type}{f:α->Option β}:∀{l:List α} {k:Nat} (hk:k<l.length) {v:β},f l[k]=some v->(∀j (h:j<l.length),j<k->f l[j]=none)->l.findSome? f=some v
 |a::l,0,_,v,h,_=>by
  rw[List.findSome?_cons]
  have h:f a=some v:=h
  rw[h]
 |a::l,k+1,hk,v,h,hj=>by
  rw[List.findSome?_cons]
  have h0:f a=none:=hj 0 (by simp) (by omega)
  rw[h0]
  exact YY (l:=l) (k:=k) (by simpa using hk) h λj h1 h2=>hj (j+1) (by simpa using h1) (by omega)
theorem ziu{α β:Type}{f:α->Option β}{l:List α}(hj:∀j (h:j<l.length),f l[j]=none):l.findSome? f=none:=by
 rw[List.findSome?_eq_none_iff]
 intro a ha
 obtain⟨j,h,rfl⟩:=List.getElem_of_mem ha
 exact hj j h
theorem zqX(op:Int)(al:List Ag):(tgtP op al).length<=al.length:=by
 unfold tgtP
 split
 ·exact zmP op al al.length
 ·simp
theorem zp9:(match frm 247 with |some f=>decide (1<=f.fixed.length) |none=>false)=true:=by decide +kernel
theorem zp8:(match frm 246 with |some f=>decide (2<=f.fixed.length) |none=>false)=true:=by decide +kernel
theorem zmX{f:Fl}{n:Nat}(h:ZR f n=true):f.fixed.length<=n:=by
 unfold ZR at h
 split at h
 ·cases h
 ·omega
theorem zjB{p:PI}{b:Int}(h:yp p b=0):(p.1=247->0<p.2.2.2.length)/\(p.1=246->1<p.2.2.2.length):=by
 obtain⟨f,hf,_,_,_,hw,_⟩:=ZA h
 have hl:=zmX hw
 refine⟨λe=>?_,λe=>?_⟩
 ·have h1:=zp9
  rw[e]at hf
  rw[hf]at h1
  have:=of_decide_eq_true h1
  omega
 ·have h1:=zp8
  rw[e]at hf
  rw[hf]at h1
  have:=of_decide_eq_true h1
  omega
theorem IsGB.mono{w:World}{B B' gb:Nat}{nx:List (List Nat)}(h:IsGB w B gb nx)(hb:B'<=B):IsGB w B' gb nx:=by
 obtain⟨hg,sn,sa,wk,od,bs,hn,ha,h1,h2,h3,h4,h5,h6,f1,f2,f3,f4,f5,f6⟩:=h
 have st:∀{s:Sl},zC B s->zC B' s:=λh a ha=>Nat.le_trans hb (h a ha)
 exact⟨Nat.le_trans hb hg,sn,sa,wk,od,bs,hn,ha,h1,h2,h3,h4,h5,h6,st f1,st f2,st f3,st f4,λi h=>st (f5 i h),λi h=>st (f6 i h)⟩
section
variable {x:Mo} {pl:List PI} {w:World} {R:VWP} {v:Fv} {f:FnL}
theorem zse{w:World}{s:Sl}{pl:List PI}(h:IsPl w s pl){k:Nat}(hk:k<pl.length){φ:Addr->Int->Int->Int->Sl->Prop}
  (hφ:∀a t,(∀j,j<4->w.cell? ((a.add (Int.toNat (k:Int)*4)).add j)=(inV (mkIn pl[k] t))[j]?)->IsAg w t pl[k].2.2.2->φ a pl[k].1 pl[k].2.1 pl[k].2.2.1 t) :
  (0<=(k:Int)/\(k:Int)<(s.l:Int))/\za s.a λa=>ldI w ((a.add (Int.toNat (k:Int)*4)).add 0) .u16 λx=>ldI w ((a.add (Int.toNat (k:Int)*4)).add 1) .u32 λy=>ldI w ((a.add (Int.toNat (k:Int)*4)).add 2) .u32 λz=>ldS w ((a.add (Int.toNat (k:Int)*4)).add 3) λt=>φ a x y z t:=by
 obtain⟨a,ha⟩:=h.base hk
 obtain⟨t,h1,h2⟩:=h.elem a ha k hk
 have hc:∀j,j<4->w.cell? ((a.add (Int.toNat (k:Int)*4)).add j)=(inV (mkIn pl[k] t))[j]?:=λj hj=>by rw[zA];exact h1 j hj
 exact⟨⟨by omega,by have:=h.len;omega⟩,ze ha ⟨_,hc 0 (by omega),_,hc 1 (by omega),_,hc 2 (by omega),t,hc 3 (by omega),hφ a t hc h2⟩⟩
theorem eRow:YK Tryz.prog 67 43 1 24:=⟨by kernel_rfl,Tryz.t43,.slice none 0 0,by kernel_rfl,rfl,rfl,rfl,rfl⟩
set_option maxHeartbeats 1000000 in
theorem znv(hN:IsPl w x.2.2.1 pl)(hp:PlOk pl)(h0:0<=x.2.1)(hf:IsFn w v f)
  (hbad:∀w' e a,Below w.heap.size w w'->(e,a)=gnwE x pl f->e≠0->R (.tuple #[.pointer none,.slice none 0 0,.agg #[.int .i64 e,.int .i64 a]]) w')
  (hok:∀w' gb ms,Below w.heap.size w w'->gnwE x pl f=(0,0)->f∈cutF pl pl.length->IsGB w' w.heap.size gb (YA (zbm pl f.bk))->NxOk (YA (zbm pl f.bk))->IsM w' ms (mgsP pl f.bk)->R (.tuple #[.pointer (some (blk gb)),.slice ms.a ms.l ms.c,.agg #[.int .i64 0,.int .i64 0]]) w') :
  cR 14 #[moA x,fvA v] w R:=by
 refine zc.of (ziE x v R w ?_) λ_ _ h=>h
 refine zl λw1 hB1 b1 z1=>?_
 have hB1:Blk w1 w.heap.size 25 (moV x):=hB1
 refine zl λw2 hV2 b2 z2=>?_
 have hV2:Blk w2 w1.heap.size 46 (fvV v):=hV2
 refine zl λw3 hS3 b3 z3=>?_
 have hS3:Blk w3 w2.heap.size 29 [.int .i64 0,.int .i64 0]:=hS3
 have b13:=b2.on b3
 have hb3:=b1.on b13
 refine Mo.load (hB1.below b13) ?_
 refine ziU (x:=x) (hN.below hb3) hp λw4 b4=>⟨((yc x.2.1 pl).1,((yc x.2.1 pl).2:Int),()),rfl,?_⟩
 refine box2 rfl λw7 h7 b7 z7=>?_
 have b37:=b4.on b7
 have hb7:=hb3.on b37
 have hB7:=(hB1.below b13).below b37
 have hV7:=(hV2.below b3).below b37
 have hS7:=hS3.below b37
 have s2:=b1.size
 have bad:∀{w':World} (e a:Int),Blk w' w2.heap.size 29 [.int .i64 0,.int .i64 0]->Below w.heap.size w w'->(e,a)=gnwE x pl f->e≠0->
   Wr w' (blk w2.heap.size)/\Nw (w'.setCell (blk w2.heap.size) (.int .i64 e)) λw8=>Wr w8 ((blk w2.heap.size).add 1)/\Nw (w8.setCell ((blk w2.heap.size).add 1) (.int .i64 a)) λw9=>ldI w9 ((blk w2.heap.size).add 0) .i64 λx9=>ldI w9 ((blk w2.heap.size).add 1) .i64 λx10=>
    R (.tuple #[.pointer none,.slice none 0 0,.agg #[.int .i64 x9,.int .i64 x10]]) w9:=λ{w'} e a hS hb he hne=>
  st2 hS rfl λw9 hS9 c9=>Sp.load hS9 (hbad w9 e a (c9.below hb (by omega)) he hne)
 refine h7.rI0 rfl (zF (λe=>?_) (λe=>?_))
 ·have e':(yc x.2.1 pl).1≠0:=e
  exact Sp.load h7.drew (bad _ _ hS7.drew hb7.drew (by unfold gnwE;rw[if_pos e']) e')
 have e':(yc x.2.1 pl).1=0:=e
 obtain⟨k1,k2,k3⟩:=zfd e'
 have hsh:=zhX k2
 refine Mo.load hB7 ?_
 refine zl8 (x:=x) (hN.below hb7) hp (λfs L w10 _ b10 hL hLc=>⟨fs,(0,0,()),rfl,?_⟩) (λw10 hne _=>absurd k2 hne)
 refine box2 rfl λw13 h13 b13' z13=>?_
 have b713:=b10.on b13'
 have hb13:=hb7.on b713
 refine zl7 (v:=v) (f:=f) (hL.below b13') (hV7.below b713) (hf.below hb13) λw14 b14=>⟨_,rfl,?_⟩
 rw[hLc]
 have b714:=b713.on b14
 have hb14:=hb7.on b714
 have hB14:=hB7.below b714
 have hV14:=hV7.below b714
 have hS14:=hS7.below b714
 refine zM (zg (λhin=>?_) (λhin=>?_))
 rotate_left
 ·exact bad 2 0 hS14 hb14 (by unfold gnwE;rw[if_neg (λh=>h e'),if_pos hin]) (by decide)
 have hFn:=zle k2 f hin
 have hbl:=(hf.bk).len
 have hbc:=(hf.bk).cap
 have hbmax:=(hf.bk).bound
 refine hV14.rS (n:=3) (x:=v.2.2.2.1) rfl (zg (λhgt=>?_) (λhle=>?_))
 ·refine hV14.drew.rI (n:=1) (x:=v.2.1) rfl ?_
  exact bad 4 v.2.1 hS14.drew hb14.drew (by unfold gnwE;rw[if_neg (λh=>h e'),if_neg (λh=>h hin),if_pos (by omega),hf.at_]) (by decide)
 have hle:f.bk.length<=4096:=by omega
 have hpos:0<f.bk.length:=List.length_pos_iff.2 hFn.ne
 have hgn:gnwE x pl f=(match f.bk.findSome? (blkE pl f.bk) with
   |some a=>(140,a)
   |none=>(0,0)):=by unfold gnwE;rw[if_neg (λh=>h e'),if_neg (λh=>h hin),if_neg (by omega)]
 refine Nw.gen λw19 e19=>?_
 have m19:IsMp w19 w14.heap.size .i64 []:=by rw[e19];exact IsMp.new _ _
 have b19:Below w14.heap.size w14 w19:=by rw[e19];exact(Below.refl _ _).alloc (Nat.le_refl _) _
 have z19:w19.heap.size=w14.heap.size+1:=by rw[e19];simp
 clear e19
 have hV19:=hV14.below b19
 refine hV19.rS (n:=3) (x:=v.2.2.2.1) rfl ⟨⟨by omega,by omega,by omega⟩,?_⟩
 obtain⟨ab,hab⟩:=(hf.bk).base hpos
 have hb19:=hb14.on b19
 refine zj.count (f.bk.length-1) (by omega) (λk w'=>Below w14.heap.size w19 w'/\IsMp w' w14.heap.size .i64 (lblN f.bk k)) ⟨Below.refl _ _,m19⟩ ?_
 rintro k w20 hk ⟨f20,m20⟩ next hnext
 have b20:Below w14.heap.size w14 w20:=b19.trans f20
 have hb20:=hb14.on b20
 have s20:=f20.size
 rw[hbl]
 refine zg (λh=>?_) (λh=>?_)
 ·have hlt:k+1<f.bk.length:=by dsimp only at h;omega
  have hcell:=(IsC.below Zj hf.bk hb20).cell ab hab (k+1) hlt
  refine⟨⟨by omega,by omega⟩,?_⟩
  rw[if_neg (by omega),hab]
  refine ze rfl ?_
  have ec:∀j,((ab.add (1*3)).add (Int.toNat (k:Int)*3)).add j=ab.add ((k+1)*3+j):=λj=>by
   rw[zA,zA,show Int.toNat (k:Int)=k from rfl]
   congr 1
   omega
  dsimp only[dl,dm,zB,Go.Gk.Sl.zw,zi,zu,zb,zh];rw[ec,ec,ec]
  refine⟨_,hcell 0 (by omega),_,hcell 1 (by omega),_,hcell 2 (by omega),?_⟩
  refine box3 rfl λw24 h24 b24 z24=>?_
  refine h24.rI0 rfl ?_
  rw[zv (by omega)]
  refine zox zrV uU32 (m20.below b24) λw25 m25 c25=>?_
  have hn25:=hnext w25 (by omega)
  rw[zv (by omega)]at hn25
  refine hn25 ⟨f20.trans (c25.below (b24.mono (by omega)) (Nat.le_refl _)),?_⟩
  simp only[lblN]
  rw[zm hlt]
  exact m25
 have hk':k=f.bk.length-1:=by dsimp only at h;omega
 subst hk'
 have m20:IsMp w20 w14.heap.size .i64 (lblM f.bk):=m20
 have hV20:=hV14.below b20
 have hB20:=hB14.below b20
 have hS20:=hS14.below b20
 have lM:=m20.lt
 have hN20:=hN.below hb20
 have hbk20:IsBk w20 v.2.2.2.1 f.bk:=IsC.below Zj hf.bk hb20
 have hl:=hN.len
 have h40:=hp.len
 refine hV20.rS (n:=3) (x:=v.2.2.2.1) rfl ?_
 rw[hbl]
 refine zj.ghost (λj (st:Sl×Sl×Int×Unit) w'=>∃(k:Nat) (nx mg:Sl) (hs:List Sl),st=(nx,mg,(k:Int),())/\j=f.bk.length-k/\k<=f.bk.length/\Below w20.heap.size w20 w'/\hs.length=k/\Own w' 43 1 nx (hs.map Sl.val)/\zC w20.heap.size nx/\
  (∀i (h:i<hs.length) (h':i<(zbm pl f.bk).length),Own w' 3 1 hs[i] ((zbm pl f.bk)[i].map (Value.int .i64))/\zC w20.heap.size hs[i])/\Own w' 106 3 mg (flat mgV ((mgsP pl f.bk).take k))/\zC w20.heap.size mg/\
  ∀i (h:i<f.bk.length),i<k->blkE pl f.bk f.bk[i]=none) f.bk.length
  ⟨0,⟨none,0,0⟩,⟨none,0,0⟩,[],rfl,rfl,Nat.zero_le _,Below.refl _ _,rfl,Own.nil _ _ _,λa ha=>(by cases ha),λi h=>(by cases h),Own.nil _ _ _,λa ha=>(by cases ha),λi _ h=>by omega⟩ ?_
 clear hnext
 rintro _ _ w26 ⟨k,nx,mg,hs,rfl,rfl,hk,b26,hhl,hnx,hnxF,hrow,hmg,hmgF,hgood⟩ next hnext
 have hb26:=hb20.on b26
 dsimp only
 refine zg (λh=>?_) (λh=>?_)
 ·have hkl:k<f.bk.length:=by omega
  obtain⟨fr,to_,hbq,hft,htl,h248,h8f,hend,h8t⟩:=(hFn.ok _ (List.getElem_mem hkl)).ex
  have hto:f.bk[k].2.2=(to_:Int):=by rw[hbq]
  have elB:∀{φ:Int->Int->Int->Prop},φ f.bk[k].1 f.bk[k].2.1 f.bk[k].2.2->(0<=(k:Int)/\(k:Int)<((f.bk.length:Nat):Int))/\za v.2.2.2.1.a λa=>ldI w26 ((a.add (Int.toNat (k:Int)*3)).add 0) .u32 λx=>ldI w26 ((a.add (Int.toNat (k:Int)*3)).add 1) .i64 λy=>ldI w26 ((a.add (Int.toNat (k:Int)*3)).add 2) .i64 λz=>φ x y z:=λhφ=>by
   have:=zhK (IsC.below Zj hbk20 b26) hkl hφ
   rwa[hbl]at this
  refine elB ?_
  refine box3 rfl λw30 hK30 b30 z30=>?_
  have hK30:Blk w30 w26.heap.size 42 (blV f.bk[k]):=hK30
  have b2030:=b26.on b30
  have hB30:=hB20.below b2030
  refine hB30.rS (n:=2) (x:=x.2.2.1) rfl (hK30.rI (n:=2) (x:=f.bk[k].2.2) rfl ?_)
  rw[hto]
  have et1:IntKind.i64.wrap ((to_:Int)-1)=((to_-1:Nat):Int):=by rw[zz (by omega) (by omega)];omega
  have et2:IntKind.i64.wrap ((to_:Int)-2)=((to_-2:Nat):Int):=by rw[zz (by omega) (by omega)];omega
  rw[et1]
  have h1l:to_-1<pl.length:=by omega
  have h2l:to_-2<pl.length:=by omega
  have ei1:ix pl (to_-1)=pl[to_-1]:=yr h1l
  have ei2:ix pl (to_-2)=pl[to_-2]:=yr h2l
  refine zbF (hN20.below b2030) h1l λtl htl'=>?_
  refine box4 rfl λw35 hL35 b35 z35=>?_
  have hL35:Blk w35 w30.heap.size 50 (inV (mkIn pl[to_-1] tl)):=hL35
  have b2035:=b2030.on b35
  have bd:Below w35.heap.size w35 w35.drew:=(Below.refl _ _).drew
  have b2035d:=b2035.on bd
  have hMargs:=zjB ((yN hsh).2 (to_-2) h2l)
  have hbM:blkM pl f.bk f.bk[k]=mrgP (lblM f.bk) pl[to_-2].1 pl[to_-2].2.2.2 pl[to_-1].1:=by
   unfold blkM
   rw[hto,Int.toNat_natCast,ei1,ei2]
  have hbT:blkT pl f.bk[k]=tgtP pl[to_-1].1 pl[to_-1].2.2.2:=by
   unfold blkT
   rw[hto,Int.toNat_natCast,ei1]
  have s26:=b26.size
  have s30:=b30.size
  have s35:=b35.size
  refine zk.cut (λ(st:(Option Addr)×Bool×Unit) w'=>∃(mb:Nat) (m:Mg) (ok:Bool),st=(some (blk mb),ok,())/\Blk w' mb 106 (mgV m)/\Below w35.heap.size w35 w'/\(ok=true->blkM pl f.bk f.bk[k]=some m)/\(ok=false->blkM pl f.bk f.bk[k]=none)) ?_ ?_
  ·refine(hB30.below b35).drew.rS (n:=2) (x:=x.2.2.1) rfl ((hK30.below b35).drew.rI (n:=2) (x:=f.bk[k].2.2) rfl ?_)
   rw[hto,et2]
   refine zse ((hN20.below b2035d)) h2l λaM ti hcM hti=>?_
   refine Ins.load (x:=mkIn pl[to_-1] tl) hL35.drew ⟨?_,?_⟩
   ·refine zjC (i:=mkIn pl[to_-2] ti) (last:=mkIn pl[to_-1] tl) (m20.below b2035d) hti hMargs.1 hMargs.2 λm b w36 b36 hm1 hm2=>⟨(m.1,m.2.1,m.2.2,()),b,rfl,?_⟩
    refine box3 rfl λw40 hX40 b40 z40=>?_
    exact⟨w36.heap.size,m,b,rfl,hX40,(bd.on b36).on b40,λhb=>by rw[hbM];exact hm1 hb,λhb=>by rw[hbM];exact hm2 hb⟩
   ·refine zl λw41 hX41 b41 z41=>?_
    have hX41:Blk w41 w35.drew.heap.size 106 [.int .u8 0,.int .i64 0,.int .i64 0]:=hX41
    have hL41:=hL35.drew.below b41
    have hK41:=((hK30.below b35).drew).below b41
    have hB41:=((hB30.below b35).drew).below b41
    have hcM41:∀j vv,(inV (mkIn pl[to_-2] ti))[j]? =some vv->j<4->w41.cell? ((aM.add (Int.toNat ((to_-2:Nat):Int)*4)).add j)=some vv:=λj vv hv hj=>yV b41 ((hcM j hj).trans hv)
    refine⟨hL41.cell (n:=0) rfl,hL41.cell (n:=1) rfl,hL41.cell (n:=2) rfl,hL41.cell (n:=3) rfl,hcM41 0 _ rfl (by omega),hcM41 1 _ rfl (by omega),hcM41 2 _ rfl (by omega),hcM41 3 _ rfl (by omega),?_,hB41.cell (n:=2) rfl,?_⟩
    ·rw[<-hto]
     exact hK41.cell (n:=2) rfl
    refine zjC (i:=mkIn pl[to_-2] ti) (last:=mkIn pl[to_-1] tl) ((m20.below b2035d).below b41) (IsAg.below hti b41) hMargs.1 hMargs.2 λm b w42 b42 hm1 hm2=>⟨(m.1,m.2.1,m.2.2,()),b,rfl,?_⟩
    have b4142:=b41.on b42
    refine st3 (hX41.below b42) rfl λw45 hX45 c45=>?_
    exact⟨w35.drew.heap.size,m,b,rfl,hX45,c45.below (bd.on b4142) (Nat.le_refl _),λhb=>by rw[hbM];exact hm1 hb,λhb=>by rw[hbM];exact hm2 hb⟩
  rintro _ w46 ⟨mb,m,ok,rfl,hX46,b46,hm1,hm2⟩
  have b2046:=b2035.on b46
  have b2646:=(b30.on b35).on b46
  have hb46:=hb20.on b2046
  have hK46:=(hK30.below b35).below b46
  have hS46:=hS20.below b2046
  dsimp only
  refine zM (zo (λhokt=>?_) (λhokf=>?_))
  rotate_left
  ·have hnone:=hm2 hokf
   have hE:blkE pl f.bk f.bk[k]=some ((to_:Int)-2):=by unfold blkE;rw[hnone,hto]
   refine hK46.drew.rI (n:=2) (x:=f.bk[k].2.2) rfl ?_
   rw[hto,et2]
   refine bad 140 ((to_-2:Nat):Int) hS46.drew hb46.drew ?_ (by decide)
   rw[hgn,YY hkl hE λj h1 h2=>hgood j h1 h2]
   dsimp only
   congr 1
   omega
  have hsome:=hm1 hokt
  have hL46:=hL35.below b46
  have hal24:=hp.args _ (List.getElem_mem h1l)
  refine Ins.load (x:=mkIn pl[to_-1] tl) hL46 ?_
  refine zkV (x:=mkIn pl[to_-1] tl) ((IsAg.below htl' b35).below b46) hal24 λtg w49 htg htgF b49=>⟨tg,rfl,?_⟩
  have htg:Own w49 22 1 tg ((tgtP pl[to_-1].1 pl[to_-1].2.2.2).map (Value.int .u32)):=htg
  have hlenT:=zqX pl[to_-1].1 pl[to_-1].2.2.2
  have b2049:=b2046.on b49
  refine zjg (M:=lblM f.bk) (m20.below b2049) htg.isS (by omega) (λt w50 hall hO50 hF50 b50=>⟨t,true,rfl,zD rfl ?_⟩) (λw50 hnone b50=>⟨⟨none,0,0⟩,false,rfl,zG rfl ?_⟩)
  rotate_left
  ·have b4650:=b49.on b50
   have hE:blkE pl f.bk f.bk[k]=some ((to_:Int)-1):=by unfold blkE;rw[hsome,hbT,zoH hnone,hto]
   refine(hK46.below b4650).drew.rI (n:=2) (x:=f.bk[k].2.2) rfl ?_
   rw[hto,et1]
   refine bad 140 ((to_-1:Nat):Int) (hS46.below b4650).drew (hb46.on b4650).drew ?_ (by decide)
   rw[hgn,YY hkl hE λj h1 h2=>hgood j h1 h2]
   dsimp only
   congr 1
   omega
  have b4650:=b49.on b50
  have hX50:=hX46.below b4650
  have hE:blkE pl f.bk f.bk[k]=none:=by unfold blkE;rw[hsome,hbT,zk0 hall]
  refine ze rfl ?_
  refine hX50.rI (n:=0) (x:=m.1) rfl (hX50.rI (n:=1) (x:=m.2.1) rfl (hX50.rI (n:=2) (x:=m.2.2) rfl ?_))
  refine zl λw53 hY53 b53 z53=>?_
  have hY53:Blk w53 w50.heap.size 106 (mgV m):=hY53
  have b2653:=(b2646.on b4650).on b53
  have b2053:=b26.on b2653
  have hmgl:mg.l=k:=by
   have:=hmg.1
   rw[zQ zoo,List.length_take]at this
   unfold mgsP at this
   rw[List.length_map]at this
   omega
  refine zic (w0:=w20) eMg (hmg.below b2653) b2053 hmgF rfl (by simp[Value.oneCell']) hY53 (by omega) (by omega) λmg' w54 q1 q2 q3 q4 q5=>?_
  refine zl λw55 hZ55 b55 z55=>?_
  have hZ55:Blk w55 w54.heap.size 43 [Sl.val t]:=hZ55
  have hnx54:Own w54 43 1 nx (hs.map Sl.val):=(hnx.below b2653).of_block λa ha=>q5 _ ((hnx.below b2653).lt ha).2 (Yw (hmg.below b2653) (hnx.below b2653) (by decide) ha)
  have ht53:=hO50.below b53
  have ht54:Own w54 3 1 t _:=ht53.of_block λa ha=>q5 _ (ht53.lt ha).2 (Yw (hmg.below b2653) ht53 (by decide) ha)
  have hnxl:nx.l=k:=by
   have:=hnx.1
   rw[List.length_map]at this
   omega
  have q2':=q2.on b55
  refine zic (w0:=w20) eRow (hnx54.below b55) q2' hnxF rfl (by simp[Value.oneCell',Sl.val]) hZ55 (by omega) (by omega) λnx' w56 u1 u2 u3 u4 u5=>?_
  have hnx55:=hnx54.below b55
  rw[zv (by omega)]
  refine hnext (f.bk.length-(k+1)) _ _ (by omega) ⟨k+1,nx',mg',hs++[t],rfl,rfl,hkl,u2,by simp[hhl],?_,u3,λi h1 h2=>?_,?_,q3,λi h1 h2=>?_⟩
  ·rw[List.map_append]
   exact u1
  ·have keepI:∀{s:Sl} {xs:List Value},Own w53 3 1 s xs->Own w56 3 1 s xs:=λ{s xs} ho=>by
    have ho54:Own w54 3 1 s xs:=ho.of_block λa ha=>q5 _ (ho.lt ha).2 (Yw (hmg.below b2653) ho (by decide) ha)
    have ho55:=ho54.below b55
    exact ho55.of_block λa ha=>u5 _ (ho55.lt ha).2 (Yw hnx55 ho55 (by decide) ha)
   by_cases e:i<hs.length
   ·rw[List.getElem_append_left e]
    obtain⟨g1,g2⟩:=hrow i e h2
    exact⟨keepI (g1.below b2653),g2⟩
   ·have ei:i=k:=by simp at h1;omega
    subst ei
    have er:(hs++[t])[i]'h1=t:=by rw[List.getElem_append_right (by omega)];simp[hhl]
    rw[er]
    refine⟨?_,λa ha=>by have:=hF50 a ha;have:=b2049.size;omega⟩
    have:(zbm pl f.bk)[i]=(tgtP pl[to_-1].1 pl[to_-1].2.2.2).map λn=>(zJ (lblM f.bk) n).getD 0:=by
     refine(List.getElem_map (λb=>(fndP (lblM f.bk) (blkT pl b)).getD [])).trans ?_
     rw[hbT,zk0 hall]
     rfl
    rw[this]
    exact keepI ht53
  ·have hmk:(mgsP pl f.bk).take (k+1)=(mgsP pl f.bk).take k++[m]:=by
    have hlm:k<(mgsP pl f.bk).length:=by unfold mgsP;rw[List.length_map];exact hkl
    rw[List.take_succ_eq_append_getElem hlm]
    congr 2
    refine(List.getElem_map (λb=>(blkM pl f.bk b).getD (0,-1,-1))).trans ?_
    rw[hsome]
    rfl
   rw[hmk,zhL]
   have q1':=q1.below b55
   exact q1'.of_block λa ha=>u5 _ (q1'.lt ha).2 (Yw hnx55 q1' (by decide) ha)
  ·by_cases e:i=k
   ·subst e;exact hE
   ·exact hgood i h1 (by omega)
 ·have hkk:k=f.bk.length:=by omega
  subst hkk
  have hrl:(zbm pl f.bk).length=f.bk.length:=by unfold zbm;rw[List.length_map]
  have hml:(mgsP pl f.bk).length=f.bk.length:=by unfold mgsP;rw[List.length_map]
  have hg0:gnwE x pl f=(0,0):=by rw[hgn,ziu λj hj=>hgood j hj hj]
  rw[<-hml,List.take_length]at hmg
  have hII:IsII w26 nx hs (zbm pl f.bk):=⟨hnx.isS,by rw[hhl,hrl],λi h1 h2=>(hrow i h1 h2).1.isS⟩
  have hGood:Good (zbm pl f.bk):=by
   intro l hl' y hy
   obtain⟨b,hb,rfl⟩:=List.mem_map.1 hl'
   cases hfd:fndP (lblM f.bk) (blkT pl b) with
   |none=>rw[hfd]at hy;cases hy
   |some l=>
    rw[hfd]at hy
    unfold fndP at hfd
    split at hfd
    ·rename_i hall
     cases hfd
     obtain⟨n,hn,rfl⟩:=List.mem_map.1 hy
     have hs1:=List.all_eq_true.1 hall n hn
     obtain⟨u,hu⟩:=Option.isSome_iff_exists.1 hs1
     rw[hu,Option.getD_some]
     have:=zmn f.bk _ n u hu
     rw[hrl]
     omega
    ·cases hfd
  refine zkd hII (λh=>by rw[hrl]at h;omega) (λh=>by rw[hrl]at h;omega) (λ_ _ hng=>absurd hGood hng) λq1 q2 q3 w57 gb b57 hG _=>⟨some (blk gb),0,rfl,?_⟩
  have b2057:=b26.on b57
  refine st2 (hS20.below b2057) rfl λw59 hS59 c59=>Sp.load hS59 ?_
  have hb57:=hb20.on b2057
  have hM57:=hmg.below b57
  refine hok w59 gb mg (c59.below hb57 (by omega)) hg0 hin ?_ (zpM q1 q2 q3) ?_
  ·exact(hG.keep λk k1 _=>c59.block k (by have:=b26.size;have:=hS20.lt;omega)).mono (hb20.on b26).size
  ·exact Own.isC zoo (by omega) (hM57.of_block λa ha=>c59.block _ λe=>by
    obtain⟨cs,hc⟩:=hM57.type ha
    exact Blk.apart hc (hS20.below b2057) (by decide) e)
end
end Go.Proofs
namespace Go.Proofs
open Go.Gk Go.RowKit Go.Gm
theorem Chg.same{b:Nat}{T:TypeId}{cs:List Value}{w w':World}(c:Chg b w w')(h:Blk w b T cs)(h':Blk w' b T cs):Below w.heap.size w w':=
 ⟨c.os,c.tape,c.output,Nat.le_of_eq c.size.symm,λk _=>by
  by_cases e:k=b
  ·subst e;exact h'.trans h.symm
  ·exact c.block k e⟩
theorem zn2:(match frm 248 with |some f=>f.re |none=>false)=true:=by decide +kernel
theorem zmk{bd:Int}{pl:List PI}(hs:(zs bd pl).1=0){k:Nat}(hk:k<pl.length)(h:(ix pl k).1=248):(ix pl k).2.2.1≠0:=by
 have hf:=(yN hs).2 k hk
 rw[yr hk]at h⊢
 obtain⟨f,hf,_,h2,_⟩:=ZA hf
 have h1:=zn2
 rw[h]at hf
 rw[hf]at h1
 have h1:f.re=true:=h1
 rw[h1]at h2
 intro e
 rw[e]at h2
 simp[idP]at h2
theorem BkOk.label{pl:List PI}{n:Nat}{b:Int×Int×Int}(h:BkOk pl n b):∃f:Nat,b.1=(ix pl f).2.2.1/\b.2.1=(f:Int)/\f<n/\(ix pl f).1=248:=by
 obtain⟨f,t,rfl,h2,h3,h4,_⟩:=h.ex
 exact⟨f,rfl,rfl,by omega,h4⟩
theorem zlk{bd:Int}{pl:List PI}(hp:PlOk pl)(h0:0<=bd)(h:(yc bd pl).1=0){f:FnL}(hf:FnOk pl pl.length f):(f.bk.map (·.1)).Nodup:=by
 have hw:=zkW.of hp h0 h
 rw[List.nodup_iff_pairwise_ne,List.pairwise_map,List.pairwise_iff_getElem]
 intro i j hi hj hij e
 have hlt:=List.pairwise_iff_getElem.1 hf.lt i j hi hj hij
 obtain⟨a,a1,a2,a3,a4⟩:=(hf.ok _ (List.getElem_mem hi)).label
 obtain⟨b,b1,b2,b3,b4⟩:=(hf.ok _ (List.getElem_mem hj)).label
 rw[a2,b2]at hlt
 rw[a1,b1]at e
 exact hw.new b b3 (zmk hw.shape b3 b4) a (by omega) a3 e
end Go.Proofs
