/- NestModules, part 4; made small by a program. -/
import Derived.Test.YtogccbelnfgfhaaGreatProg
import Derived.Test.YtogccbelnfgfhaaGreatPNestModules3
namespace Go.Proofs
open Go.Gk Go.RowKit Go.Gr Go.Dm
theorem zlJ{s:Sl}{l:List Int}{n:Int}{w:World}{R:VWP}(h:IsI w s l)(hR:∀b:Bool,(b=true↔n∈l)->R (.bool b) w) :
  cR 116 #[.slice s.a s.l s.c,.int .i64 n] w R:=by
 refine zb.of (zbi s n R w ?_) λ_ _ h=>h
 refine zb.of (zcP s n _ w ?_) λ_ _ h=>h
 have hl:=h.len
 refine zl.count l.length h.bound (λk w'=>w'=w/\∀j (hj:j<l.length),j<k->l[j]≠n) ⟨rfl,λj hj hk=>absurd hk (by omega)⟩ ?_
 rintro k _ hk ⟨rfl,hn⟩ next hnext
 refine zi (λhlt=>?_) (λhge=>⟨_,rfl,?_⟩)
 ·have hlt:k<l.length:=by dsimp only at hlt;omega
  refine yv h hlt (zj (λe=>⟨_,rfl,?_⟩) (λe=>hnext _ hlt ⟨rfl,λj hj hjk=>?_⟩))
  ·have e0:decide ((k:Int)≥0)=true:=by simp
   have:=hR true ⟨λ_=>e▸List.getElem_mem hlt,λ_=>rfl⟩
   rw[<-e0]at this
   exact this
  ·by_cases e':j=k
   ·subst e';exact λh=>e h.symm
   ·exact hn j hj (by omega)
 ·refine hR false ⟨(λe=>by cases e),λhm=>?_⟩
  obtain⟨j,hj,e⟩:=List.mem_iff_getElem.1 hm
  exact absurd e (hn j hj (by dsimp only at hge;omega))
theorem zlg{s:Sl}{l:List Int}{n:Int}{w:World}{R:VWP}(h:IsS (Value.int .u8) w s l)(hR:∀b:Bool,(b=true↔n∈l)->R (.bool b) w) :
  cR 273 #[.slice s.a s.l s.c,.int .u8 n] w R:=by
 refine zb.of (Yv s n R w ?_) λ_ _ h=>h
 refine zb.of (zam s n _ w ?_) λ_ _ h=>h
 have hl:=h.len
 refine zl.count l.length h.bound (λk w'=>w'=w/\∀j (hj:j<l.length),j<k->l[j]≠n) ⟨rfl,λj hj hk=>absurd hk (by omega)⟩ ?_
 rintro k _ hk ⟨rfl,hn⟩ next hnext
 refine zi (λhlt=>?_) (λhge=>⟨_,rfl,?_⟩)
 ·have hlt:k<l.length:=by dsimp only at hlt;omega
  refine h.addr hlt λa _ hc=>⟨l[k],by simpa using hc,zj (λe=>⟨_,rfl,?_⟩) (λe=>hnext _ hlt ⟨rfl,λj hj hjk=>?_⟩)⟩
  ·have e0:decide ((k:Int)≥0)=true:=by simp
   have:=hR true ⟨λ_=>e▸List.getElem_mem hlt,λ_=>rfl⟩
   rw[<-e0]at this
   exact this
  ·by_cases e':j=k
   ·subst e';exact λh=>e h.symm
   ·exact hn j hj (by omega)
 ·refine hR false ⟨(λe=>by cases e),λhm=>?_⟩
  obtain⟨j,hj,e⟩:=List.mem_iff_getElem.1 hm
  exact absurd e (hn j hj (by dsimp only at hge;omega))
theorem zsc{l:List Nat}{x:Nat}:(x:Int)∈l.map (λ(y:Nat)=>(y:Int))↔x∈l:=by
 rw[List.mem_map]
 exact⟨λ⟨a,h,e⟩=>by rw[<-show a=x by omega];exact h,λh=>⟨x,h,rfl⟩⟩
section
variable {w w':World} {nb gb:Nat} {hsl:Sl} {g:Nst} {wb tb:Nat} {ms:Sl} {R:VWP}
theorem Dt.up_mem{nx:List (List Nat)}{ov:Nat->Option Nat}{dp:Nat->Int}(h:Dt w tb nx ov dp){x:Nat}{i:Int}:x∈upOf nx ov dp i↔DomP (zp nx) ov (x:Int) i:=by
 constructor
 ·intro hx
  by_cases hin:inOd (zp nx) i=true
  ·obtain⟨y,rfl,hy⟩:=yP.1 hin
   have hm:=h.dpo.mem y hy
   rw[zh1 hy]at hx
   obtain⟨k,hk,rfl⟩:=List.mem_iff_getElem.1 hx
   exact⟨_,y,rfl,rfl,hy,((h.upL_spec _ y hy (by omega)).2.1 k hk).1⟩
  ·unfold upOf at hx;rw[if_neg hin]at hx;cases hx
 ·rintro⟨a',b',e,rfl,h1,h2⟩
  have e:x=a':=by omega
  subst e
  have hm:=h.dpo.mem b' h1
  rw[zh1 h1]
  obtain⟨g1,g2,_,_⟩:=h.upL_spec ((dp b').toNat +1) b' h1 (by omega)
  have ha:=h.ancOd h1 h2
  have hma:=h.dpo.mem x ha
  have hle:dp x<=dp b':=by
   rcases h.mono h1 h2 with rfl |h3
   ·exact Int.le_refl _
   ·omega
  have hk:(dp b'-dp x).toNat<(upL ov ((dp b').toNat +1) b').length:=by omega
  obtain⟨g5,g6⟩:=g2 _ hk
  have:(upL ov ((dp b').toNat +1) b')[(dp b'-dp x).toNat]=x:=h.same h1 g5 h2 (by omega)
  rw[<-this]
  exact List.getElem_mem hk
theorem Ne0.hd_mem(h:Ne0 w nb gb hsl g wb tb ms){x i:Nat}:x∈g.hd i↔g.In x i:=by
 unfold Nst.hd Nst.In
 rw[List.mem_reverse,List.mem_filter,Nst.hdP_iff,h.dt.up_mem]
 exact⟨λ⟨a,b,c⟩=>⟨b,a,c⟩,λ⟨a,b,c⟩=>⟨b,a,c⟩⟩
theorem Ne0.hd_len(h:Ne0 w nb gb hsl g wb tb ms)(i:Nat):(g.hd i).length<=4097:=by
 unfold Nst.hd
 rw[List.length_reverse]
 have:=List.length_filter_le (g.hdP i) (upOf g.wx g.ov g.dp (i:Int))
 have:=h.dt.upLen (i:Int)
 omega
theorem Ne0.in_lt(h:Ne0 w nb gb hsl g wb tb ms){x i:Nat}(hi:g.In x i):x<g.nx.length:=by
 obtain⟨_,⟨a',b',e,_,h1,h2⟩,_⟩:=hi
 have e:x=a':=by omega
 subst e
 rw[<-h.wlen]
 exact h.dt.lt (h.dt.ancOd h1 h2)
theorem znq{hh:List Sl}(h:IsNN w hsl hh ((List.range g.nx.length).map g.hd)){i:Nat}(hi:i<g.nx.length){φ:Sl->Prop}(hφ:∀x,IsN w x (g.hd i)->φ x) :
  (0<=(i:Int)/\(i:Int)<(hsl.l:Int))/\zc hsl.a λa=>ldS w (a.add (Int.toNat (i:Int))) φ:=by
 have hl:=h.len
 have hih:i<hh.length:=by rw[hl];simpa using hi
 refine zhU h.top hih (hφ _ ?_)
 have:=h.row i hih (by simpa using hi)
 simpa using this
theorem zhv(h:Ne w nb gb g){x i:Nat}(hi:i<g.nx.length)(hR:∀b:Bool,(b=true↔g.In x i)->R (.bool b) w) :
  cR 109 #[.pointer (some (Gk.blk nb)),.int .i64 (x:Int),.int .i64 (i:Int)] w R:=by
 refine zb.of (zg2 _ (x:Int) (i:Int) R w ?_) λ_ _ h=>h
 obtain⟨hsl,hh,wb,tb,ms,h0,hn⟩:=h.ex
 refine zf rfl ⟨hsl,h0.b.cell (n:=4) rfl,znq hn hi λs hs=>?_⟩
 refine zlJ (IsS.toI hs) λb hb=>⟨b,rfl,hR b (hb.trans ?_)⟩
 rw[<-h0.hd_mem]
 exact zsc
def zlE(l:List Nat):Int:=match l.getLast? with |some x=>(x:Int) |none=>-1
set_option maxHeartbeats 1000000 in
theorem zmG(h:Ne w nb gb g){i:Nat}(hi:i<g.nx.length){ks:Sl}{kl:List Int}(hk:IsS (Value.int .u8) w ks kl)(hR:∀w',Below w.heap.size w w'->R (.int .i64 (zlE ((g.hd i).filter λx=>kl.contains (g.kd x)))) w') :
  cR 262 #[.pointer (some (Gk.blk nb)),.int .i64 (i:Int),.slice ks.a ks.l ks.c] w R:=by
 refine zb.of (zfT _ (i:Int) ks R w ?_) λ_ _ h=>h
 obtain⟨hsl,hh,wb,tb,ms,h0,hn⟩:=h.ex
 have hml:=h0.fit.1
 refine zf rfl ⟨hsl,h0.b.cell (n:=4) rfl,znq hn hi λs hs=>?_⟩
 have hLl:=h0.hd_len i
 have hlt':∀x∈g.hd i,x<g.nx.length:=λx hx=>h0.in_lt (h0.hd_mem.1 hx)
 obtain⟨L,hL⟩:∃L,L=g.hd i:=⟨_,rfl⟩
 rw[<-hL]at hs hLl hR hlt'
 have hsl':=hs.len
 rw[zt (by omega) (by omega)]
 refine zl.ghost (λk st w'=>k<=L.length/\st=((k:Int)-1,())/\Below w.heap.size w w'/\(L.drop k).filter (λx=>kl.contains (g.kd x))=[]) L.length ⟨Nat.le_refl _,by rw[hsl'],Below.refl _ _,by simp⟩ ?_
 rintro k _ w1 ⟨hkl,rfl,hb,hd⟩ next hnext
 refine zi (λhge=>?_) (λhlt=>?_)
 ·obtain⟨m,rfl⟩:∃m,k=m+1:=⟨k-1,by dsimp only at hge;omega⟩
  have hmL:m<L.length:=by omega
  have e1:=h0.below hb.drew
  have hs1:=hs.below hb.drew
  have hxn:=hlt' _ (List.getElem_mem hmL)
  have em:(((m+1:Nat):Int)-1)=(m:Int):=by omega
  dsimp only
  rw[em]
  refine zf rfl ⟨ms,e1.b.cell (n:=1) rfl,?_⟩
  refine yv (IsS.toI hs1) (k:=m) (by simpa using hmL) ?_
  rw[List.getElem_map]
  refine zcd e1.m (k:=L[m]) (by omega) ?_
  rw[Nst.kd_get (by omega)]
  refine zlg (hk.below hb.drew) λb hbv=>⟨b,rfl,zm (λe=>?_) (λe=>?_)⟩
  ·refine yv (IsS.toI hs1) (k:=m) (by simpa using hmL) ?_
   rw[List.getElem_map]
   have e2:L.filter (λx=>kl.contains (g.kd x))=(L.take m).filter (λx=>kl.contains (g.kd x))++[L[m]]:=by
    have:L=L.take m++([L[m]]++L.drop (m+1)):=by simp
    conv=>lhs;rw[this]
    rw[List.filter_append,List.filter_append,hd]
    have hc:kl.contains (g.kd L[m])=true:=by simpa using hbv.1 e
    have h1:[L[m]].filter (λx=>kl.contains (g.kd x))=[L[m]]:=by simp only[List.filter_cons,hc,if_true,List.filter_nil]
    rw[h1,List.append_nil]
   have:=hR w1.drew hb.drew
   rw[e2]at this
   simpa[zlE] using this
  ·rw[zt (by omega) (by omega)]
   refine hnext m _ _ (by omega) ⟨by omega,rfl,hb.drew,?_⟩
   rw[List.drop_eq_getElem_cons hmL,List.filter_cons_of_neg,hd]
   intro hc
   rw[hbv.2 (by simpa using hc)]at e
   cases e
 ·have:k=0:=by dsimp only at hlt;omega
  subst this
  rw[List.drop_zero]at hd
  have:=hR w1 hb
  rw[hd]at this
  exact this
def znB(g:Nst)(i:Nat):Prop:=g.kd i=0/\2<=(g.nx.getD i []).length
theorem zqB(h:Ne w nb gb g){i:Nat}(hi:i<g.nx.length)(hR:∀(b:Bool) w',Below w.heap.size w w'->(b=true↔znB g i)->R (.bool b) w') :
  cR 176 #[.pointer (some (Gk.blk nb)),.int .i64 (i:Int)] w R:=by
 refine zb.of (zfR _ (i:Int) R w ?_) λ_ _ h=>h
 obtain⟨hsl,hh,wb,tb,ms,h0,hn⟩:=h.ex
 have hml:=h0.fit.1
 refine zf rfl ⟨ms,h0.b.cell (n:=1) rfl,zcd h0.m (k:=i) (by omega) ?_⟩
 rw[Nst.kd_get (by omega)]
 refine zj (λe=>zf rfl ⟨_,h0.b.cell0 rfl,zeK h0.ok h0.gr λr w' o f b=>⟨r,rfl,?_⟩⟩) (λe=>hR false w (Below.refl _ _) ⟨(λh=>by cases h),λh=>absurd h.1 e⟩)
 rw[zU]at o
 have:=yh o
 refine hR _ w' b ?_
 unfold znB
 rw[decide_eq_true_eq]
 exact⟨λh=>⟨e,by omega⟩,λh=>by omega⟩
def zlm(g:Nst)(i o:Nat):Prop:=o≠i/\g.kd o≠0/\o∈zp g.wx/\(g.to o=g.to i\/(g.kd i=2/\g.kd o=2/\g.co o=g.co i))
def znd(g:Nst)(i:Nat):Prop:=
 g.kd i≠0/\(g.to i=(i:Int)\/¬g.D (i:Int) (g.to i)\/(g.kd i=2/\(g.co i=g.to i\/¬g.D (i:Int) (g.co i)))\/∃o,o<g.nx.length/\zlm g i o)
set_option maxHeartbeats 2000000 in
theorem zo5(h:Ne w nb gb g){i:Nat}(hi:i<g.nx.length)(hR:∀(b:Bool) w',Below w.heap.size w w'->(b=true↔znd g i)->R (.bool b) w') :
  cR 177 #[.pointer (some (Gk.blk nb)),.int .i64 (i:Int)] w R:=by
 refine zb.of (zft _ (i:Int) R w ?_) λ_ _ h=>h
 obtain⟨hsl,hh,wb,tb,ms,h0,hn⟩:=h.ex
 clear h hn hh
 have hml:=h0.fit.1
 have hmx:=h0.ok.max
 refine zf rfl ⟨ms,h0.b.cell (n:=1) rfl,zoh h0.m (k:=i) (by omega) (zqs λw4 hB4 b4 z4=>?_)⟩
 rw[Nst.kd_get (by omega),Nst.to_get (by omega),Nst.co_get (by omega)]at hB4
 refine⟨_,hB4.cell0 rfl,zj (λe=>hR false w4 b4 ⟨(λh=>by cases h),λh=>absurd e h.1⟩) (λhk0=>⟨_,hB4.cell0 rfl,?_⟩)⟩
 have yes:∀w',Below w.heap.size w w'->(g.to i=(i:Int)\/¬g.D (i:Int) (g.to i)\/(g.kd i=2/\(g.co i=g.to i\/¬g.D (i:Int) (g.co i)))\/∃o,o<g.nx.length/\zlm g i o)->R (.bool true) w':=λw' hb hh=>hR true w' hb ⟨λ_=>⟨hk0,hh⟩,λ_=>rfl⟩
 have z04:=b4.size
 refine zk.cut (λ_ w'=>Below w4.heap.size w4 w'/\g.to i≠(i:Int)/\g.D (i:Int) (g.to i)/\(g.kd i=2->g.co i≠g.to i/\g.D (i:Int) (g.co i))) ?_ ?_
 ·refine⟨_,hB4.cell (n:=1) rfl,zj (λe=>yes w4 b4 (.inl e)) (λhne=>⟨_,hB4.cell (n:=1) rfl,?_⟩)⟩
  refine yy (h0.below b4) λv w5 b5 hv=>⟨v,rfl,zy (zm (λe=>?_) (λe=>yes w5 (b4.trans (b5.mono z04)) (.inr (.inl λhD=>by rw[hv.2 hD]at e;cases e))))⟩
  have hD1:=hv.1 e
  have hB5:=hB4.below b5
  have z5:=b5.size
  refine zj (λh2=>?_) (λh2=>⟨b5,hne,hD1,λh=>absurd h h2⟩)
  refine⟨_,hB5.cell (n:=2) rfl,_,hB5.cell (n:=1) rfl,zj (λe=>yes w5 (b4.trans (b5.mono z04)) (.inr (.inr (.inl ⟨h2,.inl e⟩)))) (λhne2=>⟨_,hB5.cell (n:=2) rfl,?_⟩)⟩
  refine yy (h0.below (b4.trans (b5.mono z04))) λv2 w6 b6 hv2=>⟨v2,rfl,zy (zm (λe2=>⟨b5.trans (b6.mono z5),hne,hD1,λ_=>⟨hne2,hv2.1 e2⟩⟩) (λe2=>yes w6 (b4.trans ((b5.trans (b6.mono z5)).mono z04)) (.inr (.inr (.inl ⟨h2,.inr λhD=>by rw[hv2.2 hD]at e2;cases e2⟩)))))⟩
 rintro _ w7 ⟨b7,hne,hD1,hD2⟩
 have z7:=b7.size
 have h7:=h0.below (b4.trans (b7.mono z04))
 refine zf rfl ⟨ms,h7.b.cell (n:=1) rfl,?_⟩
 have hmsl:=h7.m.len
 refine zl.count g.ml.length (by omega) (λk w'=>Below w7.heap.size w7 w'/\∀o,o<k->¬zlm g i o) ⟨Below.refl _ _,λo ho=>by omega⟩ ?_
 rintro k w8 hk ⟨b8,hno⟩ next hnext
 have z8:=b8.size
 have b48:Below w4.heap.size w4 w8:=b7.trans (b8.mono z7)
 have b08:Below w.heap.size w w8:=b4.trans (b48.mono z04)
 refine zi (λhlt=>?_) (λhge=>hR false w8 b08 ⟨(λh=>by cases h),λhh=>?_⟩)
 ·have hlt:k<g.ml.length:=by dsimp only at hlt;omega
  refine zk.cut (λ_ w'=>Below w8.heap.size w8 w'/\¬zlm g i k) ?_ ?_
  ·refine zoh (h0.below b08).m (k:=k) hlt (zqs λw12 hB12 b12 z12=>?_)
   rw[Nst.kd_get hlt,Nst.to_get hlt,Nst.co_get hlt]at hB12
   refine zk.cut (λ_ w'=>Below w12.heap.size w12 w'/\k≠i/\g.kd k≠0/\k∈zp g.wx) ?_ ?_
   ·refine zj (λe=>⟨b12,λhm=>hm.1 (by dsimp only at e;omega)⟩) (λhki=>⟨_,hB12.cell0 rfl,zj (λe=>⟨b12,λhm=>hm.2.1 e⟩) (λhkk=>?_)⟩)
    have h12:=h0.below (b08.trans (b12.mono b08.size))
    refine zf rfl ⟨_,h12.b.cell (n:=2) rfl,ZC h12.dt.ok h12.wide ⟨_,rfl,zy (zm (λe=>⟨Below.refl _ _,λe'=>hki (by rw[e']),hkk,?_⟩) (λe=>⟨b12,λhm=>?_⟩))⟩⟩
    ·rw[yo h12.dt.ok,zd1]at e
     simpa using e
    ·rw[yo h12.dt.ok,zd1]at e
     have:=hm.2.2.1
     rw[<-Bool.not_eq_true]at e
     exact e (by simpa using this)
   ·rintro _ w14 ⟨b14,hki,hkk,hko⟩
    have hB14:=hB12.below b14
    have z12':=b12.size
    have b814:Below w8.heap.size w8 w14:=b12.trans (b14.mono z12')
    have hI14:=hB4.below (b48.trans (b814.mono b48.size))
    have b014:Below w.heap.size w w14:=b08.trans (b814.mono b08.size)
    refine⟨_,hB14.cell (n:=1) rfl,_,hI14.cell (n:=1) rfl,zj (λe=>yes w14 b014 (.inr (.inr (.inr ⟨k,by omega,hki,hkk,hko,.inl e⟩)))) (λhnt=>?_)⟩
    refine zj (λh2=>⟨_,hB14.cell0 rfl,zj (λh2'=>⟨_,hB14.cell (n:=2) rfl,_,hI14.cell (n:=2) rfl,zj (λe=>yes w14 b014 (.inr (.inr (.inr ⟨k,by omega,hki,hkk,hko,.inr ⟨h2,h2',e⟩⟩)))) (λe=>⟨b814,λhm=>?_⟩)⟩) (λh2'=>⟨b814,λhm=>?_⟩)⟩) (λh2=>⟨b814,λhm=>?_⟩)
    ·rcases hm.2.2.2 with h |h
     ·exact hnt h
     ·exact e h.2.2
    ·rcases hm.2.2.2 with h |h
     ·exact hnt h
     ·exact h2' h.2.1
    ·rcases hm.2.2.2 with h |h
     ·exact hnt h
     ·exact h2 h.1
  ·rintro _ w15 ⟨b15,hm⟩
   refine hnext w15 hlt ⟨b8.trans (b15.mono z8),λo ho=>?_⟩
   by_cases e:o=k
   ·subst e;exact hm
   ·exact hno o (by omega)
 ·rcases hh.2 with h |h |h | ⟨o,ho,hm⟩
  ·exact absurd h hne
  ·exact absurd hD1 h
  ·rcases h.2 with h' |h'
   ·exact absurd h' (hD2 h.1).1
   ·exact absurd (hD2 h.1).2 h'
  ·exact absurd hm (hno o (by dsimp only at hge;omega))
end
end Go.Proofs
namespace Go.Proofs
open Go.Gk
set_option linter.unusedVariables false
set_option maxRecDepth 100000
def yL:Ann:=(.q (.q .nil))
def yJ(p0:Sl)(p1:Value)(R:VWP)(w:World):Prop:=cR 272 #[.slice p0.a p0.l p0.c,p1] w λv1 w1=>∃x2:Int,v1=(.int .i64 x2)/\R (.bool (decide (x2≥(0:Int)))) w1
theorem Yu(p0)(p1)(R)(w)(h:yJ p0 p1 R w):Calls Tryz.prog 260 #[.slice p0.a p0.l p0.c,p1] w (Ret R):=lwC yL Tryz.func260 (by kernel_rfl) (by kernel_rfl) h
def Zr:Ann:=(.q (.seq none (.q (.one (.loop ⟨[0,1,7],[(8,(.b (.int .i64)))]⟩ (.q (.seq none .c (.seq none (.one (.q (.q (.cond (.q .nil) .nil)))) .nil)))))) (.q .nil)))
def Zm(p0:Sl)(p1:Value)(R:VWP)(w:World):Prop:=zl (S:=Int×Unit) (λs1 w1 n2=>ifB (decide (s1.1<(p0.l:Int))) ((0<=s1.1/\s1.1<(p0.l:Int))/\zc p0.a λa3=>ldI w1 (a3.add s1.1.toNat) .i64 λx4=>zV Tryz.prog Tryz.fs p1 [(.int .i64 x4)] w1 λv5 w2=>∃x6:Bool,v5=(.bool x6)/\ifB x6 (R (.int .i64 s1.1) w2) (n2 ((IntKind.i64.wrap (s1.1+(1:Int))),()) w2)) (R (.int .i64 (-1:Int)) w1)) (0,()) w
theorem zal(p0)(p1)(R)(w)(h:Zm p0 p1 R w):Calls Tryz.prog 272 #[.slice p0.a p0.l p0.c,p1] w (Ret R):=lwC Zr Tryz.func272 (by kernel_rfl) (by kernel_rfl) h
end Go.Proofs
namespace Go.Proofs
open Go.Gk Go.RowKit Go.Gr Go.Dm
theorem zkO{y:Value}{r:Sl}{l:List Nat}{Inv:Nat->World->Prop}{Fin:World->Prop}{w:World}{R:VWP}(hi:Inv 0 w)(hl:l.length<=4096)(hr:∀k w',Inv k w'->IsN w' r l)
  (hy:∀k (hk:k<l.length) w',Inv k w'->zV Tryz.prog Tryz.fs y [.int .i64 (l[k]:Int)] w' λv w''=>∃b:Bool,v =.bool b/\(b=true->Fin w'')/\(b=false->Inv (k+1) w''))
  (h1:∀(v:Int) w',0<=v->Fin w'->R (.int .i64 v) w') (h2:∀w',Inv l.length w'->R (.int .i64 (-1)) w'):cR 272 #[.slice r.a r.l r.c,y] w R:=by
 refine zb.of (zal r y R w ?_) λ_ _ h=>h
 refine zl.count l.length (by omega) (λk w'=>Inv k w') hi ?_
 rintro k w1 hk hi next hnext
 have hlen:=(hr k w1 hi).len
 refine zi (λhlt=>?_) (λhge=>?_)
 ·have hlt:k<l.length:=by dsimp only at hlt;omega
  refine yv (IsS.toI (hr k w1 hi)) (k:=k) (by simpa using hlt) ?_
  rw[List.getElem_map]
  exact zV.mono (hy k hlt w1 hi) λv w'' ⟨b,hv,hb1,hb2⟩=>⟨b,hv,zm (λe=>h1 _ w'' (by first |omega | (dsimp only;omega)) (hb1 e)) λe=>hnext w'' hlt (hb2 e)⟩
 ·have:k=l.length:=by dsimp only at hge;omega
  subst this
  exact h2 w1 hi
inductive Way (E:Nat->Nat->Prop) (a:Nat):Nat->Prop
 |refl:Way E a a
 |step {b c:Nat}:Way E a b->E b c->Way E a c
theorem Way.head{E:Nat->Nat->Prop}{a b c:Nat}(h:E a b)(k:Way E b c):Way E a c:=by
 induction k with
 |refl=>exact .step .refl h
 |step _ e ih=>exact .step ih e
def FE(g:Nst)(i k:Nat):Prop:=k∈g.nx.getD i []/\¬g.D (k:Int) (i:Int)
section
variable {w w':World} {nb gb:Nat} {hsl:Sl} {g:Nst} {wb tb:Nat} {ms:Sl} {R:VWP}
abbrev zqx(n:Nat)(S:Nat->Bool):List Value:=(List.range n).map λj=>.int .i64 (if S j then(1:Int) else 0)
theorem zro{n:Nat}{S:Nat->Bool}{i:Nat}:(zqx n S).set i (.int .i64 1)=zqx n λj=>S j||j==i:=by
 apply List.ext_getElem
 ·simp
 ·intro j h1 h2
  simp only[List.getElem_set,List.getElem_map,List.getElem_range]
  by_cases e:i=j
  ·subst e;simp
  ·have:(j==i)=false:=by simpa using λh=>e h.symm
   simp[e,this]
structure CM (w:World) (nb n to:Nat) (S:Nat->Bool) (w':World):Prop where
 b:Below w.heap.size w w'
 size:w.heap.size+5<=w'.heap.size
 self:Blk w' w.heap.size 159 [.pointer (some (Gk.blk nb))]
 to:Blk w' (w.heap.size+1) 3 [.int .i64 (to:Int)]
 arr:Blk w' (w.heap.size+2) 3 (zqx n S)
 sl:Blk w' (w.heap.size+3) 26 [.slice (some (Gk.blk (w.heap.size+2))) n n]
 fn:Blk w' (w.heap.size+4) 83 [.func (.func 259) #[] #[.pointer (some (Gk.blk (w.heap.size+1))),.pointer (some (Gk.blk (w.heap.size+3))),.pointer (some (Gk.blk w.heap.size)),.pointer (some (Gk.blk (w.heap.size+4)))]]
theorem CM.grow{n to:Nat}{S:Nat->Bool}{w'':World}(h:CM w nb n to S w')(hb:Below w'.heap.size w' w''):CM w nb n to S w'':=
 ⟨h.b.trans (hb.mono h.b.size),by have:=hb.size;have:=h.size;omega,h.self.below hb,h.to.below hb,h.arr.below hb,h.sl.below hb,h.fn.below hb⟩
theorem CM.see{n to:Nat}{S:Nat->Bool}(h:CM w nb n to S w')(i:Nat):CM w nb n to (λj=>S j||j==i) (w'.setCell ((Gk.blk (w.heap.size+2)).add i) (.int .i64 1)):=
 ⟨h.b.setCell (by rw[zn];show w.heap.size<=w.heap.size+2;omega) _,by have:=h.size;simpa[World.setCell] using this,h.self.other (by rw[zn];show w.heap.size≠w.heap.size+2;omega) _,h.to.other (by rw[zn];show w.heap.size+1≠w.heap.size+2;omega) _,
  zro▸h.arr.set i _,h.sl.other (by rw[zn];show w.heap.size+3≠w.heap.size+2;omega) _,h.fn.other (by rw[zn];show w.heap.size+4≠w.heap.size+2;omega) _⟩
set_option maxHeartbeats 2000000 in
theorem znY(h:Ne0 w nb gb hsl g wb tb ms){to:Nat}:∀(f i:Nat) (S:Nat->Bool) (w':World) (R:VWP),i<g.nx.length->S i=false->(List.range g.nx.length).countP (λj=>!S j)<=f->CM w nb g.nx.length to S w'->
  (∀b S' w'',CM w nb g.nx.length to S' w''->Fr w'.heap.size (·=w.heap.size+2) w' w''->(∀j,S j=true->S' j=true)->(b=true->Way (FE g) i to)->(b=false->S' i=true/\∀x,S' x=true->S x=false->x≠to/\∀k,FE g x k->S' k=true)->R (.bool b) w'')->
  Calls Tryz.prog 259 #[.int .i64 (i:Int),.pointer (some (Gk.blk (w.heap.size+1))),.pointer (some (Gk.blk (w.heap.size+3))),.pointer (some (Gk.blk w.heap.size)),.pointer (some (Gk.blk (w.heap.size+4)))] w' (Ret R):=by
 intro f
 induction f with
 |zero=>
  intro i S w' R hi hS hf
  have:0<(List.range g.nx.length).countP (λj=>!S j):=List.countP_pos_iff.2 ⟨i,List.mem_range.2 hi,by simp[hS]⟩
  omega
 |succ f ih=>
  intro i S w' R hi hS hf hc hR
  refine zdW (i:Int) _ _ _ _ R w' ?_
  refine Nw.gen λw1 hw1=>?_
  have hI1:Blk w1 w'.heap.size 3 [.int .i64 (i:Int)]:=by rw[hw1];exact Blk.new w' _ #[_]
  have b1:Below w'.heap.size w' w1:=by rw[hw1];exact(Below.refl _ _).alloc (Nat.le_refl _) _
  have z1:w1.heap.size=w'.heap.size+1:=by rw[hw1];simp
  clear hw1
  have hc1:=hc.grow b1
  have hmx:=h.ok.max
  refine⟨_,hI1.cell0 rfl,_,hc1.to.cell0 rfl,zj (λe=>?_) (λhne=>?_)⟩
  ·have e:i=to:=by omega
   subst e
   exact hR true S w1 hc1 (Fr.of_below b1) (λj hj=>hj) (λ_=>.refl) (λh=>by cases h)
  have hne:i≠to:=λe=>hne (by rw[e])
  refine⟨⟨_,g.nx.length,g.nx.length⟩,hc1.sl.cell0 rfl,_,hI1.cell0 rfl,⟨by omega,by show(i:Int)<(g.nx.length:Int);omega⟩,zf rfl ⟨?_,Nw.gen λw2 hw2=>?_⟩⟩
  ·exact hc1.arr.wr (n:=i) (by simpa using hi)
  rw[show Int.toNat (i:Int)=i from rfl]at hw2
  have hc2:CM w nb g.nx.length to (λj=>S j||j==i) w2.drew:=by rw[hw2];exact(hc1.see i).grow (Below.refl _ _).drew
  have hI2:Blk w2.drew w'.heap.size 3 [.int .i64 (i:Int)]:=by
   have:=hc.size
   rw[hw2];exact(hI1.other (by rw[zn];show w'.heap.size≠w.heap.size+2;omega) _).drew
  have z2:w2.drew.heap.size=w'.heap.size+1:=by rw[hw2];simpa[World.setCell] using z1
  have fr2:Fr w'.heap.size (·=w.heap.size+2) w' w2.drew:=by rw[hw2];exact((Fr.of_below b1).set (.inr (by rw[zn])) _).drew
  clear hw2 hc1 hI1
  generalize w2.drew=w2d at *
  have h2:=h.below hc2.b
  refine⟨_,hc2.self.cell0 rfl,zf rfl ⟨_,h2.b.cell0 rfl,_,hI2.cell0 rfl,?_⟩⟩
  refine zeK h2.ok h2.gr λr w3 o3 f3 b3=>⟨r,rfl,?_⟩
  rw[zU]at o3
  have hc3:=hc2.grow b3
  have fr3:Fr w'.heap.size (·=w.heap.size+2) w' w3:=fr2.trans (Fr.of_below (b3.mono (by omega)))
  have hcs:=hc.size
  have hne3:∀a,r.a=some a->a.block≠w.heap.size+2:=λa ha=>by have:=f3 a ha;omega
  have hI3:=hI2.below b3
  have hrow:=h.ok.rows i
  have hrl:=h.ok.row_le i
  obtain⟨row,hrw⟩:∃row,row=g.nx.getD i []:=⟨_,rfl⟩
  rw[<-hrw]at o3 hrow hrl
  have hS1:(List.range g.nx.length).countP (λj=>!(S j||j==i))<=f:=by
   have:=zjP (p:=λj=>!(S j||j==i)) (q:=λj=>!S j) (l:=List.range g.nx.length) (λx hx=>by simp only[Bool.not_or,Bool.and_eq_true]at hx;exact hx.1) ⟨i,List.mem_range.2 hi,by simp[hS],by simp⟩
   omega
  refine zb.of (Yu r _ _ w3 ?_) λ_ _ h=>h
  have z3:=b3.size
  let Inv:Nat->World->Prop:=λk wk=>∃S',CM w nb g.nx.length to S' wk/\Blk wk w'.heap.size 3 [.int .i64 (i:Int)]/\IsN wk r row/\Fr w'.heap.size (·=w.heap.size+2) w' wk/\(∀j,(S j||j==i)=true->S' j=true)/\(∀j (hj:j<row.length),j<k->FE g i row[j]->S' row[j]=true)/\
   ∀x,S' x=true->(S x||x==i)=false->x≠to/\∀k,FE g x k->S' k=true
  let Fin:World->Prop:=λwk=>∃S',CM w nb g.nx.length to S' wk/\Fr w'.heap.size (·=w.heap.size+2) w' wk/\(∀j,S j=true->S' j=true)/\Way (FE g) i to
  refine zkO (l:=row) (Inv:=Inv) (Fin:=Fin)
   ⟨_,hc3,hI3,o3.isS,fr3,λj hj=>hj,λj hj hk=>by omega,λx h1 h2=>by rw[h1]at h2;cases h2⟩ (by omega) (λk wk ⟨S',_,_,hr,_⟩=>hr) ?_ ?_ ?_
  ·rintro k hk wk ⟨S',hck,hIk,hr,hfr,hs1,hs2,hs3⟩
   have hkn:=hrow _ (List.getElem_mem hk)
   have hc215:Tryz.fs.contains 261=true:=by kernel_rfl
   unfold zV
   simp only[hc215]
   refine zcL (row[k]:Int) (Gk.blk (w.heap.size+3)) (Gk.blk w.heap.size) (Gk.blk w'.heap.size) (Gk.blk (w.heap.size+4)) _ wk ?_
   have skip:∀wq,Below wk.heap.size wk wq->(FE g i row[k]->S' row[k]=true)->∃b:Bool,Value.bool false =.bool b/\(b=true->Fin wq)/\(b=false->Inv (k+1) wq):=λwq hb hq=>
    ⟨false,rfl,(λh=>by cases h),λ_=>⟨S',hck.grow hb,hIk.below hb,hr.below hb,hfr.trans (Fr.of_below (hb.mono hfr.size)),hs1,(λj hj hjk hfe=>by
     by_cases e:j=k
     ·subst e;exact hq hfe
     ·exact hs2 j hj (by omega) hfe),hs3⟩⟩
   refine⟨⟨_,g.nx.length,g.nx.length⟩,hck.sl.cell0 rfl,⟨by omega,by show((row[k]:Nat):Int)<(g.nx.length:Int);omega⟩,zf rfl ⟨_,hck.arr.cell (n:=row[k]) (by rw[List.getElem?_map,List.getElem?_range hkn];rfl),?_⟩⟩
   refine zj (λh0=>?_) (λh1=>skip wk (Below.refl _ _) λ_=>?_)
   ·have hSk:S' row[k]=false:=by
     cases e:S' row[k] with
     |false=>rfl
     |true=>rw[e]at h0;simp at h0
    refine⟨_,hck.self.cell0 rfl,_,hIk.cell0 rfl,yy (h.below hck.b) λv wq bq hv=>⟨v,rfl,zy (zm (λe=>skip wq bq λhfe=>absurd (hv.1 e) hfe.2) (λe=>?_))⟩⟩
    have hcq:=hck.grow bq
    have hnD:¬g.D (row[k]:Int) (i:Int):=λhD=>by rw[hv.2 hD]at e;cases e
    refine⟨_,hcq.fn.cell0 rfl,?_⟩
    have hc214:Tryz.fs.contains 259=true:=by kernel_rfl
    unfold zV
    simp only[hc214]
    have hfe:FE g i row[k]:=⟨hrw▸List.getElem_mem hk,hnD⟩
    have frq:Fr w'.heap.size (·=w.heap.size+2) w' wq:=hfr.trans (Fr.of_below (bq.mono hfr.size))
    refine ih row[k] S' wq _ hkn hSk (Nat.le_trans (List.countP_mono_left λx _ hx=>?_) hS1) hcq λb S2 w2 hc2' fr2' hsub ht hfa=>⟨b,rfl,b,rfl,λe=>⟨S2,hc2',frq.trans (fr2'.mono frq.size λ_ _ h=>h),λj hj=>hsub j (hs1 j (by simp[hj])),.head hfe (ht e)⟩,λe=>?_⟩
    ·cases e1:(S x||x==i) with
     |false=>rfl
     |true=>rw[hs1 x e1]at hx;simp at hx
    ·obtain⟨q1,q2⟩:=hfa e
     refine⟨S2,hc2',(hIk.below bq).of_block (fr2'.block _ (hIk.below bq).lt (by omega)),(hr.below bq).fr fr2' (Nat.le_refl _) hne3,frq.trans (fr2'.mono frq.size λ_ _ h=>h),λj hj=>hsub j (hs1 j hj),λj hj hjk hfe'=>?_,λx hx1 hx2=>?_⟩
     ·by_cases e':j=k
      ·subst e';exact q1
      ·exact hsub _ (hs2 j hj (by omega) hfe')
     ·cases e':S' x with
      |false=>exact q2 x hx1 e'
      |true=>
       have:=hs3 x e' hx2
       exact⟨this.1,λk hk=>hsub _ (this.2 k hk)⟩
   ·cases e:S' row[k] with
    |true=>rfl
    |false=>rw[e]at h1;simp at h1
  ·rintro v wk hv ⟨S',hck,hfr,hs,ht⟩
   refine⟨v,rfl,⟨true,by rw[decide_eq_true (show v≥0 from hv)],hR true S' wk hck hfr hs (λ_=>ht) (λh=>by cases h)⟩⟩
  ·rintro wk ⟨S',hck,hIk,hr,hfr,hs1,hs2,hs3⟩
   refine⟨-1,rfl,⟨false,rfl,hR false S' wk hck hfr (λj hj=>hs1 j (by simp[hj])) (λh=>by cases h) λ_=>⟨hs1 i (by simp),λx hx1 hx2=>?_⟩⟩⟩
   by_cases e:x=i
   ·subst e
    refine⟨hne,λk hk=>?_⟩
    have hm:k∈row:=hrw▸hk.1
    obtain⟨j,hj,rfl⟩:=List.mem_iff_getElem.1 hm
    exact hs2 j hj hj hk
   ·exact hs3 x hx1 (by simp[hx2,e])
theorem zpu(h:Ne0 w nb gb hsl g wb tb ms){a b:Nat}(ha:a<g.nx.length)(hR:∀(v:Bool) w',Below w.heap.size w w'->(v=true↔Way (FE g) a b)->R (.bool v) w') :
  cR 229 #[.pointer (some (Gk.blk nb)),.int .i64 (a:Int),.int .i64 (b:Int)] w R:=by
 refine zb.of (zfr _ (a:Int) (b:Int) R w ?_) λ_ _ h=>h
 unfold ZS
 have hmx:=h.ok.max
 refine Nw.gen λw1 hw1=>Nw.gen λw2 hw2=>?_
 have h1:Blk w1 w.heap.size 159 [.pointer (some (Gk.blk nb))]:=by rw[hw1];exact Blk.new w _ #[_]
 have z1:w1.heap.size=w.heap.size+1:=by rw[hw1];simp
 have h2:Blk w2 w1.heap.size 3 [.int .i64 (b:Int)]:=by rw[hw2];exact Blk.new w1 _ #[_]
 have h1':Blk w2 w.heap.size 159 [.pointer (some (Gk.blk nb))]:=by rw[hw2];exact h1.alloc _
 have z2:w2.heap.size=w.heap.size+2:=by rw[hw2,hw1];simp
 have b2:Below w.heap.size w w2:=by rw[hw2,hw1];exact((Below.refl _ _).alloc (Nat.le_refl _) _).alloc (by simp) _
 clear hw2 hw1 h1
 rw[z1]at h2⊢
 have e2:=h.below b2
 refine⟨_,h1'.cell0 rfl,zf rfl ⟨_,e2.b.cell0 rfl,zba e2.gr ⟨_,rfl,ziu (.inr (.inl rfl)) hmx,?_⟩⟩⟩
 rw[show Int.toNat (g.nx.length:Int)=g.nx.length from rfl,z2]
 refine Nw.gen λw4 hw4=>?_
 have hA4:Blk w4 w2.heap.size 3 (List.replicate g.nx.length (.int .i64 (0:Int))):=by rw[hw4];exact Blk.made w2 _ _ _
 have b4:Below w2.heap.size w2 w4:=by rw[hw4];exact(Below.refl _ _).alloc (Nat.le_refl _) _
 have z4:w4.heap.size=w2.heap.size+1:=by rw[hw4];simp
 clear hw4
 refine Nw.gen λw5 hw5=>?_
 have hS5:Blk w5 w4.heap.size 26 [.slice none 0 0]:=by rw[hw5];exact Blk.new w4 _ #[_]
 have b5:Below w4.heap.size w4 w5:=by rw[hw5];exact(Below.refl _ _).alloc (Nat.le_refl _) _
 have z5:w5.heap.size=w4.heap.size+1:=by rw[hw5];simp
 clear hw5
 refine⟨hS5.wr0 (by simp),Nw.gen λw6 hw6=>?_⟩
 have hS6:Blk w6 w4.heap.size 26 [.slice (some (Gk.blk (w.heap.size+2))) g.nx.length g.nx.length]:=by rw[hw6];exact hS5.set0 _
 have b6:Below w4.heap.size w4 w6:=by rw[hw6];exact b5.setCell (Nat.le_refl _) _
 have z6:w6.heap.size=w4.heap.size+1:=by rw[hw6];simpa[World.setCell] using z5
 clear hw6 hS5 b5 z5
 refine Nw.gen λw7 hw7=>?_
 have hF7:Blk w7 w6.heap.size 83 [.nilFunc]:=by rw[hw7];exact Blk.new w6 _ #[_]
 have b7:Below w6.heap.size w6 w7:=by rw[hw7];exact(Below.refl _ _).alloc (Nat.le_refl _) _
 have z7:w7.heap.size=w6.heap.size+1:=by rw[hw7];simp
 clear hw7
 refine⟨hF7.wr0 (by simp),Nw.gen λw8 hw8=>?_⟩
 have hF8:=hF7.set0 (.func (.func 259) #[] #[.pointer (some (Gk.blk (w.heap.size+1))),.pointer (some (Gk.blk w4.heap.size)),.pointer (some (Gk.blk w.heap.size)),.pointer (some (Gk.blk w6.heap.size))])
 have b8:Below w6.heap.size w6 w8:=by rw[hw8];exact b7.setCell (Nat.le_refl _) _
 have z8:w8.heap.size=w6.heap.size+1:=by rw[hw8];simpa[World.setCell] using z7
 rw[<-hw8]at hF8
 clear hw8 hF7 b7 z7
 have y4:w4.heap.size=w.heap.size+3:=by omega
 have y6:w6.heap.size=w.heap.size+4:=by omega
 have h28:Below w2.heap.size w2 w8:=b4.trans ((b6.mono (by omega)).trans (b8.mono (by omega)))
 have hcm:CM w nb g.nx.length b (λ_=>false) w8:=by
  refine⟨b2.trans (h28.mono (by omega)),by omega,h1'.below h28,h2.below h28,?_,y4▸hS6.below b8,?_⟩
  ·have:=(hA4.below b6).below b8
   rw[z2]at this
   have e:zqx g.nx.length (λ_=>false)=List.replicate g.nx.length (.int .i64 (0:Int)):=by
    apply List.ext_getElem
    ·simp
    ·intro j h1 h2;simp
   rw[e]
   exact this
  ·rw[y4,y6]at hF8
   simpa using hF8
 rw[y6]
 refine⟨_,hcm.fn.cell0 rfl,?_⟩
 have hc214:Tryz.fs.contains 259=true:=by kernel_rfl
 unfold zV
 simp only[hc214]
 refine znY h (to:=b) g.nx.length a (λ_=>false) w8 _ ha rfl (Nat.le_trans List.countP_le_length (by simp)) hcm λv S' w9 hc9 _ _ ht hfa=>⟨v,rfl,hR v w9 hc9.b ⟨ht,λhw=>?_⟩⟩
 cases e:v with
 |true=>rfl
 |false=>
  obtain⟨q1,q2⟩:=hfa e
  have:∀x,Way (FE g) a x->S' x=true:=λx hx=>by
   induction hx with
   |refl=>exact q1
   |step _ hfe ih=>exact(q2 _ ih rfl).2 _ hfe
  exact absurd rfl (q2 b (this b hw) rfl).1
end
end Go.Proofs
namespace Go.Proofs
open Go.Gk Go.RowKit Go.Gr Go.Dm
def zmq(g:Nst)(i v:Nat):Prop:=(g.D (v:Int) (i:Int)/\(g.kd v≠2\/¬g.D (g.co v) (i:Int)))\/(¬g.D (v:Int) (i:Int)/\Way (FE g) v i)
open Classical in
noncomputable def zgs(g:Nst)(i u:Nat):Bool:=decide (g.D (i:Int) (u:Int))
theorem zhj{g:Nst}{i u:Nat}:zgs g i u=true↔g.D (i:Int) (u:Int):=by simp[zgs]
def zqb(g:Nst)(i:Nat):Prop:=(∃v∈g.nx.getD i [],zmq g i v)\/2<=((zJ g.nx).getD i []).countP (zgs g i)
section
variable {w w':World} {nb gb:Nat} {hsl:Sl} {g:Nst} {wb tb:Nat} {ms:Sl} {R:VWP}
set_option maxHeartbeats 2000000 in
theorem zqA(h:Ne w nb gb g){i:Nat}(hi:i<g.nx.length)(hR:∀(b:Bool) w',Below w.heap.size w w'->(b=true↔zqb g i)->R (.bool b) w') :
  cR 178 #[.pointer (some (Gk.blk nb)),.int .i64 (i:Int)] w R:=by
 refine zb.of (zfQ _ (i:Int) R w ?_) λ_ _ h=>h
 obtain⟨hsl,hh,wb,tb,ms,h0,hn⟩:=h.ex
 clear h hn hh
 have hml:=h0.fit.1
 have hmx:=h0.ok.max
 refine zf rfl ⟨_,h0.b.cell0 rfl,zeK h0.ok h0.gr λr w1 o1 _ b1=>⟨r,rfl,?_⟩⟩
 rw[zU]at o1
 have hrow:=h0.ok.rows i
 have hrl:=h0.ok.row_le i
 obtain⟨row,hrw⟩:∃row,row=g.nx.getD i []:=⟨_,rfl⟩
 have hin:∀{v},v∈row->v∈g.nx.getD i []:=λh=>hrw▸h
 rw[<-hrw]at o1 hrow hrl
 have hl1:=yh o1
 have z1:=b1.size
 have h1:=h0.below b1
 refine zl.count row.length (by omega) (λk w'=>Below w1.heap.size w1 w'/\∀j (hj:j<row.length),j<k->¬zmq g i row[j]) ⟨Below.refl _ _,λj hj hk=>by omega⟩ ?_
 rintro k w2 hk ⟨b2,hno⟩ next hnext
 have z2:=b2.size
 have h2:=h1.below b2
 refine zi (λhlt=>?_) (λhge=>?_)
 ·have hlt:k<row.length:=by dsimp only at hlt;omega
  have hvn:=hrow _ (List.getElem_mem hlt)
  have yes:∀w',Below w2.heap.size w2 w'->zmq g i row[k]->R (.bool true) w':=λw' hb he=>hR true w' (b1.trans ((b2.trans (hb.mono z2)).mono z1)) ⟨λ_=>.inl ⟨row[k],hin (List.getElem_mem hlt),he⟩,λ_=>rfl⟩
  refine zk.cut (λ_ w'=>Below w2.heap.size w2 w'/\¬zmq g i row[k]) ?_ ?_
  ·refine yv (IsS.toI (o1.below b2).isS) (k:=k) (by simpa using hlt) ?_
   rw[List.getElem_map]
   refine zf rfl ⟨ms,h2.b.cell (n:=1) rfl,zoh h2.m (k:=row[k]) (by omega) (zqs λw6 hB6 b6 z6=>?_)⟩
   rw[Nst.kd_get (by omega),Nst.to_get (by omega),Nst.co_get (by omega)]at hB6
   have h6:=h2.below b6
   refine yy h6 λv w7 b7 hv=>⟨v,rfl,zm (λe=>?_) (λe=>?_)⟩
   ·have hB7:=hB6.below b7
    have b27:Below w2.heap.size w2 w7:=b6.trans (b7.mono (by omega))
    refine⟨_,hB7.cell0 rfl,zr (λhne=>yes w7 b27 (.inl ⟨hv.1 e,.inl hne⟩)) (λhk2=>⟨_,hB7.cell (n:=2) rfl,?_⟩)⟩
    refine yy (h6.below b7) λv2 w8 b8 hv2=>⟨v2,rfl,zy (zm (λe2=>⟨b27.trans (b8.mono b27.size),λhe=>?_⟩) (λe2=>yes w8 (b27.trans (b8.mono b27.size)) (.inl ⟨hv.1 e,.inr λhD=>by rw[hv2.2 hD]at e2;cases e2⟩)))⟩
    rcases he with⟨_,h |h⟩ | ⟨h,_⟩
    ·exact h hk2
    ·exact h (hv2.1 e2)
    ·exact h (hv.1 e)
   ·have b27:Below w2.heap.size w2 w7:=b6.trans (b7.mono (by omega))
    have hnD:¬g.D (row[k]:Int) (i:Int):=λhD=>by rw[hv.2 hD]at e;cases e
    refine zpu (h6.below b7) hvn λv2 w9 b9 hv2=>⟨v2,rfl,zm (λe2=>yes w9 (b27.trans (b9.mono b27.size)) (.inr ⟨hnD,hv2.1 e2⟩)) (λe2=>⟨b27.trans (b9.mono b27.size),λhe=>?_⟩)⟩
    rcases he with⟨h,_⟩ | ⟨_,h⟩
    ·exact hnD h
    ·rw[hv2.2 h]at e2;cases e2
  ·rintro _ w10 ⟨b10,hn⟩
   refine hnext w10 hlt ⟨b2.trans (b10.mono z2),λj hj hjk=>?_⟩
   by_cases e:j=k
   ·subst e;exact hn
   ·exact hno j hj (by omega)
 ·have hk':k=row.length:=by dsimp only at hge;omega
  subst hk'
  have none:¬∃v∈g.nx.getD i [],zmq g i v:=λ⟨v,hv,he⟩=>by
   rw[<-hrw]at hv
   obtain⟨j,hj,rfl⟩:=List.mem_iff_getElem.1 hv
   exact hno j hj hj he
  refine zf rfl ⟨_,h2.b.cell0 rfl,zlc h2.ok h2.gr λr2 w11 o11 _ b11=>⟨r2,rfl,?_⟩⟩
  rw[zU]at o11
  have hal:=zgF g.nx i
  obtain⟨ah,hah⟩:∃ah,ah=(zJ g.nx).getD i []:=⟨_,rfl⟩
  rw[<-hah]at o11 hal
  have hl2:=yh o11
  have z11:=b11.size
  have h11:=h2.below b11
  refine zl.countS ah.length (by omega) (λk (c:Int) w'=>Below w11.heap.size w11 w'/\c=((ah.take k).countP (zgs g i):Int)) ⟨Below.refl _ _,by simp⟩ ?_
  rintro k c w12 hk ⟨b12,rfl⟩ next hnext
  have z12:=b12.size
  have h12:=h11.below b12
  refine zi (λhlt=>?_) (λhge=>?_)
  ·have hlt:k<ah.length:=by dsimp only at hlt;omega
   have hcl:(ah.take k).countP (zgs g i)<=k:=Nat.le_trans List.countP_le_length (by rw[List.length_take];omega)
   have hst:(ah.take (k+1)).countP (zgs g i)=(ah.take k).countP (zgs g i)+if zgs g i ah[k] then 1 else 0:=by
    rw[List.take_succ_eq_append_getElem hlt,List.countP_append,List.countP_singleton]
   refine zk.cut (λs w'=>Below w12.heap.size w12 w'/\s.1=((ah.take (k+1)).countP (zgs g i):Int)) ?_ ?_
   ·refine yv (IsS.toI (o11.below b12).isS) (k:=k) (by simpa using hlt) ?_
    rw[List.getElem_map]
    refine yy h12 λv w13 b13 hv=>⟨v,rfl,zm (λe=>⟨b13,?_⟩) (λe=>⟨b13,?_⟩)⟩
    ·rw[hst,if_pos (zhj.2 (hv.1 e))]
     dsimp only
     rw[zE (by omega)]
    ·rw[hst,if_neg]
     ·rfl
     ·rw[zhj];exact λhD=>by rw[hv.2 hD]at e;cases e
   ·rintro⟨c',_⟩ w14 ⟨b14,hc'⟩
    have hc':c'=_:=hc'
    exact hnext c' w14 hlt ⟨b12.trans (b14.mono z12),hc'⟩
  ·have hk':k=ah.length:=by dsimp only at hge;omega
   subst hk'
   rw[List.take_length]
   have e:decide ((((ah.countP (zgs g i):Nat):Int))≥2)=decide (2<=ah.countP (zgs g i)):=by rw[decide_eq_decide];omega
   rw[e]
   refine hR _ w12 (b1.trans ((b2.trans ((b11.trans (b12.mono z11)).mono z2)).mono z1)) ?_
   rw[decide_eq_true_eq,hah]
   exact⟨λh=>.inr h,λh=>h.resolve_left none⟩
open Classical in
noncomputable def zfl(g:Nst)(t h:Nat):Bool:=decide (¬g.In h t)
theorem zfm{g:Nst}{t h:Nat}:zfl g t h=true↔¬g.In h t:=by simp[zfl]
noncomputable def YF(g:Nst)(i t:Nat):List Nat:=(g.hd i).filter (zfl g t)
noncomputable def zd6(g:Nst)(i:Nat)(kl:List Int):Int:=zlE ((g.hd i).filter λx=>kl.contains (g.kd x))
theorem zov(l:List Nat):(zlE l=-1/\l=[])\/∃x∈l,zlE l=(x:Int):=by
 unfold zlE
 cases e:l.getLast? with
 |none=>exact .inl ⟨rfl,List.getLast?_eq_none_iff.1 e⟩
 |some x=>exact .inr ⟨x,List.mem_of_getLast? e,rfl⟩
def MayP(g:Nst)(i t:Nat):Prop:=
 (∀h∈g.hd t,h≠t->g.In h i)/\(YF g i t=[]\/∃h,(YF g i t).head? =some h/\
  (((t:Int)=g.to h/\((YF g i t).length=1\/(h:Int)=zd6 g i [2,3]))\/∃o:Nat,zd6 g i [2]=(o:Int)/\(t:Int)=g.co o/\g.In o t))
set_option maxHeartbeats 4000000 in
theorem zra(h:Ne w nb gb g){i t:Nat}(hi:i<g.nx.length)(ht:t<g.nx.length)(hR:∀(b:Bool) w',Below w.heap.size w w'->(b=true↔MayP g i t)->R (.bool b) w') :
  cR 230 #[.pointer (some (Gk.blk nb)),.int .i64 (i:Int),.int .i64 (t:Int)] w R:=by
 refine zb.of (zg3 _ (i:Int) (t:Int) R w ?_) λ_ _ h=>h
 obtain⟨hsl,hh,wb,tb,ms,h0,hn⟩:=h.ex
 have hml:=h0.fit.1
 have hmx:=h0.ok.max
 refine zf rfl ⟨hsl,h0.b.cell (n:=4) rfl,znq hn ht λs hs=>?_⟩
 have hsl1:=hs.len
 have hdl:=h0.hd_len t
 refine zl.count (g.hd t).length (by omega) (λk w'=>w'=w/\∀j (hj:j<(g.hd t).length),j<k->(g.hd t)[j]≠t->g.In (g.hd t)[j] i) ⟨rfl,λj hj hk=>by omega⟩ ?_
 rintro k wk hk ⟨ewk,hall⟩ next hnext
 subst wk
 refine zi (λhlt=>?_) (λhge=>?_)
 ·have hlt:k<(g.hd t).length:=by dsimp only at hlt;omega
  refine zk.cut (λ_ w'=>w'=w/\((g.hd t)[k]≠t->g.In (g.hd t)[k] i)) ?_ ?_
  ·refine yv (IsS.toI hs) (k:=k) (by simpa using hlt) ?_
   rw[List.getElem_map]
   refine zr (λhne=>?_) (λe=>⟨rfl,λhne=>absurd (by omega) hne⟩)
   have hne:(g.hd t)[k]≠t:=λe=>hne (by rw[e])
   refine zhv h hi λb hb=>⟨b,rfl,zy (zm (λe=>⟨rfl,λ_=>hb.1 e⟩) (λe=>hR false w (Below.refl _ _) ⟨(λh=>by cases h),λhm=>?_⟩))⟩
   rw[hb.2 (hm.1 _ (List.getElem_mem hlt) hne)]at e
   cases e
  ·rintro _ wk ⟨ewk,hk1⟩
   subst wk
   refine hnext w hlt ⟨rfl,λj hj hjk=>?_⟩
   by_cases e:j=k
   ·subst e;exact hk1
   ·exact hall j hj (by omega)
 ·have hall:∀h∈g.hd t,h≠t->g.In h i:=λx hx=>by
   obtain⟨j,hj,rfl⟩:=List.mem_iff_getElem.1 hx
   exact hall j hj (by dsimp only at hge;omega)
  refine zf rfl ⟨hsl,h0.b.cell (n:=4) rfl,znq hn hi λs2 hs2=>?_⟩
  have hsl2:=hs2.len
  have hdl2:=h0.hd_len i
  have hfl:∀k,(((g.hd i).take k).filter (zfl g t)).length<=4097:=λk=>by
   have:=List.length_filter_le (zfl g t) ((g.hd i).take k)
   rw[List.length_take]at this
   omega
  refine zl.countS (g.hd i).length (by omega) (λk (l:Sl) w'=>Below w.heap.size w w'/\w.heap.size<=w'.heap.size/\Own w' 3 1 l ((((g.hd i).take k).filter (zfl g t)).map iN)/\zw w.heap.size l) ⟨Below.refl _ _,Nat.le_refl _,Own.nil _ _ _,λa ha=>by cases ha⟩ ?_
  rintro k l w4 hk ⟨hb,hz,ho,hf⟩ next hnext
  refine zi (λhlt=>?_) (λhge=>?_)
  ·have hlt:k<(g.hd i).length:=by dsimp only at hlt;omega
   have hst:((g.hd i).take (k+1)).filter (zfl g t)=((g.hd i).take k).filter (zfl g t)++if zfl g t (g.hd i)[k] then [(g.hd i)[k]] else []:=by
    rw[List.take_succ_eq_append_getElem hlt,List.filter_append]
    by_cases hp:zfl g t (g.hd i)[k]=true
    ·simp[hp]
    ·simp[hp]
   refine zk.cut (λs w'=>Below w.heap.size w w'/\w.heap.size<=w'.heap.size/\Own w' 3 1 s.1 ((((g.hd i).take (k+1)).filter (zfl g t)).map iN)/\zw w.heap.size s.1) ?_ ?_
   ·refine yv (IsS.toI (hs2.below hb)) (k:=k) (by simpa using hlt) ?_
    rw[List.getElem_map]
    refine zhv (h.below hb) ht λb hbv=>⟨b,rfl,zy (zm (λe=>⟨hb,hz,?_,hf⟩) (λe=>?_))⟩
    ·rw[hst,if_neg,List.append_nil]
     ·exact ho
     ·rw[zfm];exact λhn=>hn (hbv.1 e)
    ·have hfk:=hfl k
     refine Yi (y:=(g.hd i)[k]) rfl hb hz ho hf (by omega) λr w7 q1 q2 q3 q4=>⟨q1,q2,?_,q4⟩
     rw[hst,if_pos]
     ·exact q3
     ·rw[zfm];exact λhn=>by rw[hbv.2 hn]at e;cases e
   ·rintro⟨l',_⟩ w8 ⟨q1,q2,q3,q4⟩
    exact hnext l' w8 hlt ⟨q1,q2,q3,q4⟩
  ·have hk':k=(g.hd i).length:=by dsimp only at hge;omega
   subst hk'
   rw[List.take_length]at ho
   obtain⟨L,hL⟩:∃L,L=YF g i t:=⟨_,rfl⟩
   have ho:Own w4 3 1 l (L.map iN):=by rw[hL];exact ho
   have hll:=yh ho
   have hm:MayP g i t↔(L=[]\/∃h,L.head? =some h/\(((t:Int)=g.to h/\(L.length=1\/(h:Int)=zd6 g i [2,3]))\/∃o:Nat,zd6 g i [2]=(o:Int)/\(t:Int)=g.co o/\g.In o t)):=by
    rw[hL];exact⟨λh=>h.2,λh=>⟨hall,h⟩⟩
   dsimp only
   refine zj (λe=>hR true w4 hb ⟨λ_=>hm.2 (.inl (List.eq_nil_of_length_eq_zero (by omega))),λ_=>rfl⟩) (λhne=>?_)
   cases hLc:L with
   |nil=>rw[hLc]at hll;simp at hll;omega
   |cons x L'=>
   have hxm:x∈g.hd i:=by
    have:x∈YF g i t:=by rw[<-hL,hLc];exact List.mem_cons_self
    exact(List.mem_filter.1 this).1
   have hxn:=h0.in_lt (h0.hd_mem.1 hxm)
   have hln:∀kl,zd6 g i kl=-1\/∃o:Nat,zd6 g i kl=(o:Int)/\o<g.nx.length:=λkl=>by
    rcases zov ((g.hd i).filter λx=>kl.contains (g.kd x)) with h | ⟨o,h1,h2⟩
    ·exact .inl h.1
    ·exact .inr ⟨o,h2,h0.in_lt (h0.hd_mem.1 (List.mem_filter.1 h1).1)⟩
   rw[hLc]at hm hll
   have hoS:=ho.isS
   obtain⟨a,ha⟩:=hoS.base (i:=0) (by rw[hLc];simp)
   have hc0:=hoS.cell a ha 0 (by rw[hLc];simp)
   have hx0:L[0]'(by rw[hLc];simp)=x:=by simp[hLc]
   rw[hx0]at hc0
   have h4:=h0.below hb
   refine⟨⟨by omega,by simp at hll;omega⟩,zf ha ⟨(x:Int),hc0,?_⟩⟩
   refine zk.cut (λ_ w'=>Below w.heap.size w w'/\¬((t:Int)=g.to x/\((x::L').length=1\/(x:Int)=zd6 g i [2,3]))) ?_ ?_
   ·refine zf rfl ⟨ms,h4.b.cell (n:=1) rfl,zim h4.m (k:=x) (by omega) ?_⟩
    rw[Nst.to_get (by omega)]
    refine zj (λe=>?_) (λe=>⟨hb,λh=>e h.1⟩)
    have yes:∀w',Below w.heap.size w w'->((x::L').length=1\/(x:Int)=zd6 g i [2,3])->R (.bool true) w':=λw' hb' hor=>hR true w' hb' ⟨λ_=>hm.2 (.inr ⟨x,rfl,.inl ⟨e,hor⟩⟩),λ_=>rfl⟩
    refine zj (λe1=>yes w4 hb (.inl (by omega))) (λe1=>?_)
    refine Nw.gen λw9 hw9=>?_
    have hK:Blk w9 w4.heap.size 5 ([2,3].map (Value.int .u8)):=by rw[hw9];exact Blk.new w4 _ #[_,_]
    have b9:Below w4.heap.size w4 w9:=by rw[hw9];exact(Below.refl _ _).alloc (Nat.le_refl _) _
    clear hw9
    refine zmG ((h.below hb).below b9) hi (ks:=⟨some (Gk.blk w4.heap.size),2,2⟩) (kl:=[2,3]) (Blk.isS (f:=Value.int .u8) (l:=[2,3]) hK rfl rfl (Nat.le_refl _) (show 2<=9223372036854775807 by decide)) λw10 b10=>⟨_,rfl,?_⟩
    have b10':Below w.heap.size w w10:=hb.trans ((b9.trans (b10.mono b9.size)).mono hz)
    exact zj (λe2=>yes w10 b10' (.inr e2)) (λe2=>⟨b10',λh=>h.2.elim (λh=>e1 (by omega)) e2⟩)
   ·rintro _ w11 ⟨b11,hno⟩
    have hm2:MayP g i t↔∃o:Nat,zd6 g i [2]=(o:Int)/\(t:Int)=g.co o/\g.In o t:=hm.trans ⟨λh=>by
     rcases h with h | ⟨y,hy,h⟩
     ·cases h
     ·cases hy
      exact h.resolve_left hno,λh=>.inr ⟨x,rfl,.inr h⟩⟩
    have z11:=b11.size
    refine Nw.gen λw12 hw12=>?_
    have hK:Blk w12 w11.heap.size 5 ([2].map (Value.int .u8)):=by rw[hw12];exact Blk.new w11 _ #[_]
    have b12:Below w11.heap.size w11 w12:=by rw[hw12];exact(Below.refl _ _).alloc (Nat.le_refl _) _
    clear hw12
    refine zmG ((h.below b11).below b12) hi (ks:=⟨some (Gk.blk w11.heap.size),1,1⟩) (kl:=[2]) (Blk.isS (f:=Value.int .u8) (l:=[2]) hK rfl rfl (Nat.le_refl _) (show 1<=9223372036854775807 by decide)) λw13 b13=>⟨zd6 g i [2],rfl,?_⟩
    have b13':Below w.heap.size w w13:=b11.trans ((b12.trans (b13.mono b12.size)).mono z11)
    have no:∀w',Below w.heap.size w w'->(∀o:Nat,zd6 g i [2]=(o:Int)->(t:Int)=g.co o->¬g.In o t)->R (.bool false) w':=λw' hb' hq=>hR false w' hb' ⟨(λh=>by cases h),λh=>by
     obtain⟨o,q1,q2,q3⟩:=hm2.1 h
     exact absurd q3 (hq o q1 q2)⟩
    rcases hln [2] with hm1 | ⟨o,ho2,hon⟩
    ·rw[hm1]
     exact zi (λh=>absurd h (by decide)) λ_=>no w13 b13' λo h=>by omega
    ·rw[ho2]
     have h13:=h0.below b13'
     refine zi (λ_=>zf rfl ⟨ms,h13.b.cell (n:=1) rfl,zl3 h13.m (k:=o) (by omega) ?_⟩) (λh=>absurd h (by omega))
     rw[Nst.co_get (by omega)]
     refine zj (λe=>zhv (h.below b13') ht λb hbv=>⟨b,rfl,hR b w13 b13' (hbv.trans ⟨λh=>hm2.2 ⟨o,ho2,e,h⟩,λh=>?_⟩)⟩) (λe=>no w13 b13' λo' q1 q2=>?_)
     ·obtain⟨o',q1,q2,q3⟩:=hm2.1 h
      have:o'=o:=by omega
      subst this
      exact q3
     ·have:o'=o:=by omega
      subst this
      exact absurd q2 e
def zqc(g:Nst)(i:Nat):Prop:=∃t∈g.nx.getD i [],¬MayP g i t
theorem zqH(h:Ne w nb gb g){i:Nat}(hi:i<g.nx.length)(hR:∀(b:Bool) w',Below w.heap.size w w'->(b=true↔zqc g i)->R (.bool b) w') :
  cR 179 #[.pointer (some (Gk.blk nb)),.int .i64 (i:Int)] w R:=by
 refine zb.of (zfS _ (i:Int) R w ?_) λ_ _ h=>h
 obtain⟨hsl,hh,wb,tb,ms,h0,hn⟩:=h.ex
 have hmx:=h0.ok.max
 refine zf rfl ⟨_,h0.b.cell0 rfl,zeK h0.ok h0.gr λr w1 o1 _ b1=>⟨r,rfl,?_⟩⟩
 rw[zU]at o1
 have hrow:=h0.ok.rows i
 have hrl:=h0.ok.row_le i
 obtain⟨row,hrw⟩:∃row,row=g.nx.getD i []:=⟨_,rfl⟩
 have hin:∀{v},v∈row->v∈g.nx.getD i []:=λh=>hrw▸h
 rw[<-hrw]at o1 hrow hrl
 have hl1:=yh o1
 have z1:=b1.size
 refine zl.count row.length (by omega) (λk w'=>Below w1.heap.size w1 w'/\∀j (hj:j<row.length),j<k->MayP g i row[j]) ⟨Below.refl _ _,λj hj hk=>by omega⟩ ?_
 rintro k w2 hk ⟨b2,hall⟩ next hnext
 have z2:=b2.size
 refine zi (λhlt=>?_) (λhge=>?_)
 ·have hlt:k<row.length:=by dsimp only at hlt;omega
  refine yv (IsS.toI (o1.below b2).isS) (k:=k) (by simpa using hlt) ?_
  rw[List.getElem_map]
  refine zra ((h.below b1).below b2) hi (hrow _ (List.getElem_mem hlt)) λb w3 b3 hb=>⟨b,rfl,zm (λe=>hnext w3 hlt ⟨b2.trans (b3.mono z2),λj hj hjk=>?_⟩) (λe=>hR true w3 (b1.trans ((b2.trans (b3.mono z2)).mono z1)) ⟨λ_=>⟨row[k],hin (List.getElem_mem hlt),λhm=>?_⟩,λ_=>rfl⟩)⟩
  ·by_cases e':j=k
   ·subst e';exact hb.1 e
   ·exact hall j hj (by omega)
  ·rw[hb.2 hm]at e;cases e
 ·refine hR false w2 (b1.trans (b2.mono z1)) ⟨(λh=>by cases h),λ⟨t,hm,hn⟩=>?_⟩
  rw[<-hrw]at hm
  obtain⟨j,hj,rfl⟩:=List.mem_iff_getElem.1 hm
  exact absurd (hall j hj (by dsimp only at hge;omega)) hn
end
end Go.Proofs
namespace Go.Proofs
open Go.Gk Go.RowKit Go.Gr Go.Dm
def zoX(g:Nst)(i:Nat):Nat->Prop
 | 0=>znB g i
 | 1=>znd g i
 | 2=>zqb g i
 |_=>zqc g i
def zm5:Nat->Int
 | 0=>163
 | 1=>160
 | 2=>162
 |_=>161
open Classical in
noncomputable def brk(g:Nst)(i r:Nat):Bool:=decide (i∈zp g.wx/\zoX g i r)
theorem zhk{g:Nst}{i r:Nat}:brk g i r=true↔i∈zp g.wx/\zoX g i r:=by simp[brk]
noncomputable def y8(g:Nst)(i m:Nat):List (Int×Int):=((List.range m).filter (brk g i)).map λr=>((i:Int),zm5 r)
noncomputable def y5(g:Nst)(k:Nat):List (Int×Int):=(List.range k).flatMap λi=>y8 g i 4
theorem zjh(g:Nst)(i m:Nat):y8 g i (m+1)=y8 g i m++if brk g i m then [((i:Int),zm5 m)] else []:=by
 unfold y8
 rw[zep,List.map_append]
 congr 1
 split<;>rfl
theorem zk1(g:Nst)(i m:Nat):(y8 g i m).length<=m:=by
 unfold y8
 rw[List.length_map]
 have:=List.length_filter_le (brk g i) (List.range m)
 simpa using this
theorem zk2(g:Nst)(k:Nat):y5 g (k+1)=y5 g k++y8 g k 4:=by
 unfold y5
 rw[List.range_succ,List.flatMap_append]
 simp
theorem zl5(g:Nst):∀k,(y5 g k).length<=4*k
 | 0=>by simp[y5]
 |k+1=>by
  have:=zl5 g k
  have:=zk1 g k 4
  rw[zk2,List.length_append]
  omega
abbrev OwnF(w:World)(r:Sl)(L:List (Int×Int)):Prop:=Own w 156 2 r (flat flV L)
theorem OwnF.isF{w:World}{r:Sl}{L:List (Int×Int)}(h:OwnF w r L):IsF w r L:=Own.isC zkW (by omega) h
theorem ztb{B0:Nat}{w0 w:World}{r:Sl}{L:List (Int×Int)}{x y:Int}(hb:Below B0 w0 w)(hB:B0<=w.heap.size)(ho:OwnF w r L)(hf:zw B0 r)(hl:L.length<1099511627776)
  {k:Sl->World->Prop} (hk:∀r' w',Below B0 w0 w'->B0<=w'.heap.size->OwnF w' r' (L++[(x,y)])->zw B0 r'->k r' w') :
  Nw (w.alloc (.cells #[.int .i64 x,.int .i64 y] 156)) λw1=>zo Tryz.prog 152 (.slice r.a r.l r.c) (.slice (some (Gk.blk w.heap.size)) 1 1) w1 k:=by
 refine Nw.gen λw1 hw1=>?_
 have hB1:Blk w1 w.heap.size 156 [.int .i64 x,.int .i64 y]:=by rw[hw1];exact Blk.new w _ #[_,_]
 have ho1:OwnF w1 r L:=by rw[hw1];exact ho.alloc _
 have hb1:Below B0 w0 w1:=by rw[hw1];exact hb.alloc hB _
 have hz1:w1.heap.size=w.heap.size+1:=by rw[hw1];simp
 have hl1:r.l=L.length:=by
  have:=ho1.1
  rw[zI zkW]at this
  omega
 refine yF eFl ho1 (m:=1) (news:=flV (x,y)) rfl (λj u hj=>hB1.cell hj) (λu hu=>?_) (by omega) (by omega) λr' w' h1 h2 h3=>?_
 ·simp only[flV,List.mem_cons,List.not_mem_nil,or_false]at hu
  rcases hu with rfl |rfl<;>rfl
 ·have e:flat flV L++flV (x,y)=flat flV (L++[(x,y)]):=by simp only[flat,List.flatMap_append,List.flatMap_cons,List.flatMap_nil,List.append_nil]
  rw[e]at h1
  rcases h3 with⟨h4,h5,h6⟩ | ⟨b',h4,h5,h6⟩
  ·subst h5
   exact hk _ _ hb1 (by omega) h1 (λa ha=>by rw[h4]at ha;cases ha)
  ·have hbB:B0<=b':=by
    rcases h5 with h5 |h5
    ·have:=hf _ h5;exact this
    ·omega
   exact hk _ _ (hb1.trans (zM h6 hbB (by omega))) (by have:=h6.size;omega) h1 (λa ha=>by rw[h4]at ha;cases ha;exact hbB)
section
variable {w w':World} {nb gb:Nat} {hsl:Sl} {g:Nst} {wb tb:Nat} {ms:Sl} {R:VWP}
abbrev zmV(nb r:Nat):Value:=.func (.func (176+r)) #[.pointer (some (Gk.blk nb))] #[]
theorem zrn(h:Ne w nb gb g){i:Nat}(hi:i<g.nx.length){r:Nat}(hr:r<4){S:VWP}(hS:∀(b:Bool) w',Below w.heap.size w w'->(b=true↔zoX g i r)->S (.bool b) w') :
  zV Tryz.prog Tryz.fs (zmV nb r) [.int .i64 (i:Int)] w S:=by
 match r,hr with
 | 0,_=>
  have hc:Tryz.fs.contains (176+0)=true:=by kernel_rfl
  unfold zV
  simp only[hc]
  exact zqB h hi hS
 | 1,_=>
  have hc:Tryz.fs.contains (176+1)=true:=by kernel_rfl
  unfold zV
  simp only[hc]
  exact zo5 h hi hS
 | 2,_=>
  have hc:Tryz.fs.contains (176+2)=true:=by kernel_rfl
  unfold zV
  simp only[hc]
  exact zqA h hi hS
 | 3,_=>
  have hc:Tryz.fs.contains (176+3)=true:=by kernel_rfl
  unfold zV
  simp only[hc]
  exact zqH h hi hS
theorem zqv{w:World}{v:Value}{e:Int}{K:World->Prop}(hv:v.oneCell'=true)(hK:∀w',Blk w' w.heap.size 236 [v,.int .i64 e]->Below w.heap.size w w'->K w') :
  Nw (w.alloc (.cells #[.nilFunc,(.int .i64 (0:Int))] 236)) λw12=>
  oneV v (Wr w12 (blk w.heap.size)/\
   Nw (w12.setCell (blk w.heap.size) v) λw13=>
   Wr w13 ((blk w.heap.size).add 1)/\
   Nw (w13.setCell ((blk w.heap.size).add 1) (.int .i64 e)) λw14=>K w14):=by
 have h1:=Blk.new w 236 #[.nilFunc,(.int .i64 (0:Int))]
 have b1:Below w.heap.size w (w.alloc (.cells #[.nilFunc,(.int .i64 (0:Int))] 236)):=(Below.refl _ _).alloc (Nat.le_refl _) _
 refine zsM hv ⟨h1.wr0 (by simp),(h1.set0 _).wr (n:=1) (by simp),hK _ ((h1.set0 _).set 1 _) ?_⟩
 exact(b1.setCell (Nat.le_refl _) _).setCell (by rw[zn];exact Nat.le_refl _) _
set_option maxHeartbeats 4000000 in
theorem zp2(h:Ne w nb gb g)(hR:∀r w',Below w.heap.size w w'->OwnF w' r (y5 g g.nx.length)->R (.slice r.a r.l r.c) w') :
  cR 141 #[.pointer (some (Gk.blk nb))] w R:=by
 refine zb.of (zfs _ R w ?_) λ_ _ h=>h
 obtain⟨hsl,hh,wb,tb,ms,h0,hn⟩:=h.ex
 have hml:=h0.fit.1
 have hmx:=h0.ok.max
 unfold ZT
 refine Nw.gen λw1 hw1=>?_
 have k1:Blk w1 w.heap.size 237 [.nilFunc,.int .i64 0,.nilFunc,.int .i64 0,.nilFunc,.int .i64 0,.nilFunc,.int .i64 0]:=by rw[hw1];exact Blk.new w _ #[_,_,_,_,_,_,_,_]
 have b1:Below w.heap.size w w1:=by rw[hw1];exact(Below.refl _ _).alloc (Nat.le_refl _) _
 have z1:w1.heap.size=w.heap.size+1:=by rw[hw1];simp
 clear hw1
 have st:∀{wa:World} {cs:List Value} (n:Nat) (v:Value),Blk wa w.heap.size 237 cs->n<cs.length->Below w.heap.size w wa->wa.heap.size=w.heap.size+1->∀{K:World->Prop},
   (∀wb,Blk wb w.heap.size 237 (cs.set n v)->Below w.heap.size w wb->wb.heap.size=w.heap.size+1->K wb)->Wr wa ((Gk.blk w.heap.size).add n)/\Nw (wa.setCell ((Gk.blk w.heap.size).add n) v) K:=λ{wa cs} n v hB hn hb hz {K} hK=>
  ⟨hB.wr hn,hK _ (hB.set n v) (hb.setCell (by rw[zn];exact Nat.le_refl _) _) (by simpa[World.setCell] using hz)⟩
 refine st 0 _ k1 (by simp) b1 z1 λw2 k2 b2 z2=>?_
 refine st 1 _ k2 (by simp) b2 z2 λw3 k3 b3 z3=>?_
 refine st 2 _ k3 (by simp) b3 z3 λw4 k4 b4 z4=>?_
 refine st 3 _ k4 (by simp) b4 z4 λw5 k5 b5 z5=>?_
 refine st 4 _ k5 (by simp) b5 z5 λw6 k6 b6 z6=>?_
 refine st 5 _ k6 (by simp) b6 z6 λw7 k7 b7 z7=>?_
 refine st 6 _ k7 (by simp) b7 z7 λw8 k8 b8 z8=>?_
 refine st 7 _ k8 (by simp) b8 z8 λw9 k9 b9 z9=>?_
 have k9:Blk w9 w.heap.size 237 [zmV nb 0,.int .i64 163,zmV nb 1,.int .i64 160,zmV nb 2,.int .i64 162,zmV nb 3,.int .i64 161]:=k9
 clear k1 k2 k3 k4 k5 k6 k7 k8 b1 b2 b3 b4 b5 b6 b7 b8 st
 refine zf rfl ⟨ms,(h0.below b9).b.cell (n:=1) rfl,?_⟩
 have hmsl:=h0.m.len
 refine zl.countS g.ml.length (by omega) (λk (l:Sl) w'=>Below w9.heap.size w9 w'/\w9.heap.size<=w'.heap.size/\OwnF w' l (y5 g k)/\zw w9.heap.size l) ⟨Below.refl _ _,Nat.le_refl _,by rw[show y5 g 0=[] from by simp[y5]];exact Own.nil _ _ _,λa ha=>by cases ha⟩ ?_
 rintro k l w10 hk ⟨hb,hz,ho,hf⟩ next hnext
 refine zi (λhlt=>?_) (λhge=>?_)
 ·have hlt:k<g.nx.length:=by dsimp only at hlt;omega
  have k10:=k9.below hb
  have hfl:=zl5 g k
  dsimp only
  refine⟨_,k10.cell (n:=0) rfl,_,k10.cell (n:=1) rfl,_,k10.cell (n:=2) rfl,_,k10.cell (n:=3) rfl,_,k10.cell (n:=4) rfl,_,k10.cell (n:=5) rfl,_,k10.cell (n:=6) rfl,_,k10.cell (n:=7) rfl,?_⟩
  refine zl.countS 4 (by omega) (λm (l:Sl) w'=>Below w9.heap.size w9 w'/\w9.heap.size<=w'.heap.size/\OwnF w' l (y5 g k++y8 g k m)/\zw w9.heap.size l) ⟨hb,hz,by rw[show y8 g k 0=[] from by simp[y8],List.append_nil];exact ho,hf⟩ ?_
  rintro m l w11 hm ⟨hb,hz,ho,hf⟩ nxt hnxt
  refine zi (λhlt4=>?_) (λhge4=>?_)
  ·have hlt4:m<4:=by dsimp only at hlt4;omega
   have hfa:=zk1 g k m
   refine zk.cut (λs w'=>Below w9.heap.size w9 w'/\w9.heap.size<=w'.heap.size/\OwnF w' s.1 (y5 g k++y8 g k (m+1))/\zw w9.heap.size s.1) ?_ ?_
   ·refine zk.cut (λs w'=>s.1=some (Gk.blk w11.heap.size)/\Blk w' w11.heap.size 236 [zmV nb m,.int .i64 (zm5 m)]/\Below w11.heap.size w11 w') ?_ ?_
    ·refine⟨⟨by dsimp only;omega,by dsimp only;omega⟩,λe=>?_,λe=>?_,λe=>?_,λe=>?_⟩
     ·have:m=0:=by dsimp only at e;omega
      subst this
      exact zqv rfl λw14 hB hb14=>⟨rfl,hB,hb14⟩
     ·have:m=1:=by dsimp only at e;omega
      subst this
      exact zqv rfl λw14 hB hb14=>⟨rfl,hB,hb14⟩
     ·have:m=2:=by dsimp only at e;omega
      subst this
      exact zqv rfl λw14 hB hb14=>⟨rfl,hB,hb14⟩
     ·have:m=3:=by dsimp only at e;omega
      subst this
      exact zqv rfl λw14 hB hb14=>⟨rfl,hB,hb14⟩
    ·rintro⟨p18,_⟩ w24 ⟨e18,hB24,b24⟩
     have e18:p18=some (Gk.blk w11.heap.size):=e18
     subst e18
     have b924:Below w9.heap.size w9 w24:=hb.trans (b24.mono hz)
     have z24:=b24.size
     have b024:Below w.heap.size w w24:=b9.trans (b924.mono (by omega))
     have h24:=h0.below b024
     have skip:∀wq,Below w24.heap.size w24 wq->brk g k m=false->Below w9.heap.size w9 wq/\w9.heap.size<=wq.heap.size/\OwnF wq l (y5 g k++y8 g k (m+1))/\zw w9.heap.size l:=λwq hbq hn=>
      ⟨b924.trans (hbq.mono (by omega)),by have:=hbq.size;omega,by
       rw[zjh,if_neg (by rw[hn];simp),List.append_nil]
       exact(ho.below b24).below hbq,hf⟩
     refine zf rfl ⟨_,h24.b.cell (n:=2) rfl,ZC h24.dt.ok h24.wide ⟨_,rfl,zm (λe=>?_) (λe=>skip w24 (Below.refl _ _) ?_)⟩⟩
     ·rw[yo h24.dt.ok,zd1]at e
      have hko:k∈zp g.wx:=by simpa using e
      refine zf rfl ⟨_,hB24.cell0 rfl,zrn (h.below b024) hlt hlt4 λb w26 b26 hbv=>⟨b,rfl,zm (λe=>?_) (λe=>skip w26 b26 ?_)⟩⟩
      ·have b926:Below w9.heap.size w9 w26:=b924.trans (b26.mono (by omega))
       have z26:=b26.size
       refine zf rfl ⟨_,(hB24.below b26).cell (n:=1) rfl,ztb b926 (by omega) ((ho.below b24).below b26) hf (by rw[List.length_append];omega) λr w28 q1 q2 q3 q4=>⟨q1,q2,?_,q4⟩⟩
       rw[zjh,if_pos (zhk.2 ⟨hko,hbv.1 e⟩),<-List.append_assoc]
       exact q3
      ·rw[<-Bool.not_eq_true,zhk]
       rintro⟨_,h5⟩
       rw[hbv.2 h5]at e
       cases e
     ·rw[yo h24.dt.ok,zd1]at e
      rw[<-Bool.not_eq_true,zhk]
      rintro⟨h5,_⟩
      rw[<-Bool.not_eq_true]at e
      exact e (by simpa using h5)
   ·rintro⟨l',_⟩ w29 ⟨q1,q2,q3,q4⟩
    exact hnxt l' w29 hlt4 ⟨q1,q2,q3,q4⟩
  ·have:m=4:=by dsimp only at hge4;omega
   subst this
   exact hnext l w11 (by omega) ⟨hb,hz,by rw[zk2];exact ho,hf⟩
 ·have:k=g.nx.length:=by dsimp only at hge;omega
  subst this
  exact hR l w10 (b9.trans (hb.mono (by omega))) ho
end
end Go.Proofs
namespace Go.Proofs
open Go.Gk Go.RowKit Go.Gr Go.Dm
def PG(w:World)(p:Option Addr)(gb:Nat)(nx:List (List Nat)):Prop:=∀a,p=some a->a=Gk.blk gb/\NxOk nx/\IsG w gb nx
theorem PG.below{w w':World}{p:Option Addr}{gb:Nat}{nx:List (List Nat)}(h:PG w p gb nx)(hb:Below w.heap.size w w'):PG w' p gb nx:=λa ha=>let⟨h1,h2,h3⟩:=h a ha;⟨h1,h2,h3.below hb⟩
theorem PG.some{w:World}{gb:Nat}{nx:List (List Nat)}(hx:NxOk nx)(h:IsG w gb nx):PG w (some (Gk.blk gb)) gb nx:=λa ha=>by cases ha;exact⟨rfl,hx,h⟩
structure Nd (w:World) (nb gb:Nat) (nx:List (List Nat)) (ml:List Mg) (g:Nst):Prop where
 ne:Ne w nb gb g
 nxe:g.nx=nx
 mle:g.ml=ml
 wxe:g.wx=zz nx ml
theorem Nd.below{w w':World}{nb gb:Nat}{nx:List (List Nat)}{ml:List Mg}{g:Nst}(h:Nd w nb gb nx ml g)(hb:Below w.heap.size w w'):Nd w' nb gb nx ml g:=⟨h.ne.below hb,h.nxe,h.mle,h.wxe⟩
section
variable {p:Option Addr} {gb:Nat} {nx:List (List Nat)} {s:Sl} {ml:List Mg} {w:World} {R:VWP}
theorem zoA(hp:PG w p gb nx)(hM:IsM w s ml)(hnil:p=none->R (.tuple #[.pointer none,.int .i64 1]) w)
  (hbad:p≠none->¬Fit nx.length ml->∀w',Below w.heap.size w w'->R (.tuple #[.pointer none,.int .i64 2]) w')
  (hok:p≠none->Fit nx.length ml->∀w' nb g,Below w.heap.size w w'->Nd w' nb gb nx ml g->R (.tuple #[.pointer (some (Gk.blk nb)),.int .i64 0]) w') :
  cR 107 #[.pointer p,.slice s.a s.l s.c] w R:=
 zsL hnil hp hM hbad λh1 h2 w' nb g hb hn e1 e2 e3=>hok h1 h2 w' nb g hb ⟨hn,e1,e2,e3⟩
theorem zpl(hp:PG w p gb nx)(hM:IsM w s ml)(hnil:p=none->R (.tuple #[.slice none 0 0,.int .i64 1]) w)
  (hbad:p≠none->¬Fit nx.length ml->∀w',Below w.heap.size w w'->R (.tuple #[.slice none 0 0,.int .i64 2]) w')
  (hok:p≠none->Fit nx.length ml->∀w' nb g r,Below w.heap.size w w'->Nd w' nb gb nx ml g->OwnF w' r (y5 g nx.length)->R (.tuple #[.slice r.a r.l r.c,.int .i64 0]) w') :
  cR 104 #[.pointer p,.slice s.a s.l s.c] w R:=by
 refine zb.of (zkh p s R w ?_) λ_ _ h=>h
 refine zoA hp hM (λe=>⟨_,_,rfl,zF (by decide) (hnil e)⟩) (λe hf w' hb=>⟨_,_,rfl,zF (by decide) (hbad e hf w' hb)⟩) λe hf w' nb g hb hn=>⟨_,_,rfl,zB (by decide) ?_⟩
 refine zp2 hn.ne λr w2 hb2 ho=>⟨r,rfl,?_⟩
 rw[hn.nxe]at ho
 exact hok e hf w2 nb g r (hb.trans (hb2.mono hb.size)) (hn.below hb2) ho
def zi1(L:List (Int×Int)):Int×Int:=match L with | []=>(0,0) |x::_=>(x.2,x.1)
theorem zgX(hp:PG w p gb nx)(hM:IsM w s ml)(hnil:p=none->∀w',Below w.heap.size w w'->R (.agg #[.int .i64 1,.int .i64 0]) w')
  (hbad:p≠none->¬Fit nx.length ml->∀w',Below w.heap.size w w'->R (.agg #[.int .i64 2,.int .i64 0]) w')
  (hok:p≠none->Fit nx.length ml->∀w' w2 nb g,Below w.heap.size w w'->Nd w2 nb gb nx ml g->R (.agg #[.int .i64 (zi1 (y5 g nx.length)).1,.int .i64 (zi1 (y5 g nx.length)).2]) w') :
  cR 46 #[.pointer p,.slice s.a s.l s.c] w R:=by
 refine zb.of (zkg p s R w ?_) λ_ _ h=>h
 refine Nw.gen λw1 hw1=>?_
 have hB1:Blk w1 w.heap.size 33 [.int .i64 0,.int .i64 0]:=by rw[hw1];exact Blk.new w _ #[_,_]
 have b1:Below w.heap.size w w1:=by rw[hw1];exact(Below.refl _ _).alloc (Nat.le_refl _) _
 have z1:=b1.size
 clear hw1
 have fin:∀(w2:World) (x y:Int),Below w1.heap.size w1 w2->(∀w',Below w.heap.size w w'->R (.agg #[.int .i64 x,.int .i64 y]) w')->
   Wr w2 (Gk.blk w.heap.size)/\Nw (w2.setCell (Gk.blk w.heap.size) (.int .i64 x)) λw3=>Wr w3 ((Gk.blk w.heap.size).add 1)/\Nw (w3.setCell ((Gk.blk w.heap.size).add 1) (.int .i64 y)) λw4=>
    ldI w4 ((Gk.blk w.heap.size).add 0) .i64 λx4=>ldI w4 ((Gk.blk w.heap.size).add 1) .i64 λx5=>R (.agg #[.int .i64 x4,.int .i64 x5]) w4:=λw2 x y b2 hR=>by
  have hB2:=hB1.below b2
  have h3:=(hB2.set0 (.int .i64 x)).set 1 (.int .i64 y)
  exact⟨hB2.wr0 (by simp),(hB2.set0 _).wr (n:=1) (by simp),_,h3.cell0 rfl,_,h3.cell (n:=1) rfl,hR _ (((b1.trans (b2.mono z1)).setCell (Nat.le_refl _) _).setCell (by rw[zn];exact Nat.le_refl _) _)⟩
 refine zpl (hp.below b1) (IsC.mbelow hM b1) (λe=>⟨⟨none,0,0⟩,_,rfl,zF (by decide) ?_⟩) (λe hf w2 hb=>⟨⟨none,0,0⟩,_,rfl,zF (by decide) ?_⟩) λe hf w2 nb g r hb hn ho=>⟨r,_,rfl,zB (by decide) ?_⟩
 ·exact fin w1 1 0 (Below.refl _ _) (hnil e)
 ·exact fin w2 2 0 hb (hbad e hf)
 ·have hF:=ho.isF
  have hl:=hF.len
  have hok:=hok e hf
  cases hL:y5 g nx.length with
  |nil=>
   rw[hL]at hl
   refine zi (λh=>absurd h (by simp at hl;omega)) λ_=>fin w2 0 0 hb λw' hb'=>?_
   have:=hok w' w2 nb g hb' hn
   rw[hL]at this
   exact this
  |cons x L'=>
   rw[hL]at hl hF
   refine zi (λ_=>?_) λh=>absurd (by simp at hl;omega) h
   have hF2:=IsC.below zkW hF (Below.refl _ w2).drew
   obtain⟨a,ha⟩:=hF2.base (i:=0) (by simp)
   have hc0:=hF2.cell a ha 0 (by simp) 0 (by omega)
   have hc1:=hF2.cell a ha 0 (by simp) 1 (by omega)
   have bnd:0<=(0:Int)/\(0:Int)<(r.l:Int):=⟨by omega,by simp at hl;omega⟩
   refine⟨bnd,zf ha ⟨_,by rw[zv];exact hc1,bnd,zf ha ⟨_,hc0,fin w2.drew _ _ (hb.trans (Below.refl _ _).drew) λw' hb'=>?_⟩⟩⟩
   have:=hok w' w2 nb g hb' hn
   rw[hL]at this
   exact this
open Classical in
noncomputable def inB(g:Nst)(h i:Nat):Bool:=decide (g.In h i)
theorem zjn{g:Nst}{h i:Nat}:inB g h i=true↔g.In h i:=by simp[inB]
noncomputable def zja(g:Nst)(h k:Nat):List Nat:=(List.range k).filter (inB g h)
set_option maxHeartbeats 2000000 in
theorem zlf{h:Int}(hp:PG w p gb nx)(hM:IsM w s ml)(hnil:p=none->R (.tuple #[.slice none 0 0,.int .i64 1]) w)
  (hbad:p≠none->¬Fit nx.length ml->∀w',Below w.heap.size w w'->R (.tuple #[.slice none 0 0,.int .i64 2]) w')
  (hout:p≠none->Fit nx.length ml->¬(0<=h/\h<nx.length)->∀w',Below w.heap.size w w'->R (.tuple #[.slice none 0 0,.int .i64 3]) w')
  (hnone:p≠none->Fit nx.length ml->∀x:Nat,h=(x:Int)->x<nx.length->∀w' nb g,Below w.heap.size w w'->Nd w' nb gb nx ml g->¬(g.kd x≠0/\x∈zp g.wx)->R (.tuple #[.slice none 0 0,.int .i64 5]) w')
  (hok:p≠none->Fit nx.length ml->∀x:Nat,h=(x:Int)->x<nx.length->∀w' nb g r,Below w.heap.size w w'->Nd w' nb gb nx ml g->g.kd x≠0->x∈zp g.wx->Own w' 3 1 r ((zja g x nx.length).map iN)->zw w.heap.size r->R (.tuple #[.slice r.a r.l r.c,.int .i64 0]) w') :
  cR 51 #[.pointer p,.slice s.a s.l s.c,.int .i64 h] w R:=by
 refine zb.of (zgY p s h R w ?_) λ_ _ h=>h
 refine zoA hp hM (λe=>⟨none,_,rfl,?_⟩) (λe hf w' hb=>⟨none,_,rfl,?_⟩) λe hf w1 nb g hb hn=>⟨some (Gk.blk nb),_,rfl,?_⟩
 ·exact zk.cut (λ_ _=>False) (zF (by decide) (hnil e)) λ_ _ h=>h.elim
 ·exact zk.cut (λ_ _=>False) (zF (by decide) (hbad e hf w' hb)) λ_ _ h=>h.elim
 ·cases p with
  |none=>exact absurd rfl e
  |some a=>
  obtain⟨rfl,hx,hG⟩:=hp a rfl
  obtain⟨hsl,hh,wb,tb,ms,h0,hnn⟩:=hn.ne.ex
  have hml:g.ml.length=nx.length:=by have:=h0.fit.1;rw[hn.nxe]at this;exact this
  have hmx:=hx.max
  refine zk.cut (λ_ w'=>w'=w1/\∃x:Nat,h=(x:Int)/\x<nx.length/\g.kd x≠0/\x∈zp g.wx) ?_ ?_
  ·refine zB (by decide) (zgR (hG.below hb) ⟨_,rfl,zy (zi (λhin=>?_) (λhin=>hout e hf hin w1 hb))⟩)
   obtain⟨x,rfl⟩:=Int.eq_ofNat_of_zero_le hin.1
   have hxn:x<nx.length:=by omega
   refine zf rfl ⟨ms,h0.b.cell (n:=1) rfl,zcd h0.m (k:=x) (by omega) ?_⟩
   rw[Nst.kd_get (by omega)]
   refine zj (λe0=>hnone e hf x rfl hxn w1 nb g hb hn λh=>h.1 e0) (λe0=>?_)
   refine zf rfl ⟨_,h0.b.cell (n:=2) rfl,ZC h0.dt.ok h0.wide ⟨_,rfl,zy (zm (λer=>⟨rfl,x,rfl,hxn,e0,?_⟩) (λer=>hnone e hf x rfl hxn w1 nb g hb hn λh=>?_))⟩⟩
   ·rw[yo h0.dt.ok,zd1]at er
    simpa using er
   ·rw[yo h0.dt.ok,zd1,<-Bool.not_eq_true]at er
    exact er (by simpa using h.2)
  ·rintro _ w4 ⟨e4,x,rfl,hxn,hk,ho⟩
   subst w4
   refine zf rfl ⟨hsl,h0.b.cell (n:=4) rfl,?_⟩
   have hll:hsl.l=nx.length:=by have:=hnn.top.len;have h2:=hnn.len;rw[hn.nxe]at h2;simp at h2;omega
   have z1:=hb.size
   refine zl.countS nx.length (by omega) (λk (l:Sl) w'=>Below w1.heap.size w1 w'/\w1.heap.size<=w'.heap.size/\Own w' 3 1 l ((zja g x k).map iN)/\zw w1.heap.size l) ⟨Below.refl _ _,Nat.le_refl _,Own.nil _ _ _,λa ha=>by cases ha⟩ ?_
   rintro k l w5 hk ⟨hb5,hz5,ho5,hf5⟩ next hnext
   refine zi (λhlt=>?_) (λhge=>?_)
   ·have hlt:k<nx.length:=by dsimp only at hlt;omega
    have hcl:(zja g x k).length<=k:=by unfold zja;have:=List.length_filter_le (inB g x) (List.range k);simpa using this
    refine zk.cut (λst w'=>Below w1.heap.size w1 w'/\w1.heap.size<=w'.heap.size/\Own w' 3 1 st.1 ((zja g x (k+1)).map iN)/\zw w1.heap.size st.1) ?_ ?_
    ·refine zhv (hn.ne.below hb5) (i:=k) (by rw[hn.nxe];exact hlt) λb hbv=>⟨b,rfl,zm (λeb=>?_) (λeb=>⟨hb5,hz5,?_,hf5⟩)⟩
     ·refine Yi (y:=k) rfl hb5 hz5 ho5 hf5 (by omega) λr w8 q1 q2 q3 q4=>⟨q1,q2,?_,q4⟩
      unfold zja
      rw[zep,if_pos (zjn.2 (hbv.1 eb))]
      exact q3
     ·unfold zja
      rw[zep,if_neg,List.append_nil]
      ·exact ho5
      ·rw[zjn];exact λh=>by rw[hbv.2 h]at eb;cases eb
    ·rintro⟨l',_⟩ w9 ⟨q1,q2,q3,q4⟩
     exact hnext l' w9 hlt ⟨q1,q2,q3,q4⟩
   ·have:k=nx.length:=by dsimp only at hge;omega
    subst this
    exact hok e hf x rfl hxn w5 nb g l (hb.trans (hb5.mono z1)) (hn.below hb5) ‹_› ho ho5 λa ha=>by have:=hf5 a ha;omega
end
section
variable {w:World} {nb gb:Nat} {hsl:Sl} {g:Nst} {wb tb:Nat} {ms:Sl}
theorem Dt.up_pairwise{nx:List (List Nat)}{ov:Nat->Option Nat}{dp:Nat->Int}(h:Dt w tb nx ov dp)(i:Int):(upOf nx ov dp i).Pairwise λa b=>dp b<dp a:=by
 by_cases hin:inOd (zp nx) i=true
 ·obtain⟨y,rfl,hy⟩:=yP.1 hin
  have hm:=h.dpo.mem y hy
  rw[zh1 hy,List.pairwise_iff_getElem]
  intro a b ha hb hab
  have h2:=(h.upL_spec ((dp y).toNat +1) y hy (by omega)).2.1
  rw[(h2 a ha).2,(h2 b hb).2]
  omega
 ·unfold upOf;rw[if_neg hin];exact .nil
theorem Ne0.hd_pairwise(h:Ne0 w nb gb hsl g wb tb ms)(i:Nat):(g.hd i).Pairwise λ(a b:Nat)=>a≠b/\g.D (a:Int) (b:Int):=by
 have h1:(g.hd i).Pairwise λa b=>g.dp a<g.dp b:=by
  unfold Nst.hd
  rw[List.pairwise_reverse]
  exact(h.dt.up_pairwise (i:Int)).sublist List.filter_sublist
 refine List.Pairwise.imp_of_mem ?_ h1
 intro a b ha hb hab
 obtain⟨_,⟨a1,i1,e1,e2,q1,q2⟩,_⟩:=h.hd_mem.1 ha
 obtain⟨_,⟨b1,i2,e3,e4,q3,q4⟩,_⟩:=h.hd_mem.1 hb
 have e1:a=a1:=by omega
 have e3:b=b1:=by omega
 have e5:i1=i2:=by omega
 subst e1 e3 e5
 refine⟨λe=>by rw[e]at hab;omega,a,b,rfl,rfl,h.dt.ancOd q1 q4,?_⟩
 rcases q2.lin q4 with h3 |h3
 ·exact h3
 ·rcases h.dt.mono (h.dt.ancOd q1 q2) h3 with e |e
  ·rw[e]at hab;omega
  ·omega
theorem Ne0.hd_nodup(h:Ne0 w nb gb hsl g wb tb ms)(i:Nat):(g.hd i).Nodup:=(h.hd_pairwise i).imp λh=>h.1
def DW(wx:List (List Nat))(a b:Int):Prop:=∃a' b':Nat,a=(a':Int)/\b=(b':Int)/\DomR wx a' b'
theorem Ne0.D_iff(h:Ne0 w nb gb hsl g wb tb ms)(a b:Int):g.D a b↔DW g.wx a b:=
 ⟨λ⟨a',b',e1,e2,h1,h2⟩=>⟨a',b',e1,e2,(h.dt.domR a' b').2 ⟨h1,h2⟩⟩,λ⟨a',b',e1,e2,h1⟩=>⟨a',b',e1,e2,(h.dt.domR a' b').1 h1⟩⟩
end
end Go.Proofs
namespace Go.Proofs
open Go.Gk Go.RowKit Go.Gr Go.Dm
abbrev awL:List (List Int):=[[1,2],[2],[]]
abbrev awX:List (List Nat):=[[1,2],[2],[]]
abbrev awM(k:Int):List Mg:=[(k,2,-1),(0,0,0),(0,0,0)]
theorem znS:zO awL=awX:=by decide +kernel
theorem zqg:Good awL:=by unfold Good;decide +kernel
theorem zsX:NxOk awX:=by rw[<-znS];exact zgH (by decide) (by decide) zqg
theorem zlv:zz awX (awM 1)=awX:=by decide +kernel
theorem zr7:zz awX (awM 0)=awX:=by decide +kernel
theorem znT:zp awX=[0,1,2]:=by decide +kernel
theorem zlu{i t:Nat}(h:t∈awX.getD i []):(i=0/\t=1)\/(i=0/\t=2)\/(i=1/\t=2):=by
 match i with
 | 0=>simp at h;omega
 | 1=>simp at h;omega
 | 2=>simp at h
 |i+3=>simp at h
theorem zlt{wo:Int}{t:Nat}(h:ReachN awX wo t):wo≠0/\t<=2/\((t:Int)=wo->False):=by
 induction h with
 |zero h _=>exact⟨h,by omega,λe=>h e.symm⟩
 |step _ h h1 ih=>rcases zlu h with e |e |e<;>exact⟨ih.1,by omega,h1⟩
theorem zsW{wo:Int}{t:Nat}(h0:wo≠0)(ht:t<=2)(h:(t:Int)≠wo):ReachN awX wo t:=by
 have z:ReachN awX wo 0:=.zero h0 (by decide)
 match t,ht with
 | 0,_=>exact z
 | 1,_=>exact .step z (by decide) h
 | 2,_=>exact .step z (by decide) h
theorem zr6{a b:Nat}:DomR awX a b↔b<=2/\(a=b\/a=0):=by
 refine⟨λ⟨h1,h2⟩=>⟨(zlt h1).2.1,?_⟩,λ⟨h1,h2⟩=>⟨zsW (by omega) h1 (by omega),?_⟩⟩
 ·rcases h2 with h2 |h2
  ·exact .inl h2
  ·by_cases e:a=b
   ·exact .inl e
   ·by_cases e0:a=0
    ·exact .inr e0
    ·exact absurd (zsW (by omega) (zlt h1).2.1 (by omega)) h2
 ·rcases h2 with h2 |h2
  ·exact .inl h2
  ·subst h2;exact .inr λh=>(zlt h).1 (by simp)
theorem ztt{a b:Int}:DW awX a b↔0<=b/\b<=2/\(a=b\/a=0):=by
 refine⟨λ⟨a',b',e1,e2,h⟩=>?_,λ⟨h1,h2,h3⟩=>⟨a.toNat,b.toNat,by omega,by omega,zr6.2 (by omega)⟩⟩
 have:=zr6.1 h
 omega
section
variable {w:World} {nb gb:Nat} {k:Int} {g:Nst}
theorem Nd.D_iff{nx:List (List Nat)}{ml:List Mg}(h:Nd w nb gb nx ml g){a b:Int}:g.D a b↔DW g.wx a b:=by
 obtain⟨_,_,_,_,_,h0,_⟩:=h.ne.ex
 exact h0.D_iff a b
theorem Nd.hd_mem{nx:List (List Nat)}{ml:List Mg}(h:Nd w nb gb nx ml g){x i:Nat}:x∈g.hd i↔g.In x i:=by
 obtain⟨_,_,_,_,_,h0,_⟩:=h.ne.ex
 exact h0.hd_mem
theorem Nd.hd_nodup{nx:List (List Nat)}{ml:List Mg}(h:Nd w nb gb nx ml g)(i:Nat):(g.hd i).Nodup:=by
 obtain⟨_,_,_,_,_,h0,_⟩:=h.ne.ex
 exact h0.hd_nodup i
theorem zsn{l:List Nat}(hn:l.Nodup){x:Nat}(h:∀y,y∈l↔y=x):l=[x]:=by
 match l,hn with
 | [],_=>exact absurd ((h x).2 rfl) (by simp)
 | [y],_=>rw[(h y).1 (by simp)]
 |y::z::r,hn=>
  have e1:=(h y).1 (by simp)
  have e2:=(h z).1 (by simp)
  simp[e1,e2]at hn
structure Aw (g:Nst) (k:Int):Prop where
 nx:g.nx=awX
 wx:g.wx=awX
 kd0:g.kd 0=k
 to0:g.to 0=2
 kd:∀i,i≠0->g.kd i=0
 D:∀a b,g.D a b↔0<=b/\b<=2/\(a=b\/a=0)
 hd:∀x i,x∈g.hd i↔g.In x i
 nd:∀i,(g.hd i).Nodup
theorem Aw.of(h:Nd w nb gb awX (awM k) g)(hw:zz awX (awM k)=awX):Aw g k:=by
 have hwx:g.wx=awX:=h.wxe.trans hw
 refine⟨h.nxe,hwx,by simp[Nst.kd,h.mle],by simp[Nst.to,h.mle],λi hi=>?_,λa b=>by rw[h.D_iff,hwx];exact ztt,λx i=>h.hd_mem,λi=>h.hd_nodup i⟩
 unfold Nst.kd
 rw[h.mle]
 match i,hi with
 | 1,_=>simp
 | 2,_=>simp
 |i+3,_=>simp
theorem Aw.in_iff(h:Aw g 1){x i:Nat}:g.In x i↔x=0/\i<=1:=by
 unfold Nst.In
 by_cases e:x=0
 ·subst e
  rw[h.kd0,h.to0,h.D,h.D]
  omega
 ·rw[h.kd x e]
  constructor
  ·exact λh=>absurd rfl h.1
  ·exact λh=>absurd h.1 e
theorem Aw.hd01(h:Aw g 1){i:Nat}(hi:i<=1):g.hd i=[0]:=zsn (h.nd i) λy=>by rw[h.hd,h.in_iff];omega
theorem Aw.cons(h:Aw g 1):zja g 0 3=[0,1]:=by
 have e0:inB g 0 0=true:=zjn.2 (h.in_iff.2 ⟨rfl,by omega⟩)
 have e1:inB g 0 1=true:=zjn.2 (h.in_iff.2 ⟨rfl,by omega⟩)
 have e2:inB g 0 2=false:=by
  rw[<-Bool.not_eq_true,zjn,h.in_iff];omega
 unfold zja
 rw[show List.range 3=[0,1,2] by decide]
 simp[e0,e1,e2]
theorem Aw.fe(h:Aw g 1){a b:Nat}(hw:Way (FE g) a b):a<=b:=by
 induction hw with
 |refl=>exact Nat.le_refl _
 |step _ e ih=>
  have:=e.1
  rw[h.nx]at this
  have:=zlu this
  omega
theorem Aw.may(h:Aw g 1){i t:Nat}(ht:t∈awX.getD i []):MayP g i t:=by
 have hr:=zlu ht
 refine⟨λx hx hxt=>?_,?_⟩
 ·rw[h.hd,h.in_iff]at hx
  exact h.in_iff.2 (by omega)
 ·unfold YF
  rw[h.hd01 (by omega)]
  by_cases e:t=1
  ·left
   have:zfl g t 0=false:=by rw[<-Bool.not_eq_true,zfm,h.in_iff];omega
   simp[this]
  ·right
   have:zfl g t 0=true:=by rw[zfm,h.in_iff];omega
   refine⟨0,by simp[this],.inl ⟨?_,.inl (by simp[this])⟩⟩
   rw[h.to0]
   omega
theorem Aw.none(h:Aw g 1){i r:Nat}(hr:r<4):¬zoX g i r:=by
 match r,hr with
 | 0,_=>
  rintro⟨h1,h2⟩
  rw[h.nx]at h2
  match i with
  | 0=>rw[h.kd0]at h1;omega
  | 1=>simp at h2
  | 2=>simp at h2
  |i+3=>simp at h2
 | 1,_=>
  rintro⟨h1,h2⟩
  by_cases e:i=0
  ·subst e
   rw[h.to0,h.kd0]at h2
   rcases h2 with h2 |h2 |h2 | ⟨o,_,h3,h4,_⟩
   ·omega
   ·exact h2 ((h.D _ _).2 (by omega))
   ·omega
   ·exact h4 (h.kd o h3)
  ·exact h1 (h.kd i e)
 | 2,_=>
  rintro(⟨v,hv,h1⟩ |h1)
  ·rw[h.nx]at hv
   have hr:=zlu hv
   rcases h1 with⟨h2,_⟩ | ⟨_,h2⟩
   ·rw[h.D]at h2;omega
   ·have:=h.fe h2;omega
  ·have:((zJ g.nx).getD i []).countP (zgs g i)=0:=by
    rw[List.countP_eq_zero]
    intro u hu
    rw[h.nx]at hu
    have hr:=zlu ((zjd zsX).1 hu)
    rw[zhj,h.D]
    omega
   omega
 | 3,_=>
  rintro⟨t,ht,hm⟩
  rw[h.nx]at ht
  exact hm (h.may ht)
theorem Aw.flaws(h:Aw g 1):y5 g 3=[]:=by
 have:∀i,y8 g i 4=[]:=λi=>by
  unfold y8
  have:(List.range 4).filter (brk g i)=[]:=by
   rw[List.filter_eq_nil_iff]
   intro r hr
   rw[zhk]
   exact λhh=>h.none (List.mem_range.1 hr) hh.2
  rw[this];rfl
 unfold y5
 simp[this,List.flatMap]
theorem Aw.flaws0(h:Aw g 0):zi1 (y5 g 3)=(163,0):=by
 have hb:brk g 0 0=true:=by
  rw[zhk,h.wx,znT]
  refine⟨by simp,h.kd0,?_⟩
  rw[h.nx]
  decide
 have e:∃r,y5 g 3=(0,163)::r:=by
  unfold y5
  rw[show List.range 3=[0,1,2] by decide]
  have e1:∃r,y8 g 0 4=(0,163)::r:=by
   unfold y8
   rw[show List.range 4=[0,1,2,3] by decide,List.filter_cons,if_pos hb]
   exact⟨_,rfl⟩
  obtain⟨r,e1⟩:=e1
  rw[List.flatMap_cons,e1]
  exact⟨_,rfl⟩
 obtain⟨r,e⟩:=e
 rw[e]
 rfl
end
end Go.Proofs
namespace Go.Proofs
open Go.Gk Go.RowKit Go.Gr Go.Dm
theorem zlO{a b:Int}{w:World}{R:VWP}
  (hR:∀w',Below w.heap.size w w'->w'.heap.size=w.heap.size+1->Blk w' w.heap.size 3 [.int .i64 a,.int .i64 b]->IsI w' ⟨some (Gk.blk w.heap.size),2,2⟩ [a,b]->R (.slice (some (Gk.blk w.heap.size)) 2 2) w') :
  cR 52 #[.int .i64 a,.int .i64 b] w R:=by
 refine zb.of (ze1 a b R w ?_) λ_ _ h=>h
 refine⟨by decide,Nw.gen λw1 hw1=>?_⟩
 have h1:Blk w1 w.heap.size 3 [.int .i64 (0:Int),.int .i64 (0:Int)]:=by rw[hw1];exact Blk.made w _ _ 2
 have b1:Below w.heap.size w w1:=by rw[hw1];exact(Below.refl _ _).alloc (Nat.le_refl _) _
 have z1:w1.heap.size=w.heap.size+1:=by rw[hw1];simp
 refine⟨by decide,h1.wr (n:=0) (by simp),Nw.mk ?_⟩
 refine⟨by decide,(h1.set 0 _).wr (n:=1) (by simp),Nw.mk ?_⟩
 have h3:=(h1.set 0 (.int .i64 a)).set 1 (.int .i64 b)
 refine hR _ ((b1.setCell (by rw[zn];exact Nat.le_refl _) _).setCell (by rw[zn];exact Nat.le_refl _) _) (by simpa[World.setCell] using z1) h3 ?_
 exact Blk.isS (f:=Value.int .i64) (l:=[a,b]) h3 rfl rfl (Nat.le_refl _) (show 2<=9223372036854775807 by decide)
theorem zlL{k:Int}{w:World}{R:VWP}
  (hR:∀w' (s1 s2:Sl) hs,Below w.heap.size w w'->IsII w' s1 hs awL->IsM w' s2 (awM k)->R (.tuple #[.slice s1.a s1.l s1.c,.slice s2.a s2.l s2.c]) w') :
  cR 50 #[.int .u8 k] w R:=by
 refine zb.of (ze0 k R w ?_) λ_ _ h=>h
 refine⟨by decide,Nw.gen λw1 hw1=>?_⟩
 have h1:Blk w1 w.heap.size 26 [.slice none 0 0,.slice none 0 0,.slice none 0 0]:=by rw[hw1];exact Blk.made w _ _ 3
 have b1:Below w.heap.size w w1:=by rw[hw1];exact(Below.refl _ _).alloc (Nat.le_refl _) _
 have z1:w1.heap.size=w.heap.size+1:=by rw[hw1];simp
 clear hw1
 refine zlO λw2 b2 z2 p2 i2=>⟨⟨_,2,2⟩,rfl,by decide,?_⟩
 have h2:=h1.below b2
 refine⟨h2.wr (n:=0) (by simp),Nw.gen λw3 hw3=>?_⟩
 have h3:Blk w3 w.heap.size 26 [.slice (some (Gk.blk w1.heap.size)) 2 2,.slice none 0 0,.slice none 0 0]:=by rw[hw3];exact h2.set 0 _
 have p3:Blk w3 w1.heap.size 3 [.int .i64 1,.int .i64 2]:=by rw[hw3];exact p2.other (by rw[zn];simp;omega) _
 have b3:Below w.heap.size w w3:=by rw[hw3];exact(b1.trans (b2.mono (by omega))).setCell (by rw[zn];exact Nat.le_refl _) _
 have z3:w3.heap.size=w.heap.size+2:=by rw[hw3];simp[World.setCell];omega
 clear hw3
 refine⟨by decide,⟨none,0,0⟩,h3.cell (n:=1) rfl,Nw.gen λw4 hw4=>?_⟩
 have b4:Below w3.heap.size w3 w4:=by rw[hw4];exact(Below.refl _ _).alloc (Nat.le_refl _) _
 have q4:Blk w4 w3.heap.size 3 ([2].map iN):=by rw[hw4];exact Blk.new w3 _ #[_]
 have z4:w4.heap.size=w3.heap.size+1:=by rw[hw4];simp
 clear hw4
 refine zky (s:=⟨none,0,0⟩) (xs:=[]) (B0:=w3.heap.size) (Own.nil _ _ _) (λa ha=>by cases ha) (by omega) q4 rfl (by simp) λr w5 b5 o5 f5=>⟨by decide,?_⟩
 have b35:Below w3.heap.size w3 w5:=b4.trans b5
 have h5:=h3.below b35
 have p5:=p3.below b35
 have z5:=b35.size
 refine⟨h5.wr (n:=1) (by simp),Nw.gen λw6 hw6=>?_⟩
 have h6:Blk w6 w.heap.size 26 [.slice (some (Gk.blk w1.heap.size)) 2 2,.slice r.a r.l r.c,.slice none 0 0]:=by rw[hw6];exact h5.set 1 _
 have p6:Blk w6 w1.heap.size 3 [.int .i64 1,.int .i64 2]:=by rw[hw6];exact p5.other (by rw[zn];simp;omega) _
 have o6:Own w6 3 1 r ([2].map iN):=o5.of_block λa ha=>by rw[hw6];exact zA (zad o5 h5 (by decide) ha) _ _
 have b6:Below w.heap.size w w6:=by rw[hw6];exact(b3.trans (b35.mono (by omega))).setCell (by rw[zn];exact Nat.le_refl _) _
 clear hw6
 refine⟨by decide,Nw.gen λw7 hw7=>⟨by decide,?_⟩⟩
 have m7:Blk w7 w6.heap.size 121 [.int .u8 0,.int .i64 0,.int .i64 0,.int .u8 0,.int .i64 0,.int .i64 0,.int .u8 0,.int .i64 0,.int .i64 0]:=by
  have e:(madeCells #[(.int .u8 (0:Int)),(.int .i64 (0:Int)),(.int .i64 (0:Int))] (3*3)).toList=[.int .u8 0,.int .i64 0,.int .i64 0,.int .u8 0,.int .i64 0,.int .i64 0,.int .u8 0,.int .i64 0,.int .i64 0]:=by kernel_rfl
  rw[hw7,<-e]
  exact Blk.new w6 _ _
 have b7:Below w6.heap.size w6 w7:=by rw[hw7];exact(Below.refl _ _).alloc (Nat.le_refl _) _
 clear hw7
 have z6:=b6.size
 simp only[zv,Nat.zero_mul,Nat.zero_add]
 have m8:=m7.set 0 (.int .u8 k)
 have m9:=m8.set 1 (.int .i64 2)
 have m10:=m9.set 2 (.int .i64 (-1))
 refine⟨m7.wr (n:=0) (by simp),m8.wr (n:=1) (by simp),m9.wr (n:=2) (by simp),?_⟩
 have b10:Below w6.heap.size w6 (((w7.setCell ((Gk.blk w6.heap.size).add 0) (.int .u8 k)).setCell ((Gk.blk w6.heap.size).add 1) (.int .i64 2)).setCell ((Gk.blk w6.heap.size).add 2) (.int .i64 (-1))):=
  ((b7.setCell (by rw[zn];exact Nat.le_refl _) _).setCell (by rw[zn];exact Nat.le_refl _) _).setCell (by rw[zn];exact Nat.le_refl _) _
 have h10:=h6.below b10
 have p10:=p6.below b10
 have o10:=o6.below b10
 refine hR _ ⟨some (Gk.blk w.heap.size),3,3⟩ ⟨some (Gk.blk w6.heap.size),3,3⟩ [⟨some (Gk.blk w1.heap.size),2,2⟩,r,⟨none,0,0⟩] (b6.trans (b10.mono z6)) ⟨Blk.isS (f:=Sl.val) h10 rfl rfl (Nat.le_refl _) (show 3<=9223372036854775807 by decide),rfl,λi hi _=>?_⟩ ?_
 ·match i,hi with
  | 0,_=>exact Blk.isS (f:=Value.int .i64) (l:=[1,2]) p10 rfl rfl (Nat.le_refl _) (show 2<=9223372036854775807 by decide)
  | 1,_=>exact IsS.toI (Own.isS o10)
  | 2,_=>exact⟨rfl,Nat.le_refl _,show 0<=9223372036854775807 by decide,λ_=>rfl,λ_ h=>by cases h⟩
 ·exact Blk.isC (l:=awM k) Zu (by omega) m10 (show 3<=9223372036854775807 by decide)
theorem zrL{k:Int}(h0:0<=k)(h1:k<=1):Fit awX.length (awM k):=by
 refine⟨rfl,λx hx=>?_⟩
 unfold FitP
 simp only[List.mem_cons,List.not_mem_nil,or_false]at hx
 rcases hx with rfl |rfl |rfl<;>simp<;>omega
theorem zo7{w:World}{R:VWP}(hR:∀w',Below w.heap.size w w'->R (.bool true) w'):cR 15 #[] w R:=by
 refine zb.of (zdF R w ?_) λ_ _ h=>h
 refine zlL λw1 s1 s2 hs b1 i1 m1=>⟨s1,s2,rfl,?_⟩
 refine zex (s:=s1) i1 (λh=>absurd h (by simp)) (λh=>absurd h (by simp)) (λ_ _ h=>absurd zqg h) λ_ _ hG w2 gb b2 _ hg=>⟨some (Gk.blk gb),0,rfl,?_⟩
 rw[znS]at hg
 have b12:=b1.trans (b2.mono b1.size)
 have hPG:PG w2 (some (Gk.blk gb)) gb awX:=PG.some zsX hg
 have m2:=IsC.mbelow m1 b2
 have hf1:=zrL (k:=1) (by omega) (by omega)
 have hf0:=zrL (k:=0) (by omega) (by omega)
 refine zlf hPG m2 (λe=>by cases e) (λ_ h=>absurd hf1 h) (λ_ _ h=>absurd ⟨by omega,by decide⟩ h) (λ_ _ x hx hxn w' nb g hb hn hno=>?_) λ_ _ x hx hxn w3 nb g r b3 hn hk ho o3 f3=>?_
 ·have hx0:x=0:=by omega
  subst hx0
  have ha:=Aw.of hn zlv
  exact absurd ⟨by rw[ha.kd0];decide,by rw[ha.wx,znT];simp⟩ hno
 ·have hx0:x=0:=by omega
  subst hx0
  have ha:=Aw.of hn zlv
  rw[show awX.length=3 from rfl,ha.cons]at o3
  refine⟨r,0,rfl,?_⟩
  have b13:=b12.trans (b3.mono b12.size)
  have fin:∀w7,Below w.heap.size w w7->PG w7 (some (Gk.blk gb)) gb awX->cR 50 #[.int .u8 0] w7 λv18 w8=>
    ∃x19:Sl,∃x20:Sl,v18=(.tuple #[(.slice x19.a x19.l x19.c),(.slice x20.a x20.l x20.c)])/\
    cR 46 #[(.pointer (some (Gk.blk gb))),(.slice x20.a x20.l x20.c)] w8 λv21 w9=>
    ∃x22:(Int×Int×Unit),v21=(.agg #[(.int .i64 x22.1),(.int .i64 x22.2.1)])/\
    R (.bool (x22.1==(163:Int)&&(x22.2.1==(0:Int)&&true))) w9:=λw7 b7 hP7=>by
   refine zlL λw8 s3 s4 hs4 b8 _ m8=>⟨s3,s4,rfl,?_⟩
   refine zgX (hP7.below b8) m8 (λe=>by cases e) (λ_ h=>absurd hf0 h) λ_ _ w9 w10 nb' g' b9 hn'=>?_
   rw[show awX.length=3 from rfl,(Aw.of hn' zr7).flaws0]
   exact⟨(163,0,()),rfl,hR w9 ((b7.trans (b8.mono b7.size)).trans (b9.mono (by have:=b7.size;have:=b8.size;omega)))⟩
  refine zk.cut (λ_ w7=>Below w.heap.size w w7/\PG w7 (some (Gk.blk gb)) gb awX) ?_ λ_ w7 h=>fin w7 h.1 h.2
  refine zB (by decide) (zB (by decide) ?_)
  refine zlO λw4 b4 _ _ i4=>⟨⟨_,2,2⟩,rfl,?_⟩
  refine zq5 (IsS.toI (Own.isS (o3.below b4))) i4 λw5 _ b5=>⟨_,rfl,zB (by decide +kernel) ?_⟩
  have b45:=b4.trans (b5.mono b4.size)
  have b15:=b13.trans (b45.mono b13.size)
  have hP5:=(hPG.below b3).below b45
  have m5:=IsC.mbelow (IsC.mbelow m2 b3) b45
  refine zgX hP5 m5 (λe=>by cases e) (λ_ h=>absurd hf1 h) λ_ _ w6 w10 nb' g' b6 hn'=>?_
  rw[show awX.length=3 from rfl,(Aw.of hn' zlv).flaws]
  exact⟨(0,0,()),rfl,zB (by decide) ⟨b15.trans (b6.mono b15.size),hP5.below b6⟩⟩
end Go.Proofs
namespace Go.Proofs
open Go.Gk Go.RowKit Go.Gr Go.Dm
structure DOk (nx:List (List Nat)) (ml:List Mg):Prop where
 ok:NxOk nx
 okw:NxOk (zz nx ml)
 fit:Fit nx.length ml
 anti:∀{a b:Int},DW (zz nx ml) a b->DW (zz nx ml) b a->a=b
 trans:∀{a b c:Int},DW (zz nx ml) a b->DW (zz nx ml) b c->DW (zz nx ml) a c
 lin:∀{a b c:Int},DW (zz nx ml) a b->DW (zz nx ml) c b->DW (zz nx ml) a c\/DW (zz nx ml) c a
 re:∀x:Nat,ReachN (zz nx ml) (-1) x↔x∈zp (zz nx ml)
 ends : ∀ {a b : Int}, DW (zz nx ml) a b → ∃ x y : Nat, a = (x : Int) ∧ b = (y : Int) ∧ x ∈ zp (zz nx ml) ∧ y ∈ zp (zz nx ml)
section
variable {nx:List (List Nat)} {a b c:Nat}
theorem _root_.Go.Gr.ReachN.self(h:ReachN nx (a:Int) b):b≠a:=by
 cases h with
 |zero h _=>omega
 |step _ _ h=>omega
theorem _root_.Go.Gr.ReachN.top{wo:Int}(h:ReachN nx wo c):ReachN nx (-1) c:=by
 induction h with
 |zero _ h=>exact .zero (by omega) h
 |step _ h _ ih=>exact .step ih h (by omega)
theorem _root_.Go.Gr.ReachN.cut(a:Nat)(h:ReachN nx (-1) c):ReachN nx (a:Int) c\/ReachN nx (-1) a:=by
 generalize hwo:(-1:Int)=wo at h
 induction h with
 |zero _ h=>
  by_cases e:a=0
  ·right;rw[e,<-hwo];exact .zero (by omega) h
  ·left;exact .zero (by omega) h
 |step h1 h2 h9 ih=>
  rename_i i t
  rcases ih with ih |ih
  ·by_cases e:t=a
   ·right;rw[<-e,<-hwo];subst hwo;exact .step h1 h2 (by omega)
   ·left;exact .step ih h2 (by omega)
  ·right;exact ih
theorem _root_.Go.Gr.ReachN.via(b:Nat)(h:ReachN nx (a:Int) c):ReachN nx (b:Int) c\/ReachN nx (a:Int) b:=by
 generalize hwo:(a:Int)=wo at h
 induction h with
 |zero h0 h=>
  by_cases e:b=0
  ·right;rw[e];exact .zero h0 h
  ·left;exact .zero (by omega) h
 |step h1 h2 h3 ih=>
  rename_i i t
  rcases ih with ih |ih
  ·by_cases e:t=b
   ·right;rw[<-e];exact .step h1 h2 h3
   ·left;exact .step ih h2 (by omega)
  ·right;exact ih
theorem _root_.Go.Gr.ReachN.either(hab:a≠b)(h:ReachN nx (-1) c):(ReachN nx (a:Int) c/\ReachN nx (b:Int) c)\/ReachN nx (b:Int) a\/ReachN nx (a:Int) b:=by
 generalize hwo:(-1:Int)=wo at h
 induction h with
 |zero _ h=>
  by_cases e:a=0
  ·right;left;rw[e];exact .zero (by omega) h
  ·by_cases e':b=0
   ·right;right;rw[e'];exact .zero (by omega) h
   ·left;exact⟨.zero (by omega) h,.zero (by omega) h⟩
 |step h1 h2 h3 ih=>
  rename_i i t
  rcases ih with⟨i1,i2⟩ |ih
  ·by_cases e:t=a
   ·right;left;rw[<-e];exact .step i2 h2 (by omega)
   ·by_cases e':t=b
    ·right;right;rw[<-e'];exact .step i1 h2 (by omega)
    ·left;exact⟨.step i1 h2 (by omega),.step i2 h2 (by omega)⟩
  ·right;exact ih
theorem _root_.Go.Gr.ReachN.or(hab:a≠b)(h1:ReachN nx (a:Int) b)(h2:ReachN nx (b:Int) a)(h:ReachN nx (-1) c):ReachN nx (a:Int) c\/ReachN nx (b:Int) c:=by
 generalize hwo:(-1:Int)=wo at h
 induction h with
 |zero _ h=>
  by_cases e:a=0
  ·right;exact .zero (by omega) h
  ·left;exact .zero (by omega) h
 |step h8 h3 h9 ih=>
  rename_i i t
  rcases ih with ih |ih
  ·by_cases e:t=a
   ·right;rw[e];exact h2
   ·left;exact .step ih h3 (by omega)
  ·by_cases e:t=b
   ·left;rw[e];exact h1
   ·right;exact .step ih h3 (by omega)
theorem DomR.trans(h:DomR nx a b)(k:DomR nx b c):DomR nx a c:=by
 refine⟨k.1,?_⟩
 rcases h.2 with rfl |h2
 ·exact k.2
 ·rcases k.2 with rfl |k2
  ·exact .inr h2
  ·exact .inr λhr=>(hr.via b).elim k2 h2
theorem DomR.anti(h:DomR nx a b)(k:DomR nx b a):a=b:=by
 rcases h.2 with rfl |h2
 ·rfl
 ·rcases k.2 with rfl |k2
  ·rfl
  ·by_cases e:a=b
   ·exact e
   ·rcases h.1.either e with h3 |h3 |h3
    ·exact absurd rfl h3.2.self
    ·exact absurd h3 k2
    ·exact absurd h3 h2
theorem DomR.top(h:DomR nx a b):ReachN nx (-1) a:=by
 rcases h.2 with rfl |h2
 ·exact h.1
 ·exact(h.1.cut a).resolve_left h2
theorem DomR.lin(h:DomR nx a c)(k:DomR nx b c):DomR nx a b\/DomR nx b a:=by
 by_cases e:a=b
 ·left;exact⟨k.top,.inl e⟩
 ·rcases h.2 with rfl |h2
  ·exact .inr k
  ·rcases k.2 with rfl |k2
   ·exact .inl h
   ·by_cases h3:ReachN nx (a:Int) b
    ·by_cases h4:ReachN nx (b:Int) a
     ·rcases Go.Gr.ReachN.or e h3 h4 h.1 with h5 |h5
      ·exact absurd h5 h2
      ·exact absurd h5 k2
     ·exact .inr ⟨h.top,.inr h4⟩
    ·exact .inl ⟨k.top,.inr h3⟩
end
section
variable {w:World} {nb gb:Nat} {nx:List (List Nat)} {ml:List Mg} {g:Nst}
theorem DOk.of(ok:NxOk nx)(fit:Fit nx.length ml):DOk nx ml:=by
 have hlw:(Yk nx ml).length=nx.length:=by simp[Yk,zhe]
 have hp:=ok.pos
 have hm:=ok.max
 have okw:NxOk (zz nx ml):=by rw[<-zik];exact zgH (by omega) (by omega) (zi3 ok fit)
 have re:∀x:Nat,ReachN (zz nx ml) (-1) x↔x∈zp (zz nx ml):=λx=>by rw[okw.walkOk.mem x];exact(zdC okw.rows okw.pos x).symm
 refine⟨ok,okw,fit,λ⟨a,b,e1,e2,h⟩ ⟨b',a',e3,e4,k⟩=>?_,λ⟨a,b,e1,e2,h⟩ ⟨b',c,e3,e4,k⟩=>?_,λ⟨a,b,e1,e2,h⟩ ⟨c,b',e3,e4,k⟩=>?_,re,λ⟨a,b,e1,e2,h⟩=>⟨a,b,e1,e2,(re a).1 h.top,(re b).1 h.1⟩⟩
 ·have:b'=b:=by omega
  have:a'=a:=by omega
  subst_vars
  rw[h.anti k]
 ·have:b'=b:=by omega
  subst_vars
  exact⟨a,c,rfl,rfl,h.trans k⟩
 ·have:b'=b:=by omega
  subst_vars
  exact(h.lin k).imp (λq=>⟨a,c,rfl,rfl,q⟩) λq=>⟨c,a,rfl,rfl,q⟩
theorem Nd.dok(h:Nd w nb gb nx ml g):DOk nx ml:=by
 obtain⟨hsl,hh,wb,tb,ms,h0,_⟩:=h.ne.ex
 exact DOk.of (h.nxe▸h0.ok) (h.nxe▸h.mle▸h0.fit)
theorem zf0:(zz nx ml).length=nx.length:=by simp[zz,zhe]
theorem zmb{x t:Nat}(hx:x<nx.length):t∈(zz nx ml).getD x []↔t∈nx.getD x []\/t∈extL (ml.getD x (0,0,0)):=by
 have:(zz nx ml).getD x []=Ze (wrow nx ml x):=by simp[zz,zhe,List.getD,hx]
 rw[this,zhu]
 unfold wrow
 rw[List.mem_append]
namespace DOk
variable (h:DOk nx ml)
include h
theorem refl{x:Nat}(hx:x∈zp (zz nx ml)):DW (zz nx ml) (x:Int) (x:Int):=⟨x,x,rfl,rfl,(h.re x).2 hx,.inl rfl⟩
theorem refl_of{a b:Int}(hd:DW (zz nx ml) a b):DW (zz nx ml) a a/\DW (zz nx ml) b b:=by
 obtain⟨x,y,rfl,rfl,h1,h2⟩:=h.ends hd
 exact⟨h.refl h1,h.refl h2⟩
theorem lt{x:Nat}(hx:x∈zp (zz nx ml)):x<nx.length:=by rw[<-zf0 (nx:=nx) (ml:=ml)];exact zsl h.okw x hx
theorem edge{a b:Nat}{c:Int}(ha:a∈zp (zz nx ml))(hb:b∈(zz nx ml).getD a [])(hd:DW (zz nx ml) c (b:Int))(hne:c≠(b:Int)):DW (zz nx ml) c (a:Int):=by
 obtain⟨c',b',rfl,e,h1,h2⟩:=hd
 have:b'=b:=by omega
 subst this
 have ha':=(h.re a).2 ha
 refine⟨c',a,rfl,rfl,ha',?_⟩
 rcases h2 with rfl |h2
 ·exact absurd rfl hne
 ·exact .inr λhr=>h2 (.step hr hb (by omega))
theorem step{a b:Nat}(ha:a∈zp (zz nx ml))(hb:b∈(zz nx ml).getD a []):b∈zp (zz nx ml):=(h.re b).1 (.step ((h.re a).2 ha) hb (by omega))
theorem zt0{x:Nat}(hx:x∈zp nx):x∈zp (zz nx ml):=by
 have hre:ReachN nx (-1) x:=(zdC h.ok.rows h.ok.pos x).1 ((h.ok.walkOk.mem x).1 hx)
 clear hx
 generalize hwo:(-1:Int)=wo at hre
 induction hre with
 |zero _ h0=>exact(h.re 0).1 (.zero (by omega) (by rw[zf0];exact h0))
 |step h1 h2 h3 ih=>
  rename_i i t
  by_cases hi:i<nx.length
  ·exact h.step ih ((zmb hi).2 (.inl h2))
  ·simp[List.getD,List.getElem?_eq_none (show nx.length<=i by omega)]at h2
end DOk
def InM(nx:List (List Nat))(ml:List Mg)(x i:Nat):Prop:=(ml.getD x (0,0,0)).1≠0/\DW (zz nx ml) (x:Int) (i:Int)/\¬DW (zz nx ml) (ml.getD x (0,0,0)).2.1 (i:Int)
theorem Nd.D_iff'(h:Nd w nb gb nx ml g){a b:Int}:g.D a b↔DW (zz nx ml) a b:=by rw[h.D_iff,h.wxe]
theorem Nd.in_iff(h:Nd w nb gb nx ml g){x i:Nat}:g.In x i↔InM nx ml x i:=by
 unfold Nst.In InM Nst.kd Nst.to
 rw[h.D_iff',h.D_iff',h.mle]
open Classical in
noncomputable def inM(nx:List (List Nat))(ml:List Mg)(x i:Nat):Bool:=decide (InM nx ml x i)
theorem zhp{x i:Nat}:inM nx ml x i=true↔InM nx ml x i:=by simp[inM]
theorem InM.lt(h:DOk nx ml){x i:Nat}(hi:InM nx ml x i):x<nx.length/\i<nx.length:=by
 obtain⟨a,b,e1,e2,h3,h4⟩:=h.ends hi.2.1
 have h5:=h.lt h3
 have h6:=h.lt h4
 omega
theorem zsv{x:Nat}(h:DOk nx ml)(hx:x<nx.length)(hk:(ml.getD x (0,0,0)).1≠0):∃t:Nat,(ml.getD x (0,0,0)).2.1=(t:Int)/\t∈(zz nx ml).getD x []:=by
 have hf:=(zl7 h.fit hx).2.1 hk
 refine⟨(ml.getD x (0,0,0)).2.1.toNat,by omega,(zmb hx).2 (.inr ?_)⟩
 unfold extL
 rw[if_neg hk]
 split<;>simp
theorem ztg{x:Nat}(h:DOk nx ml)(hx:x<nx.length)(hk:(ml.getD x (0,0,0)).1=2):∃t:Nat,(ml.getD x (0,0,0)).2.2=(t:Int)/\t∈(zz nx ml).getD x []:=by
 have hf:=(zl7 h.fit hx).2.2 hk
 refine⟨(ml.getD x (0,0,0)).2.2.toNat,by omega,(zmb hx).2 (.inr ?_)⟩
 unfold extL
 rw[if_neg (by omega),if_pos hk]
 simp
theorem zeE{R:Nat->Nat->Prop}:∀{l:List Nat} {z:Nat},l.Pairwise R->l.getLast? =some z->∀x∈l,x=z\/R x z
 | [],_,_,h,_,_=>by simp at h
 | [a],z,_,h,x,hx=>by simp at h hx;left;omega
 |a::b::r,z,hp,h,x,hx=>by
  rw[List.getLast?_cons_cons]at h
  rcases List.mem_cons.1 hx with rfl |hx
  ·right
   rw[List.pairwise_cons]at hp
   exact hp.1 z (List.mem_of_getLast? h)
  ·exact zeE (List.pairwise_cons.1 hp).2 h x hx
end
end Go.Proofs
namespace Go.Proofs
open Go.Gk Go.RowKit Go.Gr Go.Dm
end Go.Proofs
namespace Go.Proofs
open Go.Gk Go.RowKit Go.Gr Go.Dm
end Go.Proofs
namespace Go.Proofs
open Go.Gk Go.RowKit Go.Gr Go.Dm
section
variable {nx:List (List Nat)} {ml:List Mg} {s:Sl}
theorem zeX{ml:List Mg}{k:Nat}(h:k<ml.length):ml[k]=ml.getD k (0,0,0):=by simp[List.getD,h]
end
end Go.Proofs
namespace Go.Proofs
open Go.Gk Go.RowKit Go.Gr Go.Dm
structure CT (B T:Nat) (w:World) (C:Sl) (rows:List (List Nat)):Prop where
 size:T<=w.heap.size
 bT:B<=T
 fr:∀a,C.a=some a->B<=a.block/\a.block<T
 ex:∃hs:List Sl,hs.length=rows.length/\Own w 26 1 C (hs.map Sl.val)/\∀(i:Nat) (h:i<hs.length),Own w 3 1 hs[i] ((rows.getD i []).map iN)/\∀a,hs[i].a=some a->a.block<T
section
variable {B T:Nat} {w w':World} {C:Sl} {rows:List (List Nat)}
theorem CT.grow(h:CT B T w C rows)(hb:Below T w w'):CT B T w' C rows:=by
 obtain⟨hs,h1,h2,h3⟩:=h.ex
 have:=hb.size
 have:=h.size
 exact⟨by omega,h.bT,h.fr,hs,h1,h2.of_block λa ha=>hb.block _ (h.fr a ha).2,λi hi=>⟨(h3 i hi).1.of_block λa ha=>hb.block _ ((h3 i hi).2 a ha),(h3 i hi).2⟩⟩
theorem CT.up(h:CT B T w C rows):CT B w.heap.size w C rows:=by
 obtain⟨hs,h1,h2,h3⟩:=h.ex
 have:=h.size
 have:=h.bT
 exact⟨Nat.le_refl _,by omega,λa ha=>by have:=h.fr a ha;omega,hs,h1,h2,λi hi=>⟨(h3 i hi).1,λa ha=>by have:=(h3 i hi).2 a ha;omega⟩⟩
theorem CT.len(h:CT B T w C rows):C.l=rows.length:=by
 obtain⟨hs,h1,h2,_⟩:=h.ex
 have:=h2.1
 rw[List.length_map]at this
 omega
theorem CT.push(h:CT B w.heap.size w C rows){r:Sl}{l:List Nat}(ho:Own w 3 1 r (l.map iN))(hlen:rows.length<1048576){k:Sl->World->Prop}
  (hk:∀C' w',Below B w w'->CT B w'.heap.size w' C' (rows++[l])->k C' w') :
  Nw (w.alloc (.cells #[(.slice r.a r.l r.c)] 26)) λw1=>zo Tryz.prog 48 (.slice C.a C.l C.c) (.slice (some (blk w.heap.size)) 1 1) w1 k:=by
 obtain⟨hs,h1,h2,h3⟩:=h.ex
 have hCl:=h.len
 refine Nw.gen λw1 hw1=>?_
 have hB1:Blk w1 w.heap.size 26 [r.val]:=by rw[hw1];exact Blk.new w _ #[_]
 have h21:Own w1 26 1 C (hs.map Sl.val):=by rw[hw1];exact h2.alloc _
 have b1:Below w.heap.size w w1:=by rw[hw1];exact(Below.refl _ _).alloc (Nat.le_refl _) _
 have z1:w1.heap.size=w.heap.size+1:=by rw[hw1];simp
 refine yY eII h21 rfl hB1 (by omega) (by omega) λC' w' hC' hCl' ⟨b,hrb,hbo,hg⟩=>?_
 have hbB:B<=b:=by
  rcases hbo with hb |rfl
  ·exact(h.fr _ hb).1
  ·have:=h.bT;omega
 have hbT:=h.bT
 have zg:=hg.size
 obtain⟨cb,hcb⟩:=hC'.type hrb
 have keep:∀{r':Sl} {xs:List Value},Own w 3 1 r' xs->Own w' 3 1 r' xs:=λ{r' xs} ho'=>(ho'.below b1).of_block λa ha=>hg.block _ ((ho'.below b1).lt ha).2 λe=>by
  have e:b=a.block:=(Option.some.inj e).symm
  have hlt:=(ho'.lt ha).2
  rcases hbo with hb |hb
  ·obtain⟨cs,hcs⟩:=h2.type hb
   exact zad ho' hcs (by decide) ha e.symm
  ·omega
 have b2:Below B w w':=(b1.mono hbT).trans (zM hg hbB (by omega))
 refine hk C' w' b2 ⟨Nat.le_refl _,by omega,λa ha=>?_,hs++[r],by simp[h1],by simpa using hC',λi hi=>?_⟩
 ·rw[hrb]at ha
  cases ha
  exact⟨hbB,hcb.lt⟩
 ·have hi2:i<hs.length+1:=by simpa using hi
  by_cases e:i<hs.length
  ·rw[List.getElem_append_left e,show(rows++[l]).getD i []=rows.getD i [] by simp[List.getD,List.getElem?_append_left (show i<rows.length by omega)]]
   exact⟨keep (h3 i e).1,λa ha=>by have:=(h3 i e).2 a ha;omega⟩
  ·have e':i=hs.length:=by omega
   subst e'
   rw[List.getElem_concat_length rfl,show(rows++[l]).getD hs.length []=l by simp[List.getD,h1]]
   exact⟨keep ho,λa ha=>by have:=(ho.lt ha).2;omega⟩
end
end Go.Proofs
namespace Go.Proofs
open Go.Gk Go.RowKit Go.Gr Go.Dm
section
variable {w:World} {nb gb:Nat} {nx:List (List Nat)} {ml:List Mg} {g:Nst}
abbrev kdM(ml:List Mg)(x:Nat):Int:=(ml.getD x (0,0,0)).1
abbrev toM(ml:List Mg)(x:Nat):Int:=(ml.getD x (0,0,0)).2.1
abbrev coM(ml:List Mg)(x:Nat):Int:=(ml.getD x (0,0,0)).2.2
theorem Nd.kdE(h:Nd w nb gb nx ml g)(x:Nat):g.kd x=kdM ml x:=by unfold Nst.kd;rw[h.mle]
theorem Nd.toE(h:Nd w nb gb nx ml g)(x:Nat):g.to x=toM ml x:=by unfold Nst.to;rw[h.mle]
theorem Nd.coE(h:Nd w nb gb nx ml g)(x:Nat):g.co x=coM ml x:=by unfold Nst.co;rw[h.mle]
def zkq(nx:List (List Nat))(ml:List Mg)(h:Nat):Prop:=h∈zp (zz nx ml)/\kdM ml h≠0
def OfM(nx:List (List Nat))(ml:List Mg)(kind:Int)(h:Nat):Prop:=zkq nx ml h/\(kind=0\/kdM ml h=2\/(kind=3/\kdM ml h=3))
def YR(nx:List (List Nat))(ml:List Mg)(h i:Nat)(kind:Int):Prop:=OfM nx ml kind h/\InM nx ml h i/\∀o,o<nx.length->o≠h->OfM nx ml kind o->InM nx ml o i->¬DW (zz nx ml) (h:Int) (o:Int)
theorem InM.head(hd:DOk nx ml){x i:Nat}(h:InM nx ml x i):zkq nx ml x:=by
 obtain⟨a,b,e1,_,h3,_⟩:=hd.ends h.2.1
 have:x=a:=by omega
 subst this
 exact⟨h3,h.1⟩
theorem Nd.hdp(h:Nd w nb gb nx ml g)(i:Nat):(g.hd i).Pairwise λ(a b:Nat)=>a≠b/\DW (zz nx ml) (a:Int) (b:Int):=by
 obtain⟨_,_,_,_,_,h0,_⟩:=h.ne.ex
 exact(h0.hd_pairwise i).imp λhh=>⟨hh.1,h.D_iff'.1 hh.2⟩
theorem Nd.within(h:Nd w nb gb nx ml g){kl:List Int}{kind:Int}(hkl:∀x,x<nx.length->kdM ml x≠0->(kl.contains (kdM ml x)=true↔(kind=0\/kdM ml x=2\/(kind=3/\kdM ml x=3))))(i z:Nat) :
  zd6 g i kl=(z:Int)↔YR nx ml z i kind:=by
 have hd:=h.dok
 have mem:∀x,x∈(g.hd i).filter (λx=>kl.contains (g.kd x))↔InM nx ml x i/\OfM nx ml kind x:=λx=>by
  rw[List.mem_filter,h.hd_mem,h.in_iff,h.kdE]
  constructor
  ·exact λ⟨h1,h2⟩=>⟨h1,h1.head hd,(hkl x (h1.lt hd).1 h1.1).1 h2⟩
  ·exact λ⟨h1,h2⟩=>⟨h1,(hkl x (h1.lt hd).1 h1.1).2 h2.2⟩
 have hp:((g.hd i).filter (λx=>kl.contains (g.kd x))).Pairwise λ(a b:Nat)=>a≠b/\DW (zz nx ml) (a:Int) (b:Int):=(h.hdp i).sublist List.filter_sublist
 unfold zd6
 generalize (g.hd i).filter (λx=>kl.contains (g.kd x))=l at *
 unfold zlE
 cases e:l.getLast? with
 |none=>
  rw[List.getLast?_eq_none_iff]at e
  subst e
  refine⟨λh=>by simp only at h;omega,λhz=>?_⟩
  have:=(mem z).2 ⟨hz.2.1,hz.1⟩
  cases this
 |some y=>
  have hy:=(mem y).1 (List.mem_of_getLast? e)
  constructor
  ·intro e1
   have:y=z:=by simp only at e1;omega
   subst this
   refine⟨hy.2,hy.1,λo _ hne ho hi hdo=>?_⟩
   rcases zeE hp e o ((mem o).2 ⟨hi,ho⟩) with e2 |e2
   ·exact hne e2
   ·have:=hd.anti hdo e2.2
    omega
  ·intro hz
   rcases zeE hp e z ((mem z).2 ⟨hz.2.1,hz.1⟩) with e2 |e2
   ·rw[e2]
   ·exact absurd e2.2 (hz.2.2 y (hy.1.lt hd).1 (λe'=>e2.1 e'.symm) hy.2 hy.1)
theorem Nd.within3(h:Nd w nb gb nx ml g)(i z:Nat):zd6 g i [2,3]=(z:Int)↔YR nx ml z i 3:=h.within (λx _ _=>by
 rw[List.contains_iff_mem]
 simp) i z
theorem Nd.within2(h:Nd w nb gb nx ml g)(i z:Nat):zd6 g i [2]=(z:Int)↔YR nx ml z i 2:=h.within (λx _ _=>by
 rw[List.contains_iff_mem]
 simp) i z
noncomputable def yT(nx:List (List Nat))(ml:List Mg)(i t k:Nat):Nat:=(List.range k).countP λh=>inM nx ml h i&&!inM nx ml h t
def zf4(nx:List (List Nat))(ml:List Mg)(i t o k:Nat):Prop:=o<k/\InM nx ml o i/\¬InM nx ml o t/\∀x,x<k->InM nx ml x i->¬InM nx ml x t->DW (zz nx ml) (o:Int) (x:Int)
def MayM(nx:List (List Nat))(ml:List Mg)(i t:Nat):Prop:=
 (∀h,h<nx.length->InM nx ml h t->¬InM nx ml h i->t=h)/\(yT nx ml i t nx.length=0\/((∃o,zf4 nx ml i t o nx.length/\(t:Int)=toM ml o/\(yT nx ml i t nx.length=1\/YR nx ml o i 3))\/∃h,h<nx.length/\YR nx ml h i 2/\(t:Int)=coM ml h/\InM nx ml h t))
theorem zkk:∀{a b:List Nat},a.Nodup->(∀x∈a,x∈b)->a.length<=b.length
 | [],_,_,_=>by simp
 |x::r,b,ha,h=>by
  rw[List.nodup_cons]at ha
  have h1:=zkk (b:=b.erase x) ha.2 λy hy=>(List.mem_erase_of_ne (λe=>ha.1 (by rw[<-e];exact hy))).2 (h y (by simp[hy]))
  have hx:=h x (by simp)
  rw[List.length_erase_of_mem hx]at h1
  have:=List.length_pos_of_mem hx
  simp only[List.length_cons]
  omega
theorem Nd.leftL_mem(h:Nd w nb gb nx ml g){i t x:Nat}:x∈YF g i t↔InM nx ml x i/\¬InM nx ml x t:=by
 unfold YF
 rw[List.mem_filter,h.hd_mem,zfm,h.in_iff,h.in_iff]
theorem Nd.leftL_len(h:Nd w nb gb nx ml g)(i t:Nat):(YF g i t).length=yT nx ml i t nx.length:=by
 have n1:(YF g i t).Nodup:=by unfold YF;exact(h.hd_nodup i).sublist List.filter_sublist
 unfold yT
 rw[List.countP_eq_length_filter]
 have n2:((List.range nx.length).filter λh=>inM nx ml h i&&!inM nx ml h t).Nodup:=List.nodup_range.sublist List.filter_sublist
 have e:∀x,x∈YF g i t↔x∈(List.range nx.length).filter λh=>inM nx ml h i&&!inM nx ml h t:=λx=>by
  rw[h.leftL_mem,List.mem_filter,List.mem_range,Bool.and_eq_true,Bool.not_eq_true',<-Bool.not_eq_true,zhp,zhp]
  exact⟨λhh=>⟨(hh.1.lt h.dok).1,hh⟩,λhh=>hh.2⟩
 exact Nat.le_antisymm (zkk n1 λx hx=>(e x).1 hx) (zkk n2 λx hx=>(e x).2 hx)
theorem Nd.outer(h:Nd w nb gb nx ml g){i t o:Nat}(ho:(YF g i t).head? =some o):zf4 nx ml i t o nx.length:=by
 have hp:(YF g i t).Pairwise λ(a b:Nat)=>a≠b/\DW (zz nx ml) (a:Int) (b:Int):=by unfold YF;exact(h.hdp i).sublist List.filter_sublist
 have hm:∀x,x∈YF g i t↔InM nx ml x i/\¬InM nx ml x t:=λx=>h.leftL_mem
 generalize YF g i t=l at *
 cases l with
 |nil=>cases ho
 |cons y r=>
  simp only[List.head?_cons,Option.some.injEq]at ho
  subst ho
  have hy:=(hm y).1 (List.mem_cons_self (a:=y) (l:=r))
  refine⟨(hy.1.lt h.dok).1,hy.1,hy.2,λx _ h1 h2=>?_⟩
  rcases List.mem_cons.1 ((hm x).2 ⟨h1,h2⟩) with e |e
  ·rw[e];exact(h.dok.refl_of hy.1.2.1).1
  ·exact((List.pairwise_cons.1 hp).1 x e).2
theorem zf4.uniq(h:DOk nx ml){i t o o' k:Nat}(h1:zf4 nx ml i t o k)(h2:zf4 nx ml i t o' k):o=o':=by
 have:=h.anti (h1.2.2.2 o' h2.1 h2.2.1 h2.2.2.1) (h2.2.2.2 o h1.1 h1.2.1 h1.2.2.1)
 omega
theorem Nd.may_iff(h:Nd w nb gb nx ml g)(i t:Nat):MayP g i t↔MayM nx ml i t:=by
 have hd:=h.dok
 have hlen:=h.leftL_len i t
 unfold MayP MayM
 have first:(∀x∈g.hd t,x≠t->g.In x i)↔∀x,x<nx.length->InM nx ml x t->¬InM nx ml x i->t=x:=by
  constructor
  ·intro hh x _ h1 h2
   by_cases e:t=x
   ·exact e
   ·exact absurd (h.in_iff.1 (hh x (h.hd_mem.2 (h.in_iff.2 h1)) λe'=>e e'.symm)) h2
  ·intro hh x hx hne
   have h1:=h.in_iff.1 (h.hd_mem.1 hx)
   rw[h.in_iff]
   by_cases h2:InM nx ml x i
   ·exact h2
   ·exact absurd (hh x (h1.lt hd).1 h1 h2).symm hne
 rw[first,<-hlen]
 refine and_congr_right λ_=>?_
 rw[List.length_eq_zero_iff]
 by_cases e0:YF g i t=[]
 ·exact⟨λ_=>.inl e0,λ_=>.inl e0⟩
 refine or_congr_right ?_
 constructor
 ·rintro⟨o,ho,⟨h1,h2⟩ | ⟨z,h1,h2,h3⟩⟩
  ·left
   refine⟨o,h.outer ho,by rw[<-h.toE];exact h1,h2.imp_right λe=>?_⟩
   exact(h.within3 i o).1 e.symm
  ·right
   have hw:=(h.within2 i z).1 h1
   exact⟨z,(hw.2.1.lt hd).1,hw,by rw[<-h.coE];exact h2,h.in_iff.1 h3⟩
 ·intro hh
  have:∃o,(YF g i t).head? =some o:=by
   cases e1:YF g i t with
   |nil=>exact absurd e1 e0
   |cons y r=>exact⟨y,rfl⟩
  obtain⟨o,ho⟩:=this
  refine⟨o,ho,?_⟩
  rcases hh with⟨o',h1,h2,h3⟩ | ⟨z,_,h1,h2,h3⟩
  ·left
   have:=h1.uniq hd (h.outer ho)
   subst this
   exact⟨by rw[h.toE];exact h2,h3.imp_right λe=>((h.within3 i o').2 e).symm⟩
  ·right
   exact⟨z,(h.within2 i z).2 h1,by rw[h.coE];exact h2,h.in_iff.2 h3⟩
def znc(nx:List (List Nat))(ml:List Mg)(i:Nat):Prop:=kdM ml i≠0/\(toM ml i=(i:Int)\/¬DW (zz nx ml) (i:Int) (toM ml i)\/(kdM ml i=2/\(coM ml i=toM ml i\/¬DW (zz nx ml) (i:Int) (coM ml i)))\/
 ∃o,o<nx.length/\o≠i/\zkq nx ml o/\(toM ml o=toM ml i\/(kdM ml i=2/\kdM ml o=2/\coM ml o=coM ml i)))
def FEM(nx:List (List Nat))(ml:List Mg)(i k:Nat):Prop:=k∈nx.getD i []/\¬DW (zz nx ml) (k:Int) (i:Int)
def znb(nx:List (List Nat))(ml:List Mg)(i v:Nat):Prop:=(DW (zz nx ml) (v:Int) (i:Int)/\(kdM ml v≠2\/¬DW (zz nx ml) (coM ml v) (i:Int)))\/(¬DW (zz nx ml) (v:Int) (i:Int)/\Way (FEM nx ml) v i)
open Classical in
noncomputable def dwB(nx:List (List Nat))(ml:List Mg)(a b:Nat):Bool:=decide (DW (zz nx ml) (a:Int) (b:Int))
theorem zhl{a b:Nat}:dwB nx ml a b=true↔DW (zz nx ml) (a:Int) (b:Int):=by simp[dwB]
def znA(nx:List (List Nat))(ml:List Mg)(i:Nat):Prop:=(∃v∈nx.getD i [],znb nx ml i v)\/2<=((zJ nx).getD i []).countP (dwB nx ml i)
def zkE(nx:List (List Nat))(ml:List Mg)(i:Nat):Nat->Prop
 | 0=>kdM ml i=0/\2<=(nx.getD i []).length
 | 1=>znc nx ml i
 | 2=>znA nx ml i
 |_=>∃t∈nx.getD i [],¬MayM nx ml i t
theorem Nd.fe(h:Nd w nb gb nx ml g):FE g=FEM nx ml:=by
 funext i k
 unfold FE FEM
 rw[h.nxe,h.D_iff']
theorem Nd.rule_iff(h:Nd w nb gb nx ml g)(i:Nat):∀r,zoX g i r↔zkE nx ml i r
 | 0=>by
  show znB g i↔(kdM ml i=0/\2<=(nx.getD i []).length)
  unfold znB
  rw[h.kdE,h.nxe]
 | 1=>by
  show znd g i↔znc nx ml i
  unfold znd znc
  simp only[h.kdE,h.toE,h.coE,h.D_iff',h.nxe]
  refine and_congr_right λ_=>or_congr_right (or_congr_right (or_congr_right (exists_congr λo=>and_congr_right λ_=>?_)))
  unfold zlm zkq
  rw[h.wxe,h.kdE,h.kdE,h.toE,h.toE,h.coE,h.coE]
  constructor
  ·exact λ⟨a,b,c,d⟩=>⟨a,⟨c,b⟩,d⟩
  ·exact λ⟨a,⟨b,c⟩,d⟩=>⟨a,c,b,d⟩
 | 2=>by
  show zqb g i↔znA nx ml i
  unfold zqb znA
  rw[h.nxe]
  refine or_congr (exists_congr λv=>and_congr_right λ_=>?_) ?_
  ·unfold zmq znb
   rw[h.D_iff',h.D_iff',h.kdE,h.coE,h.fe]
  ·rw[List.countP_congr (q:=dwB nx ml i) λu _=>by rw[zhj,zhl,h.D_iff']]
 |r+3=>by
  show zqc g i↔∃t∈nx.getD i [],¬MayM nx ml i t
  unfold zqc
  rw[h.nxe]
  exact exists_congr λt=>and_congr_right λ_=>not_congr (h.may_iff i t)
open Classical in
noncomputable def brkM(nx:List (List Nat))(ml:List Mg)(i r:Nat):Bool:=decide (i∈zp (zz nx ml)/\zkE nx ml i r)
theorem ziW{i r:Nat}:brkM nx ml i r=true↔i∈zp (zz nx ml)/\zkE nx ml i r:=by simp[brkM]
noncomputable def zT(nx:List (List Nat))(ml:List Mg)(i m:Nat):List (Int×Int):=((List.range m).filter (brkM nx ml i)).map λr=>((i:Int),zm5 r)
noncomputable def yn(nx:List (List Nat))(ml:List Mg)(k:Nat):List (Int×Int):=(List.range k).flatMap λi=>zT nx ml i 4
theorem Nd.flawsE(h:Nd w nb gb nx ml g)(k:Nat):y5 g k=yn nx ml k:=by
 have:∀i,y8 g i 4=zT nx ml i 4:=λi=>by
  unfold y8 zT
  congr 1
  refine List.filter_congr λr _=>?_
  rw[Bool.eq_iff_iff,zhk,ziW,h.wxe,h.rule_iff]
 unfold y5 yn
 simp only[this]
end
end Go.Proofs
namespace Go.Proofs
open Go.Gk
set_option linter.unusedVariables false
set_option maxRecDepth 100000
def YV:Ann:=(.q (.q (.seq none (.q (.cond (.q .nil) .nil)) (.q (.seq none (.q (.one (.loop ⟨[1,2,4],[(6,(.b (.int .i64)))]⟩ (.seq none (.q .c) (.seq none (.one (.seq (some ⟨[1,2,4,6],[(7,(.b .ptr)),(8,(.b .slice)),(9,(.b .addr))]⟩) .nil (.seq none (.q (.cond (.q .nil) .nil)) (.q (.q (.cond (.q .nil) .nil)))))) .nil))))) (.q .nil))))))
def YP(p0:(Int×Int×Sl×Unit))(R:VWP)(w:World):Prop:=Nw (w.alloc (.cells #[.int .u32 p0.1,.int .u32 p0.2.1,.slice p0.2.2.1.a p0.2.2.1.l p0.2.2.1.c] 25)) λw1=>Nw (w1.alloc (.cells #[.int .i64 0,.int .i64 0] 33)) λw2=>ldI w2 ((blk w.heap.size).add 0) .u32 λx1=>ldI w2 ((blk w.heap.size).add 1) .u32 λx2=>ldS w2 ((blk w.heap.size).add 2) λx3=>cR 47 #[.agg #[.int .u32 x1,.int .u32 x2,.slice x3.a x3.l x3.c]] w2 λv4 w3=>∃x5:(Int×Int×Unit),v4=(.agg #[.int .i64 x5.1,.int .i64 x5.2.1])/\Nw (w3.alloc (.cells #[.int .i64 0,.int .i64 0] 33)) λw4=>Wr w4 (blk w3.heap.size)/\Nw (w4.setCell (blk w3.heap.size) (.int .i64 x5.1)) λw5=>Wr w5 ((blk w3.heap.size).add 1)/\Nw (w5.setCell ((blk w3.heap.size).add 1) (.int .i64 x5.2.1)) λw6=>ldI w6 (blk w3.heap.size) .i64 λx6=>ifB (x6 !=0) (ldI w6 ((blk w3.heap.size).add 0) .i64 λx7=>ldI w6 ((blk w3.heap.size).add 1) .i64 λx8=>Wr w6 (blk w1.heap.size)/\Nw (w6.setCell (blk w1.heap.size) (.int .i64 x7)) λw7=>Wr w7 ((blk w1.heap.size).add 1)/\Nw (w7.setCell ((blk w1.heap.size).add 1) (.int .i64 x8)) λw8=>ldI w8 ((blk w1.heap.size).add 0) .i64 λx9=>ldI w8 ((blk w1.heap.size).add 1) .i64 λx10=>R (.agg #[.int .i64 x9,.int .i64 x10]) w8) (ldI w6 ((blk w.heap.size).add 0) .u32 λx11=>ldI w6 ((blk w.heap.size).add 1) .u32 λx12=>ldS w6 ((blk w.heap.size).add 2) λx13=>cR 8 #[.agg #[.int .u32 x11,.int .u32 x12,.slice x13.a x13.l x13.c]] w6 λv14 w9=>∃x15:Sl,∃x16:(Int×Int×Unit),v14=(.tuple #[.slice x15.a x15.l x15.c,.agg #[.int .i64 x16.1,.int .i64 x16.2.1]])/\Nw (w9.alloc (.cells #[.int .i64 0,.int .i64 0] 33)) λw10=>Wr w10 (blk w9.heap.size)/\Nw (w10.setCell (blk w9.heap.size) (.int .i64 x16.1)) λw11=>Wr w11 ((blk w9.heap.size).add 1)/\Nw (w11.setCell ((blk w9.heap.size).add 1) (.int .i64 x16.2.1)) λw12=>zl (S:=Int×Unit) (λs17 w13 n18=>ifB (decide (s17.1<(x15.l:Int))) (zk (S:=(Option Addr)×Sl×Addr×Unit) (λm19=>ldI w13.drew ((blk w.heap.size).add 0) .u32 λx21=>ldI w13.drew ((blk w.heap.size).add 1) .u32 λx22=>ldS w13.drew ((blk w.heap.size).add 2) λx23=>(0<=s17.1/\s17.1<(x15.l:Int))/\zc x15.a λa24=>ldI w13.drew ((a24.add (s17.1.toNat *5)).add 0) .u32 λx25=>ldI w13.drew ((a24.add (s17.1.toNat *5)).add 1) .i64 λx26=>ldS w13.drew ((a24.add (s17.1.toNat *5)).add 2) λx27=>ldS w13.drew ((a24.add (s17.1.toNat *5)).add 3) λx28=>ldI w13.drew ((a24.add (s17.1.toNat *5)).add 4) .i64 λx29=>(cR 32 #[.agg #[.int .u32 x21,.int .u32 x22,.slice x23.a x23.l x23.c],.agg #[.int .u32 x25,.int .i64 x26,.slice x27.a x27.l x27.c,.slice x28.a x28.l x28.c,.int .i64 x29]] w13.drew λv30 w14=>∃x31:Option Addr,∃x32:Sl,∃x33:(Int×Int×Unit),v30=(.tuple #[.pointer x31,.slice x32.a x32.l x32.c,.agg #[.int .i64 x33.1,.int .i64 x33.2.1]])/\Nw (w14.alloc (.cells #[.int .i64 0,.int .i64 0] 33)) λw15=>Wr w15 (blk w14.heap.size)/\Nw (w15.setCell (blk w14.heap.size) (.int .i64 x33.1)) λw16=>Wr w16 ((blk w14.heap.size).add 1)/\Nw (w16.setCell ((blk w14.heap.size).add 1) (.int .i64 x33.2.1)) λw17=>m19 (x31,x32,(blk w14.heap.size),()) w17)/\Nw (w13.drew.alloc (.cells #[.int .i64 0,.int .i64 0] 33)) λw18=>w18.cell? ((a24.add (s17.1.toNat *5)).add 0)=some (.int .u32 x25)/\w18.cell? ((a24.add (s17.1.toNat *5)).add 1)=some (.int .i64 x26)/\w18.cell? ((a24.add (s17.1.toNat *5)).add 2)=some (.slice x27.a x27.l x27.c)/\w18.cell? ((a24.add (s17.1.toNat *5)).add 3)=some (.slice x28.a x28.l x28.c)/\w18.cell? ((a24.add (s17.1.toNat *5)).add 4)=some (.int .i64 x29)/\w18.cell? ((blk w.heap.size).add 0)=some (.int .u32 x21)/\w18.cell? ((blk w.heap.size).add 1)=some (.int .u32 x22)/\w18.cell? ((blk w.heap.size).add 2)=some (.slice x23.a x23.l x23.c)/\cR 32 #[.agg #[.int .u32 x21,.int .u32 x22,.slice x23.a x23.l x23.c],.agg #[.int .u32 x25,.int .i64 x26,.slice x27.a x27.l x27.c,.slice x28.a x28.l x28.c,.int .i64 x29]] w18 λv34 w19=>∃x35:Option Addr,∃x36:Sl,∃x37:(Int×Int×Unit),v34=(.tuple #[.pointer x35,.slice x36.a x36.l x36.c,.agg #[.int .i64 x37.1,.int .i64 x37.2.1]])/\Wr w19 (blk w13.drew.heap.size)/\Nw (w19.setCell (blk w13.drew.heap.size) (.int .i64 x37.1)) λw20=>Wr w20 ((blk w13.drew.heap.size).add 1)/\Nw (w20.setCell ((blk w13.drew.heap.size).add 1) (.int .i64 x37.2.1)) λw21=>m19 (x35,x36,(blk w13.drew.heap.size),()) w21) (λs20 w22=>ldI w22 s20.2.2.1 .i64 λx38=>ifB (x38 !=0) (ldI w22 (s20.2.2.1.add 0) .i64 λx39=>ldI w22 (s20.2.2.1.add 1) .i64 λx40=>Wr w22 (blk w1.heap.size)/\Nw (w22.setCell (blk w1.heap.size) (.int .i64 x39)) λw23=>Wr w23 ((blk w1.heap.size).add 1)/\Nw (w23.setCell ((blk w1.heap.size).add 1) (.int .i64 x40)) λw24=>ldI w24 ((blk w1.heap.size).add 0) .i64 λx41=>ldI w24 ((blk w1.heap.size).add 1) .i64 λx42=>R (.agg #[.int .i64 x41,.int .i64 x42]) w24) (cR 48 #[.pointer s20.1,.slice s20.2.1.a s20.2.1.l s20.2.1.c] w22 λv43 w25=>∃x44:(Int×Int×Unit),v43=(.agg #[.int .i64 x44.1,.int .i64 x44.2.1])/\Nw (w25.alloc (.cells #[.int .i64 0,.int .i64 0] 33)) λw26=>Wr w26 (blk w25.heap.size)/\Nw (w26.setCell (blk w25.heap.size) (.int .i64 x44.1)) λw27=>Wr w27 ((blk w25.heap.size).add 1)/\Nw (w27.setCell ((blk w25.heap.size).add 1) (.int .i64 x44.2.1)) λw28=>ldI w28 (blk w25.heap.size) .i64 λx45=>ifB (x45 !=0) (ldI w28.drew (blk w25.heap.size) .i64 λx46=>(0<=s17.1/\s17.1<(x15.l:Int))/\zc x15.a λa47=>ldS w28.drew ((a47.add (s17.1.toNat *5)).add 3) λx48=>ldI w28.drew ((blk w25.heap.size).add 1) .i64 λx49=>(0<=x49/\x49<(x48.l:Int))/\zc x48.a λa50=>ldI w28.drew ((a50.add (x49.toNat *3)).add 2) .i64 λx51=>Wr w28.drew (blk w1.heap.size)/\Nw (w28.drew.setCell (blk w1.heap.size) (.int .i64 x46)) λw29=>Wr w29 ((blk w1.heap.size).add 1)/\Nw (w29.setCell ((blk w1.heap.size).add 1) (.int .i64 (IntKind.i64.wrap (x51-(1:Int))))) λw30=>ldI w30 ((blk w1.heap.size).add 0) .i64 λx52=>ldI w30 ((blk w1.heap.size).add 1) .i64 λx53=>R (.agg #[.int .i64 x52,.int .i64 x53]) w30) (n18 ((IntKind.i64.wrap (s17.1+(1:Int))),()) w28)))) (Wr w13 (blk w1.heap.size)/\Nw (w13.setCell (blk w1.heap.size) (.int .i64 0)) λw31=>Wr w31 ((blk w1.heap.size).add 1)/\Nw (w31.setCell ((blk w1.heap.size).add 1) (.int .i64 0)) λw32=>ldI w32 ((blk w1.heap.size).add 0) .i64 λx54=>ldI w32 ((blk w1.heap.size).add 1) .i64 λx55=>R (.agg #[.int .i64 x54,.int .i64 x55]) w32)) (0,()) w12)
theorem zd4(p0)(R)(w)(h:YP p0 R w):Calls Tryz.prog 13 #[.agg #[.int .u32 p0.1,.int .u32 p0.2.1,.slice p0.2.2.1.a p0.2.2.1.l p0.2.2.1.c]] w (Ret R):=lwC YV Tryz.func13 (by kernel_rfl) (by kernel_rfl) h
def zaQ:Ann:=(.q (.q (.seq none (.q (.cond (.q .nil) .nil)) (.seq none (.q (.cond (.q .nil) .nil)) (.q .nil)))))
def za5(p0:Option Addr)(p1:Sl)(R:VWP)(w:World):Prop:=Nw (w.alloc (.cells #[.int .i64 0,.int .i64 0] 33)) λw1=>cR 106 #[.pointer p0,.slice p1.a p1.l p1.c] w1 λv1 w2=>∃x2:Sl,∃x3:Int,v1=(.tuple #[.slice x2.a x2.l x2.c,.int .i64 x3])/\ifB (x3 !=0) (Wr w2 (blk w.heap.size)/\Nw (w2.setCell (blk w.heap.size) (.int .i64 x3)) λw3=>Wr w3 ((blk w.heap.size).add 1)/\Nw (w3.setCell ((blk w.heap.size).add 1) (.int .i64 0)) λw4=>ldI w4 ((blk w.heap.size).add 0) .i64 λx4=>ldI w4 ((blk w.heap.size).add 1) .i64 λx5=>R (.agg #[.int .i64 x4,.int .i64 x5]) w4) (ifB ((x2.l:Int)==0) (Wr w2 (blk w.heap.size)/\Nw (w2.setCell (blk w.heap.size) (.int .i64 0)) λw5=>Wr w5 ((blk w.heap.size).add 1)/\Nw (w5.setCell ((blk w.heap.size).add 1) (.int .i64 0)) λw6=>ldI w6 ((blk w.heap.size).add 0) .i64 λx6=>ldI w6 ((blk w.heap.size).add 1) .i64 λx7=>R (.agg #[.int .i64 x6,.int .i64 x7]) w6) ((0<=(0:Int)/\0<(x2.l:Int))/\zc x2.a λa8=>ldI w2.drew ((a8.add (0*2)).add 1) .i64 λx9=>(0<=(0:Int)/\0<(x2.l:Int))/\zc x2.a λa10=>ldI w2.drew (a10.add (0*2)) .i64 λx11=>Wr w2.drew (blk w.heap.size)/\Nw (w2.drew.setCell (blk w.heap.size) (.int .i64 x9)) λw7=>Wr w7 ((blk w.heap.size).add 1)/\Nw (w7.setCell ((blk w.heap.size).add 1) (.int .i64 x11)) λw8=>ldI w8 ((blk w.heap.size).add 0) .i64 λx12=>ldI w8 ((blk w.heap.size).add 1) .i64 λx13=>R (.agg #[.int .i64 x12,.int .i64 x13]) w8))
theorem zdT(p0)(p1)(R)(w)(h:za5 p0 p1 R w):Calls Tryz.prog 48 #[.pointer p0,.slice p1.a p1.l p1.c] w (Ret R):=lwC zaQ Tryz.func48 (by kernel_rfl) (by kernel_rfl) h
def zaR:Ann:=(.q (.q (.seq none (.q (.cond (.q .nil) .nil)) (.q .nil))))
def za6(p0:Option Addr)(p1:Sl)(R:VWP)(w:World):Prop:=cR 144 #[.pointer p0,.slice p1.a p1.l p1.c] w λv1 w1=>∃x2:Int,v1=(.int .i64 x2)/\ifB (x2 !=0) (R (.tuple #[.slice none 0 0,.int .i64 x2]) w1) (cR 145 #[.pointer p0,.slice p1.a p1.l p1.c] w1 λv3 w2=>∃x4:Option Addr,v3=(.pointer x4)/\cR 146 #[.pointer x4] w2 λv5 w3=>∃x6:Sl,v5=(.slice x6.a x6.l x6.c)/\R (.tuple #[.slice x6.a x6.l x6.c,.int .i64 0]) w3)
theorem zdU(p0)(p1)(R)(w)(h:za6 p0 p1 R w):Calls Tryz.prog 106 #[.pointer p0,.slice p1.a p1.l p1.c] w (Ret R):=lwC zaR Tryz.func106 (by kernel_rfl) (by kernel_rfl) h
def zaP:Ann:=(.q (.seq none (.q (.cond (.q .nil) .nil)) (.seq none (.q (.cond (.q .nil) .nil)) (.q .nil))))
def za4(p0:Option Addr)(p1:Sl)(R:VWP)(w:World):Prop:=ifB (Option.isNone p0) (R (.int .i64 1) w) (cR 180 #[.pointer p0,.slice p1.a p1.l p1.c] w λv1 w1=>∃x2:Bool,v1=(.bool x2)/\ifB (!x2) (R (.int .i64 2) w1) (R (.int .i64 0) w1))
theorem zdS(p0)(p1)(R)(w)(h:za4 p0 p1 R w):Calls Tryz.prog 144 #[.pointer p0,.slice p1.a p1.l p1.c] w (Ret R):=lwC zaP Tryz.func144 (by kernel_rfl) (by kernel_rfl) h
def zc6:Ann:=(.q (.q (.q (.seq none (.q (.one (.loop ⟨[1,5],[(6,(.b (.int .i64)))]⟩ (.seq none (.q .c) (.seq none (.one (.q (.q (.seq none (.q (.one (.loop ⟨[1,5,6,7,8],[(9,(.b (.int .i64)))]⟩ (.seq none (.q .c) (.seq (some ⟨[1,5,6,7,8,9],[]⟩) (.one .nil) .nil))))) .nil)))) .nil))))) (.q .nil)))))
def zcs(p0:Option Addr)(p1:Sl)(R:VWP)(w:World):Prop:=cR 181 #[.pointer p0,.slice p1.a p1.l p1.c] w λv1 w1=>∃x2:Option Addr,v1=(.pointer x2)/\Nw (w1.alloc (.cells #[.pointer p0,.slice p1.a p1.l p1.c,.pointer x2,.slice none 0 0,.slice none 0 0] 241)) λw2=>ldP w2 ((blk w1.heap.size).add 2) λx3=>cR 135 #[.pointer x3,.int .i64 (-1:Int)] w2 λv4 w3=>∃x5:Sl,v4=(.slice x5.a x5.l x5.c)/\Wr w3 ((blk w1.heap.size).add 3)/\Nw (w3.setCell ((blk w1.heap.size).add 3) (.slice x5.a x5.l x5.c)) λw4=>zl (S:=Int×Unit) (λs6 w5 n7=>ifB (decide (s6.1<(p1.l:Int))) ((0<=(p1.l:Int)/\(p1.l:Int)<=(p1.l:Int)/\1*(p1.l:Int)<=281474976710656/\(p1.l:Int)<=9223372036854775807)/\Nw (w5.alloc (.cells (madeCells #[.bool false] (p1.l*1)) 4)) λw6=>ldP w6 ((blk w1.heap.size).add 2) λx8=>cR 135 #[.pointer x8,.int .i64 s6.1] w6 λv9 w7=>∃x10:Sl,v9=(.slice x10.a x10.l x10.c)/\zl (S:=Int×Unit) (λs11 w8 n12=>ifB (decide (s11.1<(p1.l:Int))) (zk (S:=Unit) (λm13=>ldS w8 ((blk w1.heap.size).add 3) λx15=>(0<=s6.1/\s6.1<(x15.l:Int))/\zc x15.a λa16=>ldB w8 (a16.add s6.1.toNat) λx17=>ifB x17 (ldS w8 ((blk w1.heap.size).add 3) λx18=>(0<=s11.1/\s11.1<(x18.l:Int))/\zc x18.a λa19=>ldB w8 (a19.add s11.1.toNat) λx20=>ifB x20 ((0<=s11.1/\s11.1<(x10.l:Int))/\zc x10.a λa21=>ldB w8 (a21.add s11.1.toNat) λx22=>(0<=s11.1/\s11.1<(p1.l:Int))/\Wr w8 ((blk w5.heap.size).add s11.1.toNat)/\Nw (w8.setCell ((blk w5.heap.size).add s11.1.toNat) (.bool (!x22))) λw9=>m13 () w9) ((0<=s11.1/\s11.1<(p1.l:Int))/\Wr w8 ((blk w5.heap.size).add s11.1.toNat)/\Nw (w8.setCell ((blk w5.heap.size).add s11.1.toNat) (.bool false)) λw10=>m13 () w10)) ((0<=s11.1/\s11.1<(p1.l:Int))/\Wr w8 ((blk w5.heap.size).add s11.1.toNat)/\Nw (w8.setCell ((blk w5.heap.size).add s11.1.toNat) (.bool false)) λw11=>m13 () w11)) (λs14 w12=>n12 ((IntKind.i64.wrap (s11.1+(1:Int))),()) w12)) (ldS w8 ((blk w1.heap.size).add 4) λx23=>Nw (w8.alloc (.cells #[.slice (some (blk w5.heap.size)) p1.l p1.l] 98)) λw13=>zo Tryz.prog 96 (.slice x23.a x23.l x23.c) (.slice (some (blk w8.heap.size)) 1 1) w13 λr24 w14=>Wr w14 ((blk w1.heap.size).add 4)/\Nw (w14.setCell ((blk w1.heap.size).add 4) (.slice r24.a r24.l r24.c)) λw15=>n7 ((IntKind.i64.wrap (s6.1+(1:Int))),()) w15)) (0,()) w7) (R (.pointer (some (blk w1.heap.size))) w5)) (0,()) w4
theorem zfh(p0)(p1)(R)(w)(h:zcs p0 p1 R w):Calls Tryz.prog 145 #[.pointer p0,.slice p1.a p1.l p1.c] w (Ret R):=lwC zc6 Tryz.func145 (by kernel_rfl) (by kernel_rfl) h
def Yd:Ann:=(.q (.q (.seq none (.q (.one (.loop ⟨[0],[(3,(.b .slice)),(4,(.b (.int .i64)))]⟩ (.seq none (.q .c) (.seq (some ⟨[0,4],[(3,(.b .slice))]⟩) (.one (.seq none (.q .c) (.seq (some ⟨[0,4],[(3,(.b .slice))]⟩) (.q .c) (.seq (some ⟨[0,4],[(3,(.b .slice))]⟩) (.q .c) (.seq (some ⟨[0,4],[(3,(.b .slice))]⟩) (.q .c) (.q .c)))))) .nil))))) (.q .nil))))
def ZY(p0:Option Addr)(R:VWP)(w:World):Prop:=zl (S:=Sl×Int×Unit) (λs1 w1 n2=>zc p0 λa3=>ldS w1 (a3.add 1) λx4=>ifB (decide (s1.2.1<(x4.l:Int))) (zk (S:=Sl×Unit) (λm5=>zc p0 λa7=>ldS w1 (a7.add 3) λx8=>(0<=s1.2.1/\s1.2.1<(x8.l:Int))/\zc x8.a λa9=>ldB w1 (a9.add s1.2.1.toNat) λx10=>ifB (!x10) (m5 (s1.1,()) w1) (zk (S:=Sl×Unit) (λm11=>cR 182 #[.pointer p0,.int .i64 s1.2.1] w1 λv13 w2=>∃x14:Bool,v13=(.bool x14)/\ifB x14 (Nw (w2.alloc (.cells #[.int .i64 s1.2.1,.int .i64 163] 156)) λw3=>zo Tryz.prog 152 (.slice s1.1.a s1.1.l s1.1.c) (.slice (some (blk w2.heap.size)) 1 1) w3 λr15 w4=>m11 (r15,()) w4) (m11 (s1.1,()) w2)) (λs12 w5=>zk (S:=Sl×Unit) (λm16=>cR 183 #[.pointer p0,.int .i64 s1.2.1] w5 λv18 w6=>∃x19:Bool,v18=(.bool x19)/\ifB x19 (Nw (w6.alloc (.cells #[.int .i64 s1.2.1,.int .i64 160] 156)) λw7=>zo Tryz.prog 152 (.slice s12.1.a s12.1.l s12.1.c) (.slice (some (blk w6.heap.size)) 1 1) w7 λr20 w8=>m16 (r20,()) w8) (m16 (s12.1,()) w6)) (λs17 w9=>zk (S:=Sl×Unit) (λm21=>cR 184 #[.pointer p0,.int .i64 s1.2.1] w9 λv23 w10=>∃x24:Bool,v23=(.bool x24)/\ifB x24 (Nw (w10.alloc (.cells #[.int .i64 s1.2.1,.int .i64 162] 156)) λw11=>zo Tryz.prog 152 (.slice s17.1.a s17.1.l s17.1.c) (.slice (some (blk w10.heap.size)) 1 1) w11 λr25 w12=>m21 (r25,()) w12) (m21 (s17.1,()) w10)) (λs22 w13=>cR 185 #[.pointer p0,.int .i64 s1.2.1] w13 λv26 w14=>∃x27:Bool,v26=(.bool x27)/\ifB x27 (Nw (w14.alloc (.cells #[.int .i64 s1.2.1,.int .i64 161] 156)) λw15=>zo Tryz.prog 152 (.slice s22.1.a s22.1.l s22.1.c) (.slice (some (blk w14.heap.size)) 1 1) w15 λr28 w16=>m5 (r28,()) w16) (m5 (s22.1,()) w14)))))) (λs6 w17=>n2 (s6.1,(IntKind.i64.wrap (s1.2.1+(1:Int))),()) w17)) (R (.slice s1.1.a s1.1.l s1.1.c) w1)) ((Sl.mk none 0 0),0,()) w
theorem zcg(p0)(R)(w)(h:ZY p0 R w):Calls Tryz.prog 146 #[.pointer p0] w (Ret R):=lwC Yd Tryz.func146 (by kernel_rfl) (by kernel_rfl) h
def zc5:Ann:=(.q (.seq none (.q (.cond (.q .nil) .nil)) (.seq none (.q (.one (.loop ⟨[1],[(5,(.b (.int .i64)))]⟩ (.seq none (.q .c) (.seq (some ⟨[1,5],[]⟩) (.one (.seq none (.q (.cond (.q .nil) .nil)) (.seq (some ⟨[1,5],[]⟩) (.q (.cond (.q .nil) .nil)) (.q (.cond (.q .nil) .nil))))) .nil))))) (.q .nil))))
def zcr(p0:Option Addr)(p1:Sl)(R:VWP)(w:World):Prop:=cR 91 #[.pointer p0] w λv1 w1=>∃x2:Int,v1=(.int .i64 x2)/\ifB ((p1.l:Int) !=x2) (R (.bool false) w1) (zl (S:=Int×Unit) (λs3 w2 n4=>ifB (decide (s3.1<(p1.l:Int))) (zk (S:=Unit) (λm5=>(0<=s3.1/\s3.1<(p1.l:Int))/\zc p1.a λa7=>ldI w2 (a7.add (s3.1.toNat *3)) .u8 λx8=>ifB (decide (x8>(3:Int))) (R (.bool false) w2) (zk (S:=Unit) (λm9=>(0<=s3.1/\s3.1<(p1.l:Int))/\zc p1.a λa11=>ldI w2 (a11.add (s3.1.toNat *3)) .u8 λx12=>ifB (x12 !=0) ((0<=s3.1/\s3.1<(p1.l:Int))/\zc p1.a λa13=>ldI w2 ((a13.add (s3.1.toNat *3)).add 1) .i64 λx14=>ifB (decide (x14<(0:Int))) (R (.bool false) w2) ((0<=s3.1/\s3.1<(p1.l:Int))/\zc p1.a λa15=>ldI w2 ((a15.add (s3.1.toNat *3)).add 1) .i64 λx16=>ifB (decide (x16≥(p1.l:Int))) (R (.bool false) w2) (m9 () w2))) (m9 () w2)) (λs10 w3=>(0<=s3.1/\s3.1<(p1.l:Int))/\zc p1.a λa17=>ldI w3 (a17.add (s3.1.toNat *3)) .u8 λx18=>ifB (x18==2) ((0<=s3.1/\s3.1<(p1.l:Int))/\zc p1.a λa19=>ldI w3 ((a19.add (s3.1.toNat *3)).add 2) .i64 λx20=>ifB (decide (x20<(0:Int))) (R (.bool false) w3) ((0<=s3.1/\s3.1<(p1.l:Int))/\zc p1.a λa21=>ldI w3 ((a21.add (s3.1.toNat *3)).add 2) .i64 λx22=>ifB (decide (x22≥(p1.l:Int))) (R (.bool false) w3) (m5 () w3))) (m5 () w3)))) (λs6 w4=>n4 ((IntKind.i64.wrap (s3.1+(1:Int))),()) w4)) (R (.bool true) w2)) (0,()) w1)
theorem zfg(p0)(p1)(R)(w)(h:zcr p0 p1 R w):Calls Tryz.prog 180 #[.pointer p0,.slice p1.a p1.l p1.c] w (Ret R):=lwC zc5 Tryz.func180 (by kernel_rfl) (by kernel_rfl) h
def zbK:Ann:=(.q (.q (.seq none (.q (.one (.loop ⟨[0,1],[(5,(.b .slice)),(6,(.b (.int .i64)))]⟩ (.seq none (.q .c) (.seq none (.one (.q (.seq (some ⟨[0,1,5,6],[(7,(.b .slice))]⟩) (.q .c) (.seq (some ⟨[0,1,5,6],[(7,(.b .slice))]⟩) (.q .c) .nil)))) .nil))))) (.q (.q .nil)))))
def zb2(p0:Option Addr)(p1:Sl)(R:VWP)(w:World):Prop:=zl (S:=Sl×Int×Unit) (λs1 w1 n2=>ifB (decide (s1.2.1<(p1.l:Int))) (cR 92 #[.pointer p0,.int .i64 s1.2.1] w1 λv3 w2=>∃x4:Sl,v3=(.slice x4.a x4.l x4.c)/\zk (S:=Sl×Unit) (λm5=>(0<=s1.2.1/\s1.2.1<(p1.l:Int))/\zc p1.a λa7=>ldI w2 (a7.add (s1.2.1.toNat *3)) .u8 λx8=>ifB (x8 !=0) ((0<=s1.2.1/\s1.2.1<(p1.l:Int))/\zc p1.a λa9=>ldI w2 ((a9.add (s1.2.1.toNat *3)).add 1) .i64 λx10=>Nw (w2.alloc (.cells #[.int .i64 x10] 3)) λw3=>zo Tryz.prog 26 (.slice x4.a x4.l x4.c) (.slice (some (blk w2.heap.size)) 1 1) w3 λr11 w4=>m5 (r11,()) w4) (m5 (x4,()) w2)) (λs6 w5=>zk (S:=Sl×Unit) (λm12=>(0<=s1.2.1/\s1.2.1<(p1.l:Int))/\zc p1.a λa14=>ldI w5 (a14.add (s1.2.1.toNat *3)) .u8 λx15=>ifB (x15==2) ((0<=s1.2.1/\s1.2.1<(p1.l:Int))/\zc p1.a λa16=>ldI w5 ((a16.add (s1.2.1.toNat *3)).add 2) .i64 λx17=>Nw (w5.alloc (.cells #[.int .i64 x17] 3)) λw6=>zo Tryz.prog 26 (.slice s6.1.a s6.1.l s6.1.c) (.slice (some (blk w5.heap.size)) 1 1) w6 λr18 w7=>m12 (r18,()) w7) (m12 (s6.1,()) w5)) (λs13 w8=>Nw (w8.alloc (.cells #[.slice s13.1.a s13.1.l s13.1.c] 26)) λw9=>zo Tryz.prog 48 (.slice s1.1.a s1.1.l s1.1.c) (.slice (some (blk w8.heap.size)) 1 1) w9 λr19 w10=>n2 (r19,(IntKind.i64.wrap (s1.2.1+(1:Int))),()) w10))) (cR 84 #[.slice s1.1.a s1.1.l s1.1.c] w1 λv20 w11=>∃x21:Option Addr,∃x22:Int,v20=(.tuple #[.pointer x21,.int .i64 x22])/\R (.pointer x21) w11)) ((Sl.mk none 0 0),0,()) w
theorem zeB(p0)(p1)(R)(w)(h:zb2 p0 p1 R w):Calls Tryz.prog 181 #[.pointer p0,.slice p1.a p1.l p1.c] w (Ret R):=lwC zbK Tryz.func181 (by kernel_rfl) (by kernel_rfl) h
def ZN:Ann:=(.q (.q .nil))
def ZH(p0:Option Addr)(p1:Int)(R:VWP)(w:World):Prop:=zc p0 λa1=>ldS w (a1.add 1) λx2=>(0<=p1/\p1<(x2.l:Int))/\zc x2.a λa3=>ldI w (a3.add (p1.toNat *3)) .u8 λx4=>ifB (x4==0) (zc p0 λa5=>ldP w a5 λx6=>cR 92 #[.pointer x6,.int .i64 p1] w λv7 w1=>∃x8:Sl,v7=(.slice x8.a x8.l x8.c)/\R (.bool (decide ((x8.l:Int)≥2))) w1) (R (.bool false) w)
theorem zbU(p0)(p1)(R)(w)(h:ZH p0 p1 R w):Calls Tryz.prog 182 #[.pointer p0,.int .i64 p1] w (Ret R):=lwC ZN Tryz.func182 (by kernel_rfl) (by kernel_rfl) h
def Z6:Ann:=(.q (.seq none (.q (.cond (.q .nil) .nil)) (.q (.seq (some ⟨[0,1,5],[]⟩) (.q (.cond (.q .nil) .nil)) (.q (.seq (some ⟨[0,1,5,6],[]⟩) (.q (.cond (.q .nil) .nil)) (.seq none (.q (.one (.loop ⟨[0,1,5,6],[(7,(.b (.int .i64)))]⟩ (.seq none (.q .c) (.seq (some ⟨[0,1,5,6,7],[]⟩) (.one (.seq (some ⟨[0,1,5,6,7],[]⟩) (.q .c) (.q (.cond (.q .nil) .nil)))) .nil))))) (.q .nil))))))))
def Z1(p0:Option Addr)(p1:Int)(R:VWP)(w:World):Prop:=zc p0 λa1=>ldS w (a1.add 1) λx2=>(0<=p1/\p1<(x2.l:Int))/\zc x2.a λa3=>ldI w (a3.add (p1.toNat *3)) .u8 λx4=>ifB (x4==0) (R (.bool false) w) (zc p0 λa5=>ldS w (a5.add 1) λx6=>(0<=p1/\p1<(x6.l:Int))/\zc x6.a λa7=>ldI w ((a7.add (p1.toNat *3)).add 1) .i64 λx8=>zk (S:=Unit) (λm9=>ifB (x8==p1) (R (.bool true) w) (zc p0 λa11=>ldS w (a11.add 4) λx12=>(0<=p1/\p1<(x12.l:Int))/\zc x12.a λa13=>ldS w (a13.add p1.toNat) λx14=>(0<=x8/\x8<(x14.l:Int))/\zc x14.a λa15=>ldB w (a15.add x8.toNat) λx16=>ifB (!x16) (R (.bool true) w) (m9 () w))) (λs10 w1=>zc p0 λa17=>ldS w1 (a17.add 1) λx18=>(0<=p1/\p1<(x18.l:Int))/\zc x18.a λa19=>ldI w1 (a19.add (p1.toNat *3)) .u8 λx20=>zk (S:=Unit) (λm21=>ifB (x20==2) (zc p0 λa23=>ldS w1.drew (a23.add 1) λx24=>(0<=p1/\p1<(x24.l:Int))/\zc x24.a λa25=>ldI w1.drew ((a25.add (p1.toNat *3)).add 2) .i64 λx26=>ifB (x26==x8) (R (.bool true) w1.drew) (zc p0 λa27=>ldS w1.drew (a27.add 4) λx28=>(0<=p1/\p1<(x28.l:Int))/\zc x28.a λa29=>ldS w1.drew (a29.add p1.toNat) λx30=>zc p0 λa31=>ldS w1.drew (a31.add 1) λx32=>(0<=p1/\p1<(x32.l:Int))/\zc x32.a λa33=>ldI w1.drew ((a33.add (p1.toNat *3)).add 2) .i64 λx34=>(0<=x34/\x34<(x30.l:Int))/\zc x30.a λa35=>ldB w1.drew (a35.add x34.toNat) λx36=>ifB (!x36) (R (.bool true) w1.drew) (m21 () w1.drew))) (m21 () w1.drew)) (λs22 w2=>zl (S:=Int×Unit) (λs37 w3 n38=>zc p0 λa39=>ldS w3 (a39.add 1) λx40=>ifB (decide (s37.1<(x40.l:Int))) (zk (S:=Unit) (λm41=>zk (S:=Unit) (λm43=>ifB (s37.1==p1) (m41 () w3) (cR 231 #[.pointer p0,.int .i64 s37.1] w3 λv45 w4=>∃x46:Bool,v45=(.bool x46)/\ifB (!x46) (m41 () w4) (m43 () w4))) (λs44 w5=>zc p0 λa47=>ldS w5.drew (a47.add 1) λx48=>(0<=s37.1/\s37.1<(x48.l:Int))/\zc x48.a λa49=>ldI w5.drew ((a49.add (s37.1.toNat *3)).add 1) .i64 λx50=>ifB (x50==x8) (R (.bool true) w5.drew) (ifB (x20==2) (zc p0 λa51=>ldS w5.drew (a51.add 1) λx52=>(0<=s37.1/\s37.1<(x52.l:Int))/\zc x52.a λa53=>ldI w5.drew (a53.add (s37.1.toNat *3)) .u8 λx54=>ifB (x54==2) (zc p0 λa55=>ldS w5.drew (a55.add 1) λx56=>(0<=s37.1/\s37.1<(x56.l:Int))/\zc x56.a λa57=>ldI w5.drew ((a57.add (s37.1.toNat *3)).add 2) .i64 λx58=>zc p0 λa59=>ldS w5.drew (a59.add 1) λx60=>(0<=p1/\p1<(x60.l:Int))/\zc x60.a λa61=>ldI w5.drew ((a61.add (p1.toNat *3)).add 2) .i64 λx62=>ifB (x58==x62) (R (.bool true) w5.drew) (m41 () w5.drew)) (m41 () w5.drew)) (m41 () w5.drew)))) (λs42 w6=>n38 ((IntKind.i64.wrap (s37.1+(1:Int))),()) w6)) (R (.bool false) w3)) (0,()) w2)))
theorem zbc(p0)(p1)(R)(w)(h:Z1 p0 p1 R w):Calls Tryz.prog 183 #[.pointer p0,.int .i64 p1] w (Ret R):=lwC Z6 Tryz.func183 (by kernel_rfl) (by kernel_rfl) h
def ZM:Ann:=(.q (.q (.seq none (.q (.one (.loop ⟨[0,1,5],[(6,(.b (.int .i64)))]⟩ (.seq none (.q .c) (.seq (some ⟨[0,1,5,6],[]⟩) (.one (.q (.q (.cond (.q (.cond (.q .nil) .nil)) (.q (.cond (.q .nil) .nil)))))) .nil))))) (.q (.q (.seq none (.q (.one (.loop ⟨[0,1,9],[(8,(.b (.int .i64))),(10,(.b (.int .i64)))]⟩ (.seq none (.q .c) (.seq (some ⟨[0,1,9,10],[(8,(.b (.int .i64)))]⟩) (.one (.q .c)) .nil))))) (.q .nil)))))))
def ZG(p0:Option Addr)(p1:Int)(R:VWP)(w:World):Prop:=zc p0 λa1=>ldP w a1 λx2=>cR 92 #[.pointer x2,.int .i64 p1] w λv3 w1=>∃x4:Sl,v3=(.slice x4.a x4.l x4.c)/\zl (S:=Int×Unit) (λs5 w2 n6=>ifB (decide (s5.1<(x4.l:Int))) (zk (S:=Unit) (λm7=>(0<=s5.1/\s5.1<(x4.l:Int))/\zc x4.a λa9=>ldI w2 (a9.add s5.1.toNat) .i64 λx10=>zc p0 λa11=>ldS w2 (a11.add 4) λx12=>(0<=x10/\x10<(x12.l:Int))/\zc x12.a λa13=>ldS w2 (a13.add x10.toNat) λx14=>(0<=p1/\p1<(x14.l:Int))/\zc x14.a λa15=>ldB w2 (a15.add p1.toNat) λx16=>ifB x16 (zc p0 λa17=>ldS w2.drew (a17.add 1) λx18=>(0<=x10/\x10<(x18.l:Int))/\zc x18.a λa19=>ldI w2.drew (a19.add (x10.toNat *3)) .u8 λx20=>ifB (x20 !=2) (R (.bool true) w2.drew) (zc p0 λa21=>ldS w2.drew (a21.add 4) λx22=>zc p0 λa23=>ldS w2.drew (a23.add 1) λx24=>(0<=x10/\x10<(x24.l:Int))/\zc x24.a λa25=>ldI w2.drew ((a25.add (x10.toNat *3)).add 2) .i64 λx26=>(0<=x26/\x26<(x22.l:Int))/\zc x22.a λa27=>ldS w2.drew (a27.add x26.toNat) λx28=>(0<=p1/\p1<(x28.l:Int))/\zc x28.a λa29=>ldB w2.drew (a29.add p1.toNat) λx30=>ifB (!x30) (R (.bool true) w2.drew) (m7 () w2.drew))) (cR 232 #[.pointer p0,.int .i64 x10,.int .i64 p1] w2 λv31 w3=>∃x32:Bool,v31=(.bool x32)/\ifB x32 (R (.bool true) w3) (m7 () w3))) (λs8 w4=>n6 ((IntKind.i64.wrap (s5.1+(1:Int))),()) w4)) (zc p0 λa33=>ldP w2 a33 λx34=>cR 93 #[.pointer x34,.int .i64 p1] w2 λv35 w5=>∃x36:Sl,v35=(.slice x36.a x36.l x36.c)/\zl (S:=Int×Int×Unit) (λs37 w6 n38=>ifB (decide (s37.2.1<(x36.l:Int))) (zk (S:=Int×Unit) (λm39=>zc p0 λa41=>ldS w6.drew (a41.add 4) λx42=>(0<=p1/\p1<(x42.l:Int))/\zc x42.a λa43=>ldS w6.drew (a43.add p1.toNat) λx44=>(0<=s37.2.1/\s37.2.1<(x36.l:Int))/\zc x36.a λa45=>ldI w6.drew (a45.add s37.2.1.toNat) .i64 λx46=>(0<=x46/\x46<(x44.l:Int))/\zc x44.a λa47=>ldB w6.drew (a47.add x46.toNat) λx48=>ifB x48 (m39 ((IntKind.i64.wrap (s37.1+(1:Int))),()) w6.drew) (m39 (s37.1,()) w6.drew)) (λs40 w7=>n38 (s40.1,(IntKind.i64.wrap (s37.2.1+(1:Int))),()) w7)) (R (.bool (decide (s37.1≥(2:Int)))) w6)) (0,0,()) w5)) (0,()) w1
theorem zbT(p0)(p1)(R)(w)(h:ZG p0 p1 R w):Calls Tryz.prog 184 #[.pointer p0,.int .i64 p1] w (Ret R):=lwC ZM Tryz.func184 (by kernel_rfl) (by kernel_rfl) h
def ZO:Ann:=(.q (.q (.seq none (.q (.one (.loop ⟨[0,1,5],[(6,(.b (.int .i64)))]⟩ (.seq none (.q .c) (.seq none (.one (.q (.cond (.q .nil) .nil))) .nil))))) (.q .nil))))
def ZI(p0:Option Addr)(p1:Int)(R:VWP)(w:World):Prop:=zc p0 λa1=>ldP w a1 λx2=>cR 92 #[.pointer x2,.int .i64 p1] w λv3 w1=>∃x4:Sl,v3=(.slice x4.a x4.l x4.c)/\zl (S:=Int×Unit) (λs5 w2 n6=>ifB (decide (s5.1<(x4.l:Int))) ((0<=s5.1/\s5.1<(x4.l:Int))/\zc x4.a λa7=>ldI w2 (a7.add s5.1.toNat) .i64 λx8=>cR 233 #[.pointer p0,.int .i64 p1,.int .i64 x8] w2 λv9 w3=>∃x10:Bool,v9=(.bool x10)/\ifB (!x10) (R (.bool true) w3) (n6 ((IntKind.i64.wrap (s5.1+(1:Int))),()) w3)) (R (.bool false) w2)) (0,()) w1
theorem zbV(p0)(p1)(R)(w)(h:ZI p0 p1 R w):Calls Tryz.prog 185 #[.pointer p0,.int .i64 p1] w (Ret R):=lwC ZO Tryz.func185 (by kernel_rfl) (by kernel_rfl) h
def ZP:Ann:=(.q (.q .nil))
def ZJ(p0:Option Addr)(p1:Int)(R:VWP)(w:World):Prop:=zc p0 λa1=>ldS w (a1.add 3) λx2=>(0<=p1/\p1<(x2.l:Int))/\zc x2.a λa3=>ldB w (a3.add p1.toNat) λx4=>ifB x4 (zc p0 λa5=>ldS w (a5.add 1) λx6=>(0<=p1/\p1<(x6.l:Int))/\zc x6.a λa7=>ldI w (a7.add (p1.toNat *3)) .u8 λx8=>R (.bool (x8 !=0)) w) (R (.bool false) w)
theorem zbW(p0)(p1)(R)(w)(h:ZJ p0 p1 R w):Calls Tryz.prog 231 #[.pointer p0,.int .i64 p1] w (Ret R):=lwC ZP Tryz.func231 (by kernel_rfl) (by kernel_rfl) h
def Z5:Ann:=(.q (.q (.q (.seq none (.q (.one (.loop ⟨[0,2,7],[(8,(.b .bool))]⟩ (.seq none (.q .c) (.one (.q (.q (.one (.loop ⟨[0,2,7],[(8,(.b .bool)),(9,(.b (.int .i64)))]⟩ (.seq none (.q .c) (.seq (some ⟨[0,2,7,9],[(8,(.b .bool))]⟩) (.one (.seq none (.q .c) (.q (.q (.one (.loop ⟨[0,2,7,9,10],[(8,(.b .bool)),(11,(.b (.int .i64)))]⟩ (.seq none (.q .c) (.seq (some ⟨[0,2,7,9,10,11],[(8,(.b .bool))]⟩) (.one (.q (.cond (.q .nil) .nil))) .nil)))))))) .nil))))))))))) (.q .nil)))))
def Z0(p0:Option Addr)(p1:Int)(p2:Int)(R:VWP)(w:World):Prop:=zc p0 λa1=>ldS w (a1.add 1) λx2=>(0<=(x2.l:Int)/\(x2.l:Int)<=(x2.l:Int)/\1*(x2.l:Int)<=281474976710656/\(x2.l:Int)<=9223372036854775807)/\Nw (w.alloc (.cells (madeCells #[.bool false] (x2.l*1)) 4)) λw1=>(0<=p1/\p1<(x2.l:Int))/\Wr w1 ((blk w.heap.size).add p1.toNat)/\Nw (w1.setCell ((blk w.heap.size).add p1.toNat) (.bool true)) λw2=>zl (S:=Bool×Unit) (λs3 w3 n4=>ifB s3.1 (zl (S:=Bool×Int×Unit) (λs5 w4 n6=>zc p0 λa7=>ldS w4 (a7.add 1) λx8=>ifB (decide (s5.2.1<(x8.l:Int))) (zk (S:=Bool×Unit) (λm9=>(0<=s5.2.1/\s5.2.1<(x2.l:Int))/\ldB w4 ((blk w.heap.size).add s5.2.1.toNat) λx11=>ifB (!x11) (m9 (s5.1,()) w4) (cR 263 #[.pointer p0,.int .i64 s5.2.1] w4 λv12 w5=>∃x13:Sl,v12=(.slice x13.a x13.l x13.c)/\zl (S:=Bool×Int×Unit) (λs14 w6 n15=>ifB (decide (s14.2.1<(x13.l:Int))) (zk (S:=Bool×Unit) (λm16=>(0<=s14.2.1/\s14.2.1<(x13.l:Int))/\zc x13.a λa18=>ldI w6 (a18.add s14.2.1.toNat) .i64 λx19=>(0<=x19/\x19<(x2.l:Int))/\ldB w6 ((blk w.heap.size).add x19.toNat) λx20=>ifB (!x20) ((0<=s14.2.1/\s14.2.1<(x13.l:Int))/\zc x13.a λa21=>ldI w6 (a21.add s14.2.1.toNat) .i64 λx22=>(0<=x22/\x22<(x2.l:Int))/\Wr w6 ((blk w.heap.size).add x22.toNat)/\Nw (w6.setCell ((blk w.heap.size).add x22.toNat) (.bool true)) λw7=>m16 (true,()) w7) (m16 (s14.1,()) w6)) (λs17 w8=>n15 (s17.1,(IntKind.i64.wrap (s14.2.1+(1:Int))),()) w8)) (m9 (s14.1,()) w6)) (s5.1,0,()) w5)) (λs10 w9=>n6 (s10.1,(IntKind.i64.wrap (s5.2.1+(1:Int))),()) w9)) (n4 (s5.1,()) w4)) (false,0,()) w3) ((0<=p2/\p2<(x2.l:Int))/\ldB w3 ((blk w.heap.size).add p2.toNat) λx23=>R (.bool x23) w3)) (true,()) w2
theorem zbb(p0)(p1)(p2)(R)(w)(h:Z0 p0 p1 p2 R w):Calls Tryz.prog 232 #[.pointer p0,.int .i64 p1,.int .i64 p2] w (Ret R):=lwC Z5 Tryz.func232 (by kernel_rfl) (by kernel_rfl) h
def Ye:Ann:=(.q (.q (.q (.seq none (.q (.one (.loop ⟨[0,1,2],[(7,(.b (.int .i64))),(8,(.b (.int .i64))),(9,(.b (.int .i64)))]⟩ (.seq none (.q .c) (.seq (some ⟨[0,1,2,9],[(7,(.b (.int .i64))),(8,(.b (.int .i64)))]⟩) (.one (.seq (some ⟨[0,1,2,7,8,9],[]⟩) (.q (.cond (.q .nil) .nil)) (.q (.cond (.q (.q .c)) .nil)))) .nil))))) (.seq none (.q (.cond (.q .nil) .nil)) (.seq (some ⟨[0,1,2],[]⟩) (.q (.cond (.q .nil) .nil)) (.seq none (.q (.one (.loop ⟨[0,1,2],[(10,(.b (.int .i64)))]⟩ (.seq none (.q .c) (.seq (some ⟨[0,1,2,10],[]⟩) (.one (.q (.cond (.q .nil) .nil))) .nil))))) (.q .nil))))))))
def ZZ(p0:Option Addr)(p1:Int)(p2:Int)(R:VWP)(w:World):Prop:=zl (S:=Int×Int×Int×Unit) (λs1 w1 n2=>zc p0 λa3=>ldS w1 (a3.add 1) λx4=>ifB (decide (s1.2.2.1<(x4.l:Int))) (zk (S:=Int×Int×Unit) (λm5=>zk (S:=Unit) (λm7=>cR 264 #[.pointer p0,.int .i64 s1.2.2.1,.int .i64 p2] w1 λv9 w2=>∃x10:Bool,v9=(.bool x10)/\ifB x10 (cR 264 #[.pointer p0,.int .i64 s1.2.2.1,.int .i64 p1] w2 λv11 w3=>∃x12:Bool,v11=(.bool x12)/\ifB (!x12) (ifB (p2 !=s1.2.2.1) (R (.bool false) w3) (m7 () w3)) (m7 () w3)) (m7 () w2)) (λs8 w4=>cR 264 #[.pointer p0,.int .i64 s1.2.2.1,.int .i64 p1] w4 λv13 w5=>∃x14:Bool,v13=(.bool x14)/\ifB x14 (cR 264 #[.pointer p0,.int .i64 s1.2.2.1,.int .i64 p2] w5 λv15 w6=>∃x16:Bool,v15=(.bool x16)/\ifB (!x16) (ifB (decide (s1.1<(0:Int))) (m5 (s1.2.2.1,(IntKind.i64.wrap (s1.2.1+(1:Int))),()) w6) (zc p0 λa17=>ldS w6 (a17.add 4) λx18=>(0<=s1.2.2.1/\s1.2.2.1<(x18.l:Int))/\zc x18.a λa19=>ldS w6 (a19.add s1.2.2.1.toNat) λx20=>(0<=s1.1/\s1.1<(x20.l:Int))/\zc x20.a λa21=>ldB w6 (a21.add s1.1.toNat) λx22=>ifB x22 (m5 (s1.2.2.1,(IntKind.i64.wrap (s1.2.1+(1:Int))),()) w6) (m5 (s1.1,(IntKind.i64.wrap (s1.2.1+(1:Int))),()) w6))) (m5 (s1.1,s1.2.1,()) w6)) (m5 (s1.1,s1.2.1,()) w5))) (λs6 w7=>n2 (s6.1,s6.2.1,(IntKind.i64.wrap (s1.2.2.1+(1:Int))),()) w7)) (ifB (s1.2.1==0) (R (.bool true) w1) (zk (S:=Unit) (λm23=>zc p0 λa25=>ldS w1 (a25.add 1) λx26=>(0<=s1.1/\s1.1<(x26.l:Int))/\zc x26.a λa27=>ldI w1 ((a27.add (s1.1.toNat *3)).add 1) .i64 λx28=>ifB (p2==x28) (ifB (s1.2.1==1) (R (.bool true) w1) (cR 265 #[.pointer p0,.int .i64 s1.1,.int .i64 p1,.int .u8 3] w1 λv29 w8=>∃x30:Bool,v29=(.bool x30)/\ifB x30 (R (.bool true) w8) (m23 () w8))) (m23 () w1)) (λs24 w9=>zl (S:=Int×Unit) (λs31 w10 n32=>zc p0 λa33=>ldS w10 (a33.add 1) λx34=>ifB (decide (s31.1<(x34.l:Int))) (zk (S:=Unit) (λm35=>cR 265 #[.pointer p0,.int .i64 s31.1,.int .i64 p1,.int .u8 2] w10 λv37 w11=>∃x38:Bool,v37=(.bool x38)/\ifB x38 (zc p0 λa39=>ldS w11 (a39.add 1) λx40=>(0<=s31.1/\s31.1<(x40.l:Int))/\zc x40.a λa41=>ldI w11 ((a41.add (s31.1.toNat *3)).add 2) .i64 λx42=>ifB (p2==x42) (cR 264 #[.pointer p0,.int .i64 s31.1,.int .i64 p2] w11 λv43 w12=>∃x44:Bool,v43=(.bool x44)/\ifB x44 (R (.bool true) w12) (m35 () w12)) (m35 () w11)) (m35 () w11)) (λs36 w13=>n32 ((IntKind.i64.wrap (s31.1+(1:Int))),()) w13)) (R (.bool false) w10)) (0,()) w9)))) ((-1:Int),0,0,()) w
theorem zch(p0)(p1)(p2)(R)(w)(h:ZZ p0 p1 p2 R w):Calls Tryz.prog 233 #[.pointer p0,.int .i64 p1,.int .i64 p2] w (Ret R):=lwC Ye Tryz.func233 (by kernel_rfl) (by kernel_rfl) h
def Zd:Ann:=(.q (.q (.q (.seq none (.q (.one (.loop ⟨[0,1,6],[(5,(.b .slice)),(7,(.b (.int .i64)))]⟩ (.seq none (.q .c) (.seq (some ⟨[0,1,6,7],[(5,(.b .slice))]⟩) (.one (.q .c)) .nil))))) (.q .nil)))))
def Zc(p0:Option Addr)(p1:Int)(R:VWP)(w:World):Prop:=zc p0 λa1=>ldP w a1 λx2=>cR 92 #[.pointer x2,.int .i64 p1] w λv3 w1=>∃x4:Sl,v3=(.slice x4.a x4.l x4.c)/\zl (S:=Sl×Int×Unit) (λs5 w2 n6=>ifB (decide (s5.2.1<(x4.l:Int))) (zk (S:=Sl×Unit) (λm7=>zc p0 λa9=>ldS w2.drew (a9.add 4) λx10=>(0<=s5.2.1/\s5.2.1<(x4.l:Int))/\zc x4.a λa11=>ldI w2.drew (a11.add s5.2.1.toNat) .i64 λx12=>(0<=x12/\x12<(x10.l:Int))/\zc x10.a λa13=>ldS w2.drew (a13.add x12.toNat) λx14=>(0<=p1/\p1<(x14.l:Int))/\zc x14.a λa15=>ldB w2.drew (a15.add p1.toNat) λx16=>ifB (!x16) ((0<=s5.2.1/\s5.2.1<(x4.l:Int))/\zc x4.a λa17=>ldI w2.drew (a17.add s5.2.1.toNat) .i64 λx18=>Nw (w2.drew.alloc (.cells #[.int .i64 x18] 3)) λw3=>zo Tryz.prog 26 (.slice s5.1.a s5.1.l s5.1.c) (.slice (some (blk w2.drew.heap.size)) 1 1) w3 λr19 w4=>m7 (r19,()) w4) (m7 (s5.1,()) w2.drew)) (λs8 w5=>n6 (s8.1,(IntKind.i64.wrap (s5.2.1+(1:Int))),()) w5)) (R (.slice s5.1.a s5.1.l s5.1.c) w2)) ((Sl.mk none 0 0),0,()) w1
theorem zaa(p0)(p1)(R)(w)(h:Zc p0 p1 R w):Calls Tryz.prog 263 #[.pointer p0,.int .i64 p1] w (Ret R):=lwC Zd Tryz.func263 (by kernel_rfl) (by kernel_rfl) h
def Y6:Ann:=(.q (.q .nil))
def Yy(p0:Option Addr)(p1:Int)(p2:Int)(R:VWP)(w:World):Prop:=cR 231 #[.pointer p0,.int .i64 p1] w.drew λv1 w1=>∃x2:Bool,v1=(.bool x2)/\ifB x2 (zc p0 λa3=>ldS w1 (a3.add 4) λx4=>(0<=p1/\p1<(x4.l:Int))/\zc x4.a λa5=>ldS w1 (a5.add p1.toNat) λx6=>(0<=p2/\p2<(x6.l:Int))/\zc x6.a λa7=>ldB w1 (a7.add p2.toNat) λx8=>ifB x8 (zc p0 λa9=>ldS w1 (a9.add 4) λx10=>zc p0 λa11=>ldS w1 (a11.add 1) λx12=>(0<=p1/\p1<(x12.l:Int))/\zc x12.a λa13=>ldI w1 ((a13.add (p1.toNat *3)).add 1) .i64 λx14=>(0<=x14/\x14<(x10.l:Int))/\zc x10.a λa15=>ldS w1 (a15.add x14.toNat) λx16=>(0<=p2/\p2<(x16.l:Int))/\zc x16.a λa17=>ldB w1 (a17.add p2.toNat) λx18=>R (.bool (!x18)) w1) (R (.bool false) w1)) (R (.bool false) w1)
theorem zcJ(p0)(p1)(p2)(R)(w)(h:Yy p0 p1 p2 R w):Calls Tryz.prog 264 #[.pointer p0,.int .i64 p1,.int .i64 p2] w (Ret R):=lwC Y6 Tryz.func264 (by kernel_rfl) (by kernel_rfl) h
def Zq:Ann:=(.q (.seq (some ⟨[0,1,2,3],[]⟩) (.q (.cond (.q .nil) .nil)) (.seq none (.q (.one (.loop ⟨[0,1,2,3],[(9,(.b (.int .i64)))]⟩ (.seq none (.q .c) (.seq (some ⟨[0,1,2,3,9],[]⟩) (.one (.q (.cond (.q .nil) .nil))) .nil))))) (.q .nil))))
def Zl(p0:Option Addr)(p1:Int)(p2:Int)(p3:Int)(R:VWP)(w:World):Prop:=zk (S:=Unit) (λm1=>cR 274 #[.pointer p0,.int .i64 p1,.int .u8 p3] w λv3 w1=>∃x4:Bool,v3=(.bool x4)/\ifB (!x4) (R (.bool false) w1) (cR 264 #[.pointer p0,.int .i64 p1,.int .i64 p2] w1 λv5 w2=>∃x6:Bool,v5=(.bool x6)/\ifB (!x6) (R (.bool false) w2) (m1 () w2))) (λs2 w3=>zl (S:=Int×Unit) (λs7 w4 n8=>zc p0 λa9=>ldS w4 (a9.add 1) λx10=>ifB (decide (s7.1<(x10.l:Int))) (zk (S:=Unit) (λm11=>ifB (s7.1 !=p1) (cR 274 #[.pointer p0,.int .i64 s7.1,.int .u8 p3] w4 λv13 w5=>∃x14:Bool,v13=(.bool x14)/\ifB x14 (cR 264 #[.pointer p0,.int .i64 s7.1,.int .i64 p2] w5 λv15 w6=>∃x16:Bool,v15=(.bool x16)/\ifB x16 (zc p0 λa17=>ldS w6 (a17.add 4) λx18=>(0<=p1/\p1<(x18.l:Int))/\zc x18.a λa19=>ldS w6 (a19.add p1.toNat) λx20=>(0<=s7.1/\s7.1<(x20.l:Int))/\zc x20.a λa21=>ldB w6 (a21.add s7.1.toNat) λx22=>ifB x22 (R (.bool false) w6) (m11 () w6)) (m11 () w6)) (m11 () w5)) (m11 () w4)) (λs12 w7=>n8 ((IntKind.i64.wrap (s7.1+(1:Int))),()) w7)) (R (.bool true) w4)) (0,()) w3)
theorem zak(p0)(p1)(p2)(p3)(R)(w)(h:Zl p0 p1 p2 p3 R w):Calls Tryz.prog 265 #[.pointer p0,.int .i64 p1,.int .i64 p2,.int .u8 p3] w (Ret R):=lwC Zq Tryz.func265 (by kernel_rfl) (by kernel_rfl) h
def Y7:Ann:=(.q (.q (.q .nil)))
def Yz(p0:Option Addr)(p1:Int)(p2:Int)(R:VWP)(w:World):Prop:=zc p0 λa1=>ldS w (a1.add 1) λx2=>(0<=p1/\p1<(x2.l:Int))/\zc x2.a λa3=>ldI w (a3.add (p1.toNat *3)) .u8 λx4=>cR 231 #[.pointer p0,.int .i64 p1] w λv5 w1=>∃x6:Bool,v5=(.bool x6)/\ifB x6 (ifB (p2==0) (R (.bool true) w1) (ifB (x4==2) (R (.bool true) w1) (ifB (p2==3) (R (.bool (x4==3)) w1) (R (.bool false) w1)))) (R (.bool false) w1)
theorem zcK(p0)(p1)(p2)(R)(w)(h:Yz p0 p1 p2 R w):Calls Tryz.prog 274 #[.pointer p0,.int .i64 p1,.int .u8 p2] w (Ret R):=lwC Y7 Tryz.func274 (by kernel_rfl) (by kernel_rfl) h
end Go.Proofs
namespace Go.Proofs
open Go.Gk Go.RowKit Go.Gr Go.Dm
section
variable {rb:Nat} {nx:List (List Nat)} {ml:List Mg} {s:Sl} {w:World} {R:VWP}
theorem zoR(hx:NxOk nx){k:Nat}(hk:k<nx.length)(h:IsR w rb nx)
  (hR:∀r w',Own w' 3 1 r ((nx.getD k []).map iN)->zw w.heap.size r->Below w.heap.size w w'->w.heap.size<=w'.heap.size->R (.slice r.a r.l r.c) w') :
  cR 92 #[.pointer (some (blk rb)),.int .i64 (k:Int)] w R:=by
 refine zb.of (yQ _ (k:Int) R w ?_) λ_ _ h=>h
 refine zk.cut (λ_ w'=>w'=w) (zi (λh0=>by omega) λh0=>zbg h ⟨_,rfl,zi (λh1=>by omega) λh1=>rfl⟩) ?_
 rintro _ _ rfl
 rename_i w
 have hgd:nx.getD k []=nx[k]:=by simp[List.getD,hk]
 have hrl:=hx.row_le k
 have hmx:=hx.max
 obtain⟨s,hs,g1,g2⟩:=h
 have hrow:∀{w':World},Below w.heap.size w w'->∀(h':k<hs.length),IsN w' hs[k] (nx.getD k []):=λhb h'=>by rw[hgd];exact(g2.below hb).row k h' hk
 refine zl.countS (nx.getD k []).length (by omega) (λj l w'=>Below w.heap.size w w'/\w.heap.size<=w'.heap.size/\Own w' 3 1 l (((nx.getD k []).take j).map iN)/\zw w.heap.size l)
  ⟨Below.refl _ _,Nat.le_refl _,by simpa using Own.nil _ _ _,λa ha=>by cases ha⟩ ?_
 rintro j l w2 hj ⟨hb,hz,ho,hf⟩ next hnext
 refine rRow (g1.below hb) (g2.below hb) hk λhh=>?_
 have hrn:hs[k].l=(nx.getD k []).length:=(hrow hb hh).len
 refine zi (λhlt=>?_) (λhge=>?_)
 ·have hlt:j<(nx.getD k []).length:=by dsimp only at hlt;omega
  refine rRow (g1.below hb) (g2.below hb) hk λhh=>?_
  refine zm4 (hrow hb hh) hlt ?_
  refine Yi rfl hb hz ho hf (by simp;omega) λr' w' k1 k2 k3 k4=>hnext r' w' hlt ⟨k1,k2,?_,k4⟩
  rw[List.take_succ_eq_append_getElem hlt];exact k3
 ·have hj':j=(nx.getD k []).length:=by dsimp only at hge;omega
  subst hj'
  rw[List.take_length]at ho
  exact hR l w2 ho hf hb hz
theorem zrg(hG:IsR w rb nx)(hM:IsM w s ml)(hR:∀b,(b=true↔Fit nx.length ml)->R (.bool b) w) :
  cR 180 #[.pointer (some (Gk.blk rb)),.slice s.a s.l s.c] w R:=by
 refine zb.of (zfg _ s R w ?_) λ_ _ h=>h
 have hl:=hM.len
 have bad:¬Fit nx.length ml->R (.bool false) w:=λh=>hR false ⟨(λe=>by cases e),λh'=>absurd h' h⟩
 refine zbg hG ⟨_,rfl,zr (λh=>bad λhf=>h (by have:=hf.1;omega)) λhe=>?_⟩
 have hlen:ml.length=nx.length:=by omega
 refine zl.count ml.length hM.bound (λk w'=>w'=w/\∀x∈ml.take k,FitP nx.length x) ⟨rfl,by simp⟩ ?_
 rintro k w2 hk ⟨rfl,hF⟩ next hnext
 refine zi (λhlt=>?_) (λhge=>?_)
 ·have hlt:k<ml.length:=by dsimp only at hlt;omega
  have no:¬FitP nx.length ml[k]->R (.bool false) w2:=λh=>bad λhf=>h (hf.2 _ (List.getElem_mem _))
  refine zk.cut (λ_ w'=>w'=w2/\FitP nx.length ml[k]) ?_ ?_
  ·refine zcd hM hlt (zi (λh3=>no λh=>by have:=h.1;omega) λh3=>?_)
   refine zk.cut (λ_ w'=>w'=w2/\(ml[k].1≠0->0<=ml[k].2.1/\ml[k].2.1<nx.length)) ?_ ?_
   ·refine zcd hM hlt (zr (λh0=>zim hM hlt (zi (λh1=>no λh=>by have:=h.2.1 h0;omega) λh1=>zim hM hlt (zi (λh2=>no λh=>by have:=h.2.1 h0;omega) λh2=>⟨rfl,λ_=>by omega⟩))) λh0=>⟨rfl,λh=>absurd h0 h⟩)
   ·rintro _ _ ⟨rfl,hto⟩
    rename_i w2
    refine zcd hM hlt (zj (λh0=>zl3 hM hlt (zi (λh1=>no λh=>by have:=h.2.2 h0;omega) λh1=>zl3 hM hlt (zi (λh2=>no λh=>by have:=h.2.2 h0;omega) λh2=>⟨rfl,by omega,hto,λ_=>by omega⟩))) λh0=>⟨rfl,by omega,hto,λh=>absurd h h0⟩)
  ·rintro _ _ ⟨rfl,hf⟩
   refine hnext _ hlt ⟨rfl,λx hx=>?_⟩
   rw[List.take_succ_eq_append_getElem hlt,List.mem_append]at hx
   rcases hx with hx |hx
   ·exact hF x hx
   ·rw[List.mem_singleton]at hx;rw[hx];exact hf
 ·have:k=ml.length:=by dsimp only at hge;omega
  subst this
  rw[List.take_length]at hF
  exact hR true ⟨λ_=>⟨hlen,hF⟩,λ_=>rfl⟩
theorem CT.isII{B T:Nat}{C:Sl}{rows:List (List Nat)}(h:CT B T w C rows):∃hs,IsII w C hs (rows.map λl=>l.map λ(x:Nat)=>(x:Int)):=by
 obtain⟨hs,h1,h2,h3⟩:=h.ex
 refine⟨hs,Own.isS h2,by simp[h1],λi hi hi'=>?_⟩
 have:=IsS.toI (Own.isS (h3 i hi).1)
 rw[List.getElem_map]
 rw[show rows.getD i []=rows[i]'(by omega) by simp[List.getD,show i<rows.length by omega]]at this
 exact this
set_option maxHeartbeats 2000000 in
theorem zru(hx:NxOk nx)(hG:IsR w rb nx)(hM:IsM w s ml)(hf:Fit nx.length ml)(hR:∀w' wb,Below w.heap.size w w'->IsR w' wb (zz nx ml)->R (.pointer (some (Gk.blk wb))) w') :
  cR 181 #[.pointer (some (Gk.blk rb)),.slice s.a s.l s.c] w R:=by
 refine zb.of (zeB _ s R w ?_) λ_ _ h=>h
 have hl:=hM.len
 have hml:=hf.1
 have hmx:=hx.max
 have hps:=hx.pos
 refine zl.countS nx.length (by omega) (λk (C:Sl) w'=>Below w.heap.size w w'/\CT w.heap.size w'.heap.size w' C ((List.range k).map (wrow nx ml))) ⟨Below.refl _ _,⟨Nat.le_refl _,Nat.le_refl _,(λa ha=>by cases ha),[],rfl,Own.nil _ _ _,λi hi=>by cases hi⟩⟩ ?_
 rintro k C w1 hk ⟨b1,hC⟩ next hnext
 have z1:=b1.size
 refine zi (λhlt=>?_) (λhge=>?_)
 ·have hlt:k<nx.length:=by dsimp only at hlt;omega
  have hkm:k<ml.length:=by omega
  have hrl:=hx.row_le k
  have hfk:FitP nx.length ml[k]:=hf.2 _ (List.getElem_mem hkm)
  have hwr:wrow nx ml k=nx.getD k []++extL ml[k]:=by unfold wrow;congr 2;simp[List.getD,hkm]
  refine zoR hx hlt (hG.below b1) λr4 w2 o2 f2 b2 z2=>⟨r4,rfl,?_⟩
  have hM2:=IsC.mbelow (IsC.mbelow hM b1) b2
  refine zk.cut (λ(st:Sl×Unit) w'=>Below w1.heap.size w1 w'/\w1.heap.size<=w'.heap.size/\zw w1.heap.size st.1/\Own w' 3 1 st.1 ((nx.getD k []++if ml[k].1=0 then [] else [ml[k].2.1.toNat]).map iN)) ?_ ?_
  ·refine zcd hM2 hkm (zr (λh0=>?_) λh0=>⟨b2,z2,f2,by rw[if_pos h0,List.append_nil];exact o2⟩)
   have h1:=hfk.2.1 h0
   refine zim hM2 hkm (Yi (y:=ml[k].2.1.toNat) (by omega) b2 z2 o2 f2 (by omega) λr' w' q1 q2 q3 q4=>⟨q1,q2,q4,by rw[if_neg h0];exact q3⟩)
  rintro⟨r6,_⟩ w5 ⟨b5,z5,f5,o5⟩
  have hM5:=IsC.mbelow (IsC.mbelow hM b1) b5
  refine zk.cut (λ(st:Sl×Unit) w'=>Below w1.heap.size w1 w'/\w1.heap.size<=w'.heap.size/\Own w' 3 1 st.1 ((wrow nx ml k).map iN)) ?_ ?_
  ·refine zcd hM5 hkm (zj (λh2=>?_) λh2=>⟨b5,z5,?_⟩)
   ·have h1:=hfk.2.2 h2
    refine zl3 hM5 hkm (Yi (y:=ml[k].2.2.toNat) (by omega) b5 z5 o5 f5 (by
     rw[List.length_append]
     have:(if ml[k].1=0 then([]:List Nat) else [ml[k].2.1.toNat]).length<=1:=by split<;>simp
     omega) λr' w' q1 q2 q3 q4=>⟨q1,q2,?_⟩)
    rw[hwr]
    unfold extL
    rw[if_neg (by omega),if_pos h2]
    rw[if_neg (by omega),List.append_assoc]at q3
    exact q3
   ·have e:extL ml[k]=if ml[k].1=0 then [] else [ml[k].2.1.toNat]:=by
     unfold extL
     split
     ·rfl
     ·first |rfl |rw[if_neg h2]
    rw[hwr,e]
    exact o5
  rintro⟨r13,_⟩ w8 ⟨b8,z8,o8⟩
  refine(hC.grow b8).up.push o8 (by simp;omega) λC' w10 b10 hC10=>hnext _ _ hlt ⟨(b1.trans (b8.mono z1)).trans b10,?_⟩
  rw[List.range_succ,List.map_append]
  exact hC10
 ·have:k=nx.length:=by dsimp only at hge;omega
  subst this
  obtain⟨hs,hII⟩:=hC.isII
  have hII:IsII w1 C hs (Yk nx ml):=hII
  have hlw:(Yk nx ml).length=nx.length:=by simp[Yk,zhe]
  refine zlU hII (λl hl=>?_) (λh=>absurd h (by omega)) (λh=>absurd h (by omega)) (λ_ _ h=>absurd (zi3 hx hf) h) λ_ _ _ w2 wb b2 hR2=>⟨_,_,rfl,?_⟩
  ·obtain⟨y,hy,rfl⟩:=List.mem_map.1 hl
   obtain⟨i,hi,rfl⟩:=List.mem_map.1 hy
   rw[List.length_map]
   unfold wrow
   rw[List.length_append]
   have:=hx.row_le i
   have:=zok (ml.getD i (0,0,0))
   omega
  ·rw[zik]at hR2
   exact hR w2 wb (b1.trans (b2.mono z1)) hR2
structure IsX (w:World) (xb rb:Nat) (s:Sl) (nx:List (List Nat)) (ml:List Mg):Prop where
 d:DOk nx ml
 g:IsR w rb nx
 m:IsM w s ml
 ex:∃(wb:Nat) (is ds:Sl) (bl:List Bool),Blk w xb 241 [.pointer (some (Gk.blk rb)),s.val,.pointer (some (Gk.blk wb)),is.val,ds.val]/\IsS Value.bool w is bl/\bl.length=nx.length/\(∀j,bl.getD j false=true↔j∈zp (zz nx ml))/\Tab w ds nx.length (DomR (zz nx ml))
theorem IsX.below{w':World}{xb:Nat}(h:IsX w xb rb s nx ml)(hb:Below w.heap.size w w'):IsX w' xb rb s nx ml:=by
 obtain⟨wb,is,ds,bl,h1,h2,h3,h4,h5⟩:=h.ex
 exact⟨h.d,h.g.below hb,IsC.mbelow h.m hb,wb,is,ds,bl,h1.below hb,h2.below hb,h3,h4,h5.below hb⟩
theorem zlh{wx:List (List Nat)}{a b:Nat}:DW wx (a:Int) (b:Int)↔DomR wx a b:=
 ⟨λ⟨a',b',e1,e2,h⟩=>by rw[show a=a' by omega,show b=b' by omega];exact h,λh=>⟨a,b,rfl,rfl,h⟩⟩
theorem IsX.dom{xb:Nat}(h:IsX w xb rb s nx ml){a b:Nat}(ha:a<nx.length)(hb:b<nx.length){φ:Bool->Prop}(hφ:∀v,(v=true↔DW (zz nx ml) (a:Int) (b:Int))->φ v) :
  zc (some (Gk.blk xb)) λa3=>ldS w (a3.add 4) λx4=>(0<=(a:Int)/\(a:Int)<(x4.l:Int))/\zc x4.a λa5=>ldS w (a5.add (Int.toNat (a:Int))) λx6=>(0<=(b:Int)/\(b:Int)<(x6.l:Int))/\zc x6.a λa7=>ldB w (a7.add (Int.toNat (b:Int))) φ:=by
 obtain⟨wb,is,ds,bl,h1,h2,h3,h4,h5⟩:=h.ex
 exact zf rfl ⟨ds,h1.cell (n:=4) rfl,h5.get ha hb λv hv=>hφ v (by rw[zlh];exact hv)⟩
theorem IsX.ms{xb:Nat}(h:IsX w xb rb s nx ml){φ:Sl->Prop}(hφ:φ s):zc (some (Gk.blk xb)) λa5=>ldS w (a5.add 1) φ:=by
 obtain⟨wb,is,ds,bl,h1,_⟩:=h.ex
 exact zf rfl ⟨s,h1.cell (n:=1) rfl,hφ⟩
theorem IsX.len{xb:Nat}(h:IsX w xb rb s nx ml):s.l=nx.length/\ml.length=nx.length:=by
 have:=h.m.len
 have:=h.d.fit.1
 omega
theorem zjF{xb:Nat}(h:IsX w xb rb s nx ml){i:Nat}(hi:i<nx.length)(hR:∀b,(b=true↔zkq nx ml i)->R (.bool b) w):cR 231 #[.pointer (some (Gk.blk xb)),.int .i64 (i:Int)] w R:=by
 refine zb.of (zbW _ (i:Int) R w ?_) λ_ _ h=>h
 obtain⟨wb,is,ds,bl,h1,h2,h3,h4,h5⟩:=h.ex
 have hml:=h.len
 refine zf rfl ⟨is,h1.cell (n:=3) rfl,zql h2 (k:=i) (by omega) ?_⟩
 have e:bl[i]'(by omega)=bl.getD i false:=by simp[List.getD,show i<bl.length by omega]
 rw[e]
 refine zm (λhb=>h.ms (zcd h.m (by omega) (hR _ ?_))) λhb=>hR _ ⟨(λh=>by cases h),λhh=>?_⟩
 ·rw[bne_iff_ne,zeX (by omega)]
  exact⟨λhk=>⟨(h4 i).1 hb,hk⟩,λhh=>hh.2⟩
 ·rw[(h4 i).2 hh.1]at hb
  cases hb
theorem zf2{xb:Nat}(h:IsX w xb rb s nx ml){x i:Nat}(hx:x<nx.length)(hi:i<nx.length)(hR:∀b w',Below w.heap.size w w'->(b=true↔InM nx ml x i)->R (.bool b) w') :
  cR 264 #[.pointer (some (Gk.blk xb)),.int .i64 (x:Int),.int .i64 (i:Int)] w R:=by
 refine zb.of (zcJ _ (x:Int) (i:Int) R w ?_) λ_ _ h=>h
 have hd:Below w.heap.size w w.drew:=(Below.refl _ _).drew
 have h':=h.below hd
 have hml:=h.len
 refine zjF h' hx λb hb=>⟨b,rfl,zm (λe1=>?_) λe1=>hR _ _ hd ⟨(λh=>by cases h),λhh=>?_⟩⟩
 ·have hh:=hb.1 e1
  refine h'.dom hx hi λv hv=>zm (λe2=>?_) λe2=>hR _ _ hd ⟨(λh=>by cases h),λhh=>?_⟩
  ·obtain⟨wb,is,ds,bl,h1,h2,h3,h4,h5⟩:=h'.ex
   refine zf rfl ⟨ds,h1.cell (n:=4) rfl,h'.ms (zim h'.m (k:=x) (by omega) ?_)⟩
   obtain⟨t,et,ht⟩:=zsv h.d hx hh.2
   rw[zeX (by omega),et]
   have htl:t<nx.length:=by
    have:=h.d.okw.rows x t ht
    rwa[zf0]at this
   refine h5.get htl hi λv2 hv2=>hR _ _ hd ?_
   rw[Bool.not_eq_true',<-Bool.not_eq_true,hv2]
   unfold InM
   rw[et]
   exact⟨λq=>⟨hh.2,hv.1 e2,λq'=>q (zlh.1 q')⟩,λq q'=>q.2.2 (zlh.2 q')⟩
  ·rw[hv.2 hh.2.1]at e2
   cases e2
 ·rw[hb.2 (hh.head h.d)]at e1
  cases e1
theorem zqd{xb:Nat}(h:IsX w xb rb s nx ml){i:Nat}(hi:i<nx.length){kind:Int}(hR:∀b,(b=true↔OfM nx ml kind i)->R (.bool b) w) :
  cR 274 #[.pointer (some (Gk.blk xb)),.int .i64 (i:Int),.int .u8 kind] w R:=by
 refine zb.of (zcK _ (i:Int) kind R w ?_) λ_ _ h=>h
 have hml:=h.len
 refine h.ms (zcd h.m (k:=i) (by omega) (zjF h hi λb hb=>⟨b,rfl,?_⟩))
 rw[zeX (show i<ml.length by omega)]
 refine zm (λe=>?_) λe=>hR _ ⟨(λh=>by cases h),λhh=>?_⟩
 ·have hh:=hb.1 e
  refine zj (λe0=>hR _ ⟨λ_=>⟨hh,.inl e0⟩,λ_=>rfl⟩) λe0=>zj (λe2=>hR _ ⟨λ_=>⟨hh,.inr (.inl e2)⟩,λ_=>rfl⟩) λe2=>zj (λe3=>hR _ ?_) λe3=>hR _ ⟨(λh=>by cases h),λhh=>?_⟩
  ·rw[beq_iff_eq]
   exact⟨λq=>⟨hh,.inr (.inr ⟨e3,q⟩)⟩,λq=>by
    rcases q.2 with q |q |q
    ·exact absurd q e0
    ·exact absurd q e2
    ·exact q.2⟩
  ·rcases hh.2 with q |q |q
   ·exact absurd q e0
   ·exact absurd q e2
   ·exact absurd q.1 e3
 ·rw[hb.2 hh.1]at e
  cases e
theorem zku{xb:Nat}(h:IsX w xb rb s nx ml){x i:Nat}(hx:x<nx.length)(hi:i<nx.length){kind:Int}(hR:∀b w',Below w.heap.size w w'->(b=true↔YR nx ml x i kind)->R (.bool b) w') :
  cR 265 #[.pointer (some (Gk.blk xb)),.int .i64 (x:Int),.int .i64 (i:Int),.int .u8 kind] w R:=by
 refine zb.of (zak _ (x:Int) (i:Int) kind R w ?_) λ_ _ h=>h
 have hml:=h.len
 have hmx:=h.d.ok.max
 have no:∀w',Below w.heap.size w w'->¬YR nx ml x i kind->R (.bool false) w':=λw' hb hn=>hR false w' hb ⟨(λh=>by cases h),λh=>absurd h hn⟩
 refine zk.cut (λ_ w'=>Below w.heap.size w w'/\OfM nx ml kind x/\InM nx ml x i) ?_ ?_
 ·refine zqd h hx λb hb=>⟨b,rfl,zy (zm (λe=>zf2 h hx hi λb2 w2 b12 hb2=>⟨b2,rfl,zy (zm (λe2=>⟨b12,hb.1 e,hb2.1 e2⟩) λe2=>no w2 b12 λhh=>?_)⟩) λe=>no w (Below.refl _ _) λhh=>?_)⟩
  ·rw[hb2.2 hh.2.1]at e2
   cases e2
  ·rw[hb.2 hh.1]at e
   cases e
 rintro _ w3 ⟨b3,hof,hin⟩
 refine zl.count nx.length (by omega) (λk w'=>Below w.heap.size w w'/\∀o,o<k->o≠x->OfM nx ml kind o->InM nx ml o i->¬DW (zz nx ml) (x:Int) (o:Int)) ⟨b3,λo ho=>by omega⟩ ?_
 rintro k w4 hk ⟨b4,hn⟩ next hnext
 have h4:=h.below b4
 refine h4.ms (zi (λhlt=>?_) λhge=>?_)
 ·have hlt:k<nx.length:=by dsimp only at hlt;omega
  have z4:=b4.size
  refine zk.cut (λ_ w'=>Below w.heap.size w w'/\(k≠x->OfM nx ml kind k->InM nx ml k i->¬DW (zz nx ml) (x:Int) (k:Int))) ?_ λ_ w' ⟨q1,q2⟩=>hnext _ hlt ⟨q1,λo ho=>?_⟩
  ·refine zr (λhne=>zqd h4 hlt λb hb=>⟨b,rfl,zm (λe=>zf2 h4 hlt hi λb2 w6 b46 hb2=>⟨b2,rfl,?_⟩) λe=>⟨b4,λ_ ho=>?_⟩⟩) λhe=>⟨b4,λhne=>absurd (by dsimp only at he;omega) hne⟩
   ·have b6:=b4.trans (b46.mono z4)
    refine zm (λe2=>(h.below b6).dom hx hlt λv hv=>zm (λe3=>no w6 b6 λhh=>?_) λe3=>⟨b6,λ_ _ _ hd=>?_⟩) λe2=>⟨b6,λ_ _ hi'=>?_⟩
    ·exact hh.2.2 k hlt (λe'=>hne (by rw[e'])) (hb.1 e) (hb2.1 e2) (hv.1 e3)
    ·rw[hv.2 hd]at e3
     cases e3
    ·rw[hb2.2 hi']at e2
     cases e2
   ·rw[hb.2 ho]at e
    cases e
  ·by_cases e:o=k
   ·rw[e];exact q2
   ·exact hn o (by omega)
 ·have:k=nx.length:=by dsimp only at hge;omega
  subst this
  exact hR true w4 b4 ⟨λ_=>⟨hof,hin,λo ho=>hn o ho⟩,λ_=>rfl⟩
end
end Go.Proofs
namespace Go.Proofs
open Go.Gk Go.RowKit Go.Gr Go.Dm
section
variable {rb:Nat} {nx:List (List Nat)} {ml:List Mg} {s:Sl} {w:World} {R:VWP}
theorem zs7{B n c:Nat}{l:Sl}{rs:List (Nat×List Bool)}{bk:List Bool}(ho:Own w 98 1 l (rs.map λp=>Value.slice (some (Gk.blk p.1)) n n))(hf:zw B l)(hB:B<=w.heap.size)(hlen:rs.length<1048576)
  {k:Sl->World->Prop} (hk:∀r w',Below B w w'->(∀{b:Nat} {T:TypeId} {cs:List Value},Blk w b T cs->T≠98->Blk w' b T cs)->Own w' 98 1 r ((rs++[(c,bk)]).map λp=>Value.slice (some (Gk.blk p.1)) n n)->zw B r->k r w') :
  Nw (w.alloc (.cells #[(.slice (some (Gk.blk c)) n n)] 98)) λw1=>zo Tryz.prog 96 (.slice l.a l.l l.c) (.slice (some (Gk.blk w.heap.size)) 1 1) w1 k:=by
 refine Nw.gen λw1 hw1=>?_
 have hT1:Blk w1 w.heap.size 98 [.slice (some (Gk.blk c)) n n]:=by rw[hw1];exact Blk.new w 98 #[_]
 have ho1:Own w1 98 1 l (rs.map λp=>Value.slice (some (Gk.blk p.1)) n n):=by rw[hw1];exact ho.alloc _
 have b1:Below w.heap.size w w1:=by rw[hw1];exact(Below.refl _ _).alloc (Nat.le_refl _) _
 have z1:w1.heap.size=w.heap.size+1:=by rw[hw1];simp
 have hll:l.l=rs.length:=by have:=ho1.1;simp at this;omega
 refine yY eBB ho1 rfl hT1 (by omega) (by omega) λr w' hr hrl ⟨b,hrb,hbo,hg⟩=>?_
 have hfb:B<=b:=by
  rcases hbo with hb |hb
  ·exact hf _ hb
  ·omega
 refine hk r w' ((b1.mono hB).trans (zM hg hfb (by omega))) (λ{b' T cs} hc hT=>?_) (by rw[List.map_append];exact hr) λa ha=>by rw[hrb]at ha;cases ha;exact hfb
 have hc1:=hc.below b1
 refine hc1.of_block (hg.block _ hc1.lt λe=>?_)
 have e:b=b':=(Option.some.inj e).symm
 rcases hbo with hb |hb
 ·obtain⟨cs',hc'⟩:=ho1.type hb
  rw[e]at hc'
  exact hT ((hc1.type hc').symm▸rfl)
 ·have:=hc.lt;omega
set_option maxHeartbeats 4000000 in
theorem zpW(hx:NxOk nx)(hG:IsR w rb nx)(hM:IsM w s ml)(hf:Fit nx.length ml)(hR:∀w' xb,Below w.heap.size w w'->IsX w' xb rb s nx ml->R (.pointer (some (Gk.blk xb))) w') :
  cR 145 #[.pointer (some (Gk.blk rb)),.slice s.a s.l s.c] w R:=by
 refine zb.of (zfh _ s R w ?_) λ_ _ h=>h
 have hd:=DOk.of hx hf
 have hsl:s.l=nx.length:=by have:=hM.len;have:=hf.1;omega
 have hmx:=hx.max
 refine zru hx hG hM hf λw1 wb b1 hW=>⟨_,rfl,Nw.gen λw2 hw2=>?_⟩
 have z1:=b1.size
 obtain⟨xb,hxb⟩:∃xb,xb=w1.heap.size:=⟨_,rfl⟩
 have hX2:Blk w2 xb 241 [.pointer (some (Gk.blk rb)),s.val,.pointer (some (Gk.blk wb)),.slice none 0 0,.slice none 0 0]:=by rw[hw2,hxb];exact Blk.new w1 _ #[_,_,_,_,_]
 have b2:Below w1.heap.size w1 w2:=by rw[hw2];exact(Below.refl _ _).alloc (Nat.le_refl _) _
 have z2:w2.heap.size=w1.heap.size+1:=by rw[hw2];simp
 rw[<-hxb]
 clear hw2
 have hwl:(zz nx ml).length=nx.length:=zf0
 refine⟨_,hX2.cell (n:=2) rfl,zn9 hd.okw (hW.below b2) λw3 bl b3 hB3 hl3 hi3=>⟨⟨some (Gk.blk w2.heap.size),(zz nx ml).length,(zz nx ml).length⟩,rfl,?_⟩⟩
 rw[hwl]at hl3⊢
 have hX3:=hX2.below b3
 refine⟨hX3.wr (n:=3) (by simp),Nw.gen λw4 hw4=>?_⟩
 have hz2:=hB3.lt
 have hX4:Blk w4 xb 241 [.pointer (some (Gk.blk rb)),s.val,.pointer (some (Gk.blk wb)),.slice (some (Gk.blk w2.heap.size)) nx.length nx.length,(⟨none,0,0⟩:Sl).val]:=by rw[hw4];exact hX3.set 3 _
 have hI4:Blk w4 w2.heap.size 4 (bl.map Value.bool):=by rw[hw4];exact hB3.other (by rw[zn];show w2.heap.size≠xb;omega) _
 have b14:Below w1.heap.size w1 w4:=by rw[hw4];exact(b2.trans (b3.mono (by omega))).setCell (by rw[zn];show w1.heap.size<=xb;omega) _
 clear hw4
 have isB:∀{a:Nat},a<nx.length->∀{w':World},Blk w' w2.heap.size 4 (bl.map Value.bool)->∀{φ:Bool->Prop},(∀v,(v=true↔ReachN (zz nx ml) (-1) a)->φ v)->(0<=(a:Int)/\(a:Int)<(((⟨some (Gk.blk w2.heap.size),nx.length,nx.length⟩:Sl).l:Nat):Int))/\zc (⟨some (Gk.blk w2.heap.size),nx.length,nx.length⟩:Sl).a λa16=>ldB w' (a16.add (Int.toNat (a:Int))) φ:=λ{a} ha {w'} hB {φ} hφ=>
  ⟨⟨by omega,by show(a:Int)<(nx.length:Int);omega⟩,zf rfl ⟨_,hB.cell (Yg (by omega)),hφ _ (hi3 a)⟩⟩
 refine zl.count nx.length (by omega) (λa w'=>Below w1.heap.size w1 w'/\Blk w' w2.heap.size 4 (bl.map Value.bool)/\∃(l:Sl) (rs:List (Nat×List Bool)),Blk w' xb 241 [.pointer (some (Gk.blk rb)),s.val,.pointer (some (Gk.blk wb)),.slice (some (Gk.blk w2.heap.size)) nx.length nx.length,l.val]/\rs.length=a/\
   Own w' 98 1 l (rs.map λp=>Value.slice (some (Gk.blk p.1)) nx.length nx.length)/\zw w1.heap.size l/\∀j (hj:j<rs.length),Blk w' rs[j].1 4 (rs[j].2.map Value.bool)/\rs[j].2.length=nx.length/\∀b,rs[j].2.getD b false=true↔DomR (zz nx ml) j b)
  ⟨b14,hI4,⟨none,0,0⟩,[],hX4,rfl,Own.nil _ _ _,(λa ha=>by cases ha),λj hj=>absurd hj (Nat.not_lt_zero j)⟩ ?_
 rintro a w5 ha ⟨b5,hI5,l,rs,hX5,hrs,ho5,hfl,hrows⟩ next hnext
 have z5:=b5.size
 refine zi (λhlt=>?_) (λhge=>?_)
 ·have hlt:a<nx.length:=by dsimp only at hlt;omega
  refine⟨⟨by omega,by omega,by omega,by omega⟩,Nw.gen λw6 hw6=>?_⟩
  obtain⟨c,hc⟩:∃c,c=w5.heap.size:=⟨_,rfl⟩
  have hC6:Blk w6 c 4 ((List.replicate nx.length false).map Value.bool):=by
   have e:(List.replicate nx.length false).map Value.bool=List.replicate nx.length (.bool false):=List.map_replicate
   rw[hw6,hc,hsl,e]
   exact Blk.made w5 _ _ nx.length
  have b6:Below w5.heap.size w5 w6:=by rw[hw6];exact(Below.refl _ _).alloc (Nat.le_refl _) _
  have z6:w6.heap.size=w5.heap.size+1:=by rw[hw6];simp
  rw[<-hc]
  clear hw6
  have hW6:=(hW.below b5).below (b6.mono (by omega) |>.trans (Below.refl _ _) |>λh=>(b6.mono (Nat.le_refl _)))
  refine⟨_,(hX5.below b6).cell (n:=2) rfl,zn9 hd.okw hW6 λw7 al b7 hA7 hl7 hi7=>⟨⟨some (Gk.blk w6.heap.size),(zz nx ml).length,(zz nx ml).length⟩,rfl,?_⟩⟩
  rw[hwl]at hl7
  have hC7:=hC6.below b7
  have hzA:=hA7.lt
  have hXc:xb≠c:=(hX5.below b6).apart hC6 (by decide)
  have hIc:w2.heap.size≠c:=by have:=hI5.lt;omega
  refine zl.count nx.length (by omega) (λk w'=>Only ⟨some (Gk.blk c),nx.length,nx.length⟩ w7 w'/\∃bk:List Bool,Blk w' c 4 (bk.map Value.bool)/\bk.length=nx.length/\(∀b,b<k->(bk.getD b false=true↔DomR (zz nx ml) a b))/\∀b,k<=b->bk.getD b false=false)
   ⟨Only.refl _ _,List.replicate nx.length false,hC7,by simp,λb hb=>absurd hb (by omega),λb _=>by simp[List.getD,List.getElem?_replicate];split<;>rfl⟩ ?_
  rintro k w8 hk ⟨on,bk,hBk,hlk,hk1,hk2⟩ nxt hnxt
  have oth:∀{b:Nat} {T:TypeId} {cs:List Value},b≠c->Blk w7 b T cs->Blk w8 b T cs:=λ{b T cs} hne hB=>hB.of_block (on.block _ λa ha e=>by cases ha;exact hne e.symm)
  have hI8:=oth hIc ((hI5.below b6).below b7)
  have hX8:=oth hXc ((hX5.below b6).below b7)
  have hA8:=oth (by omega) hA7
  refine zi (λhltk=>?_) (λhgek=>?_)
  ·have hltk:k<nx.length:=by dsimp only at hltk;omega
   have step:∀v:Bool,(v=true↔DomR (zz nx ml) a k)->Only ⟨some (Gk.blk c),nx.length,nx.length⟩ w7 (w8.setCell ((Gk.blk c).add k) (.bool v))/\∃bk:List Bool,Blk (w8.setCell ((Gk.blk c).add k) (.bool v)) c 4 (bk.map Value.bool)/\bk.length=nx.length/\(∀b,b<k+1->(bk.getD b false=true↔DomR (zz nx ml) a b))/\∀b,k+1<=b->bk.getD b false=false:=λv hv=>by
    refine⟨on.set rfl k _,bk.set k v,?_,by simpa using hlk,λb hb=>?_,λb hb=>?_⟩
    ·rw[List.map_set];exact hBk.set k _
    ·rw[zmA (by omega)]
     by_cases e:b=k
     ·subst e;simp[hv]
     ·rw[if_neg e];exact hk1 b (by omega)
    ·rw[zmA (by omega),if_neg (by omega)]
     exact hk2 b (by omega)
   refine zk.cut (λ_ w'=>Only ⟨some (Gk.blk c),nx.length,nx.length⟩ w7 w'/\∃bk:List Bool,Blk w' c 4 (bk.map Value.bool)/\bk.length=nx.length/\(∀b,b<k+1->(bk.getD b false=true↔DomR (zz nx ml) a b))/\∀b,k+1<=b->bk.getD b false=false) ?_ λ_ w' hh=>hnxt w' hltk hh
   have hwr:Wr w8 ((Gk.blk c).add k):=hBk.wr (by simp;omega)
   have bnd:(0<=(k:Int)/\(k:Int)<(s.l:Int)):=⟨by omega,by omega⟩
   refine⟨⟨some (Gk.blk w2.heap.size),nx.length,nx.length⟩,hX8.cell (n:=3) rfl,isB hlt hI8 λv hv=>zm (λe1=>⟨⟨some (Gk.blk w2.heap.size),nx.length,nx.length⟩,hX8.cell (n:=3) rfl,isB hltk hI8 λv2 hv2=>zm (λe2=>?_) λe2=>?_⟩) λe1=>?_⟩
   ·refine⟨⟨by omega,by show(k:Int)<((zz nx ml).length:Int);rw[hwl];omega⟩,zf rfl ⟨_,hA8.cell (Yg (by omega)),bnd,hwr,Nw.mk (step _ ?_)⟩⟩
    show(!al.getD k false)=true↔_
    rw[Bool.not_eq_true',<-Bool.not_eq_true,hi7 k]
    refine⟨λhn=>⟨hv2.1 e2,.inr hn⟩,λhh=>?_⟩
    rcases hh.2 with e |e
    ·subst e;exact λq=>q.self rfl
    ·exact e
   ·exact⟨bnd,hwr,Nw.mk (step false ⟨(λh=>by cases h),λhh=>by rw[hv2.2 hh.1]at e2;cases e2⟩)⟩
   ·exact⟨bnd,hwr,Nw.mk (step false ⟨(λh=>by cases h),λhh=>by rw[hv.2 hh.top]at e1;cases e1⟩)⟩
  ·have hkk:k=nx.length:=by dsimp only at hgek;omega
   subst hkk
   have b78:Below w5.heap.size w7 w8:=on.below λa ha=>by cases ha;show w5.heap.size<=c;omega
   have b58:Below w5.heap.size w5 w8:=(b6.trans (b7.mono (by omega))).trans b78
   have z8:=b58.size
   have ho8:=ho5.below b58
   have hrows8:∀j (hj:j<rs.length),Blk w8 rs[j].1 4 (rs[j].2.map Value.bool):=λj hj=>(hrows j hj).1.below b58
   refine⟨l,hX8.cell (n:=4) rfl,?_⟩
   rw[hsl]
   refine zs7 (bk:=bk) ho8 hfl (by omega) (by omega) λr w14 b14' keep hr hfr=>?_
   have hX14:=keep hX8 (by decide)
   refine⟨hX14.wr (n:=4) (by simp),Nw.gen λw15 hw15=>hnext _ hlt ?_⟩
   have hX15:Blk w15 xb 241 [.pointer (some (Gk.blk rb)),s.val,.pointer (some (Gk.blk wb)),.slice (some (Gk.blk w2.heap.size)) nx.length nx.length,r.val]:=by rw[hw15];exact hX14.set 4 _
   have o15:∀{b:Nat} {cs:List Value},Blk w14 b 4 cs->Blk w15 b 4 cs:=λ{b cs} hB=>by rw[hw15];exact hB.other (by rw[zn];exact hB.apart hX14 (by decide)) _
   refine⟨?_,o15 (keep hI8 (by decide)),r,rs++[(c,bk)],hX15,by simp[hrs],?_,hfr,λj hj=>?_⟩
   ·rw[hw15]
    exact((b5.trans (b58.mono z5)).trans b14').setCell (by rw[zn];show w1.heap.size<=xb;omega) _
   ·refine hr.of_block λa ha=>?_
    rw[hw15]
    obtain⟨cs,hcs⟩:=hr.type ha
    exact zA (hcs.apart hX14 (by decide)) _ _
   ·by_cases e:j<rs.length
    ·rw[List.getElem_append_left e]
     obtain⟨_,g2,g3⟩:=hrows j e
     exact⟨o15 (keep (hrows8 j e) (by decide)),g2,g3⟩
    ·have hj':j=rs.length:=by simp at hj;omega
     subst hj'
     rw[List.getElem_append_right (Nat.le_refl _)]
     simp only[Nat.sub_self,List.getElem_cons_zero]
     refine⟨o15 (keep hBk (by decide)),hlk,λb=>?_⟩
     by_cases hb:b<nx.length
     ·rw[hk1 b hb,hrs]
     ·rw[hk2 b (by omega),hrs]
      refine⟨(λe=>by cases e),λhh=>?_⟩
      have:=hd.lt ((hd.re b).1 hh.1)
      omega
 ·have:a=nx.length:=by dsimp only at hge;omega
  subst this
  refine hR w5 xb (b1.trans (b5.mono z1)) ⟨hd,(hG.below b1).below b5,IsC.mbelow (IsC.mbelow hM b1) b5,wb,⟨some (Gk.blk w2.heap.size),nx.length,nx.length⟩,l,bl,hX5,Blk.isS hI5 rfl hl3.symm (Nat.le_refl _) (by show nx.length<=_;omega),hl3,λj=>(hi3 j).trans (hd.re j),⟨rs.map λp=>⟨some (Gk.blk p.1),nx.length,nx.length⟩,?_,by simpa using hrs,λj hj=>?_⟩⟩
  ·refine Own.isS (T:=98) ?_
   rw[List.map_map]
   exact ho5
  ·have hj':j<rs.length:=by simpa using hj
   obtain⟨g1,g2,g3⟩:=hrows j hj'
   refine⟨rs[j].2,?_,g2,g3⟩
   rw[List.getElem_map]
   exact Blk.isS g1 rfl g2.symm (Nat.le_refl _) (by show nx.length<=_;omega)
def PR2(w:World)(p:Option Addr)(rb:Nat)(nx:List (List Nat)):Prop:=∀a,p=some a->a=Gk.blk rb/\NxOk nx/\IsR w rb nx
theorem PR2.below{w w':World}{p:Option Addr}(h:PR2 w p rb nx)(hb:Below w.heap.size w w'):PR2 w' p rb nx:=λa ha=>let⟨h1,h2,h3⟩:=h a ha;⟨h1,h2,h3.below hb⟩
theorem zpk{p:Option Addr}(hp:PR2 w p rb nx)(hM:IsM w s ml)(hnil:p=none->R (.int .i64 1) w)(hbad:p≠none->¬Fit nx.length ml->R (.int .i64 2) w)(hok:p≠none->Fit nx.length ml->R (.int .i64 0) w) :
  cR 144 #[.pointer p,.slice s.a s.l s.c] w R:=by
 refine zb.of (zdS p s R w ?_) λ_ _ h=>h
 cases p with
 |none=>exact zF rfl (hnil rfl)
 |some a=>
  obtain⟨rfl,hx,hG⟩:=hp a rfl
  refine zB rfl (zrg hG hM λb hb=>⟨b,rfl,zy (zm (λe=>hok (by simp) (hb.1 e)) λe=>hbad (by simp) λhf=>?_)⟩)
  rw[hb.2 hf]at e
  cases e
end
end Go.Proofs
namespace Go.Proofs
open Go.Gk Go.RowKit Go.Gr Go.Dm
end Go.Proofs
