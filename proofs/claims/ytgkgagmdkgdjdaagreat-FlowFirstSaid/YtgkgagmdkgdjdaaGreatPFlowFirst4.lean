/- FlowFirst, part 4; made small by a program. -/
import Derived.Lib.Bytealg
import Derived.Test.YtgkgagmdkgdjdaaGreatProg
import Derived.Test.YtgkgagmdkgdjdaaGreatPFlowFirst3
namespace Go.Proofs
open Go.Gk Go.RowKit Go.Gm
theorem zo9(l:List UInt8)(c:UInt8):(Lib.indexByte l c=-1\/0<=Lib.indexByte l c)/\(0<=Lib.indexByte l c↔l.contains c=true):=by
 induction l with
 |nil=>exact⟨.inl rfl,by simp[Lib.indexByte]⟩
 |cons b l ih=>
  obtain⟨h1,h2⟩:=ih
  unfold Lib.indexByte
  by_cases e:b=c
  ·subst e
   simp
  ·rw[if_neg (by simpa using e)]
   have e':(c==b)=false:=beq_eq_false_iff_ne.2 λh=>e h.symm
   rw[List.contains_cons,e',Bool.false_or,<-h2]
   rcases h1 with h1 |h1
   ·rw[h1];simp
   ·rw[if_neg (by simp;omega)]
    constructor
    ·right;omega
    ·constructor<;>intro _<;>omega
theorem zii{s:ByteArray}{w:World}{R:VWP}(hR:∀i:Int,(0<=i↔nul s=true)->R (.int .i64 i) w):cR 185 #[.string s,.int .u8 0] w R:=by
 refine zc.of (zcD s 0 R w ?_) λ_ _ h=>h
 refine zc.of (ZC s 0 _ w ?_) λ_ _ h=>h
 refine⟨.int .i64 (Lib.indexByte s.data.toList 0),w,?_,_,rfl,_,rfl,hR _ (zo9 _ _).2⟩
 rw[run_callFunc_extern Tryz.func196 (by kernel_rfl) (by kernel_rfl) (by kernel_rfl) (e:=Extern.BytealgIndexByte.indexByte) (by kernel_rfl),Lib.run_indexByteString]
 rfl
theorem zok{s:ByteArray}(h:nul s=false){k:Nat}(hk:k<s.size):za8 s (k:Int)≠0:=by
 intro e
 unfold za8 at e
 rw[Int.toNat_natCast]at e
 have hk':k<s.data.size:=hk
 have e1:s.data.getD k 0=s.data[k]:=by rw[Array.getD_eq_getD_getElem?,Array.getElem?_eq_getElem hk'];rfl
 rw[e1]at e
 have e2:s.data[k]=0:=UInt8.toNat.inj (show(s.data[k]).toNat=0 by omega)
 have hm:(0:UInt8)∈s.data.toList:=by
  rw[<-e2,<-Array.getElem_toList]
  exact List.getElem_mem _
 have:=List.contains_iff_mem.2 hm
 unfold nul at h
 rw[h]at this
 cases this
theorem zoc{s:ByteArray}(hs:s.size<=9223372036854775807):IntKind.i64.wrap (IntKind.i64.wrap (Int.tdiv (s.size:Int) 4)+1)=((s.size / 4+1:Nat):Int):=by
 rw[show Int.tdiv (s.size:Int) 4=((s.size / 4:Nat):Int) from(Int.ofNat_tdiv s.size 4).symm]
 have:s.size / 4<=2305843009213693951:=by omega
 generalize s.size / 4=q at this
 rw[zy (x:=(q:Int)) (by omega) (by omega),zy (by omega) (by omega)]
 omega
theorem zgM{s:ByteArray}(hs:s.size<=9223372036854775807){w:World}{R:VWP}(hR:R (.int .i64 ((s.size / 4+1:Nat):Int)) w):cR 187 #[.string s] w R:=by
 refine zc.of (zhr s R w ?_) λ_ _ h=>h
 show R (.int .i64 _) w
 rw[zoc hs]
 exact hR
theorem setU{w:World}{b:Nat}{T:TypeId}{xs:List Int}(hB:Blk w b T (xs.map (Value.int .u32)))(k:Nat)(v:Int):∃ys:List Int,Blk (w.setCell ((blk b).add k) (.int .u32 v)) b T (ys.map (Value.int .u32))/\ys.length=xs.length:=
 ⟨xs.set k v,by rw[List.map_set];exact hB.set k _,by simp⟩
theorem zkC{s:ByteArray}(hs:s.size<=9223372036854775807)(hn:nul s=false){w:World}{R:VWP}
  (h1:65535<s.size / 4+1->R (.tuple #[.slice none 0 0,.int .i64 4]) w)
  (h2:s.size / 4+1<=65535->∀(b:Nat) (xs:List Int) w',w.heap.size<=b->Blk w' b 22 (xs.map (Value.int .u32))->xs.length=s.size / 4+1->Below w.heap.size w w'->R (.tuple #[.slice (some (blk b)) (s.size / 4+1) (s.size / 4+1),.int .i64 0]) w') :
  cR 186 #[.string s] w R:=by
 refine zc.of (zfF s R w ?_) λ_ _ h=>h
 refine zj.count s.size hs (λk w'=>w'=w) rfl ?_
 rintro k wk hk hw next hnext
 subst hw
 refine zg (λh=>?_) (λh=>?_)
 ·have hlt:k<s.size:=by dsimp only at h;omega
  exact⟨⟨by omega,by omega⟩,zm (λe=>absurd e (zok hn hlt)) (λ_=>hnext _ hlt rfl)⟩
 ·refine zgM hs ⟨_,rfl,?_⟩
  refine zg (λhgt=>h1 (by omega)) (λhle=>?_)
  have hle:s.size / 4+1<=65535:=by omega
  refine zgM hs ⟨_,rfl,?_⟩
  dsimp only[zB,Go.Gk.Sl.zw,zi,zu,zb,zh];rw[Int.toNat_natCast]
  refine⟨⟨by omega,by omega,by omega,by omega⟩,?_⟩
  refine Nw.gen λw4 e4=>?_
  have hB4:Blk w4 wk.heap.size 22 (List.replicate (s.size / 4+1) (.int .u32 0)):=by rw[e4];exact Blk.made wk _ _ _
  have z4:w4.heap.size=wk.heap.size+1:=by rw[e4];simp
  have b4:Below wk.heap.size wk w4:=by rw[e4];exact(Below.refl _ _).alloc (Nat.le_refl _) _
  clear e4
  refine zj.count s.size hs (λk w'=>Below wk.heap.size wk w'/\∃xs:List Int,Blk w' wk.heap.size 22 (xs.map (Value.int .u32))/\xs.length=s.size / 4+1) ⟨b4,List.replicate (s.size / 4+1) 0,by simpa using hB4,by simp⟩ ?_
  rintro k w5 hk ⟨hb,xs,hB,hxl⟩ next hnext
  refine zg (λh=>?_) (λh=>?_)
  ·have hlt:k<s.size:=by dsimp only at h;omega
   have e1:IntKind.i64.wrap (Int.tdiv (k:Int) 4)=((k / 4:Nat):Int):=by
    rw[show Int.tdiv (k:Int) 4=((k / 4:Nat):Int) from(Int.ofNat_tdiv k 4).symm]
    exact zy (by omega) (by omega)
   have e2:IntKind.i64.wrap (8*Int.tmod (k:Int) 4)=((8*(k % 4):Nat):Int):=by
    rw[show Int.tmod (k:Int) 4=((k % 4:Nat):Int) from(Int.ofNat_tmod k 4).symm,zy (by omega) (by omega)]
    omega
   have hq:k / 4<xs.length:=by omega
   dsimp only
   rw[e1,e2,Int.toNat_natCast]
   refine⟨⟨by omega,by omega⟩,hB.drew.rI (n:=k / 4) (x:=xs[k / 4]) (by simp[hq]) ⟨⟨by omega,by omega⟩,zg (λh=>absurd h (by omega)) (λ_=>⟨⟨by omega,by omega⟩,hB.drew.wr (by simpa using hq),?_⟩)⟩⟩
   refine Nw.mk (hnext _ hlt ⟨(Chg.set _ _ _ _).below hb.drew (Nat.le_refl _),?_⟩)
   exact(setU hB.drew (k / 4) _).imp λys h=>⟨h.1,h.2.trans hxl⟩
  ·exact h2 hle _ xs w5 (Nat.le_refl _) hB hxl hb
abbrev wrV(f:Fm)(bd:Int)(s:Sl)(room:Nat):List Value:=
 [.int .u16 f.1,.string f.2.1,.bool f.2.2.1,.bool f.2.2.2.1,.string f.2.2.2.2.1,.string f.2.2.2.2.2.1,.int .i64 f.2.2.2.2.2.2.1,.int .u8 f.2.2.2.2.2.2.2.1,.int .u32 bd,.slice s.a s.l s.c,.int .i64 (room:Int)]
def Oth(b:Nat)(w w':World):Prop:=∀k T cs,Blk w k T cs->k≠b->T≠22->Blk w' k T cs
theorem Oth.refl(b:Nat)(w:World):Oth b w w:=λ_ _ _ h _ _=>h
theorem Oth.trans{b:Nat}{w w' w2:World}(h:Oth b w w')(h':Oth b w' w2):Oth b w w2:=λk T cs hB h1 h2=>h' k T cs (h k T cs hB h1 h2) h1 h2
theorem Oth.below{b:Nat}{w w':World}(h:Below w.heap.size w w'):Oth b w w':=λ_ _ _ hB _ _=>hB.below h
structure WtS (w0 w:World) (b:Nat) (f:Fm) (bd:Int) (room n:Nat):Prop where
 old:w0.heap.size<=b
 below:Below w0.heap.size w0 w
 own:∃r xs,Blk w b 228 (wrV f bd r room)/\Own w 22 1 r xs/\zA w0.heap.size r/\r.l=n
section
variable {w0 w:World} {b:Nat} {f:Fm} {bd:Int} {room n:Nat} {R:VWP}
theorem WtS.step{w':World}(h:WtS w0 w b f bd room n)(hb:Below w.heap.size w w'):WtS w0 w' b f bd room n:=by
 obtain⟨h1,h2,r,xs,h3,h4,h5,h6⟩:=h
 exact⟨h1,h2.on hb,r,xs,h3.below hb,h4.below hb,h5,h6⟩
theorem WtS.drew(h:WtS w0 w b f bd room n):WtS w0 w.drew b f bd room n:=h.step (Below.refl _ _).drew
theorem WtS.app(h:WtS w0 w b f bd room n){c m k:Nat}{news:List Value}{T:TypeId}(hB:Blk w c T news)(hl:news.length=m)(h1:∀u∈news,u.oneCell'=true)(hm:0<m)(hn:(n+m)*4<=140737488355328){r:Sl}{xs:List Value}
  (hW:Blk w b 228 (wrV f bd r room)) (hO:Own w 22 1 r xs) (hF:zA w0.heap.size r) (hrl:r.l=n) {K:Sl->World->Prop}
  (hK:∀r' w2,Blk w2 b 228 (wrV f bd r room)->(∀room' w4,Chg b w2 w4->Blk w4 b 228 (wrV f bd r' room')->WtS w0 w4 b f bd room' (n+m)/\Oth b w w4)->K r' w2) :
  zC Tryz.prog 26 (.slice r.a r.l r.c) (.slice (some (blk c)) m k) w K:=by
 have hold:=h.old
 have hbel:=h.below
 refine ZO eU32 hO (news:=news) (by omega) (λj u hj=>hB.cell hj) h1 (by omega) (by omega) λr' w2 hO' hl' hg=>?_
 rcases hg with⟨_,_,h3⟩ | ⟨b',hb',hab,hg⟩
 ·rw[h3]at hl';omega
 ·have hbb:w0.heap.size<=b':=by
   rcases hab with h |h
   ·exact hF _ h
   ·have:=hbel.size
    omega
  have hne:∀{k T cs},Blk w k T cs->T≠22->k≠b':=by
   intro k T cs hk hT e
   subst e
   rcases hab with h |h
   ·obtain⟨cs',hc⟩:=hO.type h
    exact hT (hk.type hc)
   ·have:=hk.lt
    omega
  have hkeep:∀{k T cs},Blk w k T cs->T≠22->Blk w2 k T cs:=λhk hT=>hk.of_block (hg.block _ hk.lt (λe=>hne hk hT (Option.some.inj e)))
  have hb2:Below w0.heap.size w0 w2:=hbel.trans (yC hg hbb hbel.size)
  refine hK r' w2 (hkeep hW (by decide)) λroom' w4 cc hW4=>?_
  have hO4:Own w4 22 1 r' (xs++news):=hO'.of_block λa ha=>cc.block _ (by
   rw[hb']at ha
   cases ha
   exact(hne hW (by decide)).symm)
  refine⟨⟨hold,cc.below hb2 hold,r',_,hW4,hO4,?_,by omega⟩,?_⟩
  ·intro a ha
   rw[hb']at ha
   cases ha
   exact hbb
  ·intro k T cs hk h1 h2
   exact cc.blk (hkeep hk h2) h1
theorem zl1(h:WtS w0 w b f bd room n){x:Int}(hr:room<=4611686018427387904)(hn:(n+1)*4<=140737488355328)(hR:∀w',WtS w0 w' b f bd (room+1) (n+1)->Oth b w w'->R (.tuple #[]) w') :
  cR 172 #[.pointer (some (blk b)),.int .u32 x] w R:=by
 refine zc.of (zd8 (some (blk b)) x R w ?_) λ_ _ h=>h
 obtain⟨r,xs,hW,hO,hF,hrl⟩:=h.own
 refine ze rfl (hW.rS (n:=9) (x:=r) rfl ?_)
 refine zl λw1 hB1 b1 z1=>?_
 refine(h.step b1).app hB1 (m:=1) rfl (by simp[Value.oneCell']) (by omega) hn (hW.below b1) (hO.below b1) hF hrl λr' w2 hW2 hfin=>?_
 refine ze rfl ⟨hW2.wr (n:=9) (by simp),Nw.gen λw3 e3=>?_⟩
 have c3:Chg b w2 w3:=by rw[e3];exact Chg.set _ _ _ _
 have hW3:Blk w3 b 228 (wrV f bd r' room):=by rw[e3];exact hW2.set 9 _
 clear e3
 refine ze rfl (hW3.rI (n:=10) rfl (ze rfl ⟨hW3.wr (n:=10) (by simp),Nw.mk ?_⟩))
 have e:IntKind.i64.wrap ((room:Int)+1)=((room+1:Nat):Int):=by rw[zy (by omega) (by omega)];omega
 rw[e]
 obtain⟨k1,k2⟩:=hfin (room+1) _ (c3.trans (Chg.set b 10 w3 (.int .i64 ((room+1:Nat):Int)))) (hW3.set 10 _)
 exact hR _ k1 ((Oth.below b1).trans k2)
theorem zo6{x bd:Int}(hR:R (.int .i64 (if x=0 then 43 else if bd<=x then 43 else 0)) w):cR 173 #[.int .u32 x,.int .u32 bd] w R:=by
 refine zc.of (ziZ x bd R w ?_) λ_ _ h=>h
 refine zm (λe=>by rwa[if_pos e]at hR) (λe=>?_)
 rw[if_neg e]at hR
 exact zg (λh=>by rwa[if_pos h]at hR) (λh=>by rwa[if_neg h]at hR)
theorem zj3(h:WtS w0 w b f bd room n){must:Bool}{x e:Int}(hr:room<=4611686018427387904)(hn:(n+1)*4<=140737488355328)
  (hR:∀w' room' n',WtS w0 w' b f bd room' n'->room'<=room+1->n'<=n+1->(idP must x bd e=0->e≠0->room'=room+must.toNat/\n'=n+must.toNat)->R (.int .i64 (idP must x bd e)) w') :
  cR 148 #[.pointer (some (blk b)),.bool must,.int .u32 x,.int .i64 e] w R:=by
 refine zc.of (zcH (some (blk b)) must x e R w ?_) λ_ _ h=>h
 unfold idP at hR
 refine zI (zn (λhm=>?_) (λhm=>?_))
 ·have hm:must=(x !=0):=eq_of_beq hm
  rw[if_pos hm]at hR
  refine zI (zn (λht=>?_) (λhf=>?_))
  ·refine zl1 h hr hn λw1 h1 _=>⟨rfl,?_⟩
   obtain⟨r,xs,hW,_⟩:=h1.own
   refine ze rfl (hW.rI (n:=8) rfl ?_)
   refine zo6 ⟨_,rfl,?_⟩
   have hx:x≠0:=by rw[ht]at hm;exact bne_iff_ne.1 hm.symm
   rw[if_neg hx]
   have:=hR w1 (room+1) (n+1) h1 (Nat.le_refl _) (Nat.le_refl _) (λ_ _=>by rw[ht];exact⟨rfl,rfl⟩)
   simpa[ht] using this
  ·have:=hR w room n h (by omega) (by omega) (λ_ _=>by rw[hf];exact⟨rfl,rfl⟩)
   simpa[hf] using this
 ·have hm:¬must=(x !=0):=λh=>by rw[h]at hm;simp at hm
  have:=hR w room n h (by omega) (by omega) (λh0 he=>by rw[if_neg hm]at h0;exact absurd h0 he)
  rwa[if_neg hm]at this
theorem znP(h:WtS w0 w b f bd room n){s:ByteArray}(hs:s.size<=9223372036854775807)(hr:room<=4611686018427387904)(hn:(n+65535)*4<=140737488355328)
  (hR:∀w' room' n',WtS w0 w' b f bd room' n'->Oth b w w'->(nul s=false->room'=room+(s.size / 4+1)/\(n'=n+(s.size / 4+1)\/65535<s.size / 4+1)/\n'<=n+65535)->R (.int .i64 (if nul s=true then 13 else 0)) w') :
  cR 175 #[.pointer (some (blk b)),.string s] w R:=by
 refine zc.of (zcI (some (blk b)) s R w ?_) λ_ _ h=>h
 refine zii λi hi=>⟨_,rfl,?_⟩
 refine zg (λh0=>?_) (λh0=>?_)
 ·have hnul:=hi.1 h0
  have:=hR w room n h (Oth.refl _ _) (λh=>by rw[hnul]at h;cases h)
  rwa[if_pos hnul]at this
 ·have hnul:nul s=false:=by
   rw[<-Bool.not_eq_true]
   exact λhn=>h0 (hi.2 hn)
  rw[if_neg (by rw[hnul];simp)]at hR
  have hdiv:s.size / 4<=2305843009213693951:=by omega
  refine zkC hs hnul (λhgt=>⟨⟨none,0,0⟩,_,rfl,?_⟩) (λhle c ys w2 hc hB2 hyl b2=>⟨⟨some (blk c),s.size / 4+1,s.size / 4+1⟩,_,rfl,?_⟩)
  ·refine zH rfl ?_
   obtain⟨r,xs,hW,hO,hF,hrl⟩:=h.own
   have hW1:=hW.drew
   refine ze rfl (hW1.rI (n:=10) rfl ?_)
   refine zgM hs ⟨_,rfl,hW1.cell (n:=10) rfl,ze rfl ⟨hW1.wr (n:=10) (by simp),Nw.mk ?_⟩⟩
   have e:IntKind.i64.wrap ((room:Int)+((s.size / 4+1:Nat):Int))=((room+(s.size / 4+1):Nat):Int):=by
    generalize s.size / 4=q at hdiv
    rw[zy (by omega) (by omega)]
    omega
   rw[e]
   have cc:=Chg.set b 10 w.drew (.int .i64 ((room+(s.size / 4+1):Nat):Int))
   refine hR _ (room+(s.size / 4+1)) n ⟨h.old,cc.below h.below.drew h.old,r,xs,hW1.set 10 _,hO.drew.of_block λa ha=>cc.block _ ?_,hF,hrl⟩ (λk T cs hk h1 _=>cc.blk hk.drew h1) (λ_=>⟨rfl,.inr hgt,by omega⟩)
   obtain⟨cs',hc⟩:=hO.type ha
   exact hc.apart hW (by decide)
  ·refine zz rfl ?_
   have h2:=h.step b2
   obtain⟨r,xs,hW,hO,hF,hrl⟩:=h2.own
   refine ze rfl (hW.rS (n:=9) (x:=r) rfl ?_)
   refine h2.app hB2 (m:=s.size / 4+1) (by rw[List.length_map];exact hyl) (by simp[Value.oneCell']) (by omega) (by omega) hW hO hF hrl λr' w3 hW3 hfin=>?_
   refine ze rfl ⟨hW3.wr (n:=9) (by simp),Nw.gen λw4 e4=>?_⟩
   have c4:Chg b w3 w4:=by rw[e4];exact Chg.set _ _ _ _
   have hW4:Blk w4 b 228 (wrV f bd r' room):=by rw[e4];exact hW3.set 9 _
   clear e4
   refine ze rfl (hW4.rI (n:=10) rfl (ze rfl ⟨hW4.wr (n:=10) (by simp),Nw.mk ?_⟩))
   have e:IntKind.i64.wrap ((room:Int)+((s.size / 4+1:Nat):Int))=((room+(s.size / 4+1):Nat):Int):=by
    generalize s.size / 4=q at hdiv
    rw[zy (by omega) (by omega)]
    omega
   dsimp only
   rw[e]
   obtain⟨k1,k2⟩:=hfin (room+(s.size / 4+1)) _ (c4.trans (Chg.set b 10 w4 (.int .i64 ((room+(s.size / 4+1):Nat):Int)))) (hW4.set 10 _)
   exact hR _ _ _ k1 ((Oth.below b2).trans k2) (λ_=>⟨rfl,.inl rfl,by omega⟩)
end
theorem zkA{op:Int}{i:Nat}{w:World}{R:VWP}(hi:i<=9223372036854775807)(hR:∀w',Below w.heap.size w w'->R (.int .u8 (letP (flOf op) i:Int)) w') :
  cR 174 #[.int .u16 op,.int .i64 (i:Int)] w R:=by
 refine zc.of (zea op i R w ?_) λ_ _ h=>h
 have hg:=lOk (zmQ op)
 have hfm:=fmIs op
 refine zgp λw1 b1=>⟨fmO op (frm op),(frm op).isSome,rfl,?_⟩
 refine box8 rfl λw2 hB b2 z2=>?_
 have hB:Blk w2 w1.heap.size 187 (fmV (fmO op (frm op))):=hB
 refine Fm.load hB ?_
 exact zh6 hfm hg hi λw3 b3=>⟨_,rfl,hR w3 ((b1.on b2).on b3)⟩
theorem zmv{c n:Int}{w:World}{R:VWP}(hR:∀w',Below w.heap.size w w'->R (.int .i64 (if zgj c n=false then 31 else 0)) w') :
  cR 176 #[.int .u8 c,.int .u32 n] w R:=by
 refine zc.of (zgR c n R w ?_) λ_ _ h=>h
 refine znd λs w1 b1=>⟨s,_,rfl,?_⟩
 have:=hR w1 b1
 refine zI (zn (λh=>?_) (λh=>?_))
 ·rwa[if_neg (by rw[h];simp)]at this
 ·rwa[if_pos h]at this
section
variable {w0 w:World} {b:Nat} {f:Fm} {bd:Int} {room n:Nat} {R:VWP}
theorem zog(h:WtS w0 w b f bd room n){k:Nat}(hk:k<=9223372036854775807){a:Ag}(hs:a.2.2.size<=9223372036854775807)(hr:room<=4611686018427387904)(hn:(n+65535)*4<=140737488355328)
  (hR:∀w' room' n',WtS w0 w' b f bd room' n'->(zcd (letP (flOf f.1) k:Int) a bd=0->room'=room+cost a/\(n'=n+cost a\/65535<cost a)/\n'<=n+(if a.1=3 then 65535 else 1))->R (.int .i64 (zcd (letP (flOf f.1) k:Int) a bd)) w') :
  cR 149 #[.pointer (some (blk b)),.int .i64 (k:Int),.agg #[.int .u8 a.1,.int .u32 a.2.1,.string a.2.2]] w R:=by
 refine zc.of (zd7 (some (blk b)) k (a.1,a.2.1,a.2.2,()) R w ?_) λ_ _ h=>h
 refine zl λw1 hA1 b1 z1=>?_
 have hA1:Blk w1 w.heap.size 136 [.int .u8 a.1,.int .u32 a.2.1,.string a.2.2]:=hA1
 have h1:=h.step b1
 obtain⟨r1,xs1,hW1,_⟩:=h1.own
 refine ze rfl (hW1.rI0 rfl ?_)
 refine zkA hk λw2 b2=>⟨_,rfl,?_⟩
 generalize letP (flOf f.1) k=c at hR
 have hA2:=hA1.below b2
 have h2:=h1.step b2
 refine hA2.rI0 rfl ?_
 have hbne:w.heap.size≠b:=by
  obtain⟨r,xs,hW,_⟩:=h.own
  have:=hW.lt
  omega
 have key:zcd (c:Int) a bd=if (c:Int)=0\/a.1≠zah c then 42 else if (a.1=3/\a.2.1≠0)\/(a.1≠3/\a.2.2.size≠0) then 42
   else if a.1=1/\(a.2.1=0\/bd<=a.2.1) then 43 else if a.1=4/\zgj c a.2.1=false then 31 else if nul a.2.2=true then 13 else 0:=rfl
 refine zk.cut (λ_ w'=>WtS w0 w' b f bd room n/\Blk w' w.heap.size 136 [.int .u8 a.1,.int .u32 a.2.1,.string a.2.2]/\¬((c:Int)=0\/a.1≠zah c)/\a.1≠3/\a.2.2.size=0) ?_ ?_
 ·refine zm (λe=>?_) (λe=>?_)
  ·have:=hR w2.drew room n h2.drew (λh=>by rw[key,if_pos (.inl e)]at h;cases h)
   rwa[key,if_pos (.inl e)]at this
  ·refine hA2.drew.rI0 rfl ?_
   refine zjl ⟨_,rfl,hA2.drew.cell0 rfl,?_⟩
   refine zE (λe2=>?_) (λe2=>?_)
   ·have:=hR w2.drew room n h2.drew (λh=>by rw[key,if_pos (.inr e2)]at h;cases h)
    rwa[key,if_pos (.inr e2)]at this
   ·have hno:¬((c:Int)=0\/a.1≠zah c):=λh=>h.elim e (λh=>h e2)
    rw[if_neg hno]at key
    refine zm (λe3=>?_) (λe3=>?_)
    ·refine hA2.drew.rI (n:=1) rfl (zE (λe4=>?_) (λe4=>?_))
     ·have:=hR w2.drew room n h2.drew (λh=>by rw[key,if_pos (.inl ⟨e3,e4⟩)]at h;cases h)
      rwa[key,if_pos (.inl ⟨e3,e4⟩)]at this
     ·refine zI (zm (λ_=>zm (λ_=>?_) (λh=>absurd e3 h)) (λh=>absurd e3 h))
      refine hA2.drew.rT (n:=2) rfl ?_
      have e3':a.1=3:=e3
      rw[if_neg (λh=>h.elim (λh=>h.2 e4) (λh=>h.1 e3)),if_neg (λh=>by have:=h.1;omega),if_neg (λh=>by have:=h.1;omega)]at key
      refine znP h2.drew hs hr hn λw3 room' n' h3 _ hrn=>⟨_,rfl,?_⟩
      have:=hR w3 room' n' h3 (λh0=>by
       have hnul:nul a.2.2=false:=by
        rw[key]at h0
        split at h0
        ·cases h0
        ·rename_i hh;simpa using hh
       obtain⟨g1,g2,g3⟩:=hrn hnul
       unfold cost
       rw[if_pos e3',if_pos e3']
       exact⟨g1,g2,g3⟩)
      rwa[key]at this
    ·refine zI (zm (λh=>absurd h e3) (λ_=>?_))
     refine hA2.drew.rT (n:=2) rfl ?_
     rw[zkH]
     refine zI (zg (λe5=>?_) (λe5=>?_))
     ·exact zm (λh=>absurd h e3) (λ_=>⟨h2.drew,hA2.drew,hno,e3,e5⟩)
     ·have:=hR w2.drew room n h2.drew (λh=>by rw[key,if_pos (.inr ⟨e3,e5⟩)]at h;cases h)
      rwa[key,if_pos (.inr ⟨e3,e5⟩)]at this
 ·rintro _ w3 ⟨h3,hA3,hno,hn3,hsz⟩
  have hnul:nul a.2.2=false:=by
   unfold nul
   have:a.2.2.data.toList=[]:=List.eq_nil_of_length_eq_zero (by rw[Array.length_toList];exact hsz)
   rw[this]
   rfl
  rw[if_neg hno,if_neg (λh=>h.elim (λh=>hn3 h.1) (λh=>h.2 hsz)),hnul]at key
  simp only[Bool.false_eq_true,if_false]at key
  have hcost:cost a=1:=by unfold cost;rw[if_neg hn3]
  refine hA3.rI (n:=1) rfl ?_
  refine zl1 h3 hr (by omega) λw4 h4 o4=>⟨rfl,?_⟩
  have hA4:=o4 _ _ _ hA3 hbne (by decide)
  have fin:∀w',Below w4.heap.size w4 w'->R (.int .i64 (zcd c a bd)) w':=λw' hb=>hR w' (room+1) (n+1) (h4.step hb) (λ_=>by rw[hcost,if_neg hn3];exact⟨rfl,.inl rfl,Nat.le_refl _⟩)
  refine hA4.rI0 rfl (zm (λe1=>?_) (λe1=>?_))
  ·refine hA4.drew.rI (n:=1) rfl ?_
   obtain⟨r,xs,hW,_⟩:=h4.own
   refine ze rfl (hW.drew.rI (n:=8) rfl ?_)
   refine zo6 ⟨_,rfl,?_⟩
   have:=fin w4.drew (Below.refl _ _).drew
   have e1':a.1=1:=e1
   have ev:zcd c a bd=if a.2.1=0 then 43 else if bd<=a.2.1 then 43 else 0:=by
    rw[key]
    by_cases x1:a.2.1=0
    ·rw[if_pos ⟨e1',.inl x1⟩,if_pos x1]
    ·rw[if_neg x1]
     by_cases x2:bd<=a.2.1
     ·rw[if_pos ⟨e1',.inr x2⟩,if_pos x2]
     ·rw[if_neg (λh=>h.2.elim x1 x2),if_neg (λh=>by have:=h.1;omega),if_neg x2]
   rwa[ev]at this
  ·rw[if_neg (λh=>e1 h.1)]at key
   refine zm (λe4=>?_) (λe4=>?_)
   ·refine hA4.rI (n:=1) rfl ?_
    refine zmv λw5 b5=>⟨_,rfl,?_⟩
    have:=fin w5 b5
    have e4':a.1=4:=e4
    have ev:zcd c a bd=if zgj c a.2.1=false then 31 else 0:=by
     rw[key]
     by_cases x1:zgj c a.2.1=false
     ·rw[if_pos ⟨e4',x1⟩,if_pos x1]
     ·rw[if_neg (λh=>x1 h.2),if_neg x1]
    rwa[ev]at this
   ·have:=fin w4 (Below.refl _ _)
    rwa[key,if_neg (λh=>e4 h.1)]at this
end
theorem zmC{f:Fm}{s:Sl}{al:List Ag}{w:World}{R:VWP}(hI:IsAg w s al)(h24:24*al.length<=140737488351232)
  (hR:∀w',Below w.heap.size w w'->R (.int .i64 (if (fitP f.1 (al.map (·.1))).2=true then 0 else 42)) w'):cR 150 #[fmA f,.slice s.a s.l s.c] w R:=by
 refine zc.of (zgS f s R w ?_) λ_ _ h=>h
 refine zl λw1 hB b1 z1=>?_
 have hB:Blk w1 w.heap.size 187 (fmV f):=hB
 have hlen:=hI.len
 refine zj.countSl al.length hI.bound (λk r w'=>Own w' 5 1 r ((al.take k).map λa=>Value.int .u8 a.1)/\zA w1.heap.size r/\Below w1.heap.size w1 w') ⟨Own.nil _ _ _,λa ha=>by(cases ha),Below.refl _ _⟩ ?_
 rintro k r w2 hk ⟨hO,hF,hb⟩ next hnext
 have hb0:=b1.on hb
 have hI2:=hI.below hb0
 refine zg (λh=>?_) (λh=>?_)
 ·have hlt:k<al.length:=by dsimp only at h;omega
  refine zfy hI2 hlt ?_
  refine box3 rfl λw3 h3 b3 z3=>?_
  refine h3.rI0 rfl ?_
  refine zl λw4 h4 b4 z4=>?_
  have hrl:r.l=k:=by have:=hO.1;simp[Nat.min_eq_left hk]at this;omega
  refine ZS eU8 ((hO.below b3).below b4) ((hb.on b3).on b4) hF (v:=.int .u8 al[k].1) rfl h4 (by omega) (by omega) λr' w5 h5 b5 F5=>?_
  refine hnext r' w5 hlt ⟨?_,F5,b5⟩
  rw[List.take_succ_eq_append_getElem hlt,List.map_append]
  exact h5
 ·have hk:k=al.length:=by dsimp only at h;omega
  subst hk
  rw[List.take_length]at hO
  have hB2:=hB.below hb
  refine hB2.rI0 rfl ?_
  have hO':Own w2 5 1 r ((al.map (·.1)).map (Value.int .u8)):=by rw[List.map_map];exact hO
  refine zjk hO'.isS λw3 b3=>⟨_,_,rfl,?_⟩
  have:=hR w3 (hb0.on b3)
  refine zI (zn (λh=>by rwa[if_pos h]at this) (λh=>by rwa[if_neg (by rw[h];simp)]at this))
end Go.Proofs
namespace Go.Proofs
open Go.Gk Go.RowKit Go.Gm
theorem zno(g:Fl)(ty re:Int)(al:List Ag)(bd:Int):zdU g ty re al bd =
  (let e1:=errK g ty re al bd al.length;let e2:=if e1=0 then(if YO g al.length=true then 0 else 42) else e1;if e2=0 then(if 65535<zep g al then 25 else 0) else e2):=by
 unfold zdU
 dsimp only
 by_cases h1:errK g ty re al bd al.length=0
 ·rw[if_neg (λh=>h h1),if_pos h1]
  cases hw:YO g al.length
  ·simp
  ·simp
 ·rw[if_pos h1,if_neg h1,if_neg h1]
theorem bnd3{n n' k t C:Nat}(h1:n<=2+k+C*t)(h2:n'<=n+C):n'<=2+(k+1)+C*(t+1):=by
 rw[Nat.mul_add,Nat.mul_one]
 generalize C*t=q at h1
 omega
theorem bnd1{n n' k t C:Nat}(h1:n<=2+k+C*t)(h2:n'<=n+1):n'<=2+(k+1)+C*(t+0):=by
 rw[Nat.add_zero]
 generalize C*t=q at h1
 omega
theorem zob{x:Ins}{al:List Ag}{bd:Int}{w:World}{R:VWP}(hI:IsAg w x.2.2.2.1 al)(h24:24*al.length<=140737488351232)(hs:∀y∈al,y.2.2.size<=9223372036854775807)
  (hR:∀(r:Sl) (op:Int) w',Below w.heap.size w w'->(zdV x.1 x.2.1 x.2.2.1 al bd=0->1+r.l=zhB (x.1,x.2.1,x.2.2.1,al)/\zhB (x.1,x.2.1,x.2.2.1,al)<=65535)->
   R (.tuple #[.agg #[.int .u16 op,.slice r.a r.l r.c],.int .i64 (zdV x.1 x.2.1 x.2.2.1 al bd)]) w') :
  cR 114 #[inA x,.int .u32 bd] w R:=by
 refine zc.of (ziw x bd R w ?_) λ_ _ h=>h
 refine zl λw1 hB1 b1 z1=>?_
 have hB1:Blk w1 w.heap.size 50 (inV x):=hB1
 refine zl λw2 hC2 b2 z2=>?_
 have hC2:Blk w2 w1.heap.size 197 [.int .u16 0,.slice none 0 0]:=hC2
 have hB2:=hB1.below b2
 have hb2:=b1.on b2
 refine hB2.rI0 rfl ?_
 refine zgp λw3 b3=>⟨fmO x.1 (frm x.1),(frm x.1).isSome,rfl,?_⟩
 refine box8 rfl λw4 hF4 b4 z4=>?_
 have hF4:Blk w4 w3.heap.size 187 (fmV (fmO x.1 (frm x.1))):=hF4
 have b24:=b3.on b4
 have hb4:=hb2.on b24
 have hB4:=hB2.below b24
 have hC4:=hC2.below b24
 have s1:=b1.size
 have s2:=b2.size
 have s3:=b3.size
 have s4:=b4.size
 have hlen:=hI.len
 refine zn (λhn=>?_) (λhn=>?_)
 ·have hfr:frm x.1=none:=by
   cases h:frm x.1 with
   |none=>rfl
   |some g=>rw[h]at hn;cases hn
  have hfp:zdV x.1 x.2.1 x.2.2.1 al bd=30:=zdW hfr
  rw[hfp]at hR
  refine st2 hC4 rfl λw5 hC5 c5=>?_
  refine hC5.rI (n:=0) rfl (hC5.rS (n:=1) (x:=⟨none,0,0⟩) rfl ?_)
  exact hR ⟨none,0,0⟩ 0 w5 (c5.below hb4 (by omega)) (λh=>by cases h)
 ·obtain⟨g,hfr⟩:∃g,frm x.1=some g:=by
   cases h:frm x.1 with
   |none=>rw[h]at hn;cases hn
   |some g=>exact⟨g,rfl⟩
  have efl:flOf x.1=g:=by unfold flOf;rw[hfr];rfl
  rw[hfr]at hF4
  rw[zdX hfr,show zhB (x.1,x.2.1,x.2.2.1,al)=zep g al by unfold zhB;dsimp only;rw[hfr]]at hR
  have hop:(fmO x.1 (some g)).1=x.1:=rfl
  have hty:(fmO x.1 (some g)).2.2.1=g.ty:=rfl
  have hre:(fmO x.1 (some g)).2.2.2.1=g.re:=rfl
  have hwh:=@znq x.1 g hfr al bd
  generalize fmO x.1 (some g)=fm at hF4 hop hty hre
  refine Fm.load hF4 ?_
  refine zl λw5 hW5 b5 z5=>?_
  have hW5:Blk w5 w4.heap.size 228 (wrV fm bd ⟨none,0,0⟩ 0):=hW5
  have hS5:WtS w4 w5 w4.heap.size fm bd 0 0:=⟨Nat.le_refl _,b5,⟨none,0,0⟩,[],hW5,Own.nil _ _ _,(λa ha=>by cases ha),rfl⟩
  have hF5:=hF4.below b5
  have hB5:=hB4.below b5
  refine hF5.rB (n:=2) rfl (hB5.rI (n:=1) rfl ?_)
  refine zj3 hS5 (by omega) (by omega) λw6 room6 n6 hS6 hr6 hn6 he6=>⟨_,rfl,?_⟩
  rw[hty]at he6⊢
  have e0:errK g x.2.1 x.2.2.1 al bd 0=if idP g.ty x.2.1 bd 40=0 then idP g.re x.2.2.1 bd 41 else idP g.ty x.2.1 bd 40:=by
   unfold errK
   rw[zni]
   by_cases h1:idP g.ty x.2.1 bd 40=0
   ·rw[if_neg (λh=>h h1),if_pos h1]
    by_cases h2:idP g.re x.2.2.1 bd 41=0
    ·rw[if_neg (λh=>h h2),h2]
    ·rw[if_pos h2]
   ·rw[if_pos h1,if_neg h1]
  refine zk.cut (λst w'=>st.1=errK g x.2.1 x.2.2.1 al bd 0/\∃room n,WtS w4 w' w4.heap.size fm bd room n/\(errK g x.2.1 x.2.2.1 al bd 0=0->room=g.ty.toNat +g.re.toNat/\n=room)) ?_ ?_
  ·refine zm (λe=>?_) (λe=>?_)
   ·rw[if_pos e]at e0
    obtain⟨g1,g2⟩:=he6 e (by decide)
    have hF6:=hF4.below hS6.below
    have hB6:=hB4.below hS6.below
    refine hF6.rB (n:=3) rfl (hB6.rI (n:=2) rfl ?_)
    refine zj3 hS6 (by omega) (by omega) λw7 room7 n7 hS7 hr7 hn7 he7=>⟨_,rfl,?_,room7,n7,hS7,λh0=>?_⟩
    ·rw[e0,hre]
    ·rw[e0]at h0
     rw[hre]at he7
     obtain⟨g3,g4⟩:=he7 h0 (by decide)
     omega
   ·rw[if_neg e]at e0
    exact⟨e0.symm,room6,n6,hS6,λh0=>absurd (e0.symm.trans h0) e⟩
  ·rintro⟨ev,_⟩ w7 ⟨hev,room7,n7,hS7,hz7⟩
   dsimp only at hev
   subst hev
   have hB7:=hB4.below hS7.below
   refine hB7.rS (n:=3) rfl ?_
   have htn:g.ty.toNat +g.re.toNat<=2:=by cases g.ty<;>cases g.re<;>decide
   refine zj.ghost (λj st w'=>∃k,k<=al.length/\j=al.length-k/\st=(errK g x.2.1 x.2.2.1 al bd k,(k:Int),())/\∃room n,WtS w4 w' w4.heap.size fm bd room n/\
    (errK g x.2.1 x.2.2.1 al bd k=0->room=g.ty.toNat +g.re.toNat +zgg al k/\(n=room\/65535<room)/\n<=2+k+65535*tx al k)) al.length
    ⟨0,Nat.zero_le _,rfl,rfl,room7,n7,hS7,λh=>by obtain⟨g1,g2⟩:=hz7 h;refine⟨by rw[g1];simp[zgg],.inl g2,?_⟩;simp[tx];omega⟩ ?_
   rintro _ _ w8 ⟨k,hk,rfl,rfl,room8,n8,hS8,hz8⟩ next hnext
   refine zg (λh=>?_) (λh=>?_)
   ·have hlt:k<al.length:=by dsimp only at h;omega
    have hI8:=hI.below (hb4.on hS8.below)
    refine zk.cut (λst w'=>st.1=errK g x.2.1 x.2.2.1 al bd (k+1)/\∃room n,WtS w4 w' w4.heap.size fm bd room n/\
     (errK g x.2.1 x.2.2.1 al bd (k+1)=0->room=g.ty.toNat +g.re.toNat +zgg al (k+1)/\(n=room\/65535<room)/\n<=2+(k+1)+65535*tx al (k+1))) ?_ ?_
    ·refine zfy hI8 hlt ?_
     refine box3 rfl λw9 hA9 b9 z9=>?_
     have hS9:=hS8.step b9
     refine zm (λe=>?_) (λe=>?_)
     ·obtain⟨g1,g2,g3⟩:=hz8 e
      obtain⟨_,_,ha⟩:=zgk e
      have hwe:=zgf ha
      have htx:=zp9 hfr (k:=k) (by omega) hwe
      have hcn:=zkI hs (k:=k) (by omega)
      refine hA9.rI (n:=0) rfl (hA9.rI (n:=1) rfl (hA9.rT (n:=2) rfl ?_))
      refine zog hS9 (k:=k) (by omega) (hs _ (List.getElem_mem hlt)) (by omega) (by omega) λw10 room' n' hS10 hz10=>⟨_,rfl,?_,room',n',hS10,λh0=>?_⟩
      ·rw[ze0,if_pos e,hop,efl]
       unfold werr
       rw[zt hlt]
      ·rw[ze0,if_pos e]at h0
       unfold werr at h0
       rw[zt hlt]at h0
       rw[hop,efl]at hz10
       obtain⟨q1,q2,q3⟩:=hz10 h0
       rw[zix hlt,zia hlt]
       refine⟨by omega,by omega,?_⟩
       split at q3<;>rename_i h3
       ·rw[if_pos h3];exact bnd3 g3 q3
       ·rw[if_neg h3];exact bnd1 g3 q3
     ·refine⟨?_,room8,n8,hS9,λh0=>?_⟩
      ·rw[ze0,if_neg e]
      ·rw[ze0,if_neg e]at h0
       exact absurd h0 e
    ·rintro⟨ev,_⟩ w9 ⟨hev,room9,n9,hS9,hz9⟩
     dsimp only at hev
     subst hev
     dsimp only
     rw[zr (by omega)]
     exact hnext (al.length-(k+1)) _ _ (by omega) ⟨k+1,hlt,rfl,rfl,room9,n9,hS9,hz9⟩
   ·have hk':k=al.length:=by dsimp only at h;omega
    subst hk'
    have hff:=zno g x.2.1 x.2.2.1 al bd
    dsimp only at hff
    have hb8:=hS8.below
    have hF8:=hF4.below hb8
    have hB8:=hB4.below hb8
    have hI8:=hI.below (hb4.on hb8)
    refine zk.cut (λst w'=>st.1=(if errK g x.2.1 x.2.2.1 al bd al.length=0 then(if YO g al.length=true then 0 else 42) else errK g x.2.1 x.2.2.1 al bd al.length)/\WtS w4 w' w4.heap.size fm bd room8 n8) ?_ ?_
    ·refine zm (λe=>?_) (λe=>?_)
     ·refine Fm.load hF8 ?_
      refine hB8.rS (n:=3) rfl ?_
      refine zmC (f:=fm) hI8 h24 λw9 b9=>⟨_,rfl,?_,hS8.step b9⟩
      obtain⟨_,_,ha⟩:=zgk e
      rw[if_pos e,hop,hwh (zgf ha)]
     ·exact⟨by rw[if_neg e],hS8⟩
    ·rintro⟨ev,_⟩ w9 ⟨hev,hS9⟩
     dsimp only at hev
     rw[<-hev]at hff
     have hroom:ev=0->errK g x.2.1 x.2.2.1 al bd al.length=0:=by
      intro h
      rw[h]at hev
      refine Classical.byContradiction λhne=>?_
      rw[if_neg hne]at hev
      exact hne hev.symm
     obtain⟨r,xs,hW9,hO9,hFr9,hrl9⟩:=hS9.own
     refine zk.cut (λst w'=>st.1=zdU g x.2.1 x.2.2.1 al bd/\w'=w9) ?_ ?_
     ·refine zm (λe=>?_) (λe=>?_)
      ·have e':ev=0:=e
       rw[if_pos e']at hff
       obtain⟨g1,_,_⟩:=hz8 (hroom e')
       have hrp:zep g al=1+room8:=by unfold zep;rw[g1]
       refine hW9.rI (n:=10) rfl (zg (λhge=>⟨?_,rfl⟩) (λhlt=>⟨?_,rfl⟩))
       ·rw[hff,if_pos (by omega)]
       ·rw[hff,if_neg (by omega)];exact e
      ·have e':¬ev=0:=e
       rw[if_neg e']at hff
       exact⟨hff.symm,rfl⟩
     ·rintro⟨ev2,_⟩ w' ⟨hev2,hw'⟩
      dsimp only at hev2
      subst hw'
      have hb9:=hb4.on hS9.below
      have hC9:=hC4.below hS9.below
      have hB9:=hB4.below hS9.below
      refine zE (λe=>?_) (λe=>?_)
      ·refine st2 hC9 rfl λw10 hC10 c10=>?_
       refine hC10.rI (n:=0) rfl (hC10.rS (n:=1) (x:=⟨none,0,0⟩) rfl ?_)
       have:=hR ⟨none,0,0⟩ 0 w10 (c10.below hb9 (by omega)) (λh=>absurd (hev2.trans h) e)
       rw[<-hev2]at this
       exact this
      ·have e':ev2=0:=e
       refine hB9.drew.rI0 rfl (hW9.drew.rS (n:=9) (x:=r) rfl ?_)
       refine st2 hC9.drew rfl λw10 hC10 c10=>?_
       refine hC10.rI (n:=0) rfl (hC10.rS (n:=1) (x:=r) rfl ?_)
       have hf0:zdU g x.2.1 x.2.2.1 al bd=0:=hev2.symm.trans e'
       have:=hR r x.1 w10 (c10.below hb9.drew (by omega)) (λ_=>by
        rw[hf0]at hff
        have h0:ev=0:=by
         refine Classical.byContradiction λhne=>?_
         rw[if_neg hne]at hff
         exact hne hff.symm
        rw[if_pos h0]at hff
        have hle:¬65535<zep g al:=by
         intro h
         rw[if_pos h]at hff
         cases hff
        obtain⟨g1,g2,_⟩:=hz8 (hroom h0)
        have hrp:zep g al=1+room8:=by unfold zep;rw[g1]
        omega)
       rw[hf0]at this
       exact this
theorem zkJ{w:World}{R:VWP}(hR:∀w',Below w.heap.size w w'->R (.tuple #[.int .i64 5,.agg #[.int .i64 0,.int .i64 0]]) w'):cR 147 #[.slice none 0 0] w R:=by
 refine zc.of (zeK ⟨none,0,0⟩ R w ?_) λ_ _ h=>h
 refine zl λw1 hB b1 z1=>?_
 have hB:Blk w1 w.heap.size 29 [.int .i64 0,.int .i64 0]:=hB
 refine zj.ghost (λj st w'=>j=0/\st=((5:Int),(0:Int),())/\w'=w1) 0 ⟨rfl,rfl,rfl⟩ ?_
 rintro _ _ w' ⟨rfl,rfl,hw⟩ next hnext
 subst hw
 refine zg (λh=>absurd h (by simp)) (λ_=>?_)
 refine st2 hB rfl λw2 h2 c2=>?_
 exact Sp.load h2 (hR w2 (c2.below b1 (Nat.le_refl _)))
theorem zod{w:World}{R:VWP}(hR:∀w',Below w.heap.size w w'->R (.tuple #[.int .i64 5,.int .i64 0]) w'):cR 113 #[.slice none 0 0] w R:=by
 refine zc.of (zgY ⟨none,0,0⟩ R w ?_) λ_ _ h=>h
 refine zkJ λw1 b1=>⟨5,(0,0,()),rfl,?_⟩
 refine box2 rfl λw2 h2 b2 z2=>?_
 exact h2.drew.rI0 rfl (hR w2.drew (b1.on b2).drew)
theorem eRaw:YR Tryz.prog 149 197 2 32:=⟨by kernel_rfl,Tryz.t197,.agg #[.int .u16 0,.slice none 0 0],by kernel_rfl,rfl,rfl,rfl,rfl⟩
theorem zm3{P:Program}{t e:TypeId}{sz bytes:Nat}(he:YR P t e sz bytes){w0 w:World}{s:Sl}{xs:List Value}(h:Own w e sz s xs)(hb:Below w0.heap.size w0 w)(hF:zA w0.heap.size s){vs:List Value}(hvs:vs.length=sz)(hv:∀u∈vs,u.oneCell'=true){b c:Nat}{T:TypeId}
  (hB:Blk w b T vs) (h63:s.l+1<=9223372036854775807) (hbytes:(s.l+1)*bytes<=140737488355328) {k:Sl->World->Prop}
  (hk:∀r w',Own w' e sz r (xs++vs)->r.l=s.l+1->Below w0.heap.size w0 w'->zA w0.heap.size r->k r w'):zC P t (.slice s.a s.l s.c) (.slice (some (blk b)) 1 c) w k:=by
 refine ZO he h (news:=vs) (by omega) (λj u hj=>hB.cell hj) hv h63 hbytes λr w' h1 hl' hg=>?_
 rcases hg with⟨_,_,h3⟩ | ⟨b',h3,h4,h5⟩
 ·rw[h3]at hl';omega
 ·have hbb:w0.heap.size<=b':=by
   rcases h4 with h4 |h4
   ·exact hF _ h4
   ·have:=hb.size
    omega
  exact hk r w' h1 hl' (hb.trans (yC h5 hbb hb.size)) λa ha=>by rw[h3]at ha;cases ha;exact hbb
theorem znH{x:Mo}{pl:List PI}{w:World}{R:VWP}(hN:IsPl w x.2.2.1 pl)(hp:PlOk pl)(hR:∀(r:Sl) w',Below w.heap.size w w'->R (.tuple #[.slice r.a r.l r.c,.agg #[.int .i64 (zK x.2.1 pl).1,.int .i64 ((zK x.2.1 pl).2:Int)]]) w') :
  cR 76 #[moA x] w R:=by
 refine zc.of (zhL x R w ?_) λ_ _ h=>h
 refine zl λw1 hB1 b1 z1=>?_
 have hB1:Blk w1 w.heap.size 25 (moV x):=hB1
 refine zl λw2 hC2 b2 z2=>?_
 have hC2:Blk w2 w1.heap.size 29 [.int .i64 0,.int .i64 0]:=hC2
 have hB2:=hB1.below b2
 have hb2:=b1.on b2
 have s1:=b1.size
 have s2:=b2.size
 have hlen:=hN.len
 have h40:=hp.len
 have spot:∀{w' cs},Blk w' w1.heap.size 29 cs->cs.length=2->Below w.heap.size w w'->∀(r:Sl) (e a:Int),(e,a)=((zK x.2.1 pl).1,((zK x.2.1 pl).2:Int))->
   Wr w' (blk w1.heap.size)/\Nw (w'.setCell (blk w1.heap.size) (.int .i64 e)) λw3=>Wr w3 ((blk w1.heap.size).add 1)/\Nw (w3.setCell ((blk w1.heap.size).add 1) (.int .i64 a)) λw4=>
    ldI w4 ((blk w1.heap.size).add 0) .i64 λx4=>ldI w4 ((blk w1.heap.size).add 1) .i64 λx5=>R (.tuple #[.slice r.a r.l r.c,.agg #[.int .i64 x4,.int .i64 x5]]) w4:=by
  intro w' cs hC hl hb r e a hea
  refine st2 hC hl λw3 h3 c3=>Sp.load h3 ?_
  rw[Prod.mk.injEq]at hea
  rw[hea.1,hea.2]
  exact hR r w3 (c3.below hb (by omega))
 refine zk.cut (λ_ w'=>w'=w2/\¬(x.2.1=0\/65536<x.2.1)) ?_ ?_
 ·refine hB2.rI (n:=1) rfl (zm (λe=>?_) (λe=>?_))
  ·exact spot hC2 rfl hb2 ⟨none,0,0⟩ 24 0 (by rw[zhE (.inl e)];rfl)
  ·refine hB2.rI (n:=1) rfl (zg (λh=>?_) (λh=>⟨rfl,λh'=>h'.elim e h⟩))
   exact spot hC2 rfl hb2 ⟨none,0,0⟩ 24 0 (by rw[zhE (.inr h)];rfl)
 ·rintro _ w' ⟨hw,hbd⟩
  subst hw
  refine zod λw3 b3=>⟨_,_,rfl,?_⟩
  have hB3:=hB2.below b3
  have hC3:=hC2.below b3
  have hb3:=hb2.on b3
  refine hB3.rS (n:=2) rfl ?_
  rw[show IntKind.i64.wrap (1048576-5)=1048571 by decide +kernel]
  refine zj.ghost (λj st w4=>∃(k:Nat) (r:Sl) (xs:List Value),k<=pl.length/\j=pl.length-k/\st=((1048576:Int)-(totP pl k:Int),r,(k:Int),())/\totP pl k<=1048576/\(∀i,i<k->badI pl x.2.1 i=false)/\Own w4 197 2 r xs/\zA w'.heap.size r/\r.l=k/\
   Below w'.heap.size w' w4) pl.length ⟨0,⟨none,0,0⟩,[],Nat.zero_le _,rfl,rfl,(by simp[totP]),λi hi=>by omega,Own.nil _ _ _,λa ha=>by(cases ha),rfl,b3⟩ ?_
  rintro _ _ w4 ⟨k,r,xs,hk,rfl,rfl,htot,hj,hO,hF,hrl,hb4⟩ next hnext
  have hbw4:=hb2.on hb4
  have hB4:=hB2.below hb4
  have hC4:=hC2.below hb4
  refine zg (λh=>?_) (λh=>?_)
  ·have hlt:k<pl.length:=by dsimp only at h;omega
   have hmem:=List.getElem_mem hlt
   refine zbV (hN.below hbw4) hlt λt ht=>?_
   refine box4 rfl λw5 hI5 b5 z5=>?_
   have hI5:Blk w5 w4.heap.size 50 (inV (mkIn pl[k] t)):=hI5
   refine Ins.load hI5 ?_
   refine(hB4.below b5).rI (n:=1) rfl ?_
   refine zob (x:=mkIn pl[k] t) (ht.below b5) (hp.args _ hmem) (hp.text _ hmem) λq op w6 b6 hq=>⟨(op,q,()),_,rfl,?_⟩
   refine box2 rfl λw7 h7 b7 z7=>?_
   have h7:Blk w7 w6.heap.size 197 [.int .u16 op,.slice q.a q.l q.c]:=h7
   have b57:=(b5.on b6).on b7
   have hb7:=hb4.on b57
   refine h7.rS (n:=1) (x:=q) rfl ?_
   change ZQ pl[k] x.2.1=0->1+q.l=zhB pl[k]/\zhB pl[k]<=65535 at hq
   show ifB (ZQ pl[k] x.2.1 !=0) _ _
   refine zE (λe=>?_) (λe=>?_)
   ·exact spot (hC4.below b57) rfl (hbw4.on b57) ⟨none,0,0⟩ _ _ (by rw[zlB hbd hlt hj e];rfl)
   ·obtain⟨q1,q2⟩:=hq e
    have ht1:=znS hlt
    have hleft:IntKind.i64.wrap (((1048576:Int)-(totP pl k:Int))-IntKind.i64.wrap (1+(q.l:Int)))=(1048576:Int)-(totP pl (k+1):Int):=by
     rw[zy (x:=(1:Int)+(q.l:Int)) (by omega) (by omega),zy (by omega) (by omega)]
     omega
    dsimp only
    rw[hleft]
    refine zg (λhlt0=>?_) (λhge0=>?_)
    ·exact spot (hC4.below b57) rfl (hbw4.on b57) ⟨none,0,0⟩ _ _ (by rw[zlC hbd hlt hj e (by omega)])
    ·have hbk:=zlU hlt e (show ¬1048576<totP pl (k+1) by omega)
     refine h7.rI (n:=0) rfl (h7.rS (n:=1) (x:=q) rfl ?_)
     refine zl λw8 h8 b8 z8=>?_
     have h8:Blk w8 w7.heap.size 197 [.int .u16 op,.slice q.a q.l q.c]:=h8
     refine zm3 eRaw ((hO.below b57).below b8) (hb7.on b8) hF rfl (by simp[Value.oneCell']) h8 (by omega) (by omega) λr' w9 hO9 hl9 b9 F9=>?_
     rw[zr (by omega)]
     refine hnext (pl.length-(k+1)) _ _ (by omega) ⟨k+1,r',_,hlt,rfl,rfl,by omega,λi hi=>?_,hO9,F9,by omega,b9⟩
     by_cases e':i=k
     ·subst e';exact hbk
     ·exact hj i (by omega)
  ·have hk':k=pl.length:=by dsimp only at h;omega
   subst hk'
   exact spot hC4 rfl hbw4 r 0 0 (by rw[zmA hbd hj];rfl)
theorem zlR{x:Mo}{pl:List PI}{w:World}{R:VWP}(hN:IsPl w x.2.2.1 pl)(hp:PlOk pl)(hR:∀w',Below w.heap.size w w'->R (.agg #[.int .i64 (zK x.2.1 pl).1,.int .i64 ((zK x.2.1 pl).2:Int)]) w') :
  cR 43 #[moA x] w R:=by
 refine zc.of (zgQ x R w ?_) λ_ _ h=>h
 refine zl λw1 hB1 b1 z1=>?_
 have hB1:Blk w1 w.heap.size 25 (moV x):=hB1
 refine zl λw2 hC2 b2 z2=>?_
 have hC2:Blk w2 w1.heap.size 29 [.int .i64 0,.int .i64 0]:=hC2
 have hb2:=b1.on b2
 refine Mo.load (hB1.below b2) ?_
 refine znH (x:=x) (hN.below hb2) hp λr w3 b3=>⟨r,((zK x.2.1 pl).1,((zK x.2.1 pl).2:Int),()),rfl,?_⟩
 refine box2 rfl λw4 h4 b4 z4=>?_
 refine Sp.load h4 ?_
 refine st2 ((hC2.below b3).below b4) rfl λw5 h5 c5=>?_
 refine Sp.load h5 (hR w5 (c5.below ((hb2.on b3).on b4) (by have:=b1.size;omega)))
end Go.Proofs
namespace Go.Proofs
open Go.Gk Go.RowKit Go.Gm
def idsN(ty:Int)(al:List Ag)(k:Nat):List Int:=(if ty=0 then [] else [ty])++((al.take k).filter λa=>a.1==1).map (·.2.1)
def idsP(ty:Int)(al:List Ag):List Int:=idsN ty al al.length
theorem zj5{ty:Int}{al:List Ag}{k:Nat}(hk:k<al.length):idsN ty al (k+1)=idsN ty al k++(if al[k].1=1 then [al[k].2.1] else []):=by
 unfold idsN
 rw[List.take_succ_eq_append_getElem hk,List.filter_append,List.map_append,<-List.append_assoc]
 congr 1
 by_cases e:al[k].1=1
 ·rw[if_pos e]
  have:(al[k].1==1)=true:=beq_iff_eq.2 e
  simp[this]
 ·rw[if_neg e]
  have:(al[k].1==1)=false:=beq_eq_false_iff_ne.2 e
  simp[this]
theorem zo7(ty:Int)(al:List Ag)(k:Nat):(idsN ty al k).length<=k+1:=by
 unfold idsN
 rw[List.length_append,List.length_map]
 have h1:=List.length_filter_le (λa:Ag=>a.1==1) (al.take k)
 rw[List.length_take]at h1
 have h2:(if ty=0 then([]:List Int) else [ty]).length<=1:=by split<;>simp
 omega
section
variable {x:Ins} {al:List Ag} {w:World} {R:VWP}
theorem zfG(hI:IsAg w x.2.2.2.1 al)(h24:24*al.length<=140737488351232)
  (hR:∀r w',Own w' 22 1 r ((idsP x.2.1 al).map (Value.int .u32))->zA w.heap.size r->Below w.heap.size w w'->R (.slice r.a r.l r.c) w'):cR 69 #[inA x] w R:=by
 refine zc.of (ziv x R w ?_) λ_ _ h=>h
 refine zl λw1 hB b1 z1=>?_
 have hB:Blk w1 w.heap.size 50 (inV x):=hB
 have hlen:=hI.len
 refine zk.cut (λst w'=>Own w' 22 1 st.1 ((idsN x.2.1 al 0).map (Value.int .u32))/\zA w1.heap.size st.1/\Below w1.heap.size w1 w') ?_ ?_
 ·refine hB.rI (n:=1) rfl (zE (λe=>?_) (λe=>?_))
  ·refine hB.rI (n:=1) rfl ?_
   refine zl λw2 h2 b2 z2=>?_
   refine ZS eU32 (Own.nil _ _ _) b2 (λa ha=>by cases ha) (v:=.int .u32 x.2.1) rfl h2 (by decide) (by decide) λr w3 h3 b3 F3=>⟨?_,F3,b3⟩
   unfold idsN
   rw[if_neg e]
   simpa using h3
  ·refine⟨?_,λa ha=>by(cases ha),Below.refl _ _⟩
   unfold idsN
   rw[if_pos e]
   simpa using Own.nil w1 22 1
 ·rintro⟨r0,_⟩ w2 ⟨hO2,hF2,hb2⟩
  dsimp only at hO2 hF2⊢
  refine(hB.below hb2).rS (n:=3) rfl ?_
  refine zj.countSl al.length hI.bound (λk r w'=>Own w' 22 1 r ((idsN x.2.1 al k).map (Value.int .u32))/\zA w1.heap.size r/\Below w1.heap.size w1 w') ⟨hO2,hF2,hb2⟩ ?_
  rintro k r w3 hk ⟨hO,hF,hb⟩ next hnext
  have hb0:=b1.on hb
  have hI3:=hI.below hb0
  refine zg (λh=>?_) (λh=>?_)
  ·have hlt:k<al.length:=by dsimp only at h;omega
   refine zk.cut (λst w'=>Own w' 22 1 st.1 ((idsN x.2.1 al (k+1)).map (Value.int .u32))/\zA w1.heap.size st.1/\Below w1.heap.size w1 w') ?_ ?_
   ·refine zfy hI3 hlt ?_
    refine box3 rfl λw4 h4 b4 z4=>?_
    have hrl:r.l<=k+1:=by have:=hO.1;have h2:=zo7 x.2.1 al k;rw[List.length_map]at this;omega
    refine h4.rI0 rfl (zm (λe=>?_) (λe=>?_))
    ·refine h4.rI (n:=1) rfl ?_
     refine zl λw5 h5 b5 z5=>?_
     refine ZS eU32 ((hO.below b4).below b5) ((hb.on b4).on b5) hF (v:=.int .u32 al[k].2.1) rfl h5 (by omega) (by omega) λr' w6 h6 b6 F6=>⟨?_,F6,b6⟩
     rw[zj5 hlt,if_pos e,List.map_append]
     exact h6
    ·refine⟨?_,hF,hb.on b4⟩
     rw[zj5 hlt,if_neg e,List.append_nil]
     exact hO.below b4
   ·rintro⟨r',_⟩ w' ⟨h1,h2,h3⟩
    exact hnext r' w' hlt ⟨h1,h2,h3⟩
  ·have hk:k=al.length:=by dsimp only at h;omega
   subst hk
   exact hR r w3 hO (λa ha=>by have:=hF a ha;have:=b1.size;omega) hb0
end
end Go.Proofs
namespace Go.Proofs
open Go.Gk Go.RowKit Go.Gm
theorem Fr.low{B:Nat}{X:Nat->Prop}{w0 w w':World}(h:Fr w.heap.size X w w')(hb:Below B w0 w)(hX:∀k,X k->B<=k)(hB:B<=w.heap.size):Below B w0 w':=
 hb.trans ⟨h.os,h.tape,h.output,h.size,λk hk=>h.block k (by omega) (λx=>by have:=hX k x;omega)⟩
theorem Fr.on{X:Nat->Prop}{w w1 w2:World}(h:Fr w.heap.size X w w1)(k:Fr w1.heap.size X w1 w2):Fr w.heap.size X w w2:=h.trans (k.mono h.size λ_ _ x=>x)
theorem Chg.fr{b:Nat}{w w':World}(h:Chg b w w'){B:Nat}:Fr B (λk=>k=b) w w':=⟨h.os,h.tape,h.output,Nat.le_of_eq h.size.symm,λk _ hk=>h.block k hk⟩
theorem Fr.wide{B:Nat}{X X':Nat->Prop}{w w':World}(h:Fr B X w w')(hX:∀k,X k->X' k):Fr B X' w w':=h.mono (Nat.le_refl _) λk _ x=>hX k x
theorem Fr.own{X:Nat->Prop}{w w':World}(h:Fr w.heap.size X w w'){T:TypeId}{sz:Nat}{s:Sl}{xs:List Value}(hO:Own w T sz s xs)(hX:∀b,s.a=some (blk b)->¬X b):Own w' T sz s xs:=
 hO.of_block λa ha=>by
  obtain⟨e,hlt⟩:=hO.lt ha
  exact h.block _ hlt (hX _ (by rw[<-e];exact ha))
theorem Fr.blk{X:Nat->Prop}{w w':World}(h:Fr w.heap.size X w w'){T:TypeId}{b:Nat}{xs:List Value}(hO:Blk w b T xs)(hX:¬X b):Blk w' b T xs:=hO.of_block (h.block _ hO.lt hX)
theorem zeA{P:Program}{t e:TypeId}{sz bytes:Nat}(he:YR P t e sz bytes){w:World}{s:Sl}{xs vs:List Value}(h:Own w e sz s xs)(hl:vs.length=sz)(hv:∀u∈vs,u.oneCell'=true){b c:Nat}{T:TypeId}
  (hB:Blk w b T vs) (h63:s.l+1<=9223372036854775807) (hbytes:(s.l+1)*bytes<=140737488355328) {k:Sl->World->Prop}
  (hk:∀r w' b',Own w' e sz r (xs++vs)->r.l=s.l+1->r.a=some (blk b')->(s.a=some (blk b')\/b'=w.heap.size)->Fr w.heap.size (λk=>s.a=some (blk k)) w w'->k r w') :
  zC P t (.slice s.a s.l s.c) (.slice (some (blk b)) 1 c) w k:=by
 refine ZO he h (news:=vs) (by omega) (λj u hj=>hB.cell hj) hv h63 hbytes λr w' h1 hl' hg=>?_
 rcases hg with⟨_,_,h3⟩ | ⟨b',h3,h4,h5⟩
 ·rw[h3]at hl';omega
 ·refine hk r w' b' h1 hl' h3 h4 ⟨h5.os,h5.tape,h5.output,h5.size,λk hk hx=>h5.block k hk λe=>?_⟩
  cases e
  rcases h4 with h4 |h4
  ·exact hx h4
  ·omega
section
variable {x:Ins} {al:List Ag} {w:World} {R:VWP}
abbrev piOf(x:Ins)(al:List Ag):PI:=(x.1,x.2.1,x.2.2.1,al)
theorem zny{p:PI}{h:0<p.2.2.2.length}:ziA p=(p.1==59&&p.2.2.2[0].2.1==7):=by
 obtain⟨o,t,r,l⟩:=p
 cases l with
 |nil=>exact absurd h (Nat.lt_irrefl _)
 |cons a r=>rfl
theorem zjh(hI:IsAg w x.2.2.2.1 al)(hR:∀w',Below w.heap.size w w'->R (.bool (ziA (piOf x al))) w'):cR 167 #[inA x] w R:=by
 refine zc.of (zdE x R w ?_) λ_ _ h=>h
 refine zl λw1 hB b1 z1=>?_
 have hB:Blk w1 w.heap.size 50 (inV x):=hB
 have hlen:=hI.len
 refine hB.rI0 rfl (zm (λe1=>?_) (λe1=>?_))
 ·refine hB.rS (n:=3) rfl (zg (λh=>?_) (λh=>?_))
  ·have h0:0<al.length:=by omega
   refine hB.rS (n:=3) rfl (zkg (hI.below b1) (k:=0) h0 ?_)
   have:=hR w1 b1
   rw[zny (p:=piOf x al) (h:=h0),beq_iff_eq.2 e1,Bool.true_and]at this
   exact this
  ·have h0:al=[]:=List.length_eq_zero_iff.1 (by omega)
   have:=hR w1 b1
   subst h0
   unfold ziA at this
   rw[Bool.and_false]at this
   exact this
 ·have:=hR w1 b1
  unfold ziA at this
  rw[beq_eq_false_iff_ne.2 e1,Bool.false_and]at this
  exact this
theorem zo3(op:Int):(fmO op (frm op)).2.2.2.2.2.2.2.1=((zaB op:Nat):Int):=by
 unfold zaB
 cases frm op<;>rfl
theorem zjG(hI:IsAg w x.2.2.2.1 al)(hR:∀w',Below w.heap.size w w'->R (.int .u8 (zq (piOf x al):Int)) w'):cR 138 #[inA x] w R:=by
 refine zc.of (zgy x R w ?_) λ_ _ h=>h
 refine zl λw1 hB b1 z1=>?_
 have hB:Blk w1 w.heap.size 50 (inV x):=hB
 refine Ins.load hB ?_
 refine zjh (x:=x) (hI.below b1) λw2 b2=>⟨_,rfl,?_⟩
 have hb2:=b1.on b2
 refine zn (λhv=>?_) (λhv=>?_)
 ·have:=hR w2 hb2
  unfold zq at this
  rw[if_pos hv]at this
  exact this
 ·refine(hB.below b2).rI0 rfl (zgp λw3 b3=>⟨fmO x.1 (frm x.1),(frm x.1).isSome,rfl,?_⟩)
  refine box8 rfl λw4 hF4 b4 z4=>?_
  refine hF4.rI (n:=7) rfl ?_
  have:=hR w4 ((hb2.on b3).on b4)
  unfold zq at this
  rw[if_neg (by rw[hv];decide)]at this
  rw[zo3]
  exact this
theorem znc{op:Int}(hR:R (.bool (y8 op)) w):cR 168 #[.int .u16 op] w R:=by
 refine zc.of (zgw op R w ?_) λ_ _ h=>h
 refine zg (λh=>?_) (λh=>?_)
 ·have:y8 op=decide (op<=255):=by
   unfold y8
   exact decide_eq_decide.2 ⟨λg=>g.2,λg=>⟨h,g⟩⟩
  rwa[this]at hR
 ·have:y8 op=false:=zfz.2 (by omega)
  rwa[this]at hR
theorem zoY{mg en:Int}(hR:R (.bool (mayI mg en)) w):cR 140 #[.int .u16 mg,.int .u16 en] w R:=by
 refine zc.of (zhh mg en R w ?_) λ_ _ h=>h
 unfold mayI at hR
 refine zm (λe=>?_) (λe=>?_)
 ·rwa[if_pos e]at hR
 rw[if_neg e]at hR
 refine zm (λe=>?_) (λe=>?_)
 ·rwa[if_pos e]at hR
 rw[if_neg e]at hR
 refine zm (λe=>?_) (λe=>?_)
 ·rwa[if_pos e]at hR
 ·rwa[if_neg e]at hR
theorem zn0(hI:IsAg w x.2.2.2.1 al)(hR:∀w',Below w.heap.size w w'->R (.int .i64 (kdP (piOf x al))) w'):cR 139 #[inA x] w R:=by
 refine zc.of (zgx x R w ?_) λ_ _ h=>h
 refine zl λw1 hB b1 z1=>?_
 have hB:Blk w1 w.heap.size 50 (inV x):=hB
 refine Ins.load hB ?_
 refine zjG (x:=x) (hI.below b1) λw2 b2=>⟨_,rfl,?_⟩
 have hb2:=b1.on b2
 have hB2:=hB.below b2
 have hR:=hR w2 hb2
 unfold kdP at hR
 refine zE (λe=>?_) (λe=>?_)
 ·rwa[if_pos (λh=>e (by rw[h];rfl))]at hR
 rw[if_neg (λh=>h (by omega))]at hR
 refine hB2.rI0 rfl ?_
 refine zm (λe=>?_) (λe=>?_)
 ·rwa[if_pos e]at hR
 rw[if_neg e]at hR
 refine zm (λe=>?_) (λe=>?_)
 ·rwa[if_pos e]at hR
 rw[if_neg e]at hR
 refine zm (λe=>?_) (λe=>?_)
 ·rwa[if_pos e]at hR
 rw[if_neg e]at hR
 refine zm (λe=>?_) (λe=>?_)
 ·rwa[if_pos e]at hR
 rw[if_neg e]at hR
 refine zm (λe=>?_) (λe=>?_)
 ·rwa[if_pos e]at hR
 rw[if_neg e]at hR
 refine zm (λe=>?_) (λe=>?_)
 ·rwa[if_pos e]at hR
 rw[if_neg e]at hR
 refine zm (λe=>?_) (λe=>?_)
 ·rwa[if_pos e]at hR
 rw[if_neg e]at hR
 refine zm (λe=>?_) (λe=>?_)
 ·rwa[if_pos e]at hR
 rw[if_neg e]at hR
 refine hB2.rI0 rfl (znc ⟨_,rfl,zn (λh=>?_) (λh=>?_)⟩)
 ·rwa[if_pos h]at hR
 ·rwa[if_neg (by rw[h];decide)]at hR
end
abbrev ctV(s:Sl)(n:Int)(ps:List Int)(f:Sl):List Value:=.slice s.a s.l s.c ::.int .i64 n::(ps.map (Value.int .i64)++[.slice f.a f.l f.c])
structure Ct (w0 w:World) (bc:Nat) (s:Sl) (n:Nat) (ps:List Int) (f:Sl):Prop where
 hi:w0.heap.size<=bc
 b0:Below w0.heap.size w0 w
 blk:Blk w bc 100 (ctV s n ps f)
 len:ps.length=20
section
variable {w0 w:World} {bc n:Nat} {s f:Sl} {ps:List Int} {pl:List PI} {R:VWP}
theorem Ct.below{w':World}(h:Ct w0 w bc s n ps f)(hb:Below w.heap.size w w'):Ct w0 w' bc s n ps f:=⟨h.hi,h.b0.on hb,h.blk.below hb,h.len⟩
theorem Ct.fr{w':World}{X:Nat->Prop}(h:Ct w0 w bc s n ps f)(hf:Fr w.heap.size X w w')(hX:∀k,X k->w0.heap.size<=k)(hne:¬X bc):Ct w0 w' bc s n ps f:=
 ⟨h.hi,hf.low h.b0 hX h.b0.size,hf.blk h.blk hne,h.len⟩
theorem Ct.mem(h:Ct w0 w bc s n ps f)(hN:IsPl w0 s pl):IsPl w s pl:=hN.below h.b0
theorem Ct.at_(h:Ct w0 w bc s n ps f){φ:Int->Prop}(hφ:φ n):za (some (Gk.blk bc)) λa=>ldI w (a.add 1) .i64 φ:=ze rfl (h.blk.rI (n:=1) rfl hφ)
theorem Ct.sl(h:Ct w0 w bc s n ps f){φ:Sl->Prop}(hφ:φ s):za (some (Gk.blk bc)) λa=>ldS w a φ:=ze rfl ⟨s,h.blk.cell0 rfl,hφ⟩
theorem Ct.drew(h:Ct w0 w bc s n ps f):Ct w0 w.drew bc s n ps f:=⟨h.hi,h.b0.drew,h.blk.drew,h.len⟩
theorem Ct.inc(h:Ct w0 w bc s n ps f)(hn:n<9223372036854775807){K:World->Prop}(hK:∀w',Ct w0 w' bc s (n+1) ps f->Chg bc w w'->K w') :
  za (some (Gk.blk bc)) λa1=>ldI w (a1.add 1) .i64 λx=>za (some (Gk.blk bc)) λa2=>Wr w (a2.add 1)/\Nw (w.setCell (a2.add 1) (.int .i64 (IntKind.i64.wrap (x+(1:Int))))) K:=by
 refine h.at_ (ze rfl ⟨h.blk.wr (by simp),Nw.gen λw' e=>?_⟩)
 rw[zr hn]at e
 have c:Chg bc w w':=by rw[e];exact Chg.set _ _ _ _
 refine hK w' ⟨h.hi,c.below h.b0 h.hi,?_,h.len⟩ c
 rw[e]
 exact h.blk.set 1 _
def kn(pl:List PI)(n:Nat):Int:=if n<pl.length then kdP (ix pl n) else -1
theorem zh5{k:Int}(h:kn pl n=k)(hk:k≠-1):n<pl.length/\kdP (ix pl n)=k:=by
 unfold kn at h
 split at h
 ·exact⟨by assumption,h⟩
 ·exact absurd h.symm hk
theorem zgu{k:Int}(h:kn pl n≠k):n<pl.length->kdP (ix pl n)≠k:=by
 intro hn e
 unfold kn at h
 rw[if_pos hn]at h
 exact h e
theorem Zm{k:Nat}(h:k<pl.length):ix pl k=pl[k]:=zt h
theorem Ye(h:Ct w0 w bc s n ps f)(hN:IsPl w0 s pl)(hn:n<=pl.length)(hR:∀w',Below w.heap.size w w'->R (.int .i64 (kn pl n)) w') :
  cR 104 #[.pointer (some (blk bc))] w R:=by
 refine zc.of (zca _ R w ?_) λ_ _ h=>h
 have hlen:=hN.len
 have bd:Below w.heap.size w w.drew:=(Below.refl _ _).drew
 refine h.drew.at_ (h.drew.sl ?_)
 unfold kn at hR
 refine zm (λe=>?_) (λe=>?_)
 ·rw[if_neg (by omega)]at hR
  exact hR _ bd
 ·have hlt:n<pl.length:=by omega
  rw[if_pos hlt,Zm hlt]at hR
  refine h.drew.drew.sl (h.drew.drew.at_ ?_)
  refine zbV (h.drew.drew.mem hN) hlt λt ht=>?_
  refine zn0 (x:=mkIn pl[n] t) ht λw1 b1=>⟨_,rfl,hR w1 (bd.drew.on b1)⟩
def zbr(a b:Nat):List Int:=(List.range (b-a)).map λi=>((a+i:Nat):Int)
theorem zm2(a:Nat):zbr a a=[]:=by unfold zbr;simp
theorem zm1(a b:Nat):(zbr a b).length=b-a:=by unfold zbr;simp
theorem zlz{a b:Nat}(h:a<=b):zbr a (b+1)=zbr a b++[(b:Int)]:=by
 unfold zbr
 rw[show b+1-a=(b-a)+1 by omega,List.range_succ,List.map_append]
 simp
 omega
theorem zeB{k:Int}(h:Ct w0 w bc s n ps f)(hN:IsPl w0 s pl)(hn:n<=pl.length)(h40:40*pl.length<=140737488351232)(hk:k≠-1)
  (hR:∀(r:Sl) n' w',n<=n'->n'<=pl.length->(∀j,n<=j->j<n'->kdP (ix pl j)=k)->(n'<pl.length->kdP (ix pl n')≠k)->Ct w0 w' bc s n' ps f->Fr w.heap.size (λk=>k=bc) w w'->
   Own w' 3 1 r ((zbr n n').map (Value.int .i64))->zA w.heap.size r->R (.slice r.a r.l r.c) w') :
  cR 105 #[.pointer (some (blk bc)),.int .i64 k] w R:=by
 refine zc.of (zc5 _ k R w ?_) λ_ _ h=>h
 refine zj.ghost (λj (st:Sl×Unit) w'=>∃n',j=pl.length-n'/\n<=n'/\n'<=pl.length/\(∀j,n<=j->j<n'->kdP (ix pl j)=k)/\Ct w0 w' bc s n' ps f/\Fr w.heap.size (λk=>k=bc) w w'/\
   Own w' 3 1 st.1 ((zbr n n').map (Value.int .i64))/\zA w.heap.size st.1) (pl.length-n)
  ⟨n,rfl,Nat.le_refl _,hn,λj h1 h2=>by omega,h,Fr.refl _ _ _,by rw[zm2];exact Own.nil _ _ _,λa ha=>by cases ha⟩ ?_
 rintro _ ⟨r,_⟩ w1 ⟨n',rfl,h1,h2,h3,h4,h5,h6,h7⟩ next hnext
 dsimp only at h6 h7
 refine Ye h4 hN h2 λw2 b2=>⟨_,rfl,?_⟩
 have h42:=h4.below b2
 have h52:=h5.on (Fr.of_below b2)
 have h62:=h6.below b2
 refine zm (λe=>?_) (λe=>?_)
 ·obtain⟨hlt,hkd⟩:=zh5 e hk
  refine h42.at_ (zl λw3 hB3 b3 z3=>?_)
  have hB3:Blk w3 w2.heap.size 3 [.int .i64 (n':Int)]:=hB3
  have hlr:r.l=n'-n:=by have:=h6.1;rw[List.length_map,zm1]at this;omega
  have hbd:bc<w.heap.size:=h.blk.lt
  refine zeA eInt (h62.below b3) rfl (by simp[Value.oneCell']) hB3 (by omega) (by omega) λr' w4 b' hO4 hl4 ha4 hw4 f4=>?_
  have s2:=b2.size
  have s5:=h5.size
  have hne:¬(r.a=some (blk bc)):=λe=>by have:=h7 _ e;exact absurd this (Nat.not_le.2 hbd)
  have hfr:∀k,r.a=some (blk k)->w.heap.size<=k:=λk e=>h7 _ e
  have h44:Ct w0 w4 bc s n' ps f:=(h42.below b3).fr f4 (λk e=>Nat.le_trans h.b0.size (hfr k e)) hne
  have h54:Fr w.heap.size (λk=>k=bc) w w4:=(h52.on (Fr.of_below b3)).trans ⟨f4.os,f4.tape,f4.output,f4.size,λk hk hx=>f4.block k (by have:=b3.size;omega) λe=>by have:=hfr k e;omega⟩
  refine h44.inc (by omega) λw5 h55 c5=>?_
  refine hnext (pl.length-(n'+1)) _ _ (by omega) ⟨n'+1,rfl,by omega,hlt,λj g1 g2=>?_,h55,h54.trans c5.fr,?_,?_⟩
  ·by_cases ej:j=n'
   ·subst ej;exact hkd
   ·exact h3 j g1 (by omega)
  ·rw[zlz h1,List.map_append]
   refine hO4.of_block λa ha=>c5.block _ λe=>?_
   rw[ha4]at ha
   cases ha
   have e:b'=bc:=e
   subst e
   rcases hw4 with g |g
   ·exact hne g
   ·have:=b3.size;omega
  ·intro a ha
   rw[ha4]at ha
   cases ha
   show w.heap.size<=b'
   rcases hw4 with g |g
   ·exact hfr _ g
   ·have:=b3.size;omega
 ·exact hR r n' w2 h1 h2 h3 (zgu e) h42 h52 h62 h7
end
end Go.Proofs
namespace Go.Proofs
open Go.Gk Go.RowKit Go.Gm
theorem z0{w w':World}(hb:Below w.heap.size w w'){a:Addr}{v:Value}(h:w.cell? a=some v):w'.cell? a=some v:=by
 rw[World.cell?_of_block (w:=w) (hb.block _ (World.block_lt_of_cell? w _ h))]
 exact h
theorem zmN{w:World}{s:Sl}{pl:List PI}(h:IsPl w s pl){k:Nat}(hk:k<pl.length){φ:Addr->Int->Prop}(hφ:∀a,w.cell? ((a.add (Int.toNat (k:Int)*4)).add 2)=some (.int .u32 pl[k].2.2.1)->φ a pl[k].2.2.1) :
  (0<=(k:Int)/\(k:Int)<(s.l:Int))/\za s.a λa=>ldI w ((a.add (Int.toNat (k:Int)*4)).add 2) .u32 λx=>φ a x:=by
 obtain⟨a,ha⟩:=h.base hk
 obtain⟨t,h1,h2⟩:=h.elem a ha k hk
 have hc:w.cell? ((a.add (Int.toNat (k:Int)*4)).add 2)=some (.int .u32 pl[k].2.2.1):=by rw[zs];exact h1 2 (by omega)
 exact⟨⟨by omega,by have:=h.len;omega⟩,ze ha ⟨_,hc,hφ a hc⟩⟩
abbrev fnV(f:FnL)(tp tb:Sl):List Value:=[.int .u32 f.id,.int .i64 f.at_,.slice tp.a tp.l tp.c,.slice tb.a tb.l tb.c,.int .i64 f.en]
abbrev blV(b:Int×Int×Int):List Value:=[.int .u32 b.1,.int .i64 b.2.1,.int .i64 b.2.2]
theorem eBlk:YR Tryz.prog 44 42 3 24:=⟨by kernel_rfl,Tryz.t42,.agg #[.int .u32 0,.int .i64 0,.int .i64 0],by kernel_rfl,rfl,rfl,rfl,rfl⟩
theorem eFun:YR Tryz.prog 38 46 5 72:=⟨by kernel_rfl,Tryz.t46,.agg #[.int .u32 0,.int .i64 0,.slice none 0 0,.slice none 0 0,.int .i64 0],by kernel_rfl,rfl,rfl,rfl,rfl⟩
theorem zM{w:World}{T T':TypeId}{sz b:Nat}{s:Sl}{xs cs:List Value}(h:Own w T sz s xs)(hB:Blk w b T' cs)(hT:T≠T'):s.a≠some (Gk.blk b):=λe=>by
 obtain⟨cs',h'⟩:=h.type e
 exact Blk.apart h' hB hT rfl
theorem zfA{w:World}{T T':TypeId}{sz sz':Nat}{s t:Sl}{xs ys:List Value}(h:Own w T sz s xs)(k:Own w T' sz' t ys)(hT:T≠T'){b:Nat}(e:s.a=some (Gk.blk b)):t.a≠some (Gk.blk b):=λe'=>by
 obtain⟨cs',h'⟩:=h.type e
 exact zM k h' (λg=>hT g.symm) e'
section
variable {w0 w:World} {bc n:Nat} {s f:Sl} {ps:List Int} {pl:List PI} {R:VWP}
theorem zmJ{i:Nat}{v:Int}(hi:i<ps.length):(ctV s n ps f).set (2+i) (.int .i64 v)=ctV s n (ps.set i v) f:=by
 have e:2+i=i+1+1:=by omega
 show(Value.slice s.a s.l s.c::Value.int .i64 n::(ps.map (Value.int .i64)++[.slice f.a f.l f.c])).set (2+i) _=_
 rw[e,List.set_cons_succ,List.set_cons_succ,List.set_append_left _ _ (by simpa using hi),<-List.map_set]
theorem zop(hps:ps.length=20):(ctV s n ps f)[22]? =some (.slice f.a f.l f.c):=by
 show(Value.slice s.a s.l s.c::Value.int .i64 n::(ps.map (Value.int .i64)++[.slice f.a f.l f.c]))[22]? =_
 rw[List.getElem?_cons_succ,List.getElem?_cons_succ,List.getElem?_append_right (by simp[hps])]
 simp[hps]
theorem zoq{g:Sl}(hps:ps.length=20):(ctV s n ps f).set 22 (.slice g.a g.l g.c)=ctV s n ps g:=by
 show(Value.slice s.a s.l s.c::Value.int .i64 n::(ps.map (Value.int .i64)++[.slice f.a f.l f.c])).set 22 _=_
 rw[List.set_cons_succ,List.set_cons_succ,List.set_append_right _ _ (by simp[hps])]
 simp[hps]
theorem zke(hps:ps.length=20):(ctV s n ps f).length=23:=by simp[hps]
theorem Ct.part(h:Ct w0 w bc s n ps f){p:Nat}(hp:p<10){x y:Int}{K:World->Prop}(hK:∀w',Ct w0 w' bc s n ((ps.set (2*p) x).set (2*p+1) y) f->Chg bc w w'->K w') :
  za (some (Gk.blk bc)) λa=>(0<=(p:Int)/\(p:Int)<(10:Int))/\Wr w ((a.add 2).add (Int.toNat (p:Int)*2))/\Nw (w.setCell ((a.add 2).add (Int.toNat (p:Int)*2)) (.int .i64 x)) λw8=>
   Wr w8 (((a.add 2).add (Int.toNat (p:Int)*2)).add 1)/\Nw (w8.setCell (((a.add 2).add (Int.toNat (p:Int)*2)).add 1) (.int .i64 y)) K:=by
 have hps:=h.len
 have e1:((Gk.blk bc).add 2).add (Int.toNat (p:Int)*2)=(Gk.blk bc).add (2+2*p):=by rw[zs,Int.toNat_natCast,Nat.mul_comm]
 have e2:(((Gk.blk bc).add 2).add (Int.toNat (p:Int)*2)).add 1=(Gk.blk bc).add (2+(2*p+1)):=by rw[e1,zs];rfl
 have hl:=zke (s:=s) (n:=n) (f:=f) hps
 refine ze rfl ⟨⟨by omega,by omega⟩,?_⟩
 rw[e1]
 refine⟨h.blk.wr (by omega),Nw.gen λw8 e=>?_⟩
 rw[<-e1,e2]
 have c8:Chg bc w w8:=by rw[e];exact Chg.set _ _ _ _
 have hB8:Blk w8 bc 100 (ctV s n (ps.set (2*p) x) f):=by rw[e,<-zmJ (by omega)];exact h.blk.set _ _
 clear e
 have hl8:=zke (s:=s) (n:=n) (f:=f) (ps:=ps.set (2*p) x) (by simpa using hps)
 refine⟨hB8.wr (by omega),Nw.gen λw9 e=>?_⟩
 have c9:Chg bc w8 w9:=by rw[e];exact Chg.set _ _ _ _
 refine hK w9 ⟨h.hi,(c8.trans c9).below h.b0 h.hi,?_,by simpa using hps⟩ (c8.trans c9)
 rw[e,<-zmJ (by simp;omega)]
 exact hB8.set _ _
theorem zp8(h:Ct w0 w bc s 0 ps f)(hN:IsPl w0 s pl)(hmax:pl.length<9223372036854775807)
  (hok:∀n ps' w',Ct w0 w' bc s n ps' f->Fr w.heap.size (λk=>k=bc) w w'->InvT pl 8 n->Z2 pl 8 n ps'->R (.bool true) w')
  (hbad:∀n ps' w',Ct w0 w' bc s n ps' f->Fr w.heap.size (λk=>k=bc) w w'->zcl pl n->R (.bool false) w') :
  cR 103 #[.pointer (some (blk bc))] w R:=by
 refine zc.of (zc6 _ R w ?_) λ_ _ h=>h
 have hlen:=hN.len
 refine zj.ghost (λj (st:Int×Unit) w'=>∃(p n:Nat) (ps':List Int),j=8-p/\p<=8/\st=((p:Int),())/\Ct w0 w' bc s n ps' f/\Fr w.heap.size (λk=>k=bc) w w'/\InvT pl p n/\Z2 pl p n ps') 8
  ⟨0,0,ps,rfl,by omega,rfl,h,Fr.refl _ _ _,InvT.zero pl,λq hq=>by omega⟩ ?_
 rintro _ _ w1 ⟨p,n,ps',rfl,hp8,rfl,hC,hF,hT,hP⟩ next hnext
 refine zg (λhp=>?_) (λhp=>?_)
 ·have hp:p<8:=by dsimp only at hp;omega
  refine zk.cut (λ_ w'=>∃(n':Nat) (ps2:List Int),Ct w0 w' bc s n' ps2 f/\Fr w.heap.size (λk=>k=bc) w w'/\InvT pl (p+1) n'/\Z2 pl (p+1) n' ps2) ?_ ?_
  ·refine hC.at_ ?_
   refine zk.cut (λ_ w'=>∃n',Ct w0 w' bc s n' ps' f/\Fr w.heap.size (λk=>k=bc) w w'/\OutP pl p n n') ?_ ?_
   ·refine zj.ghost (λj _ w'=>∃n',j=pl.length-n'/\Ct w0 w' bc s n' ps' f/\Fr w.heap.size (λk=>k=bc) w w'/\InvP pl p n n') (pl.length-n) ⟨n,rfl,hC,hF,hT.into⟩ ?_
    rintro _ _ w2 ⟨n',rfl,hC2,hF2,hI⟩ next2 hnext2
    have hle:=hI.le
    have outNo:(n'<pl.length->zq (ix pl n')≠p)->OutP pl p n n':=λhno=>
     ⟨hI.lo,hI.le,hI.own,λh1=>hI.out hT h1 hno,λh1=>.inl ⟨hI.one h1,by have:=hI.one h1;subst this;rw[h1]at hno;exact hno⟩⟩
    refine zk.cut (λ_ w'=>Ct w0 w' bc s n' ps' f/\Fr w.heap.size (λk=>k=bc) w w'/\n'<pl.length/\zq (ix pl n')=p) ?_ ?_
    ·have bd:Below w2.heap.size w2 w2.drew:=(Below.refl _ _).drew
     refine Ye (hC2.below bd) hN hI.le λw3 b3=>⟨_,rfl,?_⟩
     have hC3:=hC2.below (bd.on b3)
     have hF3:=hF2.trans ((Fr.of_below (bd.on b3)).mono hF2.size λ_ _ x=>x)
     refine zm (λe=>?_) (λe=>?_)
     ·obtain⟨hlt,hk⟩:=zh5 e (by decide)
      refine hC3.sl (hC3.at_ ?_)
      refine zbV (hC3.mem hN) hlt λt ht=>?_
      refine zjG (x:=mkIn pl[n'] t) ht λw4 b4=>⟨_,rfl,?_⟩
      have hC4:=hC3.below b4
      have hF4:=hF3.trans ((Fr.of_below b4).mono hF3.size λ_ _ x=>x)
      have hpart:zq (piOf (mkIn pl[n'] t) pl[n'].2.2.2)=zq (ix pl n'):=by rw[Zm hlt]
      rw[hpart]
      refine zm (λe2=>?_) (λe2=>?_)
      ·exact⟨hC4,hF4,hlt,by have e2:((zq (ix pl n'):Nat):Int)=(p:Int):=e2;omega⟩
      ·exact⟨n',hC4,hF4,outNo λ_ h=>e2 (by rw[h])⟩
     ·refine⟨n',hC3,hF3,outNo λhlt h=>zgu e hlt ?_⟩
      unfold kdP
      rw[if_pos (by omega)]
    ·rintro _ w5 ⟨hC5,hF5,hlt,hpart⟩
     refine hC5.inc (by omega) λw6 hC6 c6=>?_
     have hF6:=hF5.trans (c6.fr)
     refine zm (λe=>?_) (λe=>?_)
     ·have hp1:p=1:=by dsimp only at e;omega
      have hnn:=hI.one hp1
      subst hnn
      exact⟨n'+1,hC6,hF6,by omega,by omega,λk k1 k2=>by
                                      have:k=n':=by omega
                                      subst this;exact hpart,λh1=>absurd hp1 h1,λ_=>.inr rfl⟩
     ·have hp1:p≠1:=by dsimp only at e;omega
      exact hnext2 (pl.length-(n'+1)) _ _ (by omega) ⟨n'+1,rfl,hC6,hF6,hI.step hT hp hlt hpart hp1⟩
   ·rintro _ w7 ⟨n',hC7,hF7,hO⟩
    have bd:Below w7.heap.size w7 w7.drew:=(Below.refl _ _).drew
    have hC7:=hC7.drew
    have hF7:=hF7.drew
    refine hC7.at_ (hC7.part (by omega) λw9 hC9 c9=>?_)
    have hF9:=hF7.trans c9.fr
    have fin:(p=1->n'≠n)->∃(n'':Nat) (ps2:List Int),Ct w0 w9 bc s n'' ps2 f/\Fr w.heap.size (λk=>k=bc) w w9/\InvT pl (p+1) n''/\Z2 pl (p+1) n'' ps2:=λhne=>
     ⟨n',_,hC9,hF9,hO.go hT hne,hP.step hC.len (by omega) hO.lo hT.low hO.own⟩
    refine zm (λe=>?_) (λe=>?_)
    ·have hp1:p=1:=by dsimp only at e;omega
     refine hC9.at_ (zm (λe2=>?_) (λe2=>fin λ_=>by omega))
     subst hp1
     exact hbad n' _ w9 hC9 hF9 (hO.stop hT (by omega))
    ·exact fin λh1=>absurd (by rw[h1];rfl) e
  ·rintro _ w10 ⟨n',ps2,hC',hF',hT',hP'⟩
   have e:IntKind.u8.wrap ((p:Int)+1)=((p+1:Nat):Int):=by rw[IntKind.wrap_u8];omega
   dsimp only
   rw[e]
   exact hnext (8-(p+1)) _ _ (by omega) ⟨p+1,n',ps2,rfl,by omega,rfl,hC',hF',hT',hP'⟩
 ·have hp:p=8:=by dsimp only at hp;omega
  subst hp
  exact hok n ps' w1 hC hF hT hP
end
end Go.Proofs
namespace Go.Proofs
open Go.Gk Go.RowKit Go.Gm
theorem Chg.frB{b B:Nat}{X:Nat->Prop}{w w':World}(h:Chg b w w')(hB:B<=b):Fr B X w w':=Fr.of_below (h.below (Below.refl _ _) hB)
theorem yU(b:Int×Int×Int):(blV b).length=3:=rfl
theorem zgU{α:Type}(g:α->List Value)(l:List α)(x:α):flat g (l++[x])=flat g l++g x:=by simp[flat]
section
variable {w0 w:World} {bc n:Nat} {s f:Sl} {ps:List Int} {pl:List PI} {R:VWP}
theorem Ct.chg{b:Nat}{w':World}(h:Ct w0 w bc s n ps f)(c:Chg b w w')(hb:w0.heap.size<=b)(hne:b≠bc):Ct w0 w' bc s n ps f:=
 ⟨h.hi,c.below h.b0 hb,c.blk h.blk (λe=>hne e.symm),h.len⟩
theorem zlV{fn:FnL}{tp tb:Sl}{bf:Nat}{ah:Int}{done:List FnL}(h:Ct w0 w bc s n ps f)(hN:IsPl w0 s pl)(h40:40*pl.length<=140737488351232)(hn:n<pl.length)(hkd:kdP (ix pl n)=3)
  (hI:InvF pl n ah) (ha:((ah=54\/ah=55)/\fn.bk=[])\/((249<=ah/\ah<=255)/\fn.bk≠[])) (hbf:Blk w bf 46 (fnV fn tp tb)) (h0f:w0.heap.size<=bf)
  (hO:Own w 42 3 tb (flat blV fn.bk)) (hF0:zA w0.heap.size tb) (hbk:fn.bk.length<=n) (hcut:cutF pl n=done++[fn])
  (hok:∀n' ah' tb' w',n<n'->Ct w0 w' bc s n' ps f->Fr w.heap.size (λk=>k=bc\/k=bf\/tb.a=some (Gk.blk k)) w w'->InvF pl n' ah'->(249<=ah'/\ah'<=255)->Blk w' bf 46 (fnV fn tp tb')->
   Own w' 42 3 tb' (flat blV (fn.bk++[((ix pl n).2.2.1,(n:Int),(n':Int))]))->(∃b',tb'.a=some (Gk.blk b')/\(tb.a=some (Gk.blk b')\/w.heap.size<=b'))->
   cutF pl n'=done++[{fn with bk:=fn.bk++[((ix pl n).2.2.1,(n:Int),(n':Int))]}]->R (.bool true) w')
  (hbad:∀n' w',Ct w0 w' bc s n' ps f->Fr w.heap.size (λk=>k=bc\/k=bf\/tb.a=some (Gk.blk k)) w w'->zcl pl n'->R (.bool false) w') :
  cR 106 #[.pointer (some (blk bc)),.pointer (some (blk bf))] w R:=by
 refine zc.of (zb1 _ _ R w ?_) λ_ _ h=>h
 have hlen:=hN.len
 have hbl:fn.bk.length=tb.l:=by have:=hO.1;rw[ym yU]at this;omega
 have hbcf:bc≠bf:=Blk.apart h.blk hbf (by decide)
 have hbcl:bc<w.heap.size:=h.blk.lt
 have hbfl:bf<w.heap.size:=hbf.lt
 have h0w:=h.b0.size
 generalize hX:(λk=>k=bc\/k=bf\/tb.a=some (Gk.blk k))=X at hok hbad
 have hXc:X bc:=by rw[<-hX];exact .inl rfl
 have bd:Below w.heap.size w w.drew:=(Below.refl _ _).drew
 have hD:=h.drew
 refine hD.sl (hD.at_ (zmN (hD.mem hN) hn λa hc=>hD.at_ ?_))
 refine zl λw1 hB1 b1 z1=>⟨z0 b1 (hD.blk.cell rfl),z0 b1 hc,z0 b1 (hD.blk.cell rfl),z0 b1 (hD.blk.cell0 rfl),?_⟩
 have hB1:Blk w1 w.drew.heap.size 42 [.int .u32 0,.int .i64 0,.int .i64 0]:=hB1
 have hbb:w.drew.heap.size=w.heap.size:=rfl
 generalize w.drew.heap.size=bb at hB1 hbb z1
 subst hbb
 have b01:Below w.heap.size w w1:=bd.on b1
 have hC1:=h.below b01
 have hbf1:=hbf.below b01
 have hO1:=hO.below b01
 refine st3 hB1 rfl λw4 hB4 c4=>?_
 have hC4:=hC1.chg c4 h0w (by omega)
 have hbf4:=c4.blk hbf1 (by omega)
 have hO4:Own w4 42 3 tb (flat blV fn.bk):=hO1.of_block λa ha=>c4.block _ (by have:=(hO.lt ha).2;omega)
 have f4:Fr w.heap.size X w w4:=(Fr.of_below b01).trans (c4.frB (Nat.le_refl _))
 have z4:w4.heap.size=w.heap.size+1:=by rw[c4.size,z1]
 refine hC4.inc (by omega) λw5 hC5 c5=>?_
 obtain⟨F,hL,hFb⟩:∃F,InvB pl (n+1) F 248/\(F=true↔fn.bk=[]):=by
  rcases ha with⟨g1,g2⟩ | ⟨g1,g2⟩
  ·exact⟨_,hI.label (.inl g1) hn hkd,⟨λ_=>g2,λ_=>by rcases g1 with e |e<;>rw[e]<;>rfl⟩⟩
  ·refine⟨_,hI.label (.inr g1) hn hkd,⟨λe=>?_,λe=>absurd e g2⟩⟩
   rw[beq_eq_false_iff_ne.2 (show ah≠54 by omega),beq_eq_false_iff_ne.2 (show ah≠55 by omega)]at e
   cases e
 have hbf5:=c5.blk hbf4 (λe=>hbcf e.symm)
 have hcut1:=zma hcut hkd
 have g5:Fr w4.heap.size (λk=>k=bc) w4 w5:=c5.fr
 refine zk.cut (λ_ w8=>∃n1 ah1,n+1<=n1/\InvB pl n1 F ah1/\(n1<pl.length->F=true->kdP (ix pl n1)≠5)/\(n1<pl.length->F=false->kdP (ix pl n1)≠4)/\cutF pl n1=cutF pl (n+1)/\
   Ct w0 w8 bc s n1 ps f/\Fr w4.heap.size (λk=>k=bc) w4 w8) ?_ ?_
 ·refine ze rfl (hbf5.rS (n:=3) rfl (zm (λe=>?_) (λe=>?_)))
  ·have hF:F=true:=hFb.2 (List.length_eq_zero_iff.1 (by omega))
   subst hF
   refine zeB hC5 hN (by omega) h40 (by decide) λr n1 w6 h1 h2 h3 h4' hC6 f6 _ _=>⟨r,rfl,?_⟩
   obtain⟨ah1,hL1,_⟩:=hL.locals (.inl rfl) h1 h2 h3
   exact⟨n1,ah1,h1,hL1,λhl _=>h4' hl,λ_ h=>(by cases h),zcz h1 λj j1 j2=>.inr (.inr (.inr (.inl (h3 j j1 j2)))),hC6,g5.on f6⟩
  ·have hF:F=false:=by
    cases F
    ·rfl
    ·have:=hFb.1 rfl
     rw[this]at hbl
     exact absurd (by rw[<-hbl];rfl) e
   subst hF
   refine zeB hC5 hN (by omega) h40 (by decide) λr n1 w6 h1 h2 h3 h4' hC6 f6 _ _=>⟨r,rfl,?_⟩
   obtain⟨ah1,hL1,_⟩:=hL.phis (.inl rfl) h1 h2 h3
   exact⟨n1,ah1,h1,hL1,λ_ h=>(by cases h),λhl _=>h4' hl,zcz h1 λj j1 j2=>.inr (.inr (.inl (h3 j j1 j2))),hC6,g5.on f6⟩
 ·rintro _ w8 ⟨n1,ah1,hn1,hL1,hk5,hk4,hcut2,hC8,g8⟩
  have hn1l:=hL1.f.le
  refine zeB hC8 hN hn1l h40 (by decide) λr n2 w9 h1 h2 h3 h4' hC9 f9 _ _=>⟨r,rfl,?_⟩
  obtain⟨ah2,hL2,hor⟩:=hL1.plains h1 h2 h3
  have hcut3:cutF pl n2=cutF pl (n+1):=(zcz h1 λj j1 j2=>.inr (.inl (h3 j j1 j2))).trans hcut2
  have g9:=g8.on f9
  refine Ye hC9 hN h2 λw10 b10=>⟨_,rfl,?_⟩
  have hC10:=hC9.below b10
  have g10:=g9.on (Fr.of_below b10)
  have toX:∀{w':World},Fr w4.heap.size (λk=>k=bc) w4 w'->Fr w.heap.size X w w':=λg=>f4.trans ((g.wide λk e=>by rw[e];exact hXc).mono (by omega) λ_ _ x=>x)
  refine zk.cut (λ_ w14=>∃n3,n+1<=n3/\n3<pl.length/\kdP (ix pl n3)=7/\InvF pl (n3+1) (ix pl n3).1/\(249<=(ix pl n3).1/\(ix pl n3).1<=255)/\cutF pl n3=cutF pl (n+1)/\
    Ct w0 w14 bc s n3 ps f/\Fr w4.heap.size (λk=>k=bc) w4 w14) ?_ ?_
  ·refine zm (λe=>?_) (λe=>?_)
   ·obtain⟨hlt2,hk6⟩:=zh5 e (by decide)
    obtain⟨hM,hop⟩:=hL2.merge hlt2 hk6
    refine hC10.inc (by omega) λw11 hC11 c11=>?_
    have g11:=g10.on c11.fr
    have bd11:Below w11.heap.size w11 w11.drew:=(Below.refl _ _).drew
    refine Ye hC11.drew hN (by omega) λw12 b12=>⟨_,rfl,?_⟩
    have hC12:=hC11.drew.below b12
    have g12:=g11.on (Fr.of_below (bd11.on b12))
    refine zE (λe2=>?_) (λe2=>?_)
    ·exact hbad (n2+1) w12 hC12 (toX g12) (hM.mbad hop λhl hk=>absurd hk (zgu e2 hl))
    ·obtain⟨hlt3,hk7⟩:=zh5 e2 (by decide)
     refine hC12.sl (hC12.at_ ?_)
     have ew:IntKind.i64.wrap (((n2+1:Nat):Int)-1)=(n2:Int):=by rw[zy (by omega) (by omega)];omega
     rw[ew]
     refine zmd (hC12.mem hN) hlt2 (hC12.sl (hC12.at_ (zmd (hC12.mem hN) hlt3 ?_)))
     rw[<-Zm hlt2,<-Zm hlt3]
     refine zoY ⟨_,rfl,zI (zn (λhm=>?_) (λhm=>?_))⟩
     ·obtain⟨q1,q2⟩:=hM.mender hop hlt3 hk7 hm
      refine⟨n2+1,by omega,hlt3,hk7,q1,q2,?_,hC12,g12⟩
      rw[<-hcut3]
      exact zcz (Nat.le_succ n2) λj j1 j2=>by
       have:j=n2:=by omega
       subst this
       exact .inr (.inr (.inr (.inr hk6)))
     ·exact hbad (n2+1) w12 hC12 (toX g12) (hM.mbad hop λ_ _=>hm)
   ·refine zm (λe2=>?_) (λe2=>?_)
    ·obtain⟨hlt2,hk7⟩:=zh5 e2 (by decide)
     obtain⟨q1,q2⟩:=hL2.ender hlt2 hk7
     exact⟨n2,by omega,hlt2,hk7,q1,q2,hcut3,hC10,g10⟩
    ·refine hbad n2 w10 hC10 (toX g10) (hL2.bad (λhl=>⟨h4' hl,zgu e hl,zgu e2 hl⟩) (λhl h4 hF=>?_) (λhl h5 hF=>?_))
     ·rcases hor with e3 |e3
      ·subst e3;exact absurd h4 (hk4 hl hF)
      ·exact⟨e3.1,e3.2.1⟩
     ·rcases hor with e3 |e3
      ·subst e3;exact absurd h5 (hk5 hl hF)
      ·exact⟨e3.1,e3.2.2⟩
  ·rintro _ w14 ⟨n3,hn3,hlt3,hk7,hI3,hop3,hcut4,hC14,g14⟩
   refine hC14.inc (by omega) λw15 hC15 c15=>?_
   have g15:=g14.on c15.fr
   have hB15:Blk w15 w.heap.size 42 [.int .u32 pl[n].2.2.1,.int .i64 (n:Int),.int .i64 0]:=g15.blk hB4 (by omega)
   refine hC15.at_ ⟨hB15.wr (by simp),Nw.gen λw16 e16=>?_⟩
   have c16:Chg w.heap.size w15 w16:=by rw[e16];exact Chg.set _ _ _ _
   have hB16:Blk w16 w.heap.size 42 [.int .u32 pl[n].2.2.1,.int .i64 (n:Int),.int .i64 ((n3+1:Nat):Int)]:=by rw[e16];exact hB15.set 2 _
   clear e16
   have hC16:=hC15.chg c16 h0w (by omega)
   have hbf16:=c16.blk (g15.blk hbf4 (λe=>hbcf e.symm)) (by omega)
   have hO15:=g15.own hO4 λb e e2=>by subst e2;exact zM hO hD.blk (by decide) e
   have hO16:Own w16 42 3 tb (flat blV fn.bk):=hO15.of_block λa ha=>c16.block _ (by have:=(hO.lt ha).2;omega)
   have f16:Fr w.heap.size X w w16:=(toX g15).trans (c16.frB (Nat.le_refl _))
   have bd16:Below w16.heap.size w16 w16.drew:=(Below.refl _ _).drew
   refine ze rfl (hbf16.drew.rS (n:=3) (x:=tb) rfl (hB16.drew.rI (n:=0) rfl (hB16.drew.rI (n:=1) rfl (hB16.drew.rI (n:=2) rfl ?_))))
   refine zl λw17 hB17 b17 z17=>⟨z0 b17 (hbf16.drew.cell rfl),?_⟩
   have hB17:Blk w17 w16.drew.heap.size 42 (blV (pl[n].2.2.1,(n:Int),((n3+1:Nat):Int))):=hB17
   have b167:=bd16.on b17
   have hC17:=hC16.below b167
   have hbf17:=hbf16.below b167
   have hO17:=hO16.below b167
   have f17:Fr w.heap.size X w w17:=f16.trans ((Fr.of_below b167).mono f16.size λ_ _ x=>x)
   refine zeA eBlk hO17 rfl (by simp[Value.oneCell']) hB17 (by omega) (by omega) λr w18 b' hO18 hl18 ha18 hw18 f18=>?_
   have hXb:∀k,tb.a=some (Gk.blk k)->X k:=λk e=>by rw[<-hX];exact .inr (.inr e)
   have f18':Fr w.heap.size X w w18:=f17.trans ((f18.wide hXb).mono f17.size λ_ _ x=>x)
   have hC18:=hC17.fr f18 (λk e=>hF0 _ e) (zM hO hD.blk (by decide))
   have hbf18:=f18.blk hbf17 (zM hO17 hbf17 (by decide))
   refine ze rfl ⟨hbf18.wr (by simp),Nw.gen λw19 e19=>?_⟩
   have c19:Chg bf w18 w19:=by rw[e19];exact Chg.set _ _ _ _
   have hbf19:Blk w19 bf 46 (fnV fn tp r):=by rw[e19];exact hbf18.set 3 _
   clear e19
   have f19:Fr w.heap.size X w w19:=f18'.trans (c19.fr.wide λk e=>by rw[e,<-hX];exact .inr (.inl rfl))
   have hsz17:=f17.size
   refine hok (n3+1) _ r w19 (by omega) (hC18.chg c19 h0f (λe=>hbcf e.symm)) f19 hI3 hop3 hbf19 ?_ ⟨b',ha18,?_⟩ ?_
   ·rw[zgU,Zm hn]
    refine hO18.of_block λa ha=>c19.block _ λe=>?_
    rw[ha18]at ha
    cases ha
    have e:b'=bf:=e
    subst e
    exact zM hO18 hbf18 (by decide) ha18
   ·rcases hw18 with g |g
    ·exact .inl g
    ·exact .inr (by omega)
   ·have:=zlZ (n:=n3) (by rw[hcut4];exact hcut1) hk7
    rw[this]
    rfl
end
end Go.Proofs
namespace Go.Proofs
open Go.Gk Go.RowKit Go.Gm
theorem st5{b:Nat}{T:TypeId}{cs:List Value}{v0 v1 v2 v3 v4:Value}{K:World->Prop}{w:World}(hB:Blk w b T cs)(hl:cs.length=5)(hK:∀w',Blk w' b T [v0,v1,v2,v3,v4]->Chg b w w'->K w') :
  Wr w (blk b)/\Nw (w.setCell (blk b) v0) λw1=>Wr w1 ((blk b).add 1)/\Nw (w1.setCell ((blk b).add 1) v1) λw2=>Wr w2 ((blk b).add 2)/\Nw (w2.setCell ((blk b).add 2) v2) λw3=>Wr w3 ((blk b).add 3)/\Nw (w3.setCell ((blk b).add 3) v3) λw4=>
   Wr w4 ((blk b).add 4)/\Nw (w4.setCell ((blk b).add 4) v4) λw5=>K w5:=
 YQ (vs:=[v0,v1,v2,v3,v4]) hB hl hK
abbrev Fe:=FnL×Sl×Sl
abbrev feV(x:Fe):List Value:=fnV x.1 x.2.1 x.2.2
theorem zcL(x:Fe):(feV x).length=5:=rfl
structure Fns (w:World) (fs:Sl) (L:List Fe):Prop where
 own:Own w 46 5 fs (flat feV L)
 row:∀x∈L,Own w 3 1 x.2.1 (x.1.ps.map (Value.int .i64))/\Own w 42 3 x.2.2 (flat blV x.1.bk)
theorem Fns.nil(w:World):Fns w ⟨none,0,0⟩ []:=⟨Own.nil _ _ _,λx hx=>by cases hx⟩
theorem Fns.len{w:World}{fs:Sl}{L:List Fe}(h:Fns w fs L):L.length=fs.l:=by have:=h.own.1;rw[ym zcL]at this;omega
theorem Fns.below{w w':World}{fs:Sl}{L:List Fe}(h:Fns w fs L)(hb:Below w.heap.size w w'):Fns w' fs L:=
 ⟨h.own.below hb,λx hx=>⟨(h.row x hx).1.below hb,(h.row x hx).2.below hb⟩⟩
theorem Fns.fr{w w':World}{fs:Sl}{L:List Fe}{bc:Nat}{cs:List Value}(h:Fns w fs L)(hf:Fr w.heap.size (λk=>k=bc) w w')(hc:Blk w bc 100 cs):Fns w' fs L:=
 ⟨hf.own h.own λb e e2=>by subst e2;exact zM h.own hc (by decide) e,λx hx=>
  ⟨hf.own (h.row x hx).1 λb e e2=>by subst e2;exact zM (h.row x hx).1 hc (by decide) e,hf.own (h.row x hx).2 λb e e2=>by subst e2;exact zM (h.row x hx).2 hc (by decide) e⟩⟩
theorem zmk(p:PI):0<=kdP p:=by
 unfold kdP
 repeat' split
 all_goals omega
section
variable {w0 w:World} {bc n:Nat} {s f:Sl} {ps:List Int} {pl:List PI} {R:VWP}
theorem zot(h:Ct w0 w bc s 0 ps ⟨none,0,0⟩)(hN:IsPl w0 s pl)(h40:40*pl.length<=140737488351232)
  (hok:∀ps' fs L w',Ct w0 w' bc s pl.length ps' fs->Fr w.heap.size (λk=>k=bc) w w'->ZU pl pl.length->zbS pl=false->Z2 pl 10 pl.length ps'->Fns w' fs L->zA w.heap.size fs->cutF pl pl.length=L.map (·.1)->R (.bool true) w')
  (hbad:∀n ps' fs w',Ct w0 w' bc s n ps' fs->Fr w.heap.size (λk=>k=bc) w w'->zcl pl n->R (.bool false) w') :
  cR 66 #[.pointer (some (blk bc))] w R:=by
 refine zc.of (zc4 _ R w ?_) λ_ _ h=>h
 have hlen:=hN.len
 have hbcl:bc<w.heap.size:=h.blk.lt
 have h0w:=h.b0.size
 refine zp8 h hN (by omega) (λn0 ps1 w1 hC1 f1 hT hP=>⟨_,rfl,zz rfl ?_⟩) (λn1 ps1 w1 hC1 f1 hS=>⟨_,rfl,zH rfl (hbad n1 ps1 _ w1 hC1 f1 hS)⟩)
 have hC1:=hC1.drew
 have f1:=f1.drew
 refine hC1.at_ (hC1.sl (hC1.part (p:=8) (by omega) λw3 hC3 c3=>?_))
 have f3:=(f1.trans (c3.fr)).drew
 have hC3:=hC3.drew
 refine hC3.sl (hC3.sl (hC3.part (p:=9) (by omega) λw5 hC5 c5=>?_))
 have f5:=f3.trans (c5.fr)
 rw[hlen]at hC5
 generalize hps5:((((ps1.set (2*8) (n0:Int)).set (2*8+1) (pl.length:Int)).set (2*9) (pl.length:Int)).set (2*9+1) (pl.length:Int))=ps5 at hC5
 refine zj.ghost (λj _ w'=>∃n fs L,j=pl.length-n/\Ct w0 w' bc s n ps5 fs/\Fr w.heap.size (λk=>k=bc) w w'/\zA w.heap.size fs/\InvO pl n/\Fns w' fs L/\cutF pl n=L.map (·.1)/\(n0<n->zq (ix pl n0)=8)/\n0<=n/\2*L.length<=n)
  (pl.length-n0) ⟨n0,⟨none,0,0⟩,[],rfl,hC5,f5,λa ha=>(by cases ha),hT.fun,Fns.nil _,?_,λh=>by omega,Nat.le_refl _,Nat.zero_le _⟩ ?_
 ·exact(zcz (n:=0) (Nat.zero_le _) λj _ j2=>.inl (by have:=hT.low j j2;omega))
 rintro _ _ w6 ⟨n,fs,L,rfl,hC6,f6,hF6,hO6,hL6,hcut6,h86,hn06,hLn⟩ next hnext
 have hn:=hO6.le
 refine Ye hC6 hN hn λw7 b7=>⟨_,rfl,?_⟩
 have hC7:=hC6.below b7
 have f7:=f6.trans ((Fr.of_below b7).mono f6.size λ_ _ x=>x)
 have hL7:=hL6.below b7
 refine zg (λhlt=>?_) (λhge=>?_)
 ·have e:n=pl.length:=by
   unfold kn at hlt
   split at hlt
   ·have:=zmk (ix pl n);omega
   ·omega
  subst e
  refine hok ps5 fs L w7 hC7 f7 hO6.good (hO6.shut rfl) ?_ hL7 hF6 hcut6
  rw[<-hps5]
  have hl1:=hC1.len
  exact hP.all hl1 hT.le hT.low hO6.good h86
 ·have hltn:n<pl.length:=by
   unfold kn at hge
   split at hge
   ·assumption
   ·omega
  refine Ye hC7 hN hn λw8 b8=>⟨_,rfl,?_⟩
  have hC8:=hC7.below b8
  have f8:=f7.trans ((Fr.of_below b8).mono f7.size λ_ _ x=>x)
  have hL8:=hL7.below b8
  refine zE (λe=>hbad n ps5 fs w8 hC8 f8 (hO6.bad hltn (zgu e hltn))) (λe=>?_)
  obtain⟨_,hk1⟩:=zh5 e (by decide)
  have hp8:=Zk (p:=ix pl n) (by omega)
  have hop1:=(yZ hp8).1.1 hk1
  have bd8:Below w8.heap.size w8 w8.drew:=(Below.refl _ _).drew
  have hD:=hC8.drew
  have s08:=hC8.b0.size
  have sw8:=f8.size
  refine hD.sl (hD.at_ (zmN (hD.mem hN) hltn λa hc=>hD.at_ ?_))
  refine zl λw9 hB9 b9 z9=>⟨z0 b9 (hD.blk.cell rfl),z0 b9 hc,z0 b9 (hD.blk.cell rfl),z0 b9 (hD.blk.cell0 rfl),?_⟩
  have hB9:Blk w9 w8.drew.heap.size 46 [.int .u32 0,.int .i64 0,.slice none 0 0,.slice none 0 0,.int .i64 0]:=hB9
  have hbb:w8.drew.heap.size=w8.heap.size:=rfl
  generalize hbf:w8.drew.heap.size=bf at hB9 hbb z9
  subst hbb
  have b89:=bd8.on b9
  refine st5 hB9 rfl λw14 hB14 c14=>?_
  have hB14:Blk w14 w8.heap.size 46 (fnV ⟨(ix pl n).2.2.1,n,0,[],[]⟩ ⟨none,0,0⟩ ⟨none,0,0⟩):=by rw[Zm hltn];exact hB14
  have hbcf:w8.heap.size≠bc:=by omega
  have hC14:=(hC8.below b89).chg c14 s08 hbcf
  have g14:Fr w8.heap.size (λk=>k=bc) w8 w14:=(Fr.of_below b89).trans (c14.frB (Nat.le_refl _))
  have z14:w14.heap.size=w8.heap.size+1:=by rw[c14.size,z9]
  refine hC14.inc (by omega) λw15 hC15 c15=>?_
  have hI15:=hO6.begin hltn hp8 hop1
  have hcut15:=zos hcut6 hk1
  have g15:=g14.trans c15.fr
  have hB15:=c15.blk hB14 hbcf
  refine zeB hC15 hN (by omega) h40 (by decide) λtp n2 w16 h1 h2 h3 h4 hC16 f16 hOp hFp=>⟨tp,rfl,?_⟩
  obtain⟨ah2,hI2,ha2⟩:=hI15.params (.inl rfl) h1 h2 h3
  have hcut16:=zkK hcut15 h1 h3
  have g16:Fr w8.heap.size (λk=>k=bc) w8 w16:=g15.trans (f16.mono (by rw[c15.size];omega) λ_ _ x=>x)
  have hB16:=f16.blk hB15 hbcf
  have s15:=c15.size
  have s16:=f16.size
  refine⟨hB16.wr (by simp),Nw.gen λw17 e17=>?_⟩
  have c17:Chg w8.heap.size w16 w17:=by rw[e17];exact Chg.set _ _ _ _
  have hB17:Blk w17 w8.heap.size 46 (fnV ⟨(ix pl n).2.2.1,n,0,[],[]⟩ tp ⟨none,0,0⟩):=by rw[e17];exact hB16.set 2 _
  clear e17
  have hC17:=hC16.chg c17 s08 hbcf
  have g17:Fr w8.heap.size (λk=>k=bc) w8 w17:=g16.trans (c17.frB (Nat.le_refl _))
  have hOp17:Own w17 3 1 tp ((zbr (n+1) n2).map (Value.int .i64)):=hOp.of_block λa ha=>c17.block _ (by have:=hFp a ha;omega)
  generalize hpar:zbr (n+1) n2=par at hOp17
  have hcut17:cutF pl n2=L.map (·.1)++[⟨(ix pl n).2.2.1,n,0,par,[]⟩]:=by rw[hcut16,<-hpar];rfl
  refine zj.ghost (λj _ w'=>∃n3 ah bk tb,j=pl.length-n3/\n2<=n3/\Ct w0 w' bc s n3 ps5 fs/\Fr w8.heap.size (λk=>k=bc) w8 w'/\Blk w' w8.heap.size 46 (fnV ⟨(ix pl n).2.2.1,n,0,par,bk⟩ tp tb)/\
    Own w' 3 1 tp (par.map (Value.int .i64))/\Own w' 42 3 tb (flat blV bk)/\zA w8.heap.size tb/\InvF pl n3 ah/\(((ah=54\/ah=55)/\bk=[])\/((249<=ah/\ah<=255)/\bk≠[]))/\
    cutF pl n3=L.map (·.1)++[⟨(ix pl n).2.2.1,n,0,par,bk⟩]/\bk.length<=n3/\(bk=[]->n3<pl.length->kdP (ix pl n3)≠2)) (pl.length-n2)
   ⟨n2,ah2,[],⟨none,0,0⟩,rfl,Nat.le_refl _,hC17,g17,hB17,hOp17,Own.nil _ _ _,λa ha=>(by cases ha),hI2,.inl ⟨ha2,rfl⟩,hcut17,Nat.zero_le _,λ_ hl=>h4 hl⟩ ?_
  rintro _ _ w18 ⟨n3,ah,bk,tb,rfl,hn23,hC18,g18,hB18,hOp18,hOb18,hFb18,hI18,ha18,hcut18,hbk18,hk2⟩ next2 hnext2
  have hn3:=hI18.le
  refine Ye hC18 hN hn3 λw19 b19=>⟨_,rfl,?_⟩
  have hC19:=hC18.below b19
  have g19:=g18.trans ((Fr.of_below b19).mono g18.size λ_ _ x=>x)
  have hB19:=hB18.below b19
  have hOp19:=hOp18.below b19
  have hOb19:=hOb18.below b19
  have toW:∀{w':World},Fr w8.heap.size (λk=>k=bc) w8 w'->Fr w.heap.size (λk=>k=bc) w w':=λg=>f8.trans (g.mono f8.size λ_ _ x=>x)
  have hblen:bk.length=tb.l:=by have:=hOb19.1;rw[ym yU]at this;omega
  refine zm (λe3=>?_) (λe3=>?_)
  ·obtain⟨hlt3,hk3⟩:=zh5 e3 (by decide)
   have back:∀{w':World},Fr w19.heap.size (λk=>k=bc\/k=w8.heap.size\/tb.a=some (Gk.blk k)) w19 w'->Fr w8.heap.size (λk=>k=bc) w8 w':=λg=>
    g19.trans (g.mono g19.size λk hk x=>by
     rcases x with x |x |x
     ·exact x
     ·omega
     ·have:=hFb18 _ x
      exact absurd this (Nat.not_le.2 hk))
   refine zlV (fn:=⟨(ix pl n).2.2.1,n,0,par,bk⟩) (tp:=tp) (tb:=tb) hC19 hN h40 hlt3 hk3 hI18 ha18 hB19 s08 hOb19 (λa ha=>Nat.le_trans s08 (hFb18 a ha)) hbk18 hcut18
    (λn4 ah4 tb4 w20 hn4 hC20 f20 hI4 ha4 hB20 hO20 hb20 hcut20=>⟨_,rfl,zz rfl ?_⟩)
    (λn4 w20 hC20 f20 hS=>⟨_,rfl,zH rfl (hbad n4 ps5 fs w20 hC20 (toW (back f20)) hS)⟩)
   refine hnext2 (pl.length-n4) _ _ (by have:=hI4.le;omega) ⟨n4,ah4,bk++[((ix pl n3).2.2.1,(n3:Int),(n4:Int))],tb4,rfl,by omega,hC20,back f20,hB20,?_,hO20,?_,hI4,.inr ⟨ha4,by simp⟩,hcut20,by simp;omega,λh=>by simp at h⟩
   ·refine f20.own hOp19 λb e x=>?_
    rcases x with x |x |x
    ·subst x;exact zM hOp19 hC19.blk (by decide) e
    ·subst x;exact zM hOp19 hB19 (by decide) e
    ·exact zfA hOp19 hOb19 (by decide) e x
   ·intro a ha
    obtain⟨b',q1,q2⟩:=hb20
    rw[q1]at ha
    cases ha
    show w8.heap.size<=b'
    rcases q2 with q2 |q2
    ·exact hFb18 _ q2
    ·have:=g19.size;omega
  ·refine zk.cut (λ_ w21=>Ct w0 w21 bc s n3 ps5 fs/\Fr w8.heap.size (λk=>k=bc) w8 w21/\Blk w21 w8.heap.size 46 (fnV ⟨(ix pl n).2.2.1,n,0,par,bk⟩ tp tb)/\
    Own w21 3 1 tp (par.map (Value.int .i64))/\Own w21 42 3 tb (flat blV bk)/\n3<pl.length/\kdP (ix pl n3)=8/\(249<=ah/\ah<=255)) ?_ ?_
   ·refine hB19.rS (n:=3) (x:=tb) rfl (zm (λe0=>?_) (λe0=>?_))
    ·have hbk0:bk=[]:=List.length_eq_zero_iff.1 (by omega)
     have ha':ah=54\/ah=55:=by
      rcases ha18 with⟨g,_⟩ | ⟨_,g⟩
      ·exact g
      ·exact absurd hbk0 g
     exact hbad n3 ps5 fs w19 hC19 (toW g19) (hI18.noblock ha' (hk2 hbk0) (zgu e3))
    ·have ha':249<=ah/\ah<=255:=by
      rcases ha18 with⟨_,g⟩ | ⟨g,_⟩
      ·rw[g]at hblen;exact absurd (by rw[<-hblen];rfl) e0
      ·exact g
     refine Ye hC19 hN hn3 λw21 b21=>⟨_,rfl,?_⟩
     refine zE (λe8=>?_) (λe8=>?_)
     ·exact hbad n3 ps5 fs w21 (hC19.below b21) (toW (g19.trans ((Fr.of_below b21).mono g19.size λ_ _ x=>x))) (hI18.noend ha' (zgu e3) (zgu e8))
     ·obtain⟨q1,q2⟩:=zh5 e8 (by decide)
      exact⟨hC19.below b21,g19.trans ((Fr.of_below b21).mono g19.size λ_ _ x=>x),hB19.below b21,hOp19.below b21,hOb19.below b21,q1,q2,ha'⟩
   ·rintro _ w22 ⟨hC22,g22,hB22,hOp22,hOb22,hlt3,hk8,ha'⟩
    have hI23:=hI18.shut ha' hlt3 hk8
    have hcut23:=zor hcut18 hk8
    refine hC22.at_ ⟨hB22.wr (by simp),Nw.gen λw23 e23=>?_⟩
    have c23:Chg w8.heap.size w22 w23:=by rw[e23];exact Chg.set _ _ _ _
    have hB23:Blk w23 w8.heap.size 46 (fnV ⟨(ix pl n).2.2.1,n,n3,par,bk⟩ tp tb):=by rw[e23];exact hB22.set 4 _
    clear e23
    have hC23:=hC22.chg c23 s08 hbcf
    have g23:Fr w8.heap.size (λk=>k=bc) w8 w23:=g22.trans (c23.frB (Nat.le_refl _))
    have hOp23:Own w23 3 1 tp (par.map (Value.int .i64)):=hOp22.of_block λa ha=>c23.block _ λe=>zM hOp22 hB22 (by decide) (by rw[ha,(hOp22.lt ha).1,e])
    have hOb23:Own w23 42 3 tb (flat blV bk):=hOb22.of_block λa ha=>c23.block _ λe=>zM hOb22 hB22 (by decide) (by rw[ha,(hOb22.lt ha).1,e])
    refine hC23.inc (by omega) λw24 hC24 c24=>?_
    have g24:=g23.trans c24.fr
    have hB24:=(c24.blk hB23 hbcf).drew
    have hOp24:=(c24.fr.own hOp23 λb e x=>by subst x;exact zM hOp23 hC23.blk (by decide) e).drew
    have hOb24:=(c24.fr.own hOb23 λb e x=>by subst x;exact zM hOb23 hC23.blk (by decide) e).drew
    have hC24:=hC24.drew
    have g24:=g24.drew
    have hL24:=hL8.fr g24 hC8.blk
    refine ze rfl (hC24.blk.rS (n:=22) (x:=fs) (zop hC24.len) ?_)
    refine hB24.rI (n:=0) rfl (hB24.rI (n:=1) rfl (hB24.rS (n:=2) (x:=tp) rfl (hB24.rS (n:=3) (x:=tb) rfl (hB24.rI (n:=4) rfl ?_))))
    refine zl λw25 hB25 b25 z25=>⟨z0 b25 (hC24.blk.cell (zop hC24.len)),?_⟩
    have hB25:Blk w25 w24.drew.heap.size 46 (fnV ⟨(ix pl n).2.2.1,n,n3,par,bk⟩ tp tb):=hB25
    have hL25:=hL24.below b25
    have hC25:=hC24.below b25
    have hll:=hL25.len
    refine zeA eFun hL25.own rfl (by simp[Value.oneCell']) hB25 (by omega) (by omega) λr w26 b' hO26 hl26 ha26 hw26 f26=>?_
    have hlow:∀k,fs.a=some (Gk.blk k)->w.heap.size<=k:=λk e=>hF6 _ e
    have hC26:=hC25.fr f26 (λk e=>Nat.le_trans h0w (hlow k e)) (zM hL25.own hC25.blk (by decide))
    have t25:=toW (g24.trans ((Fr.of_below b25).mono g24.size λ_ _ x=>x))
    have t26:Fr w.heap.size (λk=>k=bc) w w26:=t25.trans (f26.mono t25.size λk hk x=>absurd (hlow k x) (Nat.not_le.2 hk))
    have rows26:∀x∈L++[((⟨(ix pl n).2.2.1,n,n3,par,bk⟩:FnL),tp,tb)],Own w26 3 1 x.2.1 (x.1.ps.map (Value.int .i64))/\Own w26 42 3 x.2.2 (flat blV x.1.bk):=by
     intro x hx
     have both:Own w25 3 1 x.2.1 (x.1.ps.map (Value.int .i64))/\Own w25 42 3 x.2.2 (flat blV x.1.bk):=by
      rcases List.mem_append.1 hx with hx |hx
      ·exact hL25.row x hx
      ·rw[List.mem_singleton]at hx
       subst hx
       exact⟨hOp24.below b25,hOb24.below b25⟩
     exact⟨f26.own both.1 λb e x=>zfA both.1 hL25.own (by decide) e x,f26.own both.2 λb e x=>zfA both.2 hL25.own (by decide) e x⟩
    have hl23:=zke (s:=s) (n:=n3+1) (f:=fs) hC26.len
    refine ze rfl ⟨hC26.blk.wr (by omega),Nw.gen λw27 e27=>?_⟩
    have c27:Chg bc w26 w27:=by rw[e27];exact Chg.set _ _ _ _
    have hB27:Blk w27 bc 100 (ctV s (n3+1:Nat) ps5 r):=by rw[e27,<-zoq hC26.len];exact hC26.blk.set 22 _
    clear e27
    refine hnext (pl.length-(n3+1)) _ _ (by omega) ⟨n3+1,r,L++[(⟨(ix pl n).2.2.1,n,n3,par,bk⟩,tp,tb)],rfl,⟨hC26.hi,c27.below hC26.b0 hC26.hi,hB27,hC26.len⟩,t26.trans c27.fr,?_,hI23.end,⟨?_,?_⟩,?_,λ_=>?_,by omega,by simp;omega⟩
    ·intro a ha
     rw[ha26]at ha
     cases ha
     show w.heap.size<=b'
     rcases hw26 with g |g
     ·exact hlow _ g
     ·have:=t25.size;omega
    ·rw[zgU]
     refine hO26.of_block λa ha=>c27.block _ λe=>zM hO26 hC26.blk (by decide) (by rw[ha,(hO26.lt ha).1,e])
    ·intro x hx
     obtain⟨q1,q2⟩:=rows26 x hx
     exact⟨c27.fr.own q1 λb e x=>by subst x;exact zM q1 hC26.blk (by decide) e,c27.fr.own q2 λb e x=>by subst x;exact zM q2 hC26.blk (by decide) e⟩
    ·rw[hcut23,List.map_append]
     rfl
    ·by_cases en:n0=n
     ·subst en;exact hp8
     ·exact h86 (by omega)
end
end Go.Proofs
namespace Go.Proofs
open Go.Gk Go.RowKit Go.Gm
theorem zoX{pl:List PI}{n:Nat}(h:mayP pl n=true)(h8:zq (ix pl n)=8):zaj (ix pl n).1 (zZ pl n) (zar pl (n-1))=true:=by
 unfold mayP at h
 by_cases e:ziM pl n=true
 ·rw[if_pos e]at h;cases h
 rw[if_neg e,if_neg (by omega)]at h
 by_cases e2:1<zq (ix pl n)/\mdlP pl n=false
 ·rw[if_pos e2]at h;cases h
 rw[if_neg e2,if_neg (by omega)]at h
 exact h
end Go.Proofs
namespace Go.Proofs
open Go.Gk Go.RowKit Go.Gm
theorem zle{bd:Int}{pl:List PI}(h:(layP bd pl).1=0):(zK bd pl).1=0/\ZU pl pl.length/\zbS pl=false:=by
 unfold layP at h
 by_cases h1:(zK bd pl).1≠0
 ·rw[if_pos h1]at h;exact absurd h h1
 rw[if_neg h1]at h
 refine⟨Classical.not_not.1 h1,?_⟩
 unfold chkP at h
 cases hf:(List.range pl.length).find? (λk=>!mayP pl k) with
 |some k=>rw[hf]at h;cases h
 |none=>
  rw[hf]at h
  refine⟨λk hk=>?_,?_⟩
  ·have:=List.find?_eq_none.1 hf k (List.mem_range.2 hk)
   simpa using this
  ·cases ho:zbS pl
   ·rfl
   ·rw[ho]at h;cases h
structure BkOk (pl:List PI) (n:Nat) (b:Int×Int×Int):Prop where
 ex:∃f t:Nat,b=((ix pl f).2.2.1,(f:Int),(t:Int))/\f+2<=t/\t<=n/\(ix pl f).1=248/\zq (ix pl f)=8/\y8 (ix pl (t-1)).1=true/\zq (ix pl (t-1))=8
theorem BkOk.mono{pl:List PI}{n m:Nat}{b:Int×Int×Int}(h:BkOk pl n b)(hm:n<=m):BkOk pl m b:=by
 obtain⟨f,t,h1,h2,h3,h4⟩:=h.ex
 exact⟨f,t,h1,h2,by omega,h4⟩
structure FnOk (pl:List PI) (n:Nat) (f:FnL):Prop where
 ne:f.bk≠[]
 ok:∀b∈f.bk,BkOk pl n b
 lt:f.bk.Pairwise λa b=>a.2.1<b.2.1
theorem FnOk.mono{pl:List PI}{n m:Nat}{f:FnL}(h:FnOk pl n f)(hm:n<=m):FnOk pl m f:=⟨h.ne,λb hb=>(h.ok b hb).mono hm,h.lt⟩
inductive zk8 (pl:List PI) (n:Nat) (ah:Int):List FnL->Prop
 |out (h:ah=0\/ah=56):zk8 pl n ah []
 |head (f:FnL) (h:ah=54\/ah=55) (hb:f.bk=[]):zk8 pl n ah [f]
 |shut (f:FnL) (h:y8 ah=true) (hf:FnOk pl n f):zk8 pl n ah [f]
 |open_ (f:FnL) (bs:List (Int×Int×Int)) (k:Nat) (h:¬(ah=0\/ah=54\/ah=55\/ah=56\/y8 ah=true)) (hb:f.bk=bs++[((ix pl k).2.2.1,(k:Int),0)])
   (hk:k<n) (h1:(ix pl k).1=248) (h8:zq (ix pl k)=8) (ho:∀b∈bs,BkOk pl n b) (hlt:∀b∈bs,b.2.1<k) (hp:bs.Pairwise λa b=>a.2.1<b.2.1):zk8 pl n ah [f]
def zgI(pl:List PI)(n:Nat):Prop:=∃done last,cutF pl n=done++last/\(∀f∈done,FnOk pl n f)/\zk8 pl n (zZ pl n) last
theorem yy{op:Int}(h:y8 op=true):249<=op/\op<=255:=by unfold y8 at h;exact of_decide_eq_true h
theorem zcc{α:Type}{R:α->α->Prop}{l:List α}{x:α}(h:l.Pairwise R)(hx:∀y∈l,R y x):(l++[x]).Pairwise R:=by
 rw[List.pairwise_append]
 exact⟨h,List.pairwise_singleton _ _,λa ha b hb=>by rw[List.mem_singleton.1 hb];exact hx a ha⟩
theorem BkOk.from_lt{pl:List PI}{n:Nat}{b:Int×Int×Int}(h:BkOk pl n b):b.2.1<(n:Int):=by
 obtain⟨f,t,rfl,h2,h3,_⟩:=h.ex
 show(f:Int)<n
 omega
theorem zgI.step{pl:List PI}{n:Nat}(h:zgI pl n)(hm:mayP pl n=true)(hg:ZU pl n)(hn:n<pl.length):zgI pl (n+1):=by
 obtain⟨done,last,hc,hd,hl⟩:=h
 have hd':∀f∈done,FnOk pl (n+1) f:=λf hf=>(hd f hf).mono (by omega)
 have hc':cutF pl (n+1)=cutS (cutF pl n) n (ix pl n):=rfl
 by_cases h8:zq (ix pl n)=8
 ·have ha':zZ pl (n+1)=(ix pl n).1:=zbf h8
  have ho:=zoX hm h8
  have hne:=zpm h8
  generalize hah:zZ pl n=ah at hl ho
  generalize zar pl (n-1)=fi at ho
  have hcS:∀f,cutF pl n=done++[f]->∀g:FnL->FnL,modL g (cutF pl n)=done++[g f]:=λf e g=>by rw[e,yD]
  unfold zgI
  rw[ha',hc']
  by_cases e54:(ix pl n).1=54
  ·rw[e54]at ho⊢
   have ho:(ah==0||ah==56)=true:=ho
   have hah2:ah=0\/ah=56:=by simpa using ho
   have hlast:last=[]:=by
    cases hl with
    |out h=>rfl
    |head f h hb=>omega
    |shut f h hf=>have:=yy h;omega
    |open_ f bs k h _ _ _ _ _ _ _=>exact absurd (hah2.elim .inl λe=>.inr (.inr (.inr (.inl e)))) h
   subst hlast
   refine⟨done,[⟨(ix pl n).2.2.1,n,0,[],[]⟩],?_,hd',.head _ (.inl rfl) rfl⟩
   unfold cutS
   rw[if_pos e54,hc,List.append_nil]
  by_cases e55:(ix pl n).1=55
  ·rw[e55]at ho⊢
   have ho:(ah==54||ah==55)=true:=ho
   have hah2:ah=54\/ah=55:=by simpa using ho
   obtain⟨f,rfl,hb⟩:∃f,last=[f]/\f.bk=[]:=by
    cases hl with
    |out h=>omega
    |head f h hb=>exact⟨f,rfl,hb⟩
    |shut f h hf=>have:=yy h;omega
    |open_ f bs k h _ _ _ _ _ _ _=>exact absurd (hah2.elim (λe=>.inr (.inl e)) λe=>.inr (.inr (.inl e))) h
   refine⟨done,_,?_,hd',.head {f with ps:=f.ps++[(n:Int)]} (.inr rfl) hb⟩
   unfold cutS
   rw[if_neg e54,if_pos e55,hcS f hc]
  by_cases e248:(ix pl n).1=248
  ·have ho:(ah==54||ah==55||y8 ah)=true:=by rw[e248]at ho;exact ho
   have hin:¬((248:Int)=0\/(248:Int)=54\/(248:Int)=55\/(248:Int)=56\/y8 248=true):=by decide
   obtain⟨f,rfl,hb,hp,hlt⟩:∃f,last=[f]/\(∀b∈f.bk,BkOk pl (n+1) b)/\f.bk.Pairwise (λa b=>a.2.1<b.2.1)/\∀b∈f.bk,b.2.1<(n:Int):=by
    cases hl with
    |out h=>rcases h with rfl |rfl<;>cases ho
    |head f h hb=>exact⟨f,rfl,by rw[hb];exact λ_ h=>(by cases h),by rw[hb];exact List.Pairwise.nil,by rw[hb];exact λ_ h=>(by cases h)⟩
    |shut f h hf=>exact⟨f,rfl,λb hb=>(hf.ok b hb).mono (by omega),hf.lt,λb hb=>(hf.ok b hb).from_lt⟩
    |open_ f bs k h _ _ _ _ _ _ _=>
     refine absurd ?_ h
     rw[Bool.or_eq_true,Bool.or_eq_true,beq_iff_eq,beq_iff_eq]at ho
     rcases ho with(e |e) |e
     ·exact .inr (.inl e)
     ·exact .inr (.inr (.inl e))
     ·exact .inr (.inr (.inr (.inr e)))
   rw[e248]
   refine⟨done,_,?_,hd',.open_ {f with bk:=f.bk++[((ix pl n).2.2.1,(n:Int),0)]} f.bk n hin rfl (by omega) e248 h8 hb hlt hp⟩
   unfold cutS
   rw[if_neg e54,if_neg e55,if_neg (by omega),if_pos e248,hcS f hc]
  by_cases e56:(ix pl n).1=56
  ·have ho:y8 ah=true:=by rw[e56]at ho;exact ho
   obtain⟨f,rfl,hf⟩:∃f,last=[f]/\FnOk pl n f:=by
    cases hl with
    |out h=>have:=yy ho;omega
    |head f h hb=>have:=yy ho;omega
    |shut f h hf=>exact⟨f,rfl,hf⟩
    |open_ f bs k h _ _ _ _ _ _ _=>exact absurd (.inr (.inr (.inr (.inr ho)))) h
   have hf':=hf.mono (Nat.le_succ n)
   refine⟨done++[{f with en:=n}],[],?_,λg hg=>?_,by rw[e56];exact .out (.inr rfl)⟩
   ·unfold cutS
    rw[if_neg e54,if_neg e55,if_pos e56,hcS f hc,List.append_nil]
   ·rcases List.mem_append.1 hg with hg |hg
    ·exact hd' g hg
    ·rw[List.mem_singleton.1 hg]
     exact⟨hf'.ne,hf'.ok,hf'.lt⟩
  have hin:¬(ah=0\/ah=54\/ah=55\/ah=56\/y8 ah=true):=λhin=>by
   unfold zaj at ho
   rw[if_neg e54,if_neg e55,if_neg e248,if_neg e56,if_pos hin]at ho
   cases ho
  obtain⟨f,bs,k,rfl,hb,hk,h1,h8k,hob,hlt,hp⟩:∃f bs k,last=[f]/\f.bk=bs++[((ix pl k).2.2.1,(k:Int),0)]/\k<n/\(ix pl k).1=248/\zq (ix pl k)=8/\(∀b∈bs,BkOk pl n b)/\(∀b∈bs,b.2.1<(k:Int))/\bs.Pairwise (λa b=>a.2.1<b.2.1):=by
   cases hl with
   |out h=>exact absurd (h.elim .inl λe=>.inr (.inr (.inr (.inl e)))) hin
   |head f h hb=>exact absurd (h.elim (λe=>.inr (.inl e)) λe=>.inr (.inr (.inl e))) hin
   |shut f h hf=>exact absurd (.inr (.inr (.inr (.inr h)))) hin
   |open_ f bs k h hb hk h1 h8 ho hlt hp=>exact⟨f,bs,k,rfl,hb,hk,h1,h8,ho,hlt,hp⟩
  by_cases ee:y8 (ix pl n).1=true
  ·refine⟨done,_,?_,hd',.shut {f with bk:=bs++[((ix pl k).2.2.1,(k:Int),((n+1:Nat):Int))]} ee ⟨by simp,λb hb'=>?_,?_⟩⟩
   ·unfold cutS
    rw[if_neg e54,if_neg e55,if_neg e56,if_neg e248,if_pos ee,hcS f hc]
    simp only[hb,yD]
    rfl
   ·rcases List.mem_append.1 hb' with hb' |hb'
    ·exact(hob b hb').mono (by omega)
    ·rw[List.mem_singleton.1 hb']
     exact⟨k,n+1,rfl,by omega,Nat.le_refl _,h1,h8k,by rw[Nat.add_sub_cancel];exact ee,by rw[Nat.add_sub_cancel];exact h8⟩
   ·exact zcc hp λy hy=>hlt y hy
  ·refine⟨done,[f],?_,hd',.open_ f bs k (λg=>?_) hb (by omega) h1 h8k (λb hb'=>(hob b hb').mono (by omega)) hlt hp⟩
   ·unfold cutS
    rw[if_neg e54,if_neg e55,if_neg e56,if_neg e248,if_neg ee,hc]
   ·rcases g with g |g |g |g |g
    ·exact hne g
    ·exact e54 g
    ·exact e55 g
    ·exact e56 g
    ·exact ee g
 ·have ha':zZ pl (n+1)=0:=if_neg h8
  have h0:zZ pl n=0:=by
   cases n with
   |zero=>rfl
   |succ m=>
    refine if_neg λe=>?_
    have:=zhb (pl:=pl) (n:=m+1+1) (hg.step hm) (i:=m) (j:=m+1) (by omega) (by omega)
    have:=zak (ix pl (m+1))
    omega
  have hlast:last=[]:=by
   rw[h0]at hl
   cases hl with
   |out h=>rfl
   |head f h hb=>omega
   |shut f h hf=>have:=yy h;omega
   |open_ f bs k h _ _ _ _ _ _ _=>exact absurd (.inl rfl) h
  subst hlast
  unfold zgI
  rw[ha',hc',ziy (.inl h8),hc]
  exact⟨done,[],rfl,hd',.out (.inl rfl)⟩
theorem zmK{pl:List PI}(hg:ZU pl pl.length):∀n,n<=pl.length->zgI pl n
 | 0,_=>⟨[],[],rfl,λ_ h=>(by cases h),.out (.inl rfl)⟩
 |n+1,h=>(zmK hg n (by omega)).step (hg n (by omega)) (λk hk=>hg k (by omega)) (by omega)
theorem zmb{bd:Int}{pl:List PI}(h:(layP bd pl).1=0):∀f∈cutF pl pl.length,FnOk pl pl.length f:=by
 obtain⟨_,hg,ho⟩:=zle h
 obtain⟨done,last,hc,hd,hl⟩:=zmK hg pl.length (Nat.le_refl _)
 have hah:zZ pl pl.length=0\/zZ pl pl.length=56:=by
  cases hlen:pl.length with
  |zero=>exact .inl rfl
  |succ m=>
   by_cases h8:zq (ix pl m)=8
   ·right
    rw[zbf h8]
    unfold zbS at ho
    rw[hlen,Nat.add_sub_cancel]at ho
    simp only[h8,Bool.or_eq_false_iff]at ho
    have:=ho.2
    simpa using this
   ·exact .inl (if_neg h8)
 have hlast:last=[]:=by
  generalize zZ pl pl.length=ah at hl hah
  cases hl with
  |out h=>rfl
  |head f h hb=>omega
  |shut f h hf=>have:=yy h;omega
  |open_ f bs k h _ _ _ _ _ _ _=>exact absurd (hah.elim .inl λe=>.inr (.inr (.inr (.inl e)))) h
 subst hlast
 rw[hc,List.append_nil]
 exact hd
end Go.Proofs
namespace Go.Proofs
open Go.Gk
set_option linter.unusedVariables false
set_option maxRecDepth 100000
def zbL:Ann:=(.q (.seq none (.q (.cond (.q .nil) .nil)) (.q .nil)))
def zbA(p0:Option Addr)(R:VWP)(w:World):Prop:=ifB (Option.isNone p0) (R (zi 0) w) (za p0 λa1=>ldS w a1 λx2=>R (zi (x2.l:Int)) w)
theorem YE(p0)(R)(w)(h:zbA p0 R w):Calls Tryz.prog 15 #[.pointer p0] w (Ret R):=lwC zbL Tryz.func15 (by kernel_rfl) (by kernel_rfl) h
def YB:Ann:=(.q (.q .nil))
def Y7(p0:Option Addr)(p1:Int)(R:VWP)(w:World):Prop:=dv 40 #[.pointer p0,zi p1] w λx2 w1=>ifB x2 (za p0 λa3=>dv 41 #[.pointer (some (a3.add 4)),zi p1] w1 λx5 w2=>R (.bool x5) w2) (R (.bool false) w1)
theorem ZA(p0)(p1)(R)(w)(h:Y7 p0 p1 R w):Calls Tryz.prog 16 #[.pointer p0,.int .i64 p1] w (Ret R):=lwC YB Tryz.func16 (by kernel_rfl) (by kernel_rfl) h
def za2:Ann:=(.q (.seq none (.q (.cond (.q .nil) .nil)) (.q .nil)))
def zav(p0:Option Addr)(p1:Int)(R:VWP)(w:World):Prop:=dv 40 #[.pointer p0,zi p1] w λx2 w1=>ifB (!x2) (R (.slice none 0 0) w1) (za p0 λa3=>ldS w1 (a3.add 1) λx4=>(0<=p1/\p1<(x4.l:Int))/\za x4.a λa5=>ldS w1 (a5.add p1.toNat) λx6=>dn 42 #[x6.zw] w1 λx8 w2=>R (x8.zw) w2)
theorem Yc(p0)(p1)(R)(w)(h:zav p0 p1 R w):Calls Tryz.prog 17 #[.pointer p0,.int .i64 p1] w (Ret R):=lwC za2 Tryz.func17 (by kernel_rfl) (by kernel_rfl) h
def zio:Ann:=(.q (.seq none (.one (.q (.cond (.q .nil) (.q (.cond (.q .nil) .nil))))) (.seq (some ⟨[0],[(4,(.b .ptr))]⟩) .nil (.seq none (.q (.one (.loop ⟨[0,4,26,27],[(28,(.b (.int .i64)))]⟩ (.q (.seq none .c (.seq none (.one (.q (.q (.q (.one (.loop ⟨[0,4,5,7,26,27,28,33,34],[(35,(.b (.int .i64)))]⟩ (.q (.seq none .c (.seq (some ⟨[0,4,5,7,26,27,28,33,34,35],[]⟩) (.one (.q (.seq (some ⟨[0,4,5,7,9,26,27,28,33,34,35],[]⟩) (.q (.cond (.q .nil) .nil)) (.q (.cond (.q (.q .nil)) .nil))))) .nil))))))))) .nil)))))) (.q (.q .nil))))))
def zfu(p0:Sl)(R:VWP)(w:World):Prop:=ifB ((p0.l:Int)==0) (R (.tuple #[.pointer none,zi 2]) w) (ifB (decide ((p0.l:Int)>4096)) (R (.tuple #[.pointer none,zi 4]) w) (zk (S:=(Option Addr)×Unit) (λm1=>((0<=(p0.l:Int)/\(p0.l:Int)<=(p0.l:Int)/\24*(p0.l:Int)<=281474976710656/\(p0.l:Int)<=9223372036854775807)/\Nw (w.drew.alloc (.cells (madeCells #[.slice none 0 0] (p0.l*1)) 43)) λw1=>(0<=(p0.l:Int)/\(p0.l:Int)<=(p0.l:Int)/\24*(p0.l:Int)<=281474976710656/\(p0.l:Int)<=9223372036854775807)/\Nw (w1.alloc (.cells (madeCells #[.slice none 0 0] (p0.l*1)) 43)) λw2=>Nw (w2.alloc (.cells (List.toArray ([(.slice (some (blk w.drew.heap.size)) p0.l p0.l),(.slice (some (zB w1)) p0.l p0.l),(.slice none 0 0),(.slice none 0 0)]++List.replicate 64 (.int .u64 0))) 118)) λw3=>m1 ((some (zB w2)),()) w3)/\(0<=(p0.l:Int)/\(p0.l:Int)<=(p0.l:Int)/\24*(p0.l:Int)<=281474976710656/\(p0.l:Int)<=9223372036854775807)/\Nw (w.drew.alloc (.cells (madeCells #[.slice none 0 0] (p0.l*1)) 43)) λw4=>(0<=(p0.l:Int)/\(p0.l:Int)<=(p0.l:Int)/\24*(p0.l:Int)<=281474976710656/\(p0.l:Int)<=9223372036854775807)/\Nw (w4.alloc (.cells (madeCells #[.slice none 0 0] (p0.l*1)) 43)) λw5=>Nw (w5.alloc (.cells (List.toArray ([(.slice (some (zB w4)) p0.l p0.l),(.slice (some (blk w.drew.heap.size)) p0.l p0.l),(.slice none 0 0),(.slice none 0 0)]++List.replicate 64 (.int .u64 0))) 118)) λw6=>m1 ((some (zB w5)),()) w6) (λs2 w7=>zj (S:=Int×Unit) (λs3 w8 n4=>ifB (decide (s3.1<(p0.l:Int))) ((0<=s3.1/\s3.1<(p0.l:Int))/\za p0.a λa5=>ldS w8 (a5.add s3.1.toNat) λx6=>Nw (w8.alloc (.cells (List.toArray (List.replicate 64 (.int .u64 0))) 116)) λw9=>zj (S:=Int×Unit) (λs7 w10 n8=>ifB (decide (s7.1<(x6.l:Int))) (zk (S:=Unit) (λm9=>(0<=s7.1/\s7.1<(x6.l:Int))/\za x6.a λa11=>ldI w10 (a11.add s7.1.toNat) .i64 λx12=>zk (S:=Unit) (λm13=>ifB (decide (x12<(0:Int))) (R (.tuple #[.pointer none,zi 141]) w10) (ifB (decide (x12≥(p0.l:Int))) (R (.tuple #[.pointer none,zi 141]) w10) (m13 () w10))) (λs14 w11=>dv 41 #[.pointer (some (zB w8)),zi x12] w11 λx16 w12=>ifB (!x16) (cR 74 #[.pointer (some (zB w8)),zi x12] w12 λv17 w13=>v17=(.tuple #[])/\za s2.1 λa18=>ldS w13.drew a18 λx19=>za s2.1 λa20=>ldS w13.drew a20 λx21=>(0<=s3.1/\s3.1<(x21.l:Int))/\za x21.a λa22=>ldS w13.drew (a22.add s3.1.toNat) λx23=>Nw (w13.drew.alloc (.cells #[zi x12] 3)) λw14=>w14.cell? (a22.add s3.1.toNat)=some (x23.zw)/\w14.cell? a20=some (x21.zw)/\w14.cell? a18=some (x19.zw)/\zC Tryz.prog 43 (x23.zw) (.slice (some (blk w13.drew.heap.size)) 1 1) w14 λr24 w15=>w15.cell? a18=some (x19.zw)/\(0<=s3.1/\s3.1<(x19.l:Int))/\za x19.a λa25=>Wr w15 (a25.add s3.1.toNat)/\Nw (w15.setCell (a25.add s3.1.toNat) (r24.zw)) λw16=>za s2.1 λa26=>ldS w16.drew (a26.add 1) λx27=>za s2.1 λa28=>ldS w16.drew (a28.add 1) λx29=>(0<=x12/\x12<(x29.l:Int))/\za x29.a λa30=>ldS w16.drew (a30.add x12.toNat) λx31=>Nw (w16.drew.alloc (.cells #[zi s3.1] 3)) λw17=>w17.cell? (a30.add x12.toNat)=some (x31.zw)/\w17.cell? (a28.add 1)=some (x29.zw)/\w17.cell? (a26.add 1)=some (x27.zw)/\zC Tryz.prog 43 (x31.zw) (.slice (some (blk w16.drew.heap.size)) 1 1) w17 λr32 w18=>w18.cell? (a26.add 1)=some (x27.zw)/\(0<=x12/\x12<(x27.l:Int))/\za x27.a λa33=>Wr w18 (a33.add x12.toNat)/\Nw (w18.setCell (a33.add x12.toNat) (r32.zw)) λw19=>m9 () w19) (m9 () w12))) (λs10 w20=>n8 ((IntKind.i64.wrap (s7.1+(1:Int))),()) w20)) (n4 ((IntKind.i64.wrap (s3.1+(1:Int))),()) w10)) (0,()) w9) (cR 75 #[.pointer s2.1] w8 λv34 w21=>v34=(.tuple #[])/\R (.tuple #[.pointer s2.1,zi 0]) w21)) (0,()) w7)))
theorem zi6(p0)(R)(w)(h:zfu p0 R w):Calls Tryz.prog 39 #[.slice p0.a p0.l p0.c] w (Ret R):=lwC zio Tryz.func39 (by kernel_rfl) (by kernel_rfl) h
def zcs:Ann:=(.q (.q .nil))
def zcj(p0:Option Addr)(p1:Int)(R:VWP)(w:World):Prop:=ifB (decide (p1≥(0:Int))) (dB 15 #[.pointer p0] w λx2 w1=>R (.bool (decide (p1<x2))) w1) (R (.bool false) w)
theorem zae(p0)(p1)(R)(w)(h:zcj p0 p1 R w):Calls Tryz.prog 40 #[.pointer p0,.int .i64 p1] w (Ret R):=lwC zcs Tryz.func40 (by kernel_rfl) (by kernel_rfl) h
def zcu:Ann:=(.q (.q .nil))
def YI(p0:Option Addr)(p1:Int)(R:VWP)(w:World):Prop:=za p0 λa1=>(0<=(IntKind.i64.wrap (Int.tdiv p1 64))/\(IntKind.i64.wrap (Int.tdiv p1 64))<64)/\ldI w (a1.add (Int.toNat (IntKind.i64.wrap (Int.tdiv p1 64)))) .u64 λx2=>ifB (decide ((Int.tmod p1 64)<0)) (False) (R (.bool ((IntKind.u64.wrap (BitVec.toNat (BitVec.ofInt (IntKind.bits .u64) (Int.fdiv x2 (2 ^ (min (Int.toNat (Int.tmod p1 64)) (IntKind.bits .u64)))) &&& BitVec.ofInt (IntKind.bits .u64) 1):Int))==1)) w)
theorem zef(p0)(p1)(R)(w)(h:YI p0 p1 R w):Calls Tryz.prog 41 #[.pointer p0,.int .i64 p1] w (Ret R):=lwC zcu Tryz.func41 (by kernel_rfl) (by kernel_rfl) h
def ZY:Ann:=(.q (.seq none (.q (.cond (.q .nil) .nil)) (.q .nil)))
def ZV(p0:Sl)(R:VWP)(w:World):Prop:=ifB (Option.isNone p0.a) (R (.slice none 0 0) w) (Nw (w.alloc (.cells #[] 3)) λw1=>zC Tryz.prog 43 (.slice (some (zB w)) 0 0) (p0.zw) w1 λr1 w2=>R (r1.zw) w2)
theorem zaG(p0)(R)(w)(h:ZV p0 R w):Calls Tryz.prog 42 #[.slice p0.a p0.l p0.c] w (Ret R):=lwC ZY Tryz.func42 (by kernel_rfl) (by kernel_rfl) h
def zbc:Ann:=(.q (.seq none (.q (.cond (.q .nil) .nil)) (.q .nil)))
def zaU(p0:Option Addr)(p1:Int)(R:VWP)(w:World):Prop:=dv 40 #[.pointer p0,zi p1] w λx2 w1=>ifB (!x2) (R (.slice none 0 0) w1) (za p0 λa3=>ldS w1 a3 λx4=>(0<=p1/\p1<(x4.l:Int))/\za x4.a λa5=>ldS w1 (a5.add p1.toNat) λx6=>dn 42 #[x6.zw] w1 λx8 w2=>R (x8.zw) w2)
theorem Yz(p0)(p1)(R)(w)(h:zaU p0 p1 R w):Calls Tryz.prog 63 #[.pointer p0,.int .i64 p1] w (Ret R):=lwC zbc Tryz.func63 (by kernel_rfl) (by kernel_rfl) h
def zct:Ann:=.nil
def YH(p0:Option Addr)(p1:Int)(R:VWP)(w:World):Prop:=za p0 λa1=>(0<=(IntKind.i64.wrap (Int.tdiv p1 64))/\(IntKind.i64.wrap (Int.tdiv p1 64))<64)/\ldI w.drew (a1.add (Int.toNat (IntKind.i64.wrap (Int.tdiv p1 64)))) .u64 λx2=>ifB (decide ((Int.tmod p1 64)<0)) (False) (za p0 λa3=>(0<=(IntKind.i64.wrap (Int.tdiv p1 64))/\(IntKind.i64.wrap (Int.tdiv p1 64))<64)/\Wr w.drew (a3.add (Int.toNat (IntKind.i64.wrap (Int.tdiv p1 64))))/\Nw (w.drew.setCell (a3.add (Int.toNat (IntKind.i64.wrap (Int.tdiv p1 64)))) (.int .u64 (IntKind.u64.wrap (BitVec.toNat (BitVec.ofInt (IntKind.bits .u64) x2 ||| BitVec.ofInt (IntKind.bits .u64) (IntKind.u64.wrap ((1:Int)*2 ^ (min (Int.toNat (Int.tmod p1 64)) (IntKind.bits .u64))))):Int)))) λw1=>R (.tuple #[]) w1)
theorem zee(p0)(p1)(R)(w)(h:YH p0 p1 R w):Calls Tryz.prog 74 #[.pointer p0,.int .i64 p1] w (Ret R):=lwC zct Tryz.func74 (by kernel_rfl) (by kernel_rfl) h
def YZ:Ann:=(.q (.q (.q (.q .nil))))
def YT(p0:Option Addr)(R:VWP)(w:World):Prop:=Nw (w.alloc (.cells #[.pointer p0] 51)) λw1=>Nw (w1.alloc (.cells #[.nilFunc] 147)) λw2=>Wr w2 (zB w1)/\Nw (w2.setCell (zB w1) (.func (.func 111) #[] #[.pointer (some (zB w)),.pointer (some (zB w1))])) λw3=>ldR w3 (zB w1) λx1=>Zv Tryz.prog Tryz.fs x1 [(zi 0)] w3 λv2 w4=>v2=(.tuple #[])/\ldP w4 (zB w) λx3=>za x3 λa4=>ldS w4 (a4.add 3) λx5=>cR 112 #[x5.zw] w4 λv6 w5=>v6=(.tuple #[])/\R (.tuple #[]) w5
theorem zbX(p0)(R)(w)(h:YT p0 R w):Calls Tryz.prog 75 #[.pointer p0] w (Ret R):=lwC YZ Tryz.func75 (by kernel_rfl) (by kernel_rfl) h
def za3:Ann:=(.q (.seq none (.q (.cond (.q .nil) .nil)) (.q .nil)))
def zaw(p0:Option Addr)(R:VWP)(w:World):Prop:=ifB (Option.isNone p0) (R (.slice none 0 0) w) (za p0 λa1=>ldS w (a1.add 3) λx2=>dn 42 #[x2.zw] w λx4 w1=>R (x4.zw) w1)
theorem zc3(p0)(R)(w)(h:zaw p0 R w):Calls Tryz.prog 94 #[.pointer p0] w (Ret R):=lwC za3 Tryz.func94 (by kernel_rfl) (by kernel_rfl) h
def Ys:Ann:=(.q (.q (.seq none (.q (.one (.loop ⟨[0,1,2,27,28],[(29,(.b (.int .i64)))]⟩ (.q (.seq none .c (.seq (some ⟨[0,1,2,27,28,29],[]⟩) (.one (.q (.q .c))) .nil)))))) .nil)))
def Ym(p0:Int)(c0:Addr)(c1:Addr)(R:VWP)(w:World):Prop:=ldP w c0 λx1=>za x1 λa2=>cR 74 #[.pointer (some (a2.add 4)),zi p0] w λv3 w1=>v3=(.tuple #[])/\ldP w1.drew c0 λx4=>ldP w1.drew c0 λx5=>za x5 λa6=>ldS w1.drew (a6.add 2) λx7=>Nw (w1.drew.alloc (.cells #[zi p0] 3)) λw2=>w2.cell? (a6.add 2)=some (x7.zw)/\w2.cell? c0=some (.pointer x5)/\w2.cell? c0=some (.pointer x4)/\zC Tryz.prog 43 (x7.zw) (.slice (some (blk w1.drew.heap.size)) 1 1) w2 λr8 w3=>w3.cell? c0=some (.pointer x4)/\za x4 λa9=>Wr w3 (a9.add 2)/\Nw (w3.setCell (a9.add 2) (r8.zw)) λw4=>ldP w4 c0 λx10=>za x10 λa11=>ldS w4 a11 λx12=>(0<=p0/\p0<(x12.l:Int))/\za x12.a λa13=>ldS w4 (a13.add p0.toNat) λx14=>zj (S:=Int×Unit) (λs15 w5 n16=>ifB (decide (s15.1<(x14.l:Int))) (zk (S:=Unit) (λm17=>(0<=s15.1/\s15.1<(x14.l:Int))/\za x14.a λa19=>ldI w5 (a19.add s15.1.toNat) .i64 λx20=>ldP w5 c0 λx21=>za x21 λa22=>dv 41 #[.pointer (some (a22.add 4)),zi x20] w5 λx24 w6=>ifB (!x24) (ldR w6 c1 λx25=>Zv Tryz.prog Tryz.fs x25 [(zi x20)] w6 λv26 w7=>v26=(.tuple #[])/\m17 () w7) (m17 () w6)) (λs18 w8=>n16 ((IntKind.i64.wrap (s15.1+(1:Int))),()) w8)) (ldP w5.drew c0 λx27=>ldP w5.drew c0 λx28=>za x28 λa29=>ldS w5.drew (a29.add 3) λx30=>Nw (w5.drew.alloc (.cells #[zi p0] 3)) λw9=>w9.cell? (a29.add 3)=some (x30.zw)/\w9.cell? c0=some (.pointer x28)/\w9.cell? c0=some (.pointer x27)/\zC Tryz.prog 43 (x30.zw) (.slice (some (blk w5.drew.heap.size)) 1 1) w9 λr31 w10=>w10.cell? c0=some (.pointer x27)/\za x27 λa32=>Wr w10 (a32.add 3)/\Nw (w10.setCell (a32.add 3) (r31.zw)) λw11=>R (.tuple #[]) w11)) (0,()) w4
theorem zbl(p0)(c0)(c1)(R)(w)(h:Ym p0 c0 c1 R w):Calls Tryz.prog 111 #[.int .i64 p0,.pointer (some c0),.pointer (some c1)] w (Ret R):=lwC Ys Tryz.func111 (by kernel_rfl) (by kernel_rfl) h
def Z9:Ann:=(.q (.one (.loop ⟨[0],[(2,(.b (.int .i64))),(3,(.b (.int .i64)))]⟩ (.seq none (.q .c) (.seq none (.one .nil) .nil)))))
def yJ(p0:Sl)(R:VWP)(w:World):Prop:=zj (S:=Int×Int×Unit) (λs1 w1 n2=>ifB (decide (s1.1<s1.2.1)) ((0<=s1.2.1/\s1.2.1<(p0.l:Int))/\za p0.a λa3=>ldI w1.drew (a3.add s1.2.1.toNat) .i64 λx4=>(0<=s1.1/\s1.1<(p0.l:Int))/\za p0.a λa5=>ldI w1.drew (a5.add s1.1.toNat) .i64 λx6=>(0<=s1.1/\s1.1<(p0.l:Int))/\za p0.a λa7=>Wr w1.drew (a7.add s1.1.toNat)/\Nw (w1.drew.setCell (a7.add s1.1.toNat) (zi x4)) λw2=>(0<=s1.2.1/\s1.2.1<(p0.l:Int))/\za p0.a λa8=>Wr w2 (a8.add s1.2.1.toNat)/\Nw (w2.setCell (a8.add s1.2.1.toNat) (zi x6)) λw3=>n2 ((IntKind.i64.wrap (s1.1+(1:Int))),(IntKind.i64.wrap (s1.2.1-(1:Int))),()) w3) (R (.tuple #[]) w1)) (0,(IntKind.i64.wrap ((p0.l:Int)-1)),()) w
theorem zan(p0)(R)(w)(h:yJ p0 R w):Calls Tryz.prog 112 #[.slice p0.a p0.l p0.c] w (Ret R):=lwC Z9 Tryz.func112 (by kernel_rfl) (by kernel_rfl) h
end Go.Proofs
namespace Go.Gr
def zbP(acc:List Nat)(x:Nat):List Nat:=if acc.contains x then acc else acc++[x]
def za9(l:List Nat):List Nat:=l.foldl zbP []
def zD(nx:List (List Nat)):List (List Nat):=(List.range nx.length).map λj=>(List.range nx.length).filter λi=>(nx.getD i []).contains j
def yo(nx:List (List Nat)):Nat->Nat->List Nat×List Nat->List Nat×List Nat
 | 0,_,s=>s
 |f+1,i,s=>let r:=(nx.getD i []).foldl (λs t=>if s.1.contains t then s else yo nx f t s) (s.1++[i],s.2);(r.1,r.2++[i])
def zG(nx:List (List Nat))(f:Nat)(l:List Nat)(s:List Nat×List Nat):List Nat×List Nat:=l.foldl (λs t=>if s.1.contains t then s else yo nx f t s) s
theorem zbw(nx:List (List Nat))(f i:Nat)(s:List Nat×List Nat) :
  yo nx (f+1) i s=((zG nx f (nx.getD i []) (s.1++[i],s.2)).1,(zG nx f (nx.getD i []) (s.1++[i],s.2)).2++[i]):=rfl
theorem zji(nx:List (List Nat))(f:Nat)(l:List Nat)(t:Nat)(s:List Nat×List Nat) :
  zG nx f (l++[t]) s=if (zG nx f l s).1.contains t then zG nx f l s else yo nx f t (zG nx f l s):=by
 simp[zG,List.foldl_append]
def yG(nx:List (List Nat)):List Nat:=(yo nx nx.length 0 ([],[])).1
def zv(nx:List (List Nat)):List Nat:=(yo nx nx.length 0 ([],[])).2.reverse
structure Came (n:Nat) (s s':List Nat×List Nat):Prop where
 nodup:s'.1.Nodup
 lt:∀x∈s'.1,x<n
 more:∃l,s'.1=s.1++l
theorem zcY{nx:List (List Nat)}(hnx:∀i,∀t∈nx.getD i [],t<nx.length):∀(f i:Nat) (s:List Nat×List Nat),i<nx.length->s.1.Nodup->(∀x∈s.1,x<nx.length)->i ∉ s.1->
  Came nx.length s (yo nx f i s):=by
 intro f
 induction f with
 |zero=>intro i s _ h1 h2 _;exact⟨h1,h2,[],by simp[yo]⟩
 |succ f ih=>
  intro i s hi h1 h2 h3
  have base:Came nx.length s (s.1++[i],s.2):=⟨by
    rw[List.nodup_append]
    exact⟨h1,by simp,λx hx y hy=>by simp at hy;subst hy;intro e;subst e;exact h3 hx⟩,λx hx=>by
    simp at hx
    rcases hx with hx |rfl
    ·exact h2 x hx
    ·exact hi,[i],rfl⟩
  have all:∀(l:List Nat) (s':List Nat×List Nat),(∀t∈l,t<nx.length)->Came nx.length s s'->Came nx.length s (zG nx f l s'):=by
   intro l
   induction l with
   |nil=>intro s' _ h;exact h
   |cons t r ihl=>
    intro s' hl h
    show Came nx.length s (zG nx f r (if s'.1.contains t then s' else yo nx f t s'))
    refine ihl _ (λx hx=>hl x (List.mem_cons_of_mem _ hx)) ?_
    split
    ·exact h
    ·rename_i hc
     have hv:=ih t s' (hl t (List.mem_cons_self ..)) h.nodup h.lt (by simpa using hc)
     obtain⟨l1,e1⟩:=h.more
     obtain⟨l2,e2⟩:=hv.more
     exact⟨hv.nodup,hv.lt,l1++l2,by rw[e2,e1,List.append_assoc]⟩
  rw[zbw]
  have:=all (nx.getD i []) _ (hnx i) base
  exact⟨this.nodup,this.lt,this.more⟩
theorem ZJ:∀{n:Nat} {l:List Nat},l.Nodup->(∀x∈l,x<n)->l.length<=n
 | 0,l,_,hl=>by
  cases l with
  |nil=>simp
  |cons x r=>exact absurd (hl x (List.mem_cons_self ..)) (by omega)
 |n+1,l,h,hl=>by
  by_cases hn:n∈l
  ·have h1:=ZJ (n:=n) (l:=l.erase n) (h.erase n) (λx hx=>by
    have h2:=(h.mem_erase_iff).1 hx
    have:=hl x h2.2
    omega)
   rw[List.length_erase_of_mem hn]at h1
   omega
  ·have:=ZJ (n:=n) (l:=l) h (λx hx=>by
    have h1:=hl x hx
    have h2:x≠n:=λe=>hn (e▸hx)
    omega)
   omega
theorem zc9{n i:Nat}{l:List Nat}(h:l.Nodup)(hl:∀x∈l,x<n)(hi:i<n)(hni:i ∉ l):l.length<n:=by
 have:(l++[i]).length<=n:=ZJ (by
  rw[List.nodup_append]
  exact⟨h,by simp,λx hx y hy=>by simp at hy;subst hy;intro e;subst e;exact hni hx⟩) (λx hx=>by
  simp at hx
  rcases hx with hx |rfl
  ·exact hl x hx
  ·exact hi)
 simp at this
 omega
def nxP(rows:List (List Nat))(i k:Nat):List (List Nat):=(List.range rows.length).map λj=>if j<i then za9 (rows.getD j []) else if j=i then za9 ((rows.getD j []).take k) else []
theorem zf9(rows:List (List Nat))(i k:Nat):(nxP rows i k).length=rows.length:=by simp[nxP]
theorem zcA{rows:List (List Nat)}{i k j:Nat}(hj:j<rows.length):(nxP rows i k).getD j []=if j<i then za9 (rows.getD j []) else if j=i then za9 ((rows.getD j []).take k) else []:=by
 simp[nxP,List.getD,hj]
theorem zpk(rows:List (List Nat)):nxP rows 0 0=List.replicate rows.length []:=by
 apply List.ext_getElem
 ·simp[nxP]
 ·intro j h1 h2
  simp only[nxP,List.getElem_map,List.getElem_range,List.getElem_replicate,List.take_zero]
  split
  ·omega
  ·split<;>rfl
theorem zph(rows:List (List Nat))(i:Nat):nxP rows i (rows.getD i []).length=nxP rows (i+1) 0:=by
 apply List.ext_getElem
 ·simp[nxP]
 ·intro j h1 h2
  simp only[nxP,List.getElem_map,List.getElem_range,List.take_zero]
  by_cases h:j<i
  ·rw[if_pos h,if_pos (by omega)]
  ·rw[if_neg h]
   by_cases h':j=i
   ·subst h';rw[if_pos rfl,if_pos (by omega),List.take_length]
   ·rw[if_neg h',if_neg (by omega)];split<;>rfl
theorem zqj(rows:List (List Nat)):nxP rows rows.length 0=rows.map za9:=by
 apply List.ext_getElem
 ·simp[nxP]
 ·intro j h1 h2
  have hj:j<rows.length:=by simpa using h2
  simp only[nxP,List.getElem_map,List.getElem_range,if_pos hj]
  simp[List.getD,hj]
theorem ziz(l:List Nat)(x:Nat):za9 (l++[x])=zbP (za9 l) x:=by simp[za9,List.foldl_append]
theorem zpj{rows:List (List Nat)}{i k:Nat}(hi:i<rows.length)(hk:k<(rows.getD i []).length)(h:((nxP rows i k).getD i []).contains ((rows.getD i [])[k])=true):nxP rows i (k+1)=nxP rows i k:=by
 apply List.ext_getElem
 ·simp[nxP]
 ·intro j h1 h2
  simp only[nxP,List.getElem_map,List.getElem_range]
  by_cases hji:j<i
  ·rw[if_pos hji,if_pos hji]
  ·rw[if_neg hji,if_neg hji]
   by_cases h':j=i
   ·subst h'
    rw[if_pos rfl,if_pos rfl,List.take_succ_eq_append_getElem hk,ziz]
    rw[zcA hi,if_neg (by omega),if_pos rfl]at h
    unfold zbP
    rw[if_pos h]
   ·rw[if_neg h',if_neg h']
theorem zpi{rows:List (List Nat)}{i k:Nat}(hi:i<rows.length)(hk:k<(rows.getD i []).length)(h:((nxP rows i k).getD i []).contains ((rows.getD i [])[k])=false) :
  nxP rows i (k+1)=(nxP rows i k).set i ((nxP rows i k).getD i []++[(rows.getD i [])[k]]):=by
 apply List.ext_getElem
 ·simp[nxP]
 ·intro j h1 h2
  by_cases h':j=i
  ·subst h'
   rw[List.getElem_set_self,zcA hi]
   rw[zcA hi,if_neg (by omega),if_pos rfl]at h
   rw[if_neg (by omega),if_pos rfl]
   simp only[nxP,List.getElem_map,List.getElem_range]
   rw[if_neg (by omega),if_pos trivial,List.take_succ_eq_append_getElem hk,ziz]
   unfold zbP
   rw[if_neg (by rw[h];simp)]
  ·rw[List.getElem_set_ne (by omega)]
   simp only[nxP,List.getElem_map,List.getElem_range]
   rw[if_neg h',if_neg h']
theorem Z3(nx:List (List Nat)):(zD nx).length=nx.length:=by simp[zD]
theorem zfx{nx:List (List Nat)}{j:Nat}(hj:j<nx.length):(zD nx).getD j []=(List.range nx.length).filter λi=>(nx.getD i []).contains j:=by
 simp[zD,List.getD,hj]
theorem zlT{nx:List (List Nat)}{i x:Nat}(hi:i<nx.length)(hx:x<nx.length)(hni:(nx.getD i []).contains x=false)(hgt:∀j,i<j->nx.getD j []=[]) :
  zD (nx.set i (nx.getD i []++[x]))=(zD nx).set x ((zD nx).getD x []++[i]):=by
 have hget:∀a,(nx.set i (nx.getD i []++[x])).getD a []=if a=i then nx.getD i []++[x] else nx.getD a []:=by
  intro a
  by_cases h:a=i
  ·subst h;rw[if_pos rfl];simp[List.getD,hi]
  ·rw[if_neg h];simp only[List.getD];rw[List.getElem?_set_ne (by omega)]
 apply List.ext_getElem
 ·simp[zD]
 ·intro j h1 h2
  have hj:j<nx.length:=by simpa[zD] using h1
  by_cases h:j=x
  ·subst h
   rw[List.getElem_set_self,zfx hj]
   simp only[zD,List.getElem_map,List.getElem_range,List.length_set]
   have e1:List.range nx.length=List.range i++i::(List.range (nx.length-i-1)).map (·+(i+1)):=by
    apply List.ext_getElem
    ·simp;omega
    ·intro a g1 g2
     rw[List.getElem_range]
     rcases Nat.lt_trichotomy a i with g |g |g
     ·rw[List.getElem_append_left (by simpa using g)];simp
     ·subst g;rw[List.getElem_append_right (by simp)];simp
     ·rw[List.getElem_append_right (by simp;omega),List.getElem_cons]
      simp only[List.length_range]
      rw[dif_neg (by omega)]
      simp;omega
   rw[e1,List.filter_append,List.filter_append,List.filter_cons,List.filter_cons,hget i,if_pos rfl,hni]
   have e2:∀(p:Nat->Bool),(∀a,i<a->p a=false)->((List.range (nx.length-i-1)).map (·+(i+1))).filter p=[]:=by
    intro p hp
    rw[List.filter_eq_nil_iff]
    intro a ha
    simp only[List.mem_map]at ha
    obtain⟨b,_,rfl⟩:=ha
    rw[hp _ (by omega)]
    simp
   rw[e2 _ (λa ha=>by rw[hget a,if_neg (by omega),hgt a ha];rfl),e2 _ (λa ha=>by rw[hgt a ha];rfl)]
   have e3:(List.range i).filter (λa=>((nx.set i (nx.getD i []++[j])).getD a []).contains j)=(List.range i).filter (λa=>(nx.getD a []).contains j):=by
    apply List.filter_congr
    intro a ha
    have:=List.mem_range.1 ha
    rw[hget a,if_neg (by omega)]
   rw[e3]
   simp
  ·rw[List.getElem_set_ne (by omega)]
   simp only[zD,List.getElem_map,List.getElem_range,List.length_set]
   apply List.filter_congr
   intro a _
   rw[hget a]
   split
   ·rename_i g;subst g
    rw[Bool.eq_iff_iff]
    simp[h]
   ·rfl
theorem zhk{l:List Nat}{x:Nat}:x∈za9 l↔x∈l:=by
 have:∀(l acc:List Nat),x∈l.foldl zbP acc↔x∈acc\/x∈l:=by
  intro l
  induction l with
  |nil=>simp
  |cons y r ih=>
   intro acc
   rw[List.foldl_cons,ih]
   unfold zbP
   split
   ·rename_i h
    have h:y∈acc:=by simpa using h
    constructor
    ·rintro(h1 |h1)
     ·exact .inl h1
     ·exact .inr (List.mem_cons_of_mem _ h1)
    ·rintro(h1 |h1)
     ·exact .inl h1
     ·cases h1 with
      |head=>exact .inl h
      |tail _ h1=>exact .inr h1
   ·simp[or_assoc]
 unfold za9
 simpa using this l []
theorem zh1(l:List Nat):(za9 l).Nodup:=by
 have:∀(l acc:List Nat),acc.Nodup->(l.foldl zbP acc).Nodup:=by
  intro l
  induction l with
  |nil=>exact λ_ h=>h
  |cons y r ih=>
   intro acc h
   rw[List.foldl_cons]
   refine ih _ ?_
   unfold zbP
   split
   ·exact h
   ·rename_i hc
    rw[List.nodup_append]
    refine⟨h,by simp,λa ha b hb=>?_⟩
    simp at hb
    subst hb
    intro e
    subst e
    exact hc (by simpa using ha)
 exact this l [] List.nodup_nil
theorem zou{n:Nat}{l:List Nat}(h:∀x∈l,x<n):(za9 l).length<=n:=ZJ (zh1 l) λx hx=>h x (zhk.1 hx)
theorem ziq(nx:List (List Nat))(j:Nat):((zD nx).getD j []).length<=nx.length:=by
 by_cases hj:j<nx.length
 ·rw[zfx hj]
  have:=List.length_filter_le (λi=>(nx.getD i []).contains j) (List.range nx.length)
  simpa using this
 ·simp[List.getD,Z3,hj]
theorem zjR(nx:List (List Nat)):∀(f i:Nat) (s:List Nat×List Nat),(yo nx f i s).1.length+s.2.length=s.1.length+(yo nx f i s).2.length:=by
 intro f
 induction f with
 |zero=>intro i s;rfl
 |succ f ih=>
  intro i s
  have all:∀(l:List Nat) (s:List Nat×List Nat),(zG nx f l s).1.length+s.2.length=s.1.length+(zG nx f l s).2.length:=by
   intro l
   induction l with
   |nil=>intro s;rfl
   |cons t r ihl=>
    intro s
    have h1:=ihl (if s.1.contains t then s else yo nx f t s)
    have h2:zG nx f (t::r) s=zG nx f r (if s.1.contains t then s else yo nx f t s):=rfl
    rw[h2]
    split at h1<;>split
    ·exact h1
    ·rename_i a b;exact absurd a b
    ·rename_i a b;exact absurd b a
    ·have:=ih t s;omega
  have:=all (nx.getD i []) (s.1++[i],s.2)
  rw[zbw]
  simp only[List.length_append,List.length_cons,List.length_nil]at this⊢
  omega
end Go.Gr
namespace Go.Proofs
open Go.Gk Go.RowKit
theorem zft{α:Type}{f:α->Value}{s:Sl}{l:List α}{w:World}{R:VWP}(hf:∀x,(f x).oneCell'=true)(h:IsS f w s l)(hl:l.length*8<=140737488355328)
  (hR:∀r w',Own w' 3 1 r (l.map f)->zA w.heap.size r->Below w.heap.size w w'->R (.slice r.a r.l r.c) w') :
  cR 42 #[.slice s.a s.l s.c] w R:=by
 refine zc.of (zaG s R w ?_) λ_ _ h=>h
 refine zn (λhn=>?_) (λhn=>?_)
 ·have hn:s.a=none:=by simpa using hn
  have hc:=h.nil hn
  have:l=[]:=List.eq_nil_of_length_eq_zero (by have:=h.len;have:=h.cap;omega)
  subst this
  exact hR ⟨none,0,0⟩ w (Own.nil _ _ _) (λa ha=>by cases ha) (Below.refl _ _)
 ·obtain⟨a,ha⟩:∃a,s.a=some a:=by
   cases hs:s.a with
   |none=>rw[hs]at hn;cases hn
   |some a=>exact⟨a,rfl⟩
  refine Nw.gen λw1 hw1=>?_
  have hB:Blk w1 w.heap.size 3 []:=by rw[hw1];exact Blk.new w 3 #[]
  have hb1:Below w.heap.size w w1:=by rw[hw1];exact(Below.refl _ _).alloc (Nat.le_refl _) _
  have hO:Own w1 3 1 ⟨some (blk w.heap.size),0,0⟩ []:=⟨rfl,.inr ⟨_,[],rfl,hB,Nat.le_refl _,by simp,rfl,rfl⟩⟩
  have h':=h.below hb1
  dsimp only[zB,Go.Gk.Sl.zw,zi,zu,zb,zh];rw[ha,h.len]
  refine ZO eInt hO (m:=l.length) (news:=l.map f) (by simp) (λj u hj=>?_) (λu hu=>?_) (by have:=h.bound;simp;omega) (by simpa using hl) λr w' h1 _ h3=>?_
  ·rw[List.getElem?_map]at hj
   obtain⟨x,hx,rfl⟩:=Option.map_eq_some_iff.1 hj
   obtain⟨hlt,rfl⟩:=List.getElem?_eq_some_iff.1 hx
   exact h'.cell a ha j hlt
  ·obtain⟨x,_,rfl⟩:=List.mem_map.1 hu
   exact hf x
  ·rcases h3 with⟨_,rfl,rfl⟩ | ⟨b,h4,h5,h6⟩
   ·exact hR _ _ h1 (λa ha=>by cases ha;exact Nat.le_refl _) hb1
   ·have hbb:w.heap.size<=b:=by
     rcases h5 with h5 |h5
     ·cases h5;exact Nat.le_refl _
     ·have:=hb1.size;omega
    refine hR _ _ h1 (λa ha=>by rw[h4]at ha;cases ha;exact hbb) (hb1.trans (yC h6 hbb hb1.size))
end Go.Proofs
namespace Go.Proofs
open Go.Gk Go.RowKit
def Bits(w:World)(a:Addr)(S:Nat->Bool):Prop:=
 a.spot=none/\∀j,j<64->∃x:Nat,x<2 ^ 64/\w.cell? (a.add j)=some (.int .u64 x)/\w.frozen? (a.add j)=false/\∀k,k<64->x.testBit k=S (64*j+k)
theorem Bits.of_block{w w':World}{a:Addr}{S:Nat->Bool}(h:Bits w a S)(hb:w'.heap[a.block]? =w.heap[a.block]?):Bits w' a S:=by
 refine⟨h.1,λj hj=>?_⟩
 obtain⟨x,h1,h2,h3,h4⟩:=h.2 j hj
 refine⟨x,h1,?_,?_,h4⟩
 ·rw[World.cell?_of_block (w:=w) (by rw[zp];exact hb)];exact h2
 ·rw[World.frozen?_of_block (w:=w) (by rw[zp];exact hb)];exact h3
theorem Bits.new(w:World)(T:TypeId):Bits (w.alloc (.cells (List.toArray (List.replicate 64 (.int .u64 (0:Int)))) T)) (blk w.heap.size) λ_=>false:=by
 have hB:=Blk.new w T (List.toArray (List.replicate 64 (.int .u64 (0:Int))))
 refine⟨rfl,λj hj=>⟨0,by decide,hB.cell ?_,hB.frozen j,λk _=>by simp⟩⟩
 rw[List.getElem?_replicate,if_pos hj]
 rfl
theorem zpL(x k:Nat)(hx:x<2 ^ 64)(hk:k<64) :
  ((IntKind.u64.wrap (BitVec.toNat (BitVec.ofInt (IntKind.bits .u64) (Int.fdiv (x:Int) (2 ^ (min k (IntKind.bits .u64)))) &&& BitVec.ofInt (IntKind.bits .u64) (1:Int)):Int))==(1:Int))=x.testBit k:=by
 have hb:IntKind.bits .u64=64:=rfl
 have hm:min k (IntKind.bits .u64)=k:=by rw[hb];omega
 rw[hm]
 have e1:Int.fdiv (x:Int) (2 ^ k)=((x / 2 ^ k:Nat):Int):=by
  rw[show((2:Int) ^ k)=((2 ^ k:Nat):Int) by simp,Int.ofNat_fdiv]
 rw[e1]
 have e2:(BitVec.ofInt (IntKind.bits .u64) ((x / 2 ^ k:Nat):Int) &&& BitVec.ofInt (IntKind.bits .u64) (1:Int)).toNat=x / 2 ^ k % 2:=by
  rw[BitVec.toNat_and,BitVec.ofInt_natCast,BitVec.toNat_ofNat,show(BitVec.ofInt (IntKind.bits .u64) (1:Int)).toNat=1 from rfl,Nat.and_one_is_mod,hb]
  have:x / 2 ^ k<2 ^ 64:=Nat.lt_of_le_of_lt (Nat.div_le_self _ _) hx
  rw[Nat.mod_eq_of_lt this]
 rw[e2,IntKind.wrap_u64,Nat.testBit_eq_decide_div_mod_eq]
 rcases Nat.mod_two_eq_zero_or_one (x / 2 ^ k) with h |h<;>simp[h]
theorem zpK(x k:Nat)(hx:x<2 ^ 64)(hk:k<64) :
  (IntKind.u64.wrap (BitVec.toNat (BitVec.ofInt (IntKind.bits .u64) (x:Int) ||| BitVec.ofInt (IntKind.bits .u64) (IntKind.u64.wrap ((1:Int)*2 ^ (min k (IntKind.bits .u64))))):Int))=((x ||| 2 ^ k:Nat):Int)/\x ||| 2 ^ k<2 ^ 64:=by
 have hb:IntKind.bits .u64=64:=rfl
 have hm:min k (IntKind.bits .u64)=k:=by rw[hb];omega
 rw[hm]
 have hp:2 ^ k<2 ^ 64:=Nat.pow_lt_pow_right (by omega) hk
 have e1:IntKind.u64.wrap ((1:Int)*2 ^ k)=((2 ^ k:Nat):Int):=by
  rw[show(1:Int)*2 ^ k=((2 ^ k:Nat):Int) by simp,IntKind.wrap_u64]
  generalize 2 ^ k=p at hp
  omega
 have hlt:x ||| 2 ^ k<2 ^ 64:=Nat.or_lt_two_pow hx hp
 refine⟨?_,hlt⟩
 rw[e1,BitVec.toNat_or,BitVec.ofInt_natCast,BitVec.ofInt_natCast,BitVec.toNat_ofNat,BitVec.toNat_ofNat,hb,Nat.mod_eq_of_lt hx,Nat.mod_eq_of_lt hp,IntKind.wrap_u64]
 omega
theorem zlN(i:Nat)(hi:i<4096):IntKind.i64.wrap (Int.tdiv (i:Int) (64:Int))=((i / 64:Nat):Int):=by
 have:Int.tdiv (i:Int) 64=((i / 64:Nat):Int):=by rw[Int.tdiv_eq_ediv_of_nonneg (by omega)];omega
 rw[this,zy (by omega) (by omega)]
theorem zmY(i:Nat):Int.tmod (i:Int) 64=((i % 64:Nat):Int):=by
 rw[Int.tmod_eq_emod_of_nonneg (by omega)];omega
theorem zi8{a:Addr}{S:Nat->Bool}{i:Nat}(hi:i<4096){w:World}{R:VWP}(h:Bits w a S)(hR:R (.bool (S i)) w) :
  cR 41 #[.pointer (some a),.int .i64 i] w R:=by
 refine zc.of (zef _ _ R w ?_) λ_ _ h=>h
 unfold YI
 obtain⟨x,h1,h2,_,h4⟩:=h.2 (i / 64) (by omega)
 rw[zlN i hi,zmY]
 refine⟨⟨by omega,by omega⟩,x,h2,zg (λhlt=>by omega) (λ_=>?_)⟩
 rw[Int.toNat_natCast,zpL x (i % 64) h1 (by omega),h4 _ (by omega),Nat.div_add_mod]
 exact hR
theorem zkE{a:Addr}{S:Nat->Bool}{i:Nat}(hi:i<4096){w:World}{R:VWP}(h:Bits w a S)
  (hR:∀x:Nat,Bits (w.drew.setCell (a.add (i / 64)) (.int .u64 x)) a (λj=>S j||j==i)->R (.tuple #[]) (w.drew.setCell (a.add (i / 64)) (.int .u64 x))) :
  cR 74 #[.pointer (some a),.int .i64 i] w R:=by
 refine zc.of (zee _ _ R w ?_) λ_ _ h=>h
 unfold YH
 obtain⟨x,h1,h2,h3,h4⟩:=h.2 (i / 64) (by omega)
 rw[zlN i hi,zmY]
 refine⟨⟨by omega,by omega⟩,x,h2,zg (λhlt=>by omega) (λ_=>?_)⟩
 refine⟨⟨by omega,by omega⟩,⟨⟨_,h2⟩,h3⟩,Nw.mk ?_⟩
 obtain⟨e1,e2⟩:=zpK x (i % 64) h1 (by omega)
 rw[Int.toNat_natCast,Int.toNat_natCast,e1]
 refine hR _ ⟨h.1,λj hj=>?_⟩
 have hblk:(a.add j).block=(a.add (i / 64)).block:=by rw[zp,zp]
 have hfz:∀v,(w.drew.setCell (a.add (i / 64)) v).frozen? (a.add j)=w.frozen? (a.add j):=λv=>by simp
 by_cases hj':j=i / 64
 ·subst hj'
  refine⟨x ||| 2 ^ (i % 64),e2,?_,by rw[hfz];exact h3,λk hk=>?_⟩
  ·exact World.cell?_setCell_same _ _ _ (by exact h2)
  ·rw[Nat.testBit_or,h4 k hk,Nat.testBit_two_pow]
   congr 1
   have:=Nat.div_add_mod i 64
   by_cases hki:i % 64=k
   ·simp[hki];omega
   ·simp[hki];omega
 ·obtain⟨y,g1,g2,g3,g4⟩:=h.2 j hj
  refine⟨y,g1,?_,by rw[hfz];exact g3,λk hk=>?_⟩
  ·rw[World.cell?_setCell_other]
   ·exact g2
   ·have hs:=h.1
    obtain⟨ab,ao,asp⟩:=a
    simp only at hs
    subst hs
    unfold Addr.add
    split<;>split<;>simp<;>omega
  ·rw[g4 k hk]
   have:(64*j+k==i)=false:=by simp;omega
   simp[this]
end Go.Proofs
namespace Go.Proofs
open Go.Gk Go.RowKit Go.Gr
abbrev iN(x:Nat):Value:=.int .i64 (x:Int)
abbrev IsN(w:World)(s:Sl)(l:List Nat):Prop:=IsS iN w s l
theorem zmi(x:Nat):(iN x).oneCell'=true:=rfl
theorem zkS{w:World}{s:Sl}{l:List Nat}(h:IsN w s l){k:Nat}(hk:k<l.length){φ:Int->Prop}(hφ:φ (l[k]:Int)) :
  (0<=(k:Int)/\(k:Int)<(s.l:Int))/\za s.a λa=>ldI w (a.add (Int.toNat (k:Int))) .i64 φ:=
 h.addr hk λa _ hc=>⟨(l[k]:Int),hc,hφ⟩
theorem zjU{s:Sl}{l:List Nat}{w:World}{R:VWP}(h:Own w 3 1 s (l.map iN))
  (hR:∀w',Own w' 3 1 s (l.reverse.map iN)->Only s w w'->R (.tuple #[]) w') :
  cR 112 #[.slice s.a s.l s.c] w R:=by
 refine zc.of (zan s R w ?_) λ_ _ h=>h
 have hlen:s.l=l.length:=by have:=h.1;simp at this;omega
 have hbd:=h.isS.bound
 unfold yJ
 rw[hlen,zy (by omega) (by omega)]
 let M:Nat->List Nat:=λi=>(List.range l.length).map λk=>if k<i\/l.length<=k+i then l.getD (l.length-1-k) 0 else l.getD k 0
 have hM0:M 0=l:=by
  apply List.ext_getElem
  ·simp[M]
  ·intro k h1 h2
   have h2':¬l.length<=k:=by omega
   simp[M,h2',h2]
 refine zj.ghost (λj st w'=>∃i:Nat,2*i<=l.length+1/\j=l.length+1-i/\st=((i:Int),(l.length:Int)-1-i,())/\Only s w w'/\Own w' 3 1 s ((M i).map iN)) _ ⟨0,by omega,rfl,by simp,Only.refl _ _,by rw[hM0];exact h⟩ ?_
 rintro _ _ w' ⟨i,hi,rfl,rfl,hO,hX⟩ next hnext
 refine zg (λhlt=>?_) (λhge=>?_)
 ·have hlt:2*i+1<l.length:=by dsimp only at hlt;omega
  have hj:(l.length:Int)-1-i=((l.length-1-i:Nat):Int):=by omega
  have hX':Own w'.drew 3 1 s ((M i).map iN):=hX
  have hS:=hX'.isS
  have hml:(M i).length=l.length:=by simp[M]
  dsimp only
  rw[hj]
  have g1:(M i)[l.length-1-i]'(by rw[hml];omega)=l.getD (l.length-1-i) 0:=by
   simp only[M,List.getElem_map,List.getElem_range]
   rw[if_neg (by omega)]
  have g2:(M i)[i]'(by rw[hml];omega)=l.getD i 0:=by
   simp only[M,List.getElem_map,List.getElem_range]
   rw[if_neg (by omega)]
  rw[show(l.length:Int)=(s.l:Int) by omega]
  refine zkS hS (by rw[hml];omega) (zkS hS (by rw[hml];omega) ?_)
  rcases hX'.2 with e | ⟨b,cs,ha,hB,h1,h2,h3,h4⟩
  ·rw[e]at hlen;simp at hlen;omega
  ·refine⟨⟨by omega,by omega⟩,ze ha ⟨hB.wr (n:=i) (by omega),Nw.mk ?_⟩⟩
   have hB2:=hB.set i (iN ((M i)[l.length-1-i]'(by rw[hml];omega)))
   refine⟨⟨by omega,by omega⟩,ze ha ⟨hB2.wr (n:=l.length-1-i) (by rw[List.length_set];omega),Nw.mk ?_⟩⟩
   have hB3:=hB2.set (l.length-1-i) (iN ((M i)[i]'(by rw[hml];omega)))
   have e1:IntKind.i64.wrap ((i:Int)+1)=((i+1:Nat):Int):=zr (by omega)
   have e2:IntKind.i64.wrap (((l.length-1-i:Nat):Int)-1)=(l.length:Int)-1-((i+1:Nat):Int):=by rw[zy (by omega) (by omega)];omega
   rw[e1,e2]
   refine hnext (l.length+1-(i+1)) _ _ (by omega) ⟨i+1,by omega,rfl,rfl,(hO.drew.set ha _ _).set ha _ _,?_⟩
   refine⟨by simp[M,hlen],.inr ⟨b,_,ha,hB3,h1,h2,by simpa using h3,?_⟩⟩
   have hcs:∀k,k<l.length->cs[k]? =some (iN (l.getD (if k<i\/l.length<=k+i then l.length-1-k else k) 0)):=by
    intro k hk
    have:(cs.take (s.l*1))[k]? =cs[k]?:=List.getElem?_take_of_lt (by omega)
    rw[<-this,h4]
    simp only[M,List.getElem?_map,List.getElem?_range hk,Option.map_some]
    split<;>rfl
   apply List.ext_getElem?
   intro k
   by_cases hk:k<l.length
   ·rw[List.getElem?_take_of_lt (by omega)]
    simp only[M,List.getElem?_map,List.getElem?_range hk,Option.map_some]
    by_cases k1:k=l.length-1-i
    ·subst k1
     rw[List.getElem?_set_self (by rw[List.length_set];omega),g2,if_pos (by omega)]
     congr 3
     omega
    ·rw[List.getElem?_set_ne (by omega)]
     by_cases k2:k=i
     ·subst k2
      rw[List.getElem?_set_self (by omega),g1,if_pos (by omega)]
     ·rw[List.getElem?_set_ne (by omega),hcs k hk]
      by_cases k3:k<i\/l.length<=k+i
      ·rw[if_pos k3,if_pos (by omega)]
      ·rw[if_neg k3,if_neg (by omega)]
   ·rw[List.getElem?_eq_none (by simp;omega),List.getElem?_eq_none (by simp[M];omega)]
 ·have hge:l.length<=2*i+1:=by dsimp only at hge;omega
  refine hR w' ?_ hO
  have:M i=l.reverse:=by
   apply List.ext_getElem
   ·simp[M]
   ·intro k h1 h2
    have hk:k<l.length:=by simpa using h2
    simp only[M,List.getElem_map,List.getElem_range,List.getElem_reverse]
    by_cases k3:k<i\/l.length<=k+i
    ·rw[if_pos k3];simp[List.getD,show l.length-1-k<l.length by omega]
    ·rw[if_neg k3]
     have:k=l.length-1-k:=by omega
     simp only[List.getD,List.getElem?_eq_getElem hk,Option.getD_some]
     congr 1
  rw[<-this]
  exact hX
end Go.Proofs
namespace Go.Proofs
open Go.Gk Go.RowKit Go.Gr
def zb2(bs:List Value)(S:Nat->Bool):Prop:=
 bs.length=64/\∀j,j<64->∃x:Nat,x<2 ^ 64/\bs[j]? =some (.int .u64 (x:Int))/\∀k,k<64->x.testBit k=S (64*j+k)
theorem zb2.zero:zb2 (List.replicate 64 (.int .u64 (0:Int))) λ_=>false:=
 ⟨List.length_replicate,λj hj=>⟨0,by decide,by rw[List.getElem?_replicate,if_pos hj];rfl,λk _=>Nat.zero_testBit k⟩⟩
theorem zb2.bits{w:World}{b:Nat}{T:TypeId}{v0 v1 v2 v3:Value}{bs:List Value}{S:Nat->Bool}(h:Blk w b T (v0::v1::v2::v3::bs))(hb:zb2 bs S):Bits w ((blk b).add 4) S:=by
 refine⟨by rw[zew],λj hj=>?_⟩
 obtain⟨x,h1,h2,h3⟩:=hb.2 j hj
 rw[zjY _ _ _ rfl]
 refine⟨x,h1,h.cell ?_,h.frozen _,h3⟩
 rw[show 4+j=j+1+1+1+1 by omega]
 simpa using h2
theorem Bits.list{w:World}{b:Nat}{T:TypeId}{v0 v1 v2 v3:Value}{bs:List Value}{S:Nat->Bool}(h:Blk w b T (v0::v1::v2::v3::bs))(hl:bs.length=64)(hb:Bits w ((blk b).add 4) S):zb2 bs S:=by
 refine⟨hl,λj hj=>?_⟩
 obtain⟨x,h1,h2,_,h3⟩:=hb.2 j hj
 rw[zjY _ _ _ rfl]at h2
 have hj':bs[j]? =some bs[j]:=List.getElem?_eq_getElem (by omega)
 have:=h.cell (n:=4+j) (v:=bs[j]) (by rw[show 4+j=j+1+1+1+1 by omega];exact hj')
 rw[h2]at this
 exact⟨x,h1,by rw[hj',<-Option.some.inj this],h3⟩
theorem zb2.congr{bs:List Value}{S S':Nat->Bool}(h:zb2 bs S)(hs:∀i,S i=S' i):zb2 bs S':=
 ⟨h.1,λj hj=>let⟨x,h1,h2,h3⟩:=h.2 j hj;⟨x,h1,h2,λk hk=>by rw[h3 k hk,hs]⟩⟩
structure IsSS {α:Type} (f:α->Value) (w:World) (s:Sl) (hs:List Sl) (ll:List (List α)):Prop where
 top:IsS Sl.val w s hs
 len:hs.length=ll.length
 row:∀(i:Nat) (h:i<hs.length) (h':i<ll.length),IsS f w hs[i] ll[i]
abbrev IsNN(w:World)(s:Sl)(hs:List Sl)(ll:List (List Nat)):Prop:=IsSS iN w s hs ll
theorem IsSS.below{α:Type}{f:α->Value}{w w':World}{s:Sl}{hs:List Sl}{ll:List (List α)}(h:IsSS f w s hs ll)(hb:Below w.heap.size w w'):IsSS f w' s hs ll:=
 ⟨h.top.below hb,h.len,λi h1 h2=>(h.row i h1 h2).below hb⟩
def zjS(b:Nat)(s:Sl)(hs:List Sl):Prop:=(∀a,s.a=some a->a.block≠b)/\∀(i:Nat) (h:i<hs.length) a,hs[i].a=some a->a.block≠b
theorem _root_.Go.Gk.IsS.fr{α:Type}{f:α->Value}{w w':World}{s:Sl}{l:List α}(h:IsS f w s l){B b:Nat}(hb:Fr B (·=b) w w')(hB:w.heap.size<=B)(hn:∀a,s.a=some a->a.block≠b):IsS f w' s l:=
 h.of_block λa ha hlt=>hb.block _ (by omega) (hn a ha)
theorem IsSS.fr{α:Type}{f:α->Value}{w w':World}{s:Sl}{hs:List Sl}{ll:List (List α)}(h:IsSS f w s hs ll){B b:Nat}(hb:Fr B (·=b) w w')(hB:w.heap.size<=B)(hn:zjS b s hs):IsSS f w' s hs ll:=
 ⟨h.top.fr hb hB hn.1,h.len,λi h1 h2=>(h.row i h1 h2).fr hb hB (hn.2 i h1)⟩
abbrev ZB(sn sa wk od:Sl)(bs:List Value):List Value:=sn.val::sa.val::wk.val::od.val::bs
structure CS (w1:World) (B gb:Nat) (sn sa:Sl) (w:World) (s:List Nat×List Nat):Prop where
 fr:Fr B (·=gb) w1 w
 st:∃wk od bs,Blk w gb 118 (ZB sn sa wk od bs)/\zb2 bs (λi=>s.1.contains i)/\Own w 3 1 wk (s.1.map iN)/\Own w 3 1 od (s.2.map iN)/\
  zA B wk/\zA B od/\∀a b,wk.a=some a->od.a=some b->a.block≠b.block
structure CW (w1:World) (B b0 b1 gb:Nat) (sn:Sl) (hs:List Sl) (nx:List (List Nat)):Prop where
 size:w1.heap.size=B
 gblt:gb<B
 box0:Blk w1 b0 51 [.pointer (some (blk gb))]
 box1:Blk w1 b1 147 [.func (.func 111) #[] #[.pointer (some (blk b0)),.pointer (some (blk b1))]]
 ne0:b0≠gb
 ne1:b1≠gb
 next:IsNN w1 sn hs nx
 avoid:zjS gb sn hs
 max:nx.length<=4096
 rows:∀i,∀t∈nx.getD i [],t<nx.length
theorem zcU{w:World}{s:Sl}{l:List Nat}(h:Own w 3 1 s (l.map iN)):s.l=l.length:=by have:=h.1;simp at this;omega
theorem zcb{w:World}{s:Sl}{xs:List Value}(h:Own w 3 1 s xs){b:Nat}{T:TypeId}{cs:List Value}(hB:Blk w b T cs)(hT:T≠3){a:Addr}(ha:s.a=some a):a.block≠b:=by
 intro e
 obtain⟨cs',hB'⟩:=h.type ha
 rw[e]at hB'
 exact hT (hB.type hB')
set_option maxHeartbeats 1000000 in
theorem znk{w1:World}{B b0 b1 gb:Nat}{sn sa:Sl}{hs:List Sl}{nx:List (List Nat)}(cw:CW w1 B b0 b1 gb sn hs nx) :
  ∀(f i:Nat) (s:List Nat×List Nat) (w:World) (R:VWP),i<nx.length->i ∉ s.1->s.1.Nodup->(∀x∈s.1,x<nx.length)->nx.length<=s.1.length+f->s.2.length<=s.1.length->
   CS w1 B gb sn sa w s->(∀w',CS w1 B gb sn sa w' (yo nx f i s)->(yo nx f i s).2.length<=(yo nx f i s).1.length->R (.tuple #[]) w')->
   cR 111 #[.int .i64 (i:Int),.pointer (some (blk b0)),.pointer (some (blk b1))] w R:=by
 intro f
 induction f with
 |zero=>
  intro i s w R hi hni hnd hlt hf
  have:=zc9 hnd hlt hi hni
  omega
 |succ f ih=>
  intro i s w R hi hni hnd hlt hf h2l hcs hR
  have hmax:=cw.max
  have hslt:=zc9 hnd hlt hi hni
  refine zc.of (zbl (i:Int) (blk b0) (blk b1) R w ?_) λ_ _ h=>h
  have box0:∀{w':World},Fr B (·=gb) w1 w'->Blk w' b0 51 [.pointer (some (blk gb))]:=λhf=>cw.box0.of_block (hf.block _ (by have:=cw.box0.lt;have:=cw.size;omega) cw.ne0)
  have box1:∀{w':World},Fr B (·=gb) w1 w'->Blk w' b1 147 [.func (.func 111) #[] #[.pointer (some (blk b0)),.pointer (some (blk b1))]]:=λhf=>cw.box1.of_block (hf.block _ (by have:=cw.box1.lt;have:=cw.size;omega) cw.ne1)
  have next:∀{w':World},Fr B (·=gb) w1 w'->IsNN w' sn hs nx:=λhf=>cw.next.fr hf (by rw[cw.size];exact Nat.le_refl _) cw.avoid
  obtain⟨hfr,wk,od,bs,hG,hbits,hwk,hod,hfw,hfo,hap⟩:=hcs
  have hBsz:∀{w':World},Fr B (·=gb) w1 w'->B<=w'.heap.size:=λhf=>by have:=hf.size;have:=cw.size;omega
  refine⟨some (blk gb),(box0 hfr).cell0 rfl,?_⟩
  refine zkE (S:=λi=>s.1.contains i) (i:=i) (by omega) (hbits.bits hG) λx hx=>⟨rfl,?_⟩
  generalize hw2:w.drew.setCell (((blk gb).add 4).add (i / 64)) (.int .u64 (x:Int))=w2 at hx⊢
  have hG2:Blk w2 gb 118 (ZB sn sa wk od (bs.set (i / 64) (.int .u64 (x:Int)))):=by
   rw[<-hw2,zjY _ _ _ rfl]
   have:=(hG.drew).set (4+i / 64) (.int .u64 (x:Int))
   rw[show 4+i / 64=i / 64+1+1+1+1 by omega]at this⊢
   exact this
  have hfr2:Fr B (·=gb) w1 w2:=by rw[<-hw2];exact hfr.drew.set (.inr (by rw[zp,zp])) _
  have hb2:=Bits.list hG2 (by rw[List.length_set];exact hbits.1) hx
  have stay:∀{sl:Sl} {xs:List Value},Own w 3 1 sl xs->Own w2 3 1 sl xs:=λh=>h.of_block λa ha=>by
   rw[<-hw2];exact Below.heap_setCell _ _ _ _ (by rw[zp,zp];exact zcb h hG (by decide) ha)
  have hwk2:=stay hwk
  have hod2:=stay hod
  clear hw2 stay hG hbits hwk hod hx
  generalize bs.set (i / 64) (.int .u64 (x:Int))=bs2 at hG2 hb2
  refine⟨some (blk gb),(box0 hfr2).cell0 rfl,⟨some (blk gb),(box0 hfr2).cell0 rfl,wk,hG2.cell rfl,Nw.gen λw3 hw3=>?_⟩⟩
  have hG3:Blk w3 gb 118 (ZB sn sa wk od bs2):=by rw[hw3];exact hG2.drew.alloc _
  have hfr3:Fr B (·=gb) w1 w3:=by rw[hw3];exact hfr2.drew.alloc (hBsz hfr2.drew) _
  have ht3:Blk w3 w2.drew.heap.size 3 [iN i]:=by rw[hw3];exact Blk.new w2.drew 3 #[iN i]
  have hwk3:Own w3 3 1 wk (s.1.map iN):=by rw[hw3];exact hwk2.drew.alloc _
  have hod3:Own w3 3 1 od (s.2.map iN):=by rw[hw3];exact hod2.drew.alloc _
  have hsz3:w3.heap.size=w2.heap.size+1:=by rw[hw3];simp
  refine⟨hG3.cell rfl,(box0 hfr3).cell0 rfl,(box0 hfr3).cell0 rfl,?_⟩
  have hwl:=zcU hwk3
  refine zbg eInt hwk3 rfl ht3 (by omega) (by omega) λr w4 hr hrl ⟨b,hrb,hbo,hg⟩=>?_
  have hbB:B<=b:=by
   rcases hbo with hb |rfl
   ·exact hfw _ hb
   ·exact hBsz hfr3
  have hfr4:Fr B (·=gb) w1 w4:=hfr3.grown hg hbB (hBsz hfr3)
  have hbgb:gb≠b:=by have:=cw.gblt;omega
  have hG4:Blk w4 gb 118 (ZB sn sa wk od bs2):=hG3.of_block (hg.block gb hG3.lt (λe=>hbgb (Option.some.inj e)))
  have hodne:∀a,od.a=some a->a.block≠b:=λa ha e=>by
   rcases hbo with hb |hb
   ·exact hap _ _ hb ha e.symm
   ·have:=(hod3.lt ha).2;omega
  have hod4:Own w4 3 1 od (s.2.map iN):=hod3.of_block λa ha=>hg.block _ (hod3.lt ha).2 (λe=>hodne a ha (Option.some.inj e))
  refine⟨(box0 hfr4).cell0 rfl,hG4.wr (by simp),Nw.gen λw5 hw5=>?_⟩
  have hG5:Blk w5 gb 118 (ZB sn sa r od bs2):=by rw[hw5];exact hG4.set 2 _
  have hfr5:Fr B (·=gb) w1 w5:=by rw[hw5];exact hfr4.set (.inr (by rw[zp])) _
  have stay5:∀{sl:Sl} {xs:List Value},Own w4 3 1 sl xs->Own w5 3 1 sl xs:=λh=>h.of_block λa ha=>by
   rw[hw5];exact Below.heap_setCell _ _ _ _ (by rw[zp];exact zcb h hG4 (by decide) ha)
  have hcs5:CS w1 B gb sn sa w5 (s.1++[i],s.2):=by
   refine⟨hfr5,r,od,bs2,hG5,hb2.congr λj=>?_,?_,stay5 hod4,λa ha=>?_,hfo,λa c ha hc=>?_⟩
   ·rw[Bool.eq_iff_iff];simp
   ·simpa using stay5 hr
   ·rw[hrb]at ha;cases ha;exact hbB
   ·rw[hrb]at ha;cases ha;exact(hodne c hc).symm
  clear hw3 hG3 hfr3 ht3 hwk3 hod3 hsz3 hG4 hod4 hw5 stay5 hr hg hG2 hb2 hwk2 hod2 hfr2 hfr4 hfr
  refine⟨some (blk gb),(box0 hfr5).cell0 rfl,sn,hG5.cell0 rfl,?_⟩
  have hnx5:=next hfr5
  have hlen:hs.length=nx.length:=hnx5.len
  refine zjw hnx5.top (k:=i) (by omega) ?_
  clear hG5 hnx5
  have hrow:∀{w':World},Fr B (·=gb) w1 w'->IsN w' (hs[i]'(by omega)) (nx.getD i []):=λhf=>by
   have:=(next hf).row i (by omega) hi
   simpa[List.getD,hi] using this
  generalize hrl':nx.getD i []=row at hrow
  have hrt:∀t∈row,t<nx.length:=λt ht=>cw.rows i t (by rw[hrl'];exact ht)
  have hrn:(hs[i]'(by omega)).l=row.length:=(hrow hfr5).len
  have base:Came nx.length s (s.1++[i],s.2):=⟨by
    rw[List.nodup_append]
    exact⟨hnd,by simp,λx hx y hy=>by simp at hy;subst hy;intro e;subst e;exact hni hx⟩,λx hx=>by
    simp at hx
    rcases hx with hx |rfl
    ·exact hlt x hx
    ·exact hi,[i],rfl⟩
  have rowsOk:∀i,∀t∈nx.getD i [],t<nx.length:=cw.rows
  refine zj.count row.length (hrow hfr5).bound (λk w'=>CS w1 B gb sn sa w' (zG nx f (row.take k) (s.1++[i],s.2))/\Came nx.length (s.1++[i],s.2) (zG nx f (row.take k) (s.1++[i],s.2))/\
   (zG nx f (row.take k) (s.1++[i],s.2)).2.length<(zG nx f (row.take k) (s.1++[i],s.2)).1.length) ⟨by simpa[zG] using hcs5,?_,by simp[zG];omega⟩ ?_
  ·simp only[List.take_zero]
   exact⟨base.nodup,base.lt,[],by simp[zG]⟩
  rintro k w6 hk ⟨hcs6,hcame,hlen6⟩ nxt hnext
  generalize hst:zG nx f (row.take k) (s.1++[i],s.2)=st at hcs6 hcame hlen6
  refine zg (λhlt6=>?_) (λhge=>?_)
  ·have hlt6:k<row.length:=by dsimp only at hlt6;omega
   have hsnoc:zG nx f (row.take (k+1)) (s.1++[i],s.2)=if st.1.contains row[k] then st else yo nx f row[k] st:=by
    rw[List.take_succ_eq_append_getElem hlt6,zji,hst]
   refine zk.cut (λ_ w'=>CS w1 B gb sn sa w' (zG nx f (row.take (k+1)) (s.1++[i],s.2))/\Came nx.length (s.1++[i],s.2) (zG nx f (row.take (k+1)) (s.1++[i],s.2))/\
    (zG nx f (row.take (k+1)) (s.1++[i],s.2)).2.length<(zG nx f (row.take (k+1)) (s.1++[i],s.2)).1.length) ?_ λ_ w' h=>hnext w' hlt6 h
   have hfr6:=hcs6.fr
   obtain⟨wk6,od6,bs6,hG6,hb6,_⟩:=hcs6.st
   refine zkS (hrow hfr6) hlt6 ⟨some (blk gb),(box0 hfr6).cell0 rfl,?_⟩
   have hrk:=hrt row[k] (List.getElem_mem hlt6)
   refine zi8 (S:=λi=>st.1.contains i) (i:=row[k]) (by omega) (hb6.bits hG6) ⟨_,rfl,?_⟩
   rw[hsnoc]
   cases hc:st.1.contains row[k] with
   |true=>exact⟨hcs6,hcame,hlen6⟩
   |false=>
    have hnm:row[k] ∉ st.1:=by simpa using hc
    refine⟨_,(box1 hfr6).cell0 rfl,?_⟩
    have hmore:st.1.length≥(s.1++[i]).length:=by obtain⟨l,e⟩:=hcame.more;rw[e];simp
    have hvc:=zcY rowsOk f row[k] st hrk hcame.nodup hcame.lt hnm
    have:=ih row[k] st w6 (λv w'=>v =.tuple #[]/\CS w1 B gb sn sa w' (yo nx f row[k] st)/\Came nx.length (s.1++[i],s.2) (yo nx f row[k] st)/\(yo nx f row[k] st).2.length<(yo nx f row[k] st).1.length)
     hrk hnm hcame.nodup hcame.lt (by simp at hmore;omega) (by omega) hcs6 (λw' h _=>⟨rfl,h,?_,?_⟩)
    ·exact this
    ·obtain⟨l1,e1⟩:=hcame.more
     obtain⟨l2,e2⟩:=hvc.more
     exact⟨hvc.nodup,hvc.lt,l1++l2,by rw[e2,e1,List.append_assoc]⟩
    ·have:=zjR nx f row[k] st
     omega
  ·
   have hkk:k=row.length:=by dsimp only at hge;omega
   subst hkk
   rw[List.take_length]at hst
   have hvis:yo nx (f+1) i s=(st.1,st.2++[i]):=by rw[zbw,hrl',hst]
   rw[hvis]at hR
   clear hst
   obtain⟨hfr6,wk6,od6,bs6,hG6,hb6,hwk6,hod6,hfw6,hfo6,hap6⟩:=hcs6
   refine⟨some (blk gb),(box0 hfr6.drew).cell0 rfl,some (blk gb),(box0 hfr6.drew).cell0 rfl,od6,hG6.drew.cell rfl,Nw.gen λw7 hw7=>?_⟩
   have hG7:Blk w7 gb 118 (ZB sn sa wk6 od6 bs6):=by rw[hw7];exact hG6.drew.alloc _
   have hfr7:Fr B (·=gb) w1 w7:=by rw[hw7];exact hfr6.drew.alloc (hBsz hfr6.drew) _
   have ht7:Blk w7 w6.drew.heap.size 3 [iN i]:=by rw[hw7];exact Blk.new w6.drew 3 #[iN i]
   have hwk7:Own w7 3 1 wk6 (st.1.map iN):=by rw[hw7];exact hwk6.drew.alloc _
   have hod7:Own w7 3 1 od6 (st.2.map iN):=by rw[hw7];exact hod6.drew.alloc _
   refine⟨hG7.cell rfl,(box0 hfr7).cell0 rfl,(box0 hfr7).cell0 rfl,?_⟩
   have hwl:=zcU hod7
   have hsl:=ZJ hcame.nodup hcame.lt
   refine zbg eInt hod7 rfl ht7 (by omega) (by omega) λr w8 hr hrl ⟨b,hrb,hbo,hg⟩=>?_
   have hbB:B<=b:=by
    rcases hbo with hb |rfl
    ·exact hfo6 _ hb
    ·exact hBsz hfr7
   have hfr8:Fr B (·=gb) w1 w8:=hfr7.grown hg hbB (hBsz hfr7)
   have hbgb:gb≠b:=by have:=cw.gblt;omega
   have hG8:Blk w8 gb 118 (ZB sn sa wk6 od6 bs6):=hG7.of_block (hg.block gb hG7.lt (λe=>hbgb (Option.some.inj e)))
   have hwkne:∀a,wk6.a=some a->a.block≠b:=λa ha e=>by
    rcases hbo with hb |hb
    ·exact hap6 _ _ ha hb e
    ·have:=(hwk7.lt ha).2;omega
   have hwk8:Own w8 3 1 wk6 (st.1.map iN):=hwk7.of_block λa ha=>hg.block _ (hwk7.lt ha).2 (λe=>hwkne a ha (Option.some.inj e))
   refine⟨(box0 hfr8).cell0 rfl,hG8.wr (by simp),Nw.gen λw9 hw9=>?_⟩
   have hG9:Blk w9 gb 118 (ZB sn sa wk6 r bs6):=by rw[hw9];exact hG8.set 3 _
   have hfr9:Fr B (·=gb) w1 w9:=by rw[hw9];exact hfr8.set (.inr (by rw[zp])) _
   have stay9:∀{sl:Sl} {xs:List Value},Own w8 3 1 sl xs->Own w9 3 1 sl xs:=λh=>h.of_block λa ha=>by
    rw[hw9];exact Below.heap_setCell _ _ _ _ (by rw[zp];exact zcb h hG8 (by decide) ha)
   refine hR w9 ⟨hfr9,wk6,r,bs6,hG9,hb6,stay9 hwk8,by simpa using stay9 hr,hfw6,λa ha=>?_,λa c ha hc=>?_⟩ (by simp;omega)
   ·rw[hrb]at ha;cases ha;exact hbB
   ·rw[hrb]at hc;cases hc;exact hwkne a ha
end Go.Proofs
namespace Go.Proofs
open Go.Gk Go.RowKit Go.Gr
theorem zqa{B:Nat}{X:Nat->Prop}{w w' w'':World}{s:Sl}(h:Fr B X w w')(ho:Only s w' w'')(hs:zA B s):Fr B X w w'':=h.trans (Fr.of_below (ho.below hs))
theorem zlJ{gb:Nat}{sn sa:Sl}{hs:List Sl}{nx:List (List Nat)}{w:World}{R:VWP}
  (hG:Blk w gb 118 (ZB sn sa ⟨none,0,0⟩ ⟨none,0,0⟩ (List.replicate 64 (.int .u64 (0:Int))))) (hnx:IsNN w sn hs nx) (hav:zjS gb sn hs)
  (h0:0<nx.length) (hmax:nx.length<=4096) (hrows:∀i,∀t∈nx.getD i [],t<nx.length)
  (hR:∀w' wk od bs,Fr w.heap.size (·=gb) w w'->Blk w' gb 118 (ZB sn sa wk od bs)->zb2 bs (λi=>(yG nx).contains i)->Own w' 3 1 wk ((yG nx).map iN)->
   Own w' 3 1 od ((zv nx).map iN)->zA w.heap.size wk->zA w.heap.size od->R (.tuple #[]) w') :
  cR 75 #[.pointer (some (blk gb))] w R:=by
 refine zc.of (zbX _ R w ?_) λ_ _ h=>h
 have hgl:=hG.lt
 refine Nw.gen λw1 hw1=>Nw.gen λw2 hw2=>?_
 have hz1:w1.heap.size=w.heap.size+1:=by rw[hw1];simp
 have hB0:Blk w2 w.heap.size 51 [.pointer (some (blk gb))]:=by rw[hw2,hw1];exact(Blk.new w _ #[_]).alloc _
 have hB1:Blk w2 w1.heap.size 147 [.nilFunc]:=by rw[hw2];exact Blk.new w1 _ #[_]
 have hb2:Below w.heap.size w w2:=by rw[hw2,hw1];exact((Below.refl _ _).alloc (Nat.le_refl _) _).alloc (by simp) _
 have hz2:w2.heap.size=w.heap.size+2:=by rw[hw2,hw1];simp
 refine⟨hB1.wr0 (by simp),Nw.gen λw3 hw3=>?_⟩
 have hz3:w3.heap.size=w.heap.size+2:=by rw[hw3];simpa[World.setCell] using hz2
 have hb3:Below w.heap.size w w3:=by rw[hw3];exact hb2.setCell (by simp;omega) _
 have hB0':Blk w3 w.heap.size 51 [.pointer (some (blk gb))]:=by rw[hw3];exact hB0.other (by simp;omega) _
 have hB1':Blk w3 w1.heap.size 147 [.func (.func 111) #[] #[.pointer (some (blk w.heap.size)),.pointer (some (blk w1.heap.size))]]:=by rw[hw3];exact hB1.set0 _
 have hG3:=hG.below hb3
 have cw:CW w3 w3.heap.size w.heap.size w1.heap.size gb sn hs nx:=
  ⟨rfl,by omega,hB0',hB1',by omega,by omega,hnx.below hb3,hav,hmax,hrows⟩
 refine⟨_,hB1'.cell0 rfl,?_⟩
 have cs:CS w3 w3.heap.size gb sn sa w3 ([],[]):=
  ⟨Fr.refl _ _ _,⟨none,0,0⟩,⟨none,0,0⟩,_,hG3,zb2.zero.congr (λi=>by simp),Own.nil _ _ _,Own.nil _ _ _,λa h=>(by cases h),λa h=>(by cases h),λa b h=>by cases h⟩
 refine znk cw nx.length 0 ([],[]) w3 _ h0 (by simp) (by simp) (by simp) (by simp) (by simp) cs λw4 hcs _=>⟨rfl,?_⟩
 obtain⟨hfr,wk,od,bs,hG4,hbits,hwk,hod,hfw,hfo,hap⟩:=hcs
 have hB04:Blk w4 w.heap.size 51 [.pointer (some (blk gb))]:=hB0'.of_block (hfr.block _ (by omega) (by show ¬w.heap.size=gb;omega))
 refine⟨some (blk gb),hB04.cell0 rfl,od,hG4.cell rfl,?_⟩
 refine zjU hod λw5 hod5 honly=>⟨rfl,?_⟩
 have hne:∀a,od.a=some a->a.block≠gb:=λa ha=>zcb hod hG4 (by decide) ha
 have hG5:=hG4.of_block (honly.block gb hne)
 have hwk5:Own w5 3 1 wk ((yo nx nx.length 0 ([],[])).1.map iN):=hwk.of_block λa ha=>honly.block _ λb hb=>(hap a b ha hb).symm
 have hfr5:Fr w3.heap.size (·=gb) w3 w5:=zqa hfr honly hfo
 refine hR w5 wk od bs (Fr.trans (Fr.of_below hb3) (hfr5.mono (by omega) (λ_ _ h=>h))) hG5 hbits hwk5 (by simpa[zv] using hod5) (λa ha=>?_) (λa ha=>?_)
 ·have:=hfw a ha;omega
 ·have:=hfo a ha;omega
end Go.Proofs
namespace Go.Proofs
open Go.Gk Go.RowKit Go.Gr
structure Fam (B:Nat) (w:World) (bh:Nat) (hs:List Sl) (ll:List (List Nat)) (ow:Nat->Nat) (off:Nat):Prop where
 head:Blk w bh 43 (hs.map Sl.val)
 len:hs.length=ll.length
 row:∀(i:Nat) (h:i<hs.length),Own w 3 1 hs[i] ((ll.getD i []).map iN)
 own:∀(i:Nat) (h:i<hs.length) a,hs[i].a=some a->ow a.block=off+i/\B<=a.block
def upd(ow:Nat->Nat)(b v:Nat):Nat->Nat:=λk=>if k=b then v else ow k
theorem Fam.ne{B:Nat}{w:World}{bh:Nat}{hs:List Sl}{ll:List (List Nat)}{ow:Nat->Nat}{off:Nat}(h:Fam B w bh hs ll ow off){i:Nat}(hi:i<hs.length){a:Addr}(ha:hs[i].a=some a):a.block≠bh:=
 zcb (h.row i hi) h.head (by decide) ha
theorem Fam.other{B:Nat}{w w':World}{bh:Nat}{hs:List Sl}{ll:List (List Nat)}{ow:Nat->Nat}{off b v:Nat}(h:Fam B w bh hs ll ow off)(hg:w.grownBy w' (some b))(hb:b≠bh)
  (hn:(∃v',ow b=v'/\∀i,i<hs.length->v'≠off+i)\/b=w.heap.size):Fam B w' bh hs ll (upd ow b v) off:=by
 have hrow:∀(i:Nat) (hi:i<hs.length) a,hs[i].a=some a->a.block≠b:=λi hi a ha e=>by
  rcases hn with⟨v',h1,h2⟩ |h1
  ·exact h2 i hi (by rw[<-h1,<-e];exact(h.own i hi a ha).1)
  ·have:=((h.row i hi).lt ha).2;omega
 refine⟨h.head.of_block (hg.block bh h.head.lt (λe=>hb (Option.some.inj e).symm)),h.len,λi hi=>(h.row i hi).of_block λa ha=>hg.block _ ((h.row i hi).lt ha).2 (λe=>hrow i hi a ha (Option.some.inj e)),λi hi a ha=>?_⟩
 refine⟨?_,(h.own i hi a ha).2⟩
 unfold upd
 rw[if_neg (hrow i hi a ha)]
 exact(h.own i hi a ha).1
theorem Fam.set_other{B:Nat}{w:World}{bh:Nat}{hs:List Sl}{ll:List (List Nat)}{ow:Nat->Nat}{off:Nat}(h:Fam B w bh hs ll ow off){b:Nat}{T:TypeId}{cs:List Value}(hB:Blk w b T cs)(hb:b≠bh)(hT:T≠3)(n:Nat)(v:Value) :
  Fam B (w.setCell ((blk b).add n) v) bh hs ll ow off:=by
 refine⟨h.head.other (by rw[zp];exact Ne.symm hb) v,h.len,λi hi=>(h.row i hi).of_block λa ha=>Below.heap_setCell _ _ _ _ (by rw[zp];exact zcb (h.row i hi) hB hT ha),h.own⟩
theorem Fam.grown{B:Nat}{w w':World}{bh:Nat}{hs:List Sl}{ll:List (List Nat)}{ow:Nat->Nat}{off:Nat}(h:Fam B w bh hs ll ow off)(hb:Below w.heap.size w w'):Fam B w' bh hs ll ow off:=
 ⟨h.head.below hb,h.len,λi hi=>(h.row i hi).below hb,h.own⟩
theorem Fam.push{B:Nat}{w w':World}{bh:Nat}{hs:List Sl}{ll:List (List Nat)}{ow:Nat->Nat}{off:Nat}(h:Fam B w bh hs ll ow off){i:Nat}(hi:i<hs.length){r:Sl}{x b:Nat}
  (hr:Own w' 3 1 r ((ll.getD i []).map iN++[iN x])) (hrb:r.a=some (blk b)) (hbo:hs[i].a=some (blk b)\/b=w.heap.size) (hB:B<=b) (hg:w.grownBy w' (some b)) :
  Blk w' bh 43 (hs.map Sl.val)/\Fam B (w'.setCell ((blk bh).add i) r.val) bh (hs.set i r) (ll.set i (ll.getD i []++[x])) (upd ow b (off+i)) off:=by
 have hbne:b≠bh:=by
  rcases hbo with hb |hb
  ·exact h.ne hi hb
  ·have:=h.head.lt;omega
 have hH:Blk w' bh 43 (hs.map Sl.val):=h.head.of_block (hg.block bh h.head.lt (λe=>hbne (Option.some.inj e).symm))
 have hrow:∀(j:Nat) (hj:j<hs.length) a,j≠i->hs[j].a=some a->a.block≠b:=λj hj a hne ha e=>by
  rcases hbo with hb |hb
  ·have h1:=(h.own j hj a ha).1
   have h2:=(h.own i hi _ hb).1
   rw[e]at h1
   simp only at h2
   omega
  ·have:=((h.row j hj).lt ha).2;omega
 have stay:∀{s:Sl} {xs:List Value},Own w' 3 1 s xs->Own (w'.setCell ((blk bh).add i) r.val) 3 1 s xs:=λho=>ho.of_block λa ha=>Below.heap_setCell _ _ _ _ (by rw[zp];exact zcb ho hH (by decide) ha)
 refine⟨hH,?_,by simp[h.len],λj hj=>?_,λj hj a ha=>?_⟩
 ·have:=hH.set i r.val
  rwa[<-List.map_set]at this
 ·have hj':j<hs.length:=by simpa using hj
  by_cases e:j=i
  ·subst e
   have:(ll.set j (ll.getD j []++[x])).getD j []=ll.getD j []++[x]:=by simp[List.getD,show j<ll.length by have:=h.len;omega]
   rw[List.getElem_set_self,this,List.map_append]
   exact stay hr
  ·have:(ll.set i (ll.getD i []++[x])).getD j []=ll.getD j []:=by simp only[List.getD];rw[List.getElem?_set_ne (by omega)]
   rw[List.getElem_set_ne (by omega),this]
   exact stay ((h.row j hj').of_block λa ha=>hg.block _ ((h.row j hj').lt ha).2 (λe'=>hrow j hj' a e ha (Option.some.inj e')))
 ·have hj':j<hs.length:=by simpa using hj
  by_cases e:j=i
  ·subst e
   rw[List.getElem_set_self,hrb]at ha
   cases ha
   exact⟨by simp[upd],hB⟩
  ·rw[List.getElem_set_ne (by omega)]at ha
   refine⟨?_,(h.own j hj' a ha).2⟩
   unfold upd
   rw[if_neg (hrow j hj' a e ha)]
   exact(h.own j hj' a ha).1
theorem Fam.isSS{B:Nat}{w:World}{bh n:Nat}{hs:List Sl}{ll:List (List Nat)}{ow:Nat->Nat}{off:Nat}(h:Fam B w bh hs ll ow off)(hn:hs.length=n)(hm:n<=9223372036854775807):IsNN w ⟨some (blk bh),n,n⟩ hs ll:=
 ⟨h.head.isS rfl hn.symm (Nat.le_refl _) hm,h.len,λi hi hi'=>by
  have:=(h.row i hi).isS
  simpa[List.getD,hi'] using this⟩
theorem Fam.avoids{B:Nat}{w:World}{bh n:Nat}{hs:List Sl}{ll:List (List Nat)}{ow:Nat->Nat}{off:Nat}(h:Fam B w bh hs ll ow off){b:Nat}{T:TypeId}{cs:List Value}(hB:Blk w b T cs)(hT:T≠3)(hT':T≠43):zjS b ⟨some (blk bh),n,n⟩ hs:=
 ⟨λa ha e=>by
  cases ha
  have e:bh=b:=e
  subst e
  exact hT' (hB.type h.head),λi hi a ha=>zcb (h.row i hi) hB hT ha⟩
theorem Fam.new(B:Nat)(w:World)(n:Nat)(ow:Nat->Nat)(off bh:Nat)(hB:Blk w bh 43 (List.replicate n (.slice none 0 0))):Fam B w bh (List.replicate n ⟨none,0,0⟩) (List.replicate n []) ow off:=by
 refine⟨?_,by simp,λi hi=>?_,λi hi a ha=>?_⟩
 ·rw[List.map_replicate];exact hB
 ·have hi':i<n:=by simpa using hi
  simp only[List.getElem_replicate,List.getD,List.getElem?_replicate,if_pos hi',Option.getD_some,List.map_nil]
  exact Own.nil _ _ _
 ·simp at ha
def IsG(w:World)(gb:Nat)(nx:List (List Nat)):Prop:=
 ∃sn sa wk od bs hn ha,Blk w gb 118 (ZB sn sa wk od bs)/\IsNN w sn hn nx/\IsNN w sa ha (zD nx)/\IsN w wk (yG nx)/\IsN w od (zv nx)/\zb2 bs λi=>(yG nx).contains i
theorem IsG.below{w w':World}{gb:Nat}{nx:List (List Nat)}(h:IsG w gb nx)(hb:Below w.heap.size w w'):IsG w' gb nx:=
 let⟨sn,sa,wk,od,bs,hn,ha,h1,h2,h3,h4,h5,h6⟩:=h
 ⟨sn,sa,wk,od,bs,hn,ha,h1.below hb,h2.below hb,h3.below hb,h4.below hb,h5.below hb,h6⟩
def IsGB(w:World)(B gb:Nat)(nx:List (List Nat)):Prop:=
 B<=gb/\∃sn sa wk od bs hn ha,Blk w gb 118 (ZB sn sa wk od bs)/\IsNN w sn hn nx/\IsNN w sa ha (zD nx)/\IsN w wk (yG nx)/\IsN w od (zv nx)/\zb2 bs (λi=>(yG nx).contains i)/\
  zA B sn/\zA B sa/\zA B wk/\zA B od/\(∀(i:Nat) (h:i<hn.length),zA B hn[i])/\∀(i:Nat) (h:i<ha.length),zA B ha[i]
theorem IsGB.isG{w:World}{B gb:Nat}{nx:List (List Nat)}(h:IsGB w B gb nx):IsG w gb nx:=
 let⟨_,sn,sa,wk,od,bs,hn,ha,h1,h2,h3,h4,h5,h6,_⟩:=h
 ⟨sn,sa,wk,od,bs,hn,ha,h1,h2,h3,h4,h5,h6⟩
theorem IsGB.keep{w w':World}{B gb:Nat}{nx:List (List Nat)}(h:IsGB w B gb nx)(hk:∀k,B<=k->k<w.heap.size->w'.heap[k]? =w.heap[k]?):IsGB w' B gb nx:=by
 obtain⟨hg,sn,sa,wk,od,bs,hn,ha,h1,h2,h3,h4,h5,h6,f1,f2,f3,f4,f5,f6⟩:=h
 have st:∀{α:Type} {f:α->Value} {s:Sl} {l:List α},IsS f w s l->zA B s->IsS f w' s l:=λhs hf=>hs.of_block λa ha hlt=>hk _ (hf a ha) hlt
 exact⟨hg,sn,sa,wk,od,bs,hn,ha,h1.of_block (hk gb hg h1.lt),⟨st h2.top f1,h2.len,λi g1 g2=>st (h2.row i g1 g2) (f5 i g1)⟩,⟨st h3.top f2,h3.len,λi g1 g2=>st (h3.row i g1 g2) (f6 i g1)⟩,st h4 f3,st h5 f4,h6,f1,f2,f3,f4,f5,f6⟩
theorem IsGB.below{w w':World}{B gb:Nat}{nx:List (List Nat)}(h:IsGB w B gb nx)(hb:Below w.heap.size w w'):IsGB w' B gb nx:=h.keep λk _ hk=>hb.block k hk
structure OS (w0:World) (gb bn ba n:Nat) (w:World) (NX:List (List Nat)):Prop where
 below:Below w0.heap.size w0 w
 len:NX.length=n
 g:Blk w gb 118 (ZB ⟨some (blk bn),n,n⟩ ⟨some (blk ba),n,n⟩ ⟨none,0,0⟩ ⟨none,0,0⟩ (List.replicate 64 (.int .u64 (0:Int))))
 gB:w0.heap.size<=gb
 bnB:w0.heap.size<=bn
 baB:w0.heap.size<=ba
 ne:bn≠ba
 fam:∃hn ha ow,Fam w0.heap.size w bn hn NX ow 0/\Fam w0.heap.size w ba ha (zD NX) ow n
theorem OS.grown{w0 w w':World}{gb bn ba n:Nat}{NX:List (List Nat)}(h:OS w0 gb bn ba n w NX)(hb:Below w.heap.size w w'):OS w0 gb bn ba n w' NX:=
 let⟨hn,ha,ow,f1,f2⟩:=h.fam
 ⟨h.below.trans (hb.mono h.below.size),h.len,h.g.below hb,h.gB,h.bnB,h.baB,h.ne,hn,ha,ow,f1.grown hb,f2.grown hb⟩
set_option maxHeartbeats 1000000 in
theorem znG{w0:World}{gb bn ba n:Nat}{w:World}{NX:List (List Nat)}(h:OS w0 gb bn ba n w NX){i x:Nat}(hi:i<n)(hx:x<n)(hn:n<=4096)(hlen:(NX.getD i []).length<=4096)(hlenA:((zD NX).getD x []).length<=4096)
  (hni:(NX.getD i []).contains x=false) (hgt:∀j,i<j->NX.getD j []=[]) {sb:Nat} {T:TypeId} {cs:List Value} (hT:T≠3) (hT':T≠43) (hsb:Blk w sb T cs) {K:World->Prop}
  (hK:∀w',OS w0 gb bn ba n w' (NX.set i (NX.getD i []++[x]))->Blk w' sb T cs->K w') :
  za (some (blk gb)) λa18=>
   ldS w.drew a18 λx19=>
   za (some (blk gb)) λa20=>
   ldS w.drew a20 λx21=>
   (0<=(i:Int)/\(i:Int)<(x21.l:Int))/\
   za x21.a λa22=>
   ldS w.drew (a22.add (Int.toNat (i:Int))) λx23=>
   Nw (w.drew.alloc (.cells #[(.int .i64 (x:Int))] 3)) λw14=>
   w14.cell? (a22.add (Int.toNat (i:Int)))=some (.slice x23.a x23.l x23.c)/\
   w14.cell? a20=some (.slice x21.a x21.l x21.c)/\
   w14.cell? a18=some (.slice x19.a x19.l x19.c)/\
   zC Tryz.prog 43 (.slice x23.a x23.l x23.c) (.slice (some (blk w.drew.heap.size)) 1 1) w14 λr24 w15=>
   w15.cell? a18=some (.slice x19.a x19.l x19.c)/\
   (0<=(i:Int)/\(i:Int)<(x19.l:Int))/\
   za x19.a λa25=>
   Wr w15 (a25.add (Int.toNat (i:Int)))/\
   Nw (w15.setCell (a25.add (Int.toNat (i:Int))) (.slice r24.a r24.l r24.c)) λw16=>
   za (some (blk gb)) λa26=>
   ldS w16.drew (a26.add 1) λx27=>
   za (some (blk gb)) λa28=>
   ldS w16.drew (a28.add 1) λx29=>
   (0<=(x:Int)/\(x:Int)<(x29.l:Int))/\
   za x29.a λa30=>
   ldS w16.drew (a30.add (Int.toNat (x:Int))) λx31=>
   Nw (w16.drew.alloc (.cells #[(.int .i64 (i:Int))] 3)) λw17=>
   w17.cell? (a30.add (Int.toNat (x:Int)))=some (.slice x31.a x31.l x31.c)/\
   w17.cell? (a28.add 1)=some (.slice x29.a x29.l x29.c)/\
   w17.cell? (a26.add 1)=some (.slice x27.a x27.l x27.c)/\
   zC Tryz.prog 43 (.slice x31.a x31.l x31.c) (.slice (some (blk w16.drew.heap.size)) 1 1) w17 λr32 w18=>
   w18.cell? (a26.add 1)=some (.slice x27.a x27.l x27.c)/\
   (0<=(x:Int)/\(x:Int)<(x27.l:Int))/\
   za x27.a λa33=>
   Wr w18 (a33.add (Int.toNat (x:Int)))/\
   Nw (w18.setCell (a33.add (Int.toNat (x:Int))) (.slice r32.a r32.l r32.c)) λw19=>K w19:=by
 obtain⟨hbel,hNX,hG,hgB,hbnB,hbaB,hne,hn',ha',ow,f1,f2⟩:=h
 have hnl:hn'.length=n:=by rw[f1.len,hNX]
 have hal:ha'.length=n:=by rw[f2.len,Z3,hNX]
 have hBsz:w0.heap.size<=w.heap.size:=hbel.size
 have hmax:n<=9223372036854775807:=by omega
 refine⟨⟨some (blk bn),n,n⟩,hG.drew.cell0 rfl,⟨some (blk bn),n,n⟩,hG.drew.cell0 rfl,?_⟩
 refine zjw (s:=⟨some (blk bn),n,n⟩) (f1.isSS hnl hmax).top.drew (k:=i) (by omega) ?_
 refine Nw.gen λw14 hw14=>?_
 have hb14:Below w.heap.size w w14:=by rw[hw14];exact(Below.refl _ _).drew.alloc (by simp) _
 have ht14:Blk w14 w.drew.heap.size 3 [iN x]:=by rw[hw14];exact Blk.new w.drew 3 #[iN x]
 have f1':=f1.grown hb14
 have f2':=f2.grown hb14
 have hG':=hG.below hb14
 have hsb':=hsb.below hb14
 have hz14:w.heap.size<=w14.heap.size:=hb14.size
 refine⟨?_,hG'.cell0 rfl,hG'.cell0 rfl,?_⟩
 ·exact(f1'.isSS hnl hmax).top.cell _ rfl i (by omega)
 have hrow:=f1'.row i (by omega)
 have hrl:=zcU hrow
 refine zbg eInt hrow rfl ht14 (by omega) (by omega) λr w15 hr _ ⟨b,hrb,hbo,hg⟩=>?_
 have hbB:w0.heap.size<=b:=by
  rcases hbo with hb |rfl
  ·exact(f1'.own i (by omega) _ hb).2
  ·omega
 obtain⟨hH,f1p⟩:=f1'.push (by omega) hr hrb hbo hbB hg
 have hbT:∃cs,Blk w15 b 3 cs:=by obtain⟨cs,hc⟩:=hr.type hrb;exact⟨cs,hc⟩
 have hnot:∀{b':Nat} {T:TypeId} {cs:List Value},Blk w14 b' T cs->T≠3->b'≠b/\Blk w15 b' T cs:=λhB hT=>by
  have hb':_≠b:=λe=>by
   rcases hbo with hb |hb
   ·exact zcb hrow hB hT hb e.symm
   ·have:=hB.lt;omega
  exact⟨hb',hB.of_block (hg.block _ hB.lt (λe=>hb' (Option.some.inj e)))⟩
 have hG15:=(hnot hG' (by decide)).2
 have hgb:=(hnot hG' (by decide)).1
 have hbba:=(hnot f2'.head (by decide)).1
 have f2o:=f2'.other (v:=0+i) hg (Ne.symm hbba) (by
  rcases hbo with hb |hb
  ·exact .inl ⟨_,(f1'.own i (by omega) _ hb).1,λj hj=>by omega⟩
  ·exact .inr hb)
 refine⟨hG15.cell0 rfl,⟨by omega,by show(i:Int)<((n:Nat):Int);omega⟩,hH.wr (by simp;omega),Nw.gen λw16 hw16=>?_⟩
 have f1q:=f1p
 have f2q:=f2o.set_other hH hne (by decide) i r.val
 have hG16:Blk w16 gb 118 (ZB ⟨some (blk bn),n,n⟩ ⟨some (blk ba),n,n⟩ ⟨none,0,0⟩ ⟨none,0,0⟩ (List.replicate 64 (.int .u64 (0:Int)))):=by
  rw[hw16];exact hG15.other (by rw[zp];exact hG15.apart hH (by decide)) _
 have hsb15:=(hnot hsb' hT).2
 have hsb16:Blk w16 sb T cs:=by
  rw[hw16];exact hsb15.other (by rw[zp];exact hsb15.apart hH hT') _
 rw[show w15.setCell ((blk bn).add i) r.val=w16 from hw16.symm]at f1q f2q
 have hb16:Below w0.heap.size w0 w16:=by
  rw[hw16]
  exact((hbel.trans (hb14.mono hBsz)).trans (yC hg hbB (by omega))).setCell (by rw[zp];exact hbnB) _
 have hl1:(hn'.set i r).length=n:=by simp[hnl]
 have hBsz16:=hb16.size
 clear hw16 f1p f2o hH hG15 hnot hbT hr hg hrow f1' f2' hG' ht14 hw14 hb14 f1 f2 hG hsb hsb' hsb15
 refine⟨⟨some (blk ba),n,n⟩,hG16.drew.cell rfl,⟨some (blk ba),n,n⟩,hG16.drew.cell rfl,?_⟩
 refine zjw (s:=⟨some (blk ba),n,n⟩) (f2q.isSS hal hmax).top.drew (k:=x) (by omega) ?_
 refine Nw.gen λw17 hw17=>?_
 have hb17:Below w16.heap.size w16 w17:=by rw[hw17];exact(Below.refl _ _).drew.alloc (by simp) _
 have ht17:Blk w17 w16.drew.heap.size 3 [iN i]:=by rw[hw17];exact Blk.new w16.drew 3 #[iN i]
 have f1':=f1q.grown hb17
 have f2':=f2q.grown hb17
 have hG':=hG16.below hb17
 have hsb':=hsb16.below hb17
 have hz17:w16.heap.size<=w17.heap.size:=hb17.size
 refine⟨?_,hG'.cell rfl,hG'.cell rfl,?_⟩
 ·exact(f2'.isSS hal hmax).top.cell _ rfl x (by omega)
 have hrow:=f2'.row x (by omega)
 have hrl:=zcU hrow
 refine zbg eInt hrow rfl ht17 (by omega) (by omega) λr2 w18 hr _ ⟨b2,hrb2,hbo2,hg2⟩=>?_
 have hbB2:w0.heap.size<=b2:=by
  rcases hbo2 with hb |rfl
  ·exact(f2'.own x (by omega) _ hb).2
  ·omega
 obtain⟨hH,f2p⟩:=f2'.push (by omega) hr hrb2 hbo2 hbB2 hg2
 have hnot:∀{b':Nat} {T:TypeId} {cs:List Value},Blk w17 b' T cs->T≠3->b'≠b2/\Blk w18 b' T cs:=λhB hT=>by
  have hb':_≠b2:=λe=>by
   rcases hbo2 with hb |hb
   ·exact zcb hrow hB hT hb e.symm
   ·have:=hB.lt;omega
  exact⟨hb',hB.of_block (hg2.block _ hB.lt (λe=>hb' (Option.some.inj e)))⟩
 have hG18:=(hnot hG' (by decide)).2
 have hbbn:=(hnot f1'.head (by decide)).1
 have f1o:=f1'.other (v:=n+x) hg2 (Ne.symm hbbn) (by
  rcases hbo2 with hb |hb
  ·exact .inl ⟨_,(f2'.own x (by omega) _ hb).1,λj hj=>by omega⟩
  ·exact .inr hb)
 refine⟨hG18.cell rfl,⟨by omega,by show(x:Int)<((n:Nat):Int);omega⟩,hH.wr (by simp;omega),Nw.gen λw19 hw19=>?_⟩
 have f2z:=f2p
 have f1z:=f1o.set_other hH (Ne.symm hne) (by decide) x r2.val
 rw[show w18.setCell ((blk ba).add x) r2.val=w19 from hw19.symm]at f1z f2z
 have hsb18:=(hnot hsb' hT).2
 rw[<-zlT (by omega) (by omega) hni hgt]at f2z
 refine hK w19 ⟨?_,by simp[hNX],?_,hgB,hbnB,hbaB,hne,hn'.set i r,ha'.set x r2,_,f1z,f2z⟩ ?_
 ·rw[hw19]
  exact((hb16.trans (hb17.mono hBsz16)).trans (yC hg2 hbB2 (by omega))).setCell (by rw[zp];exact hbaB) _
 ·rw[hw19];exact hG18.other (by rw[zp];exact hG18.apart hH (by decide)) _
 ·rw[hw19];exact hsb18.other (by rw[zp];exact hsb18.apart hH hT') _
end Go.Proofs
