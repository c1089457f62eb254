/- FaceB, part 3; made small by a program. -/
import Derived.Test.YtnpdnjmpmeikiaaGreatDoorProg
import Derived.Lib.Bytealg
import Derived.Laws.CopyRow
import Derived.Maps.RangeRun
import Derived.ScopeJumps
import Derived.Test.YtnpdnjmpmeikiaaGreatDoorPFaceB2
set_option linter.unusedVariables false
namespace Go.Proofs
open Go.Gk
set_option linter.unusedVariables false
set_option maxRecDepth 100000
def zbV:Ann:=(.q (.seq none (.q (.cond (.q .nil) .nil)) (.seq none (.q (.one (.loop ⟨[0,1],[(5,(.b (.int .i64)))]⟩ (.seq none (.q .c) (.seq none (.one (.q (.cond (.q .nil) .nil))) .nil))))) (.q .nil))))
def zb8(p0:Sl)(p1:Sl)(R:VWP)(w:World):Prop:=ifB ((p0.l:Int) !=(p1.l:Int)) (R (.bool false) w) (zl (S:=Int×Unit) (λs1 w1 n2=>ifB (decide (s1.1<(p0.l:Int))) ((0<=s1.1/\s1.1<(p0.l:Int))/\zc p0.a λa3=>ldI w1.drew (a3.add s1.1.toNat) .u32 λx4=>(0<=s1.1/\s1.1<(p1.l:Int))/\zc p1.a λa5=>ldI w1.drew (a5.add s1.1.toNat) .u32 λx6=>ifB (x4 !=x6) (R (.bool false) w1.drew) (n2 ((IntKind.i64.wrap (s1.1+(1:Int))),()) w1.drew)) (R (.bool true) w1)) (0,()) w)
theorem zey(p0)(p1)(R)(w)(h:zb8 p0 p1 R w):Calls Tryz.prog 49 #[.slice p0.a p0.l p0.c,.slice p1.a p1.l p1.c] w (Ret R):=lwC zbV Tryz.func49 (by kernel_rfl) (by kernel_rfl) h
end Go.Proofs
namespace Go.Proofs
open Go.Gk Go.RowKit Go.Gm
theorem zl.countSl{body:Sl×Int×Unit->World->(Sl×Int×Unit->World->Prop)->Prop}{w:World}{s0:Sl}(n:Nat)(hn:n<=9223372036854775807)(I:Nat->Sl->World->Prop)(h0:I 0 s0 w)
  (h:∀k r w,k<=n->I k r w->∀next:Sl×Int×Unit->World->Prop,(∀r' w',k<n->I (k+1) r' w'->next (r',IntKind.i64.wrap ((k:Int)+1),()) w')->body (r,(k:Int),()) w next):zl body (s0,(0:Int),()) w:=by
 refine zl.ghost (λj s w=>∃(k:Nat) (r:Sl),k<=n/\j=n-k/\s=(r,(k:Int),())/\I k r w) n ⟨0,s0,Nat.zero_le _,rfl,rfl,h0⟩ ?_
 rintro _ _ w ⟨k,r,hk,rfl,rfl,hI⟩ next hnext
 refine h k r w hk hI next λr' w' hlt hI'=>?_
 rw[zE (by omega)]
 exact hnext (n-(k+1)) _ _ (by omega) ⟨k+1,r',by omega,rfl,rfl,hI'⟩
theorem zhK{P:Program}{t e:TypeId}{bytes:Nat}(he:Yq P t e 1 bytes){w0 w:World}{s:Sl}{xs:List Value}(h:Own w e 1 s xs)(hb:Below w0.heap.size w0 w)(hF:zK w0.heap.size s){v:Value}(hv:v.oneCell'=true){b c:Nat}{T:TypeId}
  (hB:Blk w b T [v]) (h63:s.l+1<=9223372036854775807) (hbytes:(s.l+1)*bytes<=140737488355328) {k:Sl->World->Prop}
  (hk:∀r w',Own w' e 1 r (xs++[v])->Below w0.heap.size w0 w'->zK w0.heap.size r->k r w'):zA P t (.slice s.a s.l s.c) (.slice (some (blk b)) 1 c) w k:=by
 refine zh1 he h hv hB h63 hbytes λr w' h1 _ ⟨b',h3,h4,h5⟩=>?_
 have hbb:w0.heap.size<=b':=by
  rcases h4 with h4 |h4
  ·exact hF _ h4
  ·have:=hb.size
   omega
 exact hk r w' h1 (hb.trans (zW h5 hbb hb.size)) λa ha=>by rw[h3]at ha;cases ha;exact hbb
theorem eU8:Yq Tryz.prog 217 5 1 1:=⟨by kernel_rfl,Tryz.t5,.int .u8 0,by kernel_rfl,rfl,rfl,rfl,rfl⟩
theorem YR{w:World}{s:Sl}{l:List Int}(h:IsS (Value.int .u32) w s l){k:Nat}(hk:k<l.length){φ:Int->Prop}(hφ:φ l[k]) :
  (0<=(k:Int)/\(k:Int)<(s.l:Int))/\zc s.a λa=>ldI w (a.add (Int.toNat (k:Int))) .u32 φ:=h.addr hk λ_ _ hc=>⟨l[k],hc,hφ⟩
theorem eU32:Yq Tryz.prog 56 22 1 4:=⟨by kernel_rfl,Tryz.t22,.int .u32 0,by kernel_rfl,rfl,rfl,rfl,rfl⟩
section
variable {x:Ins} {al:List Ag} {w:World} {R:VWP}
theorem zmh{a b:ByteArray}:(a==b)=true↔a=b:=by
 obtain⟨a⟩:=a
 obtain⟨b⟩:=b
 show(a==b)=true↔_
 simp
end
theorem zp6{s t:Sl}{l m:List Int}{w:World}{R:VWP}(hs:IsS (Value.int .u32) w s l)(ht:IsS (Value.int .u32) w t m)(hR:∀w',w'.heap=w.heap->Below w.heap.size w w'->R (.bool (decide (l=m))) w') :
  cR 49 #[.slice s.a s.l s.c,.slice t.a t.l t.c] w R:=by
 refine za.of (zey s t R w ?_) λ_ _ h=>h
 have e1:=hs.len
 have e2:=ht.len
 refine zy (λhne=>?_) (λhe=>?_)
 ·have:decide (l=m)=false:=by
   rw[decide_eq_false_iff_not];intro e;subst e;omega
  have:=this▸hR w rfl (Below.refl _ _)
  exact this
 ·have hlm:l.length=m.length:=by omega
  refine zl.count l.length hs.bound (λk w'=>w'.heap=w.heap/\Below w.heap.size w w'/\l.take k=m.take k) ⟨rfl,Below.refl _ _,by simp⟩ ?_
  rintro k w' hk ⟨hh,hb,hI⟩ next hnext
  refine zj (λhlt=>?_) (λhge=>?_)
  ·have hlt:k<l.length:=by dsimp only at hlt;omega
   refine(hs.heap (w':=w'.drew) hh).addr hlt λa _ hc=>⟨_,hc,?_⟩
   refine(ht.heap (w':=w'.drew) hh).addr (by omega) λa _ hc=>⟨_,hc,?_⟩
   refine zy (λhne=>?_) (λhe=>?_)
   ·have:decide (l=m)=false:=by
     rw[decide_eq_false_iff_not];intro e;subst e;exact hne rfl
    have:=this▸hR w'.drew hh hb.drew
    exact this
   ·exact hnext _ hlt ⟨hh,hb.drew,by rw[List.take_succ_eq_append_getElem hlt,List.take_succ_eq_append_getElem (by omega),hI,he]⟩
  ·have:l=m:=by
    have hk':k=l.length:=by dsimp only at hge;omega
    subst hk'
    rwa[List.take_length,hlm,List.take_length]at hI
   have:=(decide_eq_true this)▸hR w' hh hb
   exact this
end Go.Proofs
namespace Go.Proofs
open Go.Gk Go.RowKit Go.Gm
theorem zts(l:List UInt8)(c:UInt8):(Lib.indexByte l c=-1\/0<=Lib.indexByte l c)/\(0<=Lib.indexByte l c↔l.contains c=true):=by
 induction l with
 |nil=>exact⟨.inl rfl,by simp[Lib.indexByte]⟩
 |cons b l ih=>
  obtain⟨h1,h2⟩:=ih
  unfold Lib.indexByte
  by_cases e:b=c
  ·subst e
   simp
  ·rw[if_neg (by simpa using e)]
   have e':(c==b)=false:=beq_eq_false_iff_ne.2 λh=>e h.symm
   rw[List.contains_cons,e',Bool.false_or,<-h2]
   rcases h1 with h1 |h1
   ·rw[h1];simp
   ·rw[if_neg (by simp;omega)]
    constructor
    ·right;omega
    ·constructor<;>intro _<;>omega
theorem zk6{s:ByteArray}{w:World}{R:VWP}(hR:∀i:Int,(0<=i↔nul s=true)->R (.int .i64 i) w):cR 206 #[.string s,.int .u8 0] w R:=by
 refine za.of (zeB s 0 R w ?_) λ_ _ h=>h
 refine za.of (ZV s 0 _ w ?_) λ_ _ h=>h
 refine⟨.int .i64 (Lib.indexByte s.data.toList 0),w,?_,_,rfl,_,rfl,hR _ (zts _ _).2⟩
 rw[run_callFunc_extern Tryz.func214 (by kernel_rfl) (by kernel_rfl) (by kernel_rfl) (e:=Extern.BytealgIndexByte.indexByte) (by kernel_rfl),Lib.run_indexByteString]
 rfl
theorem zsD{s:ByteArray}(h:nul s=false){k:Nat}(hk:k<s.size):zd3 s (k:Int)≠0:=by
 intro e
 unfold zd3 at e
 rw[Int.toNat_natCast]at e
 have hk':k<s.data.size:=hk
 have e1:s.data.getD k 0=s.data[k]:=by rw[Array.getD_eq_getD_getElem?,Array.getElem?_eq_getElem hk'];rfl
 rw[e1]at e
 have e2:s.data[k]=0:=UInt8.toNat.inj (show(s.data[k]).toNat=0 by omega)
 have hm:(0:UInt8)∈s.data.toList:=by
  rw[<-e2,<-Array.getElem_toList]
  exact List.getElem_mem _
 have:=List.contains_iff_mem.2 hm
 unfold nul at h
 rw[h]at this
 cases this
theorem zs1{s:ByteArray}(hs:s.size<=9223372036854775807):IntKind.i64.wrap (IntKind.i64.wrap (Int.tdiv (s.size:Int) 4)+1)=((s.size / 4+1:Nat):Int):=by
 rw[show Int.tdiv (s.size:Int) 4=((s.size / 4:Nat):Int) from(Int.ofNat_tdiv s.size 4).symm]
 have:s.size / 4<=2305843009213693951:=by omega
 generalize s.size / 4=q at this
 rw[zq (x:=(q:Int)) (by omega) (by omega),zq (by omega) (by omega)]
 omega
theorem zjc{s:ByteArray}(hs:s.size<=9223372036854775807){w:World}{R:VWP}(hR:R (.int .i64 ((s.size / 4+1:Nat):Int)) w):cR 208 #[.string s] w R:=by
 refine za.of (zj8 s R w ?_) λ_ _ h=>h
 show R (.int .i64 _) w
 rw[zs1 hs]
 exact hR
theorem setU{w:World}{b:Nat}{T:TypeId}{xs:List Int}(hB:Blk w b T (xs.map (Value.int .u32)))(k:Nat)(v:Int):∃ys:List Int,Blk (w.setCell ((blk b).add k) (.int .u32 v)) b T (ys.map (Value.int .u32))/\ys.length=xs.length:=
 ⟨xs.set k v,by rw[List.map_set];exact hB.set k _,by simp⟩
theorem znW{s:ByteArray}(hs:s.size<=9223372036854775807)(hn:nul s=false){w:World}{R:VWP}
  (h1:65535<s.size / 4+1->R (.tuple #[.slice none 0 0,.int .i64 4]) w)
  (h2:s.size / 4+1<=65535->∀(b:Nat) (xs:List Int) w',w.heap.size<=b->Blk w' b 22 (xs.map (Value.int .u32))->xs.length=s.size / 4+1->Below w.heap.size w w'->R (.tuple #[.slice (some (blk b)) (s.size / 4+1) (s.size / 4+1),.int .i64 0]) w') :
  cR 207 #[.string s] w R:=by
 refine za.of (zhT s R w ?_) λ_ _ h=>h
 refine zl.count s.size hs (λk w'=>w'=w) rfl ?_
 rintro k wk hk hw next hnext
 subst hw
 refine zj (λh=>?_) (λh=>?_)
 ·have hlt:k<s.size:=by dsimp only at h;omega
  exact⟨⟨by omega,by omega⟩,zk (λe=>absurd e (zsD hn hlt)) (λ_=>hnext _ hlt rfl)⟩
 ·refine zjc hs ⟨_,rfl,?_⟩
  refine zj (λhgt=>h1 (by omega)) (λhle=>?_)
  have hle:s.size / 4+1<=65535:=by omega
  refine zjc hs ⟨_,rfl,?_⟩
  dsimp only[zB,Go.Gk.Sl.zw,zi,zu,zb,zh];rw[Int.toNat_natCast]
  refine⟨⟨by omega,by omega,by omega,by omega⟩,?_⟩
  refine Nw.gen λw4 e4=>?_
  have hB4:Blk w4 wk.heap.size 22 (List.replicate (s.size / 4+1) (.int .u32 0)):=by rw[e4];exact Blk.made wk _ _ _
  have z4:w4.heap.size=wk.heap.size+1:=by rw[e4];simp
  have b4:Below wk.heap.size wk w4:=by rw[e4];exact(Below.refl _ _).alloc (Nat.le_refl _) _
  clear e4
  refine zl.count s.size hs (λk w'=>Below wk.heap.size wk w'/\∃xs:List Int,Blk w' wk.heap.size 22 (xs.map (Value.int .u32))/\xs.length=s.size / 4+1) ⟨b4,List.replicate (s.size / 4+1) 0,by simpa using hB4,by simp⟩ ?_
  rintro k w5 hk ⟨hb,xs,hB,hxl⟩ next hnext
  refine zj (λh=>?_) (λh=>?_)
  ·have hlt:k<s.size:=by dsimp only at h;omega
   have e1:IntKind.i64.wrap (Int.tdiv (k:Int) 4)=((k / 4:Nat):Int):=by
    rw[show Int.tdiv (k:Int) 4=((k / 4:Nat):Int) from(Int.ofNat_tdiv k 4).symm]
    exact zq (by omega) (by omega)
   have e2:IntKind.i64.wrap (8*Int.tmod (k:Int) 4)=((8*(k % 4):Nat):Int):=by
    rw[show Int.tmod (k:Int) 4=((k % 4:Nat):Int) from(Int.ofNat_tmod k 4).symm,zq (by omega) (by omega)]
    omega
   have hq:k / 4<xs.length:=by omega
   dsimp only
   rw[e1,e2,Int.toNat_natCast]
   refine⟨⟨by omega,by omega⟩,hB.drew.rI (n:=k / 4) (x:=xs[k / 4]) (by simp[hq]) ⟨⟨by omega,by omega⟩,zj (λh=>absurd h (by omega)) (λ_=>⟨⟨by omega,by omega⟩,hB.drew.wr (by simpa using hq),?_⟩)⟩⟩
   refine Nw.mk (hnext _ hlt ⟨(Chg.set _ _ _ _).below hb.drew (Nat.le_refl _),?_⟩)
   exact(setU hB.drew (k / 4) _).imp λys h=>⟨h.1,h.2.trans hxl⟩
  ·exact h2 hle _ xs w5 (Nat.le_refl _) hB hxl hb
abbrev wrV(f:Fm)(bd:Int)(s:Sl)(room:Nat):List Value:=
 [.int .u16 f.1,.string f.2.1,.bool f.2.2.1,.bool f.2.2.2.1,.string f.2.2.2.2.1,.string f.2.2.2.2.2.1,.int .i64 f.2.2.2.2.2.2.1,.int .u8 f.2.2.2.2.2.2.2.1,.int .u32 bd,.slice s.a s.l s.c,.int .i64 (room:Int)]
def Oth(b:Nat)(w w':World):Prop:=∀k T cs,Blk w k T cs->k≠b->T≠22->Blk w' k T cs
theorem Oth.refl(b:Nat)(w:World):Oth b w w:=λ_ _ _ h _ _=>h
theorem Oth.trans{b:Nat}{w w' w2:World}(h:Oth b w w')(h':Oth b w' w2):Oth b w w2:=λk T cs hB h1 h2=>h' k T cs (h k T cs hB h1 h2) h1 h2
theorem Oth.below{b:Nat}{w w':World}(h:Below w.heap.size w w'):Oth b w w':=λ_ _ _ hB _ _=>hB.below h
structure WtS (w0 w:World) (b:Nat) (f:Fm) (bd:Int) (room n:Nat):Prop where
 old:w0.heap.size<=b
 below:Below w0.heap.size w0 w
 own:∃r xs,Blk w b 279 (wrV f bd r room)/\Own w 22 1 r xs/\zK w0.heap.size r/\r.l=n
section
variable {w0 w:World} {b:Nat} {f:Fm} {bd:Int} {room n:Nat} {R:VWP}
theorem WtS.step{w':World}(h:WtS w0 w b f bd room n)(hb:Below w.heap.size w w'):WtS w0 w' b f bd room n:=by
 obtain⟨h1,h2,r,xs,h3,h4,h5,h6⟩:=h
 exact⟨h1,h2.on hb,r,xs,h3.below hb,h4.below hb,h5,h6⟩
theorem WtS.drew(h:WtS w0 w b f bd room n):WtS w0 w.drew b f bd room n:=h.step (Below.refl _ _).drew
theorem WtS.app(h:WtS w0 w b f bd room n){c m k:Nat}{news:List Value}{T:TypeId}(hB:Blk w c T news)(hl:news.length=m)(h1:∀u∈news,u.oneCell'=true)(hm:0<m)(hn:(n+m)*4<=140737488355328){r:Sl}{xs:List Value}
  (hW:Blk w b 279 (wrV f bd r room)) (hO:Own w 22 1 r xs) (hF:zK w0.heap.size r) (hrl:r.l=n) {K:Sl->World->Prop}
  (hK:∀r' w2,Blk w2 b 279 (wrV f bd r room)->(∀room' w4,Chg b w2 w4->Blk w4 b 279 (wrV f bd r' room')->WtS w0 w4 b f bd room' (n+m)/\Oth b w w4)->K r' w2) :
  zA Tryz.prog 56 (.slice r.a r.l r.c) (.slice (some (blk c)) m k) w K:=by
 have hold:=h.old
 have hbel:=h.below
 refine yV eU32 hO (news:=news) (by omega) (λj u hj=>hB.cell hj) h1 (by omega) (by omega) λr' w2 hO' hl' hg=>?_
 rcases hg with⟨_,_,h3⟩ | ⟨b',hb',hab,hg⟩
 ·rw[h3]at hl';omega
 ·have hbb:w0.heap.size<=b':=by
   rcases hab with h |h
   ·exact hF _ h
   ·have:=hbel.size
    omega
  have hne:∀{k T cs},Blk w k T cs->T≠22->k≠b':=by
   intro k T cs hk hT e
   subst e
   rcases hab with h |h
   ·obtain⟨cs',hc⟩:=hO.type h
    exact hT (hk.type hc)
   ·have:=hk.lt
    omega
  have hkeep:∀{k T cs},Blk w k T cs->T≠22->Blk w2 k T cs:=λhk hT=>hk.of_block (hg.block _ hk.lt (λe=>hne hk hT (Option.some.inj e)))
  have hb2:Below w0.heap.size w0 w2:=hbel.trans (zW hg hbb hbel.size)
  refine hK r' w2 (hkeep hW (by decide)) λroom' w4 cc hW4=>?_
  have hO4:Own w4 22 1 r' (xs++news):=hO'.of_block λa ha=>cc.block _ (by
   rw[hb']at ha
   cases ha
   exact(hne hW (by decide)).symm)
  refine⟨⟨hold,cc.below hb2 hold,r',_,hW4,hO4,?_,by omega⟩,?_⟩
  ·intro a ha
   rw[hb']at ha
   cases ha
   exact hbb
  ·intro k T cs hk h1 h2
   exact cc.blk (hkeep hk h2) h1
theorem zpl(h:WtS w0 w b f bd room n){x:Int}(hr:room<=4611686018427387904)(hn:(n+1)*4<=140737488355328)(hR:∀w',WtS w0 w' b f bd (room+1) (n+1)->Oth b w w'->R (.tuple #[]) w') :
  cR 192 #[.pointer (some (blk b)),.int .u32 x] w R:=by
 refine za.of (zf4 (some (blk b)) x R w ?_) λ_ _ h=>h
 obtain⟨r,xs,hW,hO,hF,hrl⟩:=h.own
 refine ze rfl (hW.rS (n:=9) (x:=r) rfl ?_)
 refine zm λw1 hB1 b1 z1=>?_
 refine(h.step b1).app hB1 (m:=1) rfl (by simp[Value.oneCell']) (by omega) hn (hW.below b1) (hO.below b1) hF hrl λr' w2 hW2 hfin=>?_
 refine ze rfl ⟨hW2.wr (n:=9) (by simp),Nw.gen λw3 e3=>?_⟩
 have c3:Chg b w2 w3:=by rw[e3];exact Chg.set _ _ _ _
 have hW3:Blk w3 b 279 (wrV f bd r' room):=by rw[e3];exact hW2.set 9 _
 clear e3
 refine ze rfl (hW3.rI (n:=10) rfl (ze rfl ⟨hW3.wr (n:=10) (by simp),Nw.mk ?_⟩))
 have e:IntKind.i64.wrap ((room:Int)+1)=((room+1:Nat):Int):=by rw[zq (by omega) (by omega)];omega
 rw[e]
 obtain⟨k1,k2⟩:=hfin (room+1) _ (c3.trans (Chg.set b 10 w3 (.int .i64 ((room+1:Nat):Int)))) (hW3.set 10 _)
 exact hR _ k1 ((Oth.below b1).trans k2)
theorem ztq{x bd:Int}(hR:R (.int .i64 (if x=0 then 43 else if bd<=x then 43 else 0)) w):cR 193 #[.int .u32 x,.int .u32 bd] w R:=by
 refine za.of (zlK x bd R w ?_) λ_ _ h=>h
 refine zk (λe=>by rwa[if_pos e]at hR) (λe=>?_)
 rw[if_neg e]at hR
 exact zj (λh=>by rwa[if_pos h]at hR) (λh=>by rwa[if_neg h]at hR)
theorem zmx(h:WtS w0 w b f bd room n){must:Bool}{x e:Int}(hr:room<=4611686018427387904)(hn:(n+1)*4<=140737488355328)
  (hR:∀w' room' n',WtS w0 w' b f bd room' n'->room'<=room+1->n'<=n+1->(idP must x bd e=0->e≠0->room'=room+must.toNat/\n'=n+must.toNat)->R (.int .i64 (idP must x bd e)) w') :
  cR 180 #[.pointer (some (blk b)),.bool must,.int .u32 x,.int .i64 e] w R:=by
 refine za.of (zeO (some (blk b)) must x e R w ?_) λ_ _ h=>h
 unfold idP at hR
 refine zI (zz (λhm=>?_) (λhm=>?_))
 ·have hm:must=(x !=0):=eq_of_beq hm
  rw[if_pos hm]at hR
  refine zI (zz (λht=>?_) (λhf=>?_))
  ·refine zpl h hr hn λw1 h1 _=>⟨rfl,?_⟩
   obtain⟨r,xs,hW,_⟩:=h1.own
   refine ze rfl (hW.rI (n:=8) rfl ?_)
   refine ztq ⟨_,rfl,?_⟩
   have hx:x≠0:=by rw[ht]at hm;exact bne_iff_ne.1 hm.symm
   rw[if_neg hx]
   have:=hR w1 (room+1) (n+1) h1 (Nat.le_refl _) (Nat.le_refl _) (λ_ _=>by rw[ht];exact⟨rfl,rfl⟩)
   simpa[ht] using this
  ·have:=hR w room n h (by omega) (by omega) (λ_ _=>by rw[hf];exact⟨rfl,rfl⟩)
   simpa[hf] using this
 ·have hm:¬must=(x !=0):=λh=>by rw[h]at hm;simp at hm
  have:=hR w room n h (by omega) (by omega) (λh0 he=>by rw[if_neg hm]at h0;exact absurd h0 he)
  rwa[if_neg hm]at this
theorem zst(h:WtS w0 w b f bd room n){s:ByteArray}(hs:s.size<=9223372036854775807)(hr:room<=4611686018427387904)(hn:(n+65535)*4<=140737488355328)
  (hR:∀w' room' n',WtS w0 w' b f bd room' n'->Oth b w w'->(nul s=false->room'=room+(s.size / 4+1)/\(n'=n+(s.size / 4+1)\/65535<s.size / 4+1)/\n'<=n+65535)->R (.int .i64 (if nul s=true then 13 else 0)) w') :
  cR 196 #[.pointer (some (blk b)),.string s] w R:=by
 refine za.of (zeP (some (blk b)) s R w ?_) λ_ _ h=>h
 refine zk6 λi hi=>⟨_,rfl,?_⟩
 refine zj (λh0=>?_) (λh0=>?_)
 ·have hnul:=hi.1 h0
  have:=hR w room n h (Oth.refl _ _) (λh=>by rw[hnul]at h;cases h)
  rwa[if_pos hnul]at this
 ·have hnul:nul s=false:=by
   rw[<-Bool.not_eq_true]
   exact λhn=>h0 (hi.2 hn)
  rw[if_neg (by rw[hnul];simp)]at hR
  have hdiv:s.size / 4<=2305843009213693951:=by omega
  refine znW hs hnul (λhgt=>⟨⟨none,0,0⟩,_,rfl,?_⟩) (λhle c ys w2 hc hB2 hyl b2=>⟨⟨some (blk c),s.size / 4+1,s.size / 4+1⟩,_,rfl,?_⟩)
  ·refine zR rfl ?_
   obtain⟨r,xs,hW,hO,hF,hrl⟩:=h.own
   have hW1:=hW.drew
   refine ze rfl (hW1.rI (n:=10) rfl ?_)
   refine zjc hs ⟨_,rfl,hW1.cell (n:=10) rfl,ze rfl ⟨hW1.wr (n:=10) (by simp),Nw.mk ?_⟩⟩
   have e:IntKind.i64.wrap ((room:Int)+((s.size / 4+1:Nat):Int))=((room+(s.size / 4+1):Nat):Int):=by
    generalize s.size / 4=q at hdiv
    rw[zq (by omega) (by omega)]
    omega
   rw[e]
   have cc:=Chg.set b 10 w.drew (.int .i64 ((room+(s.size / 4+1):Nat):Int))
   refine hR _ (room+(s.size / 4+1)) n ⟨h.old,cc.below h.below.drew h.old,r,xs,hW1.set 10 _,hO.drew.of_block λa ha=>cc.block _ ?_,hF,hrl⟩ (λk T cs hk h1 _=>cc.blk hk.drew h1) (λ_=>⟨rfl,.inr hgt,by omega⟩)
   obtain⟨cs',hc⟩:=hO.type ha
   exact hc.apart hW (by decide)
  ·refine zJ rfl ?_
   have h2:=h.step b2
   obtain⟨r,xs,hW,hO,hF,hrl⟩:=h2.own
   refine ze rfl (hW.rS (n:=9) (x:=r) rfl ?_)
   refine h2.app hB2 (m:=s.size / 4+1) (by rw[List.length_map];exact hyl) (by simp[Value.oneCell']) (by omega) (by omega) hW hO hF hrl λr' w3 hW3 hfin=>?_
   refine ze rfl ⟨hW3.wr (n:=9) (by simp),Nw.gen λw4 e4=>?_⟩
   have c4:Chg b w3 w4:=by rw[e4];exact Chg.set _ _ _ _
   have hW4:Blk w4 b 279 (wrV f bd r' room):=by rw[e4];exact hW3.set 9 _
   clear e4
   refine ze rfl (hW4.rI (n:=10) rfl (ze rfl ⟨hW4.wr (n:=10) (by simp),Nw.mk ?_⟩))
   have e:IntKind.i64.wrap ((room:Int)+((s.size / 4+1:Nat):Int))=((room+(s.size / 4+1):Nat):Int):=by
    generalize s.size / 4=q at hdiv
    rw[zq (by omega) (by omega)]
    omega
   dsimp only
   rw[e]
   obtain⟨k1,k2⟩:=hfin (room+(s.size / 4+1)) _ (c4.trans (Chg.set b 10 w4 (.int .i64 ((room+(s.size / 4+1):Nat):Int)))) (hW4.set 10 _)
   exact hR _ _ _ k1 ((Oth.below b2).trans k2) (λ_=>⟨rfl,.inl rfl,by omega⟩)
end
theorem znU{op:Int}{i:Nat}{w:World}{R:VWP}(hi:i<=9223372036854775807)(hR:∀w',Below w.heap.size w w'->R (.int .u8 (letP (flOf op) i:Int)) w') :
  cR 194 #[.int .u16 op,.int .i64 (i:Int)] w R:=by
 refine za.of (zgf op i R w ?_) λ_ _ h=>h
 have hg:=lOk (zqW op)
 have hfm:=fmIs op
 refine zi9 λw1 b1=>⟨fmO op (frm op),(frm op).isSome,rfl,?_⟩
 refine box8 rfl λw2 hB b2 z2=>?_
 have hB:Blk w2 w1.heap.size 274 (fmV (fmO op (frm op))):=hB
 refine Fm.load hB ?_
 exact zjO hfm hg hi λw3 b3=>⟨_,rfl,hR w3 ((b1.on b2).on b3)⟩
theorem zqh{c n:Int}{w:World}{R:VWP}(hR:∀w',Below w.heap.size w w'->R (.int .i64 (if zhr c n=false then 31 else 0)) w') :
  cR 197 #[.int .u8 c,.int .u32 n] w R:=by
 refine za.of (zjh c n R w ?_) λ_ _ h=>h
 refine zr0 λs w1 b1=>⟨s,_,rfl,?_⟩
 have:=hR w1 b1
 refine zI (zz (λh=>?_) (λh=>?_))
 ·rwa[if_neg (by rw[h];simp)]at this
 ·rwa[if_pos h]at this
section
variable {w0 w:World} {b:Nat} {f:Fm} {bd:Int} {room n:Nat} {R:VWP}
theorem zs9(h:WtS w0 w b f bd room n){k:Nat}(hk:k<=9223372036854775807){a:Ag}(hs:a.2.2.size<=9223372036854775807)(hr:room<=4611686018427387904)(hn:(n+65535)*4<=140737488355328)
  (hR:∀w' room' n',WtS w0 w' b f bd room' n'->(ZG (letP (flOf f.1) k:Int) a bd=0->room'=room+cost a/\(n'=n+cost a\/65535<cost a)/\n'<=n+(if a.1=3 then 65535 else 1))->R (.int .i64 (ZG (letP (flOf f.1) k:Int) a bd)) w') :
  cR 181 #[.pointer (some (blk b)),.int .i64 (k:Int),.agg #[.int .u8 a.1,.int .u32 a.2.1,.string a.2.2]] w R:=by
 refine za.of (zf3 (some (blk b)) k (a.1,a.2.1,a.2.2,()) R w ?_) λ_ _ h=>h
 refine zm λw1 hA1 b1 z1=>?_
 have hA1:Blk w1 w.heap.size 123 [.int .u8 a.1,.int .u32 a.2.1,.string a.2.2]:=hA1
 have h1:=h.step b1
 obtain⟨r1,xs1,hW1,_⟩:=h1.own
 refine ze rfl (hW1.rI0 rfl ?_)
 refine znU hk λw2 b2=>⟨_,rfl,?_⟩
 generalize letP (flOf f.1) k=c at hR
 have hA2:=hA1.below b2
 have h2:=h1.step b2
 refine hA2.rI0 rfl ?_
 have hbne:w.heap.size≠b:=by
  obtain⟨r,xs,hW,_⟩:=h.own
  have:=hW.lt
  omega
 have key:ZG (c:Int) a bd=if (c:Int)=0\/a.1≠yJ c then 42 else if (a.1=3/\a.2.1≠0)\/(a.1≠3/\a.2.2.size≠0) then 42
   else if a.1=1/\(a.2.1=0\/bd<=a.2.1) then 43 else if a.1=4/\zhr c a.2.1=false then 31 else if nul a.2.2=true then 13 else 0:=rfl
 refine zo.cut (λ_ w'=>WtS w0 w' b f bd room n/\Blk w' w.heap.size 123 [.int .u8 a.1,.int .u32 a.2.1,.string a.2.2]/\¬((c:Int)=0\/a.1≠yJ c)/\a.1≠3/\a.2.2.size=0) ?_ ?_
 ·refine zk (λe=>?_) (λe=>?_)
  ·have:=hR w2.drew room n h2.drew (λh=>by rw[key,if_pos (.inl e)]at h;cases h)
   rwa[key,if_pos (.inl e)]at this
  ·refine hA2.drew.rI0 rfl ?_
   refine zma ⟨_,rfl,hA2.drew.cell0 rfl,?_⟩
   refine zy (λe2=>?_) (λe2=>?_)
   ·have:=hR w2.drew room n h2.drew (λh=>by rw[key,if_pos (.inr e2)]at h;cases h)
    rwa[key,if_pos (.inr e2)]at this
   ·have hno:¬((c:Int)=0\/a.1≠yJ c):=λh=>h.elim e (λh=>h e2)
    rw[if_neg hno]at key
    refine zk (λe3=>?_) (λe3=>?_)
    ·refine hA2.drew.rI (n:=1) rfl (zy (λe4=>?_) (λe4=>?_))
     ·have:=hR w2.drew room n h2.drew (λh=>by rw[key,if_pos (.inl ⟨e3,e4⟩)]at h;cases h)
      rwa[key,if_pos (.inl ⟨e3,e4⟩)]at this
     ·refine zI (zk (λ_=>zk (λ_=>?_) (λh=>absurd e3 h)) (λh=>absurd e3 h))
      refine hA2.drew.rT (n:=2) rfl ?_
      have e3':a.1=3:=e3
      rw[if_neg (λh=>h.elim (λh=>h.2 e4) (λh=>h.1 e3)),if_neg (λh=>by have:=h.1;omega),if_neg (λh=>by have:=h.1;omega)]at key
      refine zst h2.drew hs hr hn λw3 room' n' h3 _ hrn=>⟨_,rfl,?_⟩
      have:=hR w3 room' n' h3 (λh0=>by
       have hnul:nul a.2.2=false:=by
        rw[key]at h0
        split at h0
        ·cases h0
        ·rename_i hh;simpa using hh
       obtain⟨g1,g2,g3⟩:=hrn hnul
       unfold cost
       rw[if_pos e3',if_pos e3']
       exact⟨g1,g2,g3⟩)
      rwa[key]at this
    ·refine zI (zk (λh=>absurd h e3) (λ_=>?_))
     refine hA2.drew.rT (n:=2) rfl ?_
     rw[zoc]
     refine zI (zj (λe5=>?_) (λe5=>?_))
     ·exact zk (λh=>absurd h e3) (λ_=>⟨h2.drew,hA2.drew,hno,e3,e5⟩)
     ·have:=hR w2.drew room n h2.drew (λh=>by rw[key,if_pos (.inr ⟨e3,e5⟩)]at h;cases h)
      rwa[key,if_pos (.inr ⟨e3,e5⟩)]at this
 ·rintro _ w3 ⟨h3,hA3,hno,hn3,hsz⟩
  have hnul:nul a.2.2=false:=by
   unfold nul
   have:a.2.2.data.toList=[]:=List.eq_nil_of_length_eq_zero (by rw[Array.length_toList];exact hsz)
   rw[this]
   rfl
  rw[if_neg hno,if_neg (λh=>h.elim (λh=>hn3 h.1) (λh=>h.2 hsz)),hnul]at key
  simp only[Bool.false_eq_true,if_false]at key
  have hcost:cost a=1:=by unfold cost;rw[if_neg hn3]
  refine hA3.rI (n:=1) rfl ?_
  refine zpl h3 hr (by omega) λw4 h4 o4=>⟨rfl,?_⟩
  have hA4:=o4 _ _ _ hA3 hbne (by decide)
  have fin:∀w',Below w4.heap.size w4 w'->R (.int .i64 (ZG c a bd)) w':=λw' hb=>hR w' (room+1) (n+1) (h4.step hb) (λ_=>by rw[hcost,if_neg hn3];exact⟨rfl,.inl rfl,Nat.le_refl _⟩)
  refine hA4.rI0 rfl (zk (λe1=>?_) (λe1=>?_))
  ·refine hA4.drew.rI (n:=1) rfl ?_
   obtain⟨r,xs,hW,_⟩:=h4.own
   refine ze rfl (hW.drew.rI (n:=8) rfl ?_)
   refine ztq ⟨_,rfl,?_⟩
   have:=fin w4.drew (Below.refl _ _).drew
   have e1':a.1=1:=e1
   have ev:ZG c a bd=if a.2.1=0 then 43 else if bd<=a.2.1 then 43 else 0:=by
    rw[key]
    by_cases x1:a.2.1=0
    ·rw[if_pos ⟨e1',.inl x1⟩,if_pos x1]
    ·rw[if_neg x1]
     by_cases x2:bd<=a.2.1
     ·rw[if_pos ⟨e1',.inr x2⟩,if_pos x2]
     ·rw[if_neg (λh=>h.2.elim x1 x2),if_neg (λh=>by have:=h.1;omega),if_neg x2]
   rwa[ev]at this
  ·rw[if_neg (λh=>e1 h.1)]at key
   refine zk (λe4=>?_) (λe4=>?_)
   ·refine hA4.rI (n:=1) rfl ?_
    refine zqh λw5 b5=>⟨_,rfl,?_⟩
    have:=fin w5 b5
    have e4':a.1=4:=e4
    have ev:ZG c a bd=if zhr c a.2.1=false then 31 else 0:=by
     rw[key]
     by_cases x1:zhr c a.2.1=false
     ·rw[if_pos ⟨e4',x1⟩,if_pos x1]
     ·rw[if_neg (λh=>x1 h.2),if_neg x1]
    rwa[ev]at this
   ·have:=fin w4 (Below.refl _ _)
    rwa[key,if_neg (λh=>e4 h.1)]at this
end
theorem zq3{f:Fm}{s:Sl}{al:List Ag}{w:World}{R:VWP}(hI:IsAg w s al)(h24:24*al.length<=140737488351232)
  (hR:∀w',Below w.heap.size w w'->R (.int .i64 (if (fitP f.1 (al.map (·.1))).2=true then 0 else 42)) w'):cR 182 #[fmA f,.slice s.a s.l s.c] w R:=by
 refine za.of (zji f s R w ?_) λ_ _ h=>h
 refine zm λw1 hB b1 z1=>?_
 have hB:Blk w1 w.heap.size 274 (fmV f):=hB
 have hlen:=hI.len
 refine zl.countSl al.length hI.bound (λk r w'=>Own w' 5 1 r ((al.take k).map λa=>Value.int .u8 a.1)/\zK w1.heap.size r/\Below w1.heap.size w1 w') ⟨Own.nil _ _ _,λa ha=>by(cases ha),Below.refl _ _⟩ ?_
 rintro k r w2 hk ⟨hO,hF,hb⟩ next hnext
 have hb0:=b1.on hb
 have hI2:=hI.below hb0
 refine zj (λh=>?_) (λh=>?_)
 ·have hlt:k<al.length:=by dsimp only at h;omega
  refine zjm hI2 hlt ?_
  refine box3 rfl λw3 h3 b3 z3=>?_
  refine h3.rI0 rfl ?_
  refine zm λw4 h4 b4 z4=>?_
  have hrl:r.l=k:=by have:=hO.1;simp[Nat.min_eq_left hk]at this;omega
  refine zhK eU8 ((hO.below b3).below b4) ((hb.on b3).on b4) hF (v:=.int .u8 al[k].1) rfl h4 (by omega) (by omega) λr' w5 h5 b5 F5=>?_
  refine hnext r' w5 hlt ⟨?_,F5,b5⟩
  rw[List.take_succ_eq_append_getElem hlt,List.map_append]
  exact h5
 ·have hk:k=al.length:=by dsimp only at h;omega
  subst hk
  rw[List.take_length]at hO
  have hB2:=hB.below hb
  refine hB2.rI0 rfl ?_
  have hO':Own w2 5 1 r ((al.map (·.1)).map (Value.int .u8)):=by rw[List.map_map];exact hO
  refine zr1 hO'.isS λw3 b3=>⟨_,_,rfl,?_⟩
  have:=hR w3 (hb0.on b3)
  refine zI (zz (λh=>by rwa[if_pos h]at this) (λh=>by rwa[if_neg (by rw[h];simp)]at this))
end Go.Proofs
namespace Go.Proofs
open Go.Gk Go.RowKit Go.Gm
theorem zrG(g:Fl)(ty re:Int)(al:List Ag)(bd:Int):zeS g ty re al bd =
  (let e1:=errK g ty re al bd al.length;let e2:=if e1=0 then(if Yp g al.length=true then 0 else 42) else e1;if e2=0 then(if 65535<zbn g al then 25 else 0) else e2):=by
 unfold zeS
 dsimp only
 by_cases h1:errK g ty re al bd al.length=0
 ·rw[if_neg (λh=>h h1),if_pos h1]
  cases hw:Yp g al.length
  ·simp
  ·simp
 ·rw[if_pos h1,if_neg h1,if_neg h1]
theorem bnd3{n n' k t C:Nat}(h1:n<=2+k+C*t)(h2:n'<=n+C):n'<=2+(k+1)+C*(t+1):=by
 rw[Nat.mul_add,Nat.mul_one]
 generalize C*t=q at h1
 omega
theorem bnd1{n n' k t C:Nat}(h1:n<=2+k+C*t)(h2:n'<=n+1):n'<=2+(k+1)+C*(t+0):=by
 rw[Nat.add_zero]
 generalize C*t=q at h1
 omega
theorem zs0{x:Ins}{al:List Ag}{bd:Int}{w:World}{R:VWP}(hI:IsAg w x.2.2.2.1 al)(h24:24*al.length<=140737488351232)(hs:∀y∈al,y.2.2.size<=9223372036854775807)
  (hR:∀(r:Sl) (op:Int) w',Below w.heap.size w w'->(zga x.1 x.2.1 x.2.2.1 al bd=0->1+r.l=ze9 (x.1,x.2.1,x.2.2.1,al)/\ze9 (x.1,x.2.1,x.2.2.1,al)<=65535)->
   R (.tuple #[.agg #[.int .u16 op,.slice r.a r.l r.c],.int .i64 (zga x.1 x.2.1 x.2.2.1 al bd)]) w') :
  cR 162 #[inA x,.int .u32 bd] w R:=by
 refine za.of (zkO x bd R w ?_) λ_ _ h=>h
 refine zm λw1 hB1 b1 z1=>?_
 have hB1:Blk w1 w.heap.size 44 (inV x):=hB1
 refine zm λw2 hC2 b2 z2=>?_
 have hC2:Blk w2 w1.heap.size 251 [.int .u16 0,.slice none 0 0]:=hC2
 have hB2:=hB1.below b2
 have hb2:=b1.on b2
 refine hB2.rI0 rfl ?_
 refine zi9 λw3 b3=>⟨fmO x.1 (frm x.1),(frm x.1).isSome,rfl,?_⟩
 refine box8 rfl λw4 hF4 b4 z4=>?_
 have hF4:Blk w4 w3.heap.size 274 (fmV (fmO x.1 (frm x.1))):=hF4
 have b24:=b3.on b4
 have hb4:=hb2.on b24
 have hB4:=hB2.below b24
 have hC4:=hC2.below b24
 have s1:=b1.size
 have s2:=b2.size
 have s3:=b3.size
 have s4:=b4.size
 have hlen:=hI.len
 refine zz (λhn=>?_) (λhn=>?_)
 ·have hfr:frm x.1=none:=by
   cases h:frm x.1 with
   |none=>rfl
   |some g=>rw[h]at hn;cases hn
  have hfp:zga x.1 x.2.1 x.2.2.1 al bd=30:=zgb hfr
  rw[hfp]at hR
  refine st2 hC4 rfl λw5 hC5 c5=>?_
  refine hC5.rI (n:=0) rfl (hC5.rS (n:=1) (x:=⟨none,0,0⟩) rfl ?_)
  exact hR ⟨none,0,0⟩ 0 w5 (c5.below hb4 (by omega)) (λh=>by cases h)
 ·obtain⟨g,hfr⟩:∃g,frm x.1=some g:=by
   cases h:frm x.1 with
   |none=>rw[h]at hn;cases hn
   |some g=>exact⟨g,rfl⟩
  have efl:flOf x.1=g:=by unfold flOf;rw[hfr];rfl
  rw[hfr]at hF4
  rw[zd6 hfr,show ze9 (x.1,x.2.1,x.2.2.1,al)=zbn g al by unfold ze9;dsimp only;rw[hfr]]at hR
  have hop:(fmO x.1 (some g)).1=x.1:=rfl
  have hty:(fmO x.1 (some g)).2.2.1=g.ty:=rfl
  have hre:(fmO x.1 (some g)).2.2.2.1=g.re:=rfl
  have hwh:=@zrJ x.1 g hfr al bd
  generalize fmO x.1 (some g)=fm at hF4 hop hty hre
  refine Fm.load hF4 ?_
  refine zm λw5 hW5 b5 z5=>?_
  have hW5:Blk w5 w4.heap.size 279 (wrV fm bd ⟨none,0,0⟩ 0):=hW5
  have hS5:WtS w4 w5 w4.heap.size fm bd 0 0:=⟨Nat.le_refl _,b5,⟨none,0,0⟩,[],hW5,Own.nil _ _ _,(λa ha=>by cases ha),rfl⟩
  have hF5:=hF4.below b5
  have hB5:=hB4.below b5
  refine hF5.rB (n:=2) rfl (hB5.rI (n:=1) rfl ?_)
  refine zmx hS5 (by omega) (by omega) λw6 room6 n6 hS6 hr6 hn6 he6=>⟨_,rfl,?_⟩
  rw[hty]at he6⊢
  have e0:errK g x.2.1 x.2.2.1 al bd 0=if idP g.ty x.2.1 bd 40=0 then idP g.re x.2.2.1 bd 41 else idP g.ty x.2.1 bd 40:=by
   unfold errK
   rw[zr4]
   by_cases h1:idP g.ty x.2.1 bd 40=0
   ·rw[if_neg (λh=>h h1),if_pos h1]
    by_cases h2:idP g.re x.2.2.1 bd 41=0
    ·rw[if_neg (λh=>h h2),h2]
    ·rw[if_pos h2]
   ·rw[if_pos h1,if_neg h1]
  refine zo.cut (λst w'=>st.1=errK g x.2.1 x.2.2.1 al bd 0/\∃room n,WtS w4 w' w4.heap.size fm bd room n/\(errK g x.2.1 x.2.2.1 al bd 0=0->room=g.ty.toNat +g.re.toNat/\n=room)) ?_ ?_
  ·refine zk (λe=>?_) (λe=>?_)
   ·rw[if_pos e]at e0
    obtain⟨g1,g2⟩:=he6 e (by decide)
    have hF6:=hF4.below hS6.below
    have hB6:=hB4.below hS6.below
    refine hF6.rB (n:=3) rfl (hB6.rI (n:=2) rfl ?_)
    refine zmx hS6 (by omega) (by omega) λw7 room7 n7 hS7 hr7 hn7 he7=>⟨_,rfl,?_,room7,n7,hS7,λh0=>?_⟩
    ·rw[e0,hre]
    ·rw[e0]at h0
     rw[hre]at he7
     obtain⟨g3,g4⟩:=he7 h0 (by decide)
     omega
   ·rw[if_neg e]at e0
    exact⟨e0.symm,room6,n6,hS6,λh0=>absurd (e0.symm.trans h0) e⟩
  ·rintro⟨ev,_⟩ w7 ⟨hev,room7,n7,hS7,hz7⟩
   dsimp only at hev
   subst hev
   have hB7:=hB4.below hS7.below
   refine hB7.rS (n:=3) rfl ?_
   have htn:g.ty.toNat +g.re.toNat<=2:=by cases g.ty<;>cases g.re<;>decide
   refine zl.ghost (λj st w'=>∃k,k<=al.length/\j=al.length-k/\st=(errK g x.2.1 x.2.2.1 al bd k,(k:Int),())/\∃room n,WtS w4 w' w4.heap.size fm bd room n/\
    (errK g x.2.1 x.2.2.1 al bd k=0->room=g.ty.toNat +g.re.toNat +zen al k/\(n=room\/65535<room)/\n<=2+k+65535*tx al k)) al.length
    ⟨0,Nat.zero_le _,rfl,rfl,room7,n7,hS7,λh=>by obtain⟨g1,g2⟩:=hz7 h;refine⟨by rw[g1];simp[zen],.inl g2,?_⟩;simp[tx];omega⟩ ?_
   rintro _ _ w8 ⟨k,hk,rfl,rfl,room8,n8,hS8,hz8⟩ next hnext
   refine zj (λh=>?_) (λh=>?_)
   ·have hlt:k<al.length:=by dsimp only at h;omega
    have hI8:=hI.below (hb4.on hS8.below)
    refine zo.cut (λst w'=>st.1=errK g x.2.1 x.2.2.1 al bd (k+1)/\∃room n,WtS w4 w' w4.heap.size fm bd room n/\
     (errK g x.2.1 x.2.2.1 al bd (k+1)=0->room=g.ty.toNat +g.re.toNat +zen al (k+1)/\(n=room\/65535<room)/\n<=2+(k+1)+65535*tx al (k+1))) ?_ ?_
    ·refine zjm hI8 hlt ?_
     refine box3 rfl λw9 hA9 b9 z9=>?_
     have hS9:=hS8.step b9
     refine zk (λe=>?_) (λe=>?_)
     ·obtain⟨g1,g2,g3⟩:=hz8 e
      obtain⟨_,_,ha⟩:=zi2 e
      have hwe:=ziy ha
      have htx:=zua hfr (k:=k) (by omega) hwe
      have hcn:=zoo hs (k:=k) (by omega)
      refine hA9.rI (n:=0) rfl (hA9.rI (n:=1) rfl (hA9.rT (n:=2) rfl ?_))
      refine zs9 hS9 (k:=k) (by omega) (hs _ (List.getElem_mem hlt)) (by omega) (by omega) λw10 room' n' hS10 hz10=>⟨_,rfl,?_,room',n',hS10,λh0=>?_⟩
      ·rw[zgC,if_pos e,hop,efl]
       unfold werr
       rw[zp hlt]
      ·rw[zgC,if_pos e]at h0
       unfold werr at h0
       rw[zp hlt]at h0
       rw[hop,efl]at hz10
       obtain⟨q1,q2,q3⟩:=hz10 h0
       rw[zh5 hlt,zk0 hlt]
       refine⟨by omega,by omega,?_⟩
       split at q3<;>rename_i h3
       ·rw[if_pos h3];exact bnd3 g3 q3
       ·rw[if_neg h3];exact bnd1 g3 q3
     ·refine⟨?_,room8,n8,hS9,λh0=>?_⟩
      ·rw[zgC,if_neg e]
      ·rw[zgC,if_neg e]at h0
       exact absurd h0 e
    ·rintro⟨ev,_⟩ w9 ⟨hev,room9,n9,hS9,hz9⟩
     dsimp only at hev
     subst hev
     dsimp only
     rw[zE (by omega)]
     exact hnext (al.length-(k+1)) _ _ (by omega) ⟨k+1,hlt,rfl,rfl,room9,n9,hS9,hz9⟩
   ·have hk':k=al.length:=by dsimp only at h;omega
    subst hk'
    have hff:=zrG g x.2.1 x.2.2.1 al bd
    dsimp only at hff
    have hb8:=hS8.below
    have hF8:=hF4.below hb8
    have hB8:=hB4.below hb8
    have hI8:=hI.below (hb4.on hb8)
    refine zo.cut (λst w'=>st.1=(if errK g x.2.1 x.2.2.1 al bd al.length=0 then(if Yp g al.length=true then 0 else 42) else errK g x.2.1 x.2.2.1 al bd al.length)/\WtS w4 w' w4.heap.size fm bd room8 n8) ?_ ?_
    ·refine zk (λe=>?_) (λe=>?_)
     ·refine Fm.load hF8 ?_
      refine hB8.rS (n:=3) rfl ?_
      refine zq3 (f:=fm) hI8 h24 λw9 b9=>⟨_,rfl,?_,hS8.step b9⟩
      obtain⟨_,_,ha⟩:=zi2 e
      rw[if_pos e,hop,hwh (ziy ha)]
     ·exact⟨by rw[if_neg e],hS8⟩
    ·rintro⟨ev,_⟩ w9 ⟨hev,hS9⟩
     dsimp only at hev
     rw[<-hev]at hff
     have hroom:ev=0->errK g x.2.1 x.2.2.1 al bd al.length=0:=by
      intro h
      rw[h]at hev
      refine Classical.byContradiction λhne=>?_
      rw[if_neg hne]at hev
      exact hne hev.symm
     obtain⟨r,xs,hW9,hO9,hFr9,hrl9⟩:=hS9.own
     refine zo.cut (λst w'=>st.1=zeS g x.2.1 x.2.2.1 al bd/\w'=w9) ?_ ?_
     ·refine zk (λe=>?_) (λe=>?_)
      ·have e':ev=0:=e
       rw[if_pos e']at hff
       obtain⟨g1,_,_⟩:=hz8 (hroom e')
       have hrp:zbn g al=1+room8:=by unfold zbn;rw[g1]
       refine hW9.rI (n:=10) rfl (zj (λhge=>⟨?_,rfl⟩) (λhlt=>⟨?_,rfl⟩))
       ·rw[hff,if_pos (by omega)]
       ·rw[hff,if_neg (by omega)];exact e
      ·have e':¬ev=0:=e
       rw[if_neg e']at hff
       exact⟨hff.symm,rfl⟩
     ·rintro⟨ev2,_⟩ w' ⟨hev2,hw'⟩
      dsimp only at hev2
      subst hw'
      have hb9:=hb4.on hS9.below
      have hC9:=hC4.below hS9.below
      have hB9:=hB4.below hS9.below
      refine zy (λe=>?_) (λe=>?_)
      ·refine st2 hC9 rfl λw10 hC10 c10=>?_
       refine hC10.rI (n:=0) rfl (hC10.rS (n:=1) (x:=⟨none,0,0⟩) rfl ?_)
       have:=hR ⟨none,0,0⟩ 0 w10 (c10.below hb9 (by omega)) (λh=>absurd (hev2.trans h) e)
       rw[<-hev2]at this
       exact this
      ·have e':ev2=0:=e
       refine hB9.drew.rI0 rfl (hW9.drew.rS (n:=9) (x:=r) rfl ?_)
       refine st2 hC9.drew rfl λw10 hC10 c10=>?_
       refine hC10.rI (n:=0) rfl (hC10.rS (n:=1) (x:=r) rfl ?_)
       have hf0:zeS g x.2.1 x.2.2.1 al bd=0:=hev2.symm.trans e'
       have:=hR r x.1 w10 (c10.below hb9.drew (by omega)) (λ_=>by
        rw[hf0]at hff
        have h0:ev=0:=by
         refine Classical.byContradiction λhne=>?_
         rw[if_neg hne]at hff
         exact hne hff.symm
        rw[if_pos h0]at hff
        have hle:¬65535<zbn g al:=by
         intro h
         rw[if_pos h]at hff
         cases hff
        obtain⟨g1,g2,_⟩:=hz8 (hroom h0)
        have hrp:zbn g al=1+room8:=by unfold zbn;rw[g1]
        omega)
       rw[hf0]at this
       exact this
theorem zop{w:World}{R:VWP}(hR:∀w',Below w.heap.size w w'->R (.tuple #[.int .i64 5,.agg #[.int .i64 0,.int .i64 0]]) w'):cR 178 #[.slice none 0 0] w R:=by
 refine za.of (zgT ⟨none,0,0⟩ R w ?_) λ_ _ h=>h
 refine zm λw1 hB b1 z1=>?_
 have hB:Blk w1 w.heap.size 29 [.int .i64 0,.int .i64 0]:=hB
 refine zl.ghost (λj st w'=>j=0/\st=((5:Int),(0:Int),())/\w'=w1) 0 ⟨rfl,rfl,rfl⟩ ?_
 rintro _ _ w' ⟨rfl,rfl,hw⟩ next hnext
 subst hw
 refine zj (λh=>absurd h (by simp)) (λ_=>?_)
 refine st2 hB rfl λw2 h2 c2=>?_
 exact Sp.load h2 (hR w2 (c2.below b1 (Nat.le_refl _)))
theorem zs2{w:World}{R:VWP}(hR:∀w',Below w.heap.size w w'->R (.tuple #[.int .i64 5,.int .i64 0]) w'):cR 161 #[.slice none 0 0] w R:=by
 refine za.of (zjt ⟨none,0,0⟩ R w ?_) λ_ _ h=>h
 refine zop λw1 b1=>⟨5,(0,0,()),rfl,?_⟩
 refine box2 rfl λw2 h2 b2 z2=>?_
 exact h2.drew.rI0 rfl (hR w2.drew (b1.on b2).drew)
theorem eRaw:Yq Tryz.prog 211 251 2 32:=⟨by kernel_rfl,Tryz.t251,.agg #[.int .u16 0,.slice none 0 0],by kernel_rfl,rfl,rfl,rfl,rfl⟩
theorem zqn{P:Program}{t e:TypeId}{sz bytes:Nat}(he:Yq P t e sz bytes){w0 w:World}{s:Sl}{xs:List Value}(h:Own w e sz s xs)(hb:Below w0.heap.size w0 w)(hF:zK w0.heap.size s){vs:List Value}(hvs:vs.length=sz)(hv:∀u∈vs,u.oneCell'=true){b c:Nat}{T:TypeId}
  (hB:Blk w b T vs) (h63:s.l+1<=9223372036854775807) (hbytes:(s.l+1)*bytes<=140737488355328) {k:Sl->World->Prop}
  (hk:∀r w',Own w' e sz r (xs++vs)->r.l=s.l+1->Below w0.heap.size w0 w'->zK w0.heap.size r->k r w'):zA P t (.slice s.a s.l s.c) (.slice (some (blk b)) 1 c) w k:=by
 refine yV he h (news:=vs) (by omega) (λj u hj=>hB.cell hj) hv h63 hbytes λr w' h1 hl' hg=>?_
 rcases hg with⟨_,_,h3⟩ | ⟨b',h3,h4,h5⟩
 ·rw[h3]at hl';omega
 ·have hbb:w0.heap.size<=b':=by
   rcases h4 with h4 |h4
   ·exact hF _ h4
   ·have:=hb.size
    omega
  exact hk r w' h1 hl' (hb.trans (zW h5 hbb hb.size)) λa ha=>by rw[h3]at ha;cases ha;exact hbb
theorem zsi{x:Mo}{pl:List PI}{w:World}{R:VWP}(hN:IsPl w x.2.2.1 pl)(hp:PlOk pl)(hR:∀(r:Sl) w',Below w.heap.size w w'->R (.tuple #[.slice r.a r.l r.c,.agg #[.int .i64 (zx x.2.1 pl).1,.int .i64 ((zx x.2.1 pl).2:Int)]]) w') :
  cR 131 #[moA x] w R:=by
 refine za.of (zkf x R w ?_) λ_ _ h=>h
 refine zm λw1 hB1 b1 z1=>?_
 have hB1:Blk w1 w.heap.size 25 (moV x):=hB1
 refine zm λw2 hC2 b2 z2=>?_
 have hC2:Blk w2 w1.heap.size 29 [.int .i64 0,.int .i64 0]:=hC2
 have hB2:=hB1.below b2
 have hb2:=b1.on b2
 have s1:=b1.size
 have s2:=b2.size
 have hlen:=hN.len
 have h40:=hp.len
 have spot:∀{w' cs},Blk w' w1.heap.size 29 cs->cs.length=2->Below w.heap.size w w'->∀(r:Sl) (e a:Int),(e,a)=((zx x.2.1 pl).1,((zx x.2.1 pl).2:Int))->
   Wr w' (blk w1.heap.size)/\Nw (w'.setCell (blk w1.heap.size) (.int .i64 e)) λw3=>Wr w3 ((blk w1.heap.size).add 1)/\Nw (w3.setCell ((blk w1.heap.size).add 1) (.int .i64 a)) λw4=>
    ldI w4 ((blk w1.heap.size).add 0) .i64 λx4=>ldI w4 ((blk w1.heap.size).add 1) .i64 λx5=>R (.tuple #[.slice r.a r.l r.c,.agg #[.int .i64 x4,.int .i64 x5]]) w4:=by
  intro w' cs hC hl hb r e a hea
  refine st2 hC hl λw3 h3 c3=>Sp.load h3 ?_
  rw[Prod.mk.injEq]at hea
  rw[hea.1,hea.2]
  exact hR r w3 (c3.below hb (by omega))
 refine zo.cut (λ_ w'=>w'=w2/\¬(x.2.1=0\/65536<x.2.1)) ?_ ?_
 ·refine hB2.rI (n:=1) rfl (zk (λe=>?_) (λe=>?_))
  ·exact spot hC2 rfl hb2 ⟨none,0,0⟩ 24 0 (by rw[zjX (.inl e)];rfl)
  ·refine hB2.rI (n:=1) rfl (zj (λh=>?_) (λh=>⟨rfl,λh'=>h'.elim e h⟩))
   exact spot hC2 rfl hb2 ⟨none,0,0⟩ 24 0 (by rw[zjX (.inr h)];rfl)
 ·rintro _ w' ⟨hw,hbd⟩
  subst hw
  refine zs2 λw3 b3=>⟨_,_,rfl,?_⟩
  have hB3:=hB2.below b3
  have hC3:=hC2.below b3
  have hb3:=hb2.on b3
  refine hB3.rS (n:=2) rfl ?_
  rw[show IntKind.i64.wrap (1048576-5)=1048571 by decide +kernel]
  refine zl.ghost (λj st w4=>∃(k:Nat) (r:Sl) (xs:List Value),k<=pl.length/\j=pl.length-k/\st=((1048576:Int)-(totP pl k:Int),r,(k:Int),())/\totP pl k<=1048576/\(∀i,i<k->badI pl x.2.1 i=false)/\Own w4 251 2 r xs/\zK w'.heap.size r/\r.l=k/\
   Below w'.heap.size w' w4) pl.length ⟨0,⟨none,0,0⟩,[],Nat.zero_le _,rfl,rfl,(by simp[totP]),λi hi=>by omega,Own.nil _ _ _,λa ha=>by(cases ha),rfl,b3⟩ ?_
  rintro _ _ w4 ⟨k,r,xs,hk,rfl,rfl,htot,hj,hO,hF,hrl,hb4⟩ next hnext
  have hbw4:=hb2.on hb4
  have hB4:=hB2.below hb4
  have hC4:=hC2.below hb4
  refine zj (λh=>?_) (λh=>?_)
  ·have hlt:k<pl.length:=by dsimp only at h;omega
   have hmem:=List.getElem_mem hlt
   refine zjo (hN.below hbw4) hlt λt ht=>?_
   refine box4 rfl λw5 hI5 b5 z5=>?_
   have hI5:Blk w5 w4.heap.size 44 (inV (mkIn pl[k] t)):=hI5
   refine Ins.load hI5 ?_
   refine(hB4.below b5).rI (n:=1) rfl ?_
   refine zs0 (x:=mkIn pl[k] t) (ht.below b5) (hp.args _ hmem) (hp.text _ hmem) λq op w6 b6 hq=>⟨(op,q,()),_,rfl,?_⟩
   refine box2 rfl λw7 h7 b7 z7=>?_
   have h7:Blk w7 w6.heap.size 251 [.int .u16 op,.slice q.a q.l q.c]:=h7
   have b57:=(b5.on b6).on b7
   have hb7:=hb4.on b57
   refine h7.rS (n:=1) (x:=q) rfl ?_
   change yH pl[k] x.2.1=0->1+q.l=ze9 pl[k]/\ze9 pl[k]<=65535 at hq
   show ifB (yH pl[k] x.2.1 !=0) _ _
   refine zy (λe=>?_) (λe=>?_)
   ·exact spot (hC4.below b57) rfl (hbw4.on b57) ⟨none,0,0⟩ _ _ (by rw[zps hbd hlt hj e];rfl)
   ·obtain⟨q1,q2⟩:=hq e
    have ht1:=zj7 hlt
    have hleft:IntKind.i64.wrap (((1048576:Int)-(totP pl k:Int))-IntKind.i64.wrap (1+(q.l:Int)))=(1048576:Int)-(totP pl (k+1):Int):=by
     rw[zq (x:=(1:Int)+(q.l:Int)) (by omega) (by omega),zq (by omega) (by omega)]
     omega
    dsimp only
    rw[hleft]
    refine zj (λhlt0=>?_) (λhge0=>?_)
    ·exact spot (hC4.below b57) rfl (hbw4.on b57) ⟨none,0,0⟩ _ _ (by rw[zpt hbd hlt hj e (by omega)])
    ·have hbk:=zkH hlt e (show ¬1048576<totP pl (k+1) by omega)
     refine h7.rI (n:=0) rfl (h7.rS (n:=1) (x:=q) rfl ?_)
     refine zm λw8 h8 b8 z8=>?_
     have h8:Blk w8 w7.heap.size 251 [.int .u16 op,.slice q.a q.l q.c]:=h8
     refine zqn eRaw ((hO.below b57).below b8) (hb7.on b8) hF rfl (by simp[Value.oneCell']) h8 (by omega) (by omega) λr' w9 hO9 hl9 b9 F9=>?_
     rw[zE (by omega)]
     refine hnext (pl.length-(k+1)) _ _ (by omega) ⟨k+1,r',_,hlt,rfl,rfl,by omega,λi hi=>?_,hO9,F9,by omega,b9⟩
     by_cases e':i=k
     ·subst e';exact hbk
     ·exact hj i (by omega)
  ·have hk':k=pl.length:=by dsimp only at h;omega
   subst hk'
   exact spot hC4 rfl hbw4 r 0 0 (by rw[zl6 hbd hj];rfl)
theorem zp4{x:Mo}{pl:List PI}{w:World}{R:VWP}(hN:IsPl w x.2.2.1 pl)(hp:PlOk pl)(hR:∀w',Below w.heap.size w w'->R (.agg #[.int .i64 (zx x.2.1 pl).1,.int .i64 ((zx x.2.1 pl).2:Int)]) w') :
  cR 100 #[moA x] w R:=by
 refine za.of (zjg x R w ?_) λ_ _ h=>h
 refine zm λw1 hB1 b1 z1=>?_
 have hB1:Blk w1 w.heap.size 25 (moV x):=hB1
 refine zm λw2 hC2 b2 z2=>?_
 have hC2:Blk w2 w1.heap.size 29 [.int .i64 0,.int .i64 0]:=hC2
 have hb2:=b1.on b2
 refine Mo.load (hB1.below b2) ?_
 refine zsi (x:=x) (hN.below hb2) hp λr w3 b3=>⟨r,((zx x.2.1 pl).1,((zx x.2.1 pl).2:Int),()),rfl,?_⟩
 refine box2 rfl λw4 h4 b4 z4=>?_
 refine Sp.load h4 ?_
 refine st2 ((hC2.below b3).below b4) rfl λw5 h5 c5=>?_
 refine Sp.load h5 (hR w5 (c5.below ((hb2.on b3).on b4) (by have:=b1.size;omega)))
end Go.Proofs
namespace Go.Proofs
open Go.Gk Go.RowKit Go.Gm
def idsN(ty:Int)(al:List Ag)(k:Nat):List Int:=(if ty=0 then [] else [ty])++((al.take k).filter λa=>a.1==1).map (·.2.1)
def idsP(ty:Int)(al:List Ag):List Int:=idsN ty al al.length
theorem zmy{ty:Int}{al:List Ag}{k:Nat}(hk:k<al.length):idsN ty al (k+1)=idsN ty al k++(if al[k].1=1 then [al[k].2.1] else []):=by
 unfold idsN
 rw[List.take_succ_eq_append_getElem hk,List.filter_append,List.map_append,<-List.append_assoc]
 congr 1
 by_cases e:al[k].1=1
 ·rw[if_pos e]
  have:(al[k].1==1)=true:=beq_iff_eq.2 e
  simp[this]
 ·rw[if_neg e]
  have:(al[k].1==1)=false:=beq_eq_false_iff_ne.2 e
  simp[this]
theorem ztr(ty:Int)(al:List Ag)(k:Nat):(idsN ty al k).length<=k+1:=by
 unfold idsN
 rw[List.length_append,List.length_map]
 have h1:=List.length_filter_le (λa:Ag=>a.1==1) (al.take k)
 rw[List.length_take]at h1
 have h2:(if ty=0 then([]:List Int) else [ty]).length<=1:=by split<;>simp
 omega
section
variable {x:Ins} {al:List Ag} {w:World} {R:VWP}
theorem znS(hI:IsAg w x.2.2.2.1 al)(h24:24*al.length<=140737488351232)
  (hR:∀r w',Own w' 22 1 r ((idsP x.2.1 al).map (Value.int .u32))->zK w.heap.size r->Below w.heap.size w w'->R (.slice r.a r.l r.c) w'):cR 73 #[inA x] w R:=by
 refine za.of (zkN x R w ?_) λ_ _ h=>h
 refine zm λw1 hB b1 z1=>?_
 have hB:Blk w1 w.heap.size 44 (inV x):=hB
 have hlen:=hI.len
 refine zo.cut (λst w'=>Own w' 22 1 st.1 ((idsN x.2.1 al 0).map (Value.int .u32))/\zK w1.heap.size st.1/\Below w1.heap.size w1 w') ?_ ?_
 ·refine hB.rI (n:=1) rfl (zy (λe=>?_) (λe=>?_))
  ·refine hB.rI (n:=1) rfl ?_
   refine zm λw2 h2 b2 z2=>?_
   refine zhK eU32 (Own.nil _ _ _) b2 (λa ha=>by cases ha) (v:=.int .u32 x.2.1) rfl h2 (by decide) (by decide) λr w3 h3 b3 F3=>⟨?_,F3,b3⟩
   unfold idsN
   rw[if_neg e]
   simpa using h3
  ·refine⟨?_,λa ha=>by(cases ha),Below.refl _ _⟩
   unfold idsN
   rw[if_pos e]
   simpa using Own.nil w1 22 1
 ·rintro⟨r0,_⟩ w2 ⟨hO2,hF2,hb2⟩
  dsimp only at hO2 hF2⊢
  refine(hB.below hb2).rS (n:=3) rfl ?_
  refine zl.countSl al.length hI.bound (λk r w'=>Own w' 22 1 r ((idsN x.2.1 al k).map (Value.int .u32))/\zK w1.heap.size r/\Below w1.heap.size w1 w') ⟨hO2,hF2,hb2⟩ ?_
  rintro k r w3 hk ⟨hO,hF,hb⟩ next hnext
  have hb0:=b1.on hb
  have hI3:=hI.below hb0
  refine zj (λh=>?_) (λh=>?_)
  ·have hlt:k<al.length:=by dsimp only at h;omega
   refine zo.cut (λst w'=>Own w' 22 1 st.1 ((idsN x.2.1 al (k+1)).map (Value.int .u32))/\zK w1.heap.size st.1/\Below w1.heap.size w1 w') ?_ ?_
   ·refine zjm hI3 hlt ?_
    refine box3 rfl λw4 h4 b4 z4=>?_
    have hrl:r.l<=k+1:=by have:=hO.1;have h2:=ztr x.2.1 al k;rw[List.length_map]at this;omega
    refine h4.rI0 rfl (zk (λe=>?_) (λe=>?_))
    ·refine h4.rI (n:=1) rfl ?_
     refine zm λw5 h5 b5 z5=>?_
     refine zhK eU32 ((hO.below b4).below b5) ((hb.on b4).on b5) hF (v:=.int .u32 al[k].2.1) rfl h5 (by omega) (by omega) λr' w6 h6 b6 F6=>⟨?_,F6,b6⟩
     rw[zmy hlt,if_pos e,List.map_append]
     exact h6
    ·refine⟨?_,hF,hb.on b4⟩
     rw[zmy hlt,if_neg e,List.append_nil]
     exact hO.below b4
   ·rintro⟨r',_⟩ w' ⟨h1,h2,h3⟩
    exact hnext r' w' hlt ⟨h1,h2,h3⟩
  ·have hk:k=al.length:=by dsimp only at h;omega
   subst hk
   exact hR r w3 hO (λa ha=>by have:=hF a ha;have:=b1.size;omega) hb0
end
end Go.Proofs
namespace Go.Proofs
open Go.Gk Go.RowKit Go.Gm
end Go.Proofs
namespace Go.Proofs
open Go.Gk Go.RowKit Go.Gm
abbrev idsA(l:List Ag):List Int:=(l.filter λa=>a.1==1).map (·.2.1)
def allI(p:PI):List Int:=p.2.1::p.2.2.1::idsA p.2.2.2
def allP(pl:List PI):List Int:=pl.flatMap allI
open Classical in
theorem zrH{p:PI}{bd:Int}(h:yH p bd=0)(hb:0<bd)(h0:0<=p.2.1/\0<=p.2.2.1/\∀x∈p.2.2.2,0<=x.2.1) :
  (∀n∈allI p,0<=n/\n<bd)/\∀x∈p.2.2.2,x.1=1->x.2.2.size=0:=by
 unfold yH at h
 cases hfr:frm p.1 with
 |none=>rw[zgb hfr]at h;cases h
 |some g=>
  rw[zd6 hfr]at h
  have hek:errK g p.2.1 p.2.2.1 p.2.2.2 bd p.2.2.2.length=0:=by
   refine Classical.byContradiction λhne=>?_
   unfold zeS at h
   rw[if_pos hne]at h
   exact hne h
  obtain⟨e1,e2,e3⟩:=zi2 hek
  have hw:=ziy e3
  have idlt:∀{must:Bool} {n e:Int},idP must n bd e=0->e≠0->n<bd:=by
   intro must n e hi he
   unfold idP at hi
   split at hi
   ·rename_i hm
    split at hi
    ·cases hi
    ·rename_i hno
     cases must with
     |true=>exact Int.not_le.1 λhle=>hno ⟨rfl,hle⟩
     |false=>
      have:n=0:=by
       refine Classical.byContradiction λhn=>?_
       rw[bne_iff_ne.2 hn]at hm
       cases hm
      omega
   ·exact absurd hi he
  have hx:∀x∈p.2.2.2,x.1=1->(x.2.1<bd)/\x.2.2.size=0:=by
   intro x hx h1
   obtain⟨j,hj,rfl⟩:=List.mem_iff_getElem.1 hx
   have:=hw j hj
   unfold werr at this
   rw[zp hj]at this
   unfold ZG at this
   split at this
   ·cases this
   ·split at this
    ·cases this
    ·rename_i n1
     split at this
     ·cases this
     ·rename_i n2
      refine⟨Int.not_le.1 λhle=>n2 ⟨h1,.inr hle⟩,?_⟩
      refine Classical.byContradiction λhne=>n1 (.inr ⟨by rw[h1];decide,hne⟩)
  refine⟨λn hn=>?_,λx hx' h1=>(hx x hx' h1).2⟩
  unfold allI at hn
  rcases List.mem_cons.1 hn with rfl |hn
  ·exact⟨h0.1,idlt e1 (by decide)⟩
  ·rcases List.mem_cons.1 hn with rfl |hn
   ·exact⟨h0.2.1,idlt e2 (by decide)⟩
   ·obtain⟨x,hx',rfl⟩:=List.mem_map.1 hn
    obtain⟨hx1,hx2⟩:=List.mem_filter.1 hx'
    exact⟨h0.2.2 x hx1,(hx x hx1 (by simpa using hx2)).1⟩
end Go.Proofs
namespace Go.Proofs
open Go.Gk Go.RowKit Go.Gm
theorem _root_.Go.Gk.Blk.rM0{w:World}{b:Nat}{T:TypeId}{cs:List Value}(h:Blk w b T cs){x:Option Nat}(hn:cs[0]? =some (.map x)){φ:Option Nat->Prop}(hφ:φ x):ldM w (blk b) φ:=⟨x,h.cell0 hn,hφ⟩
theorem uU32:Tryz.prog.underlying 22=some (.int .u32):=by kernel_rfl
end Go.Proofs
namespace Go.Proofs
open Go.Gk
set_option linter.unusedVariables false
set_option maxRecDepth 100000
def Yc:Ann:=(.q (.seq (some ⟨[0,1],[]⟩) (.q .c) (.q (.seq (some ⟨[0,6],[]⟩) (.q .c) (.q (.q (.seq none (.one (.loop ⟨[7],[(8,(.b (.int .i64)))]⟩ (.seq none (.q .c) (.one .nil)))) (.q .nil))))))))
def ZZ(p0:Sl)(p1:Int)(R:VWP)(w:World):Prop:=zo (S:=Unit) (λm1=>ifB (decide (p1<(0:Int))) (False) (m1 () w)) (λs2 w1=>dG 111 #[.int .u64 (IntKind.u64.wrap (p0.l:Int)),.int .u64 (IntKind.u64.wrap p1)] w1 λx4 x5 w2=>zo (S:=Unit) (λm6=>ifB (decide (x4>(0:Int))) (False) (ifB (decide (x5>(9223372036854775807:Int))) (False) (m6 () w2))) (λs7 w3=>(0<=(IntKind.i64.wrap x5)/\(IntKind.i64.wrap x5)<=(IntKind.i64.wrap x5)/\8*(IntKind.i64.wrap x5)<=281474976710656/\(IntKind.i64.wrap x5)<=9223372036854775807)/\Nw (w3.alloc (.cells (madeCells #[zi 0] ((Int.toNat (IntKind.i64.wrap x5))*1)) 3)) λw4=>zom Tryz.prog #[99,99] (.slice (some (zB w3)) (Int.toNat (IntKind.i64.wrap x5)) (Int.toNat (IntKind.i64.wrap x5))) (p0.zw) w4 λx8 w5=>zl (S:=Int×Unit) (λs9 w6 n10=>ifB (decide (s9.1<((Int.toNat (IntKind.i64.wrap x5)):Int))) ((0<=s9.1/\s9.1<=((Int.toNat (IntKind.i64.wrap x5)):Int)/\((Int.toNat (IntKind.i64.wrap x5)):Int)<=((Int.toNat (IntKind.i64.wrap x5)):Int))/\(0<=(0:Int)/\0<=s9.1/\s9.1<=((Int.toNat (IntKind.i64.wrap x5)):Int))/\zom Tryz.prog #[99,99] (.slice (if (Int.toNat (IntKind.i64.wrap x5))=s9.1.toNat then(some (zB w3)) else Option.map (λa=>a.add s9.1.toNat) (some (zB w3))) ((Int.toNat (IntKind.i64.wrap x5))-s9.1.toNat) ((Int.toNat (IntKind.i64.wrap x5))-s9.1.toNat)) (.slice (if (Int.toNat (IntKind.i64.wrap x5))=0 then(some (zB w3)) else Option.map (λa=>a.add 0) (some (zB w3))) (s9.1.toNat-0) ((Int.toNat (IntKind.i64.wrap x5))-0)) w6.drew λx11 w7=>n10 ((IntKind.i64.wrap (s9.1+x11)),()) w7) (R (.slice (some (zB w3)) (Int.toNat (IntKind.i64.wrap x5)) (Int.toNat (IntKind.i64.wrap x5))) w6)) (x8,()) w5))
theorem Zy(p0)(p1)(R)(w)(h:ZZ p0 p1 R w):Calls Tryz.prog 78 #[.slice p0.a p0.l p0.c,.int .i64 p1] w (Ret R):=lwC Yc Tryz.func78 (by kernel_rfl) (by kernel_rfl) h
def zfy:Ann:=(.q (.seq none (.cond (.q (.q .nil)) .nil) (.q (.q .nil))))
def zfq(p0:Int)(p1:Int)(R:VWP)(w:World):Prop:=dG 150 #[.int .u64 p0,.int .u64 p1] w λx2 x3 w1=>R (.tuple #[.int .u64 x2,.int .u64 x3]) w1
theorem zci(p0)(p1)(R)(w)(h:zfq p0 p1 R w):Calls Tryz.prog 111 #[.int .u64 p0,.int .u64 p1] w (Ret R):=lwC zfy Tryz.func111 (by kernel_rfl) (by kernel_rfl) h
def zd0:Ann:=(.q (.q (.q (.q (.q (.q (.q (.q (.q (.q (.q (.q .nil))))))))))))
def YI(p0:Int)(p1:Int)(R:VWP)(w:World):Prop:=R (.tuple #[.int .u64 (IntKind.u64.wrap ((IntKind.u64.wrap ((IntKind.u64.wrap ((Int.fdiv p0 (2 ^ (min 32 (IntKind.bits .u64))))*(Int.fdiv p1 (2 ^ (min 32 (IntKind.bits .u64))))))+(Int.fdiv (IntKind.u64.wrap ((IntKind.u64.wrap ((Int.fdiv p0 (2 ^ (min 32 (IntKind.bits .u64))))*(IntKind.u64.wrap (BitVec.toNat (BitVec.ofInt (IntKind.bits .u64) p1 &&& BitVec.ofInt (IntKind.bits .u64) 4294967295):Int))))+(Int.fdiv (IntKind.u64.wrap ((IntKind.u64.wrap (BitVec.toNat (BitVec.ofInt (IntKind.bits .u64) p0 &&& BitVec.ofInt (IntKind.bits .u64) 4294967295):Int))*(IntKind.u64.wrap (BitVec.toNat (BitVec.ofInt (IntKind.bits .u64) p1 &&& BitVec.ofInt (IntKind.bits .u64) 4294967295):Int)))) (2 ^ (min 32 (IntKind.bits .u64)))))) (2 ^ (min 32 (IntKind.bits .u64))))))+(Int.fdiv (IntKind.u64.wrap ((IntKind.u64.wrap (BitVec.toNat (BitVec.ofInt (IntKind.bits .u64) (IntKind.u64.wrap ((IntKind.u64.wrap ((Int.fdiv p0 (2 ^ (min 32 (IntKind.bits .u64))))*(IntKind.u64.wrap (BitVec.toNat (BitVec.ofInt (IntKind.bits .u64) p1 &&& BitVec.ofInt (IntKind.bits .u64) 4294967295):Int))))+(Int.fdiv (IntKind.u64.wrap ((IntKind.u64.wrap (BitVec.toNat (BitVec.ofInt (IntKind.bits .u64) p0 &&& BitVec.ofInt (IntKind.bits .u64) 4294967295):Int))*(IntKind.u64.wrap (BitVec.toNat (BitVec.ofInt (IntKind.bits .u64) p1 &&& BitVec.ofInt (IntKind.bits .u64) 4294967295):Int)))) (2 ^ (min 32 (IntKind.bits .u64)))))) &&& BitVec.ofInt (IntKind.bits .u64) 4294967295):Int))+(IntKind.u64.wrap ((IntKind.u64.wrap (BitVec.toNat (BitVec.ofInt (IntKind.bits .u64) p0 &&& BitVec.ofInt (IntKind.bits .u64) 4294967295):Int))*(Int.fdiv p1 (2 ^ (min 32 (IntKind.bits .u64)))))))) (2 ^ (min 32 (IntKind.bits .u64)))))),.int .u64 (IntKind.u64.wrap (p0*p1))]) w
theorem zf8(p0)(p1)(R)(w)(h:YI p0 p1 R w):Calls Tryz.prog 150 #[.int .u64 p0,.int .u64 p1] w (Ret R):=lwC zd0 Tryz.func150 (by kernel_rfl) (by kernel_rfl) h
end Go.Proofs
namespace Go.Proofs
open Go.Gk Go.RowKit
theorem zmI{n:Nat}(hn:n<=65536):IntKind.u64.wrap (n:Int)=n:=by rw[IntKind.wrap_u64];omega
theorem zhH{n:Nat}(hn:n<=65536):((BitVec.toNat (BitVec.ofInt (IntKind.bits .u64) (n:Int) &&& BitVec.ofInt (IntKind.bits .u64) (4294967295:Int)):Nat):Int)=n:=by
 have h:(BitVec.ofInt 64 (n:Int) &&& BitVec.ofInt 64 (4294967295:Int)).toNat=n:=by
  rw[BitVec.toNat_and,BitVec.toNat_ofInt,BitVec.toNat_ofInt]
  have e1:((n:Int) % ((2 ^ 64:Nat):Int)).toNat=n:=by omega
  have e2:((4294967295:Int) % ((2 ^ 64:Nat):Int)).toNat=2 ^ 32-1:=by decide
  rw[e1,e2,Nat.and_two_pow_sub_one_eq_mod]
  omega
 exact congrArg Int.ofNat h
theorem zmd{n:Nat}(hn:n<=65536){w:World}{R:VWP}(hR:R (.tuple #[.int .u64 0,.int .u64 (n:Int)]) w):cR 150 #[.int .u64 1,.int .u64 (n:Int)] w R:=by
 refine za.of (zf8 1 n R w ?_) λ_ _ h=>h
 unfold YI
 have e0:((2:Int) ^ (min 32 (IntKind.bits .u64)))=4294967296:=by decide
 have e1:Int.fdiv 1 4294967296=0:=by decide
 have e2:Int.fdiv (n:Int) 4294967296=0:=by rw[Int.fdiv_eq_ediv_of_nonneg _ (by decide)];omega
 have m1:((BitVec.toNat (BitVec.ofInt (IntKind.bits .u64) (1:Int) &&& BitVec.ofInt (IntKind.bits .u64) (4294967295:Int)):Nat):Int)=1:=zhH (n:=1) (by decide)
 have m0:((BitVec.toNat (BitVec.ofInt (IntKind.bits .u64) (0:Int) &&& BitVec.ofInt (IntKind.bits .u64) (4294967295:Int)):Nat):Int)=0:=zhH (n:=0) (by decide)
 have u0:IntKind.u64.wrap (0:Int)=0:=by decide
 have u1:IntKind.u64.wrap (1:Int)=1:=by decide
 have f0:Int.fdiv 0 4294967296=0:=by decide
 simp only[e0,e1,e2,zhH hn,m1,zmI hn,u0,u1,Int.zero_mul,Int.one_mul,Int.mul_zero,Int.add_zero,f0,m0]
 exact hR
theorem zmV{B:Nat}{w w':World}(h:Below B w w'){g:Nat}(hg:B<=g)(cs:Array Value):Below B w (w'.setRow g cs):=
 ⟨h.os,h.tape,h.output,by simpa[World.setRow] using h.size,λk hk=>(setRow_other w' g k cs (by omega)).trans (h.block k hk)⟩
theorem zjk{w:World}{b o:Nat}{cs:List Value}(hD:Blk w b 3 cs){a:Addr}{dl dc sl sc:Nat}{news:List Value}(hn:news.length=Nat.min sl dl)(hsrc:∀j v,news[j]? =some v->w.cell? (a.add j)=some v)
  (hfit:o+news.length<=cs.length) (h1:∀v∈news,v.oneCell'=true) {k:Int->World->Prop}
  (hk:∀w',Blk w' b 3 (cs.take o++news++cs.drop (o+news.length))->(∀B w0,Below B w0 w->B<=b->Below B w0 w')->k (news.length:Int) w') :
  zom Tryz.prog #[99,99] (.slice (some ⟨b,o,none⟩) dl dc) (.slice (some a) sl sc) w k:=by
 have hun:(Tryz.prog).underlying 99=some (.slice 3):=by kernel_rfl
 have hsz:((Tryz.prog).info? 3).map (·.size)=some 1:=by kernel_rfl
 have hc:=run_copy_row (P:=Tryz.prog) w 99 99 0 3 b o dl dc a sl sc cs.toArray 3 news hun hsz hD hn hsrc (by simpa using hfit) h1
 refine⟨_,_,hc,hk _ ?_ λB w0 hb hB=>zmV hb hB _⟩
 exact setRow_heap w b _ _ _ _ hD
set_option maxHeartbeats 1000000 in
theorem znX{n:Nat}(hn:n<=65536)(hn1:1<=n){v:Int}{xb:Nat}{w:World}{R:VWP}(hx:Blk w xb 3 [.int .i64 v])
  (hR:∀b w',Blk w' b 3 (List.replicate n (.int .i64 v))->w.heap.size<=b->Below w.heap.size w w'->R (.slice (some (blk b)) n n) w') :
  cR 78 #[.slice (some (blk xb)) 1 1,.int .i64 (n:Int)] w R:=by
 refine za.of (Zy ⟨some (blk xb),1,1⟩ n R w ?_) λ_ _ h=>h
 refine zo.cut (λ_ w'=>w'=w) (zj (λh=>by omega) λ_=>rfl) ?_
 rintro _ _ rfl
 rename_i w
 have e1:IntKind.u64.wrap (((1:Nat):Nat):Int)=1:=by decide
 dsimp only
 rw[e1,zmI hn]
 refine za.of (zci 1 n _ w ?_) λ_ _ h=>h
 refine zmd hn ⟨0,n,rfl,0,n,rfl,?_⟩
 refine zo.cut (λ_ w'=>w'=w) (zj (λh=>absurd h (by decide)) λ_=>zj (λh=>absurd h (by omega)) λ_=>rfl) ?_
 rintro _ _ rfl
 rename_i w
 have e2:IntKind.i64.wrap (n:Int)=n:=zq (by omega) (by omega)
 rw[e2]
 refine⟨⟨by omega,by omega,by omega,by omega⟩,Nw.gen λw4 hw4=>?_⟩
 obtain⟨z,hz⟩:∃z,z=Value.int .i64 0:=⟨_,rfl⟩
 obtain⟨u,hu⟩:∃u,u=Value.int .i64 v:=⟨_,rfl⟩
 have hu1:u.oneCell'=true:=by rw[hu];rfl
 dsimp only[zB,Go.Gk.Sl.zw,zi,zu,zb,zh]at hw4;rw[<-hz]at hw4
 rw[<-hu]at hx hR
 have hD4:Blk w4 w.heap.size 3 (List.replicate n z):=by rw[hw4];exact Blk.made w 3 z n
 have b4:Below w.heap.size w w4:=by rw[hw4];exact(Below.refl _ _).alloc (Nat.le_refl _) _
 have hx4:=hx.below b4
 have tn:Int.toNat ((n:Nat):Int)=n:=rfl
 rw[tn]
 refine zjk hD4 (o:=0) (news:=[u]) (by simp[Nat.min_def];omega) (λj x hj=>by
   cases j with
   |zero=>simp at hj;subst hj;exact hx4.cell rfl
   |succ j=>simp at hj) (by simp;omega) (by simpa using hu1) λw5 hD5 hb5=>?_
 have hb5:=hb5 _ _ b4 (Nat.le_refl _)
 have hD5':Blk w5 w.heap.size 3 (List.replicate 1 u++List.replicate (n-1) z):=by
  simpa using hD5
 clear hD5 hD4 hx4 hw4
 refine zl.ghost (λj st w'=>∃m:Nat,1<=m/\m<=n/\j=n-m/\st=((m:Int),())/\Below w.heap.size w w'/\Blk w' w.heap.size 3 (List.replicate m u++List.replicate (n-m) z)) (n-1)
  ⟨1,Nat.le_refl _,hn1,rfl,rfl,hb5,hD5'⟩ ?_
 rintro _ _ w6 ⟨m,hm1,hmn,rfl,rfl,hb,hD⟩ next hnext
 refine zj (λhlt=>?_) (λhge=>?_)
 ·have hlt:m<n:=by dsimp only at hlt;omega
  have tm:Int.toNat ((m:Nat):Int)=m:=rfl
  refine⟨⟨by first |omega | (dsimp only;omega),by first |omega | (dsimp only;omega),by omega⟩,⟨by omega,by first |omega | (dsimp only;omega),by first |omega | (dsimp only;omega)⟩,?_⟩
  dsimp only
  rw[tm,if_neg (by omega:¬n=m),if_neg (by omega:¬n=0)]
  simp only[Option.map_some,Nat.sub_zero]
  have ea:(blk w.heap.size).add m=⟨w.heap.size,m,none⟩:=by rw[zcm]
  have e0:(blk w.heap.size).add 0=blk w.heap.size:=by rw[zcm]
  rw[ea,e0]
  obtain⟨q,hq⟩:∃q,q=Nat.min m (n-m):=⟨_,rfl⟩
  have hq1:1<=q/\q<=n-m/\q<=m:=by rw[hq];simp only[Nat.min_def];split<;>omega
  have hD':=hD.drew
  refine zjk hD' (o:=m) (news:=List.replicate q u) (by rw[List.length_replicate,hq]) (λj x hj=>by
    have hj':j<q:=by have:=(List.getElem?_eq_some_iff.1 hj).1;simpa using this
    rw[List.getElem?_replicate,if_pos hj']at hj
    cases hj
    refine hD'.cell ?_
    rw[List.getElem?_append_left (by simp;omega),List.getElem?_replicate,if_pos (by omega)]) (by simp;omega) (λx hx=>by
    rw[List.eq_of_mem_replicate hx];exact hu1) λw7 hD7 hb7=>?_
  rw[List.length_replicate]at hD7⊢
  rw[show IntKind.i64.wrap ((m:Int)+(q:Int))=((m+q:Nat):Int) by rw[zq (by omega) (by omega)];omega]
  refine hnext (n-(m+q)) _ _ (by omega) ⟨m+q,by omega,by omega,rfl,rfl,hb7 _ _ hb.drew (Nat.le_refl _),?_⟩
  have:(List.replicate m u++List.replicate (n-m) z).take m++List.replicate q u++(List.replicate m u++List.replicate (n-m) z).drop (m+q)=List.replicate (m+q) u++List.replicate (n-(m+q)) z:=by
   rw[List.take_left' (by simp),List.drop_append,List.drop_replicate,List.drop_replicate,List.length_replicate,List.replicate_append_replicate]
   simp
   omega
  rw[<-this]
  exact hD7
 ·have:m=n:=by dsimp only at hge;omega
  subst this
  refine hR w.heap.size w6 ?_ (Nat.le_refl _) hb
  simpa using hD
end Go.Proofs
namespace Go.Proofs
open Go.Gk Go.RowKit Go.Gm
def KeyN(L:List (Int×Int)):Prop:=(L.map (·.1)).Nodup
theorem zoM(k v:Int):∀L:List (Int×Int),(setL L k v).map (·.1)=L.map (·.1)\/((setL L k v).map (·.1)=L.map (·.1)++[k]/\k ∉ L.map (·.1))
 | []=>.inr ⟨rfl,by simp⟩
 |p::r=>by
  simp only[setL]
  split
  ·rename_i e
   left
   simp[e]
  ·rename_i e
   rcases zoM k v r with h | ⟨h1,h2⟩
   ·left
    simp[h]
   ·right
    refine⟨by simp[h1],?_⟩
    rw[List.map_cons,List.mem_cons,not_or]
    exact⟨e,h2⟩
theorem KeyN.set{L:List (Int×Int)}(h:KeyN L)(k v:Int):KeyN (setL L k v):=by
 unfold KeyN at h⊢
 rcases zoM k v L with e | ⟨e,hk⟩
 ·rw[e];exact h
 ·rw[e]
  refine List.nodup_append.2 ⟨h,by simp,?_⟩
  intro a ha b hb e'
  rw[List.mem_singleton]at hb
  rw[e',hb]at ha
  exact hk ha
def mk1(pl:List PI)(id:Int)(k:Nat):Bool:=(pl.getD k pi0).2.2.1==id&&id !=0
def zQ(pl:List PI)(id:Int)(n:Nat):Int:=match (List.range n).find? (mk1 pl id) with
 |some k=>(k:Int)
 |none=>-1
def MkOk(L:List (Int×Int))(pl:List PI)(k:Nat):Prop:=∀id,(yp L id=none->∀j,k<=j->j<pl.length->mk1 pl id j=false)/\
 ∀v,yp L id=some v->∃j:Nat,v=(j:Int)/\k<=j/\j<pl.length/\mk1 pl id j=true/\∀i,k<=i->i<j->mk1 pl id i=false
theorem MkOk.end(pl:List PI):MkOk [] pl pl.length:=λ_=>⟨λ_ j h1 h2=>by omega,λv h=>by cases h⟩
theorem MkOk.step{L:List (Int×Int)}{pl:List PI}{k:Nat}(h:MkOk L pl (k+1))(hk:k<pl.length):MkOk (if pl[k].2.2.1≠0 then setL L pl[k].2.2.1 k else L) pl k:=by
 have hm:∀id,mk1 pl id k=(pl[k].2.2.1==id&&id !=0):=λid=>by unfold mk1;rw[zp hk]
 intro id
 obtain⟨h1,h2⟩:=h id
 by_cases e0:pl[k].2.2.1=0
 ·rw[if_neg (λh=>h e0)]
  have hf:mk1 pl id k=false:=by
   rw[hm,e0]
   by_cases e:id=0
   ·rw[e];rfl
   ·rw[beq_eq_false_iff_ne.2 (λh=>e h.symm),Bool.false_and]
  refine⟨λhn j g1 g2=>?_,λv hv=>?_⟩
  ·by_cases e:j=k
   ·subst e;exact hf
   ·exact h1 hn j (by omega) g2
  ·obtain⟨j,q1,q2,q3,q4,q5⟩:=h2 v hv
   refine⟨j,q1,by omega,q3,q4,λi g1 g2=>?_⟩
   by_cases e:i=k
   ·subst e;exact hf
   ·exact q5 i (by omega) g2
 ·rw[if_pos e0,ze4]
  by_cases e:id=pl[k].2.2.1
  ·rw[if_pos e]
   refine⟨λhn=>by(cases hn),λv hv=>⟨k,(Option.some.inj hv).symm,Nat.le_refl _,hk,?_,λi g1 g2=>by omega⟩⟩
   rw[hm,e]
   simp[e0]
  ·rw[if_neg e]
   have hf:mk1 pl id k=false:=by rw[hm,beq_eq_false_iff_ne.2 (λh=>e h.symm),Bool.false_and]
   refine⟨λhn j g1 g2=>?_,λv hv=>?_⟩
   ·by_cases e:j=k
    ·subst e;exact hf
    ·exact h1 hn j (by omega) g2
   ·obtain⟨j,q1,q2,q3,q4,q5⟩:=h2 v hv
    refine⟨j,q1,by omega,q3,q4,λi g1 g2=>?_⟩
    by_cases e:i=k
    ·subst e;exact hf
    ·exact q5 i (by omega) g2
theorem zmJ:Tryz.prog.underlying 98=some (.map 22 3):=by kernel_rfl
theorem zk2{y:Value}{s:Sl}{pl:List PI}{pb:Nat}{w:World}(Inv:Nat->World->Prop)(S:World->Prop)(h0:Inv pl.length w)
  (hkeep:∀k w',Inv k w'->w'.cell? (blk pb)=some (.slice s.a s.l s.c)/\IsPl w' s pl)
  (hround:∀k (hk:k<pl.length) t w',Inv (k+1) w'->zL Tryz.prog Tryz.fs y [.int .i64 (k:Int),inA (mkIn pl[k] t)] w' λv w''=>(v =.bool true/\Inv k w'')\/(v =.bool false/\S w''))
  (hend:∀w',Inv 0 w'->S w'):Calls Tryz.prog 137 #[y,.pointer (some (blk pb))] w (Ret λ_ w'=>S w'):=by
 refine Zp y (blk pb) _ w ⟨s,(hkeep _ _ h0).1,?_⟩
 have hlen:=(hkeep _ _ h0).2.len
 have hmax:=(hkeep _ _ h0).2.bound
 dsimp only
 rw[hlen,zq (by omega) (by omega)]
 refine zl.ghost (λj st w'=>j<=pl.length/\st=((j:Int)-1,())/\Inv j w') pl.length ⟨Nat.le_refl _,rfl,h0⟩ ?_
 rintro k _ w1 ⟨hk,rfl,hI⟩ next hnext
 refine zj (λh=>?_) (λh=>?_)
 ·obtain⟨j,rfl⟩:∃j,k=j+1:=⟨k-1,by dsimp only at h;omega⟩
  have hlt:j<pl.length:=by omega
  obtain⟨c1,c2⟩:=hkeep _ _ hI
  have ej:(((j+1:Nat):Int)-1)=(j:Int):=by omega
  dsimp only
  rw[ej]
  refine⟨s,c1,zjo c2 hlt λt _=>?_⟩
  refine zL.mono (hround j hlt t w1 hI) λv w2 hv=>?_
  rcases hv with⟨rfl,hv⟩ | ⟨rfl,hv⟩
  ·refine⟨true,rfl,zJ rfl ?_⟩
   rw[zq (by omega) (by omega)]
   exact hnext j _ _ (by omega) ⟨by omega,rfl,hv⟩
  ·exact⟨false,rfl,zR rfl hv⟩
 ·have hk0:k=0:=by dsimp only at h;omega
  subst hk0
  exact hend w1 hI
theorem zoS{s:Sl}{pl:List PI}{w:World}{R:VWP}(hN:IsPl w s pl)
  (hR:∀w' L,IsMp w' w.heap.size .i64 L->MkOk L pl 0->KeyN L->Below w.heap.size w w'->R (.map (some w.heap.size)) w'):cR 72 #[.slice s.a s.l s.c] w R:=by
 refine za.of (zjw s R w ?_) λ_ _ h=>h
 refine Nw.gen λw1 e1=>?_
 have m1:IsMp w1 w.heap.size .i64 []:=by rw[e1];exact IsMp.new _ _
 have b1:Below w.heap.size w w1:=by rw[e1];exact(Below.refl _ _).alloc (Nat.le_refl _) _
 have z1:w1.heap.size=w.heap.size+1:=by rw[e1];simp
 clear e1
 refine Nw.gen λw2 e2=>?_
 have hB2:Blk w2 w1.heap.size 98 [.map none]:=by rw[e2];exact Blk.new _ _ _
 have b2:Below w1.heap.size w1 w2:=by rw[e2];exact(Below.refl _ _).alloc (Nat.le_refl _) _
 have z2:w2.heap.size=w.heap.size+2:=by rw[e2];simp[z1]
 clear e2
 refine⟨hB2.wr0 (by simp),Nw.gen λw3 e3=>?_⟩
 have c3:Chg w1.heap.size w2 w3:=by rw[e3];exact Chg.set w1.heap.size 0 w2 _
 have hB3:Blk w3 w1.heap.size 98 [.map (some w.heap.size)]:=by rw[e3];exact hB2.set0 _
 clear e3
 have m3:=(m1.below b2).of_block (c3.block _ (by omega))
 have hb3:Below w.heap.size w w3:=c3.below (b1.on b2) (by omega)
 have z3:=c3.size
 refine za.of (Z2 s _ w3 ?_) λ_ _ h=>h
 refine zm λw4 hC4 b4 z4=>⟨_,rfl,?_⟩
 have hC4:Blk w4 w3.heap.size 23 [.slice s.a s.l s.c]:=hC4
 intro mk hy
 have hcf:Tryz.fs.contains 137=true:=by kernel_rfl
 unfold zqC
 simp only[hcf]
 generalize hw5:((w4.alloc (.deferred (some []))).alloc (mk .ready none))=w5
 have b5:Below w4.heap.size w4 w5:=by rw[<-hw5];exact zlr w4 _ _
 have hd5:w5.heap[w4.heap.size]? =some (.deferred (some [])):=by rw[<-hw5];exact ztw w4 _ _
 have hl5:w5.heap[w4.heap.size+1]? =some (mk .ready none):=by rw[<-hw5];exact ztx w4 _ _
 clear hw5
 have b35:=b4.on b5
 refine zk2 (y:=.func (.yield (w4.heap.size+1)) #[] #[]) (s:=s) (pl:=pl)
  (λk w'=>w'.heap[w4.heap.size+1]? =some (mk .ready none)/\w'.heap[w4.heap.size]? =some (.deferred (some []))/\Blk w' w1.heap.size 98 [.map (some w.heap.size)]/\Blk w' w3.heap.size 23 [.slice s.a s.l s.c]/\Below w.heap.size w w'/\
   ∃L,IsMp w' w.heap.size .i64 L/\MkOk L pl k/\KeyN L) _
  ⟨hl5,hd5,hB3.below b35,hC4.below b5,hb3.on b35,[],m3.below b35,MkOk.end pl,by simp[KeyN]⟩ ?_ ?_ ?_
 ·rintro k w' ⟨h1,h2,h3,h4,h5,_⟩
  exact⟨h4.cell0 rfl,hN.below h5⟩
 ·rintro k hk t w' ⟨h1,h2,h3,h4,h5,L,h6,h7,h8⟩
  have hlt':w4.heap.size+1<w'.heap.size:=(Array.getElem?_eq_some_iff.1 h1).1
  refine hy ((k:Int),mkIn pl[k] t,()) w' _ h1 ?_
  refine box4 rfl λw6 hI6 b6 z6=>?_
  have hI6:Blk w6 w'.heap.size 44 (inV (mkIn pl[k] t)):=hI6
  have hl6:w6.heap[w4.heap.size+1]? =some (mk .ready none):=(b6.block _ hlt').trans h1
  refine⟨hl6,Nw.gen λw7 e7=>?_⟩
  have s6:=b6.size
  have hlt6:w4.heap.size+1<w6.heap.size:=by omega
  have ho7:∀b,b≠w4.heap.size+1->w7.heap[b]? =w6.heap[b]?:=λb hb=>by rw[e7];exact World.putObj_heap_other hb
  have z7:w7.heap.size=w6.heap.size:=by rw[e7];simp
  have hl7:w7.heap[w4.heap.size+1]? =some (mk .busy none):=by rw[e7];exact zgw hlt6 _
  have hb7:Below w.heap.size w w7:=by rw[e7];exact(h5.on b6).putObj (by omega) _
  clear e7
  have d7:w7.heap[w4.heap.size]? =some (.deferred (some [])):=by rw[ho7 _ (by omega),b6.block _ (by omega)];exact h2
  have k3:=(h3.below b6).of_block (ho7 _ (by have:=b4.size;omega))
  have k4:=(h4.below b6).of_block (ho7 _ (by omega))
  have k6:=(h6.below b6).of_block (ho7 _ (by omega))
  have kI:=hI6.of_block (ho7 _ (by omega))
  have hst:=h7.step hk
  have hput:∀{w8:World},w8.heap[w4.heap.size+1]? =some (mk .busy none)->w4.heap.size+1<w8.heap.size:=λh=>(Array.getElem?_eq_some_iff.1 h).1
  refine kI.rI (n:=2) rfl (zy (λe=>?_) (λe=>?_))
  ·have e':pl[k].2.2.1≠0:=e
   rw[if_pos e']at hst
   refine k3.rM0 rfl (kI.rI (n:=2) rfl ?_)
   refine zrv zmJ uU32 k6 λw8 m8 c8=>?_
   have hl8:w8.heap[w4.heap.size+1]? =some (mk .busy none):=by rw[c8.block _ (by omega)];exact hl7
   refine⟨hl8,.inl ⟨rfl,zgw (hput hl8) _,?_,?_,?_,?_,_,?_,hst,h8.set _ _⟩⟩
   ·rw[World.putObj_heap_other (by omega),c8.block _ (by omega)];exact d7
   ·exact(c8.blk k3 (by omega)).put (by omega) _
   ·exact(c8.blk k4 (by omega)).put (by omega) _
   ·exact(c8.below hb7 (Nat.le_refl _)).putObj (by omega) _
   ·exact m8.of_block (World.putObj_heap_other (by omega))
  ·have e':¬pl[k].2.2.1≠0:=λh=>h e
   rw[if_neg e']at hst
   refine⟨hl7,.inl ⟨rfl,zgw (by omega) _,?_,?_,?_,?_,L,?_,hst,h8⟩⟩
   ·rw[World.putObj_heap_other (by omega)];exact d7
   ·exact k3.put (by omega) _
   ·exact k4.put (by omega) _
   ·exact hb7.putObj (by omega) _
   ·exact k6.of_block (World.putObj_heap_other (by omega))
 ·rintro w' ⟨h1,h2,h3,h4,h5,L,h6,h7,h8⟩
  refine⟨h1,?_⟩
  have k3:=h3.put (l:=w4.heap.size+1) (by omega) (mk .exhausted none)
  refine k3.rM0 rfl (zkL (by rw[World.putObj_heap_other (by omega)];exact h2) ?_)
  refine hR _ L ?_ h7 h8 ?_
  ·exact(h6.of_block (World.putObj_heap_other (by omega))).of_block (World.putObj_heap_other (by omega))
  ·exact(h5.putObj (by omega) _).putObj (by omega) _
end Go.Proofs
namespace Go.Proofs
open Go.Gk Go.RowKit Go.Gm
end Go.Proofs
namespace Go.Gk
open Go
def zd8(l:Nat):Code->Bool
 | .label l'=>Nat.beq l' l
 |_=>false
def zfg(l:Nat):Code->Option Code
 | .seq a b=>match zd8 l a with
  |true=>some b
  |false=>match findLabel a l with
   |none=>zfg l b
   |some _=>none
 |_=>none
theorem ziC{l:Nat}{a:Code}(h:zd8 l a=true):a =.label l:=by
 cases a<;>simp only[zd8]at h<;>first |cases h |skip
 rename_i l'
 have:=Nat.eq_of_beq_eq_true h
 rw[this]
theorem zjY{l:Nat}:∀{c B:Code},zfg l c=some B->findLabel c l=some (.seq .skip B)
 | .seq a b,B,h=>by
  simp only[zfg]at h
  split at h
  ·rename_i hl
   cases h
   rw[ziC hl]
   simp[findLabel]
  ·split at h
   ·rename_i hf
    simp only[findLabel,hf]
    exact zjY h
   ·cases h
 | .skip,_,h | .label _,_,h | .ret,_,h | .exit _,_,h | .goto _,_,h=>by cases h
 | .region ..,_,h | .cond ..,_,h | .block ..,_,h | .loop ..,_,h | .scope ..,_,h=>by cases h
 | .rangeFunc ..,_,h=>by cases h
def zvr(l:Nat)(next:Env->World->Prop)(K:Exit->Env->World->Prop):Exit->Env->World->Prop
 | .goto l',e,w=>match Nat.beq l' l with
  |true=>next e w
  |false=>False
 |x,e,w=>K x e w
def lwA(P:Program)(fs:List Nat)(l:Nat):Code->Ann->Env->World->(Exit->Env->World->Prop)->Prop
 | .seq a b,.seq none aa ab,e,w,K=>match zd8 l a with
  |true=>False
  |false=>lw P fs a aa e w (seqK (λe w=>lwA P fs l b ab e w K) K)
 | .seq a b,.seq (some j) aa ab,e,w,K=>match zd8 l a with
  |true=>False
  |false=>match zfb j.keep (wr a) with
   |true=>zo (λM=>lw P fs a aa e w (seqK (λe w=>match zeu j.sg e with |some s=>M s w |none=>False) K))
     (λs w=>lwA P fs l b ab (Y7 j.sg s (zbk j.keep e)) w K)
   |false=>False
 | .seq a b,.loop j ab,e,w,K=>match zd8 l a with
  |true=>match zfb j.keep (wr b) with
   |true=>match zeu j.sg e with
    |some s=>zl (λs w next=>lw P fs b ab (Y7 j.sg s (zbk j.keep e)) w (zvr l (λe w=>match zeu j.sg e with |some s=>next s w |none=>False) K)) s w
    |none=>False
   |false=>False
  |false=>False
 |_,_,_,_,_=>False
def zt5(P:Program)(fs:List Nat)(l:Nat)(fn:Func)(an:Ann)(args:List Value)(w:World)(R:VWP):Prop:=
 match fn.body with
 |some (.seq r (.scope c))=>match an with
  | .seq none ar (.one ac)=>match zfg l c with
   |some _=>lw P fs r ar (zhp args 0) w (seqK (λe w=>lwA P fs l c ac e w (zl4 (retK P fn.results.toList R))) (zl4 (retK P fn.results.toList R)))
   |none=>False
  |_=>False
 |_=>False
section
variable {P:Program}
def JB(P:Program)(l:Nat)(B:Code)(Q:Exit->Act->World->Prop):Nat->Act->World->Prop
 | 0,_,_=>False
 |n+1,a,w=>(Code.seq .skip B).wp P (Exit.jump l (JB P l B Q n) Q) a w
theorem zwe{p:Nat->Prop}:∀n,p n->∃n,p n/\∀m,p m->n<=m:=by
 intro n
 induction n using Nat.strongRecOn with
 |_ n ih=>
  intro h
  by_cases hm:∃m,m<n/\p m
  ·obtain⟨m,h1,h2⟩:=hm
   exact ih m h1 h2
  ·exact⟨n,h,λm hp=>Nat.le_of_not_lt λhlt=>hm ⟨m,hlt,hp⟩⟩
theorem zrQ{l:Nat}{J J':Act->World->Prop}{Q Q':Exit->Act->World->Prop}(hJ:∀a w,J a w->J' a w)(hQ:∀x a w,Q x a w->Q' x a w):∀x a w,Exit.jump l J Q x a w->Exit.jump l J' Q' x a w:=by
 intro x a w h
 cases x with
 |goto l'=>exact⟨h.1,hJ _ _ h.2⟩
 |_=>exact hQ _ _ _ h
theorem zp2{c B:Code}{l:Nat}{Q:Exit->Act->World->Prop}{a:Act}{w:World}(hf:findLabel c l=some (.seq .skip B))
  (first:c.wp P (Exit.jump l (λa w=>∃n,JB P l B Q n a w) Q) a w):(Code.scope c).wp P Q a w:=by
 have hl:∀(a:Act) (w:World),(∃n,JB P l B Q n a w)->∃n,JB P l B Q n a w/\∀m,JB P l B Q m a w->n<=m:=λa w ⟨n,h⟩=>zwe n h
 classical
 refine wp_scope_jumps l (λa w=>∃n,JB P l B Q n a w) (λa w=>if h:∃n,JB P l B Q n a w then Classical.choose (hl a w h) else 0) hf first ?_
 intro a w hJ
 have hs:=Classical.choose_spec (hl a w hJ)
 simp only[dif_pos hJ]
 generalize Classical.choose (hl a w hJ)=n at hs
 cases n with
 |zero=>exact hs.1.elim
 |succ k=>
  refine Code.wp_mono (zrQ ?_ λ_ _ _ h=>h) hs.1
  intro a' w' h'
  have hJ':∃n,JB P l B Q n a' w':=⟨k,h'⟩
  refine⟨hJ',?_⟩
  rw[dif_pos hJ']
  have:=(Classical.choose_spec (hl a' w' hJ')).2 k h'
  omega
theorem zrf{fs:List Nat}(hfs:zaa P fs)(hm:P.follows .mixedOrders=true){n:Nat}{c:Code}{an:Ann}{e:Env}{w:World}{K:Exit->Env->World->Prop}{a:Act}
  (hd:∀d,d∈wr c->d<n) (hr:Rep [] n a e) (h:lw P fs c an e w K):c.wp P (CQ [] n (wr c) a K) a w:=
 (wpIn_wide (n:=0)).1 (Code.wpIn_mono (F:=Wf none) (λ_ _ _ h=>h) (ze7 (ro:=none) hfs hm c an e w K a hd hr h))
theorem zrZ{fs:List Nat}(hfs:zaa P fs)(hm:P.follows .mixedOrders=true){n l:Nat}{ws:List Nat}{a0:Act}{K:Exit->Env->World->Prop}{B:Code}(hK:∀l e w,¬K (.goto l) e w) :
  ∀(c:Code) (an:Ann) (e:Env) (w:World) (a:Act),zfg l c=some B->(∀d,d∈wr c->d<n)->(∀d,d∈wr c->d∈ws)->Rep [] n a e->Same ws a0 a->lwA P fs l c an e w K->
   c.wp P (Exit.jump l (λa w=>∃k,JB P l B (CQ [] n ws a0 K) k a w) (CQ [] n ws a0 K)) a w:=by
 intro c
 induction c with
 |seq x y ihx ihy=>
  intro an e w a hB hd hw hr hs h
  have hdx:∀d,d∈wr x->d<n:=λd hh=>hd d (List.mem_append_left _ hh)
  have hdy:∀d,d∈wr y->d<n:=λd hh=>hd d (List.mem_append_right _ hh)
  have hwx:∀d,d∈wr x->d∈ws:=λd hh=>hw d (List.mem_append_left _ hh)
  have hwy:∀d,d∈wr y->d∈ws:=λd hh=>hw d (List.mem_append_right _ hh)
  cases an with
  |seq j aa ab=>
   have hnl:zd8 l x=false->zfg l y=some B:=by
    intro hx
    simp only[zfg,hx]at hB
    split at hB
    ·exact hB
    ·cases hB
   have hB':zfg l y=some B:=by
    refine hnl ?_
    cases hx:zd8 l x with
    |false=>rfl
    |true=>
     exfalso
     cases j<;>simp only[lwA,hx]at h
   cases j with
   |none=>
    simp only[lwA]at h
    split at h
    ·exact h.elim
    refine wp_seq (Code.wp_mono ?_ (zrf hfs hm hdx hr h))
    rintro z a' w' ⟨e',hr',hs',h'⟩
    have hs2:=hs.trans (hs'.mono hwx)
    cases z with
    |normal=>exact ihy ab e' w' a' hB' hdy hwy hr' hs2 h'
    |goto l'=>exact(hK _ _ _ h').elim
    |_=>exact⟨e',hr',hs2,h'⟩
   |some j=>
    simp only[lwA]at h
    split at h
    ·exact h.elim
    split at h
    ·rename_i hk
     obtain⟨M,h1,h2⟩:=h
     refine wp_seq (Code.wp_mono ?_ (zrf hfs hm hdx hr h1))
     rintro z a' w' ⟨e',hr',hs',h'⟩
     have hs2:=hs.trans (hs'.mono hwx)
     cases z with
     |normal=>
      simp only[seqK]at h'
      split at h'
      ·rename_i s hg
       exact ihy ab _ w' a' hB' hdy hwy (Zj hr' hg (hr.keep hs' hr'.1 hr'.2.1 hk)) hs2 (h2 s w' h')
      ·exact h'.elim
     |goto l'=>exact(hK _ _ _ h').elim
     |_=>exact⟨e',hr',hs2,h'⟩
    ·exact h.elim
  |loop j ab=>
   simp only[lwA]at h
   split at h
   ·rename_i hx
    have hB':y=B:=by
     simp only[zfg,hx]at hB
     exact Option.some.inj hB
    subst hB'
    split at h
    ·rename_i hk
     split at h
     ·rename_i s hg
      obtain⟨I,μ,h0,hround⟩:=h
      rw[ziC hx]
      have pass:∀(J:Act->World->Prop) s w' a',I s w'->Rep [] n a' (Y7 j.sg s (zbk j.keep e))->Same ws a0 a'->Same (wr y) a a'->
        (∀s2 w2 a2,I s2 w2->μ s2 w2<μ s w'->Rep [] n a2 (Y7 j.sg s2 (zbk j.keep e))->Same ws a0 a2->Same (wr y) a a2->J a2 w2)->y.wp P (Exit.jump l J (CQ [] n ws a0 K)) a' w':=by
       intro J s w' a' hI hr' hs' hsy hJ
       refine Code.wp_mono ?_ (zrf hfs hm hdy hr' (hround s w' hI))
       rintro z a2 w2 ⟨e2,hr2,hs2,h2⟩
       have hs3:=hs'.trans (hs2.mono hwy)
       cases z with
       |goto l'=>
        simp only[zvr]at h2
        split at h2
        ·rename_i hl
         split at h2
         ·rename_i s2 hg2
          exact⟨Nat.eq_of_beq_eq_true hl,hJ s2 w2 a2 h2.1 h2.2 (Zj hr2 hg2 (hr.keep (hsy.trans hs2) hr2.1 hr2.2.1 hk)) hs3 (hsy.trans hs2)⟩
         ·exact h2.elim
        ·exact h2.elim
       |_=>exact⟨e2,hr2,hs3,h2⟩
      have key:∀k s w' a',μ s w'<k->I s w'->Rep [] n a' (Y7 j.sg s (zbk j.keep e))->Same ws a0 a'->Same (wr y) a a'->JB P l y (CQ [] n ws a0 K) k a' w':=by
       intro k
       induction k with
       |zero=>intro s w' a' hlt;omega
       |succ k ih=>
        intro s w' a' hlt hI hr' hs' hsy
        refine wp_seq (wp_skip ?_)
        exact pass _ s w' a' hI hr' hs' hsy λs2 w2 a2 i1 i2 i3 i4 i5=>ih s2 w2 a2 (by omega) i1 i3 i4 i5
      refine wp_seq (wp_label ?_)
      exact pass _ s w a h0 (Zj hr hg (hr.keep (Same.refl _ _) hr.1 hr.2.1 hk)) hs (Same.refl _ _) λs2 w2 a2 i1 i2 i3 i4 i5=>⟨_,key (μ s2 w2+1) s2 w2 a2 (by omega) i1 i3 i4 i5⟩
     ·exact h.elim
    ·exact h.elim
   ·exact h.elim
  |_=>exact h.elim
 |_=>intro an e w a hB;cases hB
theorem zsa{l:Nat}{fs:List Nat}(hfs:zaa P fs)(hm:P.follows .mixedOrders=true){f:Nat}{fn:Func}{an:Ann}{args:List Value}{w:World}{R:VWP}
  (hf:P.funcs[f]? =some fn) (hn:(match fn.body with |some c=>zng fn.ntmps c |none=>false)=true) (hz:Nat.ble args.length fn.ntmps=true) (h:zt5 P fs l fn an args w R) :
  Calls P f args.toArray w (Ret R):=by
 unfold zt5 at h
 split at h
 ·rename_i r c hb
  split at h
  ·rename_i ar ac
   split at h
   ·rename_i B hB
    rw[hb]at hn
    simp only at hn
    have hz':=Nat.le_of_ble_eq_true hz
    have hdst:∀d,d∈wr (.seq r (.scope c))->d<fn.ntmps:=λd hd=>by simp only[zng,List.all_eq_true]at hn;exact Nat.le_of_ble_eq_true (hn d hd)
    refine calls_of_wp hf hb ?_
    have hr:Rep [] fn.ntmps {tmps:=args.toArray++Array.replicate (fn.ntmps-args.toArray.size) undef,defers:=[]} (zhp args 0):=by
     refine⟨by simp;omega,rfl,λt v ht=>?_⟩
     obtain⟨_,h2⟩:=zeL _ _ _ _ ht
     rw[Nat.sub_zero]at h2
     have hlt:t<args.length:=by
      rcases Nat.lt_or_ge t args.length with h |h
      ·exact h
      ·rw[List.getElem?_eq_none h]at h2;cases h2
     have:args[t]=v:=by rw[List.getElem?_eq_getElem hlt]at h2;exact Option.some.inj h2
     have hlt2:t<args.length+(fn.ntmps-args.length):=by omega
     simp[hlt,hlt2,this]
    have fin:∀x a w' e',Rep [] fn.ntmps a e'->zl4 (retK P fn.results.toList R) x e' w'->retK P fn.results.toList R x e' w':=by
     intro x a w' e' _ h
     cases x with
     |goto=>exact h.elim
     |_=>exact h
    refine wp_seq (Code.wp_mono ?_ (zrf hfs hm (λd hd=>hdst d (List.mem_append_left _ hd)) hr h))
    rintro x a w' ⟨e',hr',_,h'⟩
    cases x with
    |normal=>
     refine Code.wp_mono ?_ (zp2 (zjY hB) (zrZ hfs hm (ws:=wr c) (a0:=a) (K:=zl4 (retK P fn.results.toList R)) (λ_ _ _ h=>h) c ac e' w' a hB (λd hd=>hdst d (List.mem_append_right _ hd)) (λ_ hd=>hd) hr' (Same.refl _ _) h'))
     rintro x a w' ⟨e',hr',_,h'⟩
     have h':=fin _ _ _ _ hr' h'
     cases x with
     |normal=>exact⟨hr'.2.1,Y8 hr' h'⟩
     |ret=>exact⟨hr'.2.1,Y8 hr' h'⟩
     |_=>exact h'.elim
    |ret=>exact⟨hr'.2.1,Y8 hr' h'⟩
    |_=>exact h'.elim
   ·exact h.elim
  ·exact h.elim
 ·exact h.elim
end
end Go.Gk
namespace Go.Proofs
open Go.Gk
set_option linter.unusedVariables false
set_option maxRecDepth 100000
def zfT:Ann:=(.q (.q (.seq none (.q (.cond (.q .nil) .nil)) (.q .nil))))
def zfJ(p0:(Int×Int×Sl×Unit))(R:VWP)(w:World):Prop:=Nw (w.alloc (.cells #[zu p0.1,zu p0.2.1,p0.2.2.1.zw] 25)) λw1=>Nw (w1.alloc (.cells (List.toArray (List.replicate 20 (zi 0))) 82)) λw2=>Nw (w2.alloc (.cells #[zi 0,zi 0] 29)) λw3=>da w3 (zB w) λx1 x2 x3=>dI 61 #[.agg #[zu x1,zu x2,x3.zw]] w3 λx5 x6 w4=>df w4 #[zi 0,zi 0] 29 (zi x6.1) (zi x6.2.1) λw7=>ifB (Option.isNone x5) (db w7.drew (zB w4) λx7 x8=>dd w7.drew (zB w1) (zi 0) (zi 0) (zi 0) (zi 0) (zi 0) (zi 0) (zi 0) (zi 0) (zi 0) (zi 0) (zi 0) (zi 0) (zi 0) (zi 0) (zi 0) (zi 0) (zi 0) (zi 0) (zi 0) (zi 0) λw27=>w27.cell? ((zB w4).add 0)=some (zi x7)/\w27.cell? ((zB w4).add 1)=some (zi x8)/\de w27 (zB w2) (zi x7) (zi x8) λw29=>dH w29 (zB w1) λx9 x10 x11 x12 x13 x14 x15 x16 x17 x18 x19 x20 x21 x22 x23 x24 x25 x26 x27 x28=>db w29 (zB w2) λx29 x30=>R (.tuple #[.agg #[zi x9,zi x10,zi x11,zi x12,zi x13,zi x14,zi x15,zi x16,zi x17,zi x18,zi x19,zi x20,zi x21,zi x22,zi x23,zi x24,zi x25,zi x26,zi x27,zi x28],.agg #[zi x29,zi x30]]) w29) (zc x5 λa31=>dH w7.drew (a31.add 2) λx32 x33 x34 x35 x36 x37 x38 x39 x40 x41 x42 x43 x44 x45 x46 x47 x48 x49 x50 x51=>db w7.drew (zB w4) λx52 x53=>dd w7.drew (zB w1) (zi x32) (zi x33) (zi x34) (zi x35) (zi x36) (zi x37) (zi x38) (zi x39) (zi x40) (zi x41) (zi x42) (zi x43) (zi x44) (zi x45) (zi x46) (zi x47) (zi x48) (zi x49) (zi x50) (zi x51) λw49=>w49.cell? ((zB w4).add 0)=some (zi x52)/\w49.cell? ((zB w4).add 1)=some (zi x53)/\de w49 (zB w2) (zi x52) (zi x53) λw51=>dH w51 (zB w1) λx54 x55 x56 x57 x58 x59 x60 x61 x62 x63 x64 x65 x66 x67 x68 x69 x70 x71 x72 x73=>db w51 (zB w2) λx74 x75=>R (.tuple #[.agg #[zi x54,zi x55,zi x56,zi x57,zi x58,zi x59,zi x60,zi x61,zi x62,zi x63,zi x64,zi x65,zi x66,zi x67,zi x68,zi x69,zi x70,zi x71,zi x72,zi x73],.agg #[zi x74,zi x75]]) w51)
theorem zhF(p0)(R)(w)(h:zfJ p0 R w):Calls Tryz.prog 35 #[.agg #[.int .u32 p0.1,.int .u32 p0.2.1,.slice p0.2.2.1.a p0.2.2.1.l p0.2.2.1.c]] w (Ret R):=lwC zfT Tryz.func35 (by kernel_rfl) (by kernel_rfl) h
def zit:Ann:=(.q (.q (.seq none (.q (.cond (.q .nil) .nil)) (.q .nil))))
def zif(p0:(Int×Int×Sl×Unit))(R:VWP)(w:World):Prop:=Nw (w.alloc (.cells #[zu p0.1,zu p0.2.1,p0.2.2.1.zw] 25)) λw1=>Nw (w1.alloc (.cells #[zi 0,zi 0] 29)) λw2=>da w2 (zB w) λx1 x2 x3=>dI 61 #[.agg #[zu x1,zu x2,x3.zw]] w2 λx5 x6 w3=>df w3 #[zi 0,zi 0] 29 (zi x6.1) (zi x6.2.1) λw6=>ifB (Option.isNone x5) (db w6.drew (zB w3) λx7 x8=>de w6.drew (zB w1) (zi x7) (zi x8) λw8=>db w8 (zB w1) λx9 x10=>R (.tuple #[.slice none 0 0,.agg #[zi x9,zi x10]]) w8) (zc x5 λa11=>ldS w6.drew (a11.add 22) λx12=>db w6.drew (zB w3) λx13 x14=>de w6.drew (zB w1) (zi x13) (zi x14) λw10=>db w10 (zB w1) λx15 x16=>R (.tuple #[x12.zw,.agg #[zi x15,zi x16]]) w10)
theorem zjx(p0)(R)(w)(h:zif p0 R w):Calls Tryz.prog 41 #[.agg #[.int .u32 p0.1,.int .u32 p0.2.1,.slice p0.2.2.1.a p0.2.2.1.l p0.2.2.1.c]] w (Ret R):=lwC zit Tryz.func41 (by kernel_rfl) (by kernel_rfl) h
def zhn:Ann:=(.q (.seq none (.q (.q (.cond (.q .nil) .nil))) (.q (.seq none (.one (.q (.cond (.q .nil) (.q (.cond (.q .nil) .nil))))) (.q .nil)))))
def zhe(p0:(Int×Int×Sl×Unit))(R:VWP)(w:World):Prop:=Nw (w.alloc (.cells #[zu p0.1,zu p0.2.1,p0.2.2.1.zw] 25)) λw1=>Nw (w1.alloc (.cells #[zi 0,zi 0] 29)) λw2=>da w2 (zB w) λx1 x2 x3=>dJ 100 #[.agg #[zu x1,zu x2,x3.zw]] w2 λx5 w3=>df w3 #[zi 0,zi 0] 29 (zi x5.1) (zi x5.2.1) λw6=>ldI w6 (zB w3) .i64 λx6=>ifB (x6 !=0) (db w6.drew (zB w3) λx7 x8=>de w6.drew (zB w1) (zi x7) (zi x8) λw8=>db w8 (zB w1) λx9 x10=>R (.tuple #[.pointer none,.agg #[zi x9,zi x10]]) w8) (ldS w6 ((zB w).add 2) λx11=>Nw (w6.alloc (.cells (List.toArray ([(x11.zw)]++List.replicate 21 (zi 0)++[(.slice none 0 0)])) 152)) λw9=>dK 101 #[.pointer (some (zB w6))] w9 λx13 w10=>ifB x13 (de w10 (zB w1) (zi 0) (zi 0) λw12=>db w12 (zB w1) λx14 x15=>R (.tuple #[.pointer (some (zB w6)),.agg #[zi x14,zi x15]]) w12) (ldI w10.drew ((zB w6).add 1) .i64 λx16=>ldS w10.drew ((zB w).add 2) λx17=>ifB (decide (x16<(x17.l:Int))) (ldI w10.drew.drew ((zB w6).add 1) .i64 λx18=>de w10.drew.drew (zB w1) (zi 50) (zi x18) λw14=>db w14 (zB w1) λx19 x20=>R (.tuple #[.pointer none,.agg #[zi x19,zi x20]]) w14) (ldI w10.drew.drew ((zB w6).add 1) .i64 λx21=>de w10.drew.drew (zB w1) (zi 51) (zi x21) λw16=>db w16 (zB w1) λx22 x23=>R (.tuple #[.pointer none,.agg #[zi x22,zi x23]]) w16)))
theorem ziI(p0)(R)(w)(h:zhe p0 R w):Calls Tryz.prog 61 #[.agg #[.int .u32 p0.1,.int .u32 p0.2.1,.slice p0.2.2.1.a p0.2.2.1.l p0.2.2.1.c]] w (Ret R):=lwC zhn Tryz.func61 (by kernel_rfl) (by kernel_rfl) h
def zbX:Ann:=(.q (.one (.seq none (.q (.cond (.q .nil) .nil)) (.q (.q (.loop ⟨[0],[]⟩ (.seq none (.q (.cond (.q .nil) .nil)) (.seq none (.q (.cond (.q .nil) .nil)) (.q (.q (.q (.q (.seq none (.one (.loop ⟨[0,3],[]⟩ (.seq none (.q .c) (.one (.seq none (.q (.cond (.q .nil) .nil)) .nil))))) (.seq (some ⟨[0,3],[]⟩) (.q (.cond (.q .nil) .nil)) (.q (.q (.q .nil)))))))))))))))))
def zbA(p0:Option Addr)(R:VWP)(w:World):Prop:=dK 132 #[.pointer p0] w λx2 w1=>ifB (!x2) (R (.bool false) w1) (zc p0 λa3=>ldI w1.drew (a3.add 1) .i64 λx4=>zc p0 λa5=>ldS w1.drew a5 λx6=>zc p0 λa7=>(0<=(8:Int)/\(8:Int)<10)/\Wr w1.drew ((a7.add 2).add (8*2))/\Nw (w1.drew.setCell ((a7.add 2).add (8*2)) (zi x4)) λw2=>Wr w2 (((a7.add 2).add (8*2)).add 1)/\Nw (w2.setCell (((a7.add 2).add (8*2)).add 1) (zi (x6.l:Int))) λw3=>zc p0 λa8=>ldS w3.drew a8 λx9=>zc p0 λa10=>ldS w3.drew a10 λx11=>zc p0 λa12=>(0<=(9:Int)/\(9:Int)<10)/\Wr w3.drew ((a12.add 2).add (9*2))/\Nw (w3.drew.setCell ((a12.add 2).add (9*2)) (zi (x9.l:Int))) λw4=>Wr w4 (((a12.add 2).add (9*2)).add 1)/\Nw (w4.setCell (((a12.add 2).add (9*2)).add 1) (zi (x11.l:Int))) λw5=>zl (S:=Unit) (λs13 w6 n14=>dl 133 #[.pointer p0] w6 λx16 w7=>ifB (decide (x16<(0:Int))) (R (.bool true) w7) (dl 133 #[.pointer p0] w7 λx18 w8=>ifB (x18 !=1) (R (.bool false) w8) (zc p0 λa19=>ldS w8.drew a19 λx20=>zc p0 λa21=>ldI w8.drew (a21.add 1) .i64 λx22=>(0<=x22/\x22<(x20.l:Int))/\zc x20.a λa23=>ldI w8.drew ((a23.add (x22.toNat *4)).add 2) .u32 λx24=>zc p0 λa25=>ldI w8.drew (a25.add 1) .i64 λx26=>Nw (w8.drew.alloc (.cells #[zu 0,zi 0,.slice none 0 0,.slice none 0 0,zi 0] 102)) λw9=>w9.cell? (a25.add 1)=some (zi x26)/\w9.cell? ((a23.add (x22.toNat *4)).add 2)=some (zu x24)/\w9.cell? (a21.add 1)=some (zi x22)/\w9.cell? a19=some (x20.zw)/\dM w9 (blk w8.drew.heap.size) (zu x24) (zi x26) (.slice none 0 0) (.slice none 0 0) (zi 0) λw14=>zc p0 λa27=>ldI w14 (a27.add 1) .i64 λx28=>zc p0 λa29=>Wr w14 (a29.add 1)/\Nw (w14.setCell (a29.add 1) (zi (IntKind.i64.wrap (x28+(1:Int))))) λw15=>dj 134 #[.pointer p0,zi 2] w15 λx31 w16=>Wr w16 ((blk w8.drew.heap.size).add 2)/\Nw (w16.setCell ((blk w8.drew.heap.size).add 2) (x31.zw)) λw17=>zl (S:=Unit) (λs32 w18 n33=>dl 133 #[.pointer p0] w18 λx35 w19=>ifB (x35==3) (dK 135 #[.pointer p0,.pointer (some (blk w8.drew.heap.size))] w19 λx37 w20=>ifB (!x37) (R (.bool false) w20) (n33 () w20)) (zo (S:=Unit) (λm38=>ldS w19 ((blk w8.drew.heap.size).add 3) λx40=>ifB ((x40.l:Int)==0) (R (.bool false) w19) (dl 133 #[.pointer p0] w19 λx42 w21=>ifB (x42 !=8) (R (.bool false) w21) (m38 () w21))) (λs39 w22=>zc p0 λa43=>ldI w22 (a43.add 1) .i64 λx44=>Wr w22 ((blk w8.drew.heap.size).add 4)/\Nw (w22.setCell ((blk w8.drew.heap.size).add 4) (zi x44)) λw23=>zc p0 λa45=>ldI w23 (a45.add 1) .i64 λx46=>zc p0 λa47=>Wr w23 (a47.add 1)/\Nw (w23.setCell (a47.add 1) (zi (IntKind.i64.wrap (x46+(1:Int))))) λw24=>zc p0 λa48=>ldS w24.drew (a48.add 22) λx49=>dL w24.drew (blk w8.drew.heap.size) λx50 x51 x52 x53 x54=>Nw (w24.drew.alloc (.cells #[zu x50,zi x51,x52.zw,x53.zw,zi x54] 102)) λw25=>w25.cell? (a48.add 22)=some (x49.zw)/\zA Tryz.prog 95 (x49.zw) (.slice (some (blk w24.drew.heap.size)) 1 1) w25 λr55 w26=>zc p0 λa56=>Wr w26 (a56.add 22)/\Nw (w26.setCell (a56.add 22) (r55.zw)) λw27=>n14 () w27))) () w17))) () w5)
theorem ze0(p0:Option Addr)(R:VWP)(w:World)(h:zbA p0 R w):Calls Tryz.prog 101 #[.pointer p0] w (Ret R):=zsa (l:=0) (fs:=Tryz.fs) (an:=zbX) (args:=[(.pointer p0)]) Tryz.fsOK Tryz.mixed Tryz.func101 (by kernel_rfl) (by kernel_rfl) (Eq.mpr (by kernel_rfl:zt5 Tryz.prog Tryz.fs 0 Tryz.f101 zbX [(.pointer p0)] w R=zbA p0 R w) h)
def zbZ:Ann:=(.q (.seq none (.q (.one (.loop ⟨[0],[(5,(.b (.int .u8)))]⟩ (.q (.seq none .c (.seq (some ⟨[0,5],[]⟩) (.one (.q (.q (.seq (some ⟨[0,3,4,5],[]⟩) (.one (.loop ⟨[0,3,4,5],[]⟩ (.seq (some ⟨[0,3,4,5],[]⟩) (.q .c) (.one (.q (.q .c)))))) (.q (.q (.cond (.q .nil) .nil))))))) .nil)))))) (.q .nil)))
def zbC(p0:Option Addr)(R:VWP)(w:World):Prop:=zl (S:=Int×Unit) (λs1 w1 n2=>ifB (decide (s1.1<(8:Int))) (zo (S:=Unit) (λm3=>zc p0 λa5=>ldI w1 (a5.add 1) .i64 λx6=>zo (S:=Unit) (λm7=>zl (S:=Unit) (λs9 w2 n10=>zo (S:=Unit) (λm11=>dl 133 #[.pointer p0] w2.drew λx14 w3=>ifB (x14==9) (zc p0 λa15=>ldS w3 a15 λx16=>zc p0 λa17=>ldI w3 (a17.add 1) .i64 λx18=>(0<=x18/\x18<(x16.l:Int))/\zc x16.a λa19=>dc w3 (a19.add (x18.toNat *4)) λx20 x21 x22 x23=>dw 163 #[.agg #[zh x20,zu x21,zu x22,x23.zw]] w3 λx25 w4=>ifB (x25==s1.1) (m11 () w4) (m7 () w4)) (m7 () w3)) (λs12 w5=>zc p0 λa26=>ldI w5 (a26.add 1) .i64 λx27=>zc p0 λa28=>Wr w5 (a28.add 1)/\Nw (w5.setCell (a28.add 1) (zi (IntKind.i64.wrap (x27+(1:Int))))) λw6=>ifB (s1.1==1) (m7 () w6) (n10 () w6))) () w1) (λs8 w7=>zc p0 λa29=>ldI w7.drew (a29.add 1) .i64 λx30=>zc p0 λa31=>(0<=s1.1/\s1.1<(10:Int))/\Wr w7.drew ((a31.add 2).add (s1.1.toNat *2))/\Nw (w7.drew.setCell ((a31.add 2).add (s1.1.toNat *2)) (zi x6)) λw8=>Wr w8 (((a31.add 2).add (s1.1.toNat *2)).add 1)/\Nw (w8.setCell (((a31.add 2).add (s1.1.toNat *2)).add 1) (zi x30)) λw9=>ifB (s1.1==1) (zc p0 λa32=>ldI w9 (a32.add 1) .i64 λx33=>ifB (x33==x6) (R (.bool false) w9) (m3 () w9)) (m3 () w9))) (λs4 w10=>n2 ((IntKind.u8.wrap (s1.1+(1:Int))),()) w10)) (R (.bool true) w1)) (0,()) w
theorem ze2(p0)(R)(w)(h:zbC p0 R w):Calls Tryz.prog 132 #[.pointer p0] w (Ret R):=lwC zbZ Tryz.func132 (by kernel_rfl) (by kernel_rfl) h
def zaY:Ann:=(.q (.seq none (.q (.cond (.q .nil) .nil)) (.q .nil)))
def zaK(p0:Option Addr)(R:VWP)(w:World):Prop:=zc p0 λa1=>ldI w.drew (a1.add 1) .i64 λx2=>zc p0 λa3=>ldS w.drew a3 λx4=>ifB (x2==(x4.l:Int)) (R (zi (-1:Int)) w.drew) (zc p0 λa5=>ldS w.drew.drew a5 λx6=>zc p0 λa7=>ldI w.drew.drew (a7.add 1) .i64 λx8=>(0<=x8/\x8<(x6.l:Int))/\zc x6.a λa9=>dc w.drew.drew (a9.add (x8.toNat *4)) λx10 x11 x12 x13=>dl 164 #[.agg #[zh x10,zu x11,zu x12,x13.zw]] w.drew.drew λx15 w1=>R (zi x15) w1)
theorem zdP(p0)(R)(w)(h:zaK p0 R w):Calls Tryz.prog 133 #[.pointer p0] w (Ret R):=lwC zaY Tryz.func133 (by kernel_rfl) (by kernel_rfl) h
def zbY:Ann:=(.q (.q (.seq none (.one (.loop ⟨[0,1],[(5,(.b .slice))]⟩ (.seq none (.q .c) (.one (.q .nil))))) (.q .nil))))
def zbB(p0:Option Addr)(p1:Int)(R:VWP)(w:World):Prop:=zl (S:=Sl×Unit) (λs1 w1 n2=>dl 133 #[.pointer p0] w1 λx4 w2=>ifB (x4==p1) (zc p0 λa5=>ldI w2 (a5.add 1) .i64 λx6=>Nw (w2.alloc (.cells #[zi x6] 3)) λw3=>zA Tryz.prog 99 (s1.1.zw) (.slice (some (zB w2)) 1 1) w3 λr7 w4=>zc p0 λa8=>ldI w4 (a8.add 1) .i64 λx9=>zc p0 λa10=>Wr w4 (a10.add 1)/\Nw (w4.setCell (a10.add 1) (zi (IntKind.i64.wrap (x9+(1:Int))))) λw5=>n2 (r7,()) w5) (R (s1.1.zw) w2)) ((Sl.mk none 0 0),()) w
theorem ze1(p0)(p1)(R)(w)(h:zbB p0 p1 R w):Calls Tryz.prog 134 #[.pointer p0,.int .i64 p1] w (Ret R):=lwC zbY Tryz.func134 (by kernel_rfl) (by kernel_rfl) h
def zav:Ann:=(.q (.q (.q (.seq (some ⟨[0,1,5],[]⟩) (.q .c) (.q (.seq none (.q (.one (.seq (some ⟨[0,1,5],[]⟩) (.one (.seq none (.one (.seq none (.seq none (.q .c) (.q .c)) .nil)) (.q (.q (.cond (.q .nil) .nil))))) (.seq none (.q (.q (.q (.q .nil)))) .nil)))) (.q .nil)))))))
def zak(p0:Option Addr)(p1:Option Addr)(R:VWP)(w:World):Prop:=zc p0 λa1=>ldS w.drew a1 λx2=>zc p0 λa3=>ldI w.drew (a3.add 1) .i64 λx4=>(0<=x4/\x4<(x2.l:Int))/\zc x2.a λa5=>ldI w.drew ((a5.add (x4.toNat *4)).add 2) .u32 λx6=>zc p0 λa7=>ldI w.drew (a7.add 1) .i64 λx8=>Nw (w.drew.alloc (.cells #[zu 0,zi 0,zi 0] 257)) λw1=>w1.cell? (a7.add 1)=some (zi x8)/\w1.cell? ((a5.add (x4.toNat *4)).add 2)=some (zu x6)/\w1.cell? (a3.add 1)=some (zi x4)/\w1.cell? a1=some (x2.zw)/\dn w1 (blk w.drew.heap.size) (zu x6) (zi x8) (zi 0) λw4=>zc p0 λa9=>ldI w4 (a9.add 1) .i64 λx10=>zc p0 λa11=>Wr w4 (a11.add 1)/\Nw (w4.setCell (a11.add 1) (zi (IntKind.i64.wrap (x10+(1:Int))))) λw5=>zo (S:=Unit) (λm12=>zc p1 λa14=>ldS w5 (a14.add 3) λx15=>ifB ((x15.l:Int)==0) (dj 134 #[.pointer p0,zi 5] w5 λx17 w6=>m12 () w6) (dj 134 #[.pointer p0,zi 4] w5 λx19 w7=>m12 () w7)) (λs13 w8=>dj 134 #[.pointer p0,zi 0] w8 λx21 w9=>dl 133 #[.pointer p0] w9 λx23 w10=>zo (S:=Unit) (λm24=>ifB (x23==6) (zc p0 λa26=>ldI w10 (a26.add 1) .i64 λx27=>zc p0 λa28=>Wr w10 (a28.add 1)/\Nw (w10.setCell (a28.add 1) (zi (IntKind.i64.wrap (x27+(1:Int))))) λw11=>dl 133 #[.pointer p0] w11.drew λx30 w12=>ifB (x30 !=7) (R (.bool false) w12) (zc p0 λa31=>ldS w12 a31 λx32=>zc p0 λa33=>ldI w12 (a33.add 1) .i64 λx34=>(0<=(IntKind.i64.wrap (x34-(1:Int)))/\(IntKind.i64.wrap (x34-(1:Int)))<(x32.l:Int))/\zc x32.a λa35=>ldI w12 (a35.add ((Int.toNat (IntKind.i64.wrap (x34-(1:Int))))*4)) .u16 λx36=>zc p0 λa37=>ldS w12 a37 λx38=>zc p0 λa39=>ldI w12 (a39.add 1) .i64 λx40=>(0<=x40/\x40<(x38.l:Int))/\zc x38.a λa41=>ldI w12 (a41.add (x40.toNat *4)) .u16 λx42=>dK 165 #[zh x36,zh x42] w12 λx44 w13=>ifB (!x44) (R (.bool false) w13) (m24 () w13))) (ifB (x23==7) (m24 () w10) (R (.bool false) w10))) (λs25 w14=>zc p0 λa45=>ldI w14 (a45.add 1) .i64 λx46=>zc p0 λa47=>Wr w14 (a47.add 1)/\Nw (w14.setCell (a47.add 1) (zi (IntKind.i64.wrap (x46+(1:Int))))) λw15=>zc p0 λa48=>ldI w15 (a48.add 1) .i64 λx49=>Wr w15 ((blk w.drew.heap.size).add 2)/\Nw (w15.setCell ((blk w.drew.heap.size).add 2) (zi x49)) λw16=>zc p1 λa50=>ldS w16.drew (a50.add 3) λx51=>dN w16.drew (blk w.drew.heap.size) λx52 x53 x54=>Nw (w16.drew.alloc (.cells #[zu x52,zi x53,zi x54] 257)) λw17=>w17.cell? (a50.add 3)=some (x51.zw)/\zA Tryz.prog 100 (x51.zw) (.slice (some (blk w16.drew.heap.size)) 1 1) w17 λr55 w18=>zc p1 λa56=>Wr w18 (a56.add 3)/\Nw (w18.setCell (a56.add 3) (r55.zw)) λw19=>R (.bool true) w19))
theorem zdj(p0)(p1)(R)(w)(h:zak p0 p1 R w):Calls Tryz.prog 135 #[.pointer p0,.pointer p1] w (Ret R):=lwC zav Tryz.func135 (by kernel_rfl) (by kernel_rfl) h
def zhm:Ann:=(.q (.seq none (.q (.cond (.q .nil) .nil)) (.q (.q .nil))))
def zhd(p0:(Int×Int×Int×Sl×Unit))(R:VWP)(w:World):Prop:=Nw (w.alloc (.cells #[zh p0.1,zu p0.2.1,zu p0.2.2.1,p0.2.2.2.1.zw] 44)) λw1=>dc w1 (zB w) λx1 x2 x3 x4=>dK 183 #[.agg #[zh x1,zu x2,zu x3,x4.zw]] w1 λx6 w2=>ifB x6 (R (zb 8) w2) (ldI w2 (zB w) .u16 λx7=>dv 179 #[zh x7] w2 λx9 x10 w3=>Nw (w3.alloc (.cells #[zh 0,.string (BM #[]),.bool false,.bool false,.string (BM #[]),.string (BM #[]),zi 0,zb 0] 274)) λw4=>du w4 (zB w3) (zh x9.1) (.string x9.2.1) (.bool x9.2.2.1) (.bool x9.2.2.2.1) (.string x9.2.2.2.2.1) (.string x9.2.2.2.2.2.1) (zi x9.2.2.2.2.2.2.1) (zb x9.2.2.2.2.2.2.2.1) λw12=>ldI w12 ((zB w3).add 7) .u8 λx11=>R (zb x11) w12)
theorem ziH(p0)(R)(w)(h:zhd p0 R w):Calls Tryz.prog 163 #[.agg #[.int .u16 p0.1,.int .u32 p0.2.1,.int .u32 p0.2.2.1,.slice p0.2.2.2.1.a p0.2.2.2.1.l p0.2.2.2.1.c]] w (Ret R):=lwC zhm Tryz.func163 (by kernel_rfl) (by kernel_rfl) h
def zhl:Ann:=(.q (.seq none (.q (.cond (.q .nil) .nil)) (.seq none (.q (.one (.seq none (.one (.one (.seq none (.one (.seq none (.one (.seq none (.one (.seq none (.one (.seq none (.one (.seq none (.one (.seq none (.seq none (.q .c) (.seq none (.q .c) (.seq none (.q .c) (.seq none (.q .c) (.seq none (.q .c) (.seq none (.q .c) (.seq none (.q .c) (.q .c)))))))) .nil)) (.seq none (.q .nil) .nil))) (.seq none (.q .nil) .nil))) (.seq none (.q .nil) .nil))) (.seq none (.q .nil) .nil))) (.seq none (.q .nil) .nil))) (.seq none (.q .nil) .nil)))) (.seq none (.q .nil) .nil)))) (.seq none (.q (.cond (.q .nil) .nil)) (.q .nil)))))
def zhc(p0:(Int×Int×Int×Sl×Unit))(R:VWP)(w:World):Prop:=Nw (w.alloc (.cells #[zh p0.1,zu p0.2.1,zu p0.2.2.1,p0.2.2.2.1.zw] 44)) λw1=>dc w1 (zB w) λx1 x2 x3 x4=>dw 163 #[.agg #[zh x1,zu x2,zu x3,x4.zw]] w1 λx6 w2=>ifB (x6 !=8) (R (zi 9) w2) (ldI w2 (zB w) .u16 λx7=>ifB (x7==54) (R (zi 1) w2) (ifB (x7==55) (R (zi 2) w2) (ifB (x7==56) (R (zi 8) w2) (ifB (x7==248) (R (zi 3) w2) (ifB (x7==245) (R (zi 4) w2) (ifB (x7==59) (R (zi 5) w2) (ifB (x7==246) (R (zi 6) w2) (ifB (x7==247) (R (zi 6) w2) (ldI w2 (zB w) .u16 λx8=>dK 184 #[zh x8] w2 λx10 w3=>ifB x10 (R (zi 7) w3) (R (zi 0) w3))))))))))
theorem ziG(p0)(R)(w)(h:zhc p0 R w):Calls Tryz.prog 164 #[.agg #[.int .u16 p0.1,.int .u32 p0.2.1,.int .u32 p0.2.2.1,.slice p0.2.2.2.1.a p0.2.2.2.1.l p0.2.2.2.1.c]] w (Ret R):=lwC zhl Tryz.func164 (by kernel_rfl) (by kernel_rfl) h
def ziu:Ann:=(.q (.seq none (.q (.one (.q (.cond (.q .nil) (.q (.cond (.q .nil) (.q (.cond (.q .nil) .nil)))))))) (.q .nil)))
def zig(p0:Int)(p1:Int)(R:VWP)(w:World):Prop:=ifB (p1==251) (R (.bool (p0==247)) w) (ifB (p1==249) (R (.bool (p0==246)) w) (ifB (p1==250) (R (.bool true) w) (R (.bool false) w)))
theorem zjy(p0)(p1)(R)(w)(h:zig p0 p1 R w):Calls Tryz.prog 165 #[.int .u16 p0,.int .u16 p1] w (Ret R):=lwC ziu Tryz.func165 (by kernel_rfl) (by kernel_rfl) h
def zdz:Ann:=(.q (.q .nil))
def zdr(p0:(Int×Int×Int×Sl×Unit))(R:VWP)(w:World):Prop:=Nw (w.alloc (.cells #[zh p0.1,zu p0.2.1,zu p0.2.2.1,p0.2.2.2.1.zw] 44)) λw1=>ldI w1 (zB w) .u16 λx1=>ifB (x1==59) (ldS w1 ((zB w).add 3) λx2=>ifB (decide ((x2.l:Int)>0)) (ldS w1 ((zB w).add 3) λx3=>(0<=(0:Int)/\0<(x3.l:Int))/\zc x3.a λa4=>ldI w1 ((a4.add (0*3)).add 1) .u32 λx5=>R (.bool (x5==7)) w1) (R (.bool false) w1)) (R (.bool false) w1)
theorem zf7(p0)(R)(w)(h:zdr p0 R w):Calls Tryz.prog 183 #[.agg #[.int .u16 p0.1,.int .u32 p0.2.1,.int .u32 p0.2.2.1,.slice p0.2.2.2.1.a p0.2.2.2.1.l p0.2.2.2.1.c]] w (Ret R):=lwC zdz Tryz.func183 (by kernel_rfl) (by kernel_rfl) h
def zhk:Ann:=(.q (.q .nil))
def zhb(p0:Int)(R:VWP)(w:World):Prop:=ifB (decide (p0≥(249:Int))) (R (.bool (decide (p0<=(255:Int)))) w) (R (.bool false) w)
theorem ziF(p0)(R)(w)(h:zhb p0 R w):Calls Tryz.prog 184 #[.int .u16 p0] w (Ret R):=lwC zhk Tryz.func184 (by kernel_rfl) (by kernel_rfl) h
end Go.Proofs
namespace Go.Proofs
open Go.Gk Go.RowKit Go.Gm
def zf0(p:PI):Bool:=p.1==59&&(match p.2.2.2 with | []=>false |a::_=>a.2.1==7)
def zbm(op:Int):Nat:=match frm op with
 |some g=>g.2.2.2.2.2.2
 |none=>0
def zt(p:PI):Nat:=if zf0 p then 8 else zbm p.1
theorem ztM:tabR.all (λp=>decide (p.2.2.2.2.2.2.2<=8))=true:=by decide +kernel
theorem ztL(op:Int):zbm op<=8:=by
 unfold zbm
 cases h:frm op with
 |none=>exact Nat.zero_le _
 |some g=>exact of_decide_eq_true (List.all_eq_true.1 ztM _ (ZC h))
theorem zcX(p:PI):zt p<=8:=by
 unfold zt
 split
 ·exact Nat.le_refl _
 ·exact ztL _
def Y3(op:Int):Bool:=decide (249<=op/\op<=255)
def kdP(p:PI):Int:=
 if zt p≠8 then 9 else if p.1=54 then 1 else if p.1=55 then 2 else if p.1=56 then 8 else if p.1=248 then 3 else if p.1=245 then 4
 else if p.1=59 then 5 else if p.1=246 then 6 else if p.1=247 then 6 else if Y3 p.1=true then 7 else 0
def zbl(op ah:Int)(fi:Bool):Bool:=
 if op=54 then ah==0||ah==56
 else if op=55 then ah==54||ah==55
 else if op=248 then ah==54||ah==55||Y3 ah
 else if op=56 then Y3 ah
 else if ah=0\/ah=54\/ah=55\/ah=56\/Y3 ah=true then false
 else if op=245 then(ah==248||ah==245)&&!fi
 else if op=59 then(ah==248||ah==59)&&fi
 else if ah=246 then op==249||op==250
 else if ah=247 then op==250||op==251
 else true
abbrev ix(pl:List PI)(k:Nat):PI:=pl.getD k pi0
def yl(pl:List PI):Nat->Int
 | 0=>0
 |n+1=>if zt (ix pl n)=8 then(ix pl n).1 else 0
def YU(pl:List PI):Nat->Bool
 | 0=>false
 |n+1=>if (ix pl (n+1)).1=248 then(ix pl n).1==54||(ix pl n).1==55 else YU pl n
def mdlP(pl:List PI)(n:Nat):Bool:=(List.range n).any λk=>zt (ix pl k)==1
def zhx(pl:List PI)(n:Nat):Bool:=(List.range n).any λk=>decide (zt (ix pl n)<zt (ix pl k))
def mayP(pl:List PI)(n:Nat):Bool:=
 if zhx pl n=true then false
 else if zt (ix pl n)=1 then !mdlP pl n
 else if 1<zt (ix pl n)/\mdlP pl n=false then false
 else if zt (ix pl n)<8 then true
 else zbl (ix pl n).1 (yl pl n) (YU pl (n-1))
def zcj(pl:List PI):Bool:=!mdlP pl pl.length||(decide (0<pl.length)&&zt (ix pl (pl.length-1))==8&&(ix pl (pl.length-1)).1 !=56)
def chkP(pl:List PI):Int×Nat:=match (List.range pl.length).find? (λk=>!mayP pl k) with
 |some k=>(50,k)
 |none=>if zcj pl=true then(51,pl.length) else(0,0)
def layP(bound:Int)(pl:List PI):Int×Nat:=if (zx bound pl).1≠0 then zx bound pl else chkP pl
def zab(pl:List PI)(n:Nat):Prop:=∀k,k<n->mayP pl k=true
theorem ziJ{pl:List PI}{n:Nat}:mdlP pl n=true↔∃k,k<n/\zt (ix pl k)=1:=by
 unfold mdlP
 simp[List.any_eq_true]
theorem zgK{pl:List PI}{n m:Nat}(h:mdlP pl n=true)(hnm:n<=m):mdlP pl m=true:=by
 obtain⟨k,h1,h2⟩:=ziJ.1 h
 exact ziJ.2 ⟨k,by omega,h2⟩
theorem zm5{pl:List PI}{n:Nat}(h:∀k,k<n->zt (ix pl k)≠1):mdlP pl n=false:=by
 cases e:mdlP pl n
 ·rfl
 ·obtain⟨k,h1,h2⟩:=ziJ.1 e
  exact absurd h2 (h k h1)
theorem zm7{pl:List PI}{n:Nat}:zhx pl n=true↔∃k,k<n/\zt (ix pl n)<zt (ix pl k):=by
 unfold zhx
 simp[List.any_eq_true]
theorem zgo{pl:List PI}{n k:Nat}(hk:k<n)(h:zt (ix pl n)<zt (ix pl k)):mayP pl n=false:=by
 unfold mayP
 rw[if_pos (zm7.2 ⟨k,hk,h⟩)]
theorem zpb{pl:List PI}{n:Nat}(h:∀k,k<n->zt (ix pl k)<=zt (ix pl n)):¬zhx pl n=true:=λe=>by
 obtain⟨k,h1,h2⟩:=zm7.1 e
 have:=h k h1
 omega
theorem zuH{pl:List PI}{n:Nat}(h:∀k,k<n->zt (ix pl k)<=zt (ix pl n))(h1:zt (ix pl n)=1->mdlP pl n=false)(h2:1<zt (ix pl n)->mdlP pl n=true)(h8:zt (ix pl n)<8) :
  mayP pl n=true:=by
 unfold mayP
 rw[if_neg (zpb h)]
 by_cases e:zt (ix pl n)=1
 ·rw[if_pos e,h1 e]
  rfl
 ·rw[if_neg e,if_neg (λ⟨g1,g2⟩=>by rw[h2 g1]at g2;cases g2),if_pos h8]
theorem zoT{pl:List PI}{n:Nat}(h:mdlP pl n=false)(h1:1<zt (ix pl n)):mayP pl n=false:=by
 unfold mayP
 by_cases e:zhx pl n=true
 ·rw[if_pos e]
 ·rw[if_neg e,if_neg (by omega),if_pos ⟨h1,h⟩]
theorem zse{pl:List PI}{n:Nat}(h:mdlP pl n=true)(h1:zt (ix pl n)=1):mayP pl n=false:=by
 unfold mayP
 by_cases e:zhx pl n=true
 ·rw[if_pos e]
 ·rw[if_neg e,if_pos h1,h]
  rfl
theorem zgJ{pl:List PI}{n:Nat}(h:mdlP pl n=true)(h8:zt (ix pl n)=8):mayP pl n=zbl (ix pl n).1 (yl pl n) (YU pl (n-1)):=by
 unfold mayP
 rw[if_neg (zpb λk hk=>by rw[h8];exact zcX _),if_neg (by omega),if_neg (λ⟨_,g⟩=>by rw[h]at g;cases g),if_neg (by omega)]
theorem zab.step{pl:List PI}{n:Nat}(h:zab pl n)(hn:mayP pl n=true):zab pl (n+1):=λk hk=>by
 by_cases e:k=n
 ·subst e;exact hn
 ·exact h k (by omega)
theorem zur{pl:List PI}{n:Nat}(hg:zab pl n)(hn:n<pl.length)(hm:mayP pl n=false):chkP pl=(50,n):=by
 unfold chkP
 rw[zcU hn (by rw[hm];rfl) λj hj=>by rw[hg j hj];rfl]
theorem zqE{pl:List PI}(hg:zab pl pl.length):chkP pl=if zcj pl=true then(51,pl.length) else(0,0):=by
 unfold chkP
 have:(List.range pl.length).find? (λk=>!mayP pl k)=none:=by
  rw[List.find?_eq_none]
  intro j hj
  rw[hg j (List.mem_range.1 hj)]
  simp
 rw[this]
def zdZ(pl:List PI)(n:Nat):Prop:=n<=pl.length/\zab pl n/\(n<pl.length->mayP pl n=false)/\(n=pl.length->zcj pl=true)
theorem zdZ.chk{pl:List PI}{n:Nat}(h:zdZ pl n):chkP pl=(if n<pl.length then 50 else 51,n):=by
 obtain⟨h1,h2,h3,h4⟩:=h
 by_cases e:n<pl.length
 ·rw[if_pos e]
  exact zur h2 e (h3 e)
 ·have:n=pl.length:=by omega
  subst this
  rw[if_neg e,zqE h2,if_pos (h4 rfl)]
theorem zn6{pl:List PI}(h:mdlP pl pl.length=false):zcj pl=true:=by
 unfold zcj
 rw[h]
 rfl
structure InvT (pl:List PI) (p n:Nat):Prop where
 le:n<=pl.length
 good:zab pl n
 low:∀k,k<n->zt (ix pl k)<p
 mdl:2<=p->mdlP pl n=true
 stuck:n<pl.length->zt (ix pl n)<p->mayP pl n=false
theorem InvT.zero(pl:List PI):InvT pl 0 0:=⟨Nat.zero_le _,λk hk=>by omega,λk hk=>by omega,λh=>by omega,λ_ h=>by omega⟩
structure InvP (pl:List PI) (p from' n:Nat):Prop where
 le:n<=pl.length
 lo:from'<=n
 good:zab pl n
 own:∀k,from'<=k->k<n->zt (ix pl k)=p
 one:p=1->n=from'
theorem InvT.into{pl:List PI}{p n:Nat}(h:InvT pl p n):InvP pl p n n:=⟨h.le,Nat.le_refl _,h.good,λk h1 h2=>by omega,λ_=>rfl⟩
theorem InvP.may{pl:List PI}{p f n:Nat}(h:InvP pl p f n)(hT:InvT pl p f)(hp8:p<8)(hpart:zt (ix pl n)=p):mayP pl n=true:=by
 refine zuH (λk hk=>?_) (λe=>?_) (λe=>?_) (by omega)
 ·rw[hpart]
  by_cases hkf:k<f
  ·exact Nat.le_of_lt (hT.low k hkf)
  ·exact Nat.le_of_eq (h.own k (by omega) hk)
 ·have hp1:p=1:=by omega
  have hnf:=h.one hp1
  refine zm5 λk hk=>?_
  have:=hT.low k (by omega)
  omega
 ·exact zgK (hT.mdl (by omega)) h.lo
theorem InvP.step{pl:List PI}{p f n:Nat}(h:InvP pl p f n)(hT:InvT pl p f)(hp8:p<8)(hn:n<pl.length)(hpart:zt (ix pl n)=p)(h1:p≠1):InvP pl p f (n+1):=
 ⟨by omega,by have:=h.lo;omega,h.good.step (h.may hT hp8 hpart),λk k1 k2=>by
  by_cases e:k=n
  ·subst e;exact hpart
  ·exact h.own k k1 (by omega),λe=>absurd e h1⟩
theorem InvP.out{pl:List PI}{p f n:Nat}(h:InvP pl p f n)(hT:InvT pl p f)(h1:p≠1)(hne:n<pl.length->zt (ix pl n)≠p):InvT pl (p+1) n:=
 ⟨h.le,h.good,λk hk=>by
  by_cases hkf:k<f
  ·have:=hT.low k hkf;omega
  ·have:=h.own k (by omega) hk;omega,λh2=>zgK (hT.mdl (by omega)) h.lo,λhn hlt=>by
  by_cases e:n=f
  ·subst e
   exact hT.stuck hn (by have:=hne hn;omega)
  ·refine zgo (k:=n-1) (by have:=h.lo;omega) ?_
   rw[h.own (n-1) (by have:=h.lo;omega) (by have:=h.lo;omega)]
   have:=hne hn
   omega⟩
theorem InvT.model{pl:List PI}{n:Nat}(hT:InvT pl 1 n)(hn:n<pl.length)(hpart:zt (ix pl n)=1):InvT pl 2 (n+1):=by
 have hm:mdlP pl (n+1)=true:=ziJ.2 ⟨n,by omega,hpart⟩
 refine⟨by omega,hT.good.step (hT.into.may hT (by omega) hpart),λk hk=>?_,λ_=>hm,λh1 h2=>?_⟩
 ·by_cases e:k=n
  ·subst e;omega
  ·have:=hT.low k (by omega);omega
 ·rcases Nat.lt_or_ge (zt (ix pl (n+1))) 1 with h |h
  ·exact zgo (k:=n) (by omega) (by omega)
  ·exact zse hm (by omega)
theorem InvT.nomodel{pl:List PI}{n:Nat}(hT:InvT pl 1 n)(hne:n<pl.length->zt (ix pl n)≠1):zdZ pl n:=by
 have hm:mdlP pl n=false:=zm5 λk hk=>by have:=hT.low k hk;omega
 refine⟨hT.le,hT.good,λhn=>?_,λe=>?_⟩
 ·rcases Nat.lt_or_ge (zt (ix pl n)) 1 with h |h
  ·exact hT.stuck hn h
  ·exact zoT hm (by have:=hne hn;omega)
 ·subst e
  exact zn6 hm
structure InvO (pl:List PI) (n:Nat):Prop where
 le:n<=pl.length
 good:zab pl n
 mdl:mdlP pl n=true
 ah:yl pl n=0\/yl pl n=56
 stuck:n<pl.length->zt (ix pl n)≠8->mayP pl n=false
 shut:n=pl.length->zcj pl=false
theorem zh0{pl:List PI}{n:Nat}(h:zt (ix pl n)=8):yl pl (n+1)=(ix pl n).1:=if_pos h
theorem InvT.fun{pl:List PI}{n:Nat}(h:InvT pl 8 n):InvO pl n:=by
 have h0:yl pl n=0:=by
  cases n with
  |zero=>rfl
  |succ m=>exact if_neg (by have:=h.low m (by omega);omega)
 refine⟨h.le,h.good,h.mdl (by omega),.inl h0,λhn h8=>h.stuck hn (by have:=zcX (ix pl n);omega),λe=>?_⟩
 subst e
 unfold zcj
 rw[h.mdl (by omega)]
 cases hl:pl.length with
 |zero=>rfl
 |succ m=>
  have:=h.low m (by omega)
  rw[Nat.add_sub_cancel,beq_eq_false_iff_ne.2 (show zt (ix pl m)≠8 by omega)]
  simp
structure InvF (pl:List PI) (n:Nat) (ah:Int):Prop where
 le:n<=pl.length
 good:zab pl n
 mdl:mdlP pl n=true
 pos:0<n
 part:zt (ix pl (n-1))=8
 op:(ix pl (n-1)).1=ah
theorem InvF.ah{pl:List PI}{n:Nat}{ah:Int}(h:InvF pl n ah):yl pl n=ah:=by
 obtain⟨m,rfl⟩:∃m,n=m+1:=⟨n-1,by have:=h.pos;omega⟩
 have:=zh0 (n:=m) h.part
 rw[this]
 exact h.op
theorem InvF.step{pl:List PI}{n:Nat}{ah:Int}(h:InvF pl n ah)(hn:n<pl.length)(h8:zt (ix pl n)=8)(hm:zbl (ix pl n).1 ah (YU pl (n-1))=true):InvF pl (n+1) (ix pl n).1:=
 ⟨by omega,h.good.step (by rw[zgJ h.mdl h8,h.ah];exact hm),zgK h.mdl (by omega),by omega,h8,rfl⟩
theorem InvF.bad{pl:List PI}{n:Nat}{ah:Int}(h:InvF pl n ah)(h56:ah≠56)(hb:n<pl.length->zt (ix pl n)=8->zbl (ix pl n).1 ah (YU pl (n-1))=false):zdZ pl n:=by
 refine⟨h.le,h.good,λhn=>?_,λe=>?_⟩
 ·by_cases h8:zt (ix pl n)=8
  ·rw[zgJ h.mdl h8,h.ah]
   exact hb hn h8
  ·refine zgo (k:=n-1) (by have:=h.pos;omega) ?_
   rw[h.part]
   have:=zcX (ix pl n)
   omega
 ·subst e
  unfold zcj
  rw[h.part,h.op,h.mdl]
  have:=h.pos
  simp[this,h56]
theorem InvF.end{pl:List PI}{n:Nat}(h:InvF pl n 56):InvO pl n:=by
 refine⟨h.le,h.good,h.mdl,.inr h.ah,λhn h8=>?_,λe=>?_⟩
 ·refine zgo (k:=n-1) (by have:=h.pos;omega) ?_
  rw[h.part]
  have:=zcX (ix pl n)
  omega
 ·subst e
  unfold zcj
  rw[h.part,h.op,h.mdl]
  simp
theorem InvO.begin{pl:List PI}{n:Nat}(h:InvO pl n)(hn:n<pl.length)(h8:zt (ix pl n)=8)(hop:(ix pl n).1=54):InvF pl (n+1) 54:=by
 refine⟨by omega,h.good.step ?_,zgK h.mdl (by omega),by omega,h8,hop⟩
 rw[zgJ h.mdl h8,hop]
 rcases h.ah with e |e<;>rw[e]<;>rfl
theorem InvO.bad{pl:List PI}{n:Nat}(h:InvO pl n)(hn:n<pl.length)(hk:kdP (ix pl n)≠1):zdZ pl n:=by
 refine⟨h.le,h.good,λ_=>?_,λe=>by omega⟩
 by_cases h8:zt (ix pl n)=8
 ·rw[zgJ h.mdl h8]
  have hop:(ix pl n).1≠54:=λe=>hk (by unfold kdP;rw[if_neg (λhh=>hh h8),if_pos e])
  have:yl pl n=0\/yl pl n=54\/yl pl n=55\/yl pl n=56\/Y3 (yl pl n)=true:=by rcases h.ah with e |e<;>simp[e]
  unfold zbl
  rw[if_neg hop]
  by_cases e1:(ix pl n).1=55
  ·rw[if_pos e1];rcases h.ah with e |e<;>rw[e]<;>rfl
  ·rw[if_neg e1]
   by_cases e2:(ix pl n).1=248
   ·rw[if_pos e2];rcases h.ah with e |e<;>rw[e]<;>rfl
   ·rw[if_neg e2]
    by_cases e3:(ix pl n).1=56
    ·rw[if_pos e3];rcases h.ah with e |e<;>rw[e]<;>rfl
    ·rw[if_neg e3,if_pos this]
 ·exact h.stuck hn h8
end Go.Proofs
namespace Go.Proofs
open Go.Gk Go.RowKit Go.Gm
theorem Zt{p:PI}(h:kdP p≠9):zt p=8:=by
 unfold kdP at h
 by_cases e:zt p=8
 ·exact e
 ·rw[if_pos e]at h;exact absurd rfl h
theorem zvs{p:PI}(h8:zt p=8):kdP p=(if p.1=54 then 1 else if p.1=55 then 2 else if p.1=56 then 8 else if p.1=248 then 3 else if p.1=245 then 4
 else if p.1=59 then 5 else if p.1=246 then 6 else if p.1=247 then 6 else if Y3 p.1=true then 7 else 0):=by
 unfold kdP
 rw[if_neg (λg=>g h8)]
theorem zcO{op:Int}:Y3 op=true↔249<=op/\op<=255:=by unfold Y3;exact decide_eq_true_iff
theorem zh6{op:Int}:Y3 op=false↔¬(249<=op/\op<=255):=by unfold Y3;exact decide_eq_false_iff_not
theorem Zl{p:PI}(h8:zt p=8):(kdP p=1↔p.1=54)/\(kdP p=2↔p.1=55)/\(kdP p=8↔p.1=56)/\(kdP p=3↔p.1=248)/\(kdP p=4↔p.1=245)/\(kdP p=5↔p.1=59)/\
  (kdP p=6↔p.1=246\/p.1=247)/\(kdP p=7↔249<=p.1/\p.1<=255)/\kdP p≠9:=by
 rw[zvs h8]
 simp only[zcO]
 repeat' split
 all_goals omega
def mayI(mg en:Int):Bool:=if en=251 then mg==247 else if en=249 then mg==246 else if en=250 then true else false
structure zsy (ah:Int):Prop where
 ne:ah≠0/\ah≠54/\ah≠55/\ah≠56/\ah≠246/\ah≠247
 en:¬(249<=ah/\ah<=255)
theorem zc3{op ah:Int}{F:Bool}(h:zsy ah):zbl op ah F=(if op=54\/op=55\/op=248\/op=56 then false else if op=245 then(ah==248||ah==245)&&!F else if op=59 then(ah==248||ah==59)&&F else true):=by
 obtain⟨⟨h0,h1,h2,h3,h4,h5⟩,h6⟩:=h
 have h6':=zh6.2 h6
 have no:∀{c:Int},ah≠c->(ah==c)=false:=λh=>beq_eq_false_iff_ne.2 h
 unfold zbl
 by_cases e1:op=54
 ·rw[if_pos e1,if_pos (.inl e1),no h0,no h3];rfl
 rw[if_neg e1]
 by_cases e2:op=55
 ·rw[if_pos e2,if_pos (.inr (.inl e2)),no h1,no h2];rfl
 rw[if_neg e2]
 by_cases e3:op=248
 ·rw[if_pos e3,if_pos (.inr (.inr (.inl e3))),no h1,no h2,h6'];rfl
 rw[if_neg e3]
 by_cases e4:op=56
 ·rw[if_pos e4,if_pos (.inr (.inr (.inr e4))),h6']
 rw[if_neg e4,if_neg (by rw[h6'];rintro(e |e |e |e |e)<;>first |exact absurd e (by assumption) |cases e),if_neg (c:=op=54\/op=55\/op=248\/op=56) (by omega),if_neg h4,if_neg h5]
theorem zjP{op ah:Int}{F:Bool}(h:ah=246\/ah=247):zbl op ah F=mayI ah op:=by
 have he:Y3 ah=false:=zh6.2 (by omega)
 have no:∀{c:Int},ah≠c->(ah==c)=false:=λh=>beq_eq_false_iff_ne.2 h
 unfold zbl mayI
 by_cases e1:op=54
 ·rw[if_pos e1,no (by omega),no (by omega)];subst e1;rfl
 rw[if_neg e1]
 by_cases e2:op=55
 ·rw[if_pos e2,no (by omega),no (by omega)];subst e2;rfl
 rw[if_neg e2]
 by_cases e3:op=248
 ·rw[if_pos e3,no (by omega),no (by omega),he];subst e3;rfl
 rw[if_neg e3]
 by_cases e4:op=56
 ·rw[if_pos e4,he];subst e4;rfl
 rw[if_neg e4,if_neg (by rw[he];rintro(e |e |e |e |e)<;>first |omega |cases e)]
 by_cases e5:op=245
 ·rw[if_pos e5,no (by omega),no (by omega)];subst e5;rfl
 rw[if_neg e5]
 by_cases e6:op=59
 ·rw[if_pos e6,no (by omega),no (by omega)];subst e6;rfl
 rw[if_neg e6]
 rcases h with h |h
 ·rw[if_pos h]
  by_cases e7:op=249
  ·subst e7;subst h;rfl
  by_cases e8:op=250
  ·subst e8;subst h;rfl
  rw[if_neg e7,if_neg e8,beq_eq_false_iff_ne.2 e7,beq_eq_false_iff_ne.2 e8]
  by_cases e9:op=251
  ·rw[if_pos e9,h];rfl
  ·rw[if_neg e9];rfl
 ·rw[if_neg (by omega),if_pos h]
  by_cases e7:op=251
  ·subst e7;subst h;rfl
  by_cases e8:op=250
  ·subst e8;subst h;rfl
  rw[if_neg e7,if_neg e8,beq_eq_false_iff_ne.2 e7,beq_eq_false_iff_ne.2 e8]
  by_cases e9:op=249
  ·rw[if_pos e9,h];rfl
  ·rw[if_neg e9];rfl
variable {pl:List PI} {n:Nat} {ah:Int} {F:Bool}
theorem zpR(hn:0<n)(h:(ix pl n).1≠248):YU pl n=YU pl (n-1):=by
 obtain⟨m,rfl⟩:∃m,n=m+1:=⟨n-1,by omega⟩
 exact if_neg h
theorem InvF.param(h:InvF pl n ah)(ha:ah=54\/ah=55)(hn:n<pl.length)(hk:kdP (ix pl n)=2):InvF pl (n+1) 55:=by
 have h8:=Zt (p:=ix pl n) (by omega)
 have hop:=((Zl h8).2.1).1 hk
 have:=h.step hn h8 (by rw[hop];rcases ha with e |e<;>rw[e]<;>rfl)
 rwa[hop]at this
theorem InvF.noblock(h:InvF pl n ah)(ha:ah=54\/ah=55)(h2:n<pl.length->kdP (ix pl n)≠2)(h3:n<pl.length->kdP (ix pl n)≠3):zdZ pl n:=by
 refine h.bad (by omega) λhn h8=>?_
 have hk:=Zl h8
 have h2:=h2 hn
 have h3:=h3 hn
 have e2:(ix pl n).1≠55:=λe=>h2 (hk.2.1.2 e)
 have e3:(ix pl n).1≠248:=λe=>h3 (hk.2.2.2.1.2 e)
 unfold zbl
 by_cases e1:(ix pl n).1=54
 ·rw[if_pos e1];rcases ha with e |e<;>rw[e]<;>rfl
 rw[if_neg e1,if_neg e2,if_neg e3]
 by_cases e4:(ix pl n).1=56
 ·rw[if_pos e4];rcases ha with e |e<;>rw[e]<;>rfl
 rw[if_neg e4,if_pos (by omega)]
theorem InvF.noend(h:InvF pl n ah)(ha:249<=ah/\ah<=255)(h3:n<pl.length->kdP (ix pl n)≠3)(h8':n<pl.length->kdP (ix pl n)≠8):zdZ pl n:=by
 refine h.bad (by omega) λhn h8=>?_
 have hk:=Zl h8
 have h3:=h3 hn
 have h8':=h8' hn
 have e3:(ix pl n).1≠248:=λe=>h3 (hk.2.2.2.1.2 e)
 have e4:(ix pl n).1≠56:=λe=>h8' (hk.2.2.1.2 e)
 have no:∀{c:Int},ah≠c->(ah==c)=false:=λh=>beq_eq_false_iff_ne.2 h
 unfold zbl
 by_cases e1:(ix pl n).1=54
 ·rw[if_pos e1,no (by omega),no (by omega)];rfl
 rw[if_neg e1]
 by_cases e2:(ix pl n).1=55
 ·rw[if_pos e2,no (by omega),no (by omega)];rfl
 rw[if_neg e2,if_neg e3,if_neg e4,if_pos (.inr (.inr (.inr (.inr (zcO.2 ha)))))]
theorem InvF.shut(h:InvF pl n ah)(ha:249<=ah/\ah<=255)(hn:n<pl.length)(hk:kdP (ix pl n)=8):InvF pl (n+1) 56:=by
 have h8:=Zt (p:=ix pl n) (by omega)
 have hop:=((Zl h8).2.2.1).1 hk
 have:=h.step hn h8 (by rw[hop];exact zcO.2 ha)
 rwa[hop]at this
structure InvB (pl:List PI) (n:Nat) (F:Bool) (ah:Int):Prop where
 f:InvF pl n ah
 fi:YU pl (n-1)=F
 op:zsy ah
theorem InvF.label(h:InvF pl n ah)(ha:(ah=54\/ah=55)\/(249<=ah/\ah<=255))(hn:n<pl.length)(hk:kdP (ix pl n)=3):InvB pl (n+1) (ah==54||ah==55) 248:=by
 have h8:=Zt (p:=ix pl n) (by omega)
 have hop:=((Zl h8).2.2.2.1).1 hk
 have hs:=h.step hn h8 (by
  rw[hop]
  rcases ha with(e |e) |e
  ·rw[e];rfl
  ·rw[e];rfl
  ·unfold zbl
   rw[if_neg (by omega),if_neg (by omega),if_pos rfl,zcO.2 e,Bool.or_true])
 rw[hop]at hs
 refine⟨hs,?_,⟨⟨by decide,by decide,by decide,by decide,by decide,by decide⟩,by decide⟩⟩
 rw[Nat.add_sub_cancel]
 obtain⟨m,rfl⟩:∃m,n=m+1:=⟨n-1,by have:=h.pos;omega⟩
 have:YU pl (m+1)=((ix pl m).1==54||(ix pl m).1==55):=if_pos hop
 rw[this]
 have hah:(ix pl m).1=ah:=h.op
 rw[hah]
theorem InvB.go(h:InvB pl n F ah)(hn:n<pl.length)(h8:zt (ix pl n)=8)(hm:zbl (ix pl n).1 ah F=true):InvF pl (n+1) (ix pl n).1:=h.f.step hn h8 (by rw[h.fi];exact hm)
theorem InvB.next(h:InvB pl n F ah)(hn:n<pl.length)(h8:zt (ix pl n)=8)(hm:zbl (ix pl n).1 ah F=true)(hop:zsy (ix pl n).1)(h248:(ix pl n).1≠248):InvB pl (n+1) F (ix pl n).1:=
 ⟨h.go hn h8 hm,by rw[Nat.add_sub_cancel,zpR h.f.pos h248];exact h.fi,hop⟩
theorem InvB.local(h:InvB pl n true ah)(ha:ah=248\/ah=59)(hn:n<pl.length)(hk:kdP (ix pl n)=5):InvB pl (n+1) true 59:=by
 have h8:=Zt (p:=ix pl n) (by omega)
 have hop:=((Zl h8).2.2.2.2.2.1).1 hk
 have:=h.next hn h8 (by rw[zc3 h.op,hop];rcases ha with e |e<;>rw[e]<;>rfl) (by rw[hop];exact⟨⟨by decide,by decide,by decide,by decide,by decide,by decide⟩,by decide⟩) (by omega)
 rwa[hop]at this
theorem InvB.phi(h:InvB pl n false ah)(ha:ah=248\/ah=245)(hn:n<pl.length)(hk:kdP (ix pl n)=4):InvB pl (n+1) false 245:=by
 have h8:=Zt (p:=ix pl n) (by omega)
 have hop:=((Zl h8).2.2.2.2.1).1 hk
 have:=h.next hn h8 (by rw[zc3 h.op,hop];rcases ha with e |e<;>rw[e]<;>rfl) (by rw[hop];exact⟨⟨by decide,by decide,by decide,by decide,by decide,by decide⟩,by decide⟩) (by omega)
 rwa[hop]at this
theorem zvu{p:PI}(h8:zt p=8):p.1≠0:=by
 intro e
 unfold zt at h8
 have hv:zf0 p=false:=by unfold zf0;rw[e];rfl
 rw[hv,e]at h8
 exact absurd h8 (by decide +kernel)
theorem InvB.plain(h:InvB pl n F ah)(hn:n<pl.length)(hk:kdP (ix pl n)=0):InvB pl (n+1) F (ix pl n).1/\(ix pl n).1≠248/\(ix pl n).1≠245/\(ix pl n).1≠59:=by
 have h8:=Zt (p:=ix pl n) (by omega)
 have hk':=Zl h8
 rw[hk]at hk'
 obtain⟨k1,k2,k3,k4,k5,k6,k7,k8,_⟩:=hk'
 have h0:=zvu h8
 refine⟨h.next hn h8 ?_ ⟨by omega,by omega⟩ (by omega),by omega,by omega,by omega⟩
 rw[zc3 h.op,if_neg (by omega),if_neg (by omega),if_neg (by omega)]
theorem InvB.merge(h:InvB pl n F ah)(hn:n<pl.length)(hk:kdP (ix pl n)=6):InvF pl (n+1) (ix pl n).1/\((ix pl n).1=246\/(ix pl n).1=247):=by
 have h8:=Zt (p:=ix pl n) (by omega)
 have hop:=((Zl h8).2.2.2.2.2.2.1).1 hk
 refine⟨h.go hn h8 ?_,hop⟩
 rw[zc3 h.op,if_neg (by omega),if_neg (by omega),if_neg (by omega)]
theorem InvB.ender(h:InvB pl n F ah)(hn:n<pl.length)(hk:kdP (ix pl n)=7):InvF pl (n+1) (ix pl n).1/\249<=(ix pl n).1/\(ix pl n).1<=255:=by
 have h8:=Zt (p:=ix pl n) (by omega)
 have hop:=((Zl h8).2.2.2.2.2.2.2.1).1 hk
 refine⟨h.go hn h8 ?_,hop⟩
 rw[zc3 h.op,if_neg (by omega),if_neg (by omega),if_neg (by omega)]
theorem InvF.mender(h:InvF pl n ah)(ha:ah=246\/ah=247)(hn:n<pl.length)(hk:kdP (ix pl n)=7)(hm:mayI ah (ix pl n).1=true):InvF pl (n+1) (ix pl n).1/\249<=(ix pl n).1/\(ix pl n).1<=255:=by
 have h8:=Zt (p:=ix pl n) (by omega)
 have hop:=((Zl h8).2.2.2.2.2.2.2.1).1 hk
 exact⟨h.step hn h8 (by rw[zjP ha];exact hm),hop⟩
theorem InvF.mbad(h:InvF pl n ah)(ha:ah=246\/ah=247)(hb:n<pl.length->kdP (ix pl n)=7->mayI ah (ix pl n).1=false):zdZ pl n:=by
 refine h.bad (by omega) λhn h8=>?_
 rw[zjP ha]
 by_cases hk:kdP (ix pl n)=7
 ·exact hb hn hk
 ·have h7:=(Zl h8).2.2.2.2.2.2.2.1
  unfold mayI
  rw[if_neg (by omega),if_neg (by omega),if_neg (by omega)]
theorem InvB.bad(h:InvB pl n F ah)(h0:n<pl.length->kdP (ix pl n)≠0/\kdP (ix pl n)≠6/\kdP (ix pl n)≠7)(h4:n<pl.length->kdP (ix pl n)=4->F=false->ah≠248/\ah≠245)
  (h5:n<pl.length->kdP (ix pl n)=5->F=true->ah≠248/\ah≠59):zdZ pl n:=by
 refine h.f.bad (by have:=h.op.ne;omega) λhn h8=>?_
 obtain⟨q0,q6,q7⟩:=h0 hn
 have h4:=h4 hn
 have h5:=h5 hn
 have no:∀{c:Int},ah≠c->(ah==c)=false:=λh=>beq_eq_false_iff_ne.2 h
 rw[h.fi,zc3 h.op]
 obtain⟨k1,k2,k3,k4,k5,k6,k7,k8,k9⟩:=Zl h8
 by_cases e:(ix pl n).1=54\/(ix pl n).1=55\/(ix pl n).1=248\/(ix pl n).1=56
 ·rw[if_pos e]
 rw[if_neg e]
 by_cases e4:(ix pl n).1=245
 ·rw[if_pos e4]
  cases F
  ·obtain⟨g1,g2⟩:=h4 (k5.2 e4) rfl
   rw[no g1,no g2];rfl
  ·simp
 rw[if_neg e4]
 by_cases e5:(ix pl n).1=59
 ·rw[if_pos e5]
  cases F
  ·simp
  ·obtain⟨g1,g2⟩:=h5 (k6.2 e5) rfl
   rw[no g1,no g2];rfl
 exfalso
 refine q0 ?_
 rw[zvs h8,if_neg (by omega),if_neg (by omega),if_neg (by omega),if_neg (by omega),if_neg e4,if_neg e5,if_neg (by omega),if_neg (by omega),if_neg (λg=>by have:=zcO.1 g;omega)]
structure FnL where
 id:Int
 at_:Int
 en:Int
 ps:List Int
 bk:List (Int×Int×Int)
def modL{α:Type}(f:α->α):List α->List α
 | []=>[]
 | [x]=>[f x]
 |x::y::r=>x::modL f (y::r)
theorem Zs{α:Type}(f:α->α)(x:α):∀l:List α,modL f (l++[x])=l++[f x]
 | []=>rfl
 | [y]=>rfl
 |y::z::r=>by
  have:=Zs f x (z::r)
  simp only[List.cons_append,modL]at this⊢
  rw[this]
def cutS(l:List FnL)(k:Nat)(p:PI):List FnL:=
 if p.1=54 then l++[⟨p.2.2.1,k,0,[],[]⟩]
 else if p.1=55 then modL (λf=>{f with ps:=f.ps++[(k:Int)]}) l
 else if p.1=56 then modL (λf=>{f with en:=k}) l
 else if p.1=248 then modL (λf=>{f with bk:=f.bk++[(p.2.2.1,(k:Int),0)]}) l
 else if Y3 p.1=true then modL (λf=>{f with bk:=modL (λb=>(b.1,b.2.1,(k:Int)+1)) f.bk}) l
 else l
def cutF(pl:List PI):Nat->List FnL
 | 0=>[]
 |n+1=>cutS (cutF pl n) n (ix pl n)
theorem zvJ:zbm 54=8/\zbm 55=8/\zbm 56=8/\zbm 248=8/\zbm 249=8/\zbm 250=8/\zbm 251=8/\zbm 252=8/\zbm 253=8/\zbm 254=8/\zbm 255=8:=by decide +kernel
theorem zot{p:PI}(h:zt p≠8\/kdP p=0\/kdP p=4\/kdP p=5\/kdP p=6)(l:List FnL)(k:Nat):cutS l k p=l:=by
 have hno:¬(p.1=54\/p.1=55\/p.1=56\/p.1=248\/(249<=p.1/\p.1<=255)):=by
  intro hop
  have h8:zt p=8:=by
   unfold zt
   split
   ·rfl
   ·obtain⟨q1,q2,q3,q4,q5,q6,q7,q8,q9,q10,q11⟩:=zvJ
    have hc:p.1=54\/p.1=55\/p.1=56\/p.1=248\/p.1=249\/p.1=250\/p.1=251\/p.1=252\/p.1=253\/p.1=254\/p.1=255:=by omega
    rcases hc with e |e |e |e |e |e |e |e |e |e |e<;>rw[e]<;>assumption
  obtain⟨k1,k2,k3,k4,k5,k6,k7,k8,k9⟩:=Zl h8
  rcases h with h |h |h |h |h
  ·exact h h8
  all_goals omega
 unfold cutS
 rw[if_neg (by omega),if_neg (by omega),if_neg (by omega),if_neg (by omega),if_neg (λe=>hno (by have:=zcO.1 e;omega))]
def ZH(pl:List PI)(p n:Nat)(ps:List Int):Prop:=
 ∀q,q<p->0<=ps.getD (2*q) 0/\ps.getD (2*q) 0<=ps.getD (2*q+1) 0/\ps.getD (2*q+1) 0<=n/\∀i,i<n->((ps.getD (2*q) 0<=(i:Int)/\(i:Int)<ps.getD (2*q+1) 0)↔zt (ix pl i)=q)
theorem zmu{ps:List Int}{i j:Nat}{a b:Int}(hi:i+1<ps.length):((ps.set i a).set (i+1) b).getD j 0=if j=i then a else if j=i+1 then b else ps.getD j 0:=by
 simp only[List.getD_eq_getElem?_getD]
 by_cases e:j=i+1
 ·subst e
  rw[List.getElem?_set_self (by simpa using hi),if_neg (by omega),if_pos rfl]
  rfl
 ·rw[List.getElem?_set_ne (λh=>e h.symm)]
  by_cases e2:j=i
  ·subst e2
   rw[List.getElem?_set_self (by omega),if_pos rfl]
   rfl
  ·rw[List.getElem?_set_ne (λh=>e2 h.symm),if_neg e2,if_neg e]
theorem ZH.step{p f n':Nat}{ps:List Int}(h:ZH pl p f ps)(hps:ps.length=20)(hp:p<10)(hfn:f<=n')(hlow:∀k,k<f->zt (ix pl k)<p)(hown:∀k,f<=k->k<n'->zt (ix pl k)=p) :
  ZH pl (p+1) n' ((ps.set (2*p) f).set (2*p+1) n'):=by
 intro q hq
 rw[zmu (by omega),zmu (by omega)]
 by_cases e:q=p
 ·subst e
  rw[if_pos rfl,if_neg (by omega),if_pos rfl]
  refine⟨by omega,by omega,by omega,λi hi=>⟨λhh=>hown i (by omega) hi,λhh=>⟨?_,by omega⟩⟩⟩
  rcases Nat.lt_or_ge i f with g |g
  ·have:=hlow i g;omega
  ·omega
 ·rw[if_neg (by omega),if_neg (by omega),if_neg (by omega),if_neg (by omega)]
  obtain⟨h1,h2,h3,h4⟩:=h q (by omega)
  refine⟨h1,h2,by omega,λi hi=>?_⟩
  rcases Nat.lt_or_ge i f with g |g
  ·exact h4 i g
  ·have:=hown i g hi
   constructor
   ·intro hh;omega
   ·intro hh;omega
theorem zmv{n:Nat}(h:zab pl n){i j:Nat}(hij:i<j)(hj:j<n):zt (ix pl i)<=zt (ix pl j):=by
 rcases Nat.lt_or_ge (zt (ix pl j)) (zt (ix pl i)) with g |g
 ·have:=h j hj
  rw[zgo hij g]at this
  cases this
 ·exact g
theorem ZH.all{n:Nat}{ps:List Int}(h:ZH pl 8 n ps)(hps:ps.length=20)(hn:n<=pl.length)(hlow:∀k,k<n->zt (ix pl k)<8)(hg:zab pl pl.length)(h8:n<pl.length->zt (ix pl n)=8) :
  ZH pl 10 pl.length ((((ps.set 16 n).set 17 pl.length).set 18 pl.length).set 19 pl.length):=by
 have hown:∀k,n<=k->k<pl.length->zt (ix pl k)=8:=by
  intro k h1 h2
  by_cases e:k=n
  ·subst e;exact h8 h2
  ·have:=zmv hg (i:=n) (j:=k) (by omega) h2
   rw[h8 (by omega)]at this
   have:=zcX (ix pl k)
   omega
 have s8:=h.step (n':=pl.length) hps (by omega) hn hlow hown
 have:=s8.step (n':=pl.length) (by simpa using hps) (by omega) (Nat.le_refl _) (λk hk=>by have:=zcX (ix pl k);omega) (λk h1 h2=>by omega)
 exact this
theorem ziO{P:Nat->Int->Prop}{Q:Int->Prop}{k:Int}(step:∀m a,P m a->Q a->m<pl.length->kdP (ix pl m)=k->∃a',P (m+1) a'/\Q a'){n':Nat}(hle:n<=n')(hn':n'<=pl.length)
  (hk:∀j,n<=j->j<n'->kdP (ix pl j)=k) {a:Int} (hP:P n a) (hQ:Q a):∃a',P n' a'/\Q a':=by
 obtain⟨d,rfl⟩:∃d,n'=n+d:=⟨n'-n,by omega⟩
 clear hle
 induction d with
 |zero=>exact⟨a,hP,hQ⟩
 |succ d ih=>
  obtain⟨a',h1,h2⟩:=ih (by omega) (λj g1 g2=>hk j g1 (by omega))
  exact step (n+d) a' h1 h2 (by omega) (hk (n+d) (by omega) (by omega))
theorem InvF.params(h:InvF pl n ah)(ha:ah=54\/ah=55){n':Nat}(hle:n<=n')(hn':n'<=pl.length)(hk:∀j,n<=j->j<n'->kdP (ix pl j)=2):∃ah',InvF pl n' ah'/\(ah'=54\/ah'=55):=
 ziO (P:=λm a=>InvF pl m a) (Q:=λa=>a=54\/a=55) (λm a h1 h2 h3 h4=>⟨55,h1.param h2 h3 h4,.inr rfl⟩) hle hn' hk h ha
theorem InvB.locals(h:InvB pl n true ah)(ha:ah=248\/ah=59){n':Nat}(hle:n<=n')(hn':n'<=pl.length)(hk:∀j,n<=j->j<n'->kdP (ix pl j)=5):∃ah',InvB pl n' true ah'/\(ah'=248\/ah'=59):=
 ziO (P:=λm a=>InvB pl m true a) (Q:=λa=>a=248\/a=59) (λm a h1 h2 h3 h4=>⟨59,h1.local h2 h3 h4,.inr rfl⟩) hle hn' hk h ha
theorem InvB.phis(h:InvB pl n false ah)(ha:ah=248\/ah=245){n':Nat}(hle:n<=n')(hn':n'<=pl.length)(hk:∀j,n<=j->j<n'->kdP (ix pl j)=4):∃ah',InvB pl n' false ah'/\(ah'=248\/ah'=245):=
 ziO (P:=λm a=>InvB pl m false a) (Q:=λa=>a=248\/a=245) (λm a h1 h2 h3 h4=>⟨245,h1.phi h2 h3 h4,.inr rfl⟩) hle hn' hk h ha
theorem InvB.plains(h:InvB pl n F ah){n':Nat}(hle:n<=n')(hn':n'<=pl.length)(hk:∀j,n<=j->j<n'->kdP (ix pl j)=0):∃ah',InvB pl n' F ah'/\(n'=n\/(ah'≠248/\ah'≠245/\ah'≠59)):=by
 by_cases e:n'=n
 ·subst e
  exact⟨ah,h,.inl rfl⟩
 ·obtain⟨m,rfl⟩:∃m,n'=m+1:=⟨n'-1,by omega⟩
  obtain⟨a,h1,_⟩:=ziO (P:=λm a=>InvB pl m F a) (Q:=λ_=>True) (n:=n) (n':=m) (λm a h1 _ h3 h4=>⟨_,(h1.plain h3 h4).1,trivial⟩) (by omega) (by omega) (λj g1 g2=>hk j g1 (by omega)) h trivial
  obtain⟨h2,h3⟩:=h1.plain (by omega) (hk m (by omega) (by omega))
  exact⟨_,h2,.inr h3⟩
theorem zeo{n':Nat}(hle:n<=n')(hk:∀j,n<=j->j<n'->zt (ix pl j)≠8\/kdP (ix pl j)=0\/kdP (ix pl j)=4\/kdP (ix pl j)=5\/kdP (ix pl j)=6):cutF pl n'=cutF pl n:=by
 obtain⟨d,rfl⟩:∃d,n'=n+d:=⟨n'-n,by omega⟩
 clear hle
 induction d with
 |zero=>rfl
 |succ d ih=>
  show cutS (cutF pl (n+d)) (n+d) (ix pl (n+d))=cutF pl n
  rw[zot (hk (n+d) (by omega) (by omega)),ih λj g1 g2=>hk j g1 (by omega)]
theorem zsT{l:List FnL}(h:cutF pl n=l)(hk:kdP (ix pl n)=1):cutF pl (n+1)=l++[⟨(ix pl n).2.2.1,n,0,[],[]⟩]:=by
 have h8:=Zt (p:=ix pl n) (by omega)
 have hop:=((Zl h8).1).1 hk
 show cutS (cutF pl n) n (ix pl n)=_
 unfold cutS
 rw[if_pos hop,h]
theorem zsS{l:List FnL}{f:FnL}(h:cutF pl n=l++[f])(hk:kdP (ix pl n)=8):cutF pl (n+1)=l++[{f with en:=n}]:=by
 have h8:=Zt (p:=ix pl n) (by omega)
 have hop:=((Zl h8).2.2.1).1 hk
 show cutS (cutF pl n) n (ix pl n)=_
 unfold cutS
 rw[if_neg (by omega),if_neg (by omega),if_pos hop,h,Zs]
theorem zpH{l:List FnL}{f:FnL}(h:cutF pl n=l++[f])(hk:kdP (ix pl n)=3):cutF pl (n+1)=l++[{f with bk:=f.bk++[((ix pl n).2.2.1,(n:Int),0)]}]:=by
 have h8:=Zt (p:=ix pl n) (by omega)
 have hop:=((Zl h8).2.2.2.1).1 hk
 show cutS (cutF pl n) n (ix pl n)=_
 unfold cutS
 rw[if_neg (by omega),if_neg (by omega),if_neg (by omega),if_pos hop,h,Zs]
theorem zpG{l:List FnL}{f:FnL}{b:List (Int×Int×Int)}{i a t:Int}(h:cutF pl n=l++[{f with bk:=b++[(i,a,t)]}])(hk:kdP (ix pl n)=7) :
  cutF pl (n+1)=l++[{f with bk:=b++[(i,a,(n:Int)+1)]}]:=by
 have h8:=Zt (p:=ix pl n) (by omega)
 have hop:=((Zl h8).2.2.2.2.2.2.2.1).1 hk
 show cutS (cutF pl n) n (ix pl n)=_
 unfold cutS
 rw[if_neg (by omega),if_neg (by omega),if_neg (by omega),if_neg (by omega),if_pos (zcO.2 hop),h,Zs]
 dsimp only
 rw[Zs]
theorem zos{l:List FnL}{f:FnL}(h:cutF pl n=l++[f]){n':Nat}(hle:n<=n')(hk:∀j,n<=j->j<n'->kdP (ix pl j)=2) :
  cutF pl n'=l++[{f with ps:=f.ps++(List.range (n'-n)).map λi=>((n+i:Nat):Int)}]:=by
 obtain⟨d,rfl⟩:∃d,n'=n+d:=⟨n'-n,by omega⟩
 clear hle
 rw[Nat.add_sub_cancel_left]
 induction d with
 |zero=>rw[List.range_zero,List.map_nil,List.append_nil];exact h
 |succ d ih=>
  have hk2:=hk (n+d) (by omega) (by omega)
  have h8:=Zt (p:=ix pl (n+d)) (by omega)
  have hop:=((Zl h8).2.1).1 hk2
  show cutS (cutF pl (n+d)) (n+d) (ix pl (n+d))=_
  unfold cutS
  rw[if_neg (by omega),if_pos hop,ih λj g1 g2=>hk j g1 (by omega),Zs,List.range_succ,List.map_append]
  simp[List.append_assoc]
structure OutP (pl:List PI) (p f n:Nat):Prop where
 lo:f<=n
 le:n<=pl.length
 own:∀k,f<=k->k<n->zt (ix pl k)=p
 out:p≠1->InvT pl (p+1) n
 one:p=1->(n=f/\(f<pl.length->zt (ix pl f)≠1))\/n=f+1
theorem OutP.go{p f:Nat}(h:OutP pl p f n)(hT:InvT pl p f)(hne:p=1->n≠f):InvT pl (p+1) n:=by
 by_cases e:p=1
 ·subst e
  rcases h.one rfl with⟨g,_⟩ |g
  ·exact absurd g (hne rfl)
  ·subst g
   exact hT.model (by have:=h.le;omega) (h.own f (Nat.le_refl _) (by omega))
 ·exact h.out e
theorem OutP.stop{f:Nat}(h:OutP pl 1 f n)(hT:InvT pl 1 f)(he:n=f):zdZ pl n:=by
 rcases h.one rfl with⟨_,g⟩ |g
 ·subst he
  exact hT.nomodel g
 ·omega
end Go.Proofs
