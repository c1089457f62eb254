/- FaceB, part 4; made small by a program. -/
import Derived.Test.YtnpdnjmpmeikiaaGreatDoorChecked
import Derived.Shelf.LaysM
import Derived.Shelf.Strconv.Itoa3
import Derived.Test.YtnpdnjmpmeikiaaGreatDoorCards
import Derived.Test.YtnpdnjmpmeikiaaGreatDoorTie
import Derived.Deep.DeepHandedRow
import Derived.Lib.LaidTab
import Derived.Stop.LaidErr
import Derived.Test.YtnpdnjmpmeikiaaGreatDoorProg
import Derived.Test.YtnpdnjmpmeikiaaGreatDoorPFaceB3
set_option linter.unusedVariables false
namespace Go.Proofs
open Go.Gk Go.RowKit Go.Gm
theorem Fr.low{B:Nat}{X:Nat->Prop}{w0 w w':World}(h:Fr w.heap.size X w w')(hb:Below B w0 w)(hX:∀k,X k->B<=k)(hB:B<=w.heap.size):Below B w0 w':=
 hb.trans ⟨h.os,h.tape,h.output,h.size,λk hk=>h.block k (by omega) (λx=>by have:=hX k x;omega)⟩
theorem Fr.on{X:Nat->Prop}{w w1 w2:World}(h:Fr w.heap.size X w w1)(k:Fr w1.heap.size X w1 w2):Fr w.heap.size X w w2:=h.trans (k.mono h.size λ_ _ x=>x)
theorem Chg.fr{b:Nat}{w w':World}(h:Chg b w w'){B:Nat}:Fr B (λk=>k=b) w w':=⟨h.os,h.tape,h.output,Nat.le_of_eq h.size.symm,λk _ hk=>h.block k hk⟩
theorem Fr.wide{B:Nat}{X X':Nat->Prop}{w w':World}(h:Fr B X w w')(hX:∀k,X k->X' k):Fr B X' w w':=h.mono (Nat.le_refl _) λk _ x=>hX k x
theorem Fr.own{X:Nat->Prop}{w w':World}(h:Fr w.heap.size X w w'){T:TypeId}{sz:Nat}{s:Sl}{xs:List Value}(hO:Own w T sz s xs)(hX:∀b,s.a=some (blk b)->¬X b):Own w' T sz s xs:=
 hO.of_block λa ha=>by
  obtain⟨e,hlt⟩:=hO.lt ha
  exact h.block _ hlt (hX _ (by rw[<-e];exact ha))
theorem Fr.blk{X:Nat->Prop}{w w':World}(h:Fr w.heap.size X w w'){T:TypeId}{b:Nat}{xs:List Value}(hO:Blk w b T xs)(hX:¬X b):Blk w' b T xs:=hO.of_block (h.block _ hO.lt hX)
theorem zkw{P:Program}{t e:TypeId}{sz bytes:Nat}(he:Yq P t e sz bytes){w:World}{s:Sl}{xs vs:List Value}(h:Own w e sz s xs)(hl:vs.length=sz)(hv:∀u∈vs,u.oneCell'=true){b c:Nat}{T:TypeId}
  (hB:Blk w b T vs) (h63:s.l+1<=9223372036854775807) (hbytes:(s.l+1)*bytes<=140737488355328) {k:Sl->World->Prop}
  (hk:∀r w' b',Own w' e sz r (xs++vs)->r.l=s.l+1->r.a=some (blk b')->(s.a=some (blk b')\/b'=w.heap.size)->Fr w.heap.size (λk=>s.a=some (blk k)) w w'->k r w') :
  zA P t (.slice s.a s.l s.c) (.slice (some (blk b)) 1 c) w k:=by
 refine yV he h (news:=vs) (by omega) (λj u hj=>hB.cell hj) hv h63 hbytes λr w' h1 hl' hg=>?_
 rcases hg with⟨_,_,h3⟩ | ⟨b',h3,h4,h5⟩
 ·rw[h3]at hl';omega
 ·refine hk r w' b' h1 hl' h3 h4 ⟨h5.os,h5.tape,h5.output,h5.size,λk hk hx=>h5.block k hk λe=>?_⟩
  cases e
  rcases h4 with h4 |h4
  ·exact hx h4
  ·omega
section
variable {x:Ins} {al:List Ag} {w:World} {R:VWP}
abbrev piOf(x:Ins)(al:List Ag):PI:=(x.1,x.2.1,x.2.2.1,al)
theorem zrP{p:PI}{h:0<p.2.2.2.length}:zf0 p=(p.1==59&&p.2.2.2[0].2.1==7):=by
 obtain⟨o,t,r,l⟩:=p
 cases l with
 |nil=>exact absurd h (Nat.lt_irrefl _)
 |cons a r=>rfl
theorem zlW(hI:IsAg w x.2.2.2.1 al)(hR:∀w',Below w.heap.size w w'->R (.bool (zf0 (piOf x al))) w'):cR 183 #[inA x] w R:=by
 refine za.of (zf7 x R w ?_) λ_ _ h=>h
 refine zm λw1 hB b1 z1=>?_
 have hB:Blk w1 w.heap.size 44 (inV x):=hB
 have hlen:=hI.len
 refine hB.rI0 rfl (zk (λe1=>?_) (λe1=>?_))
 ·refine hB.rS (n:=3) rfl (zj (λh=>?_) (λh=>?_))
  ·have h0:0<al.length:=by omega
   refine hB.rS (n:=3) rfl (zkV (hI.below b1) (k:=0) h0 ?_)
   have:=hR w1 b1
   rw[zrP (p:=piOf x al) (h:=h0),beq_iff_eq.2 e1,Bool.true_and]at this
   exact this
  ·have h0:al=[]:=List.length_eq_zero_iff.1 (by omega)
   have:=hR w1 b1
   subst h0
   unfold zf0 at this
   rw[Bool.and_false]at this
   exact this
 ·have:=hR w1 b1
  unfold zf0 at this
  rw[beq_eq_false_iff_ne.2 e1,Bool.false_and]at this
  exact this
theorem ztj(op:Int):(fmO op (frm op)).2.2.2.2.2.2.2.1=((zbm op:Nat):Int):=by
 unfold zbm
 cases frm op<;>rfl
theorem zm9(hI:IsAg w x.2.2.2.1 al)(hR:∀w',Below w.heap.size w w'->R (.int .u8 (zt (piOf x al):Int)) w'):cR 163 #[inA x] w R:=by
 refine za.of (ziH x R w ?_) λ_ _ h=>h
 refine zm λw1 hB b1 z1=>?_
 have hB:Blk w1 w.heap.size 44 (inV x):=hB
 refine Ins.load hB ?_
 refine zlW (x:=x) (hI.below b1) λw2 b2=>⟨_,rfl,?_⟩
 have hb2:=b1.on b2
 refine zz (λhv=>?_) (λhv=>?_)
 ·have:=hR w2 hb2
  unfold zt at this
  rw[if_pos hv]at this
  exact this
 ·refine(hB.below b2).rI0 rfl (zi9 λw3 b3=>⟨fmO x.1 (frm x.1),(frm x.1).isSome,rfl,?_⟩)
  refine box8 rfl λw4 hF4 b4 z4=>?_
  refine hF4.rI (n:=7) rfl ?_
  have:=hR w4 ((hb2.on b3).on b4)
  unfold zt at this
  rw[if_neg (by rw[hv];decide)]at this
  rw[ztj]
  exact this
theorem zrz{op:Int}(hR:R (.bool (Y3 op)) w):cR 184 #[.int .u16 op] w R:=by
 refine za.of (ziF op R w ?_) λ_ _ h=>h
 refine zj (λh=>?_) (λh=>?_)
 ·have:Y3 op=decide (op<=255):=by
   unfold Y3
   exact decide_eq_decide.2 ⟨λg=>g.2,λg=>⟨h,g⟩⟩
  rwa[this]at hR
 ·have:Y3 op=false:=zh6.2 (by omega)
  rwa[this]at hR
theorem zt7{mg en:Int}(hR:R (.bool (mayI mg en)) w):cR 165 #[.int .u16 mg,.int .u16 en] w R:=by
 refine za.of (zjy mg en R w ?_) λ_ _ h=>h
 unfold mayI at hR
 refine zk (λe=>?_) (λe=>?_)
 ·rwa[if_pos e]at hR
 rw[if_neg e]at hR
 refine zk (λe=>?_) (λe=>?_)
 ·rwa[if_pos e]at hR
 rw[if_neg e]at hR
 refine zk (λe=>?_) (λe=>?_)
 ·rwa[if_pos e]at hR
 ·rwa[if_neg e]at hR
theorem zrU(hI:IsAg w x.2.2.2.1 al)(hR:∀w',Below w.heap.size w w'->R (.int .i64 (kdP (piOf x al))) w'):cR 164 #[inA x] w R:=by
 refine za.of (ziG x R w ?_) λ_ _ h=>h
 refine zm λw1 hB b1 z1=>?_
 have hB:Blk w1 w.heap.size 44 (inV x):=hB
 refine Ins.load hB ?_
 refine zm9 (x:=x) (hI.below b1) λw2 b2=>⟨_,rfl,?_⟩
 have hb2:=b1.on b2
 have hB2:=hB.below b2
 have hR:=hR w2 hb2
 unfold kdP at hR
 refine zy (λe=>?_) (λe=>?_)
 ·rwa[if_pos (λh=>e (by rw[h];rfl))]at hR
 rw[if_neg (λh=>h (by omega))]at hR
 refine hB2.rI0 rfl ?_
 refine zk (λe=>?_) (λe=>?_)
 ·rwa[if_pos e]at hR
 rw[if_neg e]at hR
 refine zk (λe=>?_) (λe=>?_)
 ·rwa[if_pos e]at hR
 rw[if_neg e]at hR
 refine zk (λe=>?_) (λe=>?_)
 ·rwa[if_pos e]at hR
 rw[if_neg e]at hR
 refine zk (λe=>?_) (λe=>?_)
 ·rwa[if_pos e]at hR
 rw[if_neg e]at hR
 refine zk (λe=>?_) (λe=>?_)
 ·rwa[if_pos e]at hR
 rw[if_neg e]at hR
 refine zk (λe=>?_) (λe=>?_)
 ·rwa[if_pos e]at hR
 rw[if_neg e]at hR
 refine zk (λe=>?_) (λe=>?_)
 ·rwa[if_pos e]at hR
 rw[if_neg e]at hR
 refine zk (λe=>?_) (λe=>?_)
 ·rwa[if_pos e]at hR
 rw[if_neg e]at hR
 refine hB2.rI0 rfl (zrz ⟨_,rfl,zz (λh=>?_) (λh=>?_)⟩)
 ·rwa[if_pos h]at hR
 ·rwa[if_neg (by rw[h];decide)]at hR
end
abbrev ctV(s:Sl)(n:Int)(ps:List Int)(f:Sl):List Value:=.slice s.a s.l s.c ::.int .i64 n::(ps.map (Value.int .i64)++[.slice f.a f.l f.c])
structure Ct (w0 w:World) (bc:Nat) (s:Sl) (n:Nat) (ps:List Int) (f:Sl):Prop where
 hi:w0.heap.size<=bc
 b0:Below w0.heap.size w0 w
 blk:Blk w bc 152 (ctV s n ps f)
 len:ps.length=20
section
variable {w0 w:World} {bc n:Nat} {s f:Sl} {ps:List Int} {pl:List PI} {R:VWP}
theorem Ct.below{w':World}(h:Ct w0 w bc s n ps f)(hb:Below w.heap.size w w'):Ct w0 w' bc s n ps f:=⟨h.hi,h.b0.on hb,h.blk.below hb,h.len⟩
theorem Ct.fr{w':World}{X:Nat->Prop}(h:Ct w0 w bc s n ps f)(hf:Fr w.heap.size X w w')(hX:∀k,X k->w0.heap.size<=k)(hne:¬X bc):Ct w0 w' bc s n ps f:=
 ⟨h.hi,hf.low h.b0 hX h.b0.size,hf.blk h.blk hne,h.len⟩
theorem Ct.mem(h:Ct w0 w bc s n ps f)(hN:IsPl w0 s pl):IsPl w s pl:=hN.below h.b0
theorem Ct.at_(h:Ct w0 w bc s n ps f){φ:Int->Prop}(hφ:φ n):zc (some (Gk.blk bc)) λa=>ldI w (a.add 1) .i64 φ:=ze rfl (h.blk.rI (n:=1) rfl hφ)
theorem Ct.sl(h:Ct w0 w bc s n ps f){φ:Sl->Prop}(hφ:φ s):zc (some (Gk.blk bc)) λa=>ldS w a φ:=ze rfl ⟨s,h.blk.cell0 rfl,hφ⟩
theorem Ct.drew(h:Ct w0 w bc s n ps f):Ct w0 w.drew bc s n ps f:=⟨h.hi,h.b0.drew,h.blk.drew,h.len⟩
theorem Ct.inc(h:Ct w0 w bc s n ps f)(hn:n<9223372036854775807){K:World->Prop}(hK:∀w',Ct w0 w' bc s (n+1) ps f->Chg bc w w'->K w') :
  zc (some (Gk.blk bc)) λa1=>ldI w (a1.add 1) .i64 λx=>zc (some (Gk.blk bc)) λa2=>Wr w (a2.add 1)/\Nw (w.setCell (a2.add 1) (.int .i64 (IntKind.i64.wrap (x+(1:Int))))) K:=by
 refine h.at_ (ze rfl ⟨h.blk.wr (by simp),Nw.gen λw' e=>?_⟩)
 rw[zE hn]at e
 have c:Chg bc w w':=by rw[e];exact Chg.set _ _ _ _
 refine hK w' ⟨h.hi,c.below h.b0 h.hi,?_,h.len⟩ c
 rw[e]
 exact h.blk.set 1 _
def kn(pl:List PI)(n:Nat):Int:=if n<pl.length then kdP (ix pl n) else -1
theorem zjN{k:Int}(h:kn pl n=k)(hk:k≠-1):n<pl.length/\kdP (ix pl n)=k:=by
 unfold kn at h
 split at h
 ·exact⟨by assumption,h⟩
 ·exact absurd h.symm hk
theorem ziE{k:Int}(h:kn pl n≠k):n<pl.length->kdP (ix pl n)≠k:=by
 intro hn e
 unfold kn at h
 rw[if_pos hn]at h
 exact h e
theorem zH{k:Nat}(h:k<pl.length):ix pl k=pl[k]:=zp h
theorem Y6(h:Ct w0 w bc s n ps f)(hN:IsPl w0 s pl)(hn:n<=pl.length)(hR:∀w',Below w.heap.size w w'->R (.int .i64 (kn pl n)) w') :
  cR 133 #[.pointer (some (blk bc))] w R:=by
 refine za.of (zdP _ R w ?_) λ_ _ h=>h
 have hlen:=hN.len
 have bd:Below w.heap.size w w.drew:=(Below.refl _ _).drew
 refine h.drew.at_ (h.drew.sl ?_)
 unfold kn at hR
 refine zk (λe=>?_) (λe=>?_)
 ·rw[if_neg (by omega)]at hR
  exact hR _ bd
 ·have hlt:n<pl.length:=by omega
  rw[if_pos hlt,zH hlt]at hR
  refine h.drew.drew.sl (h.drew.drew.at_ ?_)
  refine zjo (h.drew.drew.mem hN) hlt λt ht=>?_
  refine zrU (x:=mkIn pl[n] t) ht λw1 b1=>⟨_,rfl,hR w1 (bd.drew.on b1)⟩
def ZD(a b:Nat):List Int:=(List.range (b-a)).map λi=>((a+i:Nat):Int)
theorem zqm(a:Nat):ZD a a=[]:=by unfold ZD;simp
theorem zql(a b:Nat):(ZD a b).length=b-a:=by unfold ZD;simp
theorem zpj{a b:Nat}(h:a<=b):ZD a (b+1)=ZD a b++[(b:Int)]:=by
 unfold ZD
 rw[show b+1-a=(b-a)+1 by omega,List.range_succ,List.map_append]
 simp
 omega
theorem zgN{k:Int}(h:Ct w0 w bc s n ps f)(hN:IsPl w0 s pl)(hn:n<=pl.length)(h40:40*pl.length<=140737488351232)(hk:k≠-1)
  (hR:∀(r:Sl) n' w',n<=n'->n'<=pl.length->(∀j,n<=j->j<n'->kdP (ix pl j)=k)->(n'<pl.length->kdP (ix pl n')≠k)->Ct w0 w' bc s n' ps f->Fr w.heap.size (λk=>k=bc) w w'->
   Own w' 3 1 r ((ZD n n').map (Value.int .i64))->zK w.heap.size r->R (.slice r.a r.l r.c) w') :
  cR 134 #[.pointer (some (blk bc)),.int .i64 k] w R:=by
 refine za.of (ze1 _ k R w ?_) λ_ _ h=>h
 refine zl.ghost (λj (st:Sl×Unit) w'=>∃n',j=pl.length-n'/\n<=n'/\n'<=pl.length/\(∀j,n<=j->j<n'->kdP (ix pl j)=k)/\Ct w0 w' bc s n' ps f/\Fr w.heap.size (λk=>k=bc) w w'/\
   Own w' 3 1 st.1 ((ZD n n').map (Value.int .i64))/\zK w.heap.size st.1) (pl.length-n)
  ⟨n,rfl,Nat.le_refl _,hn,λj h1 h2=>by omega,h,Fr.refl _ _ _,by rw[zqm];exact Own.nil _ _ _,λa ha=>by cases ha⟩ ?_
 rintro _ ⟨r,_⟩ w1 ⟨n',rfl,h1,h2,h3,h4,h5,h6,h7⟩ next hnext
 dsimp only at h6 h7
 refine Y6 h4 hN h2 λw2 b2=>⟨_,rfl,?_⟩
 have h42:=h4.below b2
 have h52:=h5.on (Fr.of_below b2)
 have h62:=h6.below b2
 refine zk (λe=>?_) (λe=>?_)
 ·obtain⟨hlt,hkd⟩:=zjN e hk
  refine h42.at_ (zm λw3 hB3 b3 z3=>?_)
  have hB3:Blk w3 w2.heap.size 3 [.int .i64 (n':Int)]:=hB3
  have hlr:r.l=n'-n:=by have:=h6.1;rw[List.length_map,zql]at this;omega
  have hbd:bc<w.heap.size:=h.blk.lt
  refine zkw eInt (h62.below b3) rfl (by simp[Value.oneCell']) hB3 (by omega) (by omega) λr' w4 b' hO4 hl4 ha4 hw4 f4=>?_
  have s2:=b2.size
  have s5:=h5.size
  have hne:¬(r.a=some (blk bc)):=λe=>by have:=h7 _ e;exact absurd this (Nat.not_le.2 hbd)
  have hfr:∀k,r.a=some (blk k)->w.heap.size<=k:=λk e=>h7 _ e
  have h44:Ct w0 w4 bc s n' ps f:=(h42.below b3).fr f4 (λk e=>Nat.le_trans h.b0.size (hfr k e)) hne
  have h54:Fr w.heap.size (λk=>k=bc) w w4:=(h52.on (Fr.of_below b3)).trans ⟨f4.os,f4.tape,f4.output,f4.size,λk hk hx=>f4.block k (by have:=b3.size;omega) λe=>by have:=hfr k e;omega⟩
  refine h44.inc (by omega) λw5 h55 c5=>?_
  refine hnext (pl.length-(n'+1)) _ _ (by omega) ⟨n'+1,rfl,by omega,hlt,λj g1 g2=>?_,h55,h54.trans c5.fr,?_,?_⟩
  ·by_cases ej:j=n'
   ·subst ej;exact hkd
   ·exact h3 j g1 (by omega)
  ·rw[zpj h1,List.map_append]
   refine hO4.of_block λa ha=>c5.block _ λe=>?_
   rw[ha4]at ha
   cases ha
   have e:b'=bc:=e
   subst e
   rcases hw4 with g |g
   ·exact hne g
   ·have:=b3.size;omega
  ·intro a ha
   rw[ha4]at ha
   cases ha
   show w.heap.size<=b'
   rcases hw4 with g |g
   ·exact hfr _ g
   ·have:=b3.size;omega
 ·exact hR r n' w2 h1 h2 h3 (ziE e) h42 h52 h62 h7
end
end Go.Proofs
namespace Go.Proofs
open Go.Gk Go.RowKit Go.Gm
theorem Zh{w w':World}(hb:Below w.heap.size w w'){a:Addr}{v:Value}(h:w.cell? a=some v):w'.cell? a=some v:=by
 rw[World.cell?_of_block (w:=w) (hb.block _ (World.block_lt_of_cell? w _ h))]
 exact h
theorem zqN{w:World}{s:Sl}{pl:List PI}(h:IsPl w s pl){k:Nat}(hk:k<pl.length){φ:Addr->Int->Prop}(hφ:∀a,w.cell? ((a.add (Int.toNat (k:Int)*4)).add 2)=some (.int .u32 pl[k].2.2.1)->φ a pl[k].2.2.1) :
  (0<=(k:Int)/\(k:Int)<(s.l:Int))/\zc s.a λa=>ldI w ((a.add (Int.toNat (k:Int)*4)).add 2) .u32 λx=>φ a x:=by
 obtain⟨a,ha⟩:=h.base hk
 obtain⟨t,h1,h2⟩:=h.elem a ha k hk
 have hc:w.cell? ((a.add (Int.toNat (k:Int)*4)).add 2)=some (.int .u32 pl[k].2.2.1):=by rw[zn];exact h1 2 (by omega)
 exact⟨⟨by omega,by have:=h.len;omega⟩,ze ha ⟨_,hc,hφ a hc⟩⟩
abbrev fnV(f:FnL)(tp tb:Sl):List Value:=[.int .u32 f.id,.int .i64 f.at_,.slice tp.a tp.l tp.c,.slice tb.a tb.l tb.c,.int .i64 f.en]
abbrev blV(b:Int×Int×Int):List Value:=[.int .u32 b.1,.int .i64 b.2.1,.int .i64 b.2.2]
theorem eBlk:Yq Tryz.prog 100 257 3 24:=⟨by kernel_rfl,Tryz.t257,.agg #[.int .u32 0,.int .i64 0,.int .i64 0],by kernel_rfl,rfl,rfl,rfl,rfl⟩
theorem eFun:Yq Tryz.prog 95 102 5 72:=⟨by kernel_rfl,Tryz.t102,.agg #[.int .u32 0,.int .i64 0,.slice none 0 0,.slice none 0 0,.int .i64 0],by kernel_rfl,rfl,rfl,rfl,rfl⟩
theorem zS{w:World}{T T':TypeId}{sz b:Nat}{s:Sl}{xs cs:List Value}(h:Own w T sz s xs)(hB:Blk w b T' cs)(hT:T≠T'):s.a≠some (Gk.blk b):=λe=>by
 obtain⟨cs',h'⟩:=h.type e
 exact Blk.apart h' hB hT rfl
theorem zhI{w:World}{T T':TypeId}{sz sz':Nat}{s t:Sl}{xs ys:List Value}(h:Own w T sz s xs)(k:Own w T' sz' t ys)(hT:T≠T'){b:Nat}(e:s.a=some (Gk.blk b)):t.a≠some (Gk.blk b):=λe'=>by
 obtain⟨cs',h'⟩:=h.type e
 exact zS k h' (λg=>hT g.symm) e'
section
variable {w0 w:World} {bc n:Nat} {s f:Sl} {ps:List Int} {pl:List PI} {R:VWP}
theorem zqI{i:Nat}{v:Int}(hi:i<ps.length):(ctV s n ps f).set (2+i) (.int .i64 v)=ctV s n (ps.set i v) f:=by
 have e:2+i=i+1+1:=by omega
 show(Value.slice s.a s.l s.c::Value.int .i64 n::(ps.map (Value.int .i64)++[.slice f.a f.l f.c])).set (2+i) _=_
 rw[e,List.set_cons_succ,List.set_cons_succ,List.set_append_left _ _ (by simpa using hi),<-List.map_set]
theorem zsQ(hps:ps.length=20):(ctV s n ps f)[22]? =some (.slice f.a f.l f.c):=by
 show(Value.slice s.a s.l s.c::Value.int .i64 n::(ps.map (Value.int .i64)++[.slice f.a f.l f.c]))[22]? =_
 rw[List.getElem?_cons_succ,List.getElem?_cons_succ,List.getElem?_append_right (by simp[hps])]
 simp[hps]
theorem zsR{g:Sl}(hps:ps.length=20):(ctV s n ps f).set 22 (.slice g.a g.l g.c)=ctV s n ps g:=by
 show(Value.slice s.a s.l s.c::Value.int .i64 n::(ps.map (Value.int .i64)++[.slice f.a f.l f.c])).set 22 _=_
 rw[List.set_cons_succ,List.set_cons_succ,List.set_append_right _ _ (by simp[hps])]
 simp[hps]
theorem znf(hps:ps.length=20):(ctV s n ps f).length=23:=by simp[hps]
theorem Ct.part(h:Ct w0 w bc s n ps f){p:Nat}(hp:p<10){x y:Int}{K:World->Prop}(hK:∀w',Ct w0 w' bc s n ((ps.set (2*p) x).set (2*p+1) y) f->Chg bc w w'->K w') :
  zc (some (Gk.blk bc)) λa=>(0<=(p:Int)/\(p:Int)<(10:Int))/\Wr w ((a.add 2).add (Int.toNat (p:Int)*2))/\Nw (w.setCell ((a.add 2).add (Int.toNat (p:Int)*2)) (.int .i64 x)) λw8=>
   Wr w8 (((a.add 2).add (Int.toNat (p:Int)*2)).add 1)/\Nw (w8.setCell (((a.add 2).add (Int.toNat (p:Int)*2)).add 1) (.int .i64 y)) K:=by
 have hps:=h.len
 have e1:((Gk.blk bc).add 2).add (Int.toNat (p:Int)*2)=(Gk.blk bc).add (2+2*p):=by rw[zn,Int.toNat_natCast,Nat.mul_comm]
 have e2:(((Gk.blk bc).add 2).add (Int.toNat (p:Int)*2)).add 1=(Gk.blk bc).add (2+(2*p+1)):=by rw[e1,zn];rfl
 have hl:=znf (s:=s) (n:=n) (f:=f) hps
 refine ze rfl ⟨⟨by omega,by omega⟩,?_⟩
 rw[e1]
 refine⟨h.blk.wr (by omega),Nw.gen λw8 e=>?_⟩
 rw[<-e1,e2]
 have c8:Chg bc w w8:=by rw[e];exact Chg.set _ _ _ _
 have hB8:Blk w8 bc 152 (ctV s n (ps.set (2*p) x) f):=by rw[e,<-zqI (by omega)];exact h.blk.set _ _
 clear e
 have hl8:=znf (s:=s) (n:=n) (f:=f) (ps:=ps.set (2*p) x) (by simpa using hps)
 refine⟨hB8.wr (by omega),Nw.gen λw9 e=>?_⟩
 have c9:Chg bc w8 w9:=by rw[e];exact Chg.set _ _ _ _
 refine hK w9 ⟨h.hi,(c8.trans c9).below h.b0 h.hi,?_,by simpa using hps⟩ (c8.trans c9)
 rw[e,<-zqI (by simp;omega)]
 exact hB8.set _ _
theorem ztX(h:Ct w0 w bc s 0 ps f)(hN:IsPl w0 s pl)(hmax:pl.length<9223372036854775807)
  (hok:∀n ps' w',Ct w0 w' bc s n ps' f->Fr w.heap.size (λk=>k=bc) w w'->InvT pl 8 n->ZH pl 8 n ps'->R (.bool true) w')
  (hbad:∀n ps' w',Ct w0 w' bc s n ps' f->Fr w.heap.size (λk=>k=bc) w w'->zdZ pl n->R (.bool false) w') :
  cR 132 #[.pointer (some (blk bc))] w R:=by
 refine za.of (ze2 _ R w ?_) λ_ _ h=>h
 have hlen:=hN.len
 refine zl.ghost (λj (st:Int×Unit) w'=>∃(p n:Nat) (ps':List Int),j=8-p/\p<=8/\st=((p:Int),())/\Ct w0 w' bc s n ps' f/\Fr w.heap.size (λk=>k=bc) w w'/\InvT pl p n/\ZH pl p n ps') 8
  ⟨0,0,ps,rfl,by omega,rfl,h,Fr.refl _ _ _,InvT.zero pl,λq hq=>by omega⟩ ?_
 rintro _ _ w1 ⟨p,n,ps',rfl,hp8,rfl,hC,hF,hT,hP⟩ next hnext
 refine zj (λhp=>?_) (λhp=>?_)
 ·have hp:p<8:=by dsimp only at hp;omega
  refine zo.cut (λ_ w'=>∃(n':Nat) (ps2:List Int),Ct w0 w' bc s n' ps2 f/\Fr w.heap.size (λk=>k=bc) w w'/\InvT pl (p+1) n'/\ZH pl (p+1) n' ps2) ?_ ?_
  ·refine hC.at_ ?_
   refine zo.cut (λ_ w'=>∃n',Ct w0 w' bc s n' ps' f/\Fr w.heap.size (λk=>k=bc) w w'/\OutP pl p n n') ?_ ?_
   ·refine zl.ghost (λj _ w'=>∃n',j=pl.length-n'/\Ct w0 w' bc s n' ps' f/\Fr w.heap.size (λk=>k=bc) w w'/\InvP pl p n n') (pl.length-n) ⟨n,rfl,hC,hF,hT.into⟩ ?_
    rintro _ _ w2 ⟨n',rfl,hC2,hF2,hI⟩ next2 hnext2
    have hle:=hI.le
    have outNo:(n'<pl.length->zt (ix pl n')≠p)->OutP pl p n n':=λhno=>
     ⟨hI.lo,hI.le,hI.own,λh1=>hI.out hT h1 hno,λh1=>.inl ⟨hI.one h1,by have:=hI.one h1;subst this;rw[h1]at hno;exact hno⟩⟩
    refine zo.cut (λ_ w'=>Ct w0 w' bc s n' ps' f/\Fr w.heap.size (λk=>k=bc) w w'/\n'<pl.length/\zt (ix pl n')=p) ?_ ?_
    ·have bd:Below w2.heap.size w2 w2.drew:=(Below.refl _ _).drew
     refine Y6 (hC2.below bd) hN hI.le λw3 b3=>⟨_,rfl,?_⟩
     have hC3:=hC2.below (bd.on b3)
     have hF3:=hF2.trans ((Fr.of_below (bd.on b3)).mono hF2.size λ_ _ x=>x)
     refine zk (λe=>?_) (λe=>?_)
     ·obtain⟨hlt,hk⟩:=zjN e (by decide)
      refine hC3.sl (hC3.at_ ?_)
      refine zjo (hC3.mem hN) hlt λt ht=>?_
      refine zm9 (x:=mkIn pl[n'] t) ht λw4 b4=>⟨_,rfl,?_⟩
      have hC4:=hC3.below b4
      have hF4:=hF3.trans ((Fr.of_below b4).mono hF3.size λ_ _ x=>x)
      have hpart:zt (piOf (mkIn pl[n'] t) pl[n'].2.2.2)=zt (ix pl n'):=by rw[zH hlt]
      rw[hpart]
      refine zk (λe2=>?_) (λe2=>?_)
      ·exact⟨hC4,hF4,hlt,by have e2:((zt (ix pl n'):Nat):Int)=(p:Int):=e2;omega⟩
      ·exact⟨n',hC4,hF4,outNo λ_ h=>e2 (by rw[h])⟩
     ·refine⟨n',hC3,hF3,outNo λhlt h=>ziE e hlt ?_⟩
      unfold kdP
      rw[if_pos (by omega)]
    ·rintro _ w5 ⟨hC5,hF5,hlt,hpart⟩
     refine hC5.inc (by omega) λw6 hC6 c6=>?_
     have hF6:=hF5.trans (c6.fr)
     refine zk (λe=>?_) (λe=>?_)
     ·have hp1:p=1:=by dsimp only at e;omega
      have hnn:=hI.one hp1
      subst hnn
      exact⟨n'+1,hC6,hF6,by omega,by omega,λk k1 k2=>by
                                      have:k=n':=by omega
                                      subst this;exact hpart,λh1=>absurd hp1 h1,λ_=>.inr rfl⟩
     ·have hp1:p≠1:=by dsimp only at e;omega
      exact hnext2 (pl.length-(n'+1)) _ _ (by omega) ⟨n'+1,rfl,hC6,hF6,hI.step hT hp hlt hpart hp1⟩
   ·rintro _ w7 ⟨n',hC7,hF7,hO⟩
    have bd:Below w7.heap.size w7 w7.drew:=(Below.refl _ _).drew
    have hC7:=hC7.drew
    have hF7:=hF7.drew
    refine hC7.at_ (hC7.part (by omega) λw9 hC9 c9=>?_)
    have hF9:=hF7.trans c9.fr
    have fin:(p=1->n'≠n)->∃(n'':Nat) (ps2:List Int),Ct w0 w9 bc s n'' ps2 f/\Fr w.heap.size (λk=>k=bc) w w9/\InvT pl (p+1) n''/\ZH pl (p+1) n'' ps2:=λhne=>
     ⟨n',_,hC9,hF9,hO.go hT hne,hP.step hC.len (by omega) hO.lo hT.low hO.own⟩
    refine zk (λe=>?_) (λe=>?_)
    ·have hp1:p=1:=by dsimp only at e;omega
     refine hC9.at_ (zk (λe2=>?_) (λe2=>fin λ_=>by omega))
     subst hp1
     exact hbad n' _ w9 hC9 hF9 (hO.stop hT (by omega))
    ·exact fin λh1=>absurd (by rw[h1];rfl) e
  ·rintro _ w10 ⟨n',ps2,hC',hF',hT',hP'⟩
   have e:IntKind.u8.wrap ((p:Int)+1)=((p+1:Nat):Int):=by rw[IntKind.wrap_u8];omega
   dsimp only
   rw[e]
   exact hnext (8-(p+1)) _ _ (by omega) ⟨p+1,n',ps2,rfl,by omega,rfl,hC',hF',hT',hP'⟩
 ·have hp:p=8:=by dsimp only at hp;omega
  subst hp
  exact hok n ps' w1 hC hF hT hP
end
end Go.Proofs
namespace Go.Proofs
open Go.Gk Go.RowKit Go.Gm
theorem Chg.frB{b B:Nat}{X:Nat->Prop}{w w':World}(h:Chg b w w')(hB:B<=b):Fr B X w w':=Fr.of_below (h.below (Below.refl _ _) hB)
theorem zqA(b:Int×Int×Int):(blV b).length=3:=rfl
theorem zmr{α:Type}(g:α->List Value)(l:List α)(x:α):flat g (l++[x])=flat g l++g x:=by simp[flat]
section
variable {w0 w:World} {bc n:Nat} {s f:Sl} {ps:List Int} {pl:List PI} {R:VWP}
theorem Ct.chg{b:Nat}{w':World}(h:Ct w0 w bc s n ps f)(c:Chg b w w')(hb:w0.heap.size<=b)(hne:b≠bc):Ct w0 w' bc s n ps f:=
 ⟨h.hi,c.below h.b0 hb,c.blk h.blk (λe=>hne e.symm),h.len⟩
theorem zpA{fn:FnL}{tp tb:Sl}{bf:Nat}{ah:Int}{done:List FnL}(h:Ct w0 w bc s n ps f)(hN:IsPl w0 s pl)(h40:40*pl.length<=140737488351232)(hn:n<pl.length)(hkd:kdP (ix pl n)=3)
  (hI:InvF pl n ah) (ha:((ah=54\/ah=55)/\fn.bk=[])\/((249<=ah/\ah<=255)/\fn.bk≠[])) (hbf:Blk w bf 102 (fnV fn tp tb)) (h0f:w0.heap.size<=bf)
  (hO:Own w 257 3 tb (flat blV fn.bk)) (hF0:zK w0.heap.size tb) (hbk:fn.bk.length<=n) (hcut:cutF pl n=done++[fn])
  (hok:∀n' ah' tb' w',n<n'->Ct w0 w' bc s n' ps f->Fr w.heap.size (λk=>k=bc\/k=bf\/tb.a=some (Gk.blk k)) w w'->InvF pl n' ah'->(249<=ah'/\ah'<=255)->Blk w' bf 102 (fnV fn tp tb')->
   Own w' 257 3 tb' (flat blV (fn.bk++[((ix pl n).2.2.1,(n:Int),(n':Int))]))->(∃b',tb'.a=some (Gk.blk b')/\(tb.a=some (Gk.blk b')\/w.heap.size<=b'))->
   cutF pl n'=done++[{fn with bk:=fn.bk++[((ix pl n).2.2.1,(n:Int),(n':Int))]}]->R (.bool true) w')
  (hbad:∀n' w',Ct w0 w' bc s n' ps f->Fr w.heap.size (λk=>k=bc\/k=bf\/tb.a=some (Gk.blk k)) w w'->zdZ pl n'->R (.bool false) w') :
  cR 135 #[.pointer (some (blk bc)),.pointer (some (blk bf))] w R:=by
 refine za.of (zdj _ _ R w ?_) λ_ _ h=>h
 have hlen:=hN.len
 have hbl:fn.bk.length=tb.l:=by have:=hO.1;rw[zP zqA]at this;omega
 have hbcf:bc≠bf:=Blk.apart h.blk hbf (by decide)
 have hbcl:bc<w.heap.size:=h.blk.lt
 have hbfl:bf<w.heap.size:=hbf.lt
 have h0w:=h.b0.size
 generalize hX:(λk=>k=bc\/k=bf\/tb.a=some (Gk.blk k))=X at hok hbad
 have hXc:X bc:=by rw[<-hX];exact .inl rfl
 have bd:Below w.heap.size w w.drew:=(Below.refl _ _).drew
 have hD:=h.drew
 refine hD.sl (hD.at_ (zqN (hD.mem hN) hn λa hc=>hD.at_ ?_))
 refine zm λw1 hB1 b1 z1=>⟨Zh b1 (hD.blk.cell rfl),Zh b1 hc,Zh b1 (hD.blk.cell rfl),Zh b1 (hD.blk.cell0 rfl),?_⟩
 have hB1:Blk w1 w.drew.heap.size 257 [.int .u32 0,.int .i64 0,.int .i64 0]:=hB1
 have hbb:w.drew.heap.size=w.heap.size:=rfl
 generalize w.drew.heap.size=bb at hB1 hbb z1
 subst hbb
 have b01:Below w.heap.size w w1:=bd.on b1
 have hC1:=h.below b01
 have hbf1:=hbf.below b01
 have hO1:=hO.below b01
 refine st3 hB1 rfl λw4 hB4 c4=>?_
 have hC4:=hC1.chg c4 h0w (by omega)
 have hbf4:=c4.blk hbf1 (by omega)
 have hO4:Own w4 257 3 tb (flat blV fn.bk):=hO1.of_block λa ha=>c4.block _ (by have:=(hO.lt ha).2;omega)
 have f4:Fr w.heap.size X w w4:=(Fr.of_below b01).trans (c4.frB (Nat.le_refl _))
 have z4:w4.heap.size=w.heap.size+1:=by rw[c4.size,z1]
 refine hC4.inc (by omega) λw5 hC5 c5=>?_
 obtain⟨F,hL,hFb⟩:∃F,InvB pl (n+1) F 248/\(F=true↔fn.bk=[]):=by
  rcases ha with⟨g1,g2⟩ | ⟨g1,g2⟩
  ·exact⟨_,hI.label (.inl g1) hn hkd,⟨λ_=>g2,λ_=>by rcases g1 with e |e<;>rw[e]<;>rfl⟩⟩
  ·refine⟨_,hI.label (.inr g1) hn hkd,⟨λe=>?_,λe=>absurd e g2⟩⟩
   rw[beq_eq_false_iff_ne.2 (show ah≠54 by omega),beq_eq_false_iff_ne.2 (show ah≠55 by omega)]at e
   cases e
 have hbf5:=c5.blk hbf4 (λe=>hbcf e.symm)
 have hcut1:=zpH hcut hkd
 have g5:Fr w4.heap.size (λk=>k=bc) w4 w5:=c5.fr
 refine zo.cut (λ_ w8=>∃n1 ah1,n+1<=n1/\InvB pl n1 F ah1/\(n1<pl.length->F=true->kdP (ix pl n1)≠5)/\(n1<pl.length->F=false->kdP (ix pl n1)≠4)/\cutF pl n1=cutF pl (n+1)/\
   Ct w0 w8 bc s n1 ps f/\Fr w4.heap.size (λk=>k=bc) w4 w8) ?_ ?_
 ·refine ze rfl (hbf5.rS (n:=3) rfl (zk (λe=>?_) (λe=>?_)))
  ·have hF:F=true:=hFb.2 (List.length_eq_zero_iff.1 (by omega))
   subst hF
   refine zgN hC5 hN (by omega) h40 (by decide) λr n1 w6 h1 h2 h3 h4' hC6 f6 _ _=>⟨r,rfl,?_⟩
   obtain⟨ah1,hL1,_⟩:=hL.locals (.inl rfl) h1 h2 h3
   exact⟨n1,ah1,h1,hL1,λhl _=>h4' hl,λ_ h=>(by cases h),zeo h1 λj j1 j2=>.inr (.inr (.inr (.inl (h3 j j1 j2)))),hC6,g5.on f6⟩
  ·have hF:F=false:=by
    cases F
    ·rfl
    ·have:=hFb.1 rfl
     rw[this]at hbl
     exact absurd (by rw[<-hbl];rfl) e
   subst hF
   refine zgN hC5 hN (by omega) h40 (by decide) λr n1 w6 h1 h2 h3 h4' hC6 f6 _ _=>⟨r,rfl,?_⟩
   obtain⟨ah1,hL1,_⟩:=hL.phis (.inl rfl) h1 h2 h3
   exact⟨n1,ah1,h1,hL1,λ_ h=>(by cases h),λhl _=>h4' hl,zeo h1 λj j1 j2=>.inr (.inr (.inl (h3 j j1 j2))),hC6,g5.on f6⟩
 ·rintro _ w8 ⟨n1,ah1,hn1,hL1,hk5,hk4,hcut2,hC8,g8⟩
  have hn1l:=hL1.f.le
  refine zgN hC8 hN hn1l h40 (by decide) λr n2 w9 h1 h2 h3 h4' hC9 f9 _ _=>⟨r,rfl,?_⟩
  obtain⟨ah2,hL2,hor⟩:=hL1.plains h1 h2 h3
  have hcut3:cutF pl n2=cutF pl (n+1):=(zeo h1 λj j1 j2=>.inr (.inl (h3 j j1 j2))).trans hcut2
  have g9:=g8.on f9
  refine Y6 hC9 hN h2 λw10 b10=>⟨_,rfl,?_⟩
  have hC10:=hC9.below b10
  have g10:=g9.on (Fr.of_below b10)
  have toX:∀{w':World},Fr w4.heap.size (λk=>k=bc) w4 w'->Fr w.heap.size X w w':=λg=>f4.trans ((g.wide λk e=>by rw[e];exact hXc).mono (by omega) λ_ _ x=>x)
  refine zo.cut (λ_ w14=>∃n3,n+1<=n3/\n3<pl.length/\kdP (ix pl n3)=7/\InvF pl (n3+1) (ix pl n3).1/\(249<=(ix pl n3).1/\(ix pl n3).1<=255)/\cutF pl n3=cutF pl (n+1)/\
    Ct w0 w14 bc s n3 ps f/\Fr w4.heap.size (λk=>k=bc) w4 w14) ?_ ?_
  ·refine zk (λe=>?_) (λe=>?_)
   ·obtain⟨hlt2,hk6⟩:=zjN e (by decide)
    obtain⟨hM,hop⟩:=hL2.merge hlt2 hk6
    refine hC10.inc (by omega) λw11 hC11 c11=>?_
    have g11:=g10.on c11.fr
    have bd11:Below w11.heap.size w11 w11.drew:=(Below.refl _ _).drew
    refine Y6 hC11.drew hN (by omega) λw12 b12=>⟨_,rfl,?_⟩
    have hC12:=hC11.drew.below b12
    have g12:=g11.on (Fr.of_below (bd11.on b12))
    refine zy (λe2=>?_) (λe2=>?_)
    ·exact hbad (n2+1) w12 hC12 (toX g12) (hM.mbad hop λhl hk=>absurd hk (ziE e2 hl))
    ·obtain⟨hlt3,hk7⟩:=zjN e2 (by decide)
     refine hC12.sl (hC12.at_ ?_)
     have ew:IntKind.i64.wrap (((n2+1:Nat):Int)-1)=(n2:Int):=by rw[zq (by omega) (by omega)];omega
     rw[ew]
     refine zsX (hC12.mem hN) hlt2 (hC12.sl (hC12.at_ (zsX (hC12.mem hN) hlt3 ?_)))
     rw[<-zH hlt2,<-zH hlt3]
     refine zt7 ⟨_,rfl,zI (zz (λhm=>?_) (λhm=>?_))⟩
     ·obtain⟨q1,q2⟩:=hM.mender hop hlt3 hk7 hm
      refine⟨n2+1,by omega,hlt3,hk7,q1,q2,?_,hC12,g12⟩
      rw[<-hcut3]
      exact zeo (Nat.le_succ n2) λj j1 j2=>by
       have:j=n2:=by omega
       subst this
       exact .inr (.inr (.inr (.inr hk6)))
     ·exact hbad (n2+1) w12 hC12 (toX g12) (hM.mbad hop λ_ _=>hm)
   ·refine zk (λe2=>?_) (λe2=>?_)
    ·obtain⟨hlt2,hk7⟩:=zjN e2 (by decide)
     obtain⟨q1,q2⟩:=hL2.ender hlt2 hk7
     exact⟨n2,by omega,hlt2,hk7,q1,q2,hcut3,hC10,g10⟩
    ·refine hbad n2 w10 hC10 (toX g10) (hL2.bad (λhl=>⟨h4' hl,ziE e hl,ziE e2 hl⟩) (λhl h4 hF=>?_) (λhl h5 hF=>?_))
     ·rcases hor with e3 |e3
      ·subst e3;exact absurd h4 (hk4 hl hF)
      ·exact⟨e3.1,e3.2.1⟩
     ·rcases hor with e3 |e3
      ·subst e3;exact absurd h5 (hk5 hl hF)
      ·exact⟨e3.1,e3.2.2⟩
  ·rintro _ w14 ⟨n3,hn3,hlt3,hk7,hI3,hop3,hcut4,hC14,g14⟩
   refine hC14.inc (by omega) λw15 hC15 c15=>?_
   have g15:=g14.on c15.fr
   have hB15:Blk w15 w.heap.size 257 [.int .u32 pl[n].2.2.1,.int .i64 (n:Int),.int .i64 0]:=g15.blk hB4 (by omega)
   refine hC15.at_ ⟨hB15.wr (by simp),Nw.gen λw16 e16=>?_⟩
   have c16:Chg w.heap.size w15 w16:=by rw[e16];exact Chg.set _ _ _ _
   have hB16:Blk w16 w.heap.size 257 [.int .u32 pl[n].2.2.1,.int .i64 (n:Int),.int .i64 ((n3+1:Nat):Int)]:=by rw[e16];exact hB15.set 2 _
   clear e16
   have hC16:=hC15.chg c16 h0w (by omega)
   have hbf16:=c16.blk (g15.blk hbf4 (λe=>hbcf e.symm)) (by omega)
   have hO15:=g15.own hO4 λb e e2=>by subst e2;exact zS hO hD.blk (by decide) e
   have hO16:Own w16 257 3 tb (flat blV fn.bk):=hO15.of_block λa ha=>c16.block _ (by have:=(hO.lt ha).2;omega)
   have f16:Fr w.heap.size X w w16:=(toX g15).trans (c16.frB (Nat.le_refl _))
   have bd16:Below w16.heap.size w16 w16.drew:=(Below.refl _ _).drew
   refine ze rfl (hbf16.drew.rS (n:=3) (x:=tb) rfl (hB16.drew.rI (n:=0) rfl (hB16.drew.rI (n:=1) rfl (hB16.drew.rI (n:=2) rfl ?_))))
   refine zm λw17 hB17 b17 z17=>⟨Zh b17 (hbf16.drew.cell rfl),?_⟩
   have hB17:Blk w17 w16.drew.heap.size 257 (blV (pl[n].2.2.1,(n:Int),((n3+1:Nat):Int))):=hB17
   have b167:=bd16.on b17
   have hC17:=hC16.below b167
   have hbf17:=hbf16.below b167
   have hO17:=hO16.below b167
   have f17:Fr w.heap.size X w w17:=f16.trans ((Fr.of_below b167).mono f16.size λ_ _ x=>x)
   refine zkw eBlk hO17 rfl (by simp[Value.oneCell']) hB17 (by omega) (by omega) λr w18 b' hO18 hl18 ha18 hw18 f18=>?_
   have hXb:∀k,tb.a=some (Gk.blk k)->X k:=λk e=>by rw[<-hX];exact .inr (.inr e)
   have f18':Fr w.heap.size X w w18:=f17.trans ((f18.wide hXb).mono f17.size λ_ _ x=>x)
   have hC18:=hC17.fr f18 (λk e=>hF0 _ e) (zS hO hD.blk (by decide))
   have hbf18:=f18.blk hbf17 (zS hO17 hbf17 (by decide))
   refine ze rfl ⟨hbf18.wr (by simp),Nw.gen λw19 e19=>?_⟩
   have c19:Chg bf w18 w19:=by rw[e19];exact Chg.set _ _ _ _
   have hbf19:Blk w19 bf 102 (fnV fn tp r):=by rw[e19];exact hbf18.set 3 _
   clear e19
   have f19:Fr w.heap.size X w w19:=f18'.trans (c19.fr.wide λk e=>by rw[e,<-hX];exact .inr (.inl rfl))
   have hsz17:=f17.size
   refine hok (n3+1) _ r w19 (by omega) (hC18.chg c19 h0f (λe=>hbcf e.symm)) f19 hI3 hop3 hbf19 ?_ ⟨b',ha18,?_⟩ ?_
   ·rw[zmr,zH hn]
    refine hO18.of_block λa ha=>c19.block _ λe=>?_
    rw[ha18]at ha
    cases ha
    have e:b'=bf:=e
    subst e
    exact zS hO18 hbf18 (by decide) ha18
   ·rcases hw18 with g |g
    ·exact .inl g
    ·exact .inr (by omega)
   ·have:=zpG (n:=n3) (by rw[hcut4];exact hcut1) hk7
    rw[this]
    rfl
end
end Go.Proofs
namespace Go.Proofs
open Go.Gk Go.RowKit Go.Gm
theorem st5{b:Nat}{T:TypeId}{cs:List Value}{v0 v1 v2 v3 v4:Value}{K:World->Prop}{w:World}(hB:Blk w b T cs)(hl:cs.length=5)(hK:∀w',Blk w' b T [v0,v1,v2,v3,v4]->Chg b w w'->K w') :
  Wr w (blk b)/\Nw (w.setCell (blk b) v0) λw1=>Wr w1 ((blk b).add 1)/\Nw (w1.setCell ((blk b).add 1) v1) λw2=>Wr w2 ((blk b).add 2)/\Nw (w2.setCell ((blk b).add 2) v2) λw3=>Wr w3 ((blk b).add 3)/\Nw (w3.setCell ((blk b).add 3) v3) λw4=>
   Wr w4 ((blk b).add 4)/\Nw (w4.setCell ((blk b).add 4) v4) λw5=>K w5:=
 ZK (vs:=[v0,v1,v2,v3,v4]) hB hl hK
abbrev Fe:=FnL×Sl×Sl
abbrev feV(x:Fe):List Value:=fnV x.1 x.2.1 x.2.2
theorem znn(x:Fe):(feV x).length=5:=rfl
structure Fns (w:World) (fs:Sl) (L:List Fe):Prop where
 own:Own w 102 5 fs (flat feV L)
 row:∀x∈L,Own w 3 1 x.2.1 (x.1.ps.map (Value.int .i64))/\Own w 257 3 x.2.2 (flat blV x.1.bk)
theorem Fns.nil(w:World):Fns w ⟨none,0,0⟩ []:=⟨Own.nil _ _ _,λx hx=>by cases hx⟩
theorem Fns.len{w:World}{fs:Sl}{L:List Fe}(h:Fns w fs L):L.length=fs.l:=by have:=h.own.1;rw[zP znn]at this;omega
theorem Fns.below{w w':World}{fs:Sl}{L:List Fe}(h:Fns w fs L)(hb:Below w.heap.size w w'):Fns w' fs L:=
 ⟨h.own.below hb,λx hx=>⟨(h.row x hx).1.below hb,(h.row x hx).2.below hb⟩⟩
theorem Fns.fr{w w':World}{fs:Sl}{L:List Fe}{bc:Nat}{cs:List Value}(h:Fns w fs L)(hf:Fr w.heap.size (λk=>k=bc) w w')(hc:Blk w bc 152 cs):Fns w' fs L:=
 ⟨hf.own h.own λb e e2=>by subst e2;exact zS h.own hc (by decide) e,λx hx=>
  ⟨hf.own (h.row x hx).1 λb e e2=>by subst e2;exact zS (h.row x hx).1 hc (by decide) e,hf.own (h.row x hx).2 λb e e2=>by subst e2;exact zS (h.row x hx).2 hc (by decide) e⟩⟩
theorem zpX(p:PI):0<=kdP p:=by
 unfold kdP
 repeat' split
 all_goals omega
section
variable {w0 w:World} {bc n:Nat} {s f:Sl} {ps:List Int} {pl:List PI} {R:VWP}
theorem zsU(h:Ct w0 w bc s 0 ps ⟨none,0,0⟩)(hN:IsPl w0 s pl)(h40:40*pl.length<=140737488351232)
  (hok:∀ps' fs L w',Ct w0 w' bc s pl.length ps' fs->Fr w.heap.size (λk=>k=bc) w w'->zab pl pl.length->zcj pl=false->ZH pl 10 pl.length ps'->Fns w' fs L->zK w.heap.size fs->cutF pl pl.length=L.map (·.1)->R (.bool true) w')
  (hbad:∀n ps' fs w',Ct w0 w' bc s n ps' fs->Fr w.heap.size (λk=>k=bc) w w'->zdZ pl n->R (.bool false) w') :
  cR 101 #[.pointer (some (blk bc))] w R:=by
 refine za.of (ze0 _ R w ?_) λ_ _ h=>h
 have hlen:=hN.len
 have hbcl:bc<w.heap.size:=h.blk.lt
 have h0w:=h.b0.size
 refine ztX h hN (by omega) (λn0 ps1 w1 hC1 f1 hT hP=>⟨_,rfl,zJ rfl ?_⟩) (λn1 ps1 w1 hC1 f1 hS=>⟨_,rfl,zR rfl (hbad n1 ps1 _ w1 hC1 f1 hS)⟩)
 have hC1:=hC1.drew
 have f1:=f1.drew
 refine hC1.at_ (hC1.sl (hC1.part (p:=8) (by omega) λw3 hC3 c3=>?_))
 have f3:=(f1.trans (c3.fr)).drew
 have hC3:=hC3.drew
 refine hC3.sl (hC3.sl (hC3.part (p:=9) (by omega) λw5 hC5 c5=>?_))
 have f5:=f3.trans (c5.fr)
 rw[hlen]at hC5
 generalize hps5:((((ps1.set (2*8) (n0:Int)).set (2*8+1) (pl.length:Int)).set (2*9) (pl.length:Int)).set (2*9+1) (pl.length:Int))=ps5 at hC5
 refine zl.ghost (λj _ w'=>∃n fs L,j=pl.length-n/\Ct w0 w' bc s n ps5 fs/\Fr w.heap.size (λk=>k=bc) w w'/\zK w.heap.size fs/\InvO pl n/\Fns w' fs L/\cutF pl n=L.map (·.1)/\(n0<n->zt (ix pl n0)=8)/\n0<=n/\2*L.length<=n)
  (pl.length-n0) ⟨n0,⟨none,0,0⟩,[],rfl,hC5,f5,λa ha=>(by cases ha),hT.fun,Fns.nil _,?_,λh=>by omega,Nat.le_refl _,Nat.zero_le _⟩ ?_
 ·exact(zeo (n:=0) (Nat.zero_le _) λj _ j2=>.inl (by have:=hT.low j j2;omega))
 rintro _ _ w6 ⟨n,fs,L,rfl,hC6,f6,hF6,hO6,hL6,hcut6,h86,hn06,hLn⟩ next hnext
 have hn:=hO6.le
 refine Y6 hC6 hN hn λw7 b7=>⟨_,rfl,?_⟩
 have hC7:=hC6.below b7
 have f7:=f6.trans ((Fr.of_below b7).mono f6.size λ_ _ x=>x)
 have hL7:=hL6.below b7
 refine zj (λhlt=>?_) (λhge=>?_)
 ·have e:n=pl.length:=by
   unfold kn at hlt
   split at hlt
   ·have:=zpX (ix pl n);omega
   ·omega
  subst e
  refine hok ps5 fs L w7 hC7 f7 hO6.good (hO6.shut rfl) ?_ hL7 hF6 hcut6
  rw[<-hps5]
  have hl1:=hC1.len
  exact hP.all hl1 hT.le hT.low hO6.good h86
 ·have hltn:n<pl.length:=by
   unfold kn at hge
   split at hge
   ·assumption
   ·omega
  refine Y6 hC7 hN hn λw8 b8=>⟨_,rfl,?_⟩
  have hC8:=hC7.below b8
  have f8:=f7.trans ((Fr.of_below b8).mono f7.size λ_ _ x=>x)
  have hL8:=hL7.below b8
  refine zy (λe=>hbad n ps5 fs w8 hC8 f8 (hO6.bad hltn (ziE e hltn))) (λe=>?_)
  obtain⟨_,hk1⟩:=zjN e (by decide)
  have hp8:=Zt (p:=ix pl n) (by omega)
  have hop1:=(Zl hp8).1.1 hk1
  have bd8:Below w8.heap.size w8 w8.drew:=(Below.refl _ _).drew
  have hD:=hC8.drew
  have s08:=hC8.b0.size
  have sw8:=f8.size
  refine hD.sl (hD.at_ (zqN (hD.mem hN) hltn λa hc=>hD.at_ ?_))
  refine zm λw9 hB9 b9 z9=>⟨Zh b9 (hD.blk.cell rfl),Zh b9 hc,Zh b9 (hD.blk.cell rfl),Zh b9 (hD.blk.cell0 rfl),?_⟩
  have hB9:Blk w9 w8.drew.heap.size 102 [.int .u32 0,.int .i64 0,.slice none 0 0,.slice none 0 0,.int .i64 0]:=hB9
  have hbb:w8.drew.heap.size=w8.heap.size:=rfl
  generalize hbf:w8.drew.heap.size=bf at hB9 hbb z9
  subst hbb
  have b89:=bd8.on b9
  refine st5 hB9 rfl λw14 hB14 c14=>?_
  have hB14:Blk w14 w8.heap.size 102 (fnV ⟨(ix pl n).2.2.1,n,0,[],[]⟩ ⟨none,0,0⟩ ⟨none,0,0⟩):=by rw[zH hltn];exact hB14
  have hbcf:w8.heap.size≠bc:=by omega
  have hC14:=(hC8.below b89).chg c14 s08 hbcf
  have g14:Fr w8.heap.size (λk=>k=bc) w8 w14:=(Fr.of_below b89).trans (c14.frB (Nat.le_refl _))
  have z14:w14.heap.size=w8.heap.size+1:=by rw[c14.size,z9]
  refine hC14.inc (by omega) λw15 hC15 c15=>?_
  have hI15:=hO6.begin hltn hp8 hop1
  have hcut15:=zsT hcut6 hk1
  have g15:=g14.trans c15.fr
  have hB15:=c15.blk hB14 hbcf
  refine zgN hC15 hN (by omega) h40 (by decide) λtp n2 w16 h1 h2 h3 h4 hC16 f16 hOp hFp=>⟨tp,rfl,?_⟩
  obtain⟨ah2,hI2,ha2⟩:=hI15.params (.inl rfl) h1 h2 h3
  have hcut16:=zos hcut15 h1 h3
  have g16:Fr w8.heap.size (λk=>k=bc) w8 w16:=g15.trans (f16.mono (by rw[c15.size];omega) λ_ _ x=>x)
  have hB16:=f16.blk hB15 hbcf
  have s15:=c15.size
  have s16:=f16.size
  refine⟨hB16.wr (by simp),Nw.gen λw17 e17=>?_⟩
  have c17:Chg w8.heap.size w16 w17:=by rw[e17];exact Chg.set _ _ _ _
  have hB17:Blk w17 w8.heap.size 102 (fnV ⟨(ix pl n).2.2.1,n,0,[],[]⟩ tp ⟨none,0,0⟩):=by rw[e17];exact hB16.set 2 _
  clear e17
  have hC17:=hC16.chg c17 s08 hbcf
  have g17:Fr w8.heap.size (λk=>k=bc) w8 w17:=g16.trans (c17.frB (Nat.le_refl _))
  have hOp17:Own w17 3 1 tp ((ZD (n+1) n2).map (Value.int .i64)):=hOp.of_block λa ha=>c17.block _ (by have:=hFp a ha;omega)
  generalize hpar:ZD (n+1) n2=par at hOp17
  have hcut17:cutF pl n2=L.map (·.1)++[⟨(ix pl n).2.2.1,n,0,par,[]⟩]:=by rw[hcut16,<-hpar];rfl
  refine zl.ghost (λj _ w'=>∃n3 ah bk tb,j=pl.length-n3/\n2<=n3/\Ct w0 w' bc s n3 ps5 fs/\Fr w8.heap.size (λk=>k=bc) w8 w'/\Blk w' w8.heap.size 102 (fnV ⟨(ix pl n).2.2.1,n,0,par,bk⟩ tp tb)/\
    Own w' 3 1 tp (par.map (Value.int .i64))/\Own w' 257 3 tb (flat blV bk)/\zK w8.heap.size tb/\InvF pl n3 ah/\(((ah=54\/ah=55)/\bk=[])\/((249<=ah/\ah<=255)/\bk≠[]))/\
    cutF pl n3=L.map (·.1)++[⟨(ix pl n).2.2.1,n,0,par,bk⟩]/\bk.length<=n3/\(bk=[]->n3<pl.length->kdP (ix pl n3)≠2)) (pl.length-n2)
   ⟨n2,ah2,[],⟨none,0,0⟩,rfl,Nat.le_refl _,hC17,g17,hB17,hOp17,Own.nil _ _ _,λa ha=>(by cases ha),hI2,.inl ⟨ha2,rfl⟩,hcut17,Nat.zero_le _,λ_ hl=>h4 hl⟩ ?_
  rintro _ _ w18 ⟨n3,ah,bk,tb,rfl,hn23,hC18,g18,hB18,hOp18,hOb18,hFb18,hI18,ha18,hcut18,hbk18,hk2⟩ next2 hnext2
  have hn3:=hI18.le
  refine Y6 hC18 hN hn3 λw19 b19=>⟨_,rfl,?_⟩
  have hC19:=hC18.below b19
  have g19:=g18.trans ((Fr.of_below b19).mono g18.size λ_ _ x=>x)
  have hB19:=hB18.below b19
  have hOp19:=hOp18.below b19
  have hOb19:=hOb18.below b19
  have toW:∀{w':World},Fr w8.heap.size (λk=>k=bc) w8 w'->Fr w.heap.size (λk=>k=bc) w w':=λg=>f8.trans (g.mono f8.size λ_ _ x=>x)
  have hblen:bk.length=tb.l:=by have:=hOb19.1;rw[zP zqA]at this;omega
  refine zk (λe3=>?_) (λe3=>?_)
  ·obtain⟨hlt3,hk3⟩:=zjN e3 (by decide)
   have back:∀{w':World},Fr w19.heap.size (λk=>k=bc\/k=w8.heap.size\/tb.a=some (Gk.blk k)) w19 w'->Fr w8.heap.size (λk=>k=bc) w8 w':=λg=>
    g19.trans (g.mono g19.size λk hk x=>by
     rcases x with x |x |x
     ·exact x
     ·omega
     ·have:=hFb18 _ x
      exact absurd this (Nat.not_le.2 hk))
   refine zpA (fn:=⟨(ix pl n).2.2.1,n,0,par,bk⟩) (tp:=tp) (tb:=tb) hC19 hN h40 hlt3 hk3 hI18 ha18 hB19 s08 hOb19 (λa ha=>Nat.le_trans s08 (hFb18 a ha)) hbk18 hcut18
    (λn4 ah4 tb4 w20 hn4 hC20 f20 hI4 ha4 hB20 hO20 hb20 hcut20=>⟨_,rfl,zJ rfl ?_⟩)
    (λn4 w20 hC20 f20 hS=>⟨_,rfl,zR rfl (hbad n4 ps5 fs w20 hC20 (toW (back f20)) hS)⟩)
   refine hnext2 (pl.length-n4) _ _ (by have:=hI4.le;omega) ⟨n4,ah4,bk++[((ix pl n3).2.2.1,(n3:Int),(n4:Int))],tb4,rfl,by omega,hC20,back f20,hB20,?_,hO20,?_,hI4,.inr ⟨ha4,by simp⟩,hcut20,by simp;omega,λh=>by simp at h⟩
   ·refine f20.own hOp19 λb e x=>?_
    rcases x with x |x |x
    ·subst x;exact zS hOp19 hC19.blk (by decide) e
    ·subst x;exact zS hOp19 hB19 (by decide) e
    ·exact zhI hOp19 hOb19 (by decide) e x
   ·intro a ha
    obtain⟨b',q1,q2⟩:=hb20
    rw[q1]at ha
    cases ha
    show w8.heap.size<=b'
    rcases q2 with q2 |q2
    ·exact hFb18 _ q2
    ·have:=g19.size;omega
  ·refine zo.cut (λ_ w21=>Ct w0 w21 bc s n3 ps5 fs/\Fr w8.heap.size (λk=>k=bc) w8 w21/\Blk w21 w8.heap.size 102 (fnV ⟨(ix pl n).2.2.1,n,0,par,bk⟩ tp tb)/\
    Own w21 3 1 tp (par.map (Value.int .i64))/\Own w21 257 3 tb (flat blV bk)/\n3<pl.length/\kdP (ix pl n3)=8/\(249<=ah/\ah<=255)) ?_ ?_
   ·refine hB19.rS (n:=3) (x:=tb) rfl (zk (λe0=>?_) (λe0=>?_))
    ·have hbk0:bk=[]:=List.length_eq_zero_iff.1 (by omega)
     have ha':ah=54\/ah=55:=by
      rcases ha18 with⟨g,_⟩ | ⟨_,g⟩
      ·exact g
      ·exact absurd hbk0 g
     exact hbad n3 ps5 fs w19 hC19 (toW g19) (hI18.noblock ha' (hk2 hbk0) (ziE e3))
    ·have ha':249<=ah/\ah<=255:=by
      rcases ha18 with⟨_,g⟩ | ⟨g,_⟩
      ·rw[g]at hblen;exact absurd (by rw[<-hblen];rfl) e0
      ·exact g
     refine Y6 hC19 hN hn3 λw21 b21=>⟨_,rfl,?_⟩
     refine zy (λe8=>?_) (λe8=>?_)
     ·exact hbad n3 ps5 fs w21 (hC19.below b21) (toW (g19.trans ((Fr.of_below b21).mono g19.size λ_ _ x=>x))) (hI18.noend ha' (ziE e3) (ziE e8))
     ·obtain⟨q1,q2⟩:=zjN e8 (by decide)
      exact⟨hC19.below b21,g19.trans ((Fr.of_below b21).mono g19.size λ_ _ x=>x),hB19.below b21,hOp19.below b21,hOb19.below b21,q1,q2,ha'⟩
   ·rintro _ w22 ⟨hC22,g22,hB22,hOp22,hOb22,hlt3,hk8,ha'⟩
    have hI23:=hI18.shut ha' hlt3 hk8
    have hcut23:=zsS hcut18 hk8
    refine hC22.at_ ⟨hB22.wr (by simp),Nw.gen λw23 e23=>?_⟩
    have c23:Chg w8.heap.size w22 w23:=by rw[e23];exact Chg.set _ _ _ _
    have hB23:Blk w23 w8.heap.size 102 (fnV ⟨(ix pl n).2.2.1,n,n3,par,bk⟩ tp tb):=by rw[e23];exact hB22.set 4 _
    clear e23
    have hC23:=hC22.chg c23 s08 hbcf
    have g23:Fr w8.heap.size (λk=>k=bc) w8 w23:=g22.trans (c23.frB (Nat.le_refl _))
    have hOp23:Own w23 3 1 tp (par.map (Value.int .i64)):=hOp22.of_block λa ha=>c23.block _ λe=>zS hOp22 hB22 (by decide) (by rw[ha,(hOp22.lt ha).1,e])
    have hOb23:Own w23 257 3 tb (flat blV bk):=hOb22.of_block λa ha=>c23.block _ λe=>zS hOb22 hB22 (by decide) (by rw[ha,(hOb22.lt ha).1,e])
    refine hC23.inc (by omega) λw24 hC24 c24=>?_
    have g24:=g23.trans c24.fr
    have hB24:=(c24.blk hB23 hbcf).drew
    have hOp24:=(c24.fr.own hOp23 λb e x=>by subst x;exact zS hOp23 hC23.blk (by decide) e).drew
    have hOb24:=(c24.fr.own hOb23 λb e x=>by subst x;exact zS hOb23 hC23.blk (by decide) e).drew
    have hC24:=hC24.drew
    have g24:=g24.drew
    have hL24:=hL8.fr g24 hC8.blk
    refine ze rfl (hC24.blk.rS (n:=22) (x:=fs) (zsQ hC24.len) ?_)
    refine hB24.rI (n:=0) rfl (hB24.rI (n:=1) rfl (hB24.rS (n:=2) (x:=tp) rfl (hB24.rS (n:=3) (x:=tb) rfl (hB24.rI (n:=4) rfl ?_))))
    refine zm λw25 hB25 b25 z25=>⟨Zh b25 (hC24.blk.cell (zsQ hC24.len)),?_⟩
    have hB25:Blk w25 w24.drew.heap.size 102 (fnV ⟨(ix pl n).2.2.1,n,n3,par,bk⟩ tp tb):=hB25
    have hL25:=hL24.below b25
    have hC25:=hC24.below b25
    have hll:=hL25.len
    refine zkw eFun hL25.own rfl (by simp[Value.oneCell']) hB25 (by omega) (by omega) λr w26 b' hO26 hl26 ha26 hw26 f26=>?_
    have hlow:∀k,fs.a=some (Gk.blk k)->w.heap.size<=k:=λk e=>hF6 _ e
    have hC26:=hC25.fr f26 (λk e=>Nat.le_trans h0w (hlow k e)) (zS hL25.own hC25.blk (by decide))
    have t25:=toW (g24.trans ((Fr.of_below b25).mono g24.size λ_ _ x=>x))
    have t26:Fr w.heap.size (λk=>k=bc) w w26:=t25.trans (f26.mono t25.size λk hk x=>absurd (hlow k x) (Nat.not_le.2 hk))
    have rows26:∀x∈L++[((⟨(ix pl n).2.2.1,n,n3,par,bk⟩:FnL),tp,tb)],Own w26 3 1 x.2.1 (x.1.ps.map (Value.int .i64))/\Own w26 257 3 x.2.2 (flat blV x.1.bk):=by
     intro x hx
     have both:Own w25 3 1 x.2.1 (x.1.ps.map (Value.int .i64))/\Own w25 257 3 x.2.2 (flat blV x.1.bk):=by
      rcases List.mem_append.1 hx with hx |hx
      ·exact hL25.row x hx
      ·rw[List.mem_singleton]at hx
       subst hx
       exact⟨hOp24.below b25,hOb24.below b25⟩
     exact⟨f26.own both.1 λb e x=>zhI both.1 hL25.own (by decide) e x,f26.own both.2 λb e x=>zhI both.2 hL25.own (by decide) e x⟩
    have hl23:=znf (s:=s) (n:=n3+1) (f:=fs) hC26.len
    refine ze rfl ⟨hC26.blk.wr (by omega),Nw.gen λw27 e27=>?_⟩
    have c27:Chg bc w26 w27:=by rw[e27];exact Chg.set _ _ _ _
    have hB27:Blk w27 bc 152 (ctV s (n3+1:Nat) ps5 r):=by rw[e27,<-zsR hC26.len];exact hC26.blk.set 22 _
    clear e27
    refine hnext (pl.length-(n3+1)) _ _ (by omega) ⟨n3+1,r,L++[(⟨(ix pl n).2.2.1,n,n3,par,bk⟩,tp,tb)],rfl,⟨hC26.hi,c27.below hC26.b0 hC26.hi,hB27,hC26.len⟩,t26.trans c27.fr,?_,hI23.end,⟨?_,?_⟩,?_,λ_=>?_,by omega,by simp;omega⟩
    ·intro a ha
     rw[ha26]at ha
     cases ha
     show w.heap.size<=b'
     rcases hw26 with g |g
     ·exact hlow _ g
     ·have:=t25.size;omega
    ·rw[zmr]
     refine hO26.of_block λa ha=>c27.block _ λe=>zS hO26 hC26.blk (by decide) (by rw[ha,(hO26.lt ha).1,e])
    ·intro x hx
     obtain⟨q1,q2⟩:=rows26 x hx
     exact⟨c27.fr.own q1 λb e x=>by subst x;exact zS q1 hC26.blk (by decide) e,c27.fr.own q2 λb e x=>by subst x;exact zS q2 hC26.blk (by decide) e⟩
    ·rw[hcut23,List.map_append]
     rfl
    ·by_cases en:n0=n
     ·subst en;exact hp8
     ·exact h86 (by omega)
end
end Go.Proofs
namespace Go.Proofs
open Go.Gk Go.RowKit Go.Gm
abbrev T20:=Int×Int×Int×Int×Int×Int×Int×Int×Int×Int×Int×Int×Int×Int×Int×Int×Int×Int×Int×Int×Unit
abbrev l20(x:T20):List Int:=[x.1,x.2.1,x.2.2.1,x.2.2.2.1,x.2.2.2.2.1,x.2.2.2.2.2.1,x.2.2.2.2.2.2.1,x.2.2.2.2.2.2.2.1,x.2.2.2.2.2.2.2.2.1,x.2.2.2.2.2.2.2.2.2.1,x.2.2.2.2.2.2.2.2.2.2.1,x.2.2.2.2.2.2.2.2.2.2.2.1,x.2.2.2.2.2.2.2.2.2.2.2.2.1,x.2.2.2.2.2.2.2.2.2.2.2.2.2.1,x.2.2.2.2.2.2.2.2.2.2.2.2.2.2.1,x.2.2.2.2.2.2.2.2.2.2.2.2.2.2.2.1,x.2.2.2.2.2.2.2.2.2.2.2.2.2.2.2.2.1,x.2.2.2.2.2.2.2.2.2.2.2.2.2.2.2.2.2.1,x.2.2.2.2.2.2.2.2.2.2.2.2.2.2.2.2.2.2.1,x.2.2.2.2.2.2.2.2.2.2.2.2.2.2.2.2.2.2.2.1]
abbrev sp20(x:T20):List Value:=[.int .i64 x.1,.int .i64 x.2.1,.int .i64 x.2.2.1,.int .i64 x.2.2.2.1,.int .i64 x.2.2.2.2.1,.int .i64 x.2.2.2.2.2.1,.int .i64 x.2.2.2.2.2.2.1,.int .i64 x.2.2.2.2.2.2.2.1,.int .i64 x.2.2.2.2.2.2.2.2.1,.int .i64 x.2.2.2.2.2.2.2.2.2.1,.int .i64 x.2.2.2.2.2.2.2.2.2.2.1,.int .i64 x.2.2.2.2.2.2.2.2.2.2.2.1,.int .i64 x.2.2.2.2.2.2.2.2.2.2.2.2.1,.int .i64 x.2.2.2.2.2.2.2.2.2.2.2.2.2.1,.int .i64 x.2.2.2.2.2.2.2.2.2.2.2.2.2.2.1,.int .i64 x.2.2.2.2.2.2.2.2.2.2.2.2.2.2.2.1,.int .i64 x.2.2.2.2.2.2.2.2.2.2.2.2.2.2.2.2.1,.int .i64 x.2.2.2.2.2.2.2.2.2.2.2.2.2.2.2.2.2.1,.int .i64 x.2.2.2.2.2.2.2.2.2.2.2.2.2.2.2.2.2.2.1,.int .i64 x.2.2.2.2.2.2.2.2.2.2.2.2.2.2.2.2.2.2.2.1]
abbrev ag20(x:T20):Value:=.agg #[.int .i64 x.1,.int .i64 x.2.1,.int .i64 x.2.2.1,.int .i64 x.2.2.2.1,.int .i64 x.2.2.2.2.1,.int .i64 x.2.2.2.2.2.1,.int .i64 x.2.2.2.2.2.2.1,.int .i64 x.2.2.2.2.2.2.2.1,.int .i64 x.2.2.2.2.2.2.2.2.1,.int .i64 x.2.2.2.2.2.2.2.2.2.1,.int .i64 x.2.2.2.2.2.2.2.2.2.2.1,.int .i64 x.2.2.2.2.2.2.2.2.2.2.2.1,.int .i64 x.2.2.2.2.2.2.2.2.2.2.2.2.1,.int .i64 x.2.2.2.2.2.2.2.2.2.2.2.2.2.1,.int .i64 x.2.2.2.2.2.2.2.2.2.2.2.2.2.2.1,.int .i64 x.2.2.2.2.2.2.2.2.2.2.2.2.2.2.2.1,.int .i64 x.2.2.2.2.2.2.2.2.2.2.2.2.2.2.2.2.1,.int .i64 x.2.2.2.2.2.2.2.2.2.2.2.2.2.2.2.2.2.1,.int .i64 x.2.2.2.2.2.2.2.2.2.2.2.2.2.2.2.2.2.2.1,.int .i64 x.2.2.2.2.2.2.2.2.2.2.2.2.2.2.2.2.2.2.2.1]
theorem zvA{ps:List Int}(h:ps.length=20):∃x:T20,ps=l20 x:=by
 match ps,h with
 | [a0,a1,a2,a3,a4,a5,a6,a7,a8,a9,a10,a11,a12,a13,a14,a15,a16,a17,a18,a19],_=>exact⟨(a0,a1,a2,a3,a4,a5,a6,a7,a8,a9,a10,a11,a12,a13,a14,a15,a16,a17,a18,a19,()),rfl⟩
theorem _root_.Go.Gk.Blk.rI2{w:World}{b:Nat}{T:TypeId}{cs:List Value}(h:Blk w b T cs){m n:Nat}{κ:IntKind}{x:Int}(hn:cs[m+n]? =some (.int κ x)){φ:Int->Prop}(hφ:φ x):ldI w (((Gk.blk b).add m).add n) κ φ:=by
 rw[zn];exact h.rI hn hφ
theorem ld20{w:World}{b:Nat}{T:TypeId}{x:T20}(h:Blk w b T (sp20 x)){φ:Int->Int->Int->Int->Int->Int->Int->Int->Int->Int->Int->Int->Int->Int->Int->Int->Int->Int->Int->Int->Prop}(hφ:φ x.1 x.2.1 x.2.2.1 x.2.2.2.1 x.2.2.2.2.1 x.2.2.2.2.2.1 x.2.2.2.2.2.2.1 x.2.2.2.2.2.2.2.1 x.2.2.2.2.2.2.2.2.1 x.2.2.2.2.2.2.2.2.2.1 x.2.2.2.2.2.2.2.2.2.2.1 x.2.2.2.2.2.2.2.2.2.2.2.1 x.2.2.2.2.2.2.2.2.2.2.2.2.1 x.2.2.2.2.2.2.2.2.2.2.2.2.2.1 x.2.2.2.2.2.2.2.2.2.2.2.2.2.2.1 x.2.2.2.2.2.2.2.2.2.2.2.2.2.2.2.1 x.2.2.2.2.2.2.2.2.2.2.2.2.2.2.2.2.1 x.2.2.2.2.2.2.2.2.2.2.2.2.2.2.2.2.2.1 x.2.2.2.2.2.2.2.2.2.2.2.2.2.2.2.2.2.2.1 x.2.2.2.2.2.2.2.2.2.2.2.2.2.2.2.2.2.2.2.1) :
   ldI w ((blk b).add 0) .i64 λx0=>
   ldI w ((blk b).add 1) .i64 λx1=>
   ldI w ((blk b).add 2) .i64 λx2=>
   ldI w ((blk b).add 3) .i64 λx3=>
   ldI w ((blk b).add 4) .i64 λx4=>
   ldI w ((blk b).add 5) .i64 λx5=>
   ldI w ((blk b).add 6) .i64 λx6=>
   ldI w ((blk b).add 7) .i64 λx7=>
   ldI w ((blk b).add 8) .i64 λx8=>
   ldI w ((blk b).add 9) .i64 λx9=>
   ldI w ((blk b).add 10) .i64 λx10=>
   ldI w ((blk b).add 11) .i64 λx11=>
   ldI w ((blk b).add 12) .i64 λx12=>
   ldI w ((blk b).add 13) .i64 λx13=>
   ldI w ((blk b).add 14) .i64 λx14=>
   ldI w ((blk b).add 15) .i64 λx15=>
   ldI w ((blk b).add 16) .i64 λx16=>
   ldI w ((blk b).add 17) .i64 λx17=>
   ldI w ((blk b).add 18) .i64 λx18=>
   ldI w ((blk b).add 19) .i64 λx19=>
   φ x0 x1 x2 x3 x4 x5 x6 x7 x8 x9 x10 x11 x12 x13 x14 x15 x16 x17 x18 x19:=
 h.rI (n:=0) rfl (h.rI (n:=1) rfl (h.rI (n:=2) rfl (h.rI (n:=3) rfl (h.rI (n:=4) rfl (h.rI (n:=5) rfl (h.rI (n:=6) rfl (h.rI (n:=7) rfl (h.rI (n:=8) rfl (h.rI (n:=9) rfl (h.rI (n:=10) rfl (h.rI (n:=11) rfl (h.rI (n:=12) rfl (h.rI (n:=13) rfl (h.rI (n:=14) rfl (h.rI (n:=15) rfl (h.rI (n:=16) rfl (h.rI (n:=17) rfl (h.rI (n:=18) rfl (h.rI (n:=19) rfl (hφ))))))))))))))))))))
theorem zwd{w:World}{b:Nat}{T:TypeId}{v0 v1:Value}{r:List Value}{x:T20}(h:Blk w b T (v0::v1::(sp20 x++r))){φ:Int->Int->Int->Int->Int->Int->Int->Int->Int->Int->Int->Int->Int->Int->Int->Int->Int->Int->Int->Int->Prop}(hφ:φ x.1 x.2.1 x.2.2.1 x.2.2.2.1 x.2.2.2.2.1 x.2.2.2.2.2.1 x.2.2.2.2.2.2.1 x.2.2.2.2.2.2.2.1 x.2.2.2.2.2.2.2.2.1 x.2.2.2.2.2.2.2.2.2.1 x.2.2.2.2.2.2.2.2.2.2.1 x.2.2.2.2.2.2.2.2.2.2.2.1 x.2.2.2.2.2.2.2.2.2.2.2.2.1 x.2.2.2.2.2.2.2.2.2.2.2.2.2.1 x.2.2.2.2.2.2.2.2.2.2.2.2.2.2.1 x.2.2.2.2.2.2.2.2.2.2.2.2.2.2.2.1 x.2.2.2.2.2.2.2.2.2.2.2.2.2.2.2.2.1 x.2.2.2.2.2.2.2.2.2.2.2.2.2.2.2.2.2.1 x.2.2.2.2.2.2.2.2.2.2.2.2.2.2.2.2.2.2.1 x.2.2.2.2.2.2.2.2.2.2.2.2.2.2.2.2.2.2.2.1) :
   ldI w (((blk b).add 2).add 0) .i64 λx0=>
   ldI w (((blk b).add 2).add 1) .i64 λx1=>
   ldI w (((blk b).add 2).add 2) .i64 λx2=>
   ldI w (((blk b).add 2).add 3) .i64 λx3=>
   ldI w (((blk b).add 2).add 4) .i64 λx4=>
   ldI w (((blk b).add 2).add 5) .i64 λx5=>
   ldI w (((blk b).add 2).add 6) .i64 λx6=>
   ldI w (((blk b).add 2).add 7) .i64 λx7=>
   ldI w (((blk b).add 2).add 8) .i64 λx8=>
   ldI w (((blk b).add 2).add 9) .i64 λx9=>
   ldI w (((blk b).add 2).add 10) .i64 λx10=>
   ldI w (((blk b).add 2).add 11) .i64 λx11=>
   ldI w (((blk b).add 2).add 12) .i64 λx12=>
   ldI w (((blk b).add 2).add 13) .i64 λx13=>
   ldI w (((blk b).add 2).add 14) .i64 λx14=>
   ldI w (((blk b).add 2).add 15) .i64 λx15=>
   ldI w (((blk b).add 2).add 16) .i64 λx16=>
   ldI w (((blk b).add 2).add 17) .i64 λx17=>
   ldI w (((blk b).add 2).add 18) .i64 λx18=>
   ldI w (((blk b).add 2).add 19) .i64 λx19=>
   φ x0 x1 x2 x3 x4 x5 x6 x7 x8 x9 x10 x11 x12 x13 x14 x15 x16 x17 x18 x19:=
 h.rI2 (m:=2) (n:=0) rfl (h.rI2 (m:=2) (n:=1) rfl (h.rI2 (m:=2) (n:=2) rfl (h.rI2 (m:=2) (n:=3) rfl (h.rI2 (m:=2) (n:=4) rfl (h.rI2 (m:=2) (n:=5) rfl (h.rI2 (m:=2) (n:=6) rfl (h.rI2 (m:=2) (n:=7) rfl (h.rI2 (m:=2) (n:=8) rfl (h.rI2 (m:=2) (n:=9) rfl (h.rI2 (m:=2) (n:=10) rfl (h.rI2 (m:=2) (n:=11) rfl (h.rI2 (m:=2) (n:=12) rfl (h.rI2 (m:=2) (n:=13) rfl (h.rI2 (m:=2) (n:=14) rfl (h.rI2 (m:=2) (n:=15) rfl (h.rI2 (m:=2) (n:=16) rfl (h.rI2 (m:=2) (n:=17) rfl (h.rI2 (m:=2) (n:=18) rfl (h.rI2 (m:=2) (n:=19) rfl (hφ))))))))))))))))))))
theorem st20{b:Nat}{T:TypeId}{cs:List Value}{x:T20}{K:World->Prop}{w:World}(hB:Blk w b T cs)(hl:cs.length=20)(hK:∀w',Blk w' b T (sp20 x)->Chg b w w'->K w') :
   Wr w (blk b)/\Nw (w.setCell (blk b) (.int .i64 x.1)) λu0=>
   Wr u0 ((blk b).add 1)/\Nw (u0.setCell ((blk b).add 1) (.int .i64 x.2.1)) λu1=>
   Wr u1 ((blk b).add 2)/\Nw (u1.setCell ((blk b).add 2) (.int .i64 x.2.2.1)) λu2=>
   Wr u2 ((blk b).add 3)/\Nw (u2.setCell ((blk b).add 3) (.int .i64 x.2.2.2.1)) λu3=>
   Wr u3 ((blk b).add 4)/\Nw (u3.setCell ((blk b).add 4) (.int .i64 x.2.2.2.2.1)) λu4=>
   Wr u4 ((blk b).add 5)/\Nw (u4.setCell ((blk b).add 5) (.int .i64 x.2.2.2.2.2.1)) λu5=>
   Wr u5 ((blk b).add 6)/\Nw (u5.setCell ((blk b).add 6) (.int .i64 x.2.2.2.2.2.2.1)) λu6=>
   Wr u6 ((blk b).add 7)/\Nw (u6.setCell ((blk b).add 7) (.int .i64 x.2.2.2.2.2.2.2.1)) λu7=>
   Wr u7 ((blk b).add 8)/\Nw (u7.setCell ((blk b).add 8) (.int .i64 x.2.2.2.2.2.2.2.2.1)) λu8=>
   Wr u8 ((blk b).add 9)/\Nw (u8.setCell ((blk b).add 9) (.int .i64 x.2.2.2.2.2.2.2.2.2.1)) λu9=>
   Wr u9 ((blk b).add 10)/\Nw (u9.setCell ((blk b).add 10) (.int .i64 x.2.2.2.2.2.2.2.2.2.2.1)) λu10=>
   Wr u10 ((blk b).add 11)/\Nw (u10.setCell ((blk b).add 11) (.int .i64 x.2.2.2.2.2.2.2.2.2.2.2.1)) λu11=>
   Wr u11 ((blk b).add 12)/\Nw (u11.setCell ((blk b).add 12) (.int .i64 x.2.2.2.2.2.2.2.2.2.2.2.2.1)) λu12=>
   Wr u12 ((blk b).add 13)/\Nw (u12.setCell ((blk b).add 13) (.int .i64 x.2.2.2.2.2.2.2.2.2.2.2.2.2.1)) λu13=>
   Wr u13 ((blk b).add 14)/\Nw (u13.setCell ((blk b).add 14) (.int .i64 x.2.2.2.2.2.2.2.2.2.2.2.2.2.2.1)) λu14=>
   Wr u14 ((blk b).add 15)/\Nw (u14.setCell ((blk b).add 15) (.int .i64 x.2.2.2.2.2.2.2.2.2.2.2.2.2.2.2.1)) λu15=>
   Wr u15 ((blk b).add 16)/\Nw (u15.setCell ((blk b).add 16) (.int .i64 x.2.2.2.2.2.2.2.2.2.2.2.2.2.2.2.2.1)) λu16=>
   Wr u16 ((blk b).add 17)/\Nw (u16.setCell ((blk b).add 17) (.int .i64 x.2.2.2.2.2.2.2.2.2.2.2.2.2.2.2.2.2.1)) λu17=>
   Wr u17 ((blk b).add 18)/\Nw (u17.setCell ((blk b).add 18) (.int .i64 x.2.2.2.2.2.2.2.2.2.2.2.2.2.2.2.2.2.2.1)) λu18=>
   Wr u18 ((blk b).add 19)/\Nw (u18.setCell ((blk b).add 19) (.int .i64 x.2.2.2.2.2.2.2.2.2.2.2.2.2.2.2.2.2.2.2.1)) λu19=>
   K u19:=
 ZK (vs:=sp20 x) hB hl hK
end Go.Proofs
namespace Go.Proofs
open Go.Gk Go.RowKit Go.Gm
theorem Fns.chg{w w':World}{fs:Sl}{L:List Fe}{b:Nat}{T:TypeId}{cs:List Value}(h:Fns w fs L)(c:Chg b w w')(hB:Blk w b T cs)(h1:102≠T)(h2:3≠T)(h3:257≠T):Fns w' fs L:=by
 have f:Fr w.heap.size (λk=>k=b) w w':=c.fr
 exact⟨f.own h.own λb e e2=>by subst e2;exact zS h.own hB h1 e,λx hx=>
  ⟨f.own (h.row x hx).1 λb e e2=>by subst e2;exact zS (h.row x hx).1 hB h2 e,f.own (h.row x hx).2 λb e e2=>by subst e2;exact zS (h.row x hx).2 hB h3 e⟩⟩
section
variable {x:Mo} {pl:List PI} {w:World} {R:VWP}
theorem zmA(hN:IsPl w x.2.2.1 pl)(hp:PlOk pl)
  (hok:∀bc ps fs L w',layP x.2.1 pl=(0,0)->Ct w w' bc x.2.2.1 pl.length ps fs->ZH pl 10 pl.length ps->Fns w' fs L->zK w.heap.size fs->cutF pl pl.length=L.map (·.1)->zab pl pl.length->
   R (.tuple #[.pointer (some (blk bc)),.agg #[.int .i64 0,.int .i64 0]]) w')
  (hbad:∀w',Below w.heap.size w w'->(layP x.2.1 pl).1≠0->R (.tuple #[.pointer none,.agg #[.int .i64 (layP x.2.1 pl).1,.int .i64 ((layP x.2.1 pl).2:Int)]]) w') :
  cR 61 #[moA x] w R:=by
 refine za.of (ziI x R w ?_) λ_ _ h=>h
 refine zm λw1 hB1 b1 z1=>?_
 have hB1:Blk w1 w.heap.size 25 (moV x):=hB1
 refine zm λw2 hC2 b2 z2=>?_
 have hC2:Blk w2 w1.heap.size 29 [.int .i64 0,.int .i64 0]:=hC2
 have hb2:=b1.on b2
 have s1:=b1.size
 have hlen:=hN.len
 have h40:=hp.len
 refine Mo.load (hB1.below b2) ?_
 refine zp4 (x:=x) (hN.below hb2) hp λw3 b3=>⟨((zx x.2.1 pl).1,((zx x.2.1 pl).2:Int),()),rfl,?_⟩
 refine box2 rfl λw4 h4 b4 z4=>?_
 have b24:=b3.on b4
 have hb4:=hb2.on b24
 have hB4:=(hB1.below b2).below b24
 have hC4:=hC2.below b24
 have s24:=b24.size
 refine h4.rI0 rfl (zy (λe=>?_) (λe=>?_))
 ·have e':(zx x.2.1 pl).1≠0:=e
  have hl:layP x.2.1 pl=zx x.2.1 pl:=if_pos e'
  rw[hl]at hbad
  refine Sp.load h4.drew ?_
  refine st2 hC4.drew rfl λw5 h5 c5=>Sp.load h5 ?_
  exact hbad w5 (c5.below hb4.drew (by omega)) e'
 ·have e':(zx x.2.1 pl).1=0:=e
  have hl:layP x.2.1 pl=chkP pl:=if_neg (λh=>h e')
  refine hB4.rS (n:=2) (x:=x.2.2.1) rfl ?_
  refine zm λw9 h9 b9 z9=>?_
  have h9:Blk w9 w4.heap.size 152 (ctV x.2.2.1 (0:Nat) (List.replicate 20 0) ⟨none,0,0⟩):=h9
  have hCt:Ct w4 w9 w4.heap.size x.2.2.1 0 (List.replicate 20 0) ⟨none,0,0⟩:=⟨Nat.le_refl _,b9,h9,List.length_replicate⟩
  have s4:=hb4.size
  dsimp only[zB,Go.Gk.Sl.zw,zi,zu,zb,zh]
  generalize hbc:w4.heap.size=bc at hCt z9
  refine zsU hCt (hN.below hb4) h40 (λps fs L w10 hC10 f10 hg ho hP hL hF hcut=>?_) (λn ps fs w10 hC10 f10 hS=>?_)
  ·refine⟨true,rfl,zR rfl ?_⟩
   have hlay:layP x.2.1 pl=(0,0):=by rw[hl,zqE hg,if_neg (by rw[ho];decide)]
   have hR1:=hC4.below hC10.b0
   have hCw:Ct w w10 bc x.2.2.1 pl.length ps fs:=⟨by omega,hb4.on hC10.b0,hC10.blk,hC10.len⟩
   refine st2 hR1 rfl λw12 h12 c12=>Sp.load h12 ?_
   exact hok bc ps fs L w12 hlay (hCw.chg c12 (by omega) (by omega)) hP (hL.chg c12 hR1 (by decide) (by decide) (by decide)) (λa ha=>by have:=hF a ha;have:=b9.size;omega) hcut hg
  ·refine⟨false,rfl,zJ rfl ?_⟩
   have bd:Below w10.heap.size w10 w10.drew:=(Below.refl _ _).drew
   have hlay:layP x.2.1 pl=(if n<pl.length then 50 else 51,n):=by rw[hl];exact hS.chk
   rw[hlay]at hbad
   have hBm:=(hB4.below hC10.b0)
   have hR1:=hC4.below hC10.b0
   have hbw:Below w.heap.size w w10:=hb4.on hC10.b0
   refine hC10.blk.drew.rI (n:=1) rfl (hBm.drew.rS (n:=2) (x:=x.2.2.1) rfl (zj (λh=>?_) (λh=>?_)))
   ·have hlt:n<pl.length:=by omega
    rw[if_pos hlt]at hbad
    refine hC10.blk.drew.drew.rI (n:=1) rfl (st2 hR1.drew.drew rfl λw13 h13 c13=>Sp.load h13 ?_)
    exact hbad w13 (c13.below hbw.drew.drew (by omega)) (show(50:Int)≠0 by decide)
   ·have hlt:¬n<pl.length:=by omega
    rw[if_neg hlt]at hbad
    refine hC10.blk.drew.drew.rI (n:=1) rfl (st2 hR1.drew.drew rfl λw13 h13 c13=>Sp.load h13 ?_)
    exact hbad w13 (c13.below hbw.drew.drew (by omega)) (show(51:Int)≠0 by decide)
theorem zkA(hN:IsPl w x.2.2.1 pl)(hp:PlOk pl)
  (hR:∀(y:T20) w',Below w.heap.size w w'->((layP x.2.1 pl).1=0->ZH pl 10 pl.length (l20 y)/\zab pl pl.length)->R (.tuple #[ag20 y,.agg #[.int .i64 (layP x.2.1 pl).1,.int .i64 ((layP x.2.1 pl).2:Int)]]) w') :
  cR 35 #[moA x] w R:=by
 refine za.of (zhF x R w ?_) λ_ _ h=>h
 refine zm λw1 hB1 b1 z1=>?_
 have hB1:Blk w1 w.heap.size 25 (moV x):=hB1
 refine zm λw2 hA2 b2 z2=>?_
 refine zm λw3 hC3 b3 z3=>?_
 have hC3:Blk w3 w2.heap.size 29 [.int .i64 0,.int .i64 0]:=hC3
 have hb23:=b2.on b3
 have hb3:=b1.on hb23
 have s1:=b1.size
 refine Mo.load (hB1.below hb23) ?_
 refine zmA (x:=x) (hN.below hb3) hp (λbc ps fs L w4 hlay hC4 hP hL hF hcut hg=>⟨some (blk bc),(0,0,()),rfl,?_⟩) (λw4 b4 hne=>⟨none,((layP x.2.1 pl).1,((layP x.2.1 pl).2:Int),()),rfl,?_⟩)
 ·rw[hlay]at hR
  refine box2 rfl λw7 h7 b7 z7=>?_
  have hC7:=hC4.below b7
  have b37:=hC4.b0.on b7
  have hA7:=((hA2.below b3).below b37).drew
  have hS7:=(hC3.below b37).drew
  have hbw:=(hb3.on b37).drew
  have s37:=b37.size
  have h7:=h7.drew
  obtain⟨y,rfl⟩:=zvA hC7.len
  have hct:=hC7.blk.drew
  generalize w7.drew=w8 at hct hA7 hS7 hbw h7
  refine zJ rfl (ze rfl (zwd (x:=y) hct ?_))
  refine Sp.load h7 ?_
  refine st20 (x:=y) hA7 rfl λw49 h49 c49=>?_
  have hS49:=c49.blk hS7 (by omega)
  have h7':=c49.blk h7 (by have:=hC4.b0.size;omega)
  refine⟨h7'.cell (n:=0) rfl,h7'.cell (n:=1) rfl,?_⟩
  refine st2 hS49 rfl λw51 h51 c51=>?_
  refine ld20 (x:=y) (c51.blk h49 (by omega)) (Sp.load h51 ?_)
  exact hR y w51 (c51.below (c49.below hbw (by omega)) (by omega)) λ_=>⟨hP,hg⟩
 ·refine box2 rfl λw7 h7 b7 z7=>?_
  have b37:=b4.on b7
  have hA7:=((hA2.below b3).below b37).drew
  have hS7:=(hC3.below b37).drew
  have hbw:=(hb3.on b37).drew
  have s37:=b37.size
  have s34:=b4.size
  have h7:=h7.drew
  generalize w7.drew=w8 at hA7 hS7 hbw h7
  refine zR rfl (Sp.load h7 ?_)
  refine st20 (x:=(0,0,0,0,0,0,0,0,0,0,0,0,0,0,0,0,0,0,0,0,())) hA7 rfl λw49 h49 c49=>?_
  have hS49:=c49.blk hS7 (by omega)
  have h7':=c49.blk h7 (by omega)
  refine⟨h7'.cell (n:=0) rfl,h7'.cell (n:=1) rfl,?_⟩
  refine st2 hS49 rfl λw51 h51 c51=>?_
  refine ld20 (x:=(0,0,0,0,0,0,0,0,0,0,0,0,0,0,0,0,0,0,0,0,())) (c51.blk h49 (by omega)) (Sp.load h51 ?_)
  exact hR _ w51 (c51.below (c49.below hbw (by omega)) (by omega)) λh=>absurd h hne
end
end Go.Proofs
namespace Go.Proofs
open Go.Gk Go.RowKit Go.Gm
theorem zvD{pl:List PI}{n:Nat}(h:mayP pl n=true)(h8:zt (ix pl n)=8):zbl (ix pl n).1 (yl pl n) (YU pl (n-1))=true:=by
 unfold mayP at h
 by_cases e:zhx pl n=true
 ·rw[if_pos e]at h;cases h
 rw[if_neg e,if_neg (by omega)]at h
 by_cases e2:1<zt (ix pl n)/\mdlP pl n=false
 ·rw[if_pos e2]at h;cases h
 rw[if_neg e2,if_neg (by omega)]at h
 exact h
end Go.Proofs
namespace Go.Proofs
open Go.Gk Go.RowKit Go.Gm
theorem za3{pl:List PI}{id:Int}{n:Nat}:0<=zQ pl id n↔∃k,k<n/\mk1 pl id k=true:=by
 unfold zQ
 constructor
 ·intro h
  cases e:(List.range n).find? (mk1 pl id) with
  |none=>rw[e]at h;exact absurd h (by decide)
  |some k=>exact⟨k,List.mem_range.1 (List.mem_of_find?_eq_some e),List.find?_some e⟩
 ·rintro⟨k,h1,h2⟩
  cases e:(List.range n).find? (mk1 pl id) with
  |none=>
   rw[List.find?_eq_none]at e
   exact absurd h2 (e k (List.mem_range.2 h1))
  |some k=>exact Int.natCast_nonneg k
theorem ztA(pl:List PI)(k:Nat):mk1 pl 0 k=false:=by unfold mk1;simp
theorem MkOk.lt{L:List (Int×Int)}{pl:List PI}(h:MkOk L pl 0){id v:Int}(hv:yp L id=some v)(n:Nat):v<n↔0<=zQ pl id n:=by
 obtain⟨j,rfl,_,q3,q4,q5⟩:=(h id).2 v hv
 rw[za3]
 constructor
 ·intro hh
  exact⟨j,by omega,q4⟩
 ·rintro⟨k,h1,h2⟩
  rcases Nat.lt_or_ge k j with g |g
  ·rw[q5 k (Nat.zero_le _) g]at h2;cases h2
  ·omega
theorem MkOk.none{L:List (Int×Int)}{pl:List PI}(h:MkOk L pl 0){id:Int}(hv:yp L id=none):zQ pl id pl.length<0:=by
 rcases Int.lt_or_le (zQ pl id pl.length) 0 with g |g
 ·exact g
 ·obtain⟨k,h1,h2⟩:=za3.1 g
  rw[(h id).1 hv k (Nat.zero_le _) h1]at h2
  cases h2
theorem MkOk.some{L:List (Int×Int)}{pl:List PI}(h:MkOk L pl 0){id v:Int}(hv:yp L id=some v):0<=zQ pl id pl.length:=by
 obtain⟨j,_,_,q3,q4,_⟩:=(h id).2 v hv
 exact za3.2 ⟨j,q3,q4⟩
def zcV(pl:List PI)(n:Nat):List Int:=idsP (ix pl n).2.1 (ix pl n).2.2.2
def fltP(pl:List PI)(n:Nat):Int:=
 if 0<=zQ pl (ix pl n).2.2.1 n then 90
 else if (zcV pl n).any (λid=>decide (zQ pl id pl.length<0))=true then 91
 else if zt (ix pl n)=7/\(zcV pl n).any (λid=>decide (zQ pl id n<0))=true then 92 else 0
def zU(bound:Int)(pl:List PI):Int×Nat:=if (layP bound pl).1≠0 then layP bound pl else match (List.range pl.length).find? (λk=>fltP pl k !=0) with
 |some k=>(fltP pl k,k)
 |none=>(0,0)
theorem zof{bound:Int}{pl:List PI}(h:(layP bound pl).1≠0):zU bound pl=layP bound pl:=if_pos h
theorem zkK{bound:Int}{pl:List PI}(h:¬(layP bound pl).1≠0){n:Nat}(hn:n<pl.length)(hj:∀j,j<n->fltP pl j=0)(hf:fltP pl n≠0):zU bound pl=(fltP pl n,n):=by
 unfold zU
 rw[if_neg h,zcU hn (by rw[bne_iff_ne.2 hf]) λj hj'=>by rw[hj j hj'];rfl]
theorem zr9{bound:Int}{pl:List PI}(h:¬(layP bound pl).1≠0)(hj:∀j,j<pl.length->fltP pl j=0):zU bound pl=(0,0):=by
 unfold zU
 have:(List.range pl.length).find? (λk=>fltP pl k !=0)=none:=by
  rw[List.find?_eq_none]
  intro j hj'
  rw[hj j (List.mem_range.1 hj')]
  simp
 rw[if_neg h,this]
theorem zs6{α:Type}{l:List α}{p:α->Bool}{k:Nat}(hk:k<l.length)(h:p l[k]=true):l.any p=true:=List.any_eq_true.2 ⟨l[k],List.getElem_mem hk,h⟩
theorem zs7{α:Type}{l:List α}{p:α->Bool}(h:∀k (hk:k<l.length),p l[k]=false):l.any p=false:=by
 cases e:l.any p
 ·rfl
 ·obtain⟨x,h1,h2⟩:=List.any_eq_true.1 e
  obtain⟨k,hk,rfl⟩:=List.mem_iff_getElem.1 h1
  rw[h k hk]at h2
  cases h2
end Go.Proofs
namespace Go.Proofs
open Go.Gk Go.RowKit Go.Gm
theorem zInt:∃i,Tryz.prog.info? 3=some i/\i.zero=some (.int .i64 0):=⟨Tryz.t3,by kernel_rfl,rfl⟩
section
variable {x:Mo} {pl:List PI} {w:World} {R:VWP}
theorem zk3(hN:IsPl w x.2.2.1 pl)(hp:PlOk pl)(hR:∀w',Below w.heap.size w w'->R (.agg #[.int .i64 (zU x.2.1 pl).1,.int .i64 ((zU x.2.1 pl).2:Int)]) w') :
  cR 40 #[moA x] w R:=by
 refine za.of (zkm x R w ?_) λ_ _ h=>h
 refine zm λw1 hB1 b1 z1=>?_
 have hB1:Blk w1 w.heap.size 25 (moV x):=hB1
 refine zm λw2 hC2 b2 z2=>?_
 have hC2:Blk w2 w1.heap.size 29 [.int .i64 0,.int .i64 0]:=hC2
 have hb2:=b1.on b2
 have s1:=b1.size
 have hlen:=hN.len
 have h40:=hp.len
 refine Mo.load (hB1.below b2) ?_
 refine zkA (x:=x) (hN.below hb2) hp λy w3 b3 hP=>⟨y,((layP x.2.1 pl).1,((layP x.2.1 pl).2:Int),()),rfl,?_⟩
 refine zm λw4 hY4 b4 z4=>?_
 refine zm λw5 hE5 b5 z5=>?_
 have hE5:Blk w5 w4.heap.size 29 [.int .i64 0,.int .i64 0]:=hE5
 refine st20 (x:=y) (hY4.below b5) rfl λw25 hY25 c25=>?_
 refine st2 (c25.blk hE5 (by omega)) rfl λw27 hE27 c27=>?_
 have hY27:=c27.blk hY25 (by omega)
 have b327:Below w3.heap.size w3 w27:=c27.below (c25.below (b4.on b5) (Nat.le_refl _)) (by omega)
 have b227:=b3.on b327
 have hb27:=hb2.on b227
 have hB27:=(hB1.below b2).below b227
 have hC27:=hC2.below b227
 have out:∀{w':World} {a b:Int},Below w27.heap.size w27 w'->(zU x.2.1 pl).1=a->(((zU x.2.1 pl).2:Nat):Int)=b->Wr w' (blk w1.heap.size)/\Nw (w'.setCell (blk w1.heap.size) (.int .i64 a)) λw7=>Wr w7 ((blk w1.heap.size).add 1)/\
   Nw (w7.setCell ((blk w1.heap.size).add 1) (.int .i64 b)) λw8=>ldI w8 ((blk w1.heap.size).add 0) .i64 λx9=>ldI w8 ((blk w1.heap.size).add 1) .i64 λx10=>R (.agg #[(.int .i64 x9),(.int .i64 x10)]) w8:=by
  intro w' a b hb e1 e2
  subst e1 e2
  exact st2 (hC27.below hb) rfl λw8 h8 c8=>Sp.load h8 (hR w8 (c8.below (hb27.on hb) (by omega)))
 refine hE27.rI0 rfl (zy (λe=>?_) (λe=>?_))
 ·have e':(layP x.2.1 pl).1≠0:=e
  have hl:=zof e'
  exact Sp.load hE27 (out (Below.refl _ _) (by rw[hl]) (by rw[hl]))
 have e0:(layP x.2.1 pl).1=0:=e
 have e':¬(layP x.2.1 pl).1≠0:=λh=>h e
 obtain⟨hPT,hG⟩:=hP e0
 obtain⟨q1,q2,q3,q4⟩:=hPT 7 (by omega)
 generalize hfr:(l20 y).getD (2*7) 0=from_ at q1 q2 q4
 generalize hto:(l20 y).getD (2*7+1) 0=to_ at q2 q3 q4
 refine hB27.rS (n:=2) (x:=x.2.2.1) rfl ?_
 refine zoS (hN.below hb27) λw30 L hM30 hMk hKN b30=>⟨some w27.heap.size,rfl,⟨by omega,by omega⟩,?_⟩
 have hY30:=hY27.below b30
 refine hY30.rI2 (m:=7*2) (n:=0) (x:=from_) (by rw[<-hfr];rfl) (hY30.rI2 (m:=7*2) (n:=1) (x:=to_) (by rw[<-hto];rfl) ?_)
 refine box2 rfl λw33 hG33 b33 z33=>?_
 have b2733:=b30.on b33
 have hM33:=hM30.below b33
 have hB33:=hB27.below b2733
 refine hB33.rS (n:=2) (x:=x.2.2.1) rfl ?_
 refine zl.count pl.length hN.bound (λk w'=>Below w33.heap.size w33 w'/\∀j,j<k->fltP pl j=0) ⟨Below.refl _ _,λj hj=>by omega⟩ ?_
 rintro k w34 hk ⟨hb34,hj⟩ next hnext
 have hb2734:=b2733.on hb34
 have hN34:=hN.below (hb27.on hb2734)
 refine zj (λh=>?_) (λh=>?_)
 ·have hlt:k<pl.length:=by dsimp only at h;omega
  have eix:pl[k]=ix pl k:=(zH hlt).symm
  refine zo.cut (λ_ w'=>Below w33.heap.size w33 w'/\fltP pl k=0) ?_ ?_
  ·refine zjo hN34 hlt λt ht=>?_
   refine box4 rfl λw39 h39 b39 z39=>?_
   have h39:Blk w39 w34.heap.size 44 (inV (mkIn pl[k] t)):=h39
   have hb39:=hb34.on b39
   refine zo.cut (λ_ w'=>w'=w39/\¬0<=zQ pl (ix pl k).2.2.1 k) ?_ ?_
   ·refine h39.rI (n:=2) rfl (zy (λe1=>?_) (λe1=>⟨rfl,λg=>?_⟩))
    ·have e1:pl[k].2.2.1≠0:=e1
     refine h39.rI (n:=2) rfl (zt4 zmJ uU32 zInt (hM33.below hb39) ?_)
     have hmk:mk1 pl (ix pl k).2.2.1 k=true:=by unfold mk1;rw[<-eix,zp hlt,beq_self_eq_true,bne_iff_ne.2 e1];rfl
     cases hl:yp L pl[k].2.2.1 with
     |none=>
      have:=(hMk pl[k].2.2.1).1 hl k (Nat.zero_le _) hlt
      rw[<-eix]at hmk
      rw[hmk]at this
      cases this
     |some v=>
      have hv:=hMk.lt hl k
      rw[eix]at hv
      refine zj (λh=>?_) (λh=>⟨rfl,λg=>h (hv.2 g)⟩)
      have hf:fltP pl k=90:=by unfold fltP;rw[if_pos (hv.1 h)]
      have hb:=zkK e' hlt hj (by rw[hf];decide)
      exact out (b2733.on hb39) (by rw[hb,hf]) (by rw[hb])
    ·have e1:pl[k].2.2.1=0:=e1
     rw[<-eix,e1]at g
     obtain⟨j,_,h2⟩:=za3.1 g
     rw[ztA]at h2
     cases h2
   ·rintro _ w42 ⟨rfl,n90⟩
    refine Ins.load h39 ?_
    have hfl:fltP pl k=if (zcV pl k).any (λid=>decide (zQ pl id pl.length<0))=true then 91 else if zt (ix pl k)=7/\(zcV pl k).any (λid=>decide (zQ pl id k<0))=true then 92 else 0:=by
     unfold fltP;rw[if_neg n90]
    refine znS (x:=mkIn pl[k] t) (ht.below b39) (hp.args _ (List.getElem_mem hlt)) λr w43 hO hF b43=>⟨r,rfl,?_⟩
    have hO:Own w43 22 1 r ((zcV pl k).map (Value.int .u32)):=by unfold zcV;rw[<-eix];exact hO
    generalize zcV pl k=ids at hO hfl
    have hI:=hO.isS
    have hrl:=hI.len
    have hib:=hI.bound
    have hb43:=hb39.on b43
    refine zl.ghost (λj (st:Bool×Int×Unit) w'=>∃(i:Nat),j=ids.length-i/\i<=ids.length/\w'=w43/\st.2.1=(i:Int)/\(∀q (hq:q<ids.length),q<i->0<=zQ pl ids[q] pl.length)/\(st.1=true↔∃q,∃hq:q<ids.length,q<i/\zQ pl ids[q] k<0)) ids.length
     ⟨0,rfl,Nat.zero_le _,rfl,rfl,λq hq h=>by omega,⟨λh=>(by cases h),λ⟨q,hq,h,_⟩=>by omega⟩⟩ ?_
    rintro _ ⟨ah,_,_⟩ w44 ⟨i,rfl,hi,hw,e2,hmd,hah⟩ next2 hnext2
    dsimp only at e2 hah
    subst hw e2
    refine zj (λh=>?_) (λh=>?_)
    ·have hil:i<ids.length:=by dsimp only at h;omega
     refine zo.cut (λ(st:Bool×Unit) w'=>w'=w44/\0<=zQ pl ids[i] pl.length/\(st.1=true↔ah=true\/zQ pl ids[i] k<0)) ?_ ?_
     ·refine YR hI hil (zjz zmJ uU32 zInt (hM33.below hb43) ?_)
      cases hl:yp L ids[i] with
      |none=>
       refine zR rfl ?_
       have hf:fltP pl k=91:=by rw[hfl,if_pos (zs6 hil (decide_eq_true (hMk.none hl)))]
       have hb:=zkK e' hlt hj (by rw[hf];decide)
       exact out (b2733.on hb43) (by rw[hb,hf]) (by rw[hb])
      |some v=>
       refine zJ rfl ?_
       have hv:=hMk.lt hl k
       refine zz (λhat=>⟨rfl,hMk.some hl,⟨λ_=>.inl hat,λ_=>rfl⟩⟩) (λhaf=>⟨rfl,hMk.some hl,?_⟩)
       show(decide (v≥(k:Int))=true↔_)
       have haf:ah=false:=haf
       rw[haf]
       constructor
       ·intro g
        have:=of_decide_eq_true g
        right
        rcases Int.lt_or_le (zQ pl ids[i] k) 0 with q |q
        ·exact q
        ·have:=hv.2 q;omega
       ·rintro(g |g)
        ·cases g
        ·refine decide_eq_true ?_
         rcases Int.lt_or_le v k with q |q
         ·have:=hv.1 q;omega
         ·exact q
     ·rintro⟨ah',_⟩ w47 ⟨hw,hmi,hah'⟩
      dsimp only at hah'⊢
      subst hw
      rw[zE (by omega)]
      refine hnext2 (ids.length-(i+1)) _ _ (by omega) ⟨i+1,rfl,hil,rfl,rfl,λq hq h=>?_,?_⟩
      ·by_cases eq:q=i
       ·subst eq;exact hmi
       ·exact hmd q hq (by omega)
      ·dsimp only
       rw[hah',hah]
       constructor
       ·rintro(⟨q,hq,h1,h2⟩ |g)
        ·exact⟨q,hq,by omega,h2⟩
        ·exact⟨i,hil,by omega,g⟩
       ·rintro⟨q,hq,h1,h2⟩
        by_cases eq:q=i
        ·subst eq;exact .inr h2
        ·exact .inl ⟨q,hq,by omega,h2⟩
    ·have hil:i=ids.length:=by dsimp only at h;omega
     subst hil
     have n91:¬ids.any (λid=>decide (zQ pl id pl.length<0))=true:=by
      rw[zs7 (p:=λid=>decide (zQ pl id pl.length<0)) λq hq=>decide_eq_false (by have:=hmd q hq hq;omega)]
      decide
     rw[if_neg n91]at hfl
     have hany:ids.any (λid=>decide (zQ pl id k<0))=ah:=by
      rw[Bool.eq_iff_iff,hah]
      constructor
      ·intro g
       obtain⟨y',y1,y2⟩:=List.any_eq_true.1 g
       obtain⟨q,hq,rfl⟩:=List.mem_iff_getElem.1 y1
       exact⟨q,hq,hq,of_decide_eq_true y2⟩
      ·rintro⟨q,hq,_,h2⟩
       exact zs6 hq (decide_eq_true h2)
     rw[hany]at hfl
     have hq4:=q4 k hlt
     have hG44:=hG33.below hb43
     refine zo.cut (λ_ w'=>w'=w44/\zt (ix pl k)=7/\ah=true) ?_ ?_
     ·refine zI (zz (λhat=>?_) (λhaf=>⟨hb43,by have haf:ah=false:=haf;rw[hfl,if_neg (λg=>by rw[haf]at g;cases g.2)]⟩))
      refine hG44.rI0 rfl (zj (λh1=>⟨hb43,?_⟩) (λh1=>?_))
      ·rw[hfl,if_neg (λg=>by have:=hq4.2 g.1;dsimp only at h1;omega)]
      ·refine hG44.rI (n:=1) rfl (zj (λh2=>⟨hb43,?_⟩) (λh2=>⟨rfl,hq4.1 ⟨by dsimp only at h1;omega,by dsimp only at h2;omega⟩,hat⟩))
       rw[hfl,if_neg (λg=>by have:=hq4.2 g.1;dsimp only at h2;omega)]
     ·rintro _ w48 ⟨rfl,g1,g2⟩
      have hf:fltP pl k=92:=by rw[hfl,if_pos ⟨g1,g2⟩]
      have hb:=zkK e' hlt hj (by rw[hf];decide)
      exact out (b2733.on hb43) (by rw[hb,hf]) (by rw[hb])
  ·rintro _ w51 ⟨hb51,hf⟩
   refine hnext w51 hlt ⟨hb51,λj hjk=>?_⟩
   by_cases ej:j=k
   ·subst ej;exact hf
   ·exact hj j (by omega)
 ·have hk':k=pl.length:=by dsimp only at h;omega
  have hg:=zr9 e' (λj hj'=>hj j (by omega))
  exact out hb2734 (by rw[hg]) (by rw[hg];rfl)
end
end Go.Proofs
namespace Go.Proofs
open Go.Gk Go.RowKit Go.Gm
def yv(g:Int->Int)(a:Ag):Ag:=if a.1=1 then(a.1,g a.2.1,a.2.2) else a
def zX(g:Int->Int)(p:PI):PI:=(p.1,g p.2.1,g p.2.2.1,p.2.2.2.map (yv g))
def zD(g:Int->Int)(pl:List PI):List PI:=pl.map (zX g)
def cntP(pl:List PI):Nat->Nat
 | 0=>0
 |k+1=>cntP pl k+(if (ix pl k).2.2.1≠0 then 1 else 0)
theorem zuv(pl:List PI):∀k,cntP pl k<=k
 | 0=>Nat.le_refl _
 |k+1=>by
  have:=zuv pl k
  simp only[cntP]
  split<;>omega
theorem zna{bd:Int}{pl:List PI}(h:(zU bd pl).1=0):zU bd pl=(0,0)/\(layP bd pl).1=0/\∀k,k<pl.length->fltP pl k=0:=by
 unfold zU at h⊢
 by_cases h1:(layP bd pl).1≠0
 ·rw[if_pos h1]at h;exact absurd h h1
 ·rw[if_neg h1]at h⊢
  have h1:(layP bd pl).1=0:=Classical.not_not.1 h1
  cases hf:(List.range pl.length).find? (λk=>fltP pl k !=0) with
  |none=>
   refine⟨rfl,h1,λk hk=>?_⟩
   have:=List.find?_eq_none.1 hf k (List.mem_range.2 hk)
   simpa using this
  |some k=>
   rw[hf]at h
   have:=List.find?_some hf
   dsimp only at h
   rw[h]at this
   simp at this
theorem zmz{bd:Int}{pl:List PI}(h:(layP bd pl).1=0):(zx bd pl).1=0:=by
 unfold layP at h
 by_cases h1:(zx bd pl).1≠0
 ·rw[if_pos h1]at h;exact h
 ·exact Classical.not_not.1 h1
theorem zu8{pl:List PI}{k:Nat}(h:fltP pl k=0)(h0:(ix pl k).2.2.1≠0):∀j,j<k->j<pl.length->(ix pl j).2.2.1≠(ix pl k).2.2.1:=by
 intro j hj hl e
 have n90:¬0<=zQ pl (ix pl k).2.2.1 k:=by
  intro g
  unfold fltP at h
  rw[if_pos g]at h
  cases h
 refine n90 (za3.2 ⟨j,hj,?_⟩)
 unfold mk1
 rw[show pl.getD j pi0=ix pl j from ?_,e,beq_self_eq_true,bne_iff_ne.2 h0]
 ·rfl
 ·rw[zp hl,zH hl]
theorem zrN{bd:Int}{pl:List PI}(hp:PlOk pl)(h0:0<=bd)(h:(zx bd pl).1=0):∀n∈allP pl,0<=n/\n<bd:=by
 obtain⟨h1,h2⟩:=Yf h
 intro n hn
 obtain⟨p,hp',hn⟩:=List.mem_flatMap.1 hn
 obtain⟨k,hk,rfl⟩:=List.getElem_of_mem hp'
 have:=hp.nums _ (List.getElem_mem hk)
 exact(zrH (h2 k hk) (by omega) ⟨this.1.1,this.2.1.1,λx hx=>(this.2.2 x hx).1⟩).1 n hn
theorem zfc{pl:List PI}{k:Nat}(hk:k<pl.length):pl[k].2.1∈allP pl/\pl[k].2.2.1∈allP pl/\∀a∈pl[k].2.2.2,a.1=1->a.2.1∈allP pl:=by
 have hm:∀{n},n∈allI pl[k]->n∈allP pl:=λh=>List.mem_flatMap.2 ⟨_,List.getElem_mem hk,h⟩
 refine⟨hm (by simp[allI]),hm (by simp[allI]),λa ha h1=>hm ?_⟩
 simp only[allI,List.mem_cons]
 right;right
 exact List.mem_map.2 ⟨a,List.mem_filter.2 ⟨ha,by simp[h1]⟩,rfl⟩
end Go.Proofs
namespace Go.Proofs
open Go.Gk Go.RowKit Go.Gm
theorem yd{α:Type}{l:List α}{i:Nat}{d:α}(h:l.length<=i):l.getD i d=d:=by simp[List.getD,h]
theorem zrr(g:Int->Int)(a:Ag):(yv g a).1=a.1:=by unfold yv;split<;>rfl
theorem zvi(g:Int->Int)(a:Ag):(yv g a).2.2=a.2.2:=by unfold yv;split<;>rfl
theorem zeC(g:Int->Int){a:Ag}(h:a.1=1):(yv g a).2.1=g a.2.1:=by unfold yv;rw[if_pos h]
theorem zg3(g:Int->Int){a:Ag}(h:a.1≠1):yv g a=a:=by unfold yv;rw[if_neg h]
theorem zoF{g:Int->Int}{must:Bool}{n b b' e:Int}(he:e≠0)(h:idP must n b e=0)(hz:g 0=0)(hg:n≠0->0<g n/\g n<b'):idP must (g n) b' e=0:=by
 unfold idP at h⊢
 by_cases em:must=(n !=0)
 ·have em':must=(g n !=0):=by
   rw[em]
   by_cases h0:n=0
   ·rw[h0,hz]
   ·have:=hg h0
    rw[bne_iff_ne.2 h0,bne_iff_ne.2 (show g n≠0 by omega)]
  rw[if_pos em',if_neg]
  rintro⟨m,hb⟩
  rw[m]at em
  have h0:n≠0:=bne_iff_ne.1 em.symm
  have:=hg h0
  omega
 ·rw[if_neg em]at h
  exact absurd h he
theorem zq5{g:Int->Int}{c b b':Int}{a:Ag}(h:ZG c a b=0)(hg:a.1=1->a.2.1≠0->0<g a.2.1/\g a.2.1<b'):ZG c (yv g a) b'=0:=by
 unfold ZG at h
 by_cases n1:c=0\/a.1≠yJ c
 ·rw[if_pos n1]at h;exact absurd h (by decide)
 rw[if_neg n1]at h
 by_cases n2:(a.1=3/\a.2.1≠0)\/(a.1≠3/\a.2.2.size≠0)
 ·rw[if_pos n2]at h;exact absurd h (by decide)
 rw[if_neg n2]at h
 by_cases n3:a.1=1/\(a.2.1=0\/b<=a.2.1)
 ·rw[if_pos n3]at h;exact absurd h (by decide)
 rw[if_neg n3]at h
 by_cases n4:a.1=4/\zhr c a.2.1=false
 ·rw[if_pos n4]at h;exact absurd h (by decide)
 rw[if_neg n4]at h
 by_cases n5:nul a.2.2=true
 ·rw[if_pos n5]at h;exact absurd h (by decide)
 by_cases e:a.1=1
 ·have h0:a.2.1≠0:=λg0=>n3 ⟨e,.inl g0⟩
  obtain⟨g1,g2⟩:=hg e h0
  unfold yv ZG
  rw[if_pos e]
  dsimp only
  rw[if_neg n1,if_neg,if_neg,if_neg,if_neg n5]
  ·rintro⟨q,_⟩;omega
  ·rintro⟨_,q⟩;omega
  ·rintro(⟨q,_⟩ |q)
   ·omega
   ·exact n2 (.inr q)
 ·rw[zg3 g e]
  unfold ZG
  rw[if_neg n1,if_neg n2,if_neg (λq=>e q.1),if_neg n4,if_neg n5]
theorem zum{c b:Int}{a:Ag}(h:ZG c a b=0)(e:a.1=1):a.2.1≠0:=by
 intro h0
 unfold ZG at h
 by_cases n1:c=0\/a.1≠yJ c
 ·rw[if_pos n1]at h;exact absurd h (by decide)
 rw[if_neg n1]at h
 by_cases n2:(a.1=3/\a.2.1≠0)\/(a.1≠3/\a.2.2.size≠0)
 ·rw[if_pos n2]at h;exact absurd h (by decide)
 rw[if_neg n2,if_pos ⟨e,.inl h0⟩]at h
 exact absurd h (by decide)
theorem zrC(g:Int->Int)(a:Ag):cost (yv g a)=cost a:=by unfold cost;rw[zrr,zvi]
theorem zpF(g:Int->Int)(al:List Ag)(k:Nat):zen (al.map (yv g)) k=zen al k:=by
 unfold zen
 rw[<-List.map_take,List.map_map]
 congr 1
 exact List.map_congr_left λa _=>zrC g a
theorem zl3(g:Int->Int)(f:Fl)(al:List Ag):zbn f (al.map (yv g))=zbn f al:=by
 unfold zbn;rw[List.length_map,zpF]
theorem zqr(g:Int->Int)(p:PI):ze9 (zX g p)=ze9 p:=by
 unfold ze9 zX
 dsimp only
 cases frm p.1 with
 |none=>rfl
 |some f=>exact zl3 g f _
theorem zr2{f:Fl}{al:List Ag}{b:Int}{k:Nat}(h:∀j,j<k->werr f al b j=0):argK f al b k=0:=by
 unfold argK
 have:(List.range k).find? (λj=>werr f al b j !=0)=none:=by
  rw[List.find?_eq_none]
  intro j hj
  rw[h j (List.mem_range.1 hj)]
  simp
 rw[this]
theorem Zz{p:PI}{b:Int}(h:yH p b=0):∃f,frm p.1=some f/\idP f.ty p.2.1 b 40=0/\idP f.re p.2.2.1 b 41=0/\(∀j,j<p.2.2.2.length->werr f p.2.2.2 b j=0)/\
  Yp f p.2.2.2.length=true/\zbn f p.2.2.2<=65535:=by
 unfold yH at h
 cases hf:frm p.1 with
 |none=>rw[zgb hf]at h;cases h
 |some f=>
  rw[zd6 hf]at h
  unfold zeS at h
  by_cases e1:errK f p.2.1 p.2.2.1 p.2.2.2 b p.2.2.2.length≠0
  ·rw[if_pos e1]at h;exact absurd h e1
  rw[if_neg e1]at h
  obtain⟨q1,q2,q3⟩:=zi2 (Classical.not_not.1 e1)
  by_cases e2:Yp f p.2.2.2.length=false
  ·rw[if_pos e2]at h;exact absurd h (by decide)
  rw[if_neg e2]at h
  by_cases e3:65535<zbn f p.2.2.2
  ·rw[if_pos e3]at h;exact absurd h (by decide)
  exact⟨f,rfl,q1,q2,ziy q3,by simpa using e2,by omega⟩
theorem ztg{p:PI}{b:Int}{f:Fl}(hf:frm p.1=some f)(h1:idP f.ty p.2.1 b 40=0)(h2:idP f.re p.2.2.1 b 41=0)(h3:∀j,j<p.2.2.2.length->werr f p.2.2.2 b j=0)
  (h4:Yp f p.2.2.2.length=true) (h5:zbn f p.2.2.2<=65535):yH p b=0:=by
 unfold yH
 rw[zd6 hf]
 unfold zeS errK
 rw[h1,h2,zr2 h3,h4]
 rw[if_neg (by simp),if_neg (by simp),if_neg (by omega)]
theorem zpQ{g:Int->Int}{p:PI}{b b':Int}(h:yH p b=0)(hz:g 0=0)(hg:∀n∈allI p,n≠0->0<g n/\g n<b'):yH (zX g p) b'=0:=by
 obtain⟨f,hf,h1,h2,h3,h4,h5⟩:=Zz h
 refine ztg (p:=zX g p) (f:=f) hf (zoF (by decide) h1 hz (hg _ (by simp[allI]))) (zoF (by decide) h2 hz (hg _ (by simp[allI]))) (λj hj=>?_) ?_ ?_
 ·have hj:j<p.2.2.2.length:=by simpa[zX] using hj
  have hw:=h3 j hj
  unfold werr at hw⊢
  unfold zX
  dsimp only
  rw[zp (by rw[List.length_map];exact hj),List.getElem_map]
  rw[zp hj]at hw
  refine zq5 hw λe=>hg _ ?_
  simp only[allI,List.mem_cons]
  right;right
  exact List.mem_map.2 ⟨_,List.mem_filter.2 ⟨List.getElem_mem hj,by simp[e]⟩,rfl⟩
 ·unfold zX;dsimp only;rw[List.length_map];exact h4
 ·unfold zX;dsimp only;rw[zl3];exact h5
theorem zuh:(match frm 59 with |some f=>yJ (letP f 0:Int) |none=>0)=4:=by decide +kernel
theorem zsh{g:Int->Int}{p:PI}{b:Int}(h:yH p b=0):zt (zX g p)=zt p:=by
 obtain⟨f,hf,_,_,h3,_,_⟩:=Zz h
 have:zf0 (zX g p)=zf0 p:=by
  unfold zf0 zX
  dsimp only
  by_cases e:p.1=59
  ·cases hl:p.2.2.2 with
   |nil=>rfl
   |cons a r=>
    have hw:=h3 0 (by rw[hl];simp)
    unfold werr at hw
    rw[hl]at hw
    have hk:=(yK hw).2
    have hv:=zuh
    rw[e]at hf
    rw[hf]at hv
    have hv:yJ (letP f 0:Int)=4:=hv
    have hk:a.1=yJ (letP f 0:Int):=hk
    rw[List.map_cons]
    dsimp only
    rw[zg3 g (show a.1≠1 by rw[hk,hv];decide)]
  ·rw[beq_eq_false_iff_ne.2 e]
   rfl
 unfold zt
 rw[this]
 rfl
structure zv (g:Int->Int) (pl:List PI) (b':Int):Prop where
 zero:g 0=0
 rng:∀n∈allP pl,n≠0->0<g n/\g n<b'
 inj:∀m∈allP pl,∀n∈allP pl,g m=g n->m=n
 pos:0<b'/\b'<=65536
theorem yE(g:Int->Int)(pl:List PI):(zD g pl).length=pl.length:=List.length_map _
theorem zoU{p:PI}{pl:List PI}(hp:p∈pl){n:Int}(h:n∈allI p):n∈allP pl:=List.mem_flatMap.2 ⟨p,hp,h⟩
theorem yg{g:Int->Int}(hz:g 0=0)(pl:List PI)(k:Nat):ix (zD g pl) k=zX g (ix pl k):=by
 by_cases hk:k<pl.length
 ·rw[ix,zp (by rw[yE];exact hk),zH hk]
  unfold zD
  rw[List.getElem_map]
 ·unfold ix
  rw[yd (by rw[yE];omega),yd (by omega)]
  unfold zX
  rw[hz]
  rfl
theorem zus{pl ql:List PI}(hl:pl.length=ql.length)(h1:∀k,(ix pl k).1=(ix ql k).1)(h2:∀k,zt (ix pl k)=zt (ix ql k)):chkP pl=chkP ql:=by
 have hm:∀n,mdlP pl n=mdlP ql n:=λn=>by unfold mdlP;simp only[h2]
 have ho:∀n,zhx pl n=zhx ql n:=λn=>by unfold zhx;simp only[h2]
 have ha:∀n,yl pl n=yl ql n:=λn=>by cases n with
  |zero=>rfl
  |succ n=>simp only[yl,h1,h2]
 have hf:∀n,YU pl n=YU ql n:=λn=>by
  induction n with
  |zero=>rfl
  |succ n ih=>simp only[YU,h1,ih]
 have hy:(λk=>!mayP pl k)=λk=>!mayP ql k:=funext λn=>by unfold mayP;rw[ho,hm,h2,h1,ha,hf]
 have hop:zcj pl=zcj ql:=by unfold zcj;rw[hm,hl,h1,h2]
 unfold chkP
 rw[hy,hl,hop]
theorem ztY{bound:Int}{pl:List PI}(h:(zx bound pl).1=0):totP pl pl.length<=1048576:=by
 cases hl:pl.length with
 |zero=>simp[totP]
 |succ n=>
  unfold zx at h
  split at h
  ·cases h
  ·split at h
   ·dsimp only at h
    split at h
    ·rename_i hf;exact absurd h hf
    ·cases h
   ·rename_i hn
    have:=List.find?_eq_none.1 hn n (List.mem_range.2 (by omega))
    unfold badI at this
    simp only[Bool.or_eq_true,not_or,decide_eq_true_eq]at this
    omega
theorem zsu(pl:List PI){a b:Nat}(h:a<=b)(hb:b<=pl.length):totP pl a<=totP pl b:=by
 induction b with
 |zero=>
      have:a=0:=by omega
      subst this;exact Nat.le_refl _
 |succ b ih=>
  by_cases e:a=b+1
  ·subst e;exact Nat.le_refl _
  ·have:=ih (by omega) (by omega)
   rw[zj7 (by omega)]
   omega
theorem zsv(g:Int->Int)(pl:List PI)(k:Nat):totP (zD g pl) k=totP pl k:=by
 unfold totP zD
 rw[<-List.map_take,List.map_map]
 congr 2
 exact List.map_congr_left λp _=>zqr g p
section
variable {g:Int->Int} {pl:List PI} {b b':Int}
theorem zv.fault(h:zv g pl b')(hs:(zx b pl).1=0):∀k,k<pl.length->yH (ix (zD g pl) k) b'=0:=by
 intro k hk
 rw[yg h.zero]
 have hf:=(Yf hs).2 k hk
 rw[zH hk]
 exact zpQ hf h.zero λn hn=>h.rng n (zoU (List.getElem_mem hk) hn)
theorem zv.shape(h:zv g pl b')(hs:(zx b pl).1=0):zx b' (zD g pl)=(0,0):=by
 have hb:=h.pos
 refine zl6 (by omega) λj hj=>?_
 have hj':j<pl.length:=by rwa[yE]at hj
 refine zkH hj ?_ ?_
 ·have:=h.fault hs j hj'
  rwa[zH hj]at this
 ·rw[zsv]
  have:=zsu pl (a:=j+1) (b:=pl.length) (by omega) (Nat.le_refl _)
  have:=ztY hs
  omega
theorem zv.part(h:zv g pl b')(hs:(zx b pl).1=0)(k:Nat):zt (ix (zD g pl) k)=zt (ix pl k):=by
 rw[yg h.zero]
 by_cases hk:k<pl.length
 ·exact zsh (b:=b) (by rw[zH hk];exact(Yf hs).2 k hk)
 ·have:ix pl k=pi0:=yd (by omega)
  rw[this]
  unfold zX
  rw[h.zero]
  rfl
theorem zv.chk(h:zv g pl b')(hs:(zx b pl).1=0):chkP (zD g pl)=chkP pl:=
 zus (yE g pl) (λk=>by rw[yg h.zero];rfl) (h.part hs)
theorem zv.iff0(h:zv g pl b'){n:Int}(hn:n∈allP pl\/n=0):g n=0↔n=0:=by
 constructor
 ·intro e
  rcases hn with hn |hn
  ·refine Classical.byContradiction λh0=>?_
   have:=h.rng n hn h0
   omega
  ·exact hn
 ·intro e;rw[e,h.zero]
theorem zv.eq(h:zv g pl b'){m n:Int}(hm:m∈allP pl\/m=0)(hn:n∈allP pl\/n=0):g m=g n↔m=n:=by
 constructor
 ·intro e
  rcases hm with hm |hm
  ·rcases hn with hn |hn
   ·exact h.inj m hm n hn e
   ·subst hn;rw[h.zero]at e;exact(h.iff0 (.inl hm)).1 e
  ·subst hm
   rw[h.zero]at e
   exact((h.iff0 hn).1 e.symm).symm
 ·intro e;rw[e]
theorem za8(pl:List PI)(k:Nat):(ix pl k).2.2.1∈allP pl\/(ix pl k).2.2.1=0:=by
 by_cases hk:k<pl.length
 ·left;rw[zH hk];exact(zfc hk).2.1
 ·right
  have:ix pl k=pi0:=yd (by omega)
  rw[this]
theorem zv.mk1(h:zv g pl b'){id:Int}(hid:id∈allP pl\/id=0)(k:Nat):Go.Proofs.mk1 (zD g pl) (g id) k=Go.Proofs.mk1 pl id k:=by
 unfold Go.Proofs.mk1
 rw[show(zD g pl).getD k pi0=ix (zD g pl) k from rfl,show pl.getD k pi0=ix pl k from rfl,yg h.zero]
 unfold zX
 dsimp only
 rw[Bool.eq_iff_iff]
 simp only[Bool.and_eq_true,beq_iff_eq,bne_iff_ne,ne_eq]
 rw[h.eq (za8 pl k) hid,h.iff0 hid]
theorem zv.maker(h:zv g pl b'){id:Int}(hid:id∈allP pl\/id=0)(n:Nat):zQ (zD g pl) (g id) n=zQ pl id n:=by
 unfold zQ
 rw[show Go.Proofs.mk1 (zD g pl) (g id)=Go.Proofs.mk1 pl id from funext (h.mk1 hid)]
theorem zuE{p:PI}{n:Int}(h:n∈idsP p.2.1 p.2.2.2):n∈allI p:=by
 unfold idsP idsN at h
 rw[List.take_length]at h
 rcases List.mem_append.1 h with h |h
 ·split at h
  ·cases h
  ·rw[List.mem_singleton.1 h];simp[allI]
 ·simp only[allI,List.mem_cons]
  exact .inr (.inr h)
theorem zsA{k:Nat}{n:Int}(h:n∈zcV pl k):n∈allP pl\/n=0:=by
 unfold zcV at h
 by_cases hk:k<pl.length
 ·rw[zH hk]at h
  exact .inl (zoU (List.getElem_mem hk) (zuE h))
 ·have:ix pl k=pi0:=yd (by omega)
  rw[this]at h
  cases h
theorem zje(g:Int->Int):∀al:List Ag,(((al.map (yv g)).filter λa=>a.1==1).map (·.2.1))=(((al.filter λa=>a.1==1).map (·.2.1)).map g)
 | []=>rfl
 |a::al=>by
  rw[List.map_cons,List.filter_cons,List.filter_cons,zrr]
  by_cases e:a.1=1
  ·rw[if_pos (beq_iff_eq.2 e),if_pos (beq_iff_eq.2 e),List.map_cons,List.map_cons,List.map_cons,zje g al,zeC g e]
  ·rw[if_neg (λq=>e (beq_iff_eq.1 q)),if_neg (λq=>e (beq_iff_eq.1 q)),zje g al]
theorem zv.ids(h:zv g pl b')(k:Nat):zcV (zD g pl) k=(zcV pl k).map g:=by
 have hty:(ix pl k).2.1∈allP pl\/(ix pl k).2.1=0:=by
  by_cases hk:k<pl.length
  ·left;rw[zH hk];exact(zfc hk).1
  ·right
   have:ix pl k=pi0:=yd (by omega)
   rw[this]
 unfold zcV
 rw[yg h.zero]
 unfold zX idsP idsN
 dsimp only
 rw[List.take_length,List.take_length,List.map_append,zje]
 congr 1
 by_cases e:(ix pl k).2.1=0
 ·rw[if_pos e,if_pos (by rw[e,h.zero])];rfl
 ·rw[if_neg e,if_neg (λq=>e ((h.iff0 hty).1 q))];rfl
theorem Yd{α β:Type}{l:List α}{f:α->β}{p:β->Bool}{q:α->Bool}(h:∀x∈l,p (f x)=q x):(l.map f).any p=l.any q:=by
 induction l with
 |nil=>rfl
 |cons x l ih=>rw[List.map_cons,List.any_cons,List.any_cons,h x List.mem_cons_self,ih λy hy=>h y (List.mem_cons_of_mem _ hy)]
theorem zv.flt(h:zv g pl b')(hs:(zx b pl).1=0)(k:Nat):fltP (zD g pl) k=fltP pl k:=by
 unfold fltP
 rw[h.ids,h.part hs,yE]
 rw[Yd (q:=λid=>decide (zQ pl id pl.length<0)) λn hn=>by rw[h.maker (zsA hn)]]
 rw[Yd (q:=λid=>decide (zQ pl id k<0)) λn hn=>by rw[h.maker (zsA hn)]]
 have:(ix (zD g pl) k).2.2.1=g (ix pl k).2.2.1:=by rw[yg h.zero];rfl
 rw[this,h.maker (za8 pl k)]
theorem zv.chk9(h:zv g pl b')(hs:(zx b pl).1=0):zU b' (zD g pl)=zU b pl:=by
 have hl:layP b' (zD g pl)=layP b pl:=by
  unfold layP
  rw[h.shape hs,h.chk hs,if_neg (by simp),if_neg (by rw[hs];simp)]
 unfold zU
 rw[hl,yE]
 simp only[h.flt hs]
theorem zv.cnt(h:zv g pl b'):∀k,cntP (zD g pl) k=cntP pl k
 | 0=>rfl
 |k+1=>by
  have:(ix (zD g pl) k).2.2.1=g (ix pl k).2.2.1:=by rw[yg h.zero];rfl
  simp only[cntP,h.cnt k,this,ne_eq,h.iff0 (za8 pl k)]
end
structure yP (bd:Int) (pl:List PI):Prop where
 shape:(zx bd pl).1=0
 lim:0<bd/\bd<=65536
 rng:∀n∈allP pl,0<=n/\n<bd
 new:∀k,k<pl.length->(ix pl k).2.2.1≠0->∀j,j<k->j<pl.length->(ix pl j).2.2.1≠(ix pl k).2.2.1
 made:∀n∈allP pl,n≠0->∃k,k<pl.length/\(ix pl k).2.2.1=n
 ok:zU bd pl=(0,0)
theorem yP.of{bd:Int}{pl:List PI}(hp:PlOk pl)(h0:0<=bd)(h:(zU bd pl).1=0):yP bd pl:=by
 obtain⟨c1,c2,c3⟩:=zna h
 have hs:=zmz c2
 have hbd:=(Yf hs).1
 refine⟨hs,by omega,zrN hp h0 hs,λk hk h0=>zu8 (c3 k hk) h0,λn hn h0=>?_,c1⟩
 obtain⟨p,hp',hn⟩:=List.mem_flatMap.1 hn
 obtain⟨k,hk,rfl⟩:=List.getElem_of_mem hp'
 have hr:n=pl[k].2.2.1\/n∈zcV pl k:=by
  unfold zcV idsP idsN
  rw[zH hk,List.take_length]
  simp only[allI,List.mem_cons]at hn
  rcases hn with e |e |e
  ·right
   refine List.mem_append_left _ ?_
   rw[if_neg (by rw[<-e];exact h0),e]
   exact List.mem_singleton.2 rfl
  ·exact .inl e
  ·right
   exact List.mem_append_right _ e
 rcases hr with e |e
 ·exact⟨k,hk,by rw[zH hk,e]⟩
 ·have hf:=c3 k hk
  unfold fltP at hf
  by_cases e1:0<=zQ pl (ix pl k).2.2.1 k
  ·rw[if_pos e1]at hf;exact absurd hf (by decide)
  rw[if_neg e1]at hf
  by_cases e2:(zcV pl k).any (λid=>decide (zQ pl id pl.length<0))=true
  ·rw[if_pos e2]at hf;exact absurd hf (by decide)
  have:0<=zQ pl n pl.length:=by
   rcases Int.lt_or_le (zQ pl n pl.length) 0 with q |q
   ·exact absurd (List.any_eq_true.2 ⟨n,e,decide_eq_true q⟩) e2
   ·exact q
  obtain⟨j,hj,hm⟩:=za3.1 this
  unfold mk1 at hm
  rw[Bool.and_eq_true]at hm
  exact⟨j,hj,beq_iff_eq.1 hm.1⟩
end Go.Proofs
namespace Go.Proofs
open Go.Gk Go.RowKit Go.Gm
theorem zgt{α:Type}[BEq α][LawfulBEq α]:∀{S T:List α},S.Nodup->(∀x∈S,x∈T)->T.length<=S.length->T.Perm S
 | [],T,_,_,h=>by
  cases T with
  |nil=>exact List.Perm.refl _
  |cons a r=>simp at h
 |x::S,T,hn,hs,h=>by
  have hx:=hs x List.mem_cons_self
  obtain⟨h1,h2⟩:=List.nodup_cons.1 hn
  refine(List.perm_cons_erase hx).trans (List.Perm.cons x (zgt h2 (λy hy=>?_) ?_))
  ·exact(List.mem_erase_of_ne (λe=>by subst e;exact h1 hy)).2 (hs y (List.mem_cons_of_mem _ hy))
  ·rw[List.length_erase_of_mem hx]
   simp at h
   omega
end Go.Proofs
namespace Go.Gk
open Go.RowKit Go.MapKept
variable {P:Program} {α:Type}
def zC:List (Int×α)->Int->Option α
 | [],_=>none
 |p::r,k=>if k=p.1 then some p.2 else zC r k
def setQ:List (Int×α)->Int->α->List (Int×α)
 | [],k,v=>[(k,v)]
 |p::r,k,v=>if k=p.1 then(k,v)::r else p::setQ r k v
def delQ:List (Int×α)->Int->List (Int×α)
 | [],_=>[]
 |p::r,k=>if k=p.1 then r else p::delQ r k
theorem zc2(k:Int)(v:α)(k':Int):∀L,zC (setQ L k v) k'=if k'=k then some v else zC L k'
 | []=>by simp only[setQ,zC]
 |p::r=>by
  have ih:=zc2 k v k' r
  simp only[setQ]
  split
  ·rename_i e
   simp only[zC]
   split
   ·rfl
   ·rename_i e'
    rw[if_neg (by rw[<-e];exact e')]
  ·rename_i e
   simp only[zC]
   split
   ·rename_i e'
    rw[if_neg (by rw[e'];exact λh=>e h.symm)]
   ·exact ih
theorem ze5{k:Int}{v:α}:∀{L:List (Int×α)},zC L k=some v->(k,v)∈L
 |p::r,h=>by
  simp only[zC]at h
  split at h
  ·rename_i e
   cases h
   rw[e]
   exact List.mem_cons_self ..
  ·exact List.mem_cons_of_mem _ (ze5 h)
theorem zlt{k:Int}:∀{L:List (Int×α)},zC L k=none↔k ∉ L.map (·.1)
 | []=>by simp[zC]
 |p::r=>by
  simp only[zC,List.map_cons,List.mem_cons,not_or]
  split
  ·rename_i e
   simp[e]
  ·rename_i e
   rw[zlt (L:=r)]
   simp[e]
theorem zoO{k:Int}{v:α}:∀{L:List (Int×α)},(L.map (·.1)).Nodup->(k,v)∈L->zC L k=some v
 |p::r,hd,h=>by
  rw[List.map_cons,List.nodup_cons]at hd
  simp only[zC]
  rcases List.mem_cons.1 h with rfl |h
  ·rw[if_pos rfl]
  ·rw[if_neg λe=>hd.1 (by rw[<-e];exact List.mem_map.2 ⟨_,h,rfl⟩)]
   exact zoO hd.2 h
theorem Y9(k:Int)(v:α):∀L:List (Int×α),(setQ L k v).map (·.1)=if k∈L.map (·.1) then L.map (·.1) else L.map (·.1)++[k]
 | []=>by simp[setQ]
 |p::r=>by
  simp only[setQ]
  split
  ·rename_i e
   simp[e]
  ·rename_i e
   rw[List.map_cons,Y9 k v r,List.map_cons]
   by_cases h:k∈r.map (·.1)
   ·rw[if_pos h,if_pos (List.mem_cons_of_mem _ h)]
   ·rw[if_neg h,if_neg (by rw[List.mem_cons];exact λq=>q.elim e h)]
    rfl
theorem zfe{k:Int}{v:α}{L:List (Int×α)}(h:(L.map (·.1)).Nodup):((setQ L k v).map (·.1)).Nodup:=by
 rw[Y9]
 split
 ·exact h
 ·rename_i e
  exact List.nodup_append.2 ⟨h,by simp,λa ha b hb=>by rw[List.mem_singleton.1 hb];rintro rfl;exact e ha⟩
structure IsMq (w:World) (r:Nat) (f:α->Value) (L:List (Int×α)):Prop where
 ex:∃es clock,w.heap[r]? =some (.map es clock)/\es.toList.map (λe=>(e.key,e.val))=(L.map λp=>(Value.int .u32 p.1,f p.2))/\(∀x∈es.toList,x.born<clock)/\(es.toList.map (·.born)).Nodup
 nd:(L.map (·.1)).Nodup
variable {f:α->Value} {w w':World} {r:Nat} {L:List (Int×α)}
theorem IsMq.lt(h:IsMq w r f L):r<w.heap.size:=by
 obtain⟨es,c,h,_⟩:=h.ex
 exact(Array.getElem?_eq_some_iff.1 h).1
theorem IsMq.of_block(h:IsMq w r f L)(hb:w'.heap[r]? =w.heap[r]?):IsMq w' r f L:=by
 obtain⟨es,c,h1,h2⟩:=h.ex
 exact⟨⟨es,c,hb.trans h1,h2⟩,h.nd⟩
theorem IsMq.below(h:IsMq w r f L)(hb:Below w.heap.size w w'):IsMq w' r f L:=h.of_block (hb.block r h.lt)
theorem IsMq.drew(h:IsMq w r f L):IsMq w.drew r f L:=⟨h.ex,h.nd⟩
theorem IsMq.new(w:World)(f:α->Value):IsMq (w.alloc (.map #[] 0)) w.heap.size f []:=⟨⟨#[],0,by show(w.heap.push _)[w.heap.size]? =_;simp,rfl,(by simp),by simp⟩,by simp⟩
theorem zlf(f:α->Value)(k:Int):∀(es:List MapEntry) (L:List (Int×α)) (i:Nat),es.map (λe=>(e.key,e.val))=(L.map λp=>(Value.int .u32 p.1,f p.2))->
  ∃o,Instr.findNow (.int .u32) (.int .u32 k) es i=some o/\(match o with
   |none=>zC L k=none
   |some (j,v)=>∃m x,j=i+m/\m<es.length/\v=f x/\zC L k=some x/\(es.eraseIdx m).map (λe=>(e.key,e.val))=((delQ L k).map λp=>(Value.int .u32 p.1,f p.2))/\∃e,es[m]? =some e/\e.key =.int .u32 k/\
     ∀v',(es.modify m λe=>{e with key:=.int .u32 k,val:=f v'}).map (λe=>(e.key,e.val))=(setQ L k v').map λp=>(Value.int .u32 p.1,f p.2))
 | [],[],i,_=>⟨none,rfl,rfl⟩
 | [],_::_,_,h=>by simp at h
 |_::_,[],_,h=>by simp at h
 |e::es,p::L,i,h=>by
  simp only[List.map_cons,List.cons.injEq,Prod.mk.injEq]at h
  obtain⟨⟨h1,h2⟩,h3⟩:=h
  unfold Instr.findNow
  rw[h1]
  simp only[Instr.sameNow,if_true]
  by_cases hk:k=p.1
  ·rw[show(k==p.1)=true from beq_iff_eq.2 hk]
   refine⟨some (i,e.val),rfl,0,p.2,rfl,by simp,h2,by simp[zC,hk],by simp[delQ,hk,h3],e,rfl,by rw[h1,hk],λv'=>?_⟩
   simp[setQ,hk,h3]
  ·rw[show(k==p.1)=false from beq_eq_false_iff_ne.2 hk]
   obtain⟨o,ho,hm⟩:=zlf f k es L (i+1) h3
   refine⟨o,ho,?_⟩
   cases o with
   |none=>simpa[zC,hk] using hm
   |some q=>
    obtain⟨j,v⟩:=q
    obtain⟨m,x,g1,g2,g3,g4,gd,e',g5,g6,g7⟩:=hm
    refine⟨m+1,x,by omega,by simp;omega,g3,by simpa[zC,hk] using g4,by simp[delQ,hk,h1,h2,gd],e',by simpa using g5,g6,λv'=>?_⟩
    have:=g7 v'
    simp[setQ,hk,h1,h2,this]
theorem zmE{t kt et:TypeId}(ht:P.underlying t=some (.map kt et))(hk:P.underlying kt=some (.int .u32)){d:α}(hz:∃i,P.info? et=some i/\i.zero=some (f d))(h:IsMq w r f L)(k:Int)(ok:Bool) :
  (Instr.lookup t (.map (some r)) (.int .u32 k) ok).run P w =.ok (if ok then .tuple #[f ((zC L k).getD d),.bool (zC L k).isSome] else f ((zC L k).getD d)) w:=by
 obtain⟨es,c,hb,hes,_⟩:=h.ex
 obtain⟨i,hi,hzi⟩:=hz
 obtain⟨o,ho,hm⟩:=zlf f k es.toList L 0 hes
 unfold Instr.lookup
 have hck:∀e,(Instr.checkKey e 10000 kt (.int .u32 k)).run P w =.ok () w:=λe=>run_checkKey (d:=.int .u32) hk (by simp[IsKey]) e 9999
 have hg:(getObj r).run P w =.ok (.map es c) w:=Go.MapKept.run_getObj_map hb
 simp only[Sem.run_bind,run_underlying ht,Result.andThen_ok,hg,Sem.run_pure,hck,run_findKey hk ho]
 cases o with
 |none=>
  have hzr:(zeroValue et).run P w =.ok (f d) w:=by simp[zeroValue,typeInfo,hi,hzi,Result.andThen]
  have hm:zC L k=none:=hm
  simp only[Sem.run_bind,hzr,Result.andThen_ok,Sem.run_pure,hm,Option.getD_none,Option.isSome_none]
 |some q=>
  obtain⟨j,v⟩:=q
  obtain⟨m,x,g1,g2,g3,g4,_⟩:=hm
  simp only[Sem.run_bind,Sem.run_pure,Result.andThen_ok,g3,g4,Option.getD_some,Option.isSome_some]
abbrev aggQ(ks:List BK)(t:HL ks):Value:=.agg (HL.cells ks t).toArray
theorem zls{ks:List BK}{L:List (Int×HL ks)}{t kt et:TypeId}(ht:P.underlying t=some (.map kt et))(hk:P.underlying kt=some (.int .u32)){d:HL ks}(hz:∃i,P.info? et=some i/\i.zero=some (aggQ ks d))(h:IsMq w r (aggQ ks) L){k:Int}
  {φ:HL ks->Bool->Prop} (hφ:φ ((zC L k).getD d) (zC L k).isSome):zgH P t (.map (some r)) (.int .u32 k) ks w φ:=⟨(zC L k).getD d,(zC L k).isSome,zmE ht hk hz h k true,hφ⟩
theorem zm3{ks:List BK}{L:List (Int×HL ks)}{t kt et:TypeId}(ht:P.underlying t=some (.map kt et))(hk:P.underlying kt=some (.int .u32)){d:HL ks}(hz:∃i,P.info? et=some i/\i.zero=some (aggQ ks d))(h:IsMq w r (aggQ ks) L){k:Int}
  {φ:HL ks->Prop} (hφ:φ ((zC L k).getD d)):za1 P t (.map (some r)) (.int .u32 k) ks w φ:=⟨(zC L k).getD d,zmE ht hk hz h k false,hφ⟩
theorem zaz(r:Nat)(w:World)(ob:Obj):Go.Proofs.Chg r w {w with heap:=w.heap.setIfInBounds r ob}:=⟨rfl,rfl,rfl,by simp,λi hi=>by simp[Array.getElem?_setIfInBounds_ne (Ne.symm hi)]⟩
theorem zk1{t kt et:TypeId}(ht:P.underlying t=some (.map kt et))(hk:P.underlying kt=some (.int .u32))(h:IsMq w r f L){k:Int}{v:α}{y:Value}(hy:y=f v){K:World->Prop}
  (hK:∀w',IsMq w' r f (setQ L k v)->Go.Proofs.Chg r w w'->K w'):updW P t (.map (some r)) (.int .u32 k) y w K:=by
 subst hy
 have hlt:=h.lt
 obtain⟨⟨es,c,hb,hes,hstamp,hnd⟩,hkd⟩:=h
 obtain⟨o,ho,hm⟩:=zlf f k es.toList L 0 hes
 have hck:∀e,(Instr.checkKey e 10000 kt (.int .u32 k)).run P w =.ok () w:=λe=>run_checkKey (d:=.int .u32) hk (by simp[IsKey]) e 9999
 have hg:(getObj r).run P w =.ok (.map es c) w:=Go.MapKept.run_getObj_map hb
 unfold updW Instr.mapUpdate
 simp only[Sem.run_bind,run_underlying ht,Result.andThen_ok,hg,hck,run_findKey hk ho]
 cases o with
 |none=>
  simp only[run_setObj_map _ hb]
  refine⟨_,rfl,hK _ ⟨⟨_,_,(heap_set hb).1,?_,λx hx=>?_,?_⟩,zfe hkd⟩ (zaz _ _ _)⟩
  rotate_left
  ·rw[Array.toList_push]at hx
   rcases List.mem_append.1 hx with hx |hx
   ·exact Nat.lt_succ_of_lt (hstamp x hx)
   ·rw[List.mem_singleton.1 hx]
    exact Nat.lt_succ_self c
  ·rw[Array.toList_push,List.map_append]
   refine List.nodup_append.2 ⟨hnd,by simp,?_⟩
   intro a ha b hb e
   obtain⟨x,hx,rfl⟩:=List.mem_map.1 ha
   simp only[List.map_cons,List.map_nil,List.mem_singleton]at hb
   have:=hstamp x hx
   omega
  simp only[Array.toList_push,List.map_append,hes,List.map_cons,List.map_nil]
  have:∀L:List (Int×α),zC L k=none->setQ L k v=L++[(k,v)]:=by
   intro L
   induction L with
   |nil=>intro _;rfl
   |cons p r ih=>
    intro hn
    simp only[zC]at hn
    split at hn
    ·cases hn
    ·rename_i e
     simp only[setQ]
     rw[if_neg e,ih hn]
     rfl
  rw[this L hm]
  simp
 |some q=>
  obtain⟨j,v0⟩:=q
  obtain⟨m,x,g1,g2,g3,g4,_,e,g5,g6,g7⟩:=hm
  have hj:j=m:=by omega
  subst hj
  have hst:(Instr.keyThatStays (((es[j]?).map (·.key)).getD (.int .u32 k)) (.int .u32 k)).run P w =.ok (.int .u32 k) w:=by
   have:((es[j]?).map (·.key)).getD (.int .u32 k) =.int .u32 k:=by
    rw[<-Array.getElem?_toList,g5]
    exact g6
   rw[this]
   unfold Instr.keyThatStays
   rw[if_pos (by simp[Instr.sameBits])]
   rfl
  simp only[Sem.run_bind,hst,Result.andThen_ok,run_setObj_map _ hb]
  have hbn:(es.modify j λe=>{e with key:=.int .u32 k,val:=f v}).toList.map (·.born)=es.toList.map (·.born):=by
   rw[Array.toList_modify]
   apply List.ext_getElem
   ·simp
   ·intro n q1 q2
    simp only[List.getElem_map,List.getElem_modify]
    split<;>rfl
  refine⟨_,rfl,hK _ ⟨⟨_,_,(heap_set hb).1,?_,λx hx=>?_,by rw[hbn];exact hnd⟩,zfe hkd⟩ (zaz _ _ _)⟩
  rotate_left
  ·have:x.born∈es.toList.map (·.born):=by rw[<-hbn];exact List.mem_map.2 ⟨x,hx,rfl⟩
   obtain⟨y,hy,e⟩:=List.mem_map.1 this
   rw[<-e]
   exact hstamp y hy
  have:=g7 v
  rw[<-this]
  congr 1
  rw[Array.toList_modify]
end Go.Gk
namespace Go.Proofs
open Go.Gk Go.RowKit Go.Gm
structure Tp where
 kind:Int
 size:Nat
 depth:Nat
 sg:Bool
 cls:Int
 part:Int
 times:Nat
 ps:List Int
def tp0:Tp:=⟨0,0,0,false,0,0,0,[]⟩
abbrev TyL:=List (Int×Tp)
def tA(L:TyL)(id:Int):Tp:=(zC L id).getD tp0
abbrev agI(pl:List PI)(k j:Nat):Int:=((ix pl k).2.2.2.getD j ag0).2.1
def agN(pl:List PI)(k:Nat):List Int:=(ix pl k).2.2.2.map λa=>a.2.1
def whT(t:Tp)(size depth:Nat):Tp×Int:=if 4096<size then(tp0,102) else if 16<depth+1 then(tp0,4) else({t with size:=size,depth:=depth+1},0)
def vecT(L:TyL)(part n:Int):Tp×Int:=if (tA L part).kind≠2/\(tA L part).kind≠3 then(tp0,100) else if n<2\/4<n then(tp0,102) else whT {tp0 with kind:=4,part:=part,times:=n.toNat} n.toNat (tA L part).depth
def mdP(pl:List PI)(id:Int)(k:Nat):PI:=if 0<=zQ pl id k then ix pl (zQ pl id k).toNat else pi0
abbrev cN(c:PI):Int:=(c.2.2.2.getD 0 ag0).2.1
def arrT(L:TyL)(c:PI)(part:Int):Tp×Int:=if (tA L part).size=0 then(tp0,100) else if c.1≠43\/(tA L c.2.1).kind≠3\/cN c<1\/4096<cN c then(tp0,102) else whT {tp0 with kind:=5,part:=part,times:=(cN c).toNat} ((cN c).toNat *(tA L part).size) (tA L part).depth
def sumT(L:TyL)(l:List Int):Nat:=(l.map λp=>(tA L p).size).sum
def Zi(L:TyL)(l:List Int):Nat:=l.foldl (λd p=>max d (tA L p).depth) 0
def memT(L:TyL)(l:List Int):Tp×Int:=if l.length<1\/256<l.length then(tp0,102) else if l.any (λp=>(tA L p).size==0)=true then(tp0,100) else whT {tp0 with kind:=6,ps:=l} (sumT L l) (Zi L l)
def othK(i:Nat):Int:=if i=0 then 1 else 7
def fnT(L:TyL)(l:List Int):Tp×Int:=if (List.range l.length).any (λi=>(tA L (l.getD i 0)).size==0&&(tA L (l.getD i 0)).kind !=othK i)=true then(tp0,100) else({tp0 with kind:=8,ps:=l},0)
def oneT(L:TyL)(pl:List PI)(k:Nat):Option (Tp×Int):=
 if (ix pl k).1=19 then some ({tp0 with kind:=1},0)
 else if (ix pl k).1=20 then some ({tp0 with kind:=2,size:=1,depth:=1},0)
 else if (ix pl k).1=21 then some ({tp0 with kind:=3,size:=1,depth:=1,sg:=agI pl k 1==1},if agI pl k 0≠32\/1<agI pl k 1 then 102 else 0)
 else if (ix pl k).1=23 then some (vecT L (agI pl k 0) (agI pl k 1))
 else if (ix pl k).1=28 then some (arrT L (mdP pl (agI pl k 1) k) (agI pl k 0))
 else if (ix pl k).1=30 then some (memT L (agN pl k))
 else if (ix pl k).1=32 then some ({tp0 with kind:=7,cls:=agI pl k 0,ps:=(agN pl k).drop 1},if (tA L (agI pl k 1)).size=0 then 100 else 0)
 else if (ix pl k).1=33 then some (fnT L (agN pl k))
 else none
def agnT(pl:List PI)(k:Nat):Bool:=(ix pl k).1 !=28&&(ix pl k).1 !=30&&(List.range k).any λj=>(ix pl j).1==(ix pl k).1&&agN pl j==agN pl k
def errT(L:TyL)(pl:List PI)(k:Nat):Int:=match oneT L pl k with
 |none=>0
 |some p=>if p.2≠0 then p.2 else if agnT pl k=true then 101 else 0
def tysT(pl:List PI):Nat->TyL
 | 0=>[]
 |k+1=>match oneT (tysT pl k) pl k with
  |none=>tysT pl k
  |some p=>setQ (tysT pl k) (ix pl k).2.2.1 p.1
abbrev tyL(pl:List PI):TyL:=tysT pl pl.length
def typE(bd:Int)(pl:List PI):Int×Int:=if (zU bd pl).1≠0 then((zU bd pl).1,((zU bd pl).2:Int)) else
 match (List.range pl.length).find? λk=>errT (tysT pl k) pl k !=0 with
 |some k=>(errT (tysT pl k) pl k,(k:Int))
 |none=>(0,0)
theorem zpz{bd:Int}{pl:List PI}(h:(zU bd pl).1≠0):typE bd pl=((zU bd pl).1,((zU bd pl).2:Int)):=if_pos h
theorem zvj{bd:Int}{pl:List PI}(h:(zU bd pl).1=0){k:Nat}(hk:k<pl.length)(he:errT (tysT pl k) pl k≠0)(hj:∀j,j<k->errT (tysT pl j) pl j=0):typE bd pl=(errT (tysT pl k) pl k,(k:Int)):=by
 unfold typE
 rw[if_neg (λq=>q h),List.find?_range_eq_some.2 ⟨by simpa using he,List.mem_range.2 hk,λj hj'=>by simp[hj j hj']⟩]
theorem zgQ{bd:Int}{pl:List PI}(h:(zU bd pl).1=0)(hj:∀j,j<pl.length->errT (tysT pl j) pl j=0):typE bd pl=(0,0):=by
 unfold typE
 rw[if_neg (λq=>q h),List.find?_eq_none.2 λk hk=>by simp[hj k (List.mem_range.1 hk)]]
structure TyOk (bd:Int) (pl:List PI):Prop where
 chk:(zU bd pl).1=0
 no:∀k,k<pl.length->errT (tysT pl k) pl k=0
theorem zub{bd:Int}{pl:List PI}(h:(typE bd pl).1=0):TyOk bd pl/\typE bd pl=(0,0):=by
 by_cases hc:(zU bd pl).1≠0
 ·rw[zpz hc]at h
  exact absurd h hc
 have hc:=Classical.not_not.1 hc
 have hno:∀k,k<pl.length->errT (tysT pl k) pl k=0:=by
  unfold typE at h
  rw[if_neg (λq=>q hc)]at h
  intro k hk
  cases hf:(List.range pl.length).find? λk=>errT (tysT pl k) pl k !=0 with
  |none=>
   have:=List.find?_eq_none.1 hf k (List.mem_range.2 hk)
   simpa using this
  |some j=>
   rw[hf]at h
   have:=List.find?_some hf
   have h:errT (tysT pl j) pl j=0:=h
   rw[h]at this
   cases this
 exact⟨⟨hc,hno⟩,zgQ hc hno⟩
def Tp.cnt(t:Tp):Nat:=t.times+t.ps.length
def Tp.full(t:Tp):List Int:=if 0<t.times then List.replicate t.times t.part else t.ps
def Tp.prt(t:Tp)(k:Int):Int×Bool:=if k<0\/(t.cnt:Int)<=k then(0,false) else if 0<t.times then(t.part,true) else(t.ps.getD k.toNat 0,true)
structure TpOk (L:TyL) (t:Tp):Prop where
 kd:1<=t.kind/\t.kind<=8
 plain:0<t.size↔2<=t.kind/\t.kind<=6
 max:t.size<=4096/\t.depth<=16
 one:t.kind=2\/t.kind=3->t.size=1/\t.depth=1
 many:t.kind=4\/t.kind=5->0<t.times/\t.times<=4096/\t.ps=[]
 few:¬(t.kind=4\/t.kind=5)->t.times=0/\t.part=0
 none:t.kind<=3->t.ps=[]
 ptr:t.kind=7->t.ps.length=1
 sub:4<=t.kind/\t.kind<=6->t.full≠[]/\(∀p∈t.full,0<(tA L p).size/\(tA L p).depth<t.depth)/\t.size=sumT L t.full/\t.depth=Zi L t.full+1
 vec:t.kind=4->(tA L t.part).kind=2\/(tA L t.part).kind=3
 sg:t.sg=true->t.kind=3
theorem zsV{L:TyL}{l:List Int}{p:Int}(h:p∈l):(tA L p).depth<=Zi L l:=by
 have:∀(l:List Int) (d:Nat),d<=l.foldl (λd p=>Nat.max d (tA L p).depth) d/\∀p∈l,(tA L p).depth<=l.foldl (λd p=>Nat.max d (tA L p).depth) d:=by
  intro l
  induction l with
  |nil=>intro d;exact⟨Nat.le_refl _,λp h=>by cases h⟩
  |cons a r ih=>
   intro d
   obtain⟨h1,h2⟩:=ih (Nat.max d (tA L a).depth)
   refine⟨Nat.le_trans (Nat.le_max_left ..) h1,λp hp=>?_⟩
   rcases List.mem_cons.1 hp with rfl |hp
   ·exact Nat.le_trans (Nat.le_max_right ..) h1
   ·exact h2 p hp
 exact(this l 0).2 p h
theorem zmm(L:TyL)(p:Int):∀n,0<n->Zi L (List.replicate n p)=(tA L p).depth:=by
 have:∀n d,(tA L p).depth<=d->(List.replicate n p).foldl (λd p=>Nat.max d (tA L p).depth) d=d:=by
  intro n
  induction n with
  |zero=>intro d _;rfl
  |succ n ih=>
   intro d h
   rw[List.replicate_succ,List.foldl_cons,show Nat.max d (tA L p).depth=d from Nat.max_eq_left h]
   exact ih d h
 intro n hn
 obtain⟨m,rfl⟩:∃m,n=m+1:=⟨n-1,by omega⟩
 unfold Zi
 rw[List.replicate_succ,List.foldl_cons,show max 0 (tA L p).depth=(tA L p).depth from Nat.max_eq_right (Nat.zero_le _)]
 exact this m _ (Nat.le_refl _)
theorem zpw(L:TyL)(p:Int)(n:Nat):sumT L (List.replicate n p)=n*(tA L p).size:=by
 unfold sumT
 rw[List.map_replicate,List.sum_replicate_nat]
theorem zq0{t:Tp}{s d:Nat}(h:(whT t s d).2=0):(whT t s d).1={t with size:=s,depth:=d+1}/\s<=4096/\d+1<=16:=by
 unfold whT at h⊢
 by_cases h1:4096<s
 ·rw[if_pos h1]at h;cases h
 rw[if_neg h1]at h⊢
 by_cases h2:16<d+1
 ·rw[if_pos h2]at h;cases h
 rw[if_neg h2]
 exact⟨rfl,by omega,by omega⟩
def TbOk(L:TyL):Prop:=∀id t,zC L id=some t->TpOk L t
theorem zpx{L:TyL}(h:TbOk L){id:Int}(hs:(tA L id).kind≠0):TpOk L (tA L id):=by
 unfold tA at hs⊢
 cases hl:zC L id with
 |none=>rw[hl]at hs;exact absurd rfl hs
 |some t=>exact h id t hl
theorem zvg{L:TyL}(h:TbOk L)(id:Int):0<(tA L id).size↔2<=(tA L id).kind/\(tA L id).kind<=6:=by
 by_cases hs:(tA L id).kind=0
 ·unfold tA at hs⊢
  cases hl:zC L id with
  |none=>simp[tp0]
  |some t=>
   rw[hl]at hs
   have:=(h id t hl).kd
   have hs:t.kind=0:=hs
   omega
 ·exact(zpx h hs).plain
theorem zvG{L:TyL}{pl:List PI}{k:Nat}(hL:TbOk L){t:Tp}{e:Int}(h:oneT L pl k=some (t,e))(h0:e=0)(h32:(ix pl k).1=32->(ix pl k).2.2.2.length=2):TpOk L t:=by
 subst h0
 unfold oneT at h
 by_cases e19:(ix pl k).1=19
 ·rw[if_pos e19]at h
  cases h
  exact⟨by dsimp only;omega,by simp[tp0],by simp[tp0],by simp[tp0],by simp[tp0],by simp[tp0],by simp[tp0],by simp[tp0],by simp[tp0],by simp[tp0],by simp[tp0]⟩
 rw[if_neg e19]at h
 by_cases e20:(ix pl k).1=20
 ·rw[if_pos e20]at h
  cases h
  exact⟨by dsimp only;omega,by simp[],by simp[],by simp[],by simp[tp0],by simp[tp0],by simp[tp0],by simp[tp0],by simp[tp0],by simp[tp0],by simp[tp0]⟩
 rw[if_neg e20]at h
 by_cases e21:(ix pl k).1=21
 ·rw[if_pos e21]at h
  injection h with h
  injection h with h h'
  subst h
  exact⟨by dsimp only;omega,by simp[],by simp[],by simp[],by simp[tp0],by simp[tp0],by simp[tp0],by simp[tp0],by simp[tp0],by simp[tp0],by simp[]⟩
 rw[if_neg e21]at h
 by_cases e23:(ix pl k).1=23
 ·rw[if_pos e23]at h
  injection h with h
  unfold vecT at h
  generalize agI pl k 0=p at h
  generalize agI pl k 1=n at h
  by_cases h1:(tA L p).kind≠2/\(tA L p).kind≠3
  ·rw[if_pos h1]at h;cases h
  rw[if_neg h1]at h
  by_cases h2:n<2\/4<n
  ·rw[if_pos h2]at h;cases h
  rw[if_neg h2]at h
  obtain⟨g1,g2,g3⟩:=zq0 (t:={tp0 with kind:=4,part:=p,times:=n.toNat}) (s:=n.toNat) (d:=(tA L p).depth) (by rw[h])
  rw[h]at g1
  have g1:t={tp0 with kind:=4,part:=p,times:=n.toNat,size:=n.toNat,depth:=(tA L p).depth+1}:=g1
  have hp:=(zpx hL (id:=p) (by omega)).one (by omega)
  subst g1
  refine⟨by dsimp only;omega,⟨λ_=>⟨by show(2:Int)<=4;decide,by show(4:Int)<=6;decide⟩,λ_=>by show 0<n.toNat;omega⟩,⟨g2,g3⟩,λq=>by simp at q,λ_=>⟨by show 0<n.toNat;omega,by show n.toNat<=4096;omega,rfl⟩,λq=>by simp at q,λq=>rfl,λq=>by simp at q,λ_=>?_,λ_=>by show(tA L p).kind=2\/(tA L p).kind=3;omega,λq=>by cases q⟩
  have hf:Tp.full {tp0 with kind:=4,part:=p,times:=n.toNat,size:=n.toNat,depth:=(tA L p).depth+1}=List.replicate n.toNat p:=if_pos (by show 0<n.toNat;omega)
  rw[hf]
  refine⟨λq=>?_,λy hy=>?_,?_,?_⟩
  ·have:=congrArg List.length q
   simp at this
   omega
  ·rw[List.eq_of_mem_replicate hy]
   exact⟨by omega,by show _<(tA L p).depth+1;omega⟩
  ·show n.toNat=_
   rw[zpw,hp.1,Nat.mul_one]
  ·show(tA L p).depth+1=_
   rw[zmm _ _ _ (by omega)]
 rw[if_neg e23]at h
 by_cases e28:(ix pl k).1=28
 ·rw[if_pos e28]at h
  injection h with h
  unfold arrT at h
  generalize agI pl k 0=p at h
  generalize mdP pl (agI pl k 1) k=c at h
  by_cases h1:(tA L p).size=0
  ·rw[if_pos h1]at h;cases h
  rw[if_neg h1]at h
  by_cases h2:c.1≠43\/(tA L c.2.1).kind≠3\/cN c<1\/4096<cN c
  ·rw[if_pos h2]at h;cases h
  rw[if_neg h2]at h
  generalize cN c=n at h h2
  obtain⟨g1,g2,g3⟩:=zq0 (t:={tp0 with kind:=5,part:=p,times:=n.toNat}) (s:=n.toNat *(tA L p).size) (d:=(tA L p).depth) (by rw[h])
  rw[h]at g1
  have g1:t={tp0 with kind:=5,part:=p,times:=n.toNat,size:=n.toNat *(tA L p).size,depth:=(tA L p).depth+1}:=g1
  subst g1
  have hpos:0<n.toNat *(tA L p).size:=Nat.mul_pos (by omega) (by omega)
  refine⟨by dsimp only;omega,⟨λ_=>⟨by show(2:Int)<=5;decide,by show(5:Int)<=6;decide⟩,λ_=>hpos⟩,⟨g2,g3⟩,λq=>by simp at q,λ_=>⟨by show 0<n.toNat;omega,by show n.toNat<=4096;omega,rfl⟩,λq=>by simp at q,λq=>rfl,λq=>by simp at q,λ_=>?_,λq=>by simp at q,λq=>by cases q⟩
  have hf:Tp.full {tp0 with kind:=5,part:=p,times:=n.toNat,size:=n.toNat *(tA L p).size,depth:=(tA L p).depth+1}=List.replicate n.toNat p:=if_pos (by show 0<n.toNat;omega)
  rw[hf]
  refine⟨λq=>?_,λy hy=>?_,?_,?_⟩
  ·have:=congrArg List.length q
   simp at this
   omega
  ·rw[List.eq_of_mem_replicate hy]
   exact⟨by omega,by show _<(tA L p).depth+1;omega⟩
  ·show n.toNat *(tA L p).size=_
   rw[zpw]
  ·show(tA L p).depth+1=_
   rw[zmm _ _ _ (by omega)]
 rw[if_neg e28]at h
 by_cases e30:(ix pl k).1=30
 ·rw[if_pos e30]at h
  injection h with h
  unfold memT at h
  generalize agN pl k=l at h
  by_cases h1:l.length<1\/256<l.length
  ·rw[if_pos h1]at h;cases h
  rw[if_neg h1]at h
  by_cases h2:l.any (λp=>(tA L p).size==0)=true
  ·rw[if_pos h2]at h;cases h
  rw[if_neg h2]at h
  obtain⟨g1,g2,g3⟩:=zq0 (t:={tp0 with kind:=6,ps:=l}) (s:=sumT L l) (d:=Zi L l) (by rw[h])
  rw[h]at g1
  have g1:t={tp0 with kind:=6,ps:=l,size:=sumT L l,depth:=Zi L l+1}:=g1
  subst g1
  have hall:∀p∈l,0<(tA L p).size:=λp hp=>by
   refine Nat.pos_of_ne_zero λe=>h2 (List.any_eq_true.2 ⟨p,hp,by rw[e];rfl⟩)
  have hpos:0<sumT L l:=by
   cases l with
   |nil=>simp at h1
   |cons a r=>
    have:=hall a (List.mem_cons_self ..)
    unfold sumT
    rw[List.map_cons,List.sum_cons]
    omega
  refine⟨by dsimp only;omega,⟨λ_=>⟨by show(2:Int)<=6;decide,by show(6:Int)<=6;decide⟩,λ_=>hpos⟩,⟨g2,g3⟩,λq=>by simp at q,λq=>by simp at q,λq=>⟨rfl,rfl⟩,λq=>by simp at q,λq=>by simp at q,λ_=>?_,λq=>by simp at q,λq=>by cases q⟩
  have hf:Tp.full {tp0 with kind:=6,ps:=l,size:=sumT L l,depth:=Zi L l+1}=l:=if_neg (by simp[tp0])
  rw[hf]
  refine⟨λq=>?_,λy hy=>⟨hall y hy,?_⟩,rfl,rfl⟩
  ·rw[q]at h1
   simp at h1
  ·have:=zsV (L:=L) hy
   show _<Zi L l+1
   omega
 rw[if_neg e30]at h
 by_cases e32:(ix pl k).1=32
 ·rw[if_pos e32]at h
  injection h with h
  injection h with h h'
  subst h
  have hl:(agN pl k).length=2:=by unfold agN;rw[List.length_map];exact h32 e32
  refine⟨by dsimp only;omega,by simp[tp0],by simp[tp0],by simp[tp0],by simp[tp0],by simp[tp0],by simp[],λ_=>?_,by simp[tp0],by simp[tp0],by simp[tp0]⟩
  show((agN pl k).drop 1).length=1
  rw[List.length_drop,hl]
 rw[if_neg e32]at h
 by_cases e33:(ix pl k).1=33
 ·rw[if_pos e33]at h
  injection h with h
  unfold fnT at h
  split at h
  ·cases h
  ·cases h
   exact⟨by dsimp only;omega,by simp[tp0],by simp[tp0],by simp[tp0],by simp[tp0],by simp[tp0],by simp[],by simp[],by simp[tp0],by simp[tp0],by simp[tp0]⟩
 rw[if_neg e33]at h
 cases h
end Go.Proofs
namespace Go.Proofs
open Go.Gk Go.RowKit Go.Gm
def yb(op:Int)(ty re:Bool)(fixed rest:Bs)(most:Nat):Bool:=match frm op with
 |some f=>decide (f.ty=ty)&&decide (f.re=re)&&decide (f.fixed=fixed)&&decide (f.rest=rest)&&decide (f.most=most)
 |none=>false
theorem zgE:yb 21 false true [110,110] [] 0=true:=by decide +kernel
theorem zd7:yb 23 false true [105,110] [] 0=true:=by decide +kernel
theorem za7:yb 28 false true [105,105] [] 0=true:=by decide +kernel
theorem zks:yb 30 false true [] [105] 0=true:=by decide +kernel
theorem zct:yb 32 false true [99,105] [] 0=true:=by decide +kernel
theorem zgF:yb 33 false true [105] [105] 0=true:=by decide +kernel
theorem zeU:yb 43 true true [110] [] 0=true:=by decide +kernel
theorem zqZ:yb 44 true true [] [105] 0=true:=by decide +kernel
theorem zkt:yb 59 true true [99] [105] 1=true:=by decide +kernel
theorem zqX:yb 19 false true [] [] 0=true:=by decide +kernel
theorem zqY:yb 20 false true [] [] 0=true:=by decide +kernel
theorem zv6:yb 1 true true [] [] 0=true:=by decide +kernel
theorem zu9:yb 41 true true [] [] 0=true:=by decide +kernel
theorem zuA:yb 42 true true [] [] 0=true:=by decide +kernel
theorem zuB:yb 46 true true [] [] 0=true:=by decide +kernel
section
variable {bd:Int} {pl:List PI} {k:Nat} {op:Int} {ty re:Bool} {fixed rest:Bs} {most:Nat}
theorem zcu(hs:(zx bd pl).1=0)(hk:k<pl.length)(h:(ix pl k).1=op)(hf:yb op ty re fixed rest most=true) :
  ∃f:Fl,frm op=some f/\f.fixed=fixed/\f.rest=rest/\f.most=most/\Yp f (ix pl k).2.2.2.length=true/\(re=true->(ix pl k).2.2.1≠0)/\(ty=true->(ix pl k).2.1≠0)/\∀j,j<(ix pl k).2.2.2.length->werr f (ix pl k).2.2.2 bd j=0:=by
 have h0:=(Yf hs).2 k hk
 rw[zH hk]at h⊢
 obtain⟨f,h1,h2,h3,h4,h5,_⟩:=Zz h0
 rw[h]at h1
 unfold yb at hf
 rw[h1]at hf
 simp only[Bool.and_eq_true,decide_eq_true_eq]at hf
 obtain⟨⟨⟨⟨f1,f2⟩,f3⟩,f4⟩,f5⟩:=hf
 refine⟨f,h1,f3,f4,f5,h5,λe=>?_,λe=>?_,h4⟩
 ·have f2:f.re=re:=f2
  rw[f2,e]at h3
  intro q
  rw[q]at h3
  simp[idP]at h3
 ·have f1:f.ty=ty:=f1
  rw[f1,e]at h2
  intro q
  rw[q]at h2
  simp[idP]at h2
theorem yc(hs:(zx bd pl).1=0)(hk:k<pl.length)(h:(ix pl k).1=op)(hf:yb op ty re fixed [] most=true):(ix pl k).2.2.2.length=fixed.length:=by
 obtain⟨f,_,f3,f4,_,hw,_⟩:=zcu hs hk h hf
 unfold Yp at hw
 rw[f3,f4]at hw
 split at hw
 ·cases hw
 ·simpa using hw
theorem yI(hs:(zx bd pl).1=0)(hk:k<pl.length)(h:(ix pl k).1=op)(hf:yb op ty true fixed rest most=true):(ix pl k).2.2.1≠0:=by
 obtain⟨f,_,_,_,_,_,h,_⟩:=zcu hs hk h hf
 exact h rfl
theorem zrw(hs:(zx bd pl).1=0)(hk:k<pl.length)(h:(ix pl k).1=59):(ix pl k).2.2.2.length=1\/(ix pl k).2.2.2.length=2:=by
 obtain⟨f,h1,f3,f4,f5,hw,_,_,hw2⟩:=zcu hs hk h zkt
 have h2:1<=(ix pl k).2.2.2.length:=by
  unfold Yp at hw
  rw[f3]at hw
  split at hw
  ·cases hw
  ·rename_i q
   have:([99]:Bs).length=1:=rfl
   omega
 refine Classical.byContradiction λhn=>?_
 have:=hw2 2 (by omega)
 unfold werr at this
 have:=(yK this).1
 refine this ?_
 unfold letP
 rw[f3,f4,f5,if_neg (by simp),if_neg (by simp),if_pos (by simp)]
 rfl
theorem zn3{L:TyL}{p:Tp×Int}(h:oneT L pl k=some p):(ix pl k).1=19\/(ix pl k).1=20\/(ix pl k).1=21\/(ix pl k).1=23\/(ix pl k).1=28\/(ix pl k).1=30\/(ix pl k).1=32\/(ix pl k).1=33:=by
 unfold oneT at h
 by_cases e1:(ix pl k).1=19
 ·exact .inl e1
 by_cases e2:(ix pl k).1=20
 ·exact .inr (.inl e2)
 by_cases e3:(ix pl k).1=21
 ·exact .inr (.inr (.inl e3))
 by_cases e4:(ix pl k).1=23
 ·exact .inr (.inr (.inr (.inl e4)))
 by_cases e5:(ix pl k).1=28
 ·exact .inr (.inr (.inr (.inr (.inl e5))))
 by_cases e6:(ix pl k).1=30
 ·exact .inr (.inr (.inr (.inr (.inr (.inl e6)))))
 by_cases e7:(ix pl k).1=32
 ·exact .inr (.inr (.inr (.inr (.inr (.inr (.inl e7))))))
 by_cases e8:(ix pl k).1=33
 ·exact .inr (.inr (.inr (.inr (.inr (.inr (.inr e8))))))
 rw[if_neg e1,if_neg e2,if_neg e3,if_neg e4,if_neg e5,if_neg e6,if_neg e7,if_neg e8]at h
 cases h
theorem zsg(L:TyL)(h:(ix pl k).1=19\/(ix pl k).1=20\/(ix pl k).1=21\/(ix pl k).1=23\/(ix pl k).1=28\/(ix pl k).1=30\/(ix pl k).1=32\/(ix pl k).1=33):∃p,oneT L pl k=some p:=by
 cases ho:oneT L pl k with
 |some p=>exact⟨p,rfl⟩
 |none=>
  exfalso
  unfold oneT at ho
  generalize (ix pl k).1=op at h ho
  rcases h with rfl |rfl |rfl |rfl |rfl |rfl |rfl |rfl<;>simp at ho
theorem ztF{L:TyL}{p:Tp×Int}(hs:(zx bd pl).1=0)(hk:k<pl.length)(h:oneT L pl k=some p):(ix pl k).2.2.1≠0:=by
 rcases zn3 h with e |e |e |e |e |e |e |e
 ·exact yI hs hk e zqX
 ·exact yI hs hk e zqY
 ·exact yI hs hk e zgE
 ·exact yI hs hk e zd7
 ·exact yI hs hk e za7
 ·exact yI hs hk e zks
 ·exact yI hs hk e zct
 ·exact yI hs hk e zgF
end
theorem zvS{L:TyL}{id:Int}{t:Tp}(p:Int):tA (setQ L id t) p=if p=id then t else tA L p:=by
 unfold tA
 rw[zc2]
 split<;>rfl
theorem TpOk.mono{L L':TyL}{t:Tp}(h:TpOk L t)(hL:TbOk L)(hp:∀p,(tA L p).kind≠0->tA L' p=tA L p):TpOk L' t:=by
 have hsz:∀p,0<(tA L p).size->tA L' p=tA L p:=λp q=>hp p λe=>by have:=(zvg hL p).1 q;omega
 refine⟨h.kd,h.plain,h.max,h.one,h.many,h.few,h.none,h.ptr,λq=>?_,λq=>?_,h.sg⟩
 ·obtain⟨h1,h2,h3,h4⟩:=h.sub q
  have e:∀p∈t.full,tA L' p=tA L p:=λp hp=>hsz p (h2 p hp).1
  refine⟨h1,λp hp=>by rw[e p hp];exact h2 p hp,?_,?_⟩
  ·rw[h3]
   unfold sumT
   congr 1
   exact List.map_congr_left λp hp=>by rw[e p hp]
  ·rw[h4]
   have:∀(l:List Int) (d:Nat),(∀p∈l,tA L' p=tA L p)->l.foldl (λd p=>Nat.max d (tA L p).depth) d=l.foldl (λd p=>Nat.max d (tA L' p).depth) d:=by
    intro l
    induction l with
    |nil=>intro d _;rfl
    |cons a r ih=>
     intro d hl
     rw[List.foldl_cons,List.foldl_cons,hl a (List.mem_cons_self ..)]
     exact ih _ λp hp=>hl p (List.mem_cons_of_mem _ hp)
   have:=this t.full 0 e
   show Zi L t.full+1=Zi L' t.full+1
   unfold Zi
   exact congrArg (·+1) this
 ·have:=h.vec q
  rw[hp t.part (by omega)]
  exact this
theorem zlA(pl:List PI):∀n id,id∈(tysT pl n).map (·.1)->∃j,j<n/\(ix pl j).2.2.1=id/\∃p,oneT (tysT pl j) pl j=some p
 | 0,_,h=>by cases h
 |n+1,id,h=>by
  unfold tysT at h
  cases ho:oneT (tysT pl n) pl n with
  |none=>
   rw[ho]at h
   obtain⟨j,h1,h2⟩:=zlA pl n id h
   exact⟨j,by omega,h2⟩
  |some p=>
   rw[ho]at h
   have h:id∈(setQ (tysT pl n) (ix pl n).2.2.1 p.1).map (·.1):=h
   rw[Y9]at h
   have old:id∈(tysT pl n).map (·.1)->∃j,j<n+1/\(ix pl j).2.2.1=id/\∃p,oneT (tysT pl j) pl j=some p:=λh=>by
    obtain⟨j,h1,h2⟩:=zlA pl n id h
    exact⟨j,by omega,h2⟩
   split at h
   ·exact old h
   ·rcases List.mem_append.1 h with h |h
    ·exact old h
    ·exact⟨n,by omega,(List.mem_singleton.1 h).symm,p,ho⟩
section
variable {bd:Int} {pl:List PI}
theorem TyOk.whole(h:TyOk bd pl)(hp:PlOk pl)(h0:0<=bd):yP bd pl:=yP.of hp h0 h.chk
theorem TyOk.fresh(W:yP bd pl){n:Nat}(hn:n<pl.length){p:Tp×Int}(ho:oneT (tysT pl n) pl n=some p):(ix pl n).2.2.1 ∉ (tysT pl n).map (·.1):=λhm=>by
 obtain⟨j,h1,h2,_⟩:=zlA pl n _ hm
 exact W.new n hn (ztF W.shape hn ho) j h1 (by omega) h2
theorem zuc(W:yP bd pl){n:Nat}(hn:n<pl.length){p:Tp×Int}(ho:oneT (tysT pl n) pl n=some p):tysT pl (n+1)=tysT pl n++[((ix pl n).2.2.1,p.1)]:=by
 have hf:=TyOk.fresh W hn ho
 show(match oneT (tysT pl n) pl n with |none=>tysT pl n |some p=>setQ (tysT pl n) (ix pl n).2.2.1 p.1)=_
 rw[ho]
 have:∀(L:TyL) (k:Int) (v:Tp),k ∉ L.map (·.1)->setQ L k v=L++[(k,v)]:=by
  intro L k v
  induction L with
  |nil=>intro _;rfl
  |cons a r ih=>
   intro hn
   rw[List.map_cons,List.mem_cons,not_or]at hn
   simp only[setQ]
   rw[if_neg hn.1,ih hn.2]
   rfl
 exact this _ _ _ hf
theorem zlB{n:Nat}(ho:oneT (tysT pl n) pl n=none):tysT pl (n+1)=tysT pl n:=by
 show(match oneT (tysT pl n) pl n with |none=>tysT pl n |some p=>setQ (tysT pl n) (ix pl n).2.2.1 p.1)=_
 rw[ho]
theorem zqP{L:TyL}{n:Nat}{p:Tp×Int}(ho:oneT L pl n=some p)(h:errT L pl n=0):p.2=0:=by
 unfold errT at h
 rw[ho]at h
 have h:(if p.2≠0 then p.2 else if agnT pl n=true then 101 else 0)=0:=h
 by_cases e:p.2=0
 ·exact e
 ·rw[if_pos e]at h
  exact absurd h e
theorem zqy(W:yP bd pl):∀n,n<=pl.length->(∀k,k<n->errT (tysT pl k) pl k=0)->TbOk (tysT pl n)
 | 0,_,_=>λid t h=>by cases h
 |n+1,hn,hno=>by
  have ih:=zqy W n (by omega) λk hk=>hno k (by omega)
  cases ho:oneT (tysT pl n) pl n with
  |none=>rw[zlB ho];exact ih
  |some p=>
   have hf:=TyOk.fresh W (by omega) ho
   have hnew:=zvG ih (t:=p.1) (e:=p.2) ho (zqP ho (hno n (by omega))) λe=>yc W.shape (by omega) e zct
   have hS:tysT pl (n+1)=setQ (tysT pl n) (ix pl n).2.2.1 p.1:=by
    show(match oneT (tysT pl n) pl n with |none=>tysT pl n |some p=>setQ (tysT pl n) (ix pl n).2.2.1 p.1)=_
    rw[ho]
   have keep:∀q,(tA (tysT pl n) q).kind≠0->tA (tysT pl (n+1)) q=tA (tysT pl n) q:=λq hq=>by
    rw[hS,zvS,if_neg]
    rintro rfl
    refine hq ?_
    unfold tA
    rw[zlt.2 hf]
    rfl
   intro id t hl
   rw[hS,zc2]at hl
   split at hl
   ·cases hl
    exact hnew.mono ih keep
   ·exact(ih id t hl).mono ih keep
theorem TyOk.tb(h:TyOk bd pl)(hp:PlOk pl)(h0:0<=bd){n:Nat}(hn:n<=pl.length):TbOk (tysT pl n):=zqy (h.whole hp h0) n hn λk hk=>h.no k (by omega)
theorem zmH(pl:List PI):∀n,((tysT pl n).map (·.1)).Nodup
 | 0=>.nil
 |n+1=>by
  show(List.map (λq:Int×Tp=>q.1) (match oneT (tysT pl n) pl n with |none=>tysT pl n |some p=>setQ (tysT pl n) (ix pl n).2.2.1 p.1)).Nodup
  cases oneT (tysT pl n) pl n with
  |none=>exact zmH pl n
  |some p=>exact zfe (zmH pl n)
theorem zru(pl:List PI):∀n,(tysT pl n).length<=n
 | 0=>Nat.le_refl _
 |n+1=>by
  have ih:=zru pl n
  show(match oneT (tysT pl n) pl n with |none=>tysT pl n |some p=>setQ (tysT pl n) (ix pl n).2.2.1 p.1).length<=n+1
  cases oneT (tysT pl n) pl n with
  |none=>exact Nat.le_succ_of_le ih
  |some p=>
   have:=Y9 (ix pl n).2.2.1 p.1 (tysT pl n)
   have:=congrArg List.length this
   rw[List.length_map]at this
   dsimp only
   rw[this]
   split
   ·rw[List.length_map];omega
   ·rw[List.length_append,List.length_map,List.length_singleton];omega
end
end Go.Proofs
namespace Go.Proofs
open Go.Shelf
def Tryz.lays171_ren:Go.Shelf.Ren:=⟨λ| 129=>148 | 171=>99 | 243=>130 | 246=>160 | 283=>174 | 284=>175 | 285=>176 | 286=>177 | 317=>186 | 318=>187 | 319=>188 | 320=>189 | 337=>199 | 338=>200 |n=>n,λ| 0=>0 | 2=>2 | 3=>3 | 4=>4 | 5=>5 | 9=>9 | 20=>20 | 37=>217 | 46=>194 | 51=>22 | 53=>230 | 171=>267 | 173=>269 | 212=>288 | 213=>289 | 232=>309 | 233=>310 |n=>n,λ| 17=>0 | 18=>1 | 19=>2 |n=>n⟩
theorem Tryz.lays171:Go.Proofs.LaysM.n171 Tryz.prog Tryz.lays171_ren:={
 mixed:=by kernel_rfl,
 f129:=Tryz.func148.trans (congrArg some (by kernel_rfl)),
 f171:=Tryz.func99.trans (congrArg some (by kernel_rfl)),
 f243:=Tryz.func130.trans (congrArg some (by kernel_rfl)),
 f246:=Tryz.func160.trans (congrArg some (by kernel_rfl)),
 f283:=Tryz.func174.trans (congrArg some (by kernel_rfl)),
 f284:=Tryz.func175.trans (congrArg some (by kernel_rfl)),
 f285:=Tryz.func176.trans (congrArg some (by kernel_rfl)),
 f286:=Tryz.func177.trans (congrArg some (by kernel_rfl)),
 f317:=Tryz.func186.trans (congrArg some (by kernel_rfl)),
 f318:=Tryz.func187.trans (congrArg some (by kernel_rfl)),
 f319:=Tryz.func188.trans (congrArg some (by kernel_rfl)),
 f320:=Tryz.func189.trans (congrArg some (by kernel_rfl)),
 f337:=Tryz.func199.trans (congrArg some (by kernel_rfl)),
 f338:=Tryz.func200.trans (congrArg some (by kernel_rfl)),
 t0:=Tryz.underlying0,
 a0:=Tryz.isAgg0,
 z0:=Tryz.sizeOf0,
 v0:=Tryz.zeroValue0,
 t2:=Tryz.underlying2,
 a2:=Tryz.isAgg2,
 z2:=Tryz.sizeOf2,
 v2:=Tryz.zeroValue2,
 t3:=Tryz.underlying3,
 a3:=Tryz.isAgg3,
 z3:=Tryz.sizeOf3,
 v3:=Tryz.zeroValue3,
 t4:=Tryz.underlying4,
 a4:=Tryz.isAgg4,
 z4:=Tryz.sizeOf4,
 v4:=Tryz.zeroValue4,
 t5:=Tryz.underlying5,
 a5:=Tryz.isAgg5,
 z5:=Tryz.sizeOf5,
 v5:=Tryz.zeroValue5,
 t9:=Tryz.underlying9,
 a9:=Tryz.isAgg9,
 z9:=Tryz.sizeOf9,
 v9:=Tryz.zeroValue9,
 t20:=Tryz.underlying20,
 a20:=Tryz.isAgg20,
 z20:=Tryz.sizeOf20,
 v20:=Tryz.zeroValue20,
 t37:=Tryz.underlying217,
 a37:=Tryz.isAgg217,
 z37:=Tryz.sizeOf217,
 v37:=Tryz.zeroValue217,
 t46:=Tryz.underlying194,
 a46:=Tryz.isAgg194,
 z46:=Tryz.sizeOf194,
 v46:=Tryz.zeroValue194,
 t51:=Tryz.underlying22,
 a51:=Tryz.isAgg22,
 z51:=Tryz.sizeOf22,
 v51:=Tryz.zeroValue22,
 t53:=Tryz.underlying230,
 a53:=Tryz.isAgg230,
 z53:=Tryz.sizeOf230,
 v53:=Tryz.zeroValue230,
 t171:=Tryz.underlying267,
 a171:=Tryz.isAgg267,
 z171:=Tryz.sizeOf267,
 v171:=Tryz.zeroValue267,
 t173:=Tryz.underlying269,
 a173:=Tryz.isAgg269,
 z173:=Tryz.sizeOf269,
 v173:=Tryz.zeroValue269,
 t212:=Tryz.underlying288,
 a212:=Tryz.isAgg288,
 z212:=Tryz.sizeOf288,
 v212:=Tryz.zeroValue288,
 t213:=Tryz.underlying289,
 a213:=Tryz.isAgg289,
 z213:=Tryz.sizeOf289,
 t232:=Tryz.underlying309,
 a232:=Tryz.isAgg309,
 z232:=Tryz.sizeOf309,
 v232:=Tryz.zeroValue309,
 t233:=Tryz.underlying310,
 a233:=Tryz.isAgg310,
 z233:=Tryz.sizeOf310,
 v233:=Tryz.zeroValue310,
 g17:=by kernel_rfl,
 g18:=by kernel_rfl,
 g19:=by kernel_rfl,
 i0:=by kernel_rfl,
 i2:=by kernel_rfl,
 i3:=by kernel_rfl,
 i4:=by kernel_rfl,
 i5:=by kernel_rfl,
 i9:=by kernel_rfl,
 i20:=by kernel_rfl,
 i37:=by kernel_rfl,
 i46:=by kernel_rfl,
 i51:=by kernel_rfl,
 i53:=by kernel_rfl,
 i171:=by kernel_rfl,
 i173:=by kernel_rfl,
 i212:=by kernel_rfl,
 i232:=by kernel_rfl,
 i233:=by kernel_rfl,
 m17:=by kernel_rfl,
 m18:=by kernel_rfl,
 m19:=by kernel_rfl
}
end Go.Proofs
namespace Go.Proofs
open Go.Gk Go.RowKit Go.Gm
theorem zrE(u:Nat):∀c∈Lib.decDigits u,48<=c.toNat/\c.toNat<=57:=by
 induction u using Nat.strongRecOn with
 |_ u ih=>
  intro c hc
  rw[Lib.decDigits]at hc
  have one:∀i,i<10->c=UInt8.ofNat (48+i)->48<=c.toNat/\c.toNat<=57:=λi hi e=>by
   rw[e,UInt8.toNat_ofNat']
   omega
  split at hc
  ·rename_i h
   exact one u h (List.mem_singleton.1 hc)
  ·rename_i h
   rcases List.mem_append.1 hc with hc |hc
   ·exact ih (u / 10) (by omega) c hc
   ·exact one (u % 10) (by omega) (List.mem_singleton.1 hc)
def valD(l:List UInt8):Nat:=l.foldl (λa c=>10*a+(c.toNat-48)) 0
theorem zkU(u:Nat):valD (Lib.decDigits u)=u:=by
 induction u using Nat.strongRecOn with
 |_ u ih=>
  rw[Lib.decDigits]
  split
  ·rename_i h
   show 10*0+((UInt8.ofNat (48+u)).toNat-48)=u
   rw[UInt8.toNat_ofNat']
   omega
  ·rename_i h
   have e:=ih (u / 10) (by omega)
   unfold valD at e⊢
   rw[List.foldl_append,e]
   show 10*(u / 10)+((UInt8.ofNat (48+u % 10)).toNat-48)=u
   rw[UInt8.toNat_ofNat']
   omega
theorem zpM(u:Nat):∀n,u<10 ^ (n+1)->(Lib.decDigits u).length<=n+1:=by
 intro n
 induction n generalizing u with
 |zero=>
  intro h
  rw[Lib.decDigits,dif_pos (by simpa using h)]
  exact Nat.le_refl _
 |succ n ih=>
  intro h
  rw[Lib.decDigits]
  split
  ·simp
  ·have:u / 10<10 ^ (n+1):=by
    rw[Nat.div_lt_iff_lt_mul (by decide)]
    calc u<10 ^ (n+1+1):=h
     _=10 ^ (n+1)*10:=Nat.pow_succ ..
   have:=ih (u / 10) this
   rw[List.length_append]
   simp only[List.length_cons,List.length_nil]
   omega
theorem ziD(n:Nat):Lib.itoa (n:Int)=Lib.decDigits n:=by
 unfold Lib.itoa
 rw[if_neg (by omega),Int.toNat_natCast]
theorem zoI{m n:Nat}(h:Lib.itoa (m:Int)=Lib.itoa (n:Int)):m=n:=by
 rw[ziD,ziD]at h
 rw[<-zkU m,h,zkU]
theorem zfa(n:Nat):(32:UInt8) ∉ Lib.itoa (n:Int):=λh=>by
 rw[ziD]at h
 have:=zrE n _ h
 revert this
 decide
theorem zlo{n:Nat}(h:n<=4294967295):(Lib.itoa (n:Int)).length<=10:=by
 rw[ziD]
 exact zpM n 9 (by omega)
def spc(l:List Int):List UInt8:=l.flatMap λa=>32::Lib.itoa a
theorem ztV{x y s t:List UInt8}(hx:(32:UInt8) ∉ x)(hy:(32:UInt8) ∉ y)(h:x++32::s=y++32::t):x=y/\s=t:=by
 induction x generalizing y with
 |nil=>
  cases y with
  |nil=>exact⟨rfl,by injection h⟩
  |cons c y=>
   rw[List.nil_append,List.cons_append]at h
   injection h with h1 _
   exact absurd (by rw[<-h1];exact List.mem_cons_self ..) hy
 |cons c x ih=>
  cases y with
  |nil=>
   rw[List.nil_append,List.cons_append]at h
   injection h with h1 _
   exact absurd (by rw[h1];exact List.mem_cons_self ..) hx
  |cons c' y=>
   rw[List.cons_append,List.cons_append]at h
   injection h with h1 h2
   obtain⟨e1,e2⟩:=ih (λq=>hx (List.mem_cons_of_mem _ q)) (λq=>hy (List.mem_cons_of_mem _ q)) h2
   exact⟨by rw[h1,e1],e2⟩
theorem zmF{x y t:List UInt8}(hx:(32:UInt8) ∉ x)(h:x=y++32::t):False:=hx (by rw[h];exact List.mem_append_right _ (List.mem_cons_self ..))
theorem zrp:∀{l m:List Int} {x y:List UInt8},(∀a∈l,0<=a)->(∀a∈m,0<=a)->(32:UInt8) ∉ x->(32:UInt8) ∉ y->x++spc l=y++spc m->x=y/\l=m
 | [],[],x,y,_,_,_,_,h=>by
  unfold spc at h
  simp only[List.flatMap_nil,List.append_nil]at h
  exact⟨h,rfl⟩
 | [],b::m,x,y,_,_,hx,_,h=>by
  unfold spc at h
  simp only[List.flatMap_nil,List.append_nil,List.flatMap_cons,List.cons_append]at h
  exact(zmF hx h).elim
 |a::l,[],x,y,_,_,_,hy,h=>by
  unfold spc at h
  simp only[List.flatMap_nil,List.append_nil,List.flatMap_cons,List.cons_append]at h
  exact(zmF hy h.symm).elim
 |a::l,b::m,x,y,ha,hb,hx,hy,h=>by
  unfold spc at h
  simp only[List.flatMap_cons,List.cons_append]at h
  obtain⟨e1,e2⟩:=ztV hx hy h
  obtain⟨a,rfl⟩:=Int.eq_ofNat_of_zero_le (ha a (List.mem_cons_self ..))
  obtain⟨b,rfl⟩:=Int.eq_ofNat_of_zero_le (hb b (List.mem_cons_self ..))
  obtain⟨e3,e4⟩:=zrp (l:=l) (m:=m) (λc hc=>ha c (List.mem_cons_of_mem _ hc)) (λc hc=>hb c (List.mem_cons_of_mem _ hc)) (zfa a) (zfa b) e2
  exact⟨e1,by rw[zoI e3,e4]⟩
theorem ztU(l:List Int)(a:Int):spc (l++[a])=spc l++(32::Lib.itoa a):=by
 unfold spc
 rw[List.flatMap_append]
 simp
theorem zvc{l:List Int}(h:∀a∈l,0<=a/\a<=4294967295):(spc l).length<=11*l.length:=by
 induction l with
 |nil=>exact Nat.le_refl _
 |cons a r ih=>
  have:=ih λb hb=>h b (List.mem_cons_of_mem _ hb)
  have ha:=h a (List.mem_cons_self ..)
  obtain⟨n,rfl⟩:=Int.eq_ofNat_of_zero_le ha.1
  have h10:=zlo (n:=n) (by omega)
  unfold spc at this⊢
  rw[List.flatMap_cons,List.length_append,List.length_cons,List.length_cons]
  omega
def keyT(pl:List PI)(k:Nat):List UInt8:=Lib.itoa (ix pl k).1++spc (agN pl k)
def agOp(op:Int):Bool:=op==19||op==20||op==21||op==23||op==32||op==33
section
variable {pl:List PI} {k j:Nat}
theorem zmR(hp:PlOk pl)(hk:k<pl.length):∀a∈agN pl k,0<=a/\a<=4294967295:=λa ha=>by
 unfold agN at ha
 obtain⟨x,hx,rfl⟩:=List.mem_map.1 ha
 rw[zH hk]at hx
 exact(hp.nums _ (List.getElem_mem hk)).2.2 x hx
theorem zrc(hp:PlOk pl)(hk:k<pl.length)(hj:j<pl.length)(h1:0<=(ix pl k).1)(h2:0<=(ix pl j).1):keyT pl j=keyT pl k↔(ix pl j).1=(ix pl k).1/\agN pl j=agN pl k:=by
 unfold keyT
 constructor
 ·intro h
  obtain⟨a,ha⟩:=Int.eq_ofNat_of_zero_le h1
  obtain⟨b,hb⟩:=Int.eq_ofNat_of_zero_le h2
  rw[ha,hb]at h⊢
  obtain⟨e1,e2⟩:=zrp (λc hc=>(zmR hp hj c hc).1) (λc hc=>(zmR hp hk c hc).1) (zfa b) (zfa a) h
  exact⟨by rw[zoI e1],e2⟩
 ·rintro⟨e1,e2⟩
  rw[e1,e2]
theorem zs4(hp:PlOk pl)(hk:k<pl.length)(h:agOp (ix pl k).1=true):agnT pl k=true↔∃j,j<k/\agOp (ix pl j).1=true/\keyT pl j=keyT pl k:=by
 have hop:(ix pl k).1=19\/(ix pl k).1=20\/(ix pl k).1=21\/(ix pl k).1=23\/(ix pl k).1=32\/(ix pl k).1=33:=by
  unfold agOp at h
  simpa only[Bool.or_eq_true,beq_iff_eq,or_assoc] using h
 unfold agnT
 rw[bne_iff_ne.2 (by omega),bne_iff_ne.2 (by omega),Bool.true_and,Bool.true_and,List.any_eq_true]
 constructor
 ·rintro⟨j,hj,e⟩
  have hj:=List.mem_range.1 hj
  rw[Bool.and_eq_true,beq_iff_eq,beq_iff_eq]at e
  exact⟨j,hj,by rw[e.1];exact h,(zrc hp hk (by omega) (by omega) (by omega)).2 e⟩
 ·rintro⟨j,hj,hja,e⟩
  have hop2:(ix pl j).1=19\/(ix pl j).1=20\/(ix pl j).1=21\/(ix pl j).1=23\/(ix pl j).1=32\/(ix pl j).1=33:=by
   unfold agOp at hja
   simpa only[Bool.or_eq_true,beq_iff_eq,or_assoc] using hja
  refine⟨j,List.mem_range.2 hj,?_⟩
  rw[Bool.and_eq_true,beq_iff_eq,beq_iff_eq]
  exact(zrc hp hk (by omega) (by omega) (by omega)).1 e
end
def Tab (w : World) : Prop := Lib.TabIs Tryz.prog w "internal/strconv.uint64pow10" .u64 Lib.pow10Tab
theorem gTab : Tryz.prog.globalNamed "internal/strconv.uint64pow10" = some 0 := by kernel_rfl
theorem Tab.below{w w':World}(h:Tab w)(hb:Below w.heap.size w w'):Tab w':=by
 unfold Tab Lib.TabIs World.var? at h⊢
 rw[gTab]at h⊢
 have h:(match w.heap[0]? with |some (.cells cs _ _)=>some cs |_=>none)=_:=h
 have hlt:0<w.heap.size:=by
  refine Classical.byContradiction λhn=>?_
  rw[Array.getElem?_eq_none (by omega)]at h
  cases h
 show(match w'.heap[0]? with |some (.cells cs _ _)=>some cs |_=>none)=_
 rw[hb.block _ hlt]
 exact h
theorem zlY{n:Int}{w:World}{R:VWP}(h0:-9223372036854775808<=n)(h1:n<=9223372036854775807)(ht:Tab w)(hR:∀w',Below w.heap.size w w'->R (.string ⟨(Lib.itoa n).toArray⟩) w'):cR 99 #[.int .i64 n] w R:=by
 refine(Any.strconv_Itoa Tryz.lays171 n h0 h1 w ht).mono λe w' h=>?_
 obtain⟨rfl,k,os,rfl⟩:=h
 refine hR _ ⟨rfl,rfl,rfl,?_,λi hi=>?_⟩
 ·show w.heap.size<=(w.heap++os).size
  rw[Array.size_append]
  omega
 ·show(w.heap++os)[i]? =w.heap[i]?
  rw[Array.getElem?_append_left hi]
end Go.Proofs
namespace Go.Proofs.YtnpdnjmpmeikiaaGreatDoor
open Go.ChangeShapes Go.WideShapes Go.RowKit Go.Gk
namespace Jd
theorem gt:(Tryz.prog.globals[0]?).map (·.type)=some 288:=by kernel_rfl
theorem c20:Tryz.prog.cellsOf 288=20:=by kernel_rfl
theorem c1:Tryz.prog.cellsOf 230=1:=by kernel_rfl
theorem tab {W : World} (h : laidMetH Tryz.prog [("math/bits.deBruijn32tab", Rows.laid_math_bits_deBruijn32tab), ("math/bits.deBruijn64tab", Rows.laid_math_bits_deBruijn64tab), ("internal/strconv.uint64pow10", Rows.laid_internal_strconv_uint64pow10)] W) : Tab W := by
 have h1 : laidMet Tryz.prog [("math/bits.deBruijn32tab", Rows.laid_math_bits_deBruijn32tab), ("math/bits.deBruijn64tab", Rows.laid_math_bits_deBruijn64tab), ("internal/strconv.uint64pow10", Rows.laid_internal_strconv_uint64pow10)] W := h
 exact Lib.tabIs_of_head (rest:=[]) gTab gt Tryz.underlying288 Tryz.underlying230 c1 c20 h1.tail.tail
noncomputable def laidWorld(os:Os):World:=
 {World.holding Tryz.prog os ⟨#[],#[],[]⟩ with heap:=((((World.holding Tryz.prog os ⟨#[],#[],[]⟩).heap.modify 1 λ| .cells _ t fz=>.cells #[.int .u8 0,.int .u8 1,.int .u8 28,.int .u8 2,.int .u8 29,.int .u8 14,.int .u8 24,.int .u8 3,.int .u8 30,.int .u8 22,.int .u8 20,.int .u8 15,.int .u8 25,.int .u8 17,.int .u8 4,.int .u8 8,.int .u8 31,.int .u8 27,.int .u8 13,.int .u8 23,.int .u8 21,.int .u8 19,.int .u8 16,.int .u8 7,.int .u8 26,.int .u8 12,.int .u8 18,.int .u8 6,.int .u8 11,.int .u8 5,.int .u8 10,.int .u8 9] t fz |o=>o).modify 2 λ| .cells _ t fz=>.cells #[.int .u8 0,.int .u8 1,.int .u8 56,.int .u8 2,.int .u8 57,.int .u8 49,.int .u8 28,.int .u8 3,.int .u8 61,.int .u8 58,.int .u8 42,.int .u8 50,.int .u8 38,.int .u8 29,.int .u8 17,.int .u8 4,.int .u8 62,.int .u8 47,.int .u8 59,.int .u8 36,.int .u8 45,.int .u8 43,.int .u8 51,.int .u8 22,.int .u8 53,.int .u8 39,.int .u8 33,.int .u8 30,.int .u8 24,.int .u8 18,.int .u8 12,.int .u8 5,.int .u8 63,.int .u8 55,.int .u8 48,.int .u8 27,.int .u8 60,.int .u8 41,.int .u8 37,.int .u8 16,.int .u8 46,.int .u8 35,.int .u8 44,.int .u8 21,.int .u8 52,.int .u8 32,.int .u8 23,.int .u8 11,.int .u8 54,.int .u8 26,.int .u8 40,.int .u8 15,.int .u8 34,.int .u8 20,.int .u8 31,.int .u8 10,.int .u8 25,.int .u8 14,.int .u8 19,.int .u8 9,.int .u8 13,.int .u8 8,.int .u8 7,.int .u8 6] t fz |o=>o).modify 0 λ| .cells _ t fz=>.cells #[.int .u64 1,.int .u64 10,.int .u64 100,.int .u64 1000,.int .u64 10000,.int .u64 100000,.int .u64 1000000,.int .u64 10000000,.int .u64 100000000,.int .u64 1000000000,.int .u64 10000000000,.int .u64 100000000000,.int .u64 1000000000000,.int .u64 10000000000000,.int .u64 100000000000000,.int .u64 1000000000000000,.int .u64 10000000000000000,.int .u64 100000000000000000,.int .u64 1000000000000000000,.int .u64 10000000000000000000] t fz |o=>o)}
end Jd
end Go.Proofs.YtnpdnjmpmeikiaaGreatDoor
namespace Go.Proofs
open Go.Gk
set_option linter.unusedVariables false
set_option maxRecDepth 100000
def zcF:Ann:=(.q (.q .nil))
def zc7(p0:Int)(R:VWP)(w:World):Prop:=Nw (w.alloc (.cells #[zb 0,zu 0,.string (BM #[])] 123)) λw1=>dn w1 (zB w) (zb 4) (zu p0) (.string (BM #[])) λw4=>dm w4 (zB w) λx1 x2 x3=>R (.agg #[zb x1,zu x2,.string x3]) w4
theorem zeX(p0)(R)(w)(h:zc7 p0 R w):Calls Tryz.prog 68 #[.int .u32 p0] w (Ret R):=lwC zcF Tryz.func68 (by kernel_rfl) (by kernel_rfl) h
def zeg:Ann:=(.q (.q .nil))
def zdX(p0:Int)(R:VWP)(w:World):Prop:=Nw (w.alloc (.cells #[zb 0,zu 0,.string (BM #[])] 123)) λw1=>dn w1 (zB w) (zb 1) (zu p0) (.string (BM #[])) λw4=>dm w4 (zB w) λx1 x2 x3=>R (.agg #[zb x1,zu x2,.string x3]) w4
theorem zgj(p0)(R)(w)(h:zdX p0 R w):Calls Tryz.prog 69 #[.int .u32 p0] w (Ret R):=lwC zeg Tryz.func69 (by kernel_rfl) (by kernel_rfl) h
def zcH:Ann:=(.q (.q .nil))
def zc9(p0:ByteArray)(R:VWP)(w:World):Prop:=Nw (w.alloc (.cells #[zb 0,zu 0,.string (BM #[])] 123)) λw1=>dn w1 (zB w) (zb 3) (zu 0) (.string p0) λw4=>dm w4 (zB w) λx1 x2 x3=>R (.agg #[zb x1,zu x2,.string x3]) w4
theorem zeZ(p0)(R)(w)(h:zc9 p0 R w):Calls Tryz.prog 70 #[.string p0] w (Ret R):=lwC zcH Tryz.func70 (by kernel_rfl) (by kernel_rfl) h
def zaV:Ann:=(.q (.q .nil))
def zaH(p0:Int)(R:VWP)(w:World):Prop:=Nw (w.alloc (.cells #[zb 0,zu 0,.string (BM #[])] 123)) λw1=>dn w1 (zB w) (zb 2) (zu p0) (.string (BM #[])) λw4=>dm w4 (zB w) λx1 x2 x3=>R (.agg #[zb x1,zu x2,.string x3]) w4
theorem zdM(p0)(R)(w)(h:zaH p0 R w):Calls Tryz.prog 71 #[.int .u32 p0] w (Ret R):=lwC zaV Tryz.func71 (by kernel_rfl) (by kernel_rfl) h
end Go.Proofs
