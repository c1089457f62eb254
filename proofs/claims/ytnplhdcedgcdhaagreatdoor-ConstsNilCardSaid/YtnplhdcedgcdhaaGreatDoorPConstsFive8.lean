/- ConstsFive, part 8; made small by a program. -/
import Derived.Laws.CopyRow
import Derived.Test.YtnplhdcedgcdhaaGreatDoorProg
import Derived.Test.YtnplhdcedgcdhaaGreatDoorPConstsFive7
set_option linter.unusedVariables false
namespace Go.Proofs
open Go.Gk Go.RowKit Go.Gm
section
variable {w w':World} {A:Nat->Prop} {tb k:Nat} {T:TyL} {R:VWP} {pl:List PI} {t:Sl} {bd:Int} {x:Mo}
theorem zpt{l:List Int}(tp:Tp):(whT tp (sumT T l) (zO T l)).2=fitE T l:=by
 unfold whT fitE
 split
 ·rfl
 ·split<;>rfl
theorem zq4{w0 wb:World}{b bo:Nat}{cs:List Value}{kd:Int}{r:Sl}{D:List Int}{tp:Tp}(h:Bx wb w b kd r D)(hRt:IsRt w A tb T)(hT:TbOk T)(hT0:zv T 0=none)(hD:∀p∈D,0<(tA T p).size)(hO:Blk w bo 115 cs)(hl:cs.length=5)(hw:Below w0.heap.size w0 w)(hb:w0.heap.size<=bo)(hbo:bo<wb.heap.size)
  (hp:fitE T D=0->tp.kind=kd/\tp.sg=false/\tp.cls=0/\tp.full=D) (hR:RdR R w0 (tp,fitE T D)) :
  ldI w.drew ((blk b).add 0) .u32 λx28=>ldI w.drew ((blk b).add 1) .u8 λx29=>ldB w.drew ((blk b).add 2) λx30=>ldI w.drew ((blk b).add 3) .u32 λx31=>ldS w.drew ((blk b).add 4) λx32=>
   ldI w.drew ((blk b).add 0) .u32 λx33=>ldI w.drew ((blk b).add 1) .u8 λx34=>ldB w.drew ((blk b).add 2) λx35=>ldI w.drew ((blk b).add 3) .u32 λx36=>ldS w.drew ((blk b).add 4) λx37=>
   cR 141 #[(.pointer (some (blk tb))),(.agg #[(.int .u32 x33),(.int .u8 x34),(.bool x35),(.int .u32 x36),(.slice x37.a x37.l x37.c)])] w.drew λv38 w26=>
   ∃x39:Int,v38=(.int .i64 x39)/\w26.cell? ((blk b).add 0)=some (.int .u32 x28)/\w26.cell? ((blk b).add 1)=some (.int .u8 x29)/\w26.cell? ((blk b).add 2)=some (.bool x30)/\w26.cell? ((blk b).add 3)=some (.int .u32 x31)/\w26.cell? ((blk b).add 4)=some (.slice x32.a x32.l x32.c)/\
   Wr w26 (blk bo)/\Nw (w26.setCell (blk bo) (.int .u32 x28)) λw1=>Wr w1 ((blk bo).add 1)/\Nw (w1.setCell ((blk bo).add 1) (.int .u8 x29)) λw2=>Wr w2 ((blk bo).add 2)/\Nw (w2.setCell ((blk bo).add 2) (.bool x30)) λw3=>Wr w3 ((blk bo).add 3)/\Nw (w3.setCell ((blk bo).add 3) (.int .u32 x31)) λw4=>Wr w4 ((blk bo).add 4)/\Nw (w4.setCell ((blk bo).add 4) (.slice x32.a x32.l x32.c)) λw5=>
   ldI w5 ((blk bo).add 0) .u32 λx1=>ldI w5 ((blk bo).add 1) .u8 λx2=>ldB w5 ((blk bo).add 2) λx3=>ldI w5 ((blk bo).add 3) .u32 λx4=>ldS w5 ((blk bo).add 4) λx5=>R (.tuple #[.agg #[.int .u32 x1,.int .u8 x2,.bool x3,.int .u32 x4,.slice x5.a x5.l x5.c],.int .i64 x39]) w5:=by
 have bd:Below w.heap.size w w.drew:=(Below.refl _ _).drew
 have hd:=h.on bd
 refine Rv.load (v:=(0,kd,false,0,r,())) hd.blk (Rv.load (v:=(0,kd,false,0,r,())) hd.blk ?_)
 refine znX (v:=(0,kd,false,0,r,())) (l:=D) (hRt.below bd) hT hT0 hd.wl.own.isS hD λw26 b26=>?_
 have h26:=hd.on b26
 refine⟨_,rfl,h26.blk.cell (n:=0) rfl,h26.blk.cell (n:=1) rfl,h26.blk.cell (n:=2) rfl,h26.blk.cell (n:=3) rfl,h26.blk.cell (n:=4) rfl,?_⟩
 have b2:=bd.on b26
 exact zqr (p:=(tp,fitE T D)) h26 (hO.below b2) hl (hw.on b2) hb hbo hp hR
theorem zmJ{i:Ins}{al:List Ag}{at_:Nat}(h:IsRt w A tb T)(hT:TbOk T)(hT0:zv T 0=none)(hN:IsPl w x.2.2.1 pl)(hp:PlOk pl)(hs:(zF bd pl).1=0)(hf:∀j,j<pl.length->fltP pl j=0)(hat:at_<=pl.length)(hI:IsAg w i.2.2.2.1 al)(hl:al.length=2)(h1:(al.getD 1 ag0).2.1≠0)
  (hR:RdR R w (arrT T (mdP pl (al.getD 1 ag0).2.1 at_) (al.getD 0 ag0).2.1)):cR 107 #[.pointer (some (blk tb)),moA x,inA i,.int .i64 (at_:Int)] w R:=by
 refine za.of (YT _ x i at_ R w ?_) λ_ _ h=>h
 refine zm λw1 hB1 b1 z1=>zm λw2 hX2 b2 z2=>zm λw3 hO3 b3 z3=>?_
 have hB3:Blk w3 w.heap.size 25 (moV x):=Blk.below hB1 (b2.on b3)
 have hX3:Blk w3 w1.heap.size 52 (inV i):=Blk.below hX2 b3
 have hO3:Blk w3 w2.heap.size 115 (rvV rv0):=hO3
 have b03:=b1.on (b2.on b3)
 have s2:w.heap.size<=w2.heap.size:=(b1.on b2).size
 have hI3:IsAg w3 i.2.2.2.1 al:=IsC.below zG hI b03
 generalize hn0:(al.getD 0 ag0).2.1=part at hR
 generalize hn1:(al.getD 1 ag0).2.1=lid at hR h1
 obtain⟨q1,q2⟩:=zr6 (T:=T) hp hs hf (id:=lid) hat
 unfold arrT at hR
 refine hX3.rS (n:=3) (x:=i.2.2.2.1) rfl (argN hI3 (j:=0) (by omega) ?_)
 rw[hn0]
 refine yE (h.below b03) hT λw4 b4=>⟨_,rfl,zH (zk (λg=>?_) (λg=>?_))⟩
 rotate_left
 ·rw[if_pos (by omega)]at hR
  exact zb5 (hO3.below b4) rfl (b03.on b4) s2 (by decide) hR
 rw[if_neg (by omega)]at hR
 have b4d:=b4.drew
 have b04d:=b03.on b4d
 have hI4:IsAg w4.drew i.2.2.2.1 al:=IsC.below zG hI b04d
 refine Mo.load (hB3.below b4d) ((hX3.below b4d).rS (n:=3) (x:=i.2.2.2.1) rfl (argN hI4 (j:=1) (by omega) ?_))
 rw[hn1]
 refine zlR (x:=x) (h.below b04d) (hN.below b04d) hp hs h1 hat λw10 b10=>⟨_,rfl,zj (λg2=>?_) (λg2=>?_)⟩
 ·rw[if_pos (q1.1 g2)]at hR
  exact zb5 ((hO3.below b4d).below b10) rfl (b04d.on b10) s2 (by decide) hR
 have hbad:=λq=>g2 (q1.2 q)
 have hlen:=q2 g2
 rw[if_neg hbad]at hR
 have b010:=b04d.on b10
 have hO10:=(hO3.below b4d).below b10
 have lt2:w2.heap.size<w10.heap.size:=hO10.lt
 have h10:=h.below b010
 have hr1:1<=cN (mdP pl lid at_):=by
  have:¬cN (mdP pl lid at_)<1:=λq=>hbad (.inr (.inr (.inl q)))
  omega
 have hr2:cN (mdP pl lid at_)<=4096:=by
  have:¬4096<cN (mdP pl lid at_):=λq=>hbad (.inr (.inr (.inr q)))
  omega
 rw[hlen]
 generalize cN (mdP pl lid at_)=c at hR hr1 hr2
 obtain⟨n,rfl⟩:=Int.eq_ofNat_of_zero_le (show 0<=c by omega)
 rw[Int.toNat_natCast]at hR
 refine Bx.new λw21 hB21=>?_
 refine zn.ghost (λm (st:Int×Unit) w'=>∃(j:Nat) (r:Sl),st=((j:Int),())/\j<=n/\m=n-j/\Bx w10 w' w10.heap.size 5 r (List.replicate j part)) n ⟨0,_,rfl,Nat.zero_le _,rfl,hB21⟩ ?_
 rintro _ _ w22 ⟨j,r,rfl,hj,rfl,hB⟩ next hnext
 refine zk (λg3=>?_) (λg3=>?_)
 ·have hjn:j<n:=by dsimp only at g3;omega
  refine hB.blk.rS (n:=4) (x:=r) rfl (zm λw23 hE b23 z23=>?_)
  have hE:Blk w23 w22.heap.size 22 [.int .u32 part]:=hE
  refine(hB.on b23).app hE (by rw[List.length_replicate];omega) λr' w25 hB25 _=>?_
  dsimp only
  rw[zz (by omega)]
  refine hnext (n-(j+1)) _ w25 (by omega) ⟨j+1,r',rfl,by omega,rfl,?_⟩
  rw[<-zl6]
  exact hB25
 ·have hje:j=n:=by dsimp only at g3;omega
  subst hje
  have b22:=hB.wl.below
  have hD:∀p∈List.replicate j part,0<(tA T p).size:=λp hp'=>by rw[(List.mem_replicate.1 hp').2];exact g
  have e1:j*(tA T part).size=sumT T (List.replicate j part):=(zkI T part j).symm
  have e2:(tA T part).depth=zO T (List.replicate j part):=(ziu T part j (by omega)).symm
  rw[e1,e2]at hR
  have e3:=zpt (T:=T) (l:=List.replicate j part) {tp0 with kind:=5,part:=part,times:=j}
  refine zq4 (tp:=(whT {tp0 with kind:=5,part:=part,times:=j} (sumT T (List.replicate j part)) (zO T (List.replicate j part))).1) hB (h10.below b22) hT hT0 hD (hO10.below b22) rfl (b010.on b22) s2 lt2 (λq=>?_) (by rw[<-e3];exact hR)
  rw[(zkN (by rw[e3];exact q)).1]
  refine⟨rfl,rfl,rfl,?_⟩
  unfold Tp.full
  exact if_pos (by show 0<j;omega)
theorem zkS{i:Ins}{al:List Ag}(h:IsRt w A tb T)(hT:TbOk T)(hT0:zv T 0=none)(hI:IsAg w i.2.2.2.1 al)(hR:RdR R w (memT T (al.map λa=>a.2.1))):cR 108 #[.pointer (some (blk tb)),inA i] w R:=by
 refine za.of (Y0 _ i R w ?_) λ_ _ h=>h
 refine zm λw1 hX1 b1 z1=>zm λw2 hO2 b2 z2=>?_
 have hX2:Blk w2 w.heap.size 52 (inV i):=Blk.below hX1 b2
 have hO2:Blk w2 w1.heap.size 115 (rvV rv0):=hO2
 have b02:=b1.on b2
 have s1:=b1.size
 have hal:=hI.len
 unfold memT at hR
 rw[List.length_map]at hR
 refine zl.cut (λ(_:Unit) w'=>w2=w'/\¬(al.length<1\/256<al.length)) ?_ ?_
 ·refine hX2.rS (n:=3) (x:=i.2.2.2.1) rfl (zj (λg=>?_) (λg=>hX2.rS (n:=3) (x:=i.2.2.2.1) rfl (zk (λg2=>?_) (λg2=>⟨rfl,by omega⟩))))
  ·rw[if_pos (.inl (by omega))]at hR
   exact zb5 hO2 rfl b02 s1 (by decide) hR
  ·rw[if_pos (.inr (by omega))]at hR
   exact zb5 hO2 rfl b02 s1 (by decide) hR
 rintro _ w13 ⟨rfl,g⟩
 rw[if_neg g]at hR
 have lt2:w1.heap.size<w2.heap.size:=hO2.lt
 have h2:=h.below b02
 have bxs:∀j,j<al.length->(al.map λa=>a.2.1).take (j+1)=(al.map λa=>a.2.1).take j++[(al.getD j ag0).2.1]:=λj hj=>by
  rw[List.take_succ_eq_append_getElem (by rw[List.length_map];exact hj),List.getElem_map,zA hj]
 refine Bx.new λw19 hB19=>?_
 refine zn.ghost (λm (st:Int×Unit) w'=>∃(j:Nat) (r:Sl),st=((j:Int),())/\j<=al.length/\m=al.length-j/\Bx w2 w' w2.heap.size 6 r ((al.map λa=>a.2.1).take j)/\∀p∈(al.map λa=>a.2.1).take j,0<(tA T p).size) al.length ⟨0,_,rfl,Nat.zero_le _,rfl,by rw[List.take_zero];exact hB19,λp hp=>by rw[List.take_zero]at hp;cases hp⟩ ?_
 rintro _ _ w20 ⟨j,r,rfl,hj,rfl,hB,hD⟩ next hnext
 have b20:=hB.wl.below
 have hX20:=hX2.below b20
 have hI20:IsAg w20 i.2.2.2.1 al:=IsC.below zG hI (b02.on b20)
 refine hX20.rS (n:=3) (x:=i.2.2.2.1) rfl (zk (λg3=>?_) (λg3=>?_))
 ·have hjl:j<al.length:=by dsimp only at g3;omega
  refine hX20.rS (n:=3) (x:=i.2.2.2.1) rfl (argN hI20 (j:=j) hjl ?_)
  refine yE (h2.below b20) hT λw21 b21=>⟨_,rfl,zH (zk (λg4=>?_) (λg4=>?_))⟩
  rotate_left
  ·have:(al.map λa=>a.2.1).any (λp=>(tA T p).size==0)=true:=List.any_eq_true.2 ⟨(al.getD j ag0).2.1,by rw[zA hjl];exact List.mem_map.2 ⟨_,List.getElem_mem hjl,rfl⟩,by rw[beq_iff_eq];omega⟩
   rw[if_pos this]at hR
   exact zb5 ((hO2.below b20).below b21) rfl ((b02.on b20).on b21) s1 (by decide) hR
  have b21d:=b21.drew
  have hBd:=hB.on b21d
  have b20d:=b20.on b21d
  refine hBd.blk.rS (n:=4) (x:=r) rfl ((hX20.below b21d).rS (n:=3) (x:=i.2.2.2.1) rfl (argN (IsC.below zG hI20 b21d) (j:=j) hjl (zm λw27 hE b27 z27=>?_)))
  have hE:Blk w27 w21.drew.heap.size 22 [.int .u32 (al.getD j ag0).2.1]:=hE
  have hB27:=hBd.on b27
  refine⟨hB27.blk.cell (n:=4) rfl,hB27.app hE (by rw[List.length_take];omega) λr' w29 hB29 _=>?_⟩
  dsimp only
  rw[zz (by omega)]
  refine hnext (al.length-(j+1)) _ w29 (by omega) ⟨j+1,r',rfl,by omega,rfl,?_,?_⟩
  ·rw[bxs j hjl]
   exact hB29
  ·rw[bxs j hjl]
   intro p hp
   rcases List.mem_append.1 hp with hp |hp
   ·exact hD p hp
   ·rw[List.mem_singleton.1 hp]
    exact g4
 ·have hje:j=al.length:=by dsimp only at g3;omega
  subst hje
  rw[show(al.map λa=>a.2.1).take al.length=al.map λa=>a.2.1 from List.take_of_length_le (by rw[List.length_map];exact Nat.le_refl _)]at hB hD
  have hno:¬(al.map λa=>a.2.1).any (λp=>(tA T p).size==0)=true:=λq=>by
   obtain⟨p,p1,p2⟩:=List.any_eq_true.1 q
   have:=hD p p1
   rw[beq_iff_eq]at p2
   omega
  rw[if_neg hno]at hR
  have e3:=zpt (T:=T) (l:=al.map λa=>a.2.1) {tp0 with kind:=6,ps:=al.map λa=>a.2.1}
  refine zq4 (tp:=(whT {tp0 with kind:=6,ps:=al.map λa=>a.2.1} (sumT T (al.map λa=>a.2.1)) (zO T (al.map λa=>a.2.1))).1) hB (h2.below b20) hT hT0 hD (hO2.below b20) rfl (b02.on b20) s1 lt2 (λq=>?_) (by rw[<-e3];exact hR)
  rw[(zkN (by rw[e3];exact q)).1]
  exact⟨rfl,rfl,rfl,rfl⟩
theorem zkm{i:Ins}{al:List Ag}(h:IsRt w A tb T)(hT:TbOk T)(hI:IsAg w i.2.2.2.1 al)(hm:al.length<=65535)(hR:RdR R w (fnT T (al.map λa=>a.2.1))):cR 109 #[.pointer (some (blk tb)),inA i] w R:=by
 refine za.of (Yd _ i R w ?_) λ_ _ h=>h
 refine zm λw1 hX1 b1 z1=>zm λw2 hO2 b2 z2=>?_
 have hX2:Blk w2 w.heap.size 52 (inV i):=Blk.below hX1 b2
 have hO2:Blk w2 w1.heap.size 115 (rvV rv0):=hO2
 have b02:=b1.on b2
 have s1:=b1.size
 have hal:=hI.len
 unfold fnT at hR
 rw[List.length_map]at hR
 have eN:∀j,j<al.length->(al.map λa=>a.2.1).getD j 0=(al.getD j ag0).2.1:=λj hj=>by
  rw[zA (by rw[List.length_map];exact hj),List.getElem_map,zA hj]
 have lt2:w1.heap.size<w2.heap.size:=hO2.lt
 have h2:=h.below b02
 have bxs:∀j,j<al.length->(al.map λa=>a.2.1).take (j+1)=(al.map λa=>a.2.1).take j++[(al.getD j ag0).2.1]:=λj hj=>by
  rw[List.take_succ_eq_append_getElem (by rw[List.length_map];exact hj),List.getElem_map,zA hj]
 refine Bx.new λw8 hB8=>?_
 refine zn.ghost (λm (st:Int×Unit) w'=>∃(j:Nat) (r:Sl),st=((j:Int),())/\j<=al.length/\m=al.length-j/\Bx w2 w' w2.heap.size 8 r ((al.map λa=>a.2.1).take j)/\∀q,q<j->¬((tA T (al.getD q ag0).2.1).size=0/\(tA T (al.getD q ag0).2.1).kind≠othK q)) al.length ⟨0,_,rfl,Nat.zero_le _,rfl,by rw[List.take_zero];exact hB8,λq hq=>by omega⟩ ?_
 rintro _ _ w9 ⟨j,r,rfl,hj,rfl,hB,hD⟩ next hnext
 have b9:=hB.wl.below
 have hX9:=hX2.below b9
 have hI9:IsAg w9 i.2.2.2.1 al:=IsC.below zG hI (b02.on b9)
 refine hX9.rS (n:=3) (x:=i.2.2.2.1) rfl (zk (λg3=>?_) (λg3=>?_))
 ·have hjl:j<al.length:=by dsimp only at g3;omega
  refine hX9.rS (n:=3) (x:=i.2.2.2.1) rfl (argN hI9 (j:=j) hjl ?_)
  generalize hP:(al.getD j ag0).2.1=p
  have h9:=h2.below b9
  refine zl.cut (λ(st:Bool×Unit) w'=>st=(!decide ((tA T p).size=0/\(tA T p).kind≠othK j),())/\Below w9.heap.size w9 w') ?_ ?_
  ·refine yE h9 hT λw10 b10=>⟨_,rfl,zk (λg4=>⟨?_,b10⟩) (λg4=>?_)⟩
   ·rw[decide_eq_false (λq=>by omega)]
    rfl
   ·have hz:(tA T p).size=0:=by omega
    refine zj (λg5=>?_) (λg5=>?_)
    ·have hj0:j=0:=by dsimp only at g5;omega
     refine Ya (h9.below b10) λw11 b11=>⟨_,rfl,zj (λg6=>⟨?_,b10.on b11⟩) (λg6=>zk (λg7=>absurd g7 (by dsimp only;omega)) (λ_=>⟨?_,b10.on b11⟩))⟩
     ·rw[decide_eq_false (λq=>q.2 (by rw[g6,hj0];rfl))]
      rfl
     ·rw[decide_eq_true (⟨hz,by rw[hj0];exact g6⟩:(tA T p).size=0/\(tA T p).kind≠othK j)]
      rfl
    ·have hj0:j≠0:=by dsimp only at g5;omega
     refine zk (λ_=>Ya (h9.below b10) λw13 b13=>⟨_,rfl,?_,b10.on b13⟩) (λg7=>absurd (by dsimp only;omega) g7)
     have e7:othK j=7:=if_neg hj0
     rw[e7]
     by_cases e:(tA T p).kind=7
     ·rw[decide_eq_false (λq=>q.2 e),e]
      rfl
     ·rw[decide_eq_true (⟨hz,e⟩:(tA T p).size=0/\(tA T p).kind≠7),beq_eq_false_iff_ne.2 e]
      rfl
  rintro _ w14 ⟨rfl,b14⟩
  refine zH (zC (λg4=>?_) (λg4=>?_))
  ·have g4:¬((tA T p).size=0/\(tA T p).kind≠othK j):=λq=>by
    dsimp only at g4
    rw[decide_eq_true q]at g4
    cases g4
   have hB14:=hB.on b14
   refine hB14.blk.rS (n:=4) (x:=r) rfl (zm λw20 hE b20 z20=>?_)
   have hE:Blk w20 w14.heap.size 22 [.int .u32 p]:=hE
   refine(hB14.on b20).app hE (by rw[List.length_take];omega) λr' w22 hB22 _=>?_
   dsimp only
   rw[zz (by omega)]
   refine hnext (al.length-(j+1)) _ w22 (by omega) ⟨j+1,r',rfl,by omega,rfl,?_,λq hq=>?_⟩
   ·rw[bxs j hjl,hP]
    exact hB22
   ·by_cases e:q=j
    ·subst e
     rw[hP]
     exact g4
    ·exact hD q (by omega)
  ·have g4:(tA T p).size=0/\(tA T p).kind≠othK j:=Classical.byContradiction λq=>by
    dsimp only at g4
    rw[decide_eq_false q]at g4
    cases g4
   have:(List.range al.length).any (λi=>(tA T ((al.map λa=>a.2.1).getD i 0)).size==0&&(tA T ((al.map λa=>a.2.1).getD i 0)).kind !=othK i)=true:=List.any_eq_true.2 ⟨j,List.mem_range.2 hjl,by rw[eN j hjl,hP];simp[g4.1,g4.2]⟩
   rw[if_pos this]at hR
   exact zb5 ((hO2.below b9).below b14) rfl ((b02.on b9).on b14) s1 (by decide) hR
 ·have hje:j=al.length:=by dsimp only at g3;omega
  subst hje
  rw[show(al.map λa=>a.2.1).take al.length=al.map λa=>a.2.1 from List.take_of_length_le (by rw[List.length_map];exact Nat.le_refl _)]at hB
  have hno:¬(List.range al.length).any (λi=>(tA T ((al.map λa=>a.2.1).getD i 0)).size==0&&(tA T ((al.map λa=>a.2.1).getD i 0)).kind !=othK i)=true:=λq=>by
   obtain⟨m,m1,m2⟩:=List.any_eq_true.1 q
   have m1:=List.mem_range.1 m1
   rw[eN m m1,Bool.and_eq_true,beq_iff_eq,bne_iff_ne]at m2
   exact hD m m1 m2
  rw[if_neg hno]at hR
  refine Rv.load (v:=(0,8,false,0,r,())) hB.blk ?_
  exact zqr (p:=({tp0 with kind:=8,ps:=al.map λa=>a.2.1},0)) hB (hO2.below b9) rfl (b02.on b9) s1 lt2 (λ_=>⟨rfl,rfl,rfl,rfl⟩) hR
end
end Go.Proofs
namespace Go.Proofs
open Go.Gk Go.RowKit Go.Gm
section
variable {w w':World} {A:Nat->Prop} {tb k:Nat} {T:TyL} {R:VWP} {pl:List PI} {t:Sl} {bd:Int} {x:Mo}
theorem zn7{w0 w7:World}{bo:Nat}{cs:List Value}{v:Rv}{p:Tp×Int}(hO:Blk w bo 115 cs)(hl:cs.length=5)(hv:p.2=0->RvOk (λb=>w7.heap.size<=b) w v p.1)(hbo:bo<w7.heap.size)(h07:w0.heap.size<=w7.heap.size)(hw:Below w0.heap.size w0 w)(hb:w0.heap.size<=bo)(hR:RdR R w0 p) :
  Wr w (blk bo)/\Nw (w.setCell (blk bo) (.int .u32 v.1)) λw1=>Wr w1 ((blk bo).add 1)/\Nw (w1.setCell ((blk bo).add 1) (.int .u8 v.2.1)) λw2=>Wr w2 ((blk bo).add 2)/\Nw (w2.setCell ((blk bo).add 2) (.bool v.2.2.1)) λw3=>Wr w3 ((blk bo).add 3)/\Nw (w3.setCell ((blk bo).add 3) (.int .u32 v.2.2.2.1)) λw4=>Wr w4 ((blk bo).add 4)/\Nw (w4.setCell ((blk bo).add 4) (.slice v.2.2.2.2.1.a v.2.2.2.2.1.l v.2.2.2.2.1.c)) λw5=>
   ldI w5 ((blk bo).add 0) .u32 λx1=>ldI w5 ((blk bo).add 1) .u8 λx2=>ldB w5 ((blk bo).add 2) λx3=>ldI w5 ((blk bo).add 3) .u32 λx4=>ldS w5 ((blk bo).add 4) λx5=>R (.tuple #[.agg #[.int .u32 x1,.int .u8 x2,.bool x3,.int .u32 x4,.slice x5.a x5.l x5.c],.int .i64 p.2]) w5:=
 zgg hO hl hw hb (λq w' c=>(hv q).keep (λb q1 _=>⟨c.block b (by omega),by omega⟩) (by rw[c.size];exact Nat.le_refl _)) hR
set_option maxHeartbeats 1000000 in
theorem zp7{p:Tp×Int}(h:IsRt w A tb T)(hT:TbOk T)(hT0:zv T 0=none)(hN:IsPl w x.2.2.1 pl)(hp:PlOk pl)(hs:(zF bd pl).1=0)(hf:∀j,j<pl.length->fltP pl j=0)(hk:k<pl.length)(ho:oneT T pl k=some p)(hR:RdR R w p) :
  cR 75 #[.pointer (some (blk tb)),moA x,.int .i64 (k:Int)] w R:=by
 refine za.of (zbw _ x k R w ?_) λ_ _ h=>h
 have hix:=zK hk
 have hnl:=hN.len
 refine zm λw1 hB1 b1 z1=>zm λw2 hO2 b2 z2=>?_
 have hB2:Blk w2 w.heap.size 25 (moV x):=Blk.below hB1 b2
 have hO2:Blk w2 w1.heap.size 115 (rvV rv0):=hO2
 have b02:=b1.on b2
 have s1:=b1.size
 refine hB2.rS (n:=2) (x:=x.2.2.1) rfl (YF hN b02 hk λt hI0=>box4 rfl λw7 hI7 b7 z7=>?_)
 have hI7:Blk w7 w2.heap.size 52 (inV (mkIn pl[k] t)):=hI7
 have b07:=b02.on b7
 have hO7:=hO2.below b7
 have hB7:=hB2.below b7
 have h7:=h.below b07
 have hA7:IsAg w7 t pl[k].2.2.2:=IsC.below zG hI0 b07
 have lt7:w1.heap.size<w7.heap.size:=hO7.lt
 have s7:=b07.size
 have eO:(ix pl k).1=pl[k].1:=by rw[hix]
 have eL:(ix pl k).2.2.2=pl[k].2.2.2:=by rw[hix]
 have eI:∀j,agI pl k j=(pl[k].2.2.2.getD j ag0).2.1:=λj=>by unfold agI;rw[eL]
 have eN:agN pl k=pl[k].2.2.2.map λa=>a.2.1:=by unfold agN;rw[eL]
 unfold oneT at ho
 refine hI7.rI0 (x:=pl[k].1) rfl (zj (λe=>?_) (λe=>?_))
 ·rw[if_pos (by rw[eO];exact e)]at ho
  cases ho
  exact zgg (v:=(0,1,false,0,⟨none,0,0⟩,())) hO7 rfl b07 s1 (λ_ w' _=>⟨rfl,rfl,rfl,WdOk.nil _ _⟩) hR
 rw[if_neg (by rw[eO];exact e)]at ho
 refine zj (λe=>?_) (λe=>?_)
 ·rw[if_pos (by rw[eO];exact e)]at ho
  cases ho
  exact zgg (v:=(0,2,false,0,⟨none,0,0⟩,())) hO7 rfl b07 s1 (λ_ w' _=>⟨rfl,rfl,rfl,WdOk.nil _ _⟩) hR
 rw[if_neg (by rw[eO];exact e)]at ho
 refine zj (λe=>?_) (λe=>?_)
 ·have e':(ix pl k).1=21:=by rw[eO];exact e
  rw[if_pos e']at ho
  cases ho
  have hl:(ix pl k).2.2.2.length=2:=zZ hs hk e' zj2
  refine Ins.load (x:=mkIn pl[k] t) hI7 (zoy (x:=mkIn pl[k] t) hA7 (by rw[<-eL];exact hl) λw18 v hv b18=>⟨v,_,rfl,?_⟩)
  rw[<-eI,<-eI]at hv⊢
  exact zn7 (w7:=w7) (hO7.below b18) rfl hv lt7 s7 (b07.on b18) s1 hR
 have e':¬(ix pl k).1=21:=by rw[eO];exact e
 rw[if_neg e']at ho
 refine zj (λe=>?_) (λe=>?_)
 ·have e':(ix pl k).1=23:=by rw[eO];exact e
  rw[if_pos e']at ho
  cases ho
  have hl:(ix pl k).2.2.2.length=2:=zZ hs hk e' zj3
  refine Ins.load (x:=mkIn pl[k] t) hI7 (zmj (x:=mkIn pl[k] t) h7 hT hA7 (by rw[<-eL];exact hl) λw18 v hv b18=>⟨v,_,rfl,?_⟩)
  rw[<-eI,<-eI]at hv⊢
  exact zn7 (w7:=w7) (hO7.below b18) rfl hv lt7 s7 (b07.on b18) s1 hR
 have e':¬(ix pl k).1=23:=by rw[eO];exact e
 rw[if_neg e']at ho
 refine zj (λe=>?_) (λe=>?_)
 ·have e':(ix pl k).1=28:=by rw[eO];exact e
  rw[if_pos e']at ho
  cases ho
  have hl:(ix pl k).2.2.2.length=2:=zZ hs hk e' zd9
  have hid:agI pl k 1≠0:=by
   obtain⟨f,_,_,_,_,_,_,_,hw⟩:=zcw hs hk e' zd9
   have h1:=hw 1 (by omega)
   unfold werr at h1
   exact znK h1 ((zm6 hs hk e' zd9 (j:=1) (by omega) (by decide)).trans (by decide))
  refine Mo.load hB7 (Ins.load (x:=mkIn pl[k] t) hI7 (zmJ (x:=x) (i:=mkIn pl[k] t) h7 hT hT0 (hN.below b07) hp hs hf (Nat.le_of_lt hk) hA7 (by rw[<-eL];exact hl) (by rw[<-eI];exact hid) λw18 v hv b18=>⟨v,_,rfl,?_⟩))
  rw[<-eI,<-eI]at hv⊢
  exact zn7 (w7:=w7) (hO7.below b18) rfl hv lt7 s7 (b07.on b18) s1 hR
 have e':¬(ix pl k).1=28:=by rw[eO];exact e
 rw[if_neg e']at ho
 refine zj (λe=>?_) (λe=>?_)
 ·have e':(ix pl k).1=30:=by rw[eO];exact e
  rw[if_pos e']at ho
  cases ho
  refine Ins.load (x:=mkIn pl[k] t) hI7 (zkS (i:=mkIn pl[k] t) h7 hT hT0 hA7 λw18 v hv b18=>⟨v,_,rfl,?_⟩)
  rw[<-eN]at hv⊢
  exact zn7 (w7:=w7) (hO7.below b18) rfl hv lt7 s7 (b07.on b18) s1 hR
 have e':¬(ix pl k).1=30:=by rw[eO];exact e
 rw[if_neg e']at ho
 refine zj (λe=>?_) (λe=>?_)
 ·have e':(ix pl k).1=32:=by rw[eO];exact e
  rw[if_pos e']at ho
  cases ho
  have hl:(ix pl k).2.2.2.length=2:=zZ hs hk e' zhC
  have hl2:pl[k].2.2.2.length=2:=by rw[<-eL];exact hl
  refine hI7.rS (n:=3) (x:=t) rfl (argN hA7 (j:=1) (by omega) ?_)
  rw[<-eI]
  refine yE h7 hT λw42 b42=>⟨_,rfl,zH (zk (λg=>?_) (λg=>?_))⟩
  rotate_left
  ·rw[if_pos (by omega)]at hR
   exact zb5 (hO7.below b42) rfl (b07.on b42) s1 (by decide) hR
  rw[if_neg (by omega)]at hR
  refine(hI7.below b42).rS (n:=3) (x:=t) rfl (argN (IsC.below zG hA7 b42) (j:=0) (by omega) ?_)
  rw[<-eI]
  refine zhz (v:=(0,7,false,agI pl k 0,⟨none,0,0⟩,())) λw53 h53 b53=>?_
  have b53d:=b53.drew
  have b4253:=b42.on b53d
  refine h53.drew.rS (n:=4) (x:=⟨none,0,0⟩) rfl ((hI7.below b4253).rS (n:=3) (x:=t) rfl (argN (IsC.below zG hA7 b4253) (j:=1) (by omega) (zm λw54 hE b54 z54=>?_)))
  rw[<-eI]at hE
  have hE:Blk w54 w53.drew.heap.size 22 [.int .u32 (agI pl k 1)]:=hE
  have hB54:=h53.drew.below b54
  refine⟨hB54.cell (n:=4) rfl,?_⟩
  refine zi7 eU32 (s:=⟨none,0,0⟩) (xs:=[]) (Own.nil w54 _ _) b54 (λa ha=>by cases ha) (vs:=[.int .u32 (agI pl k 1)]) rfl (λu hu=>by rw[List.mem_singleton.1 hu];rfl) hE (by show 0+1<=_;omega) (by show(0+1)*4<=_;omega) λr w55 g1 g2 g3 _ g5=>?_
  have kp:∀c T cs,Blk w54 c T cs->Blk w55 c T cs:=λc T cs hB=>hB.of_block (g5 c hB.lt (λq=>by cases q))
  have hB55:=kp _ _ _ hB54
  refine⟨hB55.wr (n:=4) (by show 4<5;decide),Nw.gen λw56 e56=>?_⟩
  have c56:Chg w42.heap.size w55 w56:=by rw[e56];exact Chg.set _ _ _ _
  have hB56:Blk w56 w42.heap.size 115 (rvV (0,7,false,agI pl k 0,r,())):=by rw[e56];exact hB55.set 4 _
  refine Rv.load (v:=(0,7,false,agI pl k 0,r,())) hB56 ?_
  have lt42:w42.heap.size<w53.heap.size:=h53.lt
  have s42:=b42.size
  have hO55:Blk w55 w1.heap.size 115 (rvV rv0):=kp _ _ _ (((hO7.below b42).below b53d).below b54)
  have hO56:=c56.blk hO55 (by omega)
  have b55:Below w.heap.size w w55:=((b07.on b42).on b53d).trans (g2.mono (by have:=((b07.on b42).on b53d).size;exact this))
  have b56:Below w.heap.size w w56:=c56.below b55 (by omega)
  refine zgg (v:=(0,7,false,agI pl k 0,r,())) hO56 rfl b56 s1 (λ_ w' c=>⟨rfl,rfl,rfl,?_⟩) hR
  have hps:(agN pl k).drop 1=[agI pl k 1]:=by
   refine List.ext_getElem (by rw[List.length_drop,zd4,hl];rfl) λi h1 h2=>?_
   rw[List.length_singleton]at h2
   have:i=0:=by omega
   subst this
   rw[List.getElem_drop]
   exact yF (by omega)
  have hfull:({tp0 with kind:=7,cls:=agI pl k 0,ps:=(agN pl k).drop 1}:Tp).full=[agI pl k 1]:=hps
  rw[hfull]
  have own:Own w' 22 1 r ([agI pl k 1].map (Value.int .u32)):=(g1.of_block λa ha=>c56.block _ (by have:=g3 a ha;show a.block≠_;have:w53.drew.heap.size=w53.heap.size:=rfl;omega)).of_block λa ha=>c.block _ (by have:=g3 a ha;have:w53.drew.heap.size=w53.heap.size:=rfl;omega)
  exact WdOk.own own λy hy=>by have:=g3 y hy;have:w53.drew.heap.size=w53.heap.size:=rfl;omega
 have e':¬(ix pl k).1=32:=by rw[eO];exact e
 rw[if_neg e']at ho
 by_cases e33:(ix pl k).1=33
 ·rw[if_pos e33]at ho
  cases ho
  refine Ins.load (x:=mkIn pl[k] t) hI7 (zkm (i:=mkIn pl[k] t) h7 hT hA7 (zhy hs hk) λw18 v hv b18=>⟨v,_,rfl,?_⟩)
  rw[<-eN]at hv⊢
  exact zn7 (w7:=w7) (hO7.below b18) rfl hv lt7 s7 (b07.on b18) s1 hR
 ·rw[if_neg e33]at ho
  cases ho
end
end Go.Proofs
namespace Go.Proofs
open Go.Gk Go.RowKit Go.Gm
theorem zqI(f:Fl)(i:Nat):letP f i=0\/∃c∈f.fixed++f.rest,letP f i=c.toNat:=by
 unfold letP
 split
 ·rename_i h
  refine .inr ⟨f.fixed[i],List.mem_append_left _ (List.getElem_mem h),?_⟩
  rw[zA h]
 ·split
  ·exact .inl rfl
  ·split
   ·exact .inl rfl
   ·rename_i h1 h2 h3
    have hm:(i-f.fixed.length) % f.rest.length<f.rest.length:=Nat.mod_lt _ (by omega)
    refine .inr ⟨f.rest[(i-f.fixed.length) % f.rest.length],List.mem_append_right _ (List.getElem_mem hm),?_⟩
    rw[zA hm]
def noTx(op:Int):Bool:=match frm op with
 |some f=>(f.fixed++f.rest).all λc=>c !=115
 |none=>true
theorem zrA:(noTx 19&&noTx 20&&noTx 21&&noTx 23&&noTx 28&&noTx 30&&noTx 32&&noTx 33)=true:=by decide +kernel
theorem zqB{n:Nat}(h:n≠115):yh (n:Int)≠3:=by
 unfold yh
 split
 ·decide
 ·split
  ·decide
  ·split
   ·omega
   ·split<;>decide
section
variable {bd:Int} {pl:List PI} {j k:Nat} {L:TyL}
theorem zoH(hs:(zF bd pl).1=0)(hk:k<pl.length){p:Tp×Int}(ho:oneT L pl k=some p){i:Nat}(hi:i<(ix pl k).2.2.2.length):∃f:Fl,frm (ix pl k).1=some f/\((ix pl k).2.2.2.getD i ag0).1=yh (letP f i:Int)/\((ix pl k).2.2.2.getD i ag0).2.2.size=0:=by
 have hn:noTx (ix pl k).1=true:=by
  have h:=zrA
  simp only[Bool.and_eq_true]at h
  obtain⟨⟨⟨⟨⟨⟨⟨h1,h2⟩,h3⟩,h4⟩,h5⟩,h6⟩,h7⟩,h8⟩:=h
  rcases zgo ho with e |e |e |e |e |e |e |e<;>rw[e]<;>assumption
 have key:∀{op:Int} {ty re:Bool} {fixed rest:Bs} {most:Nat},(ix pl k).1=op->ye op ty re fixed rest most=true->∃f:Fl,frm (ix pl k).1=some f/\((ix pl k).2.2.2.getD i ag0).1=yh (letP f i:Int)/\((ix pl k).2.2.2.getD i ag0).2.2.size=0:=λe hf=>by
  obtain⟨f,f1,f2,f3⟩:=zsc hs hk e hf hi
  rw[<-e]at f1
  refine⟨f,f1,f2,f3 ?_⟩
  rw[f2]
  refine zqB ?_
  unfold noTx at hn
  rw[f1]at hn
  have hn:(f.fixed++f.rest).all (λc=>c !=115)=true:=hn
  rcases zqI f i with q | ⟨c,c1,c2⟩
  ·omega
  ·have:=List.all_eq_true.1 hn c c1
   rw[bne_iff_ne]at this
   rw[c2]
   intro q
   exact this (UInt8.toNat_inj.1 q)
 rcases zgo ho with e |e |e |e |e |e |e |e
 ·exact key e zoY
 ·exact key e zoZ
 ·exact key e zj2
 ·exact key e zj3
 ·exact key e zd9
 ·exact key e zpa
 ·exact key e zhC
 ·exact key e zpb
theorem zsq{p:Tp×Int}(ho:oneT L pl k=some p)(e:(ix pl j).1=(ix pl k).1):∃q,oneT L pl j=some q:=zi6 L (by have:=zgo ho;omega)
theorem zro(hs:(zF bd pl).1=0)(hj:j<pl.length)(hk:k<pl.length){p:Tp×Int}(ho:oneT L pl k=some p)(e:(ix pl j).1=(ix pl k).1):(ix pl j).2.2.2=(ix pl k).2.2.2↔agN pl j=agN pl k:=by
 constructor
 ·intro h
  unfold agN
  rw[h]
 ·intro h
  have hl:(ix pl j).2.2.2.length=(ix pl k).2.2.2.length:=by
   have:=congrArg List.length h
   rwa[zd4,zd4]at this
  obtain⟨q,hq⟩:=zsq (j:=j) ho e
  refine List.ext_getElem hl λi h1 h2=>?_
  obtain⟨f,f1,f2,f3⟩:=zoH hs hj hq h1
  obtain⟨g,g1,g2,g3⟩:=zoH hs hk ho h2
  rw[e,g1]at f1
  cases f1
  rw[zA h1]at f2 f3
  rw[zA h2]at g2 g3
  have hn:(ix pl j).2.2.2[i].2.1=(ix pl k).2.2.2[i].2.1:=by
   have a1:=yF (pl:=pl) (k:=j) h1
   have a2:=yF (pl:=pl) (k:=k) h2
   unfold agI at a1 a2
   rw[zA h1]at a1
   rw[zA h2]at a2
   rw[<-a1,<-a2]
   congr 1
  refine Prod.ext (by rw[f2,g2]) (Prod.ext hn ?_)
  have z:∀b:ByteArray,b.size=0->b=⟨#[]⟩:=λb hb=>by
   cases b with
   |mk d=>
    have:d=#[]:=Array.eq_empty_of_size_eq_zero hb
    rw[this]
  rw[z _ f3,z _ g3]
end
end Go.Proofs
namespace Go.Proofs
open Go.Gk Go.RowKit Go.Gm
theorem eRty:zbA Tryz.prog 147 115 5 40:=⟨by kernel_rfl,Tryz.t115,.agg #[.int .u32 0,.int .u8 0,.bool false,.int .u32 0,.slice none 0 0],by kernel_rfl,rfl,rfl,rfl,rfl⟩
theorem zsz:(List.range 15).all (λ(i:Nat)=>(frm (19+(i:Int))).isNone||[0,1,2,4,9,11,13,14].contains i)=true:=by decide +kernel
theorem Al2.app{α β:Type}{P:α->β->Prop}{a:α}{c:β}(hac:P a c):∀{l:List α} {m:List β},Al2 P l m->Al2 P (l++[a]) (m++[c])
 |_,_,.nil=>.cons hac .nil
 |_,_,.cons h t=>.cons h (Al2.app hac t)
section
variable {w w':World} {k:Nat} {L:TyL} {R:VWP} {pl:List PI} {bd:Int} {x:Mo}
theorem zq9(hs:(zF bd pl).1=0)(hk:k<pl.length)(L:TyL):(19<=(ix pl k).1/\(ix pl k).1<=33)↔∃p,oneT L pl k=some p:=by
 constructor
 ·rintro⟨h1,h2⟩
  obtain⟨f,hf,_⟩:=zge ((ze6 hs).2 k hk)
  rw[<-zK hk]at hf
  have h:=zsz
  rw[List.all_eq_true]at h
  have:=h ((ix pl k).1-19).toNat (List.mem_range.2 (by omega))
  rw[show(19:Int)+((((ix pl k).1-19).toNat:Nat):Int)=(ix pl k).1 by omega,hf]at this
  simp only[Option.isNone_some,Bool.false_or,List.contains_iff_mem,List.mem_cons,List.not_mem_nil,or_false]at this
  exact zi6 L (by omega)
 ·rintro⟨p,hp⟩
  have:=zgo hp
  omega
theorem zlQ{op:Int}(hR:R (.bool (decide (19<=op/\op<=33))) w):cR 74 #[.int .u16 op] w R:=by
 refine za.of (zcX op R w ?_) λ_ _ h=>h
 refine zk (λg=>?_) (λg=>?_)
 ·rwa[show decide (19<=op/\op<=33)=decide (op<=33) from decide_eq_decide.2 ⟨λq=>q.2,λq=>⟨g,q⟩⟩]at hR
 ·rwa[decide_eq_false (λq=>g q.1)]at hR
theorem zoI(pl:List PI)(k:Nat)(n:Nat):(List.range n).any (λj=>(ix pl j).1==(ix pl k).1&&agN pl j==agN pl k)=true↔∃j,j<n/\(ix pl j).1=(ix pl k).1/\agN pl j=agN pl k:=by
 rw[List.any_eq_true]
 constructor
 ·rintro⟨j,h1,h2⟩
  rw[Bool.and_eq_true,beq_iff_eq,beq_iff_eq]at h2
  exact⟨j,List.mem_range.1 h1,h2⟩
 ·rintro⟨j,h1,h2,h3⟩
  exact⟨j,List.mem_range.2 h1,by rw[Bool.and_eq_true,beq_iff_eq,beq_iff_eq];exact⟨h2,h3⟩⟩
set_option maxHeartbeats 1000000 in
theorem zmI{p:Tp×Int}(hN:IsPl w x.2.2.1 pl)(hp:PlOk pl)(hs:(zF bd pl).1=0)(hk:k<pl.length)(ho:oneT L pl k=some p)(hR:∀w',Below w.heap.size w w'->R (.bool (agnT pl k)) w') :
  cR 76 #[moA x,.int .i64 (k:Int)] w R:=by
 refine za.of (zdn x k R w ?_) λ_ _ h=>h
 have hix:=zK hk
 have hplen:=hp.len
 refine zm λw1 hB1 b1 z1=>?_
 have hB1:Blk w1 w.heap.size 25 (moV x):=hB1
 refine hB1.rS (n:=2) (x:=x.2.2.1) rfl (YF hN b1 hk λt hI0=>box4 rfl λw6 hI6 b6 z6=>?_)
 have hI6:Blk w6 w1.heap.size 52 (inV (mkIn pl[k] t)):=hI6
 have b06:=b1.on b6
 have eO:(ix pl k).1=pl[k].1:=by rw[hix]
 have eL:(ix pl k).2.2.2=pl[k].2.2.2:=by rw[hix]
 unfold agnT at hR
 refine zl.cut (λ(_:Unit) w'=>w6=w'/\(ix pl k).1≠28/\(ix pl k).1≠30) ?_ ?_
 ·refine hI6.rI0 (x:=pl[k].1) rfl (zj (λe=>?_) (λe=>hI6.rI0 (x:=pl[k].1) rfl (zj (λe2=>?_) (λe2=>⟨rfl,by rw[eO];exact e,by rw[eO];exact e2⟩))))
  ·have:=hR w6 b06
   rw[eO,show pl[k].1=28 from e]at this
   exact this
  ·have:=hR w6 b06
   rw[eO,show pl[k].1=30 from e2]at this
   exact this
 rintro _ w7 ⟨rfl,e28,e30⟩
 have hR:∀w',Below w.heap.size w w'->R (.bool ((List.range k).any λj=>(ix pl j).1==(ix pl k).1&&agN pl j==agN pl k)) w':=λw' hb=>by
  have:=hR w' hb
  rw[bne_iff_ne.2 e28,bne_iff_ne.2 e30]at this
  exact this
 refine zn.ghost (λm (st:Int×Unit) w'=>∃n:Nat,st=((n:Int),())/\n<=k/\m=k-n/\Below w6.heap.size w6 w'/\∀j,j<n->¬((ix pl j).1=(ix pl k).1/\agN pl j=agN pl k)) k ⟨0,rfl,Nat.zero_le _,rfl,Below.refl _ _,λj h=>by omega⟩ ?_
 rintro _ _ w8 ⟨n,rfl,hn,rfl,b8,hno⟩ next hnext
 have b08:=b06.on b8
 refine zk (λg=>?_) (λg=>?_)
 rotate_left
 ·have:=hR w8 b08
  have hf:(List.range k).any (λj=>(ix pl j).1==(ix pl k).1&&agN pl j==agN pl k)=false:=by
   cases hq:(List.range k).any λj=>(ix pl j).1==(ix pl k).1&&agN pl j==agN pl k with
   |false=>rfl
   |true=>
    obtain⟨j,j1,j2⟩:=(zoI pl k k).1 hq
    exact absurd j2 (hno j (by dsimp only at g;omega))
  rwa[hf]at this
 have hnk:n<k:=by dsimp only at g;omega
 have hnl:n<pl.length:=by omega
 have hix2:=zK hnl
 have eO2:(ix pl n).1=pl[n].1:=by rw[hix2]
 have eL2:(ix pl n).2.2.2=pl[n].2.2.2:=by rw[hix2]
 have same:=λe=>zro hs hnl hk ho e
 rw[eL,eL2]at same
 have hB8:=(hB1.below b6).below b8
 refine zl.cut (λ(_:Unit) w'=>Below w8.heap.size w8 w'/\¬((ix pl n).1=(ix pl k).1/\agN pl n=agN pl k)) ?_ ?_
 rotate_left
 ·rintro _ w17 ⟨b17,hne⟩
  dsimp only
  rw[zz (by omega)]
  refine hnext (k-(n+1)) _ w17 (by omega) ⟨n+1,rfl,by omega,rfl,b8.on b17,λj hj=>?_⟩
  by_cases e:j=n
  ·subst e
   exact hne
  ·exact hno j (by omega)
 refine hB8.rS (n:=2) (x:=x.2.2.1) rfl (YF hN b08 hnl λt2 hI02=>box4 rfl λw13 hI13 b13 z13=>?_)
 have hI13:Blk w13 w8.heap.size 52 (inV (mkIn pl[n] t2)):=hI13
 have b013:=b08.on b13
 have hK13:=(hI6.below b8).below b13
 have ht13:IsAg w13 t pl[k].2.2.2:=IsC.below zG hI0 b013
 have ht213:IsAg w13 t2 pl[n].2.2.2:=IsC.below zG hI02 b013
 have htl:=ht13.len
 have ht2l:=ht213.len
 refine zl.cut (λ(_:Unit) w'=>w13=w'/\(ix pl n).1=(ix pl k).1/\pl[n].2.2.2.length=pl[k].2.2.2.length) ?_ ?_
 ·refine hI13.rI0 (x:=pl[n].1) rfl (hK13.rI0 (x:=pl[k].1) rfl (zp (λe=>⟨b13,λq=>e (by rw[<-eO,<-eO2];exact q.1)⟩) (λe=>?_)))
  have e1:(ix pl n).1=(ix pl k).1:=by rw[eO,eO2];exact e
  refine hI13.rS (n:=3) (x:=t2) rfl (hK13.rS (n:=3) (x:=t) rfl (zp (λe2=>⟨b13,λq=>e2 ?_⟩) (λe2=>⟨rfl,e1,by omega⟩)))
  have:=congrArg List.length ((same e1).2 q.2)
  omega
 rintro _ w14 ⟨rfl,e1,elen⟩
 have hbd:=ht13.bound
 obtain⟨P,hP⟩:∃P:Nat->Prop,P=λi=>∀q (h1:q<pl[n].2.2.2.length) (h2:q<pl[k].2.2.2.length),q<i->pl[n].2.2.2[q]=pl[k].2.2.2[q]:=⟨_,rfl⟩
 refine zn.ghost (λm (st:Bool×Int×Unit) w'=>∃(i:Nat) (b:Bool),st=(b,(i:Int),())/\(b=true↔P i)/\i<=pl[k].2.2.2.length/\m=pl[k].2.2.2.length-i/\Below w13.heap.size w13 w') pl[k].2.2.2.length
  ⟨0,true,rfl,by rw[hP];exact⟨λ_ q _ _ h=>by omega,λ_=>rfl⟩,Nat.zero_le _,rfl,Below.refl _ _⟩ ?_
 rintro _ _ w15 ⟨i,b,rfl,hb,hi,rfl,b15⟩ next2 hnext2
 have hK15:=hK13.below b15
 refine hK15.rS (n:=3) (x:=t) rfl (zk (λg2=>?_) (λg2=>?_))
 ·have hil:i<pl[k].2.2.2.length:=by dsimp only at g2;omega
  have hil2:i<pl[n].2.2.2.length:=by omega
  refine zl.cut (λ(st:Bool×Unit) w'=>(∃b',st=(b',())/\(b'=true↔P (i+1)))/\Below w15.heap.size w15 w') ?_ ?_
  rotate_left
  ·rintro _ w16 ⟨⟨b',rfl,hb'⟩,b16⟩
   dsimp only
   rw[zz (by omega)]
   exact hnext2 (pl[k].2.2.2.length-(i+1)) _ w16 (by omega) ⟨i+1,b',rfl,hb',by omega,rfl,b15.on b16⟩
  have b15d:Below w15.heap.size w15 w15.drew:=(Below.refl _ _).drew
  refine zC (λg3=>?_) (λg3=>⟨⟨false,rfl,?_⟩,b15d⟩)
  ·have g3:=hb.1 g3
   refine((hI13.below b15).below b15d).rS (n:=3) (x:=t2) rfl (zcU (IsC.below zG ht213 (b15.on b15d)) hil2 ((hK15.below b15d).rS (n:=3) (x:=t) rfl (zcU (IsC.below zG ht13 (b15.on b15d)) hil ⟨⟨_,rfl,?_⟩,b15d⟩)))
   rw[hP]at g3⊢
   simp only[Bool.and_eq_true,beq_iff_eq,zlh,and_true]
   constructor
   ·rintro⟨a1,a2,a3⟩ q h1 h2 h3
    by_cases e:q=i
    ·subst e
     exact Prod.ext a1 (Prod.ext a2 a3)
    ·exact g3 q h1 h2 (by omega)
   ·intro h
    have:=h i hil2 hil (by omega)
    exact⟨by rw[this],by rw[this],by rw[this]⟩
  ·refine⟨λq=>(by cases q),λh=>?_⟩
   have:b=true:=hb.2 (by rw[hP]at h⊢;exact λq h1 h2 h3=>h q h1 h2 (by omega))
   dsimp only at g3
   rw[g3]at this
   cases this
 ·have hie:i=pl[k].2.2.2.length:=by dsimp only at g2;omega
  subst hie
  refine zC (λg3=>?_) (λg3=>⟨b13.on b15,λq=>?_⟩)
  ·have g3:=hb.1 g3
   rw[hP]at g3
   have:=hR w15 (b013.on b15)
   have ht:(List.range k).any (λj=>(ix pl j).1==(ix pl k).1&&agN pl j==agN pl k)=true:=(zoI pl k k).2 ⟨n,hnk,e1,(same e1).1 (List.ext_getElem elen λm h1 h2=>g3 m h1 h2 h2)⟩
   rwa[ht]at this
  ·have hq:=(same e1).2 q.2
   have:b=true:=hb.2 (by rw[hP];exact λm h1 h2 _=>List.getElem_of_eq hq h1)
   dsimp only at g3
   rw[g3]at this
   cases this
end
end Go.Proofs
namespace Go.Proofs
open Go.Gk Go.RowKit Go.Gm
abbrev Ag1(w0:World)(s:Sl)(b:Nat):Prop:=w0.heap.size+1<=b/\s.a≠some (Gk.blk b)
structure GrT (w0 w:World) (s:Sl) (hs:List Rv) (T:TyL):Prop where
 below:Below w0.heap.size w0 w
 tbl:Blk w w0.heap.size 149 [.slice s.a s.l s.c]
 own:Own w 115 5 s (flat rvV hs)
 fr:zM (w0.heap.size+1) s
 al:Al2 (RvR (Ag1 w0 s) w) hs T
section
variable {w0 w w':World} {tb:Nat} {s:Sl} {hs:List Rv} {T:TyL} {R:VWP} {pl:List PI} {x:Mo}
theorem GrT.on(h:GrT w0 w s hs T)(hb:Below w.heap.size w w'):GrT w0 w' s hs T:=
 ⟨h.below.on hb,h.tbl.below hb,h.own.below hb,h.fr,allR (λa c q=>⟨q.1,q.2.below hb⟩) h.al⟩
theorem GrT.isRt(h:GrT w0 w s hs T):IsRt w (Ag1 w0 s) w0.heap.size T:=
 ⟨s,hs,h.tbl,Own.isC zgr (by omega) h.own,h.al,λy hy=>(h.own.lt hy).2⟩
theorem GrT.push(h:GrT w0 w s hs T){v:Rv}{t:Tp}{e:Nat}(hE:Blk w e 115 (rvV v))(hv:RvOk (Ag1 w0 s) w v t)(hl:hs.length<=3518437208800){K:World->Prop}
  (hK:∀s' w',GrT w0 w' s' (hs++[v]) (T++[(v.1,t)])->K w') :
  zr Tryz.prog 147 (.slice s.a s.l s.c) (.slice (some (Gk.blk e)) 1 1) w λr w2=>Wr w2 (Gk.blk w0.heap.size)/\Nw (w2.setCell (Gk.blk w0.heap.size) (.slice r.a r.l r.c)) K:=by
 have hsl:s.l=hs.length:=(Own.isC zgr (by omega) h.own).len
 have hs0:=h.below.size
 have hlt:=h.tbl.lt
 refine zgp eRty h.own (vs:=rvV v) rfl (λu hu=>?_) hE (by omega) (by omega) λr w2 b' hO ha hb' hbel hkeep=>?_
 ·simp only[List.mem_cons,List.not_mem_nil,or_false]at hu
  rcases hu with rfl |rfl |rfl |rfl |rfl<;>rfl
 have hge:w0.heap.size+1<=b':=by
  rcases hb' with q |q
  ·exact h.fr _ q
  ·omega
 have sz:w.heap.size<=w2.heap.size:=(hbel 0 (Nat.zero_le _) (Nat.zero_le _)).size
 have B2:=h.tbl.of_block (hkeep _ hlt (by omega))
 refine⟨B2.wr0 (by show 0<1;decide),Nw.gen λw3 e3=>?_⟩
 have c3:Chg w0.heap.size w2 w3:=by rw[e3];exact Chg.set w0.heap.size 0 w2 _
 have B3:Blk w3 w0.heap.size 149 [.slice r.a r.l r.c]:=by rw[e3];exact B2.set0 _
 have s3:=c3.size
 have al:∀b,Ag1 w0 s b->b<w.heap.size->w3.heap[b]? =w.heap[b]?/\Ag1 w0 r b:=λb h1 h2=>by
  have hne:b≠b':=λq=>by
   rcases hb' with q2 |q2
   ·exact h1.2 (by rw[q2,q])
   ·omega
  exact⟨(c3.block b (by have:=h1.1;omega)).trans (hkeep b h2 hne),h1.1,λq=>hne (by rw[ha]at q;injection q with q;injection q with q;exact q.symm)⟩
 have fl:flat rvV (hs++[v])=flat rvV hs++rvV v:=by
  unfold flat
  rw[List.flatMap_append]
  simp
 refine hK r w3 ⟨c3.below (h.below.trans (hbel _ (by omega) (by omega))) (Nat.le_refl _),B3,?_,λa q=>(by rw[ha]at q;cases q;exact hge),?_⟩
 ·rw[fl]
  exact hO.of_block λa q=>c3.block _ (by rw[ha]at q;cases q;show b'≠_;omega)
 ·exact Al2.app ⟨rfl,hv.keep al (by omega)⟩ (allR (λa c q=>⟨q.1,q.2.keep al (by omega)⟩) h.al)
end
end Go.Proofs
namespace Go.Proofs
open Go.Gk Go.RowKit Go.Gm
section
variable {w:World} {R:VWP} {pl:List PI} {x:Mo}
set_option maxHeartbeats 4000000 in
theorem zp6(hN:IsPl w x.2.2.1 pl)(hp:PlOk pl)(h0:0<=x.2.1)
  (hBad:(typE x.2.1 pl).1≠0->∀w',Below w.heap.size w w'->R (.tuple #[.pointer none,.agg #[.int .i64 (typE x.2.1 pl).1,.int .i64 (typE x.2.1 pl).2]]) w')
  (hOk:TyOk x.2.1 pl->∀w' tb,Below w.heap.size w w'->w.heap.size<=tb->(∀w'',(∀b,w.heap.size<=b->b<w'.heap.size->w''.heap[b]? =w'.heap[b]?)->w'.heap.size<=w''.heap.size->IsRt w'' (λb=>w.heap.size<=b) tb (tyL pl))->R (.tuple #[.pointer (some (blk tb)),.agg #[.int .i64 0,.int .i64 0]]) w') :
  cR 53 #[moA x] w R:=by
 refine za.of (zew x R w ?_) λ_ _ h=>h
 refine zm λw1 hB1 b1 z1=>?_
 have hB1:Blk w1 w.heap.size 25 (moV x):=hB1
 refine zm λw2 hS2 b2 z2=>?_
 have hS2:Blk w2 w1.heap.size 56 [.int .i64 0,.int .i64 0]:=hS2
 have b02:=b1.on b2
 refine Mo.load (hB1.below b2) (zmg (x:=x) (hN.below b02) hp λw3 b3=>⟨((zQ x.2.1 pl).1,((zQ x.2.1 pl).2:Int),()),rfl,?_⟩)
 refine box2 rfl λw6 h6 b6 z6=>h6.rI0 rfl ?_
 have b26:=b3.on b6
 have b06:=b02.on b26
 have hS6:=hS2.below b26
 have sz1:=b1.size
 have out:∀{w':World} {p:Option Addr} {e a:Int},Blk w' w1.heap.size 56 [.int .i64 0,.int .i64 0]->Below w.heap.size w w'->(∀w'',Chg w1.heap.size w' w''->Below w.heap.size w w''->R (.tuple #[.pointer p,.agg #[.int .i64 e,.int .i64 a]]) w'')->
   Wr w' (blk w1.heap.size)/\Nw (w'.setCell (blk w1.heap.size) (.int .i64 e)) λw8=>Wr w8 ((blk w1.heap.size).add 1)/\Nw (w8.setCell ((blk w1.heap.size).add 1) (.int .i64 a)) λw9=>ldI w9 ((blk w1.heap.size).add 0) .i64 λx9=>ldI w9 ((blk w1.heap.size).add 1) .i64 λx10=>
    R (.tuple #[.pointer p,.agg #[.int .i64 x9,.int .i64 x10]]) w9:=λ{w' p e a} hS hb hR=>
  st2 hS rfl λw9 hS9 c9=>Sp.load hS9 (hR w9 c9 (c9.below hb (by omega)))
 refine zp (λhc=>?_) (λhc=>?_)
 ·have hc:(zQ x.2.1 pl).1≠0:=hc
  have he:=znE hc
  refine Sp.load h6.drew (out hS6.drew b06.drew λw' _ hb=>?_)
  have:=hBad (by rw[he];exact hc) w' hb
  rwa[he]at this
 have hc:(zQ x.2.1 pl).1=0:=hc
 have W:=zV.of hp h0 hc
 have hs:=W.shape
 have hf:=(zlK hc).2.2
 have hplen:=hp.len
 have hpls:=hN.len
 have hB6:=(hB1.below b2).below b26
 refine zm λw9 hT9 b9 z9=>?_
 have hT9:Blk w9 w6.heap.size 149 [.slice none 0 0]:=hT9
 have start:GrT w6 w9 ⟨none,0,0⟩ [] []:=⟨b9,hT9,Own.nil _ _ _,λa ha=>(by cases ha),.nil⟩
 have lt1:w1.heap.size<w6.heap.size:=hS6.lt
 have s06:=b06.size
 refine zn.ghost (λm (st:Int×Unit) w'=>∃(n:Nat) (s:Sl) (hs':List Rv),st=((n:Int),())/\n<=pl.length/\m=pl.length-n/\GrT w6 w' s hs' (tysT pl n)/\∀k,k<n->errT (tysT pl k) pl k=0) pl.length ⟨0,_,_,rfl,Nat.zero_le _,rfl,start,λk h=>by omega⟩ ?_
 rintro _ _ w10 ⟨n,s,hs',rfl,hn,rfl,G,hno⟩ next hnext
 have b010:=b06.on G.below
 have hB10:=hB6.below G.below
 have hS10:=hS6.below G.below
 refine hB10.rS (n:=2) (x:=x.2.2.1) rfl (zk (λg=>?_) (λg=>?_))
 rotate_left
 ·have hne:n=pl.length:=by dsimp only at g;omega
  subst hne
  refine out hS10 b010 λw' c hb=>?_
  have hTy:TyOk x.2.1 pl:=⟨hc,hno⟩
  refine hOk hTy w' w6.heap.size hb s06 λw'' hk hz=>?_
  have cs:=c.size
  have same:∀b,w.heap.size<=b->b≠w1.heap.size->b<w10.heap.size->w''.heap[b]? =w10.heap[b]?:=λb h1 h2 h3=>(hk b h1 (by omega)).trans (c.block b h2)
  have keepA:∀b,Ag1 w6 s b->b<w10.heap.size->w''.heap[b]? =w10.heap[b]?/\w.heap.size<=b:=λb q hlt=>⟨same b (by have:=q.1;omega) (by have:=q.1;omega) hlt,by have:=q.1;omega⟩
  refine⟨s,hs',G.tbl.of_block (same _ s06 (by omega) G.tbl.lt),(Own.isC zgr (by omega) G.own).of_block zgr λa ha _=>same _ (by have:=G.fr a ha;omega) (by have:=G.fr a ha;omega) (G.own.lt ha).2,allR (λa d q=>⟨q.1,q.2.keep keepA (by omega)⟩) G.al,λy hy=>by have:=(G.own.lt hy).2;omega⟩
 have hnl:n<pl.length:=by dsimp only at g;omega
 have hT:TbOk (tysT pl n):=zmq W n (by omega) hno
 have hT0:zv (tysT pl n) 0=none:=zfa.2 λhm=>by
  obtain⟨j,j1,j2,q,hq⟩:=zic pl n 0 hm
  exact znu hs (by omega) hq j2
 have hix:=zK hnl
 have eR:(ix pl n).2.2.1=pl[n].2.2.1:=by rw[hix]
 have eO:(ix pl n).1=pl[n].1:=by rw[hix]
 have hlen:hs'.length=(tysT pl n).length:=G.al.len
 have htl:=zmp pl n
 refine zl.cut (λ(_:Unit) w'=>errT (tysT pl n) pl n=0/\∃s2 hs2,GrT w6 w' s2 hs2 (tysT pl (n+1))) ?_ ?_
 rotate_left
 ·rintro _ w27 ⟨he,s2,hs2,G2⟩
  dsimp only
  rw[zz (by omega)]
  refine hnext (pl.length-(n+1)) _ w27 (by omega) ⟨n+1,s2,hs2,rfl,by omega,rfl,G2,λk hk=>?_⟩
  by_cases e:k=n
  ·subst e;exact he
  ·exact hno k (by omega)
 refine hB10.rS (n:=2) (x:=x.2.2.1) rfl ?_
 obtain⟨a,ha⟩:∃a,x.2.2.1.a=some a:=by
  cases ha:x.2.2.1.a with
  |none=>have:=hN.nil ha;have:=hN.cap;omega
  |some a=>exact⟨a,rfl⟩
 have cellI:∀{w':World},Below w.heap.size w w'->∃t:Sl,(∀j,j<4->w'.cell? (a.add (n*4+j))=(inV (mkIn pl[n] t))[j]?):=λhb=>by
  obtain⟨t,ht,_⟩:=(hN.below hb).elem a ha n hnl
  exact⟨t,ht⟩
 obtain⟨t0,ht0⟩:=cellI b010
 refine⟨⟨by dsimp only;omega,by dsimp only;omega⟩,zf ha ⟨pl[n].1,by have:=ht0 0 (by decide);simpa using this,zlQ ⟨_,rfl,?_⟩⟩⟩
 have hiff:=zq9 hs hnl (tysT pl n)
 rw[eO]at hiff
 refine zH (zk (λg2=>?_) (λg2=>?_))
 rotate_left
 ·have ho:oneT (tysT pl n) pl n=none:=by
   cases hq:oneT (tysT pl n) pl n with
   |none=>rfl
   |some p=>exact absurd (hiff.2 ⟨p,hq⟩) g2
  refine⟨by unfold errT;rw[ho],s,hs',?_⟩
  rw[zkL ho]
  exact G
 obtain⟨p,ho⟩:=hiff.1 g2
 refine Mo.load hB10 (zp7 (x:=x) G.isRt hT hT0 (hN.below b010) hp hs hf hnl ho λw12 v hv b12=>⟨v,p.2,rfl,zhz λw18 hX18 b18=>?_⟩)
 have b1018:=b12.on b18
 have b018:=b010.on b1018
 have G18:=G.on b1018
 have hB18:=hB10.below b1018
 have he:errT (tysT pl n) pl n=if p.2≠0 then p.2 else if agnT pl n=true then 101 else 0:=by
  unfold errT
  rw[ho]
 refine zl.cut (λ(st:Int×Unit) w'=>st=(errT (tysT pl n) pl n,())/\Below w18.heap.size w18 w') ?_ ?_
 ·refine zj (λe=>?_) (λe=>⟨by rw[he,if_pos e],Below.refl _ _⟩)
  refine Mo.load hB18 (zmI (x:=x) (hN.below b018) hp hs hnl ho λw19 b19=>⟨_,rfl,zC (λq=>⟨?_,b19⟩) (λq=>⟨?_,b19⟩)⟩)
  ·rw[he,if_neg (λz=>z e),if_pos q]
  ·rw[he,if_neg (λz=>z e),if_neg (by rw[q];simp),e]
 rintro _ w20 ⟨rfl,b20⟩
 have hX20:=hX18.below b20
 have b020:=b018.on b20
 refine zp (λhE=>?_) (λhE=>?_)
 ·have hE':=zpr hc hnl hE hno
  refine out ((hS10.below b1018).below b20) b020 λw' _ hb=>?_
  have:=hBad (by rw[hE'];exact hE) w' hb
  rwa[hE']at this
 have hE:errT (tysT pl n) pl n=0:=hE
 have hp2:=zlU ho hE
 have hv:=hv hp2
 obtain⟨t1,ht1⟩:=cellI b020
 refine(hB18.below b20).rS (n:=2) (x:=x.2.2.1) rfl ⟨⟨by dsimp only;omega,by dsimp only;omega⟩,zf ha ⟨pl[n].2.2.1,by rw[zt];exact ht1 2 (by decide),?_⟩⟩
 refine⟨hX20.wr0 (by show 0<5;decide),Nw.gen λw23 e23=>?_⟩
 have c23:Chg w12.heap.size w20 w23:=by rw[e23];exact Chg.set w12.heap.size 0 w20 _
 have hX23:Blk w23 w12.heap.size 115 (rvV (pl[n].2.2.1,v.2)):=by rw[e23];exact hX20.set0 _
 have s12:=b12.size
 have b1023:Below w10.heap.size w10 w23:=c23.below (b1018.on b20) s12
 have G23:=G.on b1023
 have b1220:=b18.on b20
 have lt10:=G.tbl.lt
 have vk:∀{w':World},Below w23.heap.size w23 w'->RvOk (Ag1 w6 s) w' (pl[n].2.2.1,v.2) p.1:=λ{w'} hb=>by
  have h1:RvOk (Ag1 w6 s) w23 v p.1:=hv.keep (λb q1 q2=>⟨(c23.block b (by omega)).trans (b1220.block b q2),by omega,λe=>by have:=(G.own.lt e).2;have:b<w10.heap.size:=this;omega⟩) (by rw[c23.size];exact b1220.size)
  have h2:=h1.below hb
  exact⟨h2.kind,h2.sg,h2.cls,h2.wd⟩
 have b23d:Below w23.heap.size w23 w23.drew:=(Below.refl _ _).drew
 refine⟨s,(G23.on b23d).tbl.cell0 rfl,Rv.load (v:=(pl[n].2.2.1,v.2)) hX23.drew (zm λw24 hE24 b24 z24=>?_)⟩
 have hE24:Blk w24 w23.drew.heap.size 115 (rvV (pl[n].2.2.1,v.2)):=hE24
 have G24:=(G23.on b23d).on b24
 refine⟨G24.tbl.cell0 rfl,G24.push hE24 (vk (b23d.on b24)) (by omega) λs2 w26 G26=>⟨hE,s2,hs'++[(pl[n].2.2.1,v.2)],by rw[znF W hnl ho,eR];exact G26⟩⟩
end
end Go.Proofs
namespace Go.Proofs
open Go.Gk Go.RowKit Go.Gm
theorem zgi{α:Type}{f:α->Value}{w:World}{b:Nat}{T:TypeId}{l:List α}(hB:Blk w b T (l.map f))(hl:l.length<=9223372036854775807):IsS f w ⟨some (Gk.blk b),l.length,l.length⟩ l:=
 ⟨rfl,Nat.le_refl _,hl,λe=>(by cases e),λa ha i hi=>(by cases ha;exact hB.cell (by rw[List.getElem?_map,List.getElem?_eq_getElem hi];rfl))⟩
theorem zm5{P:Program}{t e:TypeId}{sz bytes:Nat}(he:zbA P t e sz bytes){w:World}{s:Sl}{xs:List Value}(h:Own w e sz s xs){c:Nat}{k:Sl->World->Prop}(hk:k s w):zr P t (.slice s.a s.l s.c) (.slice none 0 c) w k:=by
 obtain⟨hu,i,z,hi,rfl,rfl,hz,hzs⟩:=he
 obtain⟨hx,h2⟩:=h
 rcases h2 with rfl | ⟨b,cs,ha,hB,hc,hcm,hcs,htk⟩
 ·refine⟨⟨none,0,0⟩,w,?_,hk⟩
  simp[Builtin.append_,run_underlying hu,sizeOf,typeInfo,hi,Builtin.lenOf,Builtin.firstCells,Sl.v]
 ·obtain⟨sa,sl,sc⟩:=s
  dsimp only at ha hc
  subst ha
  refine⟨⟨some (blk b),sl,sc⟩,w,?_,hk⟩
  simp[Builtin.append_,run_underlying hu,sizeOf,typeInfo,hi,Builtin.lenOf,Builtin.firstCells,Sl.v,hc,storeCells]
theorem zpj{w:World}{n:Nat}(hn:n<=4294967296){K:World->Prop}(hK:∀w',Blk w' w.heap.size 22 (List.replicate n (.int .u32 0))->Below w.heap.size w w'->K w') :
  (0<=(n:Int)/\(n:Int)<=(n:Int)/\(4:Int)*(n:Int)<=281474976710656/\(n:Int)<=9223372036854775807)/\Nw (w.alloc (.cells (madeCells #[(.int .u32 (0:Int))] ((Int.toNat (n:Int))*1)) 22)) K:=
 ⟨⟨by omega,by omega,by omega,by omega⟩,Nw.gen λw' e=>hK w' (by rw[e];exact Blk.made w _ _ n) (by rw[e];exact(Below.refl _ _).alloc (Nat.le_refl _) _)⟩
def MkR(R:VWP)(w:World)(p:List Int×Int):Prop:=∀w' s,WdOk (λb=>w.heap.size<=b) w' s p.1->Below w.heap.size w w'->R (.tuple #[.slice s.a s.l s.c,.int .i64 p.2]) w'
section
variable {w:World} {B pb k:Nat} {A:Nat->Prop} {T:TyL} {C:CnL} {R:VWP} {pl:List PI} {t:Sl} {bd:Int}
theorem zpn(n:Nat):(List.replicate n (0:Int)).map (Value.int .u32)=List.replicate n (Value.int .u32 0):=List.map_replicate ..
theorem zkQ{x:Ins}(h:IsPq w B pb A T C)(hT:TbOk T)(hR:MkR R w (if (tA T x.2.1).size=0 then([],100) else(List.replicate (tA T x.2.1).size 0,0))) :
  cR 68 #[.pointer (some (blk pb)),inA x] w R:=by
 refine za.of (zdc _ x R w ?_) λ_ _ h=>h
 refine zm λw1 hI1 b1 z1=>?_
 have hI1:Blk w1 w.heap.size 52 (inV x):=hI1
 obtain⟨tb,r,r2,o1,o2,h1,h2,h3⟩:=(h.below b1).drew
 refine zf rfl ⟨_,h1.cell0 rfl,hI1.drew.rI (n:=1) rfl (zmo h2 λw2 b2=>⟨_,rfl,?_⟩)⟩
 have b02:=(b1.drew).on b2
 refine zH (zk (λg=>?_) (λg=>?_))
 ·rw[if_neg (by omega)]at hR
  refine zf rfl ⟨_,(h1.below b2).drew.cell0 rfl,(hI1.drew.below b2).drew.rI (n:=1) rfl (zjg ((h2.below b2).below (Below.refl _ _).drew) λw3 b3=>⟨_,rfl,zpj (by have:=zdU hT x.2.1;omega) λw4 h4 b4=>?_⟩)⟩
  have b24:=(b02.drew).on (b3.on b4)
  have:=hR w4 ⟨some (blk w3.heap.size),(tA T x.2.1).size,(tA T x.2.1).size⟩ (by
   have q:=WdOk.blk (A:=λb=>w.heap.size<=b) (l:=List.replicate (tA T x.2.1).size 0) (b:=w3.heap.size) (w:=w4) (by rw[zpn];exact h4) (by have:=b02.size;have:=b3.size;show w.heap.size<=w3.heap.size;exact Nat.le_trans ‹_› ‹_›) (by rw[List.length_replicate];have:=zdU hT x.2.1;omega)
   rw[List.length_replicate]at q
   exact q) b24
  rw[Int.toNat_natCast]
  exact this
 ·rw[if_pos (by omega)]at hR
  exact hR w2 ⟨none,0,0⟩ (WdOk.nil _ _) b02
theorem one8{w:World}{v:Int}{K:World->Prop}(hK:∀w',IsS (Value.int .u8) w' ⟨some (blk w.heap.size),1,1⟩ [v]->Below w.heap.size w w'->K w'):Nw (w.alloc (.cells #[.int .u8 v] 5)) K:=
 zm λw1 h1 b1 _=>hK w1 (zgi (l:=[v]) h1 (by simp)) b1
theorem zm9{x:Ins}(h:IsPq w B pb A T C)(hR:MkR R w (if (tA T x.2.1).kind≠2 then([],100) else(if x.1=41 then [1] else [0],0))) :
  cR 69 #[.pointer (some (blk pb)),inA x] w R:=by
 refine za.of (zel _ x R w ?_) λ_ _ h=>h
 refine zm λw1 hI1 b1 z1=>?_
 have hI1:Blk w1 w.heap.size 52 (inV x):=hI1
 refine hI1.rI (n:=1) (x:=x.2.1) rfl ?_
 refine one8 λw2 hS b2=>?_
 refine zgV (s:=⟨some (blk w1.heap.size),1,1⟩) (h.below (b1.on b2)) hS λw3 b3=>?_
 refine⟨_,rfl,?_⟩
 have b03:=(b1.on b2).on b3
 refine zH (zC (λg=>?_) (λg=>?_))
 ·have g:(tA T x.2.1).kind=2:=by simpa using g
  rw[if_neg (λq=>q g)]at hR
  refine((hI1.below b2).below b3).rI0 rfl (zj (λe=>?_) (λe=>?_))
  all_goals
   refine zm λw4 h4 b4 z4=>?_
  ·have e:x.1=41:=e
   rw[if_pos e]at hR
   exact hR w4 _ (WdOk.blk (l:=[1]) h4 b03.size (by simp)) (b03.on b4)
  ·have e:¬x.1=41:=e
   rw[if_neg e]at hR
   exact hR w4 _ (WdOk.blk (l:=[0]) h4 b03.size (by simp)) (b03.on b4)
 ·have g:¬(tA T x.2.1).kind=2:=by simpa using g
  rw[if_pos g]at hR
  exact hR w3 ⟨none,0,0⟩ (WdOk.nil _ _) b03
theorem zlJ{x:Ins}{al:List Ag}(h:IsPq w B pb A T C)(ha:IsAg w x.2.2.2.1 al)(hl:(tA T x.2.1).kind=3->0<al.length)(hR:MkR R w (if (tA T x.2.1).kind≠3 then([],100) else([(al.getD 0 ag0).2.1],0))) :
  cR 70 #[.pointer (some (blk pb)),inA x] w R:=by
 refine za.of (zdG _ x R w ?_) λ_ _ h=>h
 refine zm λw1 hI1 b1 z1=>?_
 have hI1:Blk w1 w.heap.size 52 (inV x):=hI1
 refine hI1.rI (n:=1) (x:=x.2.1) rfl ?_
 refine one8 λw2 hS b2=>?_
 refine zgV (s:=⟨some (blk w1.heap.size),1,1⟩) (h.below (b1.on b2)) hS λw3 b3=>?_
 refine⟨_,rfl,?_⟩
 have b03:=(b1.on b2).on b3
 refine zH (zC (λg=>?_) (λg=>?_))
 ·have g:(tA T x.2.1).kind=3:=by simpa using g
  rw[if_neg (λq=>q g)]at hR
  have hl:=hl g
  refine((hI1.below b2).below b3).rS (n:=3) (x:=x.2.2.2.1) rfl ?_
  have ha3:IsAg w3 x.2.2.2.1 al:=IsC.below zG ha b03
  obtain⟨a,he⟩:=ha3.base hl
  have hc:=ha3.cell a he 0 hl 1 (by decide)
  refine⟨⟨by decide,by have:=ha3.len;omega⟩,zf he ⟨al[0].2.1,by rw[zt];exact hc,zm λw4 h4 b4 z4=>?_⟩⟩
  rw[zA hl]at hR
  exact hR w4 _ (WdOk.blk (l:=[al[0].2.1]) h4 b03.size (by simp)) (b03.on b4)
 ·have g:¬(tA T x.2.1).kind=3:=by simpa using g
  rw[if_pos g]at hR
  exact hR w3 ⟨none,0,0⟩ (WdOk.nil _ _) b03
end
end Go.Proofs
namespace Go.Proofs
open Go.Gk Go.RowKit Go.Gm
theorem Wl.app{w0 w:World}{r s:Sl}{D l:List Int}(h:Wl w0 w r D)(hs:IsS (Value.int .u32) w s l)(hl:D.length+l.length<=4398046511104){k:Sl->World->Prop}(hk:∀r' w',Wl w0 w' r' (D++l)->(∀b T cs,22≠T->Blk w b T cs->Blk w' b T cs)->k r' w') :
  zr Tryz.prog 30 (.slice r.a r.l r.c) (.slice s.a s.l s.c) w k:=by
 obtain⟨sa,sl,sc⟩:=s
 have hl1:sl=l.length:=hs.len
 have hl2:=h.len
 cases sa with
 |none=>
  have hc:sc=0:=hs.nil rfl
  have h2:sl<=sc:=hs.cap
  have h0:sl=0:=by omega
  subst h0
  have hnil:l=[]:=List.eq_nil_of_length_eq_zero hl1.symm
  subst hnil
  exact zm5 eU32 h.own (hk r w (by rw[List.append_nil];exact h) λb T cs _ q=>q)
 |some a=>
  refine Z3 eU32 h.own (m:=sl) (news:=l.map (Value.int .u32)) (by rw[List.length_map];omega) (λj u hj=>?_) (λu hu=>by obtain⟨x,_,rfl⟩:=List.mem_map.1 hu;rfl) (by omega) (by omega) λr' w' h1 hl' hg=>?_
  ·have hjl:j<l.length:=by have:=(List.getElem?_eq_some_iff.1 hj).1;rwa[List.length_map]at this
   rw[List.getElem?_map,List.getElem?_eq_getElem hjl]at hj
   cases hj
   exact hs.cell a rfl j hjl
  ·rw[<-List.map_append]at h1
   rcases hg with⟨e1,e2,e3⟩ | ⟨b',h3,h4,h5⟩
   ·subst e2
    refine hk r' w' ⟨h1,λa ha=>(by rw[e1]at ha;cases ha),h.below⟩ λb T cs _ q=>q
   ·have hbb:w0.heap.size<=b':=by
     rcases h4 with h4 |h4
     ·exact h.fr _ h4
     ·have:=h.below.size
      omega
    refine hk r' w' ⟨h1,λa ha=>(by rw[h3]at ha;cases ha;exact hbb),h.below.trans (yD h5 hbb h.below.size)⟩ λb T cs hne hB=>hB.of_block (h5.block _ hB.lt λe=>?_)
    have e:=Option.some.inj e
    subst e
    rcases h4 with h4 |h4
    ·exact zaE h.own hB hne h4
    ·have:=hB.lt
     omega
section
variable {w:World} {B pb k:Nat} {A:Nat->Prop} {T:TyL} {C:CnL} {R:VWP} {pl:List PI} {t:Sl} {bd:Int}
theorem zjU{j:Nat}(h:(catC T C pl k j).2=0)(he:(ofC C (agI pl k j) ((tA T (ix pl k).2.1).prt (j:Int)).1).2≠0):∀n,j<n->catC T C pl k n=([],(ofC C (agI pl k j) ((tA T (ix pl k).2.1).prt (j:Int)).1).2)
 | 0,hn=>by omega
 |n+1,hn=>by
  by_cases e:j=n
  ·subst e
   show(if (catC T C pl k j).2≠0 then _ else if _≠0 then _ else _)=_
   rw[if_neg (λq=>q h),if_pos he]
  ·have ih:=zjU h he n (by omega)
   show(if (catC T C pl k n).2≠0 then catC T C pl k n else if _≠0 then _ else _)=_
   rw[ih,if_pos he]
theorem zlj{j:Nat}(h:(catC T C pl k j).2=0)(he:(ofC C (agI pl k j) ((tA T (ix pl k).2.1).prt (j:Int)).1).2=0):catC T C pl k (j+1)=((catC T C pl k j).1++(ofC C (agI pl k j) ((tA T (ix pl k).2.1).prt (j:Int)).1).1,0):=by
 show(if (catC T C pl k j).2≠0 then _ else if _≠0 then _ else _)=_
 rw[if_neg (λq=>q h),if_neg (λq=>q he)]
set_option maxHeartbeats 1000000 in
theorem zjk(h:IsPq w B pb A T C)(hT:TbOk T)(hk:k<pl.length)(ht:IsAg w t pl[k].2.2.2)(hn:pl[k].2.2.2.length<=65535)(hL:∀id c,zv C id=some c->c.2.length<=4096)
  (hR:MkR R w (if ¬(4<=(tA T (ix pl k).2.1).kind/\(tA T (ix pl k).2.1).kind<=6) then([],100) else if (ix pl k).2.2.2.length≠(tA T (ix pl k).2.1).cnt then([],111) else catC T C pl k (ix pl k).2.2.2.length)) :
  cR 71 #[.pointer (some (blk pb)),inA (mkIn pl[k] t)] w R:=by
 refine za.of (zct _ (mkIn pl[k] t) R w ?_) λ_ _ h=>h
 have hix:=zK hk
 refine zm λw1 hI1 b1 z1=>?_
 have hI1:Blk w1 w.heap.size 52 (inV (mkIn pl[k] t)):=hI1
 refine hI1.rI (n:=1) (x:=pl[k].2.1) rfl ?_
 refine zm λw2 hS b2 z2=>?_
 have hS:IsS (Value.int .u8) w2 ⟨some (blk w1.heap.size),3,3⟩ [4,5,6]:=zgi (l:=[4,5,6]) hS (by simp)
 refine zgV (s:=⟨some (blk w1.heap.size),3,3⟩) (h.below (b1.on b2)) hS λw3 b3=>?_
 refine⟨_,rfl,?_⟩
 have b03:=(b1.on b2).on b3
 have hI3:=(hI1.below b2).below b3
 have eK:([4,5,6]:List Int).contains (tA T pl[k].2.1).kind=decide (4<=(tA T (ix pl k).2.1).kind/\(tA T (ix pl k).2.1).kind<=6):=by
  rw[hix]
  generalize (tA T pl[k].2.1).kind=q
  rw[Bool.eq_iff_iff,List.contains_iff_mem,decide_eq_true_eq]
  simp only[List.mem_cons,List.not_mem_nil,or_false]
  omega
 rw[eK]
 refine zH (zk (λg=>?_) (λg=>?_))
 rotate_left
 ·rw[if_pos g]at hR
  exact hR w3 ⟨none,0,0⟩ (WdOk.nil _ _) b03
 rw[if_neg (λq=>q g)]at hR
 have P3:=(h.below b03).drew
 have P3':=P3
 obtain⟨tb,r,r2,o1,o2,h1,h2,h3⟩:=P3'
 refine hI3.drew.rS (n:=3) (x:=t) rfl (zf rfl ⟨_,h1.cell0 rfl,hI3.drew.rI (n:=1) (x:=pl[k].2.1) rfl (zmn h2 hT λw4 b4=>?_)⟩)
 have b04:=(b03.drew).on b4
 have hI4:=hI3.drew.below b4
 refine⟨_,rfl,hI4.cell (n:=3) rfl,?_⟩
 have ht4:IsAg w4 t pl[k].2.2.2:=IsC.below zG ht b04
 have htl:=ht4.len
 have eL:(ix pl k).2.2.2=pl[k].2.2.2:=by rw[hix]
 rw[eL]at hR
 have eT:(ix pl k).2.1=pl[k].2.1:=by rw[hix]
 refine zp (λg2=>?_) (λg2=>?_)
 ·rw[if_pos (by rw[eT];omega)]at hR
  exact hR w4 ⟨none,0,0⟩ (WdOk.nil _ _) b04
 rw[if_neg (by rw[eT];omega)]at hR
 refine hI4.rS (n:=3) (x:=t) rfl ?_
 refine zn.ghost (λm (st:Sl×Int×Unit) w'=>∃(r:Sl) (j:Nat),st=(r,(j:Int),())/\j<=pl[k].2.2.2.length/\m=pl[k].2.2.2.length-j/\(catC T C pl k j).2=0/\Wl w4 w' r (catC T C pl k j).1/\Blk w' w.heap.size 52 (inV (mkIn pl[k] t))) pl[k].2.2.2.length ⟨⟨none,0,0⟩,0,rfl,Nat.zero_le _,rfl,rfl,Wl.nil w4,hI4⟩ ?_
 rintro _ _ w5 ⟨r,j,rfl,hj,rfl,hj0,hW,hI5⟩ next hnext
 have b05:=b04.on hW.below
 refine zk (λg=>?_) (λg=>?_)
 ·have hjl:j<pl[k].2.2.2.length:=by dsimp only at g;omega
  have eA:agI pl k j=pl[k].2.2.2[j].2.1:=by
   unfold agI
   rw[eL,zA hjl]
  refine zcU (IsC.below zG ht b05) hjl (box3 rfl λw9 h9 b9 z9=>?_)
  obtain⟨tb',r',r2',o1',o2',p1,p2,p3⟩:=((h.below b05).below b9).drew
  have hI9:=hI5.below b9
  refine zf rfl ⟨_,p1.cell0 rfl,hI9.drew.rI (n:=1) (x:=pl[k].2.1) rfl (zjf p2 hT λw10 b10=>?_)⟩
  refine⟨_,_,rfl,(h9.drew.below b10).rI (n:=1) (x:=pl[k].2.2.2[j].2.1) rfl ?_⟩
  have b510:=((b9.drew).on b10)
  refine zpm (h.below (b05.on b510)) λw11 s hs b11=>?_
  rw[<-eT,<-eA]at hs⊢
  refine⟨s,_,rfl,zp (λhe=>?_) (λhe=>?_)⟩
  ·have:=zjU hj0 he _ hjl
   rw[this]at hR
   exact hR w11 ⟨none,0,0⟩ (WdOk.nil _ _) ((b05.on b510).on b11)
  ·have hlen:=zli (T:=T) (pl:=pl) (k:=k) hL j
   have hlen2:=znq hL (agI pl k j) ((tA T (ix pl k).2.1).prt (j:Int)).1
   have hmul:j*4096<=65535*4096:=Nat.mul_le_mul_right _ (by omega)
   have hsum:(catC T C pl k j).1.length+(ofC C (agI pl k j) ((tA T (ix pl k).2.1).prt (j:Int)).1).1.length<=4398046511104:=by omega
   refine((hW.on b510).on b11).app hs.is hsum λr' w12 hW12 hkeep=>?_
   dsimp only
   rw[zz (by omega)]
   refine hnext (pl[k].2.2.2.length-(j+1)) _ w12 (by omega) ⟨r',j+1,rfl,by omega,rfl,?_⟩
   rw[zlj hj0 he]
   exact⟨rfl,hW12,hkeep _ _ _ (by decide) ((hI9.drew.below b10).below b11)⟩
 ·have hje:j=pl[k].2.2.2.length:=by dsimp only at g;omega
  subst hje
  have:=hR w5 r (WdOk.own hW.own λy hy=>Nat.le_trans b04.size (hW.fr y hy)) b05
  rw[hj0]at this
  exact this
theorem IsPq.low(h:IsPq w B pb A T C):IsPq w B pb (λb=>A b/\b<w.heap.size) T C:=by
 obtain⟨tb,r,r2,o1,o2,h1,h2,h3⟩:=h
 exact⟨tb,r,r2,o1,o2,h1,h2,h3.keep rfl (λb q1 q2=>⟨rfl,q1,q2⟩) (Nat.le_refl _)⟩
def HdR(R:VWP)(w:World)(A:Nat->Prop)(p:Vn×Int):Prop:=∀w' v,VvOk (λb=>A b\/w.heap.size<=b) w' v p.1->Below w.heap.size w w'->R (.tuple #[.agg #[.int .u32 v.1,.int .u32 v.2.1,.slice v.2.2.1.a v.2.2.1.l v.2.2.1.c],.int .i64 p.2]) w'
theorem VvOk.nil(A:Nat->Prop)(w:World):VvOk A w vv0 (0,0,[]):=⟨rfl,rfl,WdOk.nil A w⟩
theorem Vv.load{b:Nat}{Ty:TypeId}{v:Vv}(h:Blk w b Ty (vvV v)){φ:Int->Int->Sl->Prop}(hφ:φ v.1 v.2.1 v.2.2.1):ldI w ((blk b).add 0) .u32 λx1=>ldI w ((blk b).add 1) .u32 λx2=>ldS w ((blk b).add 2) λx3=>φ x1 x2 x3:=
 ⟨_,h.cell (n:=0) rfl,_,h.cell (n:=1) rfl,_,h.cell (n:=2) rfl,hφ⟩
theorem zog(h:IsPq w B pb A T C)(hT:TbOk T)(hk:k<pl.length)(ht:IsAg w t pl[k].2.2.2)(hn:1<=pl[k].2.2.2.length)(hR:HdR R w A (varC T C pl k)) :
  cR 72 #[.pointer (some (blk pb)),inA (mkIn pl[k] t)] w R:=by
 refine za.of (zej _ (mkIn pl[k] t) R w ?_) λ_ _ h=>h
 have hix:=zK hk
 have eL:(ix pl k).2.2.2=pl[k].2.2.2:=by rw[hix]
 have eT:(ix pl k).2.1=pl[k].2.1:=by rw[hix]
 refine zm λw1 hI1 b1 z1=>?_
 have hI1:Blk w1 w.heap.size 52 (inV (mkIn pl[k] t)):=hI1
 refine zm λw2 hO2 b2 z2=>?_
 have hO2:Blk w2 w1.heap.size 85 (vvV vv0):=hO2
 have b02:=b1.on b2
 have h02:=(h.below b02).drew
 have h02':=h02
 obtain⟨tb,r,r2,o1,o2,q1,q2,q3⟩:=h02'
 refine zf rfl ⟨_,q1.cell0 rfl,(hI1.below b2).drew.rI (n:=1) (x:=pl[k].2.1) rfl (zmm q2 λw3 b3=>?_)⟩
 have b03:=(b02.drew).on b3
 have hI3:=(hI1.below b2).drew.below b3
 have hO3:=hO2.drew.below b3
 refine⟨_,_,rfl,?_⟩
 unfold varC at hR
 rw[eL,eT]at hR
 refine zH (zj (λg=>?_) (λg=>?_))
 rotate_left
 ·rw[if_pos g]at hR
  refine st3 hO3 rfl λw6 h6 c6=>Vv.load (v:=vv0) h6 ?_
  exact hR w6 vv0 (VvOk.nil _ _) (c6.below b03 (by omega))
 rw[if_neg (λq=>q g)]at hR
 have ht3:IsAg w3 t pl[k].2.2.2:=IsC.below zG ht b03
 refine hI3.rS (n:=3) (x:=t) rfl ?_
 obtain⟨a,he⟩:=ht3.base hn
 have hc:=ht3.cell a he 0 hn 1 (by decide)
 refine⟨⟨by decide,by have:=ht3.len;omega⟩,zf he ⟨pl[k].2.2.2[0].2.1,by rw[zt];exact hc,?_⟩⟩
 have eC:agI pl k 0=pl[k].2.2.2[0].2.1:=by
  unfold agI
  rw[eL,zA hn]
 rw[<-eC]
 refine box3 rfl λw10 hV10 b10 z10=>?_
 have b010:=b03.on b10
 have h010:=(h.below b010).drew
 obtain⟨tb',r',r2',o1',o2',p1,p2,p3⟩:=h010
 have hI10:=hI3.below b10
 refine zf rfl ⟨_,p1.cell0 rfl,hI10.drew.rI (n:=1) (x:=pl[k].2.1) rfl (zjf (k:=0) p2 hT λw11 b11=>?_)⟩
 refine⟨_,_,rfl,?_⟩
 have hV11:=hV10.drew.below b11
 refine⟨hV11.wr (n:=1) (by show 1<3;decide),Nw.gen λw12 e12=>?_⟩
 have c12:Chg w3.heap.size w11 w12:=by rw[e12];exact Chg.set _ _ _ _
 have hV12:Blk w12 w3.heap.size 85 (vvV (agI pl k 0,((tA T pl[k].2.1).prt 0).1,⟨none,0,0⟩,())):=by rw[e12];exact hV11.set 1 _
 have b011:=(b010.drew).on b11
 have s03:=b03.size
 have b012:Below w.heap.size w w12:=c12.below b011 (by omega)
 have lt3:w1.heap.size<w3.heap.size:=hO3.lt
 have hI12:Blk w12 w.heap.size 52 (inV (mkIn pl[k] t)):=c12.blk (hI10.drew.below b11) (by omega)
 have hO12:Blk w12 w1.heap.size 85 (vvV vv0):=c12.blk ((hO3.below b10).drew.below b11) (by omega)
 have htl:=ht3.len
 generalize hS:(tA T pl[k].2.1).prt 0=pr at hV12 hR⊢
 refine zl.cut (λ(_:Unit) w'=>w12=w'/\¬((tA T pl[k].2.1).cls≠agI pl k 0\/(1<pl[k].2.2.2.length/\(tA T pl[k].2.1).cls=1))) ?_ ?_
 ·have bad:(tA T pl[k].2.1).cls≠agI pl k 0\/(1<pl[k].2.2.2.length/\(tA T pl[k].2.1).cls=1)->∀w15,Below w.heap.size w w15->R (.tuple #[.agg #[.int .u32 vv0.1,.int .u32 vv0.2.1,.slice vv0.2.2.1.a vv0.2.2.1.l vv0.2.2.1.c],.int .i64 112]) w15:=λg w15 hb=>by
   rw[if_pos g]at hR
   exact hR w15 vv0 (VvOk.nil _ _) hb
  refine hV12.rI0 rfl (zp (λg1=>?_) (λg1=>?_))
  ·exact st3 hO12 rfl λw15 h15 c15=>Vv.load (v:=vv0) h15 (bad (.inl g1) w15 (c15.below b012 (by omega)))
  refine hI12.rS (n:=3) (x:=t) rfl (zk (λg2=>zj (λg3=>?_) (λg3=>⟨rfl,?_⟩)) (λg2=>⟨rfl,?_⟩))
  ·exact st3 hO12 rfl λw15 h15 c15=>Vv.load (v:=vv0) h15 (bad (.inr ⟨by omega,g3⟩) w15 (c15.below b012 (by omega)))
  ·rintro(q |q)
   ·exact q g1
   ·exact g3 q.2
  ·rintro(q |q)
   ·exact q g1
   ·omega
 rintro _ w19 ⟨rfl,g⟩
 rw[if_neg g]at hR
 refine hI12.rS (n:=3) (x:=t) rfl (zj (λg1=>?_) (λg1=>?_))
 ·rw[if_pos (by omega)]at hR
  obtain⟨tb2,r2,r22,o12,o22,u1,u2,u3⟩:=(h.below b012).drew
  refine zf rfl ⟨_,u1.cell0 rfl,hV12.drew.rI (n:=1) rfl (zjg u2 λw20 b20=>⟨_,rfl,?_⟩)⟩
  have hmx:=zdU hT pr.1
  refine zpj (n:=(tA T pr.1).size) (by omega) λw21 h21 b21=>?_
  have b1221:=((Below.refl w12.heap.size w12).drew.on b20).on b21
  have hV21:=hV12.below b1221
  rw[zt]
  refine⟨hV21.wr (n:=2) (by show 2<3;decide),Nw.gen λw22 e22=>?_⟩
  have c22:Chg w3.heap.size w21 w22:=by rw[e22];exact Chg.set _ _ _ _
  have hV22:Blk w22 w3.heap.size 85 (vvV (agI pl k 0,pr.1,⟨some (Gk.blk w20.heap.size),Int.toNat ((tA T pr.1).size:Int),Int.toNat ((tA T pr.1).size:Int)⟩,())):=by rw[e22];exact hV21.set 2 _
  have hO22:=c22.blk (hO12.below b1221) (by omega)
  have lt12:=hV12.lt
  have s20:=((Below.refl w12.heap.size w12).drew.on b20).size
  have h22:Blk w22 w20.heap.size 22 (List.replicate (tA T pr.1).size (.int .u32 0)):=c22.blk h21 (by omega)
  refine Vv.load hV22 (st3 hO22 rfl λw25 h25 c25=>Vv.load (v:=(agI pl k 0,pr.1,⟨some (Gk.blk w20.heap.size),Int.toNat ((tA T pr.1).size:Int),Int.toNat ((tA T pr.1).size:Int)⟩,())) h25 ?_)
  have b022:Below w.heap.size w w22:=c22.below (b012.on b1221) (by omega)
  have h25b:Blk w25 w20.heap.size 22 ((List.replicate (tA T pr.1).size (0:Int)).map (Value.int .u32)):=by rw[zpn];exact c25.blk h22 (by omega)
  have q:=WdOk.blk (A:=λb=>A b\/w.heap.size<=b) h25b (.inr (by omega)) (by rw[List.length_replicate];have:=zdU hT pr.1;omega)
  rw[List.length_replicate]at q
  exact hR w25 (agI pl k 0,pr.1,⟨some (Gk.blk w20.heap.size),Int.toNat ((tA T pr.1).size:Int),Int.toNat ((tA T pr.1).size:Int)⟩,()) ⟨rfl,rfl,q⟩ (c25.below b022 (by omega))
 ·rw[if_neg (by omega)]at hR
  refine hI12.drew.rS (n:=3) (x:=t) rfl ?_
  have ht12:IsAg w12.drew t pl[k].2.2.2:=IsC.below zG ht b012.drew
  have hn1:1<pl[k].2.2.2.length:=by omega
  obtain⟨a2,he2⟩:=ht12.base hn1
  have hc2:=ht12.cell a2 he2 1 hn1 1 (by decide)
  have eC2:agI pl k 1=pl[k].2.2.2[1].2.1:=by
   unfold agI
   rw[eL,zA hn1]
  refine⟨⟨by decide,by omega⟩,zf he2 ⟨pl[k].2.2.2[1].2.1,by rw[zt];exact hc2,hV12.drew.rI (n:=1) rfl ?_⟩⟩
  rw[<-eC2]
  refine zpm ((h.low.below b012).drew) λw26 s hs b26=>⟨s,_,rfl,?_⟩
  have b1226:=(Below.refl w12.heap.size w12).drew.on b26
  have hV26:=hV12.below b1226
  rw[zt]
  refine⟨hV26.wr (n:=2) (by show 2<3;decide),Nw.gen λw27 e27=>?_⟩
  have c27:Chg w3.heap.size w26 w27:=by rw[e27];exact Chg.set _ _ _ _
  have hV27:Blk w27 w3.heap.size 85 (vvV (agI pl k 0,pr.1,s,())):=by rw[e27];exact hV26.set 2 _
  have hO27:=c27.blk (hO12.below b1226) (by omega)
  refine Vv.load hV27 (st3 hO27 rfl λw30 h30 c30=>Vv.load (v:=(agI pl k 0,pr.1,s,())) h30 ?_)
  have b027:Below w.heap.size w w27:=c27.below (b012.on b1226) (by omega)
  have lt12:=hV12.lt
  refine hR w30 (agI pl k 0,pr.1,s,()) ⟨rfl,rfl,?_⟩ (c30.below b027 (by omega))
  refine(hs.keep (w':=w30) (A':=λb=>A b\/w.heap.size<=b) (λb q _=>⟨(c30.block b (by omega)).trans (c27.block b (by omega)),.inl q.1⟩) ?_)
  rw[c30.size,c27.size]
  exact Nat.le_refl _
end
end Go.Proofs
namespace Go.Proofs
open Go.Gk Go.RowKit Go.Gm
abbrev mkF(pb f:Nat):Value:=.func (.func f) #[.pointer (some (Gk.blk pb))] #[]
abbrev mkL(pb:Nat):List (Int×Value):=[(1,mkF pb 68),(46,mkF pb 68),(41,mkF pb 69),(42,mkF pb 69),(43,mkF pb 70),(44,mkF pb 71)]
abbrev zqi(w:World)(r pb:Nat):Prop:=IsMg (κ:=Int) w r (Value.int .u16) BK.raw.v (mkL pb)
theorem uMk:Tryz.prog.underlying 103=some (.map 46 143):=by kernel_rfl
theorem uU16:Tryz.prog.underlying 46=some (.int .u16):=by kernel_rfl
theorem zMk:∃i,Tryz.prog.info? 143=some i/\i.zero=some (BK.raw.v .nilFunc):=by
 have h:(Tryz.prog.info? 143).map (·.zero)=some (some .nilFunc):=by kernel_rfl
 cases hi:Tryz.prog.info? 143 with
 |none=>rw[hi]at h;cases h
 |some i=>rw[hi]at h;exact⟨i,rfl,by injection h⟩
theorem zlI{w:World}{pb:Nat}{R:VWP}(hR:∀w',zqi w' w.heap.size pb->Below w.heap.size w w'->R (.map (some w.heap.size)) w') :
  cR 50 #[.pointer (some (blk pb))] w R:=by
 refine za.of (zdF _ R w ?_) λ_ _ h=>h
 refine Nw.gen λw1 e1=>?_
 have h1:IsMg (κ:=Int) w1 w.heap.size (Value.int .u16) BK.raw.v []:=by rw[e1];exact IsMg.new w _ _
 have b1:Below w.heap.size w w1:=by rw[e1];exact(Below.refl _ _).alloc (Nat.le_refl _) _
 refine zfg (zgU .u16) uMk uU16 h1 rfl rfl λw2 h2 c2=>?_
 refine zfg (zgU .u16) uMk uU16 h2 rfl rfl λw3 h3 c3=>?_
 refine zfg (zgU .u16) uMk uU16 h3 rfl rfl λw4 h4 c4=>?_
 refine zfg (zgU .u16) uMk uU16 h4 rfl rfl λw5 h5 c5=>?_
 refine zfg (zgU .u16) uMk uU16 h5 rfl rfl λw6 h6 c6=>?_
 refine zfg (zgU .u16) uMk uU16 h6 rfl rfl λw7 h7 c7=>?_
 have n:=Nat.le_refl w.heap.size
 exact hR w7 h7 (c7.below (c6.below (c5.below (c4.below (c3.below (c2.below b1 n) n) n) n) n) n)
abbrev Al(E:Nat)(o1 o2:Sl)(b:Nat):Prop:=E<=b/\o1.a≠some (Gk.blk b)/\o2.a≠some (Gk.blk b)
structure Gp (w0 w:World) (tb:Nat) (o1 o2:Sl) (L1 L2:List Int) (C:CnL) (V:VnL):Prop where
 below:Below w0.heap.size w0 w
 sz:w0.heap.size+4<=w.heap.size
 pool:Blk w (w0.heap.size+2) 80 [.pointer (some (Gk.blk tb)),.slice o1.a o1.l o1.c,.map (some w0.heap.size),.slice o2.a o2.l o2.c,.map (some (w0.heap.size+1))]
 own1:Own w 22 1 o1 (L1.map (Value.int .u32))
 own2:Own w 22 1 o2 (L2.map (Value.int .u32))
 fr1:zM (w0.heap.size+4) o1
 fr2:zM (w0.heap.size+4) o2
 ap:∀b,o1.a=some (Gk.blk b)->o2.a≠some (Gk.blk b)
 cn:IsCn w (Al (w0.heap.size+4) o1 o2) w0.heap.size C
 vn:IsVn w (Al (w0.heap.size+4) o1 o2) (w0.heap.size+1) V
 mks:zqi w (w0.heap.size+3) (w0.heap.size+2)
section
variable {w0 w w':World} {tb B:Nat} {o1 o2:Sl} {L1 L2:List Int} {C:CnL} {V:VnL} {T:TyL}
theorem Gp.on(h:Gp w0 w tb o1 o2 L1 L2 C V)(hb:Below w.heap.size w w'):Gp w0 w' tb o1 o2 L1 L2 C V:=
 ⟨h.below.on hb,Nat.le_trans h.sz hb.size,h.pool.below hb,h.own1.below hb,h.own2.below hb,h.fr1,h.fr2,h.ap,h.cn.below hb,h.vn.below hb,h.mks.below hb⟩
theorem Gp.drew(h:Gp w0 w tb o1 o2 L1 L2 C V):Gp w0 w.drew tb o1 o2 L1 L2 C V:=h.on (Below.refl _ _).drew
theorem Gp.pq(h:Gp w0 w tb o1 o2 L1 L2 C V)(hT:IsTb w0 B tb T):IsPq w B (w0.heap.size+2) (Al (w0.heap.size+4) o1 o2) T C:=
 ⟨tb,w0.heap.size,w0.heap.size+1,o1,o2,h.pool,hT.below h.below,h.cn⟩
theorem Gp.new(h:Gp w0 w tb o1 o2 L1 L2 C V){b:Nat}(hb:w.heap.size<=b):Al (w0.heap.size+4) o1 o2 b:=
 ⟨Nat.le_trans h.sz hb,λe=>by have:=(h.own1.lt e).2;have:b<w.heap.size:=this;omega,λe=>by have:=(h.own2.lt e).2;have:b<w.heap.size:=this;omega⟩
theorem zl3{s t:Sl}{T:TypeId}{sz:Nat}{xs:List Value}(h:Own w T sz s xs)(hap:∀b,s.a=some (Gk.blk b)->t.a≠some (Gk.blk b)){a:Addr}(ha:s.a=some a)(e:t.a=some (Gk.blk a.block)):False:=by
 have:=(h.lt ha).1
 exact hap a.block (by rw[ha,this]) e
theorem Gp.push2(h:Gp w0 w tb o1 o2 L1 L2 C V){id:Int}{b:Nat}(hB:Blk w b 22 [.int .u32 id])(hl:L2.length<=4398046511104){K:World->Prop}
  (hK:∀r w',Gp w0 w' tb o1 r L1 (L2++[id]) C V->(∀c T cs,22≠T->c≠w0.heap.size+2->Blk w c T cs->Blk w' c T cs)->(∀s l,WdOk (Al (w0.heap.size+4) o1 o2) w s l->WdOk (Al (w0.heap.size+4) o1 r) w' s l)->w.heap.size<=w'.heap.size->K w') :
  zr Tryz.prog 30 (.slice o2.a o2.l o2.c) (.slice (some (blk b)) 1 1) w λr w8=>ze (some (blk (w0.heap.size+2))) λa=>Wr w8 (a.add 3)/\Nw (w8.setCell (a.add 3) (.slice r.a r.l r.c)) K:=by
 have hlo:=h.own2.1
 rw[List.length_map]at hlo
 have hsz:=h.sz
 refine zgp eU32 h.own2 (vs:=[.int .u32 id]) rfl (λu hu=>by rw[List.mem_singleton.1 hu];rfl) hB (by omega) (by omega) λr w8 b' hO ha hb' hbel hkeep=>?_
 have hge:w0.heap.size+4<=b':=by
  rcases hb' with e |e
  ·exact h.fr2 _ e
  ·omega
 have hs8:w.heap.size<=w8.heap.size:=(hbel 0 (Nat.zero_le _) (Nat.zero_le _)).size
 have nb:∀{c:Nat},c<w.heap.size->c≠b'->w8.heap[c]? =w.heap[c]?:=λh1 h2=>hkeep _ h1 h2
 have P8:=h.pool.of_block (nb h.pool.lt (by omega))
 refine zf rfl ⟨P8.wr (n:=3) (by show 3<5;decide),Nw.gen λw9 e9=>?_⟩
 have c9:Chg (w0.heap.size+2) w8 w9:=by rw[e9];exact Chg.set _ _ _ _
 have P9:=P8.set 3 (Value.slice r.a r.l r.c)
 rw[<-e9]at P9
 have s9:=c9.size
 have alA:∀c,Al (w0.heap.size+4) o1 o2 c->c<w.heap.size->w9.heap[c]? =w.heap[c]?/\Al (w0.heap.size+4) o1 r c:=λc h1 h2=>by
  have hne:c≠b':=λe=>by
   rcases hb' with e2 |e2
   ·exact h1.2.2 (by rw[e2,e])
   ·omega
  exact⟨(c9.block _ (by have:=h1.1;omega)).trans (nb h2 hne),⟨h1.1,h1.2.1,λq=>hne (by rw[ha]at q;injection q with q;injection q with q;exact q.symm)⟩⟩
 have one:∀a,o1.a=some a->a.block≠b':=λa h1 e=>by
  rcases hb' with e2 |e2
  ·exact zl3 h.own1 (h.ap) h1 (by rw[e];exact e2)
  ·have:=(h.own1.lt h1).2
   omega
 have apn:∀c,o1.a=some (Gk.blk c)->r.a≠some (Gk.blk c):=λc h1 h2=>by
  rw[ha]at h2
  have e:b'=c:=by injection h2 with h2;injection h2 with h2
  exact one _ h1 e.symm
 have old:∀c,c<w.heap.size->c≠b'->c≠w0.heap.size+2->w9.heap[c]? =w.heap[c]?:=λc h1 h2 h3=>(c9.block _ h3).trans (nb h1 h2)
 refine hK r w9 ⟨c9.below (h.below.trans (hbel _ (by omega) (by omega))) (by omega),by omega,P9,h.own1.of_block λa h1=>old _ (h.own1.lt h1).2 (one a h1) (by have:=h.fr1 a h1;omega),by rw[List.map_append];exact hO.of_block λa h1=>c9.block _ (by rw[ha]at h1;cases h1;show b'≠_;omega),h.fr1,λa h1=>(by rw[ha]at h1;cases h1;exact hge),apn,?_,?_,h.mks.of_block (old _ h.mks.lt (by omega) (by omega))⟩ (λc T cs hT hc hq=>?_) (λs l hq=>hq.keep alA (by omega)) (by omega)
 ·exact h.cn.keep (old _ h.cn.lt (by omega) (by omega)) alA (by omega)
 ·exact h.vn.keep (old _ h.vn.lt (by omega) (by omega)) alA (by omega)
 ·refine hq.of_block (old _ hq.lt (λe=>?_) hc)
  subst e
  rcases hb' with e2 |e2
  ·exact zaE h.own2 hq hT e2
  ·have:=hq.lt
   omega
theorem Gp.push1(h:Gp w0 w tb o1 o2 L1 L2 C V){id:Int}{b:Nat}(hB:Blk w b 22 [.int .u32 id])(hl:L1.length<=4398046511104){K:World->Prop}
  (hK:∀r w',Gp w0 w' tb r o2 (L1++[id]) L2 C V->(∀c T cs,22≠T->c≠w0.heap.size+2->Blk w c T cs->Blk w' c T cs)->(∀s l,WdOk (Al (w0.heap.size+4) o1 o2) w s l->WdOk (Al (w0.heap.size+4) r o2) w' s l)->w.heap.size<=w'.heap.size->K w') :
  zr Tryz.prog 30 (.slice o1.a o1.l o1.c) (.slice (some (blk b)) 1 1) w λr w8=>ze (some (blk (w0.heap.size+2))) λa=>Wr w8 (a.add 1)/\Nw (w8.setCell (a.add 1) (.slice r.a r.l r.c)) K:=by
 have hlo:=h.own1.1
 rw[List.length_map]at hlo
 have hsz:=h.sz
 refine zgp eU32 h.own1 (vs:=[.int .u32 id]) rfl (λu hu=>by rw[List.mem_singleton.1 hu];rfl) hB (by omega) (by omega) λr w8 b' hO ha hb' hbel hkeep=>?_
 have hge:w0.heap.size+4<=b':=by
  rcases hb' with e |e
  ·exact h.fr1 _ e
  ·omega
 have hs8:w.heap.size<=w8.heap.size:=(hbel 0 (Nat.zero_le _) (Nat.zero_le _)).size
 have nb:∀{c:Nat},c<w.heap.size->c≠b'->w8.heap[c]? =w.heap[c]?:=λh1 h2=>hkeep _ h1 h2
 have P8:=h.pool.of_block (nb h.pool.lt (by omega))
 refine zf rfl ⟨P8.wr (n:=1) (by show 1<5;decide),Nw.gen λw9 e9=>?_⟩
 have c9:Chg (w0.heap.size+2) w8 w9:=by rw[e9];exact Chg.set _ _ _ _
 have P9:=P8.set 1 (Value.slice r.a r.l r.c)
 rw[<-e9]at P9
 have s9:=c9.size
 have alA:∀c,Al (w0.heap.size+4) o1 o2 c->c<w.heap.size->w9.heap[c]? =w.heap[c]?/\Al (w0.heap.size+4) r o2 c:=λc h1 h2=>by
  have hne:c≠b':=λe=>by
   rcases hb' with e2 |e2
   ·exact h1.2.1 (by rw[e2,e])
   ·omega
  exact⟨(c9.block _ (by have:=h1.1;omega)).trans (nb h2 hne),⟨h1.1,λq=>hne (by rw[ha]at q;injection q with q;injection q with q;exact q.symm),h1.2.2⟩⟩
 have one:∀a,o2.a=some a->a.block≠b':=λa h1 e=>by
  rcases hb' with e2 |e2
  ·exact zl3 h.own2 (λc q1 q2=>h.ap c q2 q1) h1 (by rw[e];exact e2)
  ·have:=(h.own2.lt h1).2
   omega
 have apn:∀c,o2.a=some (Gk.blk c)->r.a≠some (Gk.blk c):=λc h1 h2=>by
  rw[ha]at h2
  have e:b'=c:=by injection h2 with h2;injection h2 with h2
  exact one _ h1 e.symm
 have old:∀c,c<w.heap.size->c≠b'->c≠w0.heap.size+2->w9.heap[c]? =w.heap[c]?:=λc h1 h2 h3=>(c9.block _ h3).trans (nb h1 h2)
 refine hK r w9 ⟨c9.below (h.below.trans (hbel _ (by omega) (by omega))) (by omega),by omega,P9,by rw[List.map_append];exact hO.of_block λa h1=>c9.block _ (by rw[ha]at h1;cases h1;show b'≠_;omega),h.own2.of_block λa h1=>old _ (h.own2.lt h1).2 (one a h1) (by have:=h.fr2 a h1;omega),λa h1=>(by rw[ha]at h1;cases h1;exact hge),h.fr2,λc h1 h2=>apn c h2 h1,?_,?_,h.mks.of_block (old _ h.mks.lt (by omega) (by omega))⟩ (λc T cs hT hc hq=>?_) (λs l hq=>hq.keep alA (by omega)) (by omega)
 ·exact h.cn.keep (old _ h.cn.lt (by omega) (by omega)) alA (by omega)
 ·exact h.vn.keep (old _ h.vn.lt (by omega) (by omega)) alA (by omega)
 ·refine hq.of_block (old _ hq.lt (λe=>?_) hc)
  subst e
  rcases hb' with e2 |e2
  ·exact zaE h.own1 hq hT e2
  ·have:=hq.lt
   omega
end
end Go.Proofs
namespace Go.Proofs
open Go.Gk Go.RowKit Go.Gm
section
variable {w0 w w':World} {tb B k:Nat} {o1 o2:Sl} {L1 L2:List Int} {C:CnL} {V:VnL} {T:TyL} {pl:List PI} {t:Sl} {bd:Int} {R:VWP}
theorem Gp.setV(h:Gp w0 w tb o1 o2 L1 L2 C V){id:Int}{v:Vv}{vn:Vn}(hv:VvOk (Al (w0.heap.size+4) o1 o2) w v vn){K:World->Prop}(hK:∀w',Gp w0 w' tb o1 o2 L1 L2 C (setQ V id vn)->K w') :
  updW Tryz.prog 78 (.map (some (w0.heap.size+1))) (.int .u32 id) (.agg #[.int .u32 v.1,.int .u32 v.2.1,.slice v.2.2.1.a v.2.2.1.l v.2.2.1.c]) w K:=by
 obtain⟨Vl,V1,V2⟩:=h.vn
 refine zjB (f:=aggQ vvK) (v:=(v:Vv)) uVn zlT V1 rfl λw1 V3 c=>hK w1 ?_
 have c:Chg (w0.heap.size+1) w w1:=c
 have hs:=c.size
 have al:∀b,Al (w0.heap.size+4) o1 o2 b->b<w.heap.size->w1.heap[b]? =w.heap[b]?/\Al (w0.heap.size+4) o1 o2 b:=λb h1 _=>⟨c.block _ (by have:=h1.1;omega),h1⟩
 refine⟨c.below h.below (by omega),by have:=h.sz;omega,c.blk h.pool (by omega),h.own1.of_block λa ha=>c.block _ (by have:=h.fr1 a ha;omega),h.own2.of_block λa ha=>c.block _ (by have:=h.fr2 a ha;omega),h.fr1,h.fr2,h.ap,h.cn.keep (c.block _ (by omega)) al (by omega),?_,h.mks.of_block (c.block _ (by omega))⟩
 exact⟨_,V3,setR (R:=λa c=>VvOk (Al (w0.heap.size+4) o1 o2) w1 a c) ⟨hv.cl,hv.ty,hv.wd.keep al (by omega)⟩ (allR (λa c q=>⟨q.1,q.2.cl,q.2.ty,q.2.wd.keep al (by omega)⟩) V2)⟩
theorem Gp.setC(h:Gp w0 w tb o1 o2 L1 L2 C V){id ty:Int}{s:Sl}{l:List Int}(hv:WdOk (Al (w0.heap.size+4) o1 o2) w s l){K:World->Prop}(hK:∀w',Gp w0 w' tb o1 o2 L1 L2 (setQ C id (ty,l)) V->K w') :
  updW Tryz.prog 77 (.map (some w0.heap.size)) (.int .u32 id) (.agg #[.int .u32 ty,.slice s.a s.l s.c]) w K:=by
 obtain⟨Vl,V1,V2⟩:=h.cn
 refine zjB (f:=aggQ cvK) (v:=((ty,s,()):Cv)) uCn zlT V1 rfl λw1 V3 c=>hK w1 ?_
 have c:Chg w0.heap.size w w1:=c
 have hs:=c.size
 have al:∀b,Al (w0.heap.size+4) o1 o2 b->b<w.heap.size->w1.heap[b]? =w.heap[b]?/\Al (w0.heap.size+4) o1 o2 b:=λb h1 _=>⟨c.block _ (by have:=h1.1;omega),h1⟩
 refine⟨c.below h.below (by omega),by have:=h.sz;omega,c.blk h.pool (by omega),h.own1.of_block λa ha=>c.block _ (by have:=h.fr1 a ha;omega),h.own2.of_block λa ha=>c.block _ (by have:=h.fr2 a ha;omega),h.fr1,h.fr2,h.ap,?_,h.vn.keep (c.block _ (by omega)) al (by omega),h.mks.of_block (c.block _ (by omega))⟩
 exact⟨_,V3,setR (R:=λa c=>CvOk (Al (w0.heap.size+4) o1 o2) w1 a c) ⟨rfl,hv.keep al (by omega)⟩ (allR (λa c q=>⟨q.1,q.2.ty,q.2.wd.keep al (by omega)⟩) V2)⟩
theorem zoj{pb:Nat}{op:Int}:zN (mkL pb) op=if op=1\/op=46 then some (mkF pb 68) else if op=41\/op=42 then some (mkF pb 69) else if op=43 then some (mkF pb 70) else if op=44 then some (mkF pb 71) else none:=by
 simp only[zN]
 by_cases h1:op=1
 ·subst h1;rfl
 by_cases h2:op=46
 ·subst h2;rfl
 by_cases h3:op=41
 ·subst h3;rfl
 by_cases h4:op=42
 ·subst h4;rfl
 by_cases h5:op=43
 ·subst h5;rfl
 by_cases h6:op=44
 ·subst h6;rfl
 simp[h1,h2,h3,h4,h5,h6]
theorem znS{pb:Nat}{A:Nat->Prop}(h:IsPq w B pb A T C)(hT:TbOk T)(hs:(zF bd pl).1=0)(hk:k<pl.length)(ht:IsAg w t pl[k].2.2.2)(hL:∀id c,zv C id=some c->c.2.length<=4096){p:List Int×Int}(hp:wdsC T C pl k=some p){f:Value}(hf:zN (mkL pb) (ix pl k).1=some f)(hR:MkR R w p) :
  ZT Tryz.prog Tryz.fs f [inA (mkIn pl[k] t)] w R:=by
 have hix:=zK hk
 have eL:(ix pl k).2.2.2=pl[k].2.2.2:=by rw[hix]
 have eT:(ix pl k).2.1=pl[k].2.1:=by rw[hix]
 have c1:Tryz.fs.contains 68=true:=by kernel_rfl
 have c2:Tryz.fs.contains 69=true:=by kernel_rfl
 have c3:Tryz.fs.contains 70=true:=by kernel_rfl
 have c4:Tryz.fs.contains 71=true:=by kernel_rfl
 rw[zoj]at hf
 unfold wdsC at hp
 by_cases e1:(ix pl k).1=1\/(ix pl k).1=46
 ·rw[if_pos e1]at hf hp
  cases hf
  cases hp
  unfold ZT
  simp only[c1]
  exact zkQ (x:=mkIn pl[k] t) h hT (by show MkR R w (if (tA T pl[k].2.1).size=0 then _ else _);rw[<-eT];exact hR)
 rw[if_neg e1]at hf hp
 by_cases e2:(ix pl k).1=41\/(ix pl k).1=42
 ·rw[if_pos e2]at hf hp
  cases hf
  cases hp
  unfold ZT
  simp only[c2]
  refine zm9 (x:=mkIn pl[k] t) h ?_
  show MkR R w (if (tA T pl[k].2.1).kind≠2 then _ else(if pl[k].1=41 then _ else _,_))
  rw[<-eT,show pl[k].1=(ix pl k).1 by rw[hix]]
  exact hR
 rw[if_neg e2]at hf hp
 by_cases e3:(ix pl k).1=43
 ·rw[if_pos e3]at hf hp
  cases hf
  cases hp
  unfold ZT
  simp only[c3]
  have hl:(ix pl k).2.2.2.length=1:=zZ hs hk e3 zcv
  refine zlJ (x:=mkIn pl[k] t) (al:=pl[k].2.2.2) h ht (λ_=>by rw[<-eL];omega) ?_
  show MkR R w (if (tA T pl[k].2.1).kind≠3 then _ else _)
  rw[<-eT,<-eL]
  exact hR
 rw[if_neg e3]at hf hp
 by_cases e4:(ix pl k).1=44
 ·rw[if_pos e4]at hf hp
  cases hf
  cases hp
  unfold ZT
  simp only[c4]
  exact zjk h hT hk ht (zhy hs hk) hL hR
 rw[if_neg e4]at hf
 cases hf
theorem zrq(W:zV bd pl)(T:TyL){n:Nat}(hn:n<=pl.length):(cnsC T pl n).1.length<=n/\(cnsC T pl n).2.length<=n:=by
 obtain⟨h1,h2⟩:=zjz (T:=T) W n hn
 have h1:=congrArg List.length h1
 have h2:=congrArg List.length h2
 simp only[List.length_map]at h1 h2
 have a1:=List.length_filter_le (λk=>isC (ix pl k).1) (List.range n)
 have a2:=List.length_filter_le (λk=>decide (zo (ix pl k)=7/\(ix pl k).1=59)) (List.range n)
 rw[List.length_range]at a1 a2
 omega
set_option maxHeartbeats 1000000 in
theorem zql(h:Gp w0 w tb o1 o2 ((cnsC T pl k).1.map (·.1)) ((cnsC T pl k).2.map (·.1)) (cnsC T pl k).1 (cnsC T pl k).2)(hT:IsTb w0 B tb T)(hTb:TbOk T)(hp:PlOk pl)(W:zV bd pl)(hk:k<pl.length)(h7:zo (ix pl k)=7)(ht:IsAg w t pl[k].2.2.2)
  (hL:∀id c,zv (cnsC T pl k).1 id=some c->c.2.length<=4096)
  (hR:∀w' o1' o2',Gp w0 w' tb o1' o2' ((cnsC T pl (k+1)).1.map (·.1)) ((cnsC T pl (k+1)).2.map (·.1)) (cnsC T pl (k+1)).1 (cnsC T pl (k+1)).2->R (.int .i64 (errC T (cnsC T pl k).1 pl k)) w') :
  cR 51 #[.pointer (some (blk (w0.heap.size+2))),inA (mkIn pl[k] t),.map (some (w0.heap.size+3))] w R:=by
 refine za.of (zfy _ (mkIn pl[k] t) _ R w ?_) λ_ _ h=>h
 have hix:=zK hk
 have eR:(ix pl k).2.2.1=pl[k].2.2.1:=by rw[hix]
 have eO:(ix pl k).1=pl[k].1:=by rw[hix]
 have eT:(ix pl k).2.1=pl[k].2.1:=by rw[hix]
 have hplen:=hp.len
 obtain⟨l1,l2⟩:=zrq W T (n:=k) (by omega)
 have hs0:=h.below.size
 refine zm λw1 hI1 b1 z1=>?_
 have hI1:Blk w1 w.heap.size 52 (inV (mkIn pl[k] t)):=hI1
 have ht1:IsAg w1 t pl[k].2.2.2:=IsC.below zG ht b1
 have g1:=h.on b1
 refine hI1.rI0 (x:=pl[k].1) rfl (zj (λe=>?_) (λe=>?_))
 ·
  have e59:(ix pl k).1=59:=by rw[eO];exact e
  have hE:errC T (cnsC T pl k).1 pl k=(varC T (cnsC T pl k).1 pl k).2:=by
   unfold errC
   rw[if_pos e59]
  rw[hE,zj0 h7 e59]at hR
  dsimp only at hR
  rw[Yy,if_neg (zmD W hk e59)]at hR
  have hvl:1<=pl[k].2.2.2.length:=by
   have:=zmr W.shape hk e59
   rw[hix]at this
   omega
  refine Ins.load (x:=mkIn pl[k] t) hI1 (zog (g1.pq hT) hTb hk ht1 hvl λw2 v hv b2=>?_)
  have g2:=g1.on b2
  have hv2:VvOk (Al (w0.heap.size+4) o1 o2) w2 v (varC T (cnsC T pl k).1 pl k).1:=⟨hv.cl,hv.ty,hv.wd.mono λb q _=>by
   rcases q with q |q
   ·exact q
   ·exact g1.new q⟩
  refine⟨v,_,rfl,box3 rfl λw6 hX6 b6 z6=>?_⟩
  have b26:=b2.on b6
  have g6:=(g2.on b6).drew
  refine zf rfl (g6.pool.rS (n:=3) (x:=o2) rfl ((hI1.below b26).drew.rI (n:=2) (x:=pl[k].2.2.1) rfl ?_))
  refine zm λw7 hE7 b7 z7=>?_
  have hE7:Blk w7 w6.drew.heap.size 22 [.int .u32 pl[k].2.2.1]:=hE7
  have g7:=g6.on b7
  have hX7:=hX6.drew.below b7
  have hI7:=(hI1.below b26).drew.below b7
  have b67:=(Below.refl w6.heap.size w6).drew.on b7
  have hv7:=(hv2.wd.below b6).below b67
  have q1:=b1.size
  have q2:=b2.size
  have hsz:=h.sz
  refine⟨g7.pool.cell (n:=3) rfl,g7.push2 hE7 (by rw[List.length_map];omega) λr w9 g9 hkeep hwd hs9=>?_⟩
  have hX9:=hkeep _ _ _ (by decide) (by omega) hX7
  have hI9:=hkeep _ _ _ (by decide) (by omega) hI7
  have hv9:=hwd _ _ hv7
  refine zf rfl ⟨_,g9.drew.pool.cell (n:=4) rfl,hI9.drew.rI (n:=2) (x:=pl[k].2.2.1) rfl (Vv.load (v:=v) hX9.drew (g9.drew.setV ⟨hv2.cl,hv2.ty,hv9.below (Below.refl _ _).drew⟩ λw10 g10=>?_))⟩
  rw[<-eR]at g10
  exact hR w10 o1 r g10
 have e59:¬(ix pl k).1=59:=by rw[eO];exact e
 refine hI1.rI0 (x:=pl[k].1) rfl (zi3 (β:=.raw) (zgU .u16) uMk uU16 zMk g1.mks rfl ?_)
 rw[<-eO]
 generalize hv:(zN (α:=BK.raw.T) (mkL (w0.heap.size+2)) (ix pl k).1).getD Value.nilFunc=v
 have hv:(zN (α:=Value) (mkL (w0.heap.size+2)) (ix pl k).1).getD Value.nilFunc=v:=hv
 cases hc:isC (ix pl k).1 with
 |false=>
  have hE:errC T (cnsC T pl k).1 pl k=0:=by
   unfold errC
   rw[if_neg e59,ziB hc]
  have hn:zN (mkL (w0.heap.size+2)) (ix pl k).1=none:=by
   rw[zoj]
   have:¬isC (ix pl k).1=true:=by rw[hc];simp
   rw[zL]at this
   rw[if_neg (by omega),if_neg (by omega),if_neg (by omega),if_neg (by omega)]
  rw[hn]at hv
  have hv:Value.nilFunc=v:=hv
  subst hv
  rw[hE,zh3 hc (λq=>e59 q.2)]at hR
  unfold zeQ
  dsimp only
  exact zD rfl (hR w1 o1 o2 g1)
 |true=>
  obtain⟨p,hp'⟩:=zeF T (cnsC T pl k).1 hc
  have hE:errC T (cnsC T pl k).1 pl k=p.2:=by
   unfold errC
   rw[if_neg e59,hp']
  rw[hE,zgd hc hp']at hR
  dsimp only at hR
  rw[Yy,if_neg (zlO W hk hc)]at hR
  obtain⟨f,hf,hfn⟩:∃f,zN (mkL (w0.heap.size+2)) (ix pl k).1=some f/\∃a b c,f =.func a b c:=by
   rw[zoj]
   rw[zL]at hc
   split
   ·exact⟨_,rfl,_,_,_,rfl⟩
   split
   ·exact⟨_,rfl,_,_,_,rfl⟩
   split
   ·exact⟨_,rfl,_,_,_,rfl⟩
   split
   ·exact⟨_,rfl,_,_,_,rfl⟩
   ·omega
  rw[hf]at hv
  have hv:f=v:=hv
  subst hv
  obtain⟨fa,fb,fc,rfl⟩:=hfn
  unfold zeQ
  dsimp only
  refine zx rfl (Ins.load (x:=mkIn pl[k] t) hI1 (znS (g1.pq hT) hTb W.shape hk ht1 hL hp' hf λw2 s hwd b2=>?_))
  have g2:=(g1.on b2).drew
  have hwd2:WdOk (Al (w0.heap.size+4) o1 o2) w2 s p.1:=hwd.mono λb q _=>g1.new q
  refine⟨s,_,rfl,zf rfl (g2.pool.rS (n:=1) (x:=o1) rfl ((hI1.below b2).drew.rI (n:=2) (x:=pl[k].2.2.1) rfl ?_))⟩
  refine zm λw7 hE7 b7 z7=>?_
  have hE7:Blk w7 w2.drew.heap.size 22 [.int .u32 pl[k].2.2.1]:=hE7
  have g7:=g2.on b7
  have hI7:=(hI1.below b2).drew.below b7
  have b27:=(Below.refl w2.heap.size w2).drew.on b7
  have hv7:=hwd2.below b27
  have q1:=b1.size
  have q2:=b2.size
  have hsz:=h.sz
  refine⟨g7.pool.cell (n:=1) rfl,g7.push1 hE7 (by rw[List.length_map];omega) λr w9 g9 hkeep hwd hs9=>?_⟩
  have hI9:=hkeep _ _ _ (by decide) (by omega) hI7
  have hv9:=hwd _ _ hv7
  refine zf rfl ⟨_,g9.drew.pool.cell (n:=2) rfl,hI9.drew.rI (n:=2) (x:=pl[k].2.2.1) rfl (hI9.drew.rI (n:=1) (x:=pl[k].2.1) rfl (g9.drew.setC (ty:=pl[k].2.1) (hv9.below (Below.refl _ _).drew) λw10 g10=>?_))⟩
  rw[<-eR,<-eT]at g10
  exact hR w10 r o2 g10
end
end Go.Proofs
namespace Go.Proofs
open Go.Gk Go.RowKit Go.Gm
section
variable {w w':World} {B B' tb pb:Nat} {T:TyL} {C:CnL} {V:VnL} {pl:List PI}
theorem IsTb.mono(h:IsTb w B tb T)(hB:B'<=B):IsTb w B' tb T:=by
 obtain⟨⟨r,o,h1,⟨Vl,v1,v2⟩,h3⟩,h4⟩:=h
 exact⟨⟨r,o,h1,⟨⟨Vl,v1,allR (λa c q=>⟨q.1,q.2.mono hB⟩) v2⟩,Nat.le_trans hB h3⟩⟩,Nat.le_trans hB h4⟩
structure IsPo (w:World) (B pb:Nat) (T:TyL) (C:CnL) (V:VnL):Prop where
 ex:∃(tb rc rv:Nat) (o1 o2:Sl),Blk w pb 80 [.pointer (some (Gk.blk tb)),.slice o1.a o1.l o1.c,.map (some rc),.slice o2.a o2.l o2.c,.map (some rv)]/\IsTb w B tb T/\IsCn w (λb=>B<=b) rc C/\IsVn w (λb=>B<=b) rv V/\
  IsS (Value.int .u32) w o1 (C.map (·.1))/\IsS (Value.int .u32) w o2 (V.map (·.1))/\zM B o1/\zM B o2/\B<=rc/\B<=rv
 lo:B<=pb
theorem IsPo.keep(h:IsPo w B pb T C V)(hb:∀k,B<=k->k<w.heap.size->w'.heap[k]? =w.heap[k]?)(hs:w.heap.size<=w'.heap.size):IsPo w' B pb T C V:=by
 obtain⟨⟨tb,rc,rv,o1,o2,h1,h2,h3,h4,h5,h6,h7,h8,h9,h10⟩,h11⟩:=h
 exact⟨⟨tb,rc,rv,o1,o2,h1.of_block (hb pb h11 h1.lt),h2.keep hb,h3.keep (hb rc h9 h3.lt) (λb q1 q2=>⟨hb b q1 q2,q1⟩) hs,h4.keep (hb rv h10 h4.lt) (λb q1 q2=>⟨hb b q1 q2,q1⟩) hs,
  h5.of_block λa ha hlt=>hb _ (h7 a ha) hlt,h6.of_block λa ha hlt=>hb _ (h8 a ha) hlt,h7,h8,h9,h10⟩,h11⟩
theorem IsPo.below(h:IsPo w B pb T C V)(hb:Below w.heap.size w w'):IsPo w' B pb T C V:=h.keep (λk _ h2=>hb.block k h2) hb.size
theorem zka(T:TyL){n:Nat}:∀m,n<=m->(∀k,n<=k->k<m->zo (ix pl k)≠7)->cnsC T pl m=cnsC T pl n
 | 0,h,_=>by
         have:n=0:=by omega
         subst this
         rfl
 |m+1,h,hk=>by
  by_cases e:n=m+1
  ·subst e;rfl
  ·have ih:=zka T m (by omega) λk h1 h2=>hk k h1 (by omega)
   show(if zo (ix pl m)=7 then _ else cnsC T pl m)=_
   rw[if_neg (hk m (by omega) (by omega)),ih]
theorem zjP{T:TyL}{k:Nat}(h:zo (ix pl k)≠7):badC T pl k=0:=if_neg h
end
section
variable {x:Mo} {pl:List PI} {w:World} {R:VWP}
set_option maxHeartbeats 4000000 in
theorem zp2(hN:IsPl w x.2.2.1 pl)(hp:PlOk pl)(h0:0<=x.2.1)(ht:Tab w)
  (hBad:(conE x.2.1 pl).1≠0->∀w',Below w.heap.size w w'->R (.tuple #[.pointer none,.agg #[.int .i64 (conE x.2.1 pl).1,.int .i64 (conE x.2.1 pl).2]]) w')
  (hOk:CnOk x.2.1 pl->∀w' pb,Below w.heap.size w w'->IsPo w' w.heap.size pb (tyL pl) (cnL pl) (vnL pl)->R (.tuple #[.pointer (some (blk pb)),.agg #[.int .i64 0,.int .i64 0]]) w') :
  cR 27 #[moA x] w R:=by
 refine za.of (zit x R w ?_) λ_ _ h=>h
 refine zm λw1 hB1 b1 z1=>?_
 have hB1:Blk w1 w.heap.size 25 (moV x):=hB1
 refine zm λw2 hS2 b2 z2=>?_
 have hS2:Blk w2 w1.heap.size 56 [.int .i64 0,.int .i64 0]:=hS2
 have b02:=b1.on b2
 have out:∀{w':World} {p:Option Addr} {e a:Int},Blk w' w1.heap.size 56 [.int .i64 0,.int .i64 0]->Below w.heap.size w w'->(∀w'',Chg w1.heap.size w' w''->Below w.heap.size w w''->R (.tuple #[.pointer p,.agg #[.int .i64 e,.int .i64 a]]) w'')->
   Wr w' (blk w1.heap.size)/\Nw (w'.setCell (blk w1.heap.size) (.int .i64 e)) λw8=>Wr w8 ((blk w1.heap.size).add 1)/\Nw (w8.setCell ((blk w1.heap.size).add 1) (.int .i64 a)) λw9=>ldI w9 ((blk w1.heap.size).add 0) .i64 λx9=>ldI w9 ((blk w1.heap.size).add 1) .i64 λx10=>
    R (.tuple #[.pointer p,.agg #[.int .i64 x9,.int .i64 x10]]) w9:=λ{w' p e a} hS hb hR=>
  st2 hS rfl λw9 hS9 c9=>Sp.load hS9 (hR w9 c9 (c9.below hb (by omega)))
 have sz1:=b1.size
 refine Mo.load (hB1.below b2) (zoB (x:=x) (hN.below b02) hp h0 (ht.below b02) (λhc w3 b3=>?_) (λhTy w3 tb b3 hT=>?_))
 ·have he:=zkd hc
  refine⟨none,((typE x.2.1 pl).1,(typE x.2.1 pl).2,()),rfl,box2 rfl λw6 h6 b6 z6=>h6.rI0 rfl (zp (λ_=>?_) (λq=>absurd q hc))⟩
  have b26:=b3.on b6
  refine Sp.load h6.drew (out (hS2.below b26).drew (b02.on b26).drew λw' _ hb=>?_)
  have:=hBad (by rw[he];exact hc) w' hb
  rwa[he]at this
 refine⟨some (blk tb),(0,0,()),rfl,box2 rfl λw6 h6 b6 z6=>h6.rI0 rfl (zp (λq=>absurd rfl q) (λ_=>?_))⟩
 have b26:=b3.on b6
 have b06:=b02.on b26
 have hc:(zQ x.2.1 pl).1=0:=hTy.chk
 have hty:(typE x.2.1 pl).1=0:=by rw[zjA hTy.chk hTy.no]
 have W:=zV.of hp h0 hc
 have hs:=W.shape
 have hTb:TbOk (tyL pl):=hTy.tb hp h0 (Nat.le_refl _)
 have hlay:(layP x.2.1 pl).1=0:=(zlK hc).2.1
 refine Mo.load ((hB1.below b2).below b26) (zjK (x:=x) (hN.below b06) hp λy w9 b9 hy=>⟨y,((layP x.2.1 pl).1,((layP x.2.1 pl).2:Int),()),rfl,?_⟩)
 obtain⟨hPt,_⟩:=hy hlay
 have b09:=b06.on b9
 refine zm λw10 hP10 b10 z10=>?_
 refine zm λw11 hQ11 b11 z11=>?_
 refine st20 (x:=y) (hP10.below b11) (by simp) λw31 hP31 c31=>?_
 have lt9:w9.heap.size<w11.heap.size:=by have:=b11.size;omega
 refine st2 (c31.blk hQ11 (by omega)) rfl λw33 hQ33 c33=>?_
 have b911:=b10.on b11
 have b933:Below w9.heap.size w9 w33:=c33.below (c31.below b911 (Nat.le_refl _)) (by omega)
 have b033:=b09.on b933
 have hP33:Blk w33 w9.heap.size 100 (sp20 y):=c33.blk hP31 (by omega)
 have b633:=b9.on b933
 have hT33:=(hT.below b6).below b633
 have hB33:=((hB1.below b2).below b26).below b633
 have hS33:=(hS2.below b26).below b633
 refine Nw.gen λw34 e34=>?_
 have z34:w34.heap.size=w33.heap.size+1:=by rw[e34];simp
 have b34:Below w33.heap.size w33 w34:=by rw[e34];exact(Below.refl _ _).alloc (Nat.le_refl _) _
 have hc34:IsMq w34 w33.heap.size (aggQ cvK) ([]:List (Int×Cv)):=by rw[e34];exact IsMq.new w33 _
 refine Nw.gen λw35 e35=>?_
 have z35:w35.heap.size=w34.heap.size+1:=by rw[e35];simp
 have b35:Below w34.heap.size w34 w35:=by rw[e35];exact(Below.refl _ _).alloc (Nat.le_refl _) _
 have hv35:IsMq w35 w34.heap.size (aggQ vvK) ([]:List (Int×Vv)):=by rw[e35];exact IsMq.new w34 _
 refine zm λw36 hK36 b36 z36=>?_
 have hK36:Blk w36 w35.heap.size 80 [.pointer (some (blk tb)),.slice none 0 0,.map (some w33.heap.size),.slice none 0 0,.map (some w34.heap.size)]:=hK36
 refine zlI λw37 hM37 b37=>⟨some w36.heap.size,rfl,?_⟩
 have q34:w34.heap.size=w33.heap.size+1:=by omega
 have q35:w35.heap.size=w33.heap.size+2:=by omega
 have q36:w36.heap.size=w33.heap.size+3:=by omega
 rw[q34,q35]at hK36
 rw[q34]at hv35
 rw[q35,q36]at hM37
 dsimp only[zB,Go.Gk.Sl.zw,zi,zu,zb,zh];rw[q35,q36]
 have b3637:=b36.on b37
 have b3337:=(b34.on b35).on b3637
 have start:Gp w33 w37 tb ⟨none,0,0⟩ ⟨none,0,0⟩ [] [] [] []:=
  ⟨b3337,by have:=hM37.lt;omega,hK36.below b37,Own.nil _ _ _,Own.nil _ _ _,zk9 _,zk9 _,λb h=>(by cases h),⟨[],hc34.below (b35.on b3637),.nil⟩,⟨[],hv35.below b3637,.nil⟩,hM37⟩
 have P:=hPt 7 (by decide)
 generalize ha:(l20 y).getD (2*7) 0=a at P
 generalize hb:(l20 y).getD (2*7+1) 0=b at P
 obtain⟨P1,P2,P3,P4⟩:=P
 obtain⟨a,rfl⟩:=Int.eq_ofNat_of_zero_le P1
 obtain⟨b,rfl⟩:=Int.eq_ofNat_of_zero_le (Int.le_trans P1 P2)
 have hP37:=hP33.below b3337
 have b037:=b033.on b3337
 have hplen:=hp.len
 refine⟨by decide,hP37.rI (n:=14) (x:=(a:Int)) (by rw[<-ha];rfl) ?_⟩
 have hcn0:cnsC (tyL pl) pl a=([],[]):=zka (n:=0) (tyL pl) a (Nat.zero_le _) λk _ hk=>λe=>by
  have:=(P4 k (by omega)).2 e
  omega
 have hend:cnsC (tyL pl) pl pl.length=cnsC (tyL pl) pl b:=zka (tyL pl) pl.length (by omega) λk hk1 hk2=>λe=>by
  have:=(P4 k (by omega)).2 e
  omega
 refine zn.ghost (λm (st:Int×Unit) w'=>∃(n:Nat) (o1 o2:Sl),st=((n:Int),())/\a<=n/\n<=b/\m=b-n/\Gp w33 w' tb o1 o2 ((cnsC (tyL pl) pl n).1.map (·.1)) ((cnsC (tyL pl) pl n).2.map (·.1)) (cnsC (tyL pl) pl n).1 (cnsC (tyL pl) pl n).2/\∀k,k<n->badC (tyL pl) pl k=0) (b-a)
  ⟨a,⟨none,0,0⟩,⟨none,0,0⟩,rfl,Nat.le_refl _,by omega,rfl,by rw[hcn0];exact start,λk hk=>zjP λe=>by have:=(P4 k (by omega)).2 e;omega⟩ ?_
 rintro _ _ w38 ⟨n,o1,o2,rfl,hn1,hn2,rfl,G,hno⟩ next hnext
 have hS38:=hS33.below G.below
 have hB38:=hB33.below G.below
 have b038:=b033.on G.below
 have lt1:w1.heap.size<w33.heap.size:=hS33.lt
 refine⟨by decide,?_⟩
 rw[zt]
 refine(hP33.below G.below).rI (n:=15) (x:=(b:Int)) (by rw[<-hb];rfl) (zk (λg=>?_) (λg=>?_))
 rotate_left
 ·
  have hne:n=b:=by dsimp only at g;omega
  subst hne
  refine out hS38 b038 λw' c hbw=>?_
  have hCn:CnOk x.2.1 pl:=⟨hTy,λk hk=>by
   by_cases e:k<n
   ·exact hno k e
   ·exact zjP λe2=>by have:=(P4 k hk).2 e2;omega⟩
  refine hOk hCn w' _ hbw ?_
  have s0:=b033.size
  have cb:∀k,w33.heap.size<=k->w'.heap[k]? =w38.heap[k]?:=λk hk=>c.block _ (by omega)
  have hsz:=c.size
  have e1:cnL pl=(cnsC (tyL pl) pl n).1:=congrArg Prod.fst hend
  have e2:vnL pl=(cnsC (tyL pl) pl n).2:=congrArg Prod.snd hend
  rw[e1,e2]
  have hTe:=hT33.below G.below
  have s2:=b02.size
  refine⟨⟨tb,w33.heap.size,w33.heap.size+1,o1,o2,G.pool.of_block (cb _ (by omega)),(hTe.keep λk h1 h2=>c.block _ (by omega)).mono s2,G.cn.keep (cb _ (by omega)) (λk h1 h2=>⟨cb _ (by have:=h1.1;omega),by have:=h1.1;show w.heap.size<=k;omega⟩) (by omega),G.vn.keep (cb _ (by omega)) (λk h1 h2=>⟨cb _ (by have:=h1.1;omega),by have:=h1.1;show w.heap.size<=k;omega⟩) (by omega),?_,?_,λq hq=>?_,λq hq=>?_,by omega,by omega⟩,by omega⟩
  ·exact G.own1.isS.of_block λq hq _=>cb _ (by have:=G.fr1 q hq;omega)
  ·exact G.own2.isS.of_block λq hq _=>cb _ (by have:=G.fr2 q hq;omega)
  ·have:=G.fr1 q hq
   omega
  ·have:=G.fr2 q hq
   omega
 ·have hnb:n<b:=by dsimp only at g;omega
  have hnl:n<pl.length:=by omega
  have h7:zo (ix pl n)=7:=(P4 n hnl).1 ⟨by omega,by omega⟩
  refine hB38.rS (n:=2) (x:=x.2.2.1) rfl (YF hN b038 hnl λt hI0=>?_)
  have hA:IsAg w38 t pl[n].2.2.2:=IsC.below zG hI0 b038
  refine zql G hT33 hTb hp W hnl h7 hA (λid c hc=>by
   have:=zmC hTy hp h0 (Nat.le_of_lt hnl) hno hc
   rw[this]
   exact zdU hTb _) λw39 o1' o2' G39=>⟨_,rfl,?_⟩
  have hbad:badC (tyL pl) pl n=errC (tyL pl) (cnsC (tyL pl) pl n).1 pl n:=by
   unfold badC
   rw[if_pos h7]
  rw[<-hbad]
  refine zp (λhe=>?_) (λhe=>?_)
  ·have hE:=zoP hty hnl he hno
   refine out (hS33.below G39.below) (b033.on G39.below) λw' _ hbw=>?_
   have:=hBad (by rw[hE];exact he) w' hbw
   rwa[hE]at this
  ·dsimp only
   rw[zz (by omega)]
   refine hnext (b-(n+1)) _ w39 (by omega) ⟨n+1,o1',o2',rfl,by omega,by omega,rfl,G39,λk hk=>?_⟩
   by_cases e:k=n
   ·subst e;exact he
   ·exact hno k (by omega)
end
end Go.Proofs
namespace Go.Proofs
open Go.Gk Go.RowKit Go.Gm
theorem zp0{B:Nat}{w w':World}(h:Below B w w'){g:Nat}(hg:B<=g)(cs:Array Value):Below B w (w'.setRow g cs):=
 ⟨h.os,h.tape,h.output,by simpa[World.setRow] using h.size,λk hk=>(setRow_other w' g k cs (by omega)).trans (h.block k hk)⟩
theorem zp4{w:World}{b:Nat}{s:Sl}{l:List Int}{cs:List Value}(hD:Blk w b 22 cs)(hcs:cs.length=l.length)(hs:IsS (Value.int .u32) w s l)
  {k:Int->World->Prop} (hk:∀w',Blk w' b 22 (l.map (Value.int .u32))->(∀B w0,Below B w0 w->B<=b->Below B w0 w')->k (l.length:Int) w') :
  zrV Tryz.prog #[30,30] (.slice (some (Gk.blk b)) l.length l.length) (.slice s.a s.l s.c) w k:=by
 have hun:(Tryz.prog).underlying 30=some (.slice 22):=by kernel_rfl
 have hsz:((Tryz.prog).info? 22).map (·.size)=some 1:=by kernel_rfl
 obtain⟨sa,sl,sc⟩:=s
 have hl1:sl=l.length:=hs.len
 cases sa with
 |none=>
  have hc:sc=0:=hs.nil rfl
  have h2:sl<=sc:=hs.cap
  have h0:sl=0:=by omega
  subst h0
  have hnil:l=[]:=List.eq_nil_of_length_eq_zero hl1.symm
  subst hnil
  have hcs:cs=[]:=List.eq_nil_of_length_eq_zero hcs
  subst hcs
  obtain⟨i,hi,hi1⟩:∃i,(Tryz.prog).info? 22=some i/\i.size=1:=by
   cases hq:(Tryz.prog).info? 22 with
   |none=>rw[hq]at hsz;cases hsz
   |some i=>rw[hq]at hsz;exact⟨i,rfl,by injection hsz⟩
  refine⟨0,w,?_,hk w hD λB w0 h _=>h⟩
  simp[Builtin.copy_,run_underlying hun,sizeOf,typeInfo,hi,Builtin.lenOf,Builtin.firstCells,storeCells,goInt]
 |some a=>
  have hn:(l.map (Value.int .u32)).length=Nat.min sl l.length:=by rw[List.length_map,hl1];exact(Nat.min_self _).symm
  have hc:=run_copy_row (P:=Tryz.prog) w 30 30 0 22 b 0 l.length l.length a sl sc cs.toArray 22 (l.map (Value.int .u32)) hun hsz hD hn (λj v hj=>by
   have hjl:j<l.length:=by have:=(List.getElem?_eq_some_iff.1 hj).1;rwa[List.length_map]at this
   rw[List.getElem?_map,List.getElem?_eq_getElem hjl]at hj
   cases hj
   exact hs.cell a rfl j hjl) (by simp[hcs]) (λv hv=>by obtain⟨x,_,rfl⟩:=List.mem_map.1 hv;rfl)
  have e:(cs.toArray.toList.take 0++l.map (Value.int .u32)++cs.toArray.toList.drop (0+(l.map (Value.int .u32)).length))=l.map (Value.int .u32):=by
   simp[hcs]
  rw[e]at hc
  have e2:((l.map (Value.int .u32)).length:Int)=(l.length:Int):=by rw[List.length_map]
  refine⟨_,_,hc,?_⟩
  rw[e2]
  refine hk _ ?_ λB w0 hb hB=>zp0 hb hB _
  exact setRow_heap w b _ _ _ _ hD
section
variable {w w':World} {B pb:Nat} {T:TyL} {C:CnL} {V:VnL} {R:VWP}
theorem zd5{s:Sl}{l:List Int}(hs:IsS (Value.int .u32) w s l)(hl:l.length<=4398046511104)(hR:∀w' b,w.heap.size<=b->Blk w' b 22 (l.map (Value.int .u32))->Below w.heap.size w w'->R (.slice (some (blk b)) l.length l.length) w') :
  cR 35 #[.slice s.a s.l s.c] w R:=by
 refine za.of (zgu s R w ?_) λ_ _ h=>h
 have hsl:=hs.len
 unfold zb1
 dsimp only[zB,Go.Gk.Sl.zw,zi,zu,zb,zh]
 rw[hsl]
 refine⟨⟨by omega,by omega,by omega,by omega⟩,Nw.gen λw1 e1=>?_⟩
 have h1:Blk w1 w.heap.size 22 (List.replicate l.length (.int .u32 0)):=by rw[e1];exact Blk.made w _ _ l.length
 have b1:Below w.heap.size w w1:=by rw[e1];exact(Below.refl _ _).alloc (Nat.le_refl _) _
 have:=zp4 h1 (by rw[List.length_replicate]) (hs.below b1) (k:=λ_ w2=>R (.slice (some (blk w.heap.size)) l.length l.length) w2) λw2 h2 hb=>hR w2 w.heap.size (Nat.le_refl _) h2 (hb _ _ b1 (Nat.le_refl _))
 rw[hsl]at this
 exact this
theorem ziK(h:IsPo w B pb T C V)(hR:∀tb,IsTb w B tb T->R (.pointer (some (blk tb))) w):cR 20 #[.pointer (some (blk pb))] w R:=by
 refine za.of (Yr _ R w ?_) λ_ _ h=>h
 obtain⟨⟨tb,rc,rv,o1,o2,h1,h2,_⟩,_⟩:=h
 exact zx rfl (zf rfl ⟨_,h1.cell0 rfl,hR tb h2⟩)
theorem zp1(h:IsPo w B pb T C V)(hl:C.length<=4398046511104)(hR:∀w' b,w.heap.size<=b->Blk w' b 22 ((C.map (·.1)).map (Value.int .u32))->Below w.heap.size w w'->R (.slice (some (blk b)) C.length C.length) w') :
  cR 18 #[.pointer (some (blk pb))] w R:=by
 refine za.of (zaz _ R w ?_) λ_ _ h=>h
 obtain⟨⟨tb,rc,rv,o1,o2,h1,h2,h3,h4,h5,h6,_⟩,_⟩:=h
 refine zx rfl (zf rfl ⟨o1,h1.cell (n:=1) rfl,zd5 h5 (by rw[List.length_map];exact hl) λw' b hb hB hbl=>⟨⟨some (Gk.blk b),_,_⟩,rfl,?_⟩⟩)
 have:=hR w' b hb hB hbl
 rw[List.length_map]
 exact this
theorem zjl(h:IsPo w B pb T C V)(hl:V.length<=4398046511104)(hR:∀w' b,w.heap.size<=b->Blk w' b 22 ((V.map (·.1)).map (Value.int .u32))->Below w.heap.size w w'->R (.slice (some (blk b)) V.length V.length) w') :
  cR 19 #[.pointer (some (blk pb))] w R:=by
 refine za.of (Zh _ R w ?_) λ_ _ h=>h
 obtain⟨⟨tb,rc,rv,o1,o2,h1,h2,h3,h4,h5,h6,_⟩,_⟩:=h
 refine zx rfl (zf rfl ⟨o2,h1.cell (n:=3) rfl,zd5 h6 (by rw[List.length_map];exact hl) λw' b hb hB hbl=>⟨⟨some (Gk.blk b),_,_⟩,rfl,?_⟩⟩)
 have:=hR w' b hb hB hbl
 rw[List.length_map]
 exact this
abbrev cnA(C:CnL)(id:Int):Cn:=(zv C id).getD (0,[])
abbrev vnA(V:VnL)(id:Int):Vn:=(zv V id).getD (0,0,[])
theorem zmA{id:Int}(h:IsPo w B pb T C V)(hl:(cnA C id).2.length<=4398046511104)(hR:∀w' b,w.heap.size<=b->Blk w' b 22 ((cnA C id).2.map (Value.int .u32))->Below w.heap.size w w'->R (.tuple #[.int .u32 (cnA C id).1,.slice (some (blk b)) (cnA C id).2.length (cnA C id).2.length,.bool (zv C id).isSome]) w') :
  cR 12 #[.pointer (some (blk pb)),.int .u32 id] w R:=by
 refine za.of (Ys _ id R w ?_) λ_ _ h=>h
 obtain⟨⟨tb,rc,rv,o1,o2,h1,h2,h3,_⟩,_⟩:=h
 refine zx rfl (zf rfl ⟨_,h1.cell (n:=2) rfl,h3.lookOk λv hv=>?_⟩)
 refine box2 rfl λw1 hB1 b1 z1=>hB1.drew.rI0 rfl (hB1.drew.rS (n:=1) (x:=v.2.1) rfl ?_)
 have b1d:=b1.drew
 refine zd5 ((hv.wd.is.below b1).below (Below.refl _ _).drew) hl λw4 b hb hB4 b4=>⟨⟨some (Gk.blk b),_,_⟩,rfl,(hB1.drew.below b4).cell0 rfl,?_⟩
 have hty:v.1=(cnA C id).1:=hv.ty
 rw[hty]
 exact hR w4 b (Nat.le_trans b1.size hb) hB4 (b1d.on b4)
theorem zjT{id:Int}(h:IsPo w B pb T C V)(hl:(vnA V id).2.2.length<=4398046511104)(hR:∀w' b,w.heap.size<=b->Blk w' b 22 ((vnA V id).2.2.map (Value.int .u32))->Below w.heap.size w w'->R (.tuple #[.int .u32 (vnA V id).1,.int .u32 (vnA V id).2.1,.slice (some (blk b)) (vnA V id).2.2.length (vnA V id).2.2.length,.bool (zv V id).isSome]) w') :
  cR 17 #[.pointer (some (blk pb)),.int .u32 id] w R:=by
 refine za.of (Z4 _ id R w ?_) λ_ _ h=>h
 obtain⟨⟨tb,rc,rv,o1,o2,h1,h2,h3,h4,_⟩,_⟩:=h
 refine zx rfl (zf rfl ⟨_,h1.cell (n:=4) rfl,h4.lookOk λv hv=>?_⟩)
 refine box3 rfl λw1 hB1 b1 z1=>hB1.drew.rI0 rfl (hB1.drew.rI (n:=1) (x:=v.2.1) rfl ?_)
 rw[zt]
 refine hB1.drew.rS (n:=2) (x:=v.2.2.1) rfl ?_
 have b1d:=b1.drew
 refine zd5 ((hv.wd.is.below b1).below (Below.refl _ _).drew) hl λw4 b hb hB4 b4=>⟨⟨some (Gk.blk b),_,_⟩,rfl,(hB1.drew.below b4).cell (n:=1) rfl,(hB1.drew.below b4).cell0 rfl,?_⟩
 have hcl:v.1=(vnA V id).1:=hv.cl
 have hty:v.2.1=(vnA V id).2.1:=hv.ty
 rw[hcl,hty]
 exact hR w4 b (Nat.le_trans b1.size hb) hB4 (b1d.on b4)
end
end Go.Proofs
namespace Go.Proofs
open Go.Gk Go.RowKit Go.Gm
def isF(C:CnL)(ty:Int)(l:List Int)(id:Int):Bool:=(cnA C id).1==ty&&(cnA C id).2==l
def zd8(C:CnL)(ty:Int)(l:List Int):Int×Bool:=match (C.map (·.1)).find? (isF C ty l) with
 |some id=>(id,true)
 |none=>(0,false)
section
variable {w w':World} {B pb:Nat} {T:TyL} {C:CnL} {V:VnL} {R:VWP}
theorem zmu{s t:Sl}{l m:List Int}(hs:IsS (Value.int .u32) w s l)(ht:IsS (Value.int .u32) w t m)(hR:∀w',Below w.heap.size w w'->R (.bool (l==m)) w') :
  cR 41 #[.slice s.a s.l s.c,.slice t.a t.l t.c] w R:=by
 refine za.of (Y2 s t R w ?_) λ_ _ h=>h
 have hsl:=hs.len
 have htl:=ht.len
 refine zp (λe=>?_) (λe=>?_)
 ·have:(l==m)=false:=by
   rw[beq_eq_false_iff_ne]
   rintro rfl
   exact e (by omega)
  have q:=hR w (Below.refl _ _)
  rwa[this]at q
 have hlm:l.length=m.length:=by omega
 refine zn.count l.length hs.bound (λk w'=>Below w.heap.size w w'/\∀j (h1:j<l.length) (h2:j<m.length),j<k->l[j]=m[j]) ⟨Below.refl _ _,λj _ _ h=>by omega⟩ ?_
 rintro k w1 hk ⟨b1,hq⟩ next hnext
 have b1d:=b1.drew
 refine zk (λg=>?_) (λg=>?_)
 ·have hkl:k<l.length:=by dsimp only at g;omega
  have hkm:k<m.length:=by omega
  refine(hs.below b1d).addr hkl λa _ hc=>⟨l[k],by simpa using hc,?_⟩
  refine(ht.below b1d).addr hkm λa _ hc=>⟨m[k],by simpa using hc,?_⟩
  refine zp (λe=>?_) (λe=>hnext _ hkl ⟨b1d,λj h1 h2 h3=>?_⟩)
  ·have:(l==m)=false:=by
    rw[beq_eq_false_iff_ne]
    rintro rfl
    exact e rfl
   have q:=hR _ b1d
   rwa[this]at q
  ·by_cases e2:j=k
   ·subst e2;exact e
   ·exact hq j h1 h2 (by omega)
 ·have:(l==m)=true:=by
   rw[beq_iff_eq]
   exact List.ext_getElem hlm λj h1 h2=>hq j h1 h2 (by dsimp only at g;omega)
  have q:=hR w1 b1
  rwa[this]at q
theorem zoV{D:List Int}{p:Int->Bool}{k:Nat}(hk:k<D.length)(h1:∀j (h:j<D.length),j<k->p D[j]=false)(h2:p D[k]=true):D.find? p=some D[k]:=
 List.find?_eq_some_iff_getElem.2 ⟨h2,k,hk,rfl,λj hj=>by rw[h1 j (by omega) hj];rfl⟩
theorem zoW{D:List Int}{p:Int->Bool}(h1:∀j (h:j<D.length),p D[j]=false):D.find? p=none:=
 List.find?_eq_none.2 λx hx=>by
  obtain⟨j,hj,rfl⟩:=List.mem_iff_getElem.1 hx
  rw[h1 j hj]
  simp
theorem zjS{ty:Int}{s:Sl}{l:List Int}(h:IsPo w B pb T C V)(hs:IsS (Value.int .u32) w s l)(hR:∀w',Below w.heap.size w w'->R (.tuple #[.int .u32 (zd8 C ty l).1,.bool (zd8 C ty l).2]) w') :
  cR 22 #[.pointer (some (blk pb)),.int .u32 ty,.slice s.a s.l s.c] w R:=by
 refine za.of (YE _ ty s R w ?_) λ_ _ h=>h
 refine zm λw1 h1 b1 z1=>zm λw2 h2 b2 z2=>zm λw3 h3 b3 z3=>?_
 have b03:=(b1.on b2).on b3
 have p3:=(h1.below b2).below b3
 have t3:=h2.below b3
 have h03:=h.below b03
 have hs3:=hs.below b03
 refine⟨_,p3.cell0 rfl,zx rfl ⟨_,p3.cell0 rfl,?_⟩⟩
 have h03':=h03
 obtain⟨⟨tb,rc,rv,o1,o2,q1,q2,q3,q4,q5,q6,_⟩,_⟩:=h03'
 refine zf rfl (q1.rS (n:=1) (x:=o1) rfl ?_)
 have hcf:Tryz.fs.contains 40=true:=by kernel_rfl
 have fin:∀(k:Nat) (hk:k<(C.map (·.1)).length) (w4:World),Below w3.heap.size w3 w4->zd8 C ty l=((C.map (·.1))[k],true)->
   ldP w4 (blk w.heap.size) λx7=>ze x7 λa8=>ldS w4 (a8.add 1) λx9=>(0<=(k:Int)/\(k:Int)<(x9.l:Int))/\ze x9.a λa10=>ldI w4 (a10.add (Int.toNat (k:Int))) .u32 λx11=>R (.tuple #[.int .u32 x11,.bool true]) w4:=λk hk w4 b4 he=>by
  refine⟨_,(p3.below b4).cell0 rfl,zf rfl ((q1.below b4).rS (n:=1) (x:=o1) rfl ((q5.below b4).addr hk λa _ hc=>⟨_,by simpa using hc,?_⟩))⟩
  have:=hR w4 (b03.on b4)
  rw[he]at this
  simpa using this
 refine za.of (Z9 o1 _ _ w3 ?_) λ_ _ h=>h
 have hln:=q5.len
 refine zn.count (C.map (·.1)).length q5.bound (λk w'=>Below w3.heap.size w3 w'/\∀j (hj:j<(C.map (·.1)).length),j<k->isF C ty l (C.map (·.1))[j]=false) ⟨Below.refl _ _,λj _ h=>by omega⟩ ?_
 rintro k w4 hk ⟨b4,hno⟩ next hnext
 refine zk (λg=>?_) (λg=>?_)
 ·have hkl:k<(C.map (·.1)).length:=by dsimp only at g;omega
  refine(q5.below b4).addr hkl λa _ hc=>⟨(C.map (·.1))[k],by simpa using hc,?_⟩
  unfold ZT
  simp only[hcf]
  refine za.of (zdE _ (blk w.heap.size) (blk w1.heap.size) (blk w2.heap.size) _ w4 ?_) λ_ _ h=>h
  refine⟨_,(p3.below b4).cell0 rfl,zf rfl ⟨_,(q1.below b4).cell (n:=2) rfl,(q3.below b4).lookV λv hv=>?_⟩⟩
  refine box2 rfl λw5 hB5 b5 z5=>hB5.rI0 rfl ?_
  have b45:=b4.on b5
  refine((t3.below b45).rI0 (x:=ty) rfl ?_)
  have hty:v.1=(cnA C (C.map (·.1))[k]).1:=hv.ty
  have cont:∀(w6:World) (b:Bool),b=isF C ty l (C.map (·.1))[k]->Below w3.heap.size w3 w6->∃x6:Bool,Value.bool b =.bool x6/\ifB x6 (∃x6:Int,Value.int .i64 (k:Int) =.int .i64 x6/\ifB (decide (x6<(0:Int))) (R (.tuple #[.int .u32 (0:Int),.bool false]) w6)
    (ldP w6 (blk w.heap.size) λx7=>ze x7 λa8=>ldS w6 (a8.add 1) λx9=>(0<=x6/\x6<(x9.l:Int))/\ze x9.a λa10=>ldI w6 (a10.add (Int.toNat x6)) .u32 λx11=>R (.tuple #[.int .u32 x11,.bool true]) w6)) (next (IntKind.i64.wrap ((k:Int)+1),()) w6):=λw6 b hb b6=>by
   refine⟨b,rfl,zC (λe=>⟨_,rfl,zk (λq=>by omega) (λ_=>?_)⟩) (λe=>?_)⟩
   ·refine fin k hkl w6 b6 ?_
    unfold zd8
    rw[zoV hkl hno (by rw[<-hb];exact e)]
   ·refine hnext w6 hkl ⟨b6,λj hj hjk=>?_⟩
    by_cases e2:j=k
    ·subst e2;rw[<-hb];exact e
    ·exact hno j hj (by omega)
  refine zj (λe=>?_) (λe=>?_)
  ·refine hB5.rS (n:=1) (x:=v.2.1) rfl ⟨s,(h3.below b45).cell0 rfl,?_⟩
   refine zmu (hv.wd.is.below b5) (hs3.below b45) λw6 b6=>⟨_,rfl,cont w6 _ ?_ (b45.on b6)⟩
   unfold isF
   rw[<-hty,e]
   simp
  ·refine cont w5 false ?_ b45
   unfold isF
   rw[<-hty,beq_eq_false_iff_ne.2 e]
   rfl
 ·refine⟨_,rfl,zD (by decide) ?_⟩
  have:zd8 C ty l=(0,false):=by
   unfold zd8
   rw[zoW λj hj=>hno j hj (by dsimp only at g;omega)]
  have q:=hR w4 (b03.on b4)
  rwa[this]at q
end
end Go.Proofs
namespace Go.Proofs
open Go.Gk
set_option linter.unusedVariables false
set_option maxRecDepth 100000
def yM:Ann:=(.q (.q (.seq (some ⟨[1,5,6],[]⟩) (.q (.cond (.q .nil) .nil)) (.q (.q (.seq none (.q (.one (.loop ⟨[5,6,8],[(9,(.b (.int .i64)))]⟩ (.seq none (.q .c) (.seq none (.one (.q (.q (.one (.loop ⟨[5,6,8,9,10,11,12],[(13,(.b (.int .i64)))]⟩ (.seq none (.q .c) (.seq none (.one (.q (.seq (some ⟨[5,6,8,9,10,11,12,13,15],[]⟩) (.q (.cond (.q .nil) .nil)) .nil))) .nil))))))) .nil))))) (.q .nil)))))))
def yJ(p0:(Int×Int×Sl×Unit))(p1:Int)(R:VWP)(w:World):Prop:=Nw (w.alloc (.cells #[zu p0.1,zu p0.2.1,p0.2.2.1.zw] 25)) λw1=>dc w1 (zB w) λx1 x2 x3=>dx52 9 #[.agg #[zu x1,zu x2,x3.zw]] w1 λx5 x6 x7 w2=>zl (S:=Unit) (λm8=>ifB (Option.isNone x5) (R (.bool x7) w2) (ifB (!x7) (R (.bool x7) w2) (m8 () w2))) (λs9 w3=>dk 10 #[.pointer x6] w3 λx11 w4=>Nw (w4.alloc (.cells #[zu p1] 22)) λw5=>zr Tryz.prog 30 (x11.zw) (.slice (some (zB w4)) 1 1) w5 λr12 w6=>zn (S:=Int×Unit) (λs13 w7 n14=>ifB (decide (s13.1<(r12.l:Int))) ((0<=s13.1/\s13.1<(r12.l:Int))/\ze r12.a λa15=>ldI w7 (a15.add s13.1.toNat) .u32 λx16=>dx53 11 #[.pointer x6,zu x16] w7 λx18 x19 x20 w8=>zn (S:=Int×Unit) (λs21 w9 n22=>ifB (decide (s21.1<(2:Int))) ((0<=s13.1/\s13.1<(r12.l:Int))/\ze r12.a λa23=>ldI w9 (a23.add s13.1.toNat) .u32 λx24=>dx53 12 #[.pointer x5,zu x24] w9 λx26 x27 x28 w10=>zl (S:=Unit) (λm29=>ifB (x26 !=x18) (R (.bool false) w10) (ifB (!(x28==x20)) (R (.bool false) w10) (db 13 #[x27.zw,x19.zw] w10 λx32 w11=>ifB (!x32) (R (.bool false) w11) (m29 () w11)))) (λs30 w12=>cR 14 #[x27.zw] w12 λv33 w13=>v33=(.tuple #[])/\n22 ((IntKind.i64.wrap (s21.1+(1:Int))),()) w13)) (n14 ((IntKind.i64.wrap (s13.1+(1:Int))),()) w9)) (0,()) w8) (R (.bool true) w7)) (0,()) w6)
theorem YI(p0)(p1)(R)(w)(h:yJ p0 p1 R w):Calls Tryz.prog 3 #[.agg #[.int .u32 p0.1,.int .u32 p0.2.1,.slice p0.2.2.1.a p0.2.2.1.l p0.2.2.1.c],.int .u32 p1] w (Ret R):=lwC yM Tryz.func3 (by kernel_rfl) (by kernel_rfl) h
def yn:Ann:=(.q (.q (.seq (some ⟨[1,5,6],[]⟩) (.q (.cond (.q .nil) .nil)) (.q (.q (.seq none (.q (.one (.loop ⟨[5,6,8],[(9,(.b (.int .i64)))]⟩ (.seq none (.q .c) (.seq none (.one (.q (.q (.one (.loop ⟨[5,6,8,9,10,11,12,13],[(14,(.b (.int .i64)))]⟩ (.seq none (.q .c) (.seq none (.one (.q (.seq (some ⟨[5,6,8,9,10,11,12,13,14,17],[]⟩) (.q (.cond (.q .nil) .nil)) .nil))) .nil))))))) .nil))))) (.q .nil)))))))
def yl(p0:(Int×Int×Sl×Unit))(p1:Int)(R:VWP)(w:World):Prop:=Nw (w.alloc (.cells #[zu p0.1,zu p0.2.1,p0.2.2.1.zw] 25)) λw1=>dc w1 (zB w) λx1 x2 x3=>dx52 9 #[.agg #[zu x1,zu x2,x3.zw]] w1 λx5 x6 x7 w2=>zl (S:=Unit) (λm8=>ifB (Option.isNone x5) (R (.bool x7) w2) (ifB (!x7) (R (.bool x7) w2) (m8 () w2))) (λs9 w3=>dk 15 #[.pointer x6] w3 λx11 w4=>Nw (w4.alloc (.cells #[zu p1] 22)) λw5=>zr Tryz.prog 30 (x11.zw) (.slice (some (zB w4)) 1 1) w5 λr12 w6=>zn (S:=Int×Unit) (λs13 w7 n14=>ifB (decide (s13.1<(r12.l:Int))) ((0<=s13.1/\s13.1<(r12.l:Int))/\ze r12.a λa15=>ldI w7 (a15.add s13.1.toNat) .u32 λx16=>dx54 16 #[.pointer x6,zu x16] w7 λx18 x19 x20 x21 w8=>zn (S:=Int×Unit) (λs22 w9 n23=>ifB (decide (s22.1<(2:Int))) ((0<=s13.1/\s13.1<(r12.l:Int))/\ze r12.a λa24=>ldI w9 (a24.add s13.1.toNat) .u32 λx25=>dx54 17 #[.pointer x5,zu x25] w9 λx27 x28 x29 x30 w10=>zl (S:=Unit) (λm31=>ifB (x27 !=x18) (R (.bool false) w10) (ifB (x28 !=x19) (R (.bool false) w10) (ifB (!(x30==x21)) (R (.bool false) w10) (db 13 #[x29.zw,x20.zw] w10 λx34 w11=>ifB (!x34) (R (.bool false) w11) (m31 () w11))))) (λs32 w12=>cR 14 #[x29.zw] w12 λv35 w13=>v35=(.tuple #[])/\n23 ((IntKind.i64.wrap (s22.1+(1:Int))),()) w13)) (n14 ((IntKind.i64.wrap (s13.1+(1:Int))),()) w9)) (0,()) w8) (R (.bool true) w7)) (0,()) w6)
theorem ZV(p0)(p1)(R)(w)(h:yl p0 p1 R w):Calls Tryz.prog 4 #[.agg #[.int .u32 p0.1,.int .u32 p0.2.1,.slice p0.2.2.1.a p0.2.2.1.l p0.2.2.1.c],.int .u32 p1] w (Ret R):=lwC yn Tryz.func4 (by kernel_rfl) (by kernel_rfl) h
def ZF:Ann:=(.q (.q (.seq (some ⟨[3,4],[]⟩) (.q (.cond (.q .nil) .nil)) (.q (.q (.seq (some ⟨[3,4,6,7],[]⟩) (.q (.cond (.q .nil) .nil)) (.q (.q (.q .nil)))))))))
def ZA(p0:(Int×Int×Sl×Unit))(R:VWP)(w:World):Prop:=Nw (w.alloc (.cells #[zu p0.1,zu p0.2.1,p0.2.2.1.zw] 25)) λw1=>dc w1 (zB w) λx1 x2 x3=>dx52 9 #[.agg #[zu x1,zu x2,x3.zw]] w1 λx5 x6 x7 w2=>zl (S:=Unit) (λm8=>ifB (Option.isNone x5) (R (.bool x7) w2) (ifB (!x7) (R (.bool x7) w2) (m8 () w2))) (λs9 w3=>dk 18 #[.pointer x5] w3 λx11 w4=>dk 19 #[.pointer x5] w4 λx13 w5=>zl (S:=Unit) (λm14=>dk 10 #[.pointer x6] w5 λx17 w6=>db 13 #[x11.zw,x17.zw] w6 λx19 w7=>ifB (!x19) (R (.bool false) w7) (dk 15 #[.pointer x6] w7 λx21 w8=>db 13 #[x13.zw,x21.zw] w8 λx23 w9=>ifB (!x23) (R (.bool false) w9) (m14 () w9))) (λs15 w10=>cR 14 #[x11.zw] w10 λv24 w11=>v24=(.tuple #[])/\cR 14 #[x13.zw] w11 λv25 w12=>v25=(.tuple #[])/\dk 18 #[.pointer x5] w12 λx27 w13=>dk 10 #[.pointer x6] w13 λx29 w14=>db 13 #[x27.zw,x29.zw] w14 λx31 w15=>ifB x31 (dk 19 #[.pointer x5] w15 λx33 w16=>dk 15 #[.pointer x6] w16 λx35 w17=>db 13 #[x33.zw,x35.zw] w17 λx37 w18=>ifB x37 (dx55 20 #[.pointer x5] w18 λx39 w19=>R (.bool (!(Option.isNone x39))) w19) (R (.bool false) w18)) (R (.bool false) w15)))
theorem zbu(p0)(R)(w)(h:ZA p0 R w):Calls Tryz.prog 5 #[.agg #[.int .u32 p0.1,.int .u32 p0.2.1,.slice p0.2.2.1.a p0.2.2.1.l p0.2.2.1.c]] w (Ret R):=lwC ZF Tryz.func5 (by kernel_rfl) (by kernel_rfl) h
def Zb:Ann:=(.q (.q (.seq (some ⟨[1,2,7,8],[]⟩) (.q (.cond (.q .nil) .nil)) (.q (.q (.seq (some ⟨[7,8],[]⟩) (.q (.cond (.q .nil) .nil)) (.q (.seq none (.q (.one (.loop ⟨[7,8,14],[(15,(.b (.int .i64)))]⟩ (.seq (some ⟨[7,8,14,15],[]⟩) (.q .c) (.seq (some ⟨[7,8,14,15],[]⟩) (.one (.q (.q (.q (.q (.cond (.q .nil) .nil)))))) .nil))))) (.q .nil)))))))))
def yV(p0:(Int×Int×Sl×Unit))(p1:Int)(p2:Sl)(R:VWP)(w:World):Prop:=Nw (w.alloc (.cells #[zu p0.1,zu p0.2.1,p0.2.2.1.zw] 25)) λw1=>dc w1 (zB w) λx1 x2 x3=>dx52 9 #[.agg #[zu x1,zu x2,x3.zw]] w1 λx5 x6 x7 w2=>zl (S:=Unit) (λm8=>ifB (Option.isNone x5) (R (.bool x7) w2) (ifB (!x7) (R (.bool x7) w2) (m8 () w2))) (λs9 w3=>dW 21 #[.pointer x6,zu p1,p2.zw] w3 λx11 x12 w4=>dk 23 #[p2.zw] w4 λx14 w5=>dW 22 #[.pointer x5,zu p1,x14.zw] w5 λx16 x17 w6=>zl (S:=Unit) (λm18=>ifB (x11 !=x16) (R (.bool false) w6) (ifB (!(x12==x17)) (R (.bool false) w6) (m18 () w6))) (λs19 w7=>dk 10 #[.pointer x6] w7 λx21 w8=>zn (S:=Int×Unit) (λs22 w9 n23=>zl (S:=Unit) (λm24=>ifB (decide (s22.1<(x21.l:Int))) (ifB (decide (s22.1<(12:Int))) (m24 () w9) (R (.bool true) w9)) (R (.bool true) w9)) (λs25 w10=>zl (S:=Unit) (λm26=>(0<=s22.1/\s22.1<(x21.l:Int))/\ze x21.a λa28=>ldI w10 (a28.add s22.1.toNat) .u32 λx29=>dx53 11 #[.pointer x6,zu x29] w10 λx31 x32 x33 w11=>dW 21 #[.pointer x6,zu x31,x32.zw] w11 λx35 x36 w12=>dW 22 #[.pointer x5,zu x31,x32.zw] w12 λx38 x39 w13=>ifB (!x39) (R (.bool false) w13) (ifB (x35 !=x38) (R (.bool false) w13) (m26 () w13))) (λs27 w14=>n23 ((IntKind.i64.wrap (s22.1+(1:Int))),()) w14))) (0,()) w8))
theorem YP(p0)(p1)(p2)(R)(w)(h:yV p0 p1 p2 R w):Calls Tryz.prog 6 #[.agg #[.int .u32 p0.1,.int .u32 p0.2.1,.slice p0.2.2.1.a p0.2.2.1.l p0.2.2.1.c],.int .u32 p1,.slice p2.a p2.l p2.c] w (Ret R):=lwC Zb Tryz.func6 (by kernel_rfl) (by kernel_rfl) h
def ZG:Ann:=(.q (.q (.seq (some ⟨[0],[]⟩) (.q (.cond (.q .nil) .nil)) (.q (.q (.q (.q (.q .nil))))))))
def ZB(p0:Int)(R:VWP)(w:World):Prop:=dx56 24 #[zu 0] w λx2 w1=>dx56 24 #[zu 0] w1 λx4 w2=>Nw (w2.alloc (.cells #[zb x2.1,zu x2.2.1,.string x2.2.2.1,zb x4.1,zu x4.2.1,.string x4.2.2.1] 48)) λw3=>Nw (w3.alloc (.cells #[zh 14,zu 0,zu 0,.slice (some (zB w2)) 2 2] 52)) λw4=>dx52 9 #[.agg #[zu 0,zu 1,.slice (some (zB w3)) 1 1]] w4 λx6 x7 x8 w5=>zl (S:=Unit) (λm9=>ifB (!x8) (R (.bool false) w5) (ifB (Option.isNone x6) (R (.bool false) w5) (dx55 20 #[.pointer x6] w5 λx12 w6=>ifB (Option.isNone x12) (R (.bool false) w6) (m9 () w6)))) (λs10 w7=>dx53 12 #[.pointer none,zu p0] w7 λx14 x15 x16 w8=>dW 22 #[.pointer none,zu p0,.slice none 0 0] w8 λx18 x19 w9=>dx54 17 #[.pointer none,zu p0] w9 λx21 x22 x23 x24 w10=>dx55 20 #[.pointer none] w10 λx26 w11=>ifB (Option.isNone x26) (dk 18 #[.pointer none] w11 λx28 w12=>ifB ((x28.l:Int)==0) (dk 19 #[.pointer none] w12 λx30 w13=>ifB ((x30.l:Int)==0) (ifB (x14==0) (ifB ((x15.l:Int)==0) (ifB (!x16) (ifB (x18==0) (ifB (!x19) (ifB (x21==0) (ifB (x22==0) (ifB ((x23.l:Int)==0) (R (.bool (!x24)) w13) (R (.bool false) w13)) (R (.bool false) w13)) (R (.bool false) w13)) (R (.bool false) w13)) (R (.bool false) w13)) (R (.bool false) w13)) (R (.bool false) w13)) (R (.bool false) w13)) (R (.bool false) w13)) (R (.bool false) w12)) (R (.bool false) w11))
theorem zbv(p0)(R)(w)(h:ZB p0 R w):Calls Tryz.prog 7 #[.int .u32 p0] w (Ret R):=lwC ZG Tryz.func7 (by kernel_rfl) (by kernel_rfl) h
def zbe:Ann:=(.q (.q (.q (.q (.seq (some ⟨[5,7,8],[(10,(.b .bool))]⟩) .nil (.q (.q .nil)))))))
def zaN(p0:(Int×Int×Sl×Unit))(R:VWP)(w:World):Prop:=Nw (w.alloc (.cells #[zu p0.1,zu p0.2.1,p0.2.2.1.zw] 25)) λw1=>dc w1 (zB w) λx1 x2 x3=>dL 29 #[.agg #[zu x1,zu x2,x3.zw]] w1 λx5 x6 w2=>dg w2 #[zi 0,zi 0] 56 (zi x6.1) (zi x6.2.1) λw5=>dc w5 (zB w) λx7 x8 x9=>dx57 26 #[.agg #[zu x7,zu x8,x9.zw]] w5 λx11 w6=>dU w6 #[zu 0,zu 0,.slice none 0 0] 25 (zu x11.1) (zu x11.2.1) (x11.2.2.1.zw) λw10=>dc w10 (zB w6) λx12 x13 x14=>dL 27 #[.agg #[zu x12,zu x13,x14.zw]] w10 λx16 x17 w11=>dg w11 #[zi 0,zi 0] 56 (zi x17.1) (zi x17.2.1) λw14=>zl (S:=Bool×Unit) (λm18=>dd w14 (zB w11) λx20 x21=>dd w14 (zB w2) λx22 x23=>ifB (x20==x22&&(x21==x23&&true)) (ldI w14 (zB w2) .i64 λx24=>ifB ((!(Option.isNone x16))==(x24==0)) (dc w14 (zB w6) λx25 x26 x27=>dc w14 (zB w) λx28 x29 x30=>db 30 #[.agg #[zu x25,zu x26,x27.zw],.agg #[zu x28,zu x29,x30.zw]] w14 λx32 w15=>m18 (x32,()) w15) (m18 (false,()) w14)) (m18 (false,()) w14)) (λs19 w16=>dc w16 (zB w6) λx33 x34 x35=>cR 31 #[.agg #[zu x33,zu x34,x35.zw]] w16 λv36 w17=>v36=(.tuple #[])/\R (.tuple #[.pointer x16,.pointer x5,.bool s19.1]) w17)
theorem zdJ(p0)(R)(w)(h:zaN p0 R w):Calls Tryz.prog 9 #[.agg #[.int .u32 p0.1,.int .u32 p0.2.1,.slice p0.2.2.1.a p0.2.2.1.l p0.2.2.1.c]] w (Ret R):=lwC zbe Tryz.func9 (by kernel_rfl) (by kernel_rfl) h
def zcJ:Ann:=(.q (.q .nil))
def zc9(p0:Int)(R:VWP)(w:World):Prop:=Nw (w.alloc (.cells #[zb 0,zu 0,.string (BM #[])] 48)) λw1=>dz w1 (zB w) (zb 4) (zu p0) (.string (BM #[])) λw4=>dw w4 (zB w) λx1 x2 x3=>R (.agg #[zb x1,zu x2,.string x3]) w4
theorem zeS(p0)(R)(w)(h:zc9 p0 R w):Calls Tryz.prog 24 #[.int .u32 p0] w (Ret R):=lwC zcJ Tryz.func24 (by kernel_rfl) (by kernel_rfl) h
end Go.Proofs
namespace Go.Proofs
open Go.Gk Go.RowKit Go.Gm
section
variable {w:World} {R:VWP}
theorem zjR{n:Int}(hR:∀w',Below w.heap.size w w'->R (.agg #[.int .u8 4,.int .u32 n,.string (bs [])]) w'):cR 24 #[.int .u32 n] w R:=by
 refine za.of (zeS n R w ?_) λ_ _ h=>h
 refine box3 rfl λw4 h4 b4 z4=>?_
 exact h4.rI (n:=0) (x:=4) rfl (h4.rI (n:=1) (x:=n) rfl (h4.rT (n:=2) (x:=bs []) rfl (hR w4 b4)))
end
end Go.Proofs
namespace Go.Proofs
open Go.Gk Go.RowKit Go.Gm
theorem zhA{α β:Type}{f g:α->List β}:∀{l:List α},(∀x∈l,f x=g x)->l.flatMap f=l.flatMap g
 | [],_=>rfl
 |a::l,h=>by
  rw[List.flatMap_cons,List.flatMap_cons,h a (List.mem_cons_self ..),zhA λx hx=>h x (List.mem_cons_of_mem _ hx)]
section
variable {bd:Int} {pl:List PI} {k:Nat}
theorem zsC(h:CnOk bd pl)(hp:PlOk pl)(h0:0<=bd)(hk:k<pl.length)(hc:zo (ix pl k)=7/\(ix pl k).1=59):zv (vnL pl) (ix pl k).2.2.1=some (vaP (tyL pl) pl k):=
 ((ZU (h.whole hp h0) _ pl.length (Nat.le_refl _)).2 _).2 ⟨k,hk,hc,rfl,rfl⟩
theorem zoO(h:CnOk bd pl)(hp:PlOk pl)(h0:0<=bd){id:Int}{c:Cn}(hc:zv (cnL pl) id=some c):c.2.length=(tA (tyL pl) c.1).size:=
 zmC h.ty hp h0 (Nat.le_refl _) h.no hc
theorem CnOk.tb(h:CnOk bd pl)(hp:PlOk pl)(h0:0<=bd):TbOk (tyL pl):=h.ty.tb hp h0 (Nat.le_refl pl.length)
theorem zlN(h:CnOk bd pl)(hp:PlOk pl)(h0:0<=bd)(id:Int):(cnA (cnL pl) id).2.length<=4096:=by
 unfold cnA
 cases hl:zv (cnL pl) id with
 |none=>exact Nat.zero_le _
 |some c=>
  have:=zoO h hp h0 hl
  show c.2.length<=4096
  rw[this]
  exact zdU (h.tb hp h0) _
theorem zrZ(h:CnOk bd pl)(hp:PlOk pl)(h0:0<=bd)(hk:k<pl.length)(hc:zo (ix pl k)=7/\(ix pl k).1=59) :
  (vaP (tyL pl) pl k).1=agI pl k 0/\(vaP (tyL pl) pl k).2.2.length=(tA (tyL pl) (vaP (tyL pl) pl k).2.1).size/\((ix pl k).2.2.2.length=2->(vaP (tyL pl) pl k).2.2=(cnA (cnL pl) (agI pl k 1)).2/\(zv (cnL pl) (agI pl k 1)).isSome=true):=by
 have W:=h.whole hp h0
 have hv:=h.var hk hc.1 hc.2
 unfold vaP
 unfold varC at hv⊢
 by_cases e1:(tA (tyL pl) (ix pl k).2.1).kind≠7
 ·rw[if_pos e1]at hv;cases hv
 rw[if_neg e1]at hv⊢
 by_cases e2:(tA (tyL pl) (ix pl k).2.1).cls≠agI pl k 0\/(1<(ix pl k).2.2.2.length/\(tA (tyL pl) (ix pl k).2.1).cls=1)
 ·rw[if_pos e2]at hv;cases hv
 rw[if_neg e2]at hv⊢
 by_cases e3:(ix pl k).2.2.2.length=1
 ·rw[if_pos e3]
  exact⟨rfl,List.length_replicate,λe=>by omega⟩
 rw[if_neg e3]at hv⊢
 generalize ((tA (tyL pl) (ix pl k).2.1).prt 0).1=ty at hv⊢
 have hv:(ofC (cnsC (tyL pl) pl k).1 (agI pl k 1) ty).2=0:=hv
 cases hl:zv (cnsC (tyL pl) pl k).1 (agI pl k 1) with
 |none=>
  unfold ofC at hv
  rw[hl]at hv
  cases hv
 |some c=>
  have hty:c.1=ty:=by
   unfold ofC at hv
   rw[hl]at hv
   refine Classical.byContradiction λq=>?_
   have hv:(if c.1≠ty then(([]:List Int),(111:Int)) else(c.2,0)).2=0:=hv
   rw[if_pos q]at hv
   cases hv
  have ho:ofC (cnsC (tyL pl) pl k).1 (agI pl k 1) ty=(c.2,0):=znr (by rw[hl,<-hty])
  rw[ho]
  have hm:=zgj W (Nat.le_of_lt hk) (Nat.le_refl pl.length) hl
  refine⟨rfl,?_,λ_=>⟨?_,?_⟩⟩
  ·show c.2.length=(tA (tyL pl) ty).size
   rw[zoO h hp h0 hm,hty]
  ·show c.2=((zv (cnL pl) (agI pl k 1)).getD (0,[])).2
   rw[hm]
   rfl
  ·rw[hm]
   rfl
theorem zrN(h:CnOk bd pl)(hp:PlOk pl)(h0:0<=bd)(id:Int):(vnA (vnL pl) id).2.2.length<=4096:=by
 unfold vnA
 cases hl:zv (vnL pl) id with
 |none=>exact Nat.zero_le _
 |some c=>
  obtain⟨j,j1,j2,j3,rfl⟩:=((ZU (T:=tyL pl) (h.whole hp h0) _ pl.length (Nat.le_refl _)).2 c).1 hl
  have:=(zrZ h hp h0 j1 j2).2.1
  show(vaP (tyL pl) pl j).2.2.length<=4096
  rw[this]
  exact zdU (h.tb hp h0) _
theorem zrs(h:CnOk bd pl)(hp:PlOk pl)(h0:0<=bd)(hk:k<pl.length)(hc:(ix pl k).1=44) :
  (∀j,j<(ix pl k).2.2.2.length->(zv (cnL pl) (agI pl k j)).isSome=true)/\wdP (tyL pl) pl k=(List.range (ix pl k).2.2.2.length).flatMap λj=>(cnA (cnL pl) (agI pl k j)).2:=by
 have W:=h.whole hp h0
 have hw:=h.const hk (by rw[zL];omega)
 generalize hwd:wdP (tyL pl) pl k=wd at hw⊢
 unfold wdsC at hw
 rw[if_neg (by omega),if_neg (by omega),if_neg (by omega),if_pos hc]at hw
 injection hw with hw
 by_cases e:¬(4<=(tA (tyL pl) (ix pl k).2.1).kind/\(tA (tyL pl) (ix pl k).2.1).kind<=6)
 ·rw[if_pos e]at hw;cases hw
 rw[if_neg e]at hw
 by_cases e5:(ix pl k).2.2.2.length≠(tA (tyL pl) (ix pl k).2.1).cnt
 ·rw[if_pos e5]at hw;cases hw
 rw[if_neg e5]at hw
 have hc0:(catC (tyL pl) (cnsC (tyL pl) pl k).1 pl k (ix pl k).2.2.2.length).2=0:=by rw[hw]
 have hcw:=zjV hc0
 rw[hw]at hcw
 have hcw:wd=_:=hcw
 constructor
 ·intro j hj
  obtain⟨w',hw'⟩:=zh1 hc0 j hj
  rw[zgj W (Nat.le_of_lt hk) (Nat.le_refl pl.length) hw']
  rfl
 ·rw[hcw]
  refine zhA λj hj=>?_
  obtain⟨w',hw'⟩:=zh1 hc0 j (List.mem_range.1 hj)
  have hm:=zgj W (Nat.le_of_lt hk) (Nat.le_refl pl.length) hw'
  show _=((zv (cnL pl) (agI pl k j)).getD (0,[])).2
  rw[hm,hw']
end
end Go.Proofs
namespace Go.Proofs
open Go.Gk
set_option linter.unusedVariables false
set_option maxRecDepth 100000
def ZS:Ann:=(.q (.q (.seq none (.q (.one (.loop ⟨[0],[(3,(.b .slice)),(4,(.b (.int .i64)))]⟩ (.seq none (.q .c) (.seq (some ⟨[0,4],[(3,(.b .slice))]⟩) (.one (.q .c)) .nil))))) (.q .nil))))
def ZP(p0:Option Addr)(R:VWP)(w:World):Prop:=zn (S:=Sl×Int×Unit) (λs1 w1 n2=>ze p0 λa3=>ldS w1 (a3.add 2) λx4=>ifB (decide (s1.2.1<(x4.l:Int))) (zl (S:=Sl×Unit) (λm5=>ze p0 λa7=>ldS w1 (a7.add 2) λx8=>(0<=s1.2.1/\s1.2.1<(x8.l:Int))/\ze x8.a λa9=>ldI w1 (a9.add (s1.2.1.toNat *4)) .u16 λx10=>db 32 #[zh x10] w1 λx12 w2=>ifB x12 (ze p0 λa13=>ldS w2 (a13.add 2) λx14=>(0<=s1.2.1/\s1.2.1<(x14.l:Int))/\ze x14.a λa15=>ldI w2 ((a15.add (s1.2.1.toNat *4)).add 2) .u32 λx16=>Nw (w2.alloc (.cells #[zu x16] 22)) λw3=>zr Tryz.prog 30 (s1.1.zw) (.slice (some (zB w2)) 1 1) w3 λr17 w4=>m5 (r17,()) w4) (m5 (s1.1,()) w2)) (λs6 w5=>n2 (s6.1,(IntKind.i64.wrap (s1.2.1+(1:Int))),()) w5)) (R (s1.1.zw) w1)) ((Sl.mk none 0 0),0,()) w
theorem zb9(p0)(R)(w)(h:ZP p0 R w):Calls Tryz.prog 10 #[.pointer p0] w (Ret R):=lwC ZS Tryz.func10 (by kernel_rfl) (by kernel_rfl) h
def Z1:Ann:=(.q (.q (.seq none (.q (.cond (.q .nil) .nil)) (.q .nil))))
def Zr(p0:Option Addr)(p1:Int)(R:VWP)(w:World):Prop:=ze p0 λa1=>ldS w (a1.add 2) λx2=>dm 33 #[.pointer p0,zu p1,zi (x2.l:Int)] w λx4 w1=>ifB (decide (x4<(0:Int))) (R (.tuple #[zu 0,.slice none 0 0,.bool false]) w1) (ze p0 λa5=>ldS w1.drew (a5.add 2) λx6=>(0<=x4/\x4<(x6.l:Int))/\ze x6.a λa7=>ldI w1.drew ((a7.add (x4.toNat *4)).add 1) .u32 λx8=>dk 34 #[.pointer p0,zi x4] w1.drew λx10 w2=>w2.cell? ((a7.add (x4.toNat *4)).add 1)=some (zu x8)/\w2.cell? (a5.add 2)=some (x6.zw)/\R (.tuple #[zu x8,x10.zw,.bool true]) w2)
theorem zaA(p0)(p1)(R)(w)(h:Zr p0 p1 R w):Calls Tryz.prog 11 #[.pointer p0,.int .u32 p1] w (Ret R):=lwC Z1 Tryz.func11 (by kernel_rfl) (by kernel_rfl) h
def yw:Ann:=(.q (.q (.seq none (.q (.one (.loop ⟨[0],[(3,(.b .slice)),(4,(.b (.int .i64)))]⟩ (.seq none (.q .c) (.seq (some ⟨[0,4],[(3,(.b .slice))]⟩) (.one (.q .c)) .nil))))) (.q .nil))))
def yr(p0:Option Addr)(R:VWP)(w:World):Prop:=zn (S:=Sl×Int×Unit) (λs1 w1 n2=>ze p0 λa3=>ldS w1 (a3.add 2) λx4=>ifB (decide (s1.2.1<(x4.l:Int))) (zl (S:=Sl×Unit) (λm5=>ze p0 λa7=>ldS w1 (a7.add 2) λx8=>(0<=s1.2.1/\s1.2.1<(x8.l:Int))/\ze x8.a λa9=>ldI w1 (a9.add (s1.2.1.toNat *4)) .u16 λx10=>ifB (x10==59) (ze p0 λa11=>ldS w1 (a11.add 2) λx12=>(0<=s1.2.1/\s1.2.1<(x12.l:Int))/\ze x12.a λa13=>da w1 (a13.add (s1.2.1.toNat *4)) λx14 x15 x16 x17=>dm 36 #[.agg #[zh x14,zu x15,zu x16,x17.zw]] w1 λx19 w2=>ifB (x19==7) (ze p0 λa20=>ldS w2 (a20.add 2) λx21=>(0<=s1.2.1/\s1.2.1<(x21.l:Int))/\ze x21.a λa22=>ldI w2 ((a22.add (s1.2.1.toNat *4)).add 2) .u32 λx23=>Nw (w2.alloc (.cells #[zu x23] 22)) λw3=>zr Tryz.prog 30 (s1.1.zw) (.slice (some (zB w2)) 1 1) w3 λr24 w4=>m5 (r24,()) w4) (m5 (s1.1,()) w2)) (m5 (s1.1,()) w1)) (λs6 w5=>n2 (s6.1,(IntKind.i64.wrap (s1.2.1+(1:Int))),()) w5)) (R (s1.1.zw) w1)) ((Sl.mk none 0 0),0,()) w
theorem Ye(p0)(R)(w)(h:yr p0 R w):Calls Tryz.prog 15 #[.pointer p0] w (Ret R):=lwC yw Tryz.func15 (by kernel_rfl) (by kernel_rfl) h
def yB:Ann:=(.q (.seq none (.q (.one (.loop ⟨[0,1],[(8,(.b (.int .i64)))]⟩ (.seq none (.q .c) (.seq (some ⟨[0,1,8],[]⟩) (.one (.q (.q (.cond (.q (.seq none (.q (.cond (.q .nil) .nil)) (.q (.q .nil)))) .nil)))) .nil))))) (.q .nil)))
def y8(p0:Option Addr)(p1:Int)(R:VWP)(w:World):Prop:=zn (S:=Int×Unit) (λs1 w1 n2=>ze p0 λa3=>ldS w1 (a3.add 2) λx4=>ifB (decide (s1.1<(x4.l:Int))) (zl (S:=Unit) (λm5=>ze p0 λa7=>ldS w1 (a7.add 2) λx8=>(0<=s1.1/\s1.1<(x8.l:Int))/\ze x8.a λa9=>da w1 (a9.add (s1.1.toNat *4)) λx10 x11 x12 x13=>dh w1 #[zh 0,zu 0,zu 0,.slice none 0 0] 52 (zh x10) (zu x11) (zu x12) (x13.zw) λw6=>ldI w6 (zB w1) .u16 λx14=>ifB (x14==59) (ldI w6 ((zB w1).add 2) .u32 λx15=>ifB (x15==p1) (da w6 (zB w1) λx16 x17 x18 x19=>dm 36 #[.agg #[zh x16,zu x17,zu x18,x19.zw]] w6 λx21 w7=>ifB (x21==7) (ze p0 λa22=>ldP w7.drew (a22.add 3) λx23=>ldI w7.drew ((zB w1).add 1) .u32 λx24=>dW 37 #[.pointer x23,zu x24,zi 0] w7.drew λx26 x27 w8=>ldS w8 ((zB w1).add 3) λx28=>ifB ((x28.l:Int)==1) (ldS w8.drew ((zB w1).add 3) λx29=>(0<=(0:Int)/\0<(x29.l:Int))/\ze x29.a λa30=>ldI w8.drew ((a30.add (0*3)).add 1) .u32 λx31=>ze p0 λa32=>ldP w8.drew (a32.add 3) λx33=>dm 38 #[.pointer x33,zu x26] w8.drew λx35 w9=>w9.cell? ((a30.add (0*3)).add 1)=some (zu x31)/\w9.cell? ((zB w1).add 3)=some (x29.zw)/\(0<=x35/\x35<=x35/\4*x35<=281474976710656/\x35<=9223372036854775807)/\Nw (w9.alloc (.cells (madeCells #[zu 0] (x35.toNat *1)) 22)) λw10=>w10.cell? ((a30.add (0*3)).add 1)=some (zu x31)/\w10.cell? ((zB w1).add 3)=some (x29.zw)/\R (.tuple #[zu x31,zu x26,.slice (some (zB w9)) x35.toNat x35.toNat,.bool true]) w10) (ldS w8 ((zB w1).add 3) λx36=>(0<=(1:Int)/\1<(x36.l:Int))/\ze x36.a λa37=>ldI w8 ((a37.add (1*3)).add 1) .u32 λx38=>dx53 11 #[.pointer p0,zu x38] w8 λx40 x41 x42 w11=>ldS w11 ((zB w1).add 3) λx43=>(0<=(0:Int)/\0<(x43.l:Int))/\ze x43.a λa44=>ldI w11 ((a44.add (0*3)).add 1) .u32 λx45=>R (.tuple #[zu x45,zu x26,x41.zw,.bool true]) w11)) (m5 () w7)) (m5 () w6)) (m5 () w6)) (λs6 w12=>n2 ((IntKind.i64.wrap (s1.1+(1:Int))),()) w12)) (R (.tuple #[zu 0,zu 0,.slice none 0 0,.bool false]) w1)) (0,()) w
theorem Y1(p0)(p1)(R)(w)(h:y8 p0 p1 R w):Calls Tryz.prog 16 #[.pointer p0,.int .u32 p1] w (Ret R):=lwC yB Tryz.func16 (by kernel_rfl) (by kernel_rfl) h
def ZI:Ann:=(.q (.q (.seq none (.q (.one (.loop ⟨[0,1,2,8],[(9,(.b (.int .i64)))]⟩ (.seq none (.q .c) (.seq none (.one (.q (.seq (some ⟨[0,1,2,8,9,11],[(13,(.b .bool))]⟩) .nil (.seq (some ⟨[0,1,2,8,9],[(13,(.b .bool))]⟩) (.q (.one (.loop ⟨[0,1,2,8,9,11],[(13,(.b .bool)),(14,(.b (.int .i64)))]⟩ (.seq (some ⟨[0,1,2,8,9,11,14],[]⟩) (.q .c) (.seq none (.one .nil) .nil))))) (.q (.cond (.q .nil) .nil)))))) .nil))))) (.q .nil))))
def ZD(p0:Option Addr)(p1:Int)(p2:Sl)(R:VWP)(w:World):Prop:=dk 10 #[.pointer p0] w λx2 w1=>zn (S:=Int×Unit) (λs3 w2 n4=>ifB (decide (s3.1<(x2.l:Int))) ((0<=s3.1/\s3.1<(x2.l:Int))/\ze x2.a λa5=>ldI w2 (a5.add s3.1.toNat) .u32 λx6=>dx53 11 #[.pointer p0,zu x6] w2 λx8 x9 x10 w3=>zl (S:=Bool×Unit) (λm11=>ifB (x8==p1) (m11 (((x9.l:Int)==(p2.l:Int)),()) w3) (m11 (false,()) w3)) (λs12 w4=>zl (S:=Bool×Unit) (λm13=>zn (S:=Bool×Int×Unit) (λs15 w5 n16=>zl (S:=Unit) (λm17=>ifB s15.1 (ifB (decide (s15.2.1<(p2.l:Int))) (m17 () w5) (m13 (s15.1,()) w5)) (m13 (s15.1,()) w5)) (λs18 w6=>(0<=s15.2.1/\s15.2.1<(x9.l:Int))/\ze x9.a λa19=>ldI w6.drew (a19.add s15.2.1.toNat) .u32 λx20=>(0<=s15.2.1/\s15.2.1<(p2.l:Int))/\ze p2.a λa21=>ldI w6.drew (a21.add s15.2.1.toNat) .u32 λx22=>n16 ((x20==x22),(IntKind.i64.wrap (s15.2.1+(1:Int))),()) w6.drew)) (s12.1,0,()) w4) (λs14 w7=>ifB s14.1 ((0<=s3.1/\s3.1<(x2.l:Int))/\ze x2.a λa23=>ldI w7 (a23.add s3.1.toNat) .u32 λx24=>R (.tuple #[zu x24,.bool true]) w7) (n4 ((IntKind.i64.wrap (s3.1+(1:Int))),()) w7)))) (R (.tuple #[zu 0,.bool false]) w2)) (0,()) w1
theorem zbx(p0)(p1)(p2)(R)(w)(h:ZD p0 p1 p2 R w):Calls Tryz.prog 21 #[.pointer p0,.int .u32 p1,.slice p2.a p2.l p2.c] w (Ret R):=lwC ZI Tryz.func21 (by kernel_rfl) (by kernel_rfl) h
def zcg:Ann:=(.q (.q (.seq none (.q (.cond (.q .nil) .nil)) (.q (.seq none (.q (.one (.loop ⟨[1,3,5,6],[(7,(.b (.int .i64)))]⟩ (.seq none (.q .c) (.seq (some ⟨[1,3,5,6,7],[]⟩) (.one (.q (.cond (.q (.q (.cond (.q .nil) .nil))) .nil))) .nil))))) (.q .nil))))))
def zbL(p0:(Int×Int×Sl×Unit))(R:VWP)(w:World):Prop:=Nw (w.alloc (.cells #[zu p0.1,zu p0.2.1,p0.2.2.1.zw] 25)) λw1=>Nw (w1.alloc (.cells #[zi 0,zi 0] 56)) λw2=>dc w2 (zB w) λx1 x2 x3=>dL 53 #[.agg #[zu x1,zu x2,x3.zw]] w2 λx5 x6 w3=>dg w3 #[zi 0,zi 0] 56 (zi x6.1) (zi x6.2.1) λw6=>ldI w6 (zB w3) .i64 λx7=>ifB (x7 !=0) (dd w6.drew (zB w3) λx8 x9=>df w6.drew (zB w1) (zi x8) (zi x9) λw8=>dd w8 (zB w1) λx10 x11=>R (.tuple #[.pointer none,.agg #[zi x10,zi x11]]) w8) (dc w6 (zB w) λx12 x13 x14=>Nw (w6.alloc (.cells #[zu x12,zu x13,x14.zw,.pointer x5] 70)) λw9=>zn (S:=Int×Unit) (λs15 w10 n16=>ldS w10 ((zB w).add 2) λx17=>ifB (decide (s15.1<(x17.l:Int))) (zl (S:=Unit) (λm18=>ldS w10 ((zB w).add 2) λx20=>(0<=s15.1/\s15.1<(x20.l:Int))/\ze x20.a λa21=>da w10 (a21.add (s15.1.toNat *4)) λx22 x23 x24 x25=>dm 36 #[.agg #[zh x22,zu x23,zu x24,x25.zw]] w10 λx27 w11=>ifB (x27==7) (dm 54 #[.pointer (some (zB w6)),zi s15.1] w11 λx29 w12=>ifB (x29 !=0) (df w12 (zB w1) (zi x29) (zi s15.1) λw14=>dd w14 (zB w1) λx30 x31=>R (.tuple #[.pointer none,.agg #[zi x30,zi x31]]) w14) (m18 () w12)) (m18 () w11)) (λs19 w15=>n16 ((IntKind.i64.wrap (s15.1+(1:Int))),()) w15)) (dd w10.drew (zB w3) λx32 x33=>df w10.drew (zB w1) (zi x32) (zi x33) λw17=>dd w17 (zB w1) λx34 x35=>R (.tuple #[.pointer (some (zB w6)),.agg #[zi x34,zi x35]]) w17)) (0,()) w9)
theorem zex(p0)(R)(w)(h:zbL p0 R w):Calls Tryz.prog 29 #[.agg #[.int .u32 p0.1,.int .u32 p0.2.1,.slice p0.2.2.1.a p0.2.2.1.l p0.2.2.1.c]] w (Ret R):=lwC zcg Tryz.func29 (by kernel_rfl) (by kernel_rfl) h
def zcN:Ann:=(.q (.q .nil))
def zcC(p0:Int)(R:VWP)(w:World):Prop:=ifB (p0==1) (R (.bool true) w) (ifB (p0==41) (R (.bool true) w) (ifB (p0==42) (R (.bool true) w) (ifB (p0==43) (R (.bool true) w) (ifB (p0==44) (R (.bool true) w) (R (.bool (p0==46)) w)))))
theorem zeW(p0)(R)(w)(h:zcC p0 R w):Calls Tryz.prog 32 #[.int .u16 p0] w (Ret R):=lwC zcN Tryz.func32 (by kernel_rfl) (by kernel_rfl) h
def Z0:Ann:=(.q (.seq none (.q (.one (.loop ⟨[0,1,2],[(7,(.b (.int .i64)))]⟩ (.seq none (.q .c) (.seq (some ⟨[0,1,2,7],[]⟩) (.one (.q (.cond (.q .nil) .nil))) .nil))))) (.q .nil)))
def Zq(p0:Option Addr)(p1:Int)(p2:Int)(R:VWP)(w:World):Prop:=zn (S:=Int×Unit) (λs1 w1 n2=>ifB (decide (s1.1<p2)) (zl (S:=Unit) (λm3=>ze p0 λa5=>ldS w1 (a5.add 2) λx6=>(0<=s1.1/\s1.1<(x6.l:Int))/\ze x6.a λa7=>ldI w1 ((a7.add (s1.1.toNat *4)).add 2) .u32 λx8=>ifB (x8==p1) (ifB (p1 !=0) (ze p0 λa9=>ldS w1 (a9.add 2) λx10=>(0<=s1.1/\s1.1<(x10.l:Int))/\ze x10.a λa11=>ldI w1 (a11.add (s1.1.toNat *4)) .u16 λx12=>db 32 #[zh x12] w1 λx14 w2=>ifB x14 (R (zi s1.1) w2) (m3 () w2)) (m3 () w1)) (m3 () w1)) (λs4 w3=>n2 ((IntKind.i64.wrap (s1.1+(1:Int))),()) w3)) (R (zi (-1:Int)) w1)) (0,()) w
theorem za9(p0)(p1)(p2)(R)(w)(h:Zq p0 p1 p2 R w):Calls Tryz.prog 33 #[.pointer p0,.int .u32 p1,.int .i64 p2] w (Ret R):=lwC Z0 Tryz.func33 (by kernel_rfl) (by kernel_rfl) h
def Z2:Ann:=(.q (.q (.seq none (.q (.cond (.q .nil) .nil)) (.seq none (.q (.cond (.q .nil) .nil)) (.seq none (.q (.cond (.q .nil) .nil)) (.seq none (.q (.cond (.q (.seq none (.q (.one (.loop ⟨[0,1,5],[(6,(.b .slice)),(7,(.b (.int .i64)))]⟩ (.seq none (.q .c) (.seq none (.one .nil) .nil))))) (.q .nil))) .nil)) (.q .nil)))))))
def Zs(p0:Option Addr)(p1:Int)(R:VWP)(w:World):Prop:=ze p0 λa1=>ldS w (a1.add 2) λx2=>(0<=p1/\p1<(x2.l:Int))/\ze x2.a λa3=>da w (a3.add (p1.toNat *4)) λx4 x5 x6 x7=>dh w #[zh 0,zu 0,zu 0,.slice none 0 0] 52 (zh x4) (zu x5) (zu x6) (x7.zw) λw5=>ldI w5 (zB w) .u16 λx8=>ifB (x8==41) (Nw (w5.alloc (.cells #[zu 1] 22)) λw6=>R (.slice (some (zB w5)) 1 1) w6) (ldI w5 (zB w) .u16 λx9=>ifB (x9==42) (Nw (w5.alloc (.cells #[zu 0] 22)) λw7=>R (.slice (some (zB w5)) 1 1) w7) (ldI w5 (zB w) .u16 λx10=>ifB (x10==43) (ldS w5 ((zB w).add 3) λx11=>(0<=(0:Int)/\0<(x11.l:Int))/\ze x11.a λa12=>ldI w5 ((a12.add (0*3)).add 1) .u32 λx13=>Nw (w5.alloc (.cells #[zu x13] 22)) λw8=>R (.slice (some (zB w5)) 1 1) w8) (ldI w5 (zB w) .u16 λx14=>ifB (x14==44) (zn (S:=Sl×Int×Unit) (λs15 w9 n16=>ldS w9 ((zB w).add 3) λx17=>ifB (decide (s15.2.1<(x17.l:Int))) (ldS w9 ((zB w).add 3) λx18=>(0<=s15.2.1/\s15.2.1<(x18.l:Int))/\ze x18.a λa19=>ldI w9 ((a19.add (s15.2.1.toNat *3)).add 1) .u32 λx20=>dm 33 #[.pointer p0,zu x20,zi p1] w9 λx22 w10=>dk 34 #[.pointer p0,zi x22] w10 λx24 w11=>zr Tryz.prog 30 (s15.1.zw) (x24.zw) w11 λr25 w12=>n16 (r25,(IntKind.i64.wrap (s15.2.1+(1:Int))),()) w12) (R (s15.1.zw) w9)) ((Sl.mk none 0 0),0,()) w5) (ze p0 λa26=>ldP w5.drew (a26.add 3) λx27=>ldI w5.drew ((zB w).add 1) .u32 λx28=>dm 38 #[.pointer x27,zu x28] w5.drew λx30 w13=>(0<=x30/\x30<=x30/\4*x30<=281474976710656/\x30<=9223372036854775807)/\Nw (w13.alloc (.cells (madeCells #[zu 0] (x30.toNat *1)) 22)) λw14=>R (.slice (some (zB w13)) x30.toNat x30.toNat) w14))))
theorem zaB(p0)(p1)(R)(w)(h:Zs p0 p1 R w):Calls Tryz.prog 34 #[.pointer p0,.int .i64 p1] w (Ret R):=lwC Z2 Tryz.func34 (by kernel_rfl) (by kernel_rfl) h
def Zz:Ann:=(.q (.q (.q (.seq (some ⟨[0,1,5,6],[(7,(.b .bool))]⟩) .nil (.seq (some ⟨[0,1,5,6,7],[]⟩) (.q (.cond (.q .nil) .nil)) (.seq (some ⟨[0,1,5,6,7],[]⟩) (.q (.cond (.q .nil) .nil)) (.seq (some ⟨[0,1,5,6,7],[]⟩) (.q (.cond (.q .nil) .nil)) (.seq (some ⟨[0,1,5,6],[]⟩) (.q (.cond (.seq none (.q (.cond (.q .nil) .nil)) (.seq none (.q (.cond (.q .nil) .nil)) (.q (.one (.loop ⟨[0,1,5,6],[(8,(.b (.int .i64)))]⟩ (.seq none (.q .c) (.seq none (.one (.q (.q (.q (.cond (.q .nil) .nil))))) .nil))))))) .nil)) (.seq none (.q (.cond (.seq none (.q (.cond (.q .nil) .nil)) (.q (.seq none (.q (.cond (.q .nil) .nil)) (.q (.cond (.seq none (.q (.cond (.q .nil) .nil)) (.q (.q .nil))) .nil))))) .nil)) (.q .nil))))))))))
def Zp(p0:Option Addr)(p1:Int)(R:VWP)(w:World):Prop:=ze p0 λa1=>ldS w (a1.add 2) λx2=>(0<=p1/\p1<(x2.l:Int))/\ze x2.a λa3=>da w (a3.add (p1.toNat *4)) λx4 x5 x6 x7=>dh w #[zh 0,zu 0,zu 0,.slice none 0 0] 52 (zh x4) (zu x5) (zu x6) (x7.zw) λw5=>ze p0 λa8=>ldP w5.drew (a8.add 3) λx9=>ldI w5.drew ((zB w).add 1) .u32 λx10=>dA 77 #[.pointer x9,zu x10] w5.drew λx12 w6=>zl (S:=Bool×Unit) (λm13=>ifB (x12==4) (m13 (true,()) w6) (ifB (x12==5) (m13 (true,()) w6) (m13 ((x12==6),()) w6))) (λs14 w7=>zl (S:=Unit) (λm15=>ldI w7.drew (zB w) .u16 λx17=>ifB (x17==1) (ze p0 λa18=>ldP w7.drew (a18.add 3) λx19=>ldI w7.drew ((zB w).add 1) .u32 λx20=>db 58 #[.pointer x19,zu x20] w7.drew λx22 w8=>ifB (!x22) (R (zi 100) w8) (m15 () w8)) (ldI w7.drew (zB w) .u16 λx23=>ifB (x23==46) (ze p0 λa24=>ldP w7.drew (a24.add 3) λx25=>ldI w7.drew ((zB w).add 1) .u32 λx26=>db 58 #[.pointer x25,zu x26] w7.drew λx28 w9=>ifB (!x28) (R (zi 100) w9) (m15 () w9)) (m15 () w7.drew))) (λs16 w10=>zl (S:=Unit) (λm29=>ldI w10 (zB w) .u16 λx31=>ifB (x31==41) (ifB (x12 !=2) (R (zi 100) w10) (m29 () w10)) (ldI w10 (zB w) .u16 λx32=>ifB (x32==42) (ifB (x12 !=2) (R (zi 100) w10) (m29 () w10)) (m29 () w10))) (λs30 w11=>zl (S:=Unit) (λm33=>ldI w11 (zB w) .u16 λx35=>ifB (x35==43) (ifB (x12 !=3) (R (zi 100) w11) (m33 () w11)) (m33 () w11)) (λs34 w12=>zl (S:=Unit) (λm36=>ldI w12 (zB w) .u16 λx38=>ifB (x38==44) (ifB (!s14.1) (R (zi 100) w12) (ldS w12.drew ((zB w).add 3) λx39=>ze p0 λa40=>ldP w12.drew (a40.add 3) λx41=>ldI w12.drew ((zB w).add 1) .u32 λx42=>dm 78 #[.pointer x41,zu x42] w12.drew λx44 w13=>w13.cell? ((zB w).add 3)=some (x39.zw)/\ifB ((x39.l:Int) !=x44) (R (zi 111) w13) (zn (S:=Int×Unit) (λs45 w14 n46=>ldS w14 ((zB w).add 3) λx47=>ifB (decide (s45.1<(x47.l:Int))) (ze p0 λa48=>ldP w14.drew (a48.add 3) λx49=>ldI w14.drew ((zB w).add 1) .u32 λx50=>dW 37 #[.pointer x49,zu x50,zi s45.1] w14.drew λx52 x53 w15=>ldS w15 ((zB w).add 3) λx54=>(0<=s45.1/\s45.1<(x54.l:Int))/\ze x54.a λa55=>ldI w15 ((a55.add (s45.1.toNat *3)).add 1) .u32 λx56=>dm 79 #[.pointer p0,zu x56,zu x52,zi p1] w15 λx58 w16=>ifB (x58 !=0) (R (zi x58) w16) (n46 ((IntKind.i64.wrap (s45.1+(1:Int))),()) w16)) (m36 () w14)) (0,()) w13))) (m36 () w12)) (λs37 w17=>ldI w17 (zB w) .u16 λx59=>ifB (x59==59) (ifB (x12 !=7) (R (zi 100) w17) (ze p0 λa60=>ldP w17.drew (a60.add 3) λx61=>ldI w17.drew ((zB w).add 1) .u32 λx62=>dW 80 #[.pointer x61,zu x62] w17.drew λx64 x65 w18=>ldS w18 ((zB w).add 3) λx66=>(0<=(0:Int)/\0<(x66.l:Int))/\ze x66.a λa67=>ldI w18 ((a67.add (0*3)).add 1) .u32 λx68=>ifB (x64 !=x68) (R (zi 112) w18) (ldS w18 ((zB w).add 3) λx69=>ifB (decide ((x69.l:Int)>1)) (ifB (x64==1) (R (zi 112) w18) (ze p0 λa70=>ldP w18.drew (a70.add 3) λx71=>ldI w18.drew ((zB w).add 1) .u32 λx72=>dW 37 #[.pointer x71,zu x72,zi 0] w18.drew λx74 x75 w19=>ldS w19 ((zB w).add 3) λx76=>(0<=(1:Int)/\1<(x76.l:Int))/\ze x76.a λa77=>ldI w19 ((a77.add (1*3)).add 1) .u32 λx78=>dm 79 #[.pointer p0,zu x78,zu x74,zi p1] w19 λx80 w20=>R (zi x80) w20)) (R (zi 0) w18)))) (R (zi 0) w17))))))
theorem za8(p0)(p1)(R)(w)(h:Zp p0 p1 R w):Calls Tryz.prog 54 #[.pointer p0,.int .i64 p1] w (Ret R):=lwC Zz Tryz.func54 (by kernel_rfl) (by kernel_rfl) h
def ZJ:Ann:=(.q (.q (.seq none (.q (.cond (.q .nil) .nil)) (.seq none (.q (.cond (.q .nil) .nil)) (.q .nil)))))
def ZE(p0:Option Addr)(p1:Int)(p2:Int)(p3:Int)(R:VWP)(w:World):Prop:=dm 33 #[.pointer p0,zu p1,zi p3] w λx2 w1=>ifB (decide (x2<(0:Int))) (R (zi 110) w1) (ze p0 λa3=>ldS w1 (a3.add 2) λx4=>(0<=x2/\x2<(x4.l:Int))/\ze x4.a λa5=>ldI w1 ((a5.add (x2.toNat *4)).add 1) .u32 λx6=>ifB (x6 !=p2) (R (zi 111) w1) (R (zi 0) w1))
theorem zby(p0)(p1)(p2)(p3)(R)(w)(h:ZE p0 p1 p2 p3 R w):Calls Tryz.prog 79 #[.pointer p0,.int .u32 p1,.int .u32 p2,.int .i64 p3] w (Ret R):=lwC ZJ Tryz.func79 (by kernel_rfl) (by kernel_rfl) h
end Go.Proofs
namespace Go.Proofs
open Go.Gk Go.RowKit Go.Gm
structure IsRl (w:World) (A:Nat->Prop) (pb:Nat) (x:Mo) (pl:List PI) (T:TyL):Prop where
 ex:∃tb,Blk w pb 70 [.int .u32 x.1,.int .u32 x.2.1,.slice x.2.2.1.a x.2.2.1.l x.2.2.1.c,.pointer (some (Gk.blk tb))]/\IsRt w A tb T
 pl:IsPl w x.2.2.1 pl
def mkC(pl:List PI)(id:Int)(n:Nat):Int:=match (List.range n).find? (λk=>(ix pl k).2.2.1==id&&(id !=0&&isC (ix pl k).1)) with
 |some k=>(k:Int)
 |none=>-1
section
variable {w w':World} {A:Nat->Prop} {pb n:Nat} {x:Mo} {pl:List PI} {T:TyL} {R:VWP} {bd:Int}
theorem IsRl.below(h:IsRl w A pb x pl T)(hb:Below w.heap.size w w'):IsRl w' A pb x pl T:=by
 obtain⟨⟨tb,h1,h2⟩,h3⟩:=h
 exact⟨⟨tb,h1.below hb,h2.below hb⟩,h3.below hb⟩
theorem zmN{op:Int}(hR:R (.bool (isC op)) w):cR 32 #[.int .u16 op] w R:=by
 refine za.of (zeW op R w ?_) λ_ _ h=>h
 unfold isC at hR
 refine zj (λe=>?_) (λe=>?_)
 ·rw[e]at hR;exact hR
 rw[beq_eq_false_iff_ne.2 e]at hR
 refine zj (λe=>?_) (λe=>?_)
 ·rw[e]at hR;exact hR
 rw[beq_eq_false_iff_ne.2 e]at hR
 refine zj (λe=>?_) (λe=>?_)
 ·rw[e]at hR;exact hR
 rw[beq_eq_false_iff_ne.2 e]at hR
 refine zj (λe=>?_) (λe=>?_)
 ·rw[e]at hR;exact hR
 rw[beq_eq_false_iff_ne.2 e]at hR
 refine zj (λe=>?_) (λe=>?_)
 ·rw[e]at hR;exact hR
 rw[beq_eq_false_iff_ne.2 e]at hR
 exact hR
theorem zl1{id:Int}{k:Nat}(hk:k<n)(h:((ix pl k).2.2.1==id&&(id !=0&&isC (ix pl k).1))=true)(hno:∀j,j<k->((ix pl j).2.2.1==id&&(id !=0&&isC (ix pl j).1))=false):mkC pl id n=(k:Int):=by
 unfold mkC
 rw[List.find?_range_eq_some.2 ⟨h,List.mem_range.2 hk,λj hj=>by rw[hno j hj];rfl⟩]
theorem znk{id:Int}(hno:∀j,j<n->((ix pl j).2.2.1==id&&(id !=0&&isC (ix pl j).1))=false):mkC pl id n=-1:=by
 unfold mkC
 rw[List.find?_eq_none.2 λj hj=>by rw[hno j (List.mem_range.1 hj)];simp]
theorem IsPl.base_{s:Sl}(h:IsPl w s pl){k:Nat}(hk:k<pl.length):∃a,s.a=some a:=by
 cases ha:s.a with
 |none=>have:=h.nil ha;have:=h.cap;have:=h.len;omega
 |some a=>exact⟨a,rfl⟩
theorem zfJ{id:Int}(h:IsRl w A pb x pl T)(hn:n<=pl.length)(hR:∀w',Below w.heap.size w w'->R (.int .i64 (mkC pl id n)) w') :
  cR 33 #[.pointer (some (blk pb)),.int .u32 id,.int .i64 (n:Int)] w R:=by
 refine za.of (za9 _ id n R w ?_) λ_ _ h=>h
 obtain⟨⟨tb,h1,h2⟩,hN⟩:=h
 have hnl:=hN.len
 have hbd:pl.length<=9223372036854775807:=by have:=hN.cap;have:=hN.max;omega
 refine zn.count n (by omega) (λk w'=>Below w.heap.size w w'/\∀j,j<k->((ix pl j).2.2.1==id&&(id !=0&&isC (ix pl j).1))=false) ⟨Below.refl _ _,λj h=>by omega⟩ ?_
 rintro k w1 hk ⟨b1,hno⟩ next hnext
 refine zk (λg=>?_) (λg=>?_)
 rotate_left
 ·have:=hR w1 b1
  rwa[znk λj hj=>hno j (by dsimp only at g;omega)]at this
 have hkn:k<n:=by dsimp only at g;omega
 have hkl:k<pl.length:=by omega
 have hix:=zK hkl
 obtain⟨a,ha⟩:=hN.base_ hkl
 obtain⟨t,hc,_⟩:=(hN.below b1).elem a ha k hkl
 refine zl.cut (λ(_:Unit) w'=>Below w1.heap.size w1 w'/\((ix pl k).2.2.1==id&&(id !=0&&isC (ix pl k).1))=false) ?_ ?_
 rotate_left
 ·rintro _ w3 ⟨b3,hf⟩
  refine hnext w3 hkn ⟨b1.on b3,λj hj=>?_⟩
  by_cases e:j=k
  ·subst e;exact hf
  ·exact hno j (by omega)
 refine zf rfl ((h1.below b1).rS (n:=2) (x:=x.2.2.1) rfl ⟨⟨by dsimp only;omega,by dsimp only;omega⟩,zf ha ⟨pl[k].2.2.1,by rw[zt];exact hc 2 (by decide),zj (λe=>?_) (λe=>⟨Below.refl _ _,?_⟩)⟩⟩)
 rotate_left
 ·rw[hix,beq_eq_false_iff_ne.2 e]
  rfl
 refine zp (λe0=>?_) (λe0=>⟨Below.refl _ _,?_⟩)
 rotate_left
 ·rw[show(id !=0)=false by rw[e0];rfl]
  simp
 refine zf rfl ((h1.below b1).rS (n:=2) (x:=x.2.2.1) rfl ⟨⟨by dsimp only;omega,by dsimp only;omega⟩,zf ha ⟨pl[k].1,by have:=hc 0 (by decide);simpa using this,zmN ⟨_,rfl,zC (λq=>?_) (λq=>⟨Below.refl _ _,?_⟩)⟩⟩⟩)
 ·have:=hR w1 b1
  rwa[zl1 hkn (by rw[hix,q,show(pl[k].2.2.1==id)=true from beq_iff_eq.2 e,bne_iff_ne.2 e0];rfl) hno]at this
 ·rw[hix,q]
  simp
theorem zk7(W:zV bd pl)(T:TyL){id:Int}(hn:n<=pl.length):(mkC pl id n=-1/\zv (cnsC T pl n).1 id=none)\/∃k,k<n/\mkC pl id n=(k:Int)/\isC (ix pl k).1=true/\zv (cnsC T pl n).1 id=some ((ix pl k).2.1,wdP T pl k):=by
 cases hl:zv (cnsC T pl n).1 id with
 |none=>
  refine .inl ⟨znk λj hj=>?_,rfl⟩
  cases hq:((ix pl j).2.2.1==id&&(id !=0&&isC (ix pl j).1)) with
  |false=>rfl
  |true=>
   rw[Bool.and_eq_true,beq_iff_eq,Bool.and_eq_true]at hq
   have:=((ZU (T:=T) W id n hn).1 ((ix pl j).2.1,wdP T pl j)).2 ⟨j,hj,hq.2.2,hq.1,rfl⟩
   rw[hl]at this
   cases this
 |some c=>
  obtain⟨k,k1,k2,k3,k4⟩:=((ZU (T:=T) W id n hn).1 c).1 hl
  have hr:=zlW W.shape (by omega) k2
  refine .inr ⟨k,k1,zl1 k1 ?_ λj hj=>?_,k2,by rw[k4]⟩
  ·rw[k3,beq_self_eq_true,k2,bne_iff_ne.2 (by rw[<-k3];exact hr)]
   rfl
  ·cases hq:((ix pl j).2.2.1==id&&(id !=0&&isC (ix pl j).1)) with
   |false=>rfl
   |true=>
    rw[Bool.and_eq_true,beq_iff_eq]at hq
    exact absurd (hq.1.trans k3.symm) (W.new k (by omega) hr j hj (by omega))
theorem zkn{id ty:Int}(h:IsRl w A pb x pl T)(W:zV bd pl)(hn:n<=pl.length)(hR:∀w',Below w.heap.size w w'->R (.int .i64 (ofC (cnsC T pl n).1 id ty).2) w') :
  cR 79 #[.pointer (some (blk pb)),.int .u32 id,.int .u32 ty,.int .i64 (n:Int)] w R:=by
 refine za.of (zby _ id ty n R w ?_) λ_ _ h=>h
 refine zfJ h hn λw1 b1=>⟨_,rfl,?_⟩
 have hR:=hR w1 b1
 unfold ofC at hR
 rcases zk7 W T (id:=id) hn with⟨e1,e2⟩ | ⟨k,k1,e1,k2,e2⟩
 ·rw[e1]
  rw[e2]at hR
  exact zD (by decide) hR
 ·rw[e1]
  rw[e2]at hR
  dsimp only at hR
  obtain⟨⟨tb,h1,h2⟩,hN⟩:=h.below b1
  have hkl:k<pl.length:=by omega
  obtain⟨a,ha⟩:=hN.base_ hkl
  obtain⟨t,hc,_⟩:=hN.elem a ha k hkl
  have hnl:=hN.len
  refine zk (λq=>by omega) (λ_=>zf rfl (h1.rS (n:=2) (x:=x.2.2.1) rfl ⟨⟨by omega,by omega⟩,zf ha ⟨pl[k].2.1,by rw[zt];exact hc 1 (by decide),zp (λe=>?_) (λe=>?_)⟩⟩))
  ·rw[if_pos (by rw[zK hkl];exact e)]at hR
   exact hR
  ·rw[if_neg (λq=>q (by rw[zK hkl];exact e))]at hR
   exact hR
end
end Go.Proofs
namespace Go.Proofs
open Go.Gk Go.RowKit Go.Gm
section
variable {w w':World} {A:Nat->Prop} {pb n:Nat} {x:Mo} {pl:List PI} {T:TyL} {R:VWP} {bd:Int}
set_option maxHeartbeats 4000000 in
theorem zmM(h:IsRl w A pb x pl T)(hT:TbOk T)(W:zV bd pl)(hk:n<pl.length)(h7:zo (ix pl n)=7)(hR:∀w',Below w.heap.size w w'->R (.int .i64 (errC T (cnsC T pl n).1 pl n)) w') :
  cR 54 #[.pointer (some (blk pb)),.int .i64 (n:Int)] w R:=by
 refine za.of (za8 _ n R w ?_) λ_ _ h=>h
 have hs:=W.shape
 have hix:=zK hk
 have eO:(ix pl n).1=pl[n].1:=by rw[hix]
 have eT:(ix pl n).2.1=pl[n].2.1:=by rw[hix]
 have eL:(ix pl n).2.2.2=pl[n].2.2.2:=by rw[hix]
 have eA:∀j,agI pl n j=(pl[n].2.2.2.getD j ag0).2.1:=λj=>by unfold agI;rw[eL]
 have h':=h
 obtain⟨⟨tb,h1,hRt⟩,hN⟩:=h'
 have hnl:=hN.len
 refine zf rfl (h1.rS (n:=2) (x:=x.2.2.1) rfl (YF hN (Below.refl _ _) hk λt hI0=>box4 rfl λw5 hI5 b5 z5=>?_))
 have hI5:Blk w5 w.heap.size 52 (inV (mkIn pl[n] t)):=hI5
 have b5d:=b5.drew
 have h5:=h.below b5
 have tbl:∀{w'},Below w.heap.size w w'->Blk w' pb 70 [.int .u32 x.1,.int .u32 x.2.1,.slice x.2.2.1.a x.2.2.1.l x.2.2.1.c,.pointer (some (Gk.blk tb))]/\IsRt w' A tb T:=λhb=>⟨h1.below hb,hRt.below hb⟩
 have ins:∀{w'},Below w5.heap.size w5 w'->Blk w' w.heap.size 52 (inV (mkIn pl[n] t)):=λhb=>hI5.below hb
 have arg:∀{w'},Below w.heap.size w w'->IsAg w' t pl[n].2.2.2:=λhb=>IsC.below zG hI0 hb
 obtain⟨K,hK⟩:∃K,K=(tA T pl[n].2.1).kind:=⟨_,rfl⟩
 refine zf rfl ⟨_,(tbl b5d).1.cell (n:=3) rfl,(ins (Below.refl _ _).drew).rI (n:=1) (x:=pl[n].2.1) rfl (Ya (tbl b5d).2 λw6 b6=>⟨_,rfl,?_⟩)⟩
 rw[<-hK]
 have b56:Below w5.heap.size w5 w6:=(Below.refl w5.heap.size w5).drew.on b6
 have b06:=b5.on b56
 have hcl:=ze8 hT pl[n].2.1
 rw[<-hK]at hcl
 have said:∀{e:Int} {w'},errC T (cnsC T pl n).1 pl n=e->Below w.heap.size w w'->R (.int .i64 e) w':=λhe hb=>by rw[<-he];exact hR _ hb
 have wd:∀{q:List Int×Int},(ix pl n).1≠59->wdsC T (cnsC T pl n).1 pl n=some q->errC T (cnsC T pl n).1 pl n=q.2:=λe hq=>by
  unfold errC
  rw[if_neg e,hq]
 refine zl.cut (λ(st:Bool×Unit) w'=>st=(decide (4<=K/\K<=6),())/\w6=w') ?_ ?_
 ·refine zj (λe=>⟨?_,rfl⟩) (λe=>zj (λe2=>⟨?_,rfl⟩) (λe2=>⟨?_,rfl⟩))
  ·rw[decide_eq_true (by omega)]
  ·rw[decide_eq_true (by omega)]
  ·refine Prod.ext ?_ rfl
   show(K==6)=decide (4<=K/\K<=6)
   rw[Bool.eq_iff_iff,beq_iff_eq,decide_eq_true_eq]
   omega
 rintro _ w7 ⟨rfl,rfl⟩
 refine zl.cut (λ(_:Unit) w'=>Below w6.heap.size w6 w'/\((ix pl n).1=1\/(ix pl n).1=46->errC T (cnsC T pl n).1 pl n=0)) ?_ ?_
 ·have plain:∀{w8},Below w6.heap.size w6 w8->((ix pl n).1=1\/(ix pl n).1=46)->ifB (!decide (0<(tA T pl[n].2.1).size)) (R (.int .i64 100) w8) (Below w6.heap.size w6 w8/\((ix pl n).1=1\/(ix pl n).1=46->errC T (cnsC T pl n).1 pl n=0)):=λ{w8} hb e=>by
   have hw:wdsC T (cnsC T pl n).1 pl n=some (if (tA T (ix pl n).2.1).size=0 then([],100) else(List.replicate (tA T (ix pl n).2.1).size 0,0)):=by
    unfold wdsC
    rw[if_pos e]
   have he:=wd (by omega) hw
   rw[eT]at he
   refine zH (zk (λg=>⟨hb,λ_=>?_⟩) (λg=>?_))
   ·rw[he,if_neg (by omega)]
   ·refine said ?_ (b06.on hb)
    rw[he,if_pos (by omega)]
  have b6d:Below w6.heap.size w6 w6.drew:=(Below.refl _ _).drew
  refine(ins (b56.on b6d)).rI0 (x:=pl[n].1) rfl (zj (λe=>?_) (λe=>(ins (b56.on b6d)).rI0 (x:=pl[n].1) rfl (zj (λe2=>?_) (λe2=>⟨b6d,λq=>?_⟩))))
  ·refine zf rfl ⟨_,(tbl (b06.on b6d)).1.cell (n:=3) rfl,(ins (b56.on b6d)).rI (n:=1) (x:=pl[n].2.1) rfl (yE (tbl (b06.on b6d)).2 hT λw8 b8=>⟨_,rfl,plain (b6d.on b8) (.inl (by rw[eO];exact e))⟩)⟩
  ·refine zf rfl ⟨_,(tbl (b06.on b6d)).1.cell (n:=3) rfl,(ins (b56.on b6d)).rI (n:=1) (x:=pl[n].2.1) rfl (yE (tbl (b06.on b6d)).2 hT λw8 b8=>⟨_,rfl,plain (b6d.on b8) (.inr (by rw[eO];exact e2))⟩)⟩
  ·rw[eO]at q
   rcases q with q |q
   ·exact absurd q e
   ·exact absurd q e2
 rintro _ w10 ⟨b10,r1⟩
 have b510:=b56.on b10
 have b010:=b06.on b10
 refine zl.cut (λ(_:Unit) w'=>w10=w'/\((ix pl n).1=41\/(ix pl n).1=42->errC T (cnsC T pl n).1 pl n=0)) ?_ ?_
 ·have truth:((ix pl n).1=41\/(ix pl n).1=42)->ifB (K !=2) (R (.int .i64 100) w10) (w10=w10/\((ix pl n).1=41\/(ix pl n).1=42->errC T (cnsC T pl n).1 pl n=0)):=λe=>by
   have hw:wdsC T (cnsC T pl n).1 pl n=some (if (tA T (ix pl n).2.1).kind≠2 then([],100) else(if (ix pl n).1=41 then [1] else [0],0)):=by
    unfold wdsC
    rw[if_neg (by omega),if_pos e]
   have he:=wd (by omega) hw
   rw[eT,<-hK]at he
   refine zp (λg=>said ?_ b010) (λg=>⟨rfl,λ_=>?_⟩)
   ·rw[he,if_pos g]
   ·rw[he,if_neg (λq=>q g)]
  refine(ins b510).rI0 (x:=pl[n].1) rfl (zj (λe=>truth (.inl (by rw[eO];exact e))) (λe=>(ins b510).rI0 (x:=pl[n].1) rfl (zj (λe2=>truth (.inr (by rw[eO];exact e2))) (λe2=>⟨rfl,λq=>?_⟩))))
  rw[eO]at q
  rcases q with q |q
  ·exact absurd q e
  ·exact absurd q e2
 rintro _ w11 ⟨rfl,r2⟩
 refine zl.cut (λ(_:Unit) w'=>w10=w'/\((ix pl n).1=43->errC T (cnsC T pl n).1 pl n=0)) ?_ ?_
 ·refine(ins b510).rI0 (x:=pl[n].1) rfl (zj (λe=>?_) (λe=>⟨rfl,λq=>absurd (by rw[<-eO];exact q) e⟩))
  have e43:(ix pl n).1=43:=by rw[eO];exact e
  have hw:wdsC T (cnsC T pl n).1 pl n=some (if (tA T (ix pl n).2.1).kind≠3 then([],100) else([agI pl n 0],0)):=by
   unfold wdsC
   rw[if_neg (by omega),if_neg (by omega),if_pos e43]
  have he:=wd (by omega) hw
  rw[eT,<-hK]at he
  refine zp (λg=>said ?_ b010) (λg=>⟨rfl,λ_=>?_⟩)
  ·rw[he,if_pos g]
  ·rw[he,if_neg (λq=>q g)]
 rintro _ w12 ⟨rfl,r3⟩
 refine zl.cut (λ(_:Unit) w'=>Below w10.heap.size w10 w'/\((ix pl n).1=44->errC T (cnsC T pl n).1 pl n=0)) ?_ ?_
 ·refine(ins b510).rI0 (x:=pl[n].1) rfl (zj (λe=>?_) (λe=>⟨Below.refl _ _,λq=>absurd (by rw[<-eO];exact q) e⟩))
  have e44:(ix pl n).1=44:=by rw[eO];exact e
  have hw:wdsC T (cnsC T pl n).1 pl n=some (if ¬(4<=(tA T (ix pl n).2.1).kind/\(tA T (ix pl n).2.1).kind<=6) then([],100) else if (ix pl n).2.2.2.length≠(tA T (ix pl n).2.1).cnt then([],111) else catC T (cnsC T pl n).1 pl n (ix pl n).2.2.2.length):=by
   unfold wdsC
   rw[if_neg (by omega),if_neg (by omega),if_neg (by omega),if_pos e44]
  have he:=wd (by omega) hw
  rw[eT,<-hK,eL]at he
  refine zH (zk (λg=>?_) (λg=>said (by rw[he,if_pos g]) b010))
  rw[if_neg (λq=>q g)]at he
  have b10d:Below w10.heap.size w10 w10.drew:=(Below.refl _ _).drew
  have hI12:=ins (b510.on b10d)
  have htl:=(arg b010).len
  refine hI12.rS (n:=3) (x:=t) rfl (zf rfl ⟨_,(tbl (b010.on b10d)).1.cell (n:=3) rfl,hI12.rI (n:=1) (x:=pl[n].2.1) rfl (zmL (tbl (b010.on b10d)).2 hT λw13 b13=>⟨_,rfl,(hI12.below b13).cell (n:=3) rfl,?_⟩)⟩)
  have b1013:=b10d.on b13
  refine zp (λg2=>said (by rw[he,if_pos (by omega)]) (b010.on b1013)) (λg2=>?_)
  rw[if_neg (by omega)]at he
  refine zn.ghost (λm (st:Int×Unit) w'=>∃j:Nat,st=((j:Int),())/\j<=pl[n].2.2.2.length/\m=pl[n].2.2.2.length-j/\(catC T (cnsC T pl n).1 pl n j).2=0/\Below w10.heap.size w10 w') pl[n].2.2.2.length ⟨0,rfl,Nat.zero_le _,rfl,rfl,b1013⟩ ?_
  rintro _ _ w14 ⟨j,rfl,hj,rfl,hj0,b14⟩ next hnext
  have hI14:=ins (b510.on b14)
  have b014:=b010.on b14
  refine hI14.rS (n:=3) (x:=t) rfl (zk (λg3=>?_) (λg3=>?_))
  ·have hjl:j<pl[n].2.2.2.length:=by dsimp only at g3;omega
   have b14d:Below w14.heap.size w14 w14.drew:=(Below.refl _ _).drew
   refine zf rfl ⟨_,(tbl (b014.on b14d)).1.cell (n:=3) rfl,(hI14.below b14d).rI (n:=1) (x:=pl[n].2.1) rfl (zgO (tbl (b014.on b14d)).2 hT λw15 b15=>⟨_,_,rfl,?_⟩)⟩
   have b1415:=b14d.on b15
   refine(hI14.below b1415).rS (n:=3) (x:=t) rfl (argN (arg (b014.on b1415)) (j:=j) hjl ?_)
   rw[<-eA j]
   refine zkn (h.below (b014.on b1415)) W (Nat.le_of_lt hk) λw16 b16=>⟨_,rfl,?_⟩
   rw[<-eT]
   refine zp (λg4=>?_) (λg4=>?_)
   ·have:=zjU (T:=T) hj0 g4 _ hjl
    refine said (by rw[he,this]) ((b014.on b1415).on b16)
   ·dsimp only
    rw[zz (by have:=(arg b010).bound;omega)]
    refine hnext (pl[n].2.2.2.length-(j+1)) _ w16 (by omega) ⟨j+1,rfl,by omega,rfl,?_,(b14.on b1415).on b16⟩
    rw[zlj hj0 g4]
  ·have hje:j=pl[n].2.2.2.length:=by dsimp only at g3;omega
   subst hje
   exact⟨b14,λ_=>by rw[he,hj0]⟩
 rintro _ w17 ⟨b17,r4⟩
 have b517:=b510.on b17
 have b017:=b010.on b17
 refine(ins b517).rI0 (x:=pl[n].1) rfl (zj (λe=>?_) (λe=>?_))
 rotate_left
 ·refine said ?_ b017
  have e59:(ix pl n).1≠59:=by rw[eO];exact e
  cases hc:isC (ix pl n).1 with
  |false=>
   unfold errC
   rw[if_neg e59,ziB hc]
  |true=>
   rw[zL]at hc
   rcases hc with q |q |q |q |q |q
   ·exact r1 (.inl q)
   ·exact r2 (.inl q)
   ·exact r2 (.inr q)
   ·exact r3 q
   ·exact r4 q
   ·exact r1 (.inr q)
 have e59:(ix pl n).1=59:=by rw[eO];exact e
 have hE:errC T (cnsC T pl n).1 pl n=(varC T (cnsC T pl n).1 pl n).2:=by
  unfold errC
  rw[if_pos e59]
 unfold varC at hE
 rw[eT,<-hK,eL]at hE
 have vl:=zmr hs hk e59
 rw[eL]at vl
 refine zp (λg=>said (by rw[hE,if_pos g]) b017) (λg=>?_)
 rw[if_neg (λq=>q g)]at hE
 have b17d:Below w17.heap.size w17 w17.drew:=(Below.refl _ _).drew
 refine zf rfl ⟨_,(tbl (b017.on b17d)).1.cell (n:=3) rfl,(ins (b517.on b17d)).rI (n:=1) (x:=pl[n].2.1) rfl (zmK (tbl (b017.on b17d)).2 λw18 b18=>⟨_,_,rfl,?_⟩)⟩
 have b1718:=b17d.on b18
 have b018:=b017.on b1718
 have hI18:=ins (b517.on b1718)
 have htl:=(arg b018).len
 refine hI18.rS (n:=3) (x:=t) rfl (argN (arg b018) (j:=0) (by omega) ?_)
 rw[<-eA 0]
 refine zp (λg2=>said (by rw[hE,if_pos (.inl g2)]) b018) (λg2=>hI18.rS (n:=3) (x:=t) rfl (zk (λg3=>?_) (λg3=>said ?_ b018)))
 rotate_left
 ·rw[hE,if_neg (λq=>q.elim (λz=>z g2) (λz=>absurd z.1 (by omega))),if_pos (by omega)]
 refine zj (λg4=>said (by rw[hE,if_pos (.inr ⟨by omega,g4⟩)]) b018) (λg4=>?_)
 have hne:¬((tA T pl[n].2.1).cls≠agI pl n 0\/(1<pl[n].2.2.2.length/\(tA T pl[n].2.1).cls=1)):=by
  rintro(q |q)
  ·exact q g2
  ·exact g4 q.2
 rw[if_neg hne,if_neg (by omega)]at hE
 have b18d:Below w18.heap.size w18 w18.drew:=(Below.refl _ _).drew
 refine zf rfl ⟨_,(tbl (b018.on b18d)).1.cell (n:=3) rfl,(hI18.below b18d).rI (n:=1) (x:=pl[n].2.1) rfl (zgO (k:=0) (tbl (b018.on b18d)).2 hT λw19 b19=>⟨_,_,rfl,?_⟩)⟩
 have b1819:=b18d.on b19
 refine(hI18.below b1819).rS (n:=3) (x:=t) rfl (argN (arg (b018.on b1819)) (j:=1) (by omega) ?_)
 rw[<-eA 1]
 refine zkn (h.below (b018.on b1819)) W (Nat.le_of_lt hk) λw20 b20=>⟨_,rfl,said hE ((b018.on b1819).on b20)⟩
end
end Go.Proofs
namespace Go.Proofs
open Go.Gk Go.RowKit Go.Gm
section
variable {bd:Int} {pl:List PI} {k:Nat}
theorem zrO(h:CnOk bd pl)(hk:k<pl.length)(hc:(ix pl k).1=1\/(ix pl k).1=46):wdP (tyL pl) pl k=List.replicate (tA (tyL pl) (ix pl k).2.1).size 0:=by
 have hw:=h.const hk (by rw[zL];omega)
 generalize wdP (tyL pl) pl k=wd at hw⊢
 unfold wdsC at hw
 rw[if_pos hc]at hw
 injection hw with hw
 by_cases e:(tA (tyL pl) (ix pl k).2.1).size=0
 ·rw[if_pos e]at hw;cases hw
 ·rw[if_neg e]at hw
  exact(congrArg Prod.fst hw).symm
theorem znG(h:CnOk bd pl)(hk:k<pl.length)(hc:(ix pl k).1=41\/(ix pl k).1=42):wdP (tyL pl) pl k=if (ix pl k).1=41 then [1] else [0]:=by
 have hw:=h.const hk (by rw[zL];omega)
 generalize wdP (tyL pl) pl k=wd at hw⊢
 unfold wdsC at hw
 rw[if_neg (by omega),if_pos hc]at hw
 injection hw with hw
 by_cases e:(tA (tyL pl) (ix pl k).2.1).kind≠2
 ·rw[if_pos e]at hw;cases hw
 ·rw[if_neg e]at hw
  exact(congrArg Prod.fst hw).symm
theorem zs0(h:CnOk bd pl)(hk:k<pl.length)(hc:(ix pl k).1=43):wdP (tyL pl) pl k=[agI pl k 0]:=by
 have hw:=h.const hk (by rw[zL];omega)
 generalize wdP (tyL pl) pl k=wd at hw⊢
 unfold wdsC at hw
 rw[if_neg (by omega),if_neg (by omega),if_pos hc]at hw
 injection hw with hw
 by_cases e:(tA (tyL pl) (ix pl k).2.1).kind≠3
 ·rw[if_pos e]at hw;cases hw
 ·rw[if_neg e]at hw
  exact(congrArg Prod.fst hw).symm
theorem zrr(h:CnOk bd pl)(hk:k<pl.length)(hc:(ix pl k).1=44):∀j,j<(ix pl k).2.2.2.length->∃w,zv (cnsC (tyL pl) pl k).1 (agI pl k j)=some (((tA (tyL pl) (ix pl k).2.1).prt (j:Int)).1,w):=by
 have hw:=h.const hk (by rw[zL];omega)
 generalize wdP (tyL pl) pl k=wd at hw
 unfold wdsC at hw
 rw[if_neg (by omega),if_neg (by omega),if_neg (by omega),if_pos hc]at hw
 injection hw with hw
 by_cases e:¬(4<=(tA (tyL pl) (ix pl k).2.1).kind/\(tA (tyL pl) (ix pl k).2.1).kind<=6)
 ·rw[if_pos e]at hw;cases hw
 rw[if_neg e]at hw
 by_cases e5:(ix pl k).2.2.2.length≠(tA (tyL pl) (ix pl k).2.1).cnt
 ·rw[if_pos e5]at hw;cases hw
 rw[if_neg e5]at hw
 exact zh1 (by rw[hw])
theorem znU(h:CnOk bd pl)(hp:PlOk pl)(h0:0<=bd)(hk:k<pl.length)(hc:(ix pl k).1=44){j:Nat}(hj:j<(ix pl k).2.2.2.length) :
  ∃m,m<k/\mkC pl (agI pl k j) k=(m:Int)/\isC (ix pl m).1=true/\(cnA (cnL pl) (agI pl k j)).2=wdP (tyL pl) pl m:=by
 have W:=h.whole hp h0
 obtain⟨w,hw⟩:=zrr h hk hc j hj
 rcases zk7 W (tyL pl) (id:=agI pl k j) (Nat.le_of_lt hk) with⟨_,e2⟩ | ⟨m,m1,m2,m3,m4⟩
 ·rw[hw]at e2;cases e2
 ·refine⟨m,m1,m2,m3,?_⟩
  unfold cnA
  rw[zgj W (Nat.le_of_lt hk) (Nat.le_refl pl.length) m4]
  rfl
theorem zrB(hs:(zF bd pl).1=0)(hk:k<pl.length)(h:(ix pl k).1=43):0<(ix pl k).2.2.2.length:=by
 rw[zZ hs hk h zcv]
 decide
theorem zrj(h:CnOk bd pl)(hk:k<pl.length)(hc:zo (ix pl k)=7/\(ix pl k).1=59):(vaP (tyL pl) pl k).2.1=((tA (tyL pl) (ix pl k).2.1).prt 0).1/\((ix pl k).2.2.2.length=1->(vaP (tyL pl) pl k).2.2=List.replicate (tA (tyL pl) ((tA (tyL pl) (ix pl k).2.1).prt 0).1).size 0):=by
 have hv:=h.var hk hc.1 hc.2
 unfold vaP
 unfold varC at hv⊢
 by_cases e1:(tA (tyL pl) (ix pl k).2.1).kind≠7
 ·rw[if_pos e1]at hv;cases hv
 rw[if_neg e1]at hv⊢
 by_cases e2:(tA (tyL pl) (ix pl k).2.1).cls≠agI pl k 0\/(1<(ix pl k).2.2.2.length/\(tA (tyL pl) (ix pl k).2.1).cls=1)
 ·rw[if_pos e2]at hv;cases hv
 rw[if_neg e2]at hv⊢
 by_cases e3:(ix pl k).2.2.2.length=1
 ·rw[if_pos e3]
  exact⟨rfl,λ_=>rfl⟩
 ·rw[if_neg e3]
  exact⟨rfl,λe=>absurd e e3⟩
theorem zsD(h:CnOk bd pl)(hp:PlOk pl)(h0:0<=bd){id:Int}(hno:∀j,j<pl.length->((ix pl j).1=59/\(ix pl j).2.2.1=id/\zo (ix pl j)=7)->False):zv (vnL pl) id=none:=by
 cases hl:zv (vnL pl) id with
 |none=>rfl
 |some c=>
  obtain⟨j,j1,j2,j3,_⟩:=((ZU (T:=tyL pl) (h.whole hp h0) _ pl.length (Nat.le_refl _)).2 c).1 hl
  exact absurd ⟨j2.2,j3,j2.1⟩ (hno j j1)
abbrev idsC(pl:List PI)(n:Nat):List Int:=((List.range n).filter λk=>isC (ix pl k).1).map (λk=>(ix pl k).2.2.1)
abbrev idsV(pl:List PI)(n:Nat):List Int:=((List.range n).filter λk=>decide (zo (ix pl k)=7/\(ix pl k).1=59)).map (λk=>(ix pl k).2.2.1)
theorem zls(pl:List PI)(n:Nat):idsC pl (n+1)=idsC pl n++if isC (ix pl n).1=true then [(ix pl n).2.2.1] else []:=by
 unfold idsC
 rw[List.range_succ,List.filter_append,List.map_append,List.filter_cons]
 split<;>rfl
theorem zlt(pl:List PI)(n:Nat):idsV pl (n+1)=idsV pl n++if zo (ix pl n)=7/\(ix pl n).1=59 then [(ix pl n).2.2.1] else []:=by
 unfold idsV
 rw[List.range_succ,List.filter_append,List.map_append,List.filter_cons]
 by_cases e:zo (ix pl n)=7/\(ix pl n).1=59
 ·rw[if_pos (decide_eq_true e),if_pos e];rfl
 ·rw[if_neg (by rw[decide_eq_true_eq];exact e),if_neg e];rfl
theorem zkw(pl:List PI)(n:Nat):(idsC pl n).length<=n:=by
 have:=List.length_filter_le (λk=>isC (ix pl k).1) (List.range n)
 rw[List.length_range]at this
 unfold idsC
 rwa[List.length_map]
theorem zky(pl:List PI)(n:Nat):(idsV pl n).length<=n:=by
 have:=List.length_filter_le (λk=>decide (zo (ix pl k)=7/\(ix pl k).1=59)) (List.range n)
 rw[List.length_range]at this
 unfold idsV
 rwa[List.length_map]
theorem zfP(W:zV bd pl):idsC pl pl.length=(cnL pl).map (·.1):=(zjz (T:=tyL pl) W pl.length (Nat.le_refl _)).1.symm
theorem zkx(W:zV bd pl):idsV pl pl.length=(vnL pl).map (·.1):=(zjz (T:=tyL pl) W pl.length (Nat.le_refl _)).2.symm
end
end Go.Proofs
