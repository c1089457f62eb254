/- FlowLives, part 6; made small by a program. -/
import Derived.Test.YtgkgagmdkgdjdaaGreatProg
import Derived.Laws.CopyRow
import Derived.Maps.RangeRun
import Derived.Test.YtgkgagmdkgdjdaaGreatPFlowLives5
namespace Go.Proofs
open Go.Gk Go.RowKit
theorem zto{s:Sl}{l:List Int}{n:Int}{w:World}{R:VWP}(h:IsI w s l)(hR:R (.bool (l.contains n)) w) :
  cR 120 #[.slice s.a s.l s.c,.int .i64 n] w R:=by
 refine za.of (zfF s n R w ?_) λ_ _ h=>h
 refine zk.count l.length h.bound (λk w'=>w'=w/\∀i (hi:i<l.length),i<k->l[i]≠n) ⟨rfl,λ_ _ h=>by omega⟩ ?_
 rintro k _ hk ⟨rfl,hI⟩ next hnext
 refine zf (λhlt=>?_) (λhge=>?_)
 ·have hlt:k<l.length:=by have:=h.len;dsimp only at hlt;omega
  refine zdz h hlt (zm (λhe=>?_) (λhe=>?_))
  ·have:l.contains n=true:=by simp;exact he▸List.getElem_mem hlt
   rw[this]at hR
   exact hR
  ·exact hnext _ hlt ⟨rfl,λi hi hik=>by
    by_cases h:i=k
    ·subst h;exact he
    ·exact hI i hi (by omega)⟩
 ·have:l.contains n=false:=by
   rw[<-Bool.not_eq_true]
   simp only[List.contains_iff_mem]
   intro hm
   obtain⟨i,hi,he⟩:=List.mem_iff_getElem.1 hm
   exact hI i hi (by have:=h.len;dsimp only at hge;omega) he
  rw[this]at hR
  exact hR
theorem zii{α:Type}{f:α->Value}{s:Sl}{l:List α}{w:World}{R:VWP}(hf:∀x,(f x).oneCell'=true)(h:IsS f w s l)(hl:l.length*8<=140737488355328)
  (hR:∀r w',Own w' 3 1 r (l.map f)->zz w.heap.size r->Below w.heap.size w w'->R (.slice r.a r.l r.c) w') :
  cR 42 #[.slice s.a s.l s.c] w R:=by
 refine za.of (zcS s R w ?_) λ_ _ h=>h
 refine zo (λhn=>?_) (λhn=>?_)
 ·have hn:s.a=none:=by simpa using hn
  have hc:=h.nil hn
  have:l=[]:=List.eq_nil_of_length_eq_zero (by have:=h.len;have:=h.cap;omega)
  subst this
  exact hR ⟨none,0,0⟩ w (Own.nil _ _ _) (λa ha=>by cases ha) (Below.refl _ _)
 ·obtain⟨a,ha⟩:∃a,s.a=some a:=by
   cases hs:s.a with
   |none=>rw[hs]at hn;cases hn
   |some a=>exact⟨a,rfl⟩
  refine Nw.gen λw1 hw1=>?_
  have hB:Blk w1 w.heap.size 3 []:=by rw[hw1];exact Blk.new w 3 #[]
  have hb1:Below w.heap.size w w1:=by rw[hw1];exact(Below.refl _ _).alloc (Nat.le_refl _) _
  have hO:Own w1 3 1 ⟨some (blk w.heap.size),0,0⟩ []:=⟨rfl,.inr ⟨_,[],rfl,hB,Nat.le_refl _,by simp,rfl,rfl⟩⟩
  have h':=h.below hb1
  dsimp only[zB,Go.Gk.Sl.zw,zi,zu,zb,zh];rw[ha,h.len]
  refine ZX eInt hO (m:=l.length) (news:=l.map f) (by simp) (λj u hj=>?_) (λu hu=>?_) (by have:=h.bound;simp;omega) (by simpa using hl) λr w' h1 _ h3=>?_
  ·rw[List.getElem?_map]at hj
   obtain⟨x,hx,rfl⟩:=Option.map_eq_some_iff.1 hj
   obtain⟨hlt,rfl⟩:=List.getElem?_eq_some_iff.1 hx
   exact h'.cell a ha j hlt
  ·obtain⟨x,_,rfl⟩:=List.mem_map.1 hu
   exact hf x
  ·rcases h3 with⟨_,rfl,rfl⟩ | ⟨b,h4,h5,h6⟩
   ·exact hR _ _ h1 (λa ha=>by cases ha;exact Nat.le_refl _) hb1
   ·have hbb:w.heap.size<=b:=by
     rcases h5 with h5 |h5
     ·cases h5;exact Nat.le_refl _
     ·have:=hb1.size;omega
    refine hR _ _ h1 (λa ha=>by rw[h4]at ha;cases ha;exact hbb) (hb1.trans (yf h6 hbb hb1.size))
def Bits(w:World)(a:Addr)(S:Nat->Bool):Prop:=
 a.spot=none/\∀j,j<64->∃x:Nat,x<2 ^ 64/\w.cell? (a.add j)=some (.int .u64 x)/\w.frozen? (a.add j)=false/\∀k,k<64->x.testBit k=S (64*j+k)
theorem Bits.of_block{w w':World}{a:Addr}{S:Nat->Bool}(h:Bits w a S)(hb:w'.heap[a.block]? =w.heap[a.block]?):Bits w' a S:=by
 refine⟨h.1,λj hj=>?_⟩
 obtain⟨x,h1,h2,h3,h4⟩:=h.2 j hj
 refine⟨x,h1,?_,?_,h4⟩
 ·rw[World.cell?_of_block (w:=w) (by rw[z0];exact hb)];exact h2
 ·rw[World.frozen?_of_block (w:=w) (by rw[z0];exact hb)];exact h3
theorem Bits.new(w:World)(T:TypeId):Bits (w.alloc (.cells (List.toArray (List.replicate 64 (.int .u64 (0:Int)))) T)) (blk w.heap.size) λ_=>false:=by
 have hB:=Blk.new w T (List.toArray (List.replicate 64 (.int .u64 (0:Int))))
 refine⟨rfl,λj hj=>⟨0,by decide,hB.cell ?_,hB.frozen j,λk _=>by simp⟩⟩
 rw[List.getElem?_replicate,if_pos hj]
 rfl
theorem ztb(x k:Nat)(hx:x<2 ^ 64)(hk:k<64) :
  ((IntKind.u64.wrap (BitVec.toNat (BitVec.ofInt (IntKind.bits .u64) (Int.fdiv (x:Int) (2 ^ (min k (IntKind.bits .u64)))) &&& BitVec.ofInt (IntKind.bits .u64) (1:Int)):Int))==(1:Int))=x.testBit k:=by
 have hb:IntKind.bits .u64=64:=rfl
 have hm:min k (IntKind.bits .u64)=k:=by rw[hb];omega
 rw[hm]
 have e1:Int.fdiv (x:Int) (2 ^ k)=((x / 2 ^ k:Nat):Int):=by
  rw[show((2:Int) ^ k)=((2 ^ k:Nat):Int) by simp,Int.ofNat_fdiv]
 rw[e1]
 have e2:(BitVec.ofInt (IntKind.bits .u64) ((x / 2 ^ k:Nat):Int) &&& BitVec.ofInt (IntKind.bits .u64) (1:Int)).toNat=x / 2 ^ k % 2:=by
  rw[BitVec.toNat_and,BitVec.ofInt_natCast,BitVec.toNat_ofNat,show(BitVec.ofInt (IntKind.bits .u64) (1:Int)).toNat=1 from rfl,Nat.and_one_is_mod,hb]
  have:x / 2 ^ k<2 ^ 64:=Nat.lt_of_le_of_lt (Nat.div_le_self _ _) hx
  rw[Nat.mod_eq_of_lt this]
 rw[e2,IntKind.wrap_u64,Nat.testBit_eq_decide_div_mod_eq]
 rcases Nat.mod_two_eq_zero_or_one (x / 2 ^ k) with h |h<;>simp[h]
theorem zta(x k:Nat)(hx:x<2 ^ 64)(hk:k<64) :
  (IntKind.u64.wrap (BitVec.toNat (BitVec.ofInt (IntKind.bits .u64) (x:Int) ||| BitVec.ofInt (IntKind.bits .u64) (IntKind.u64.wrap ((1:Int)*2 ^ (min k (IntKind.bits .u64))))):Int))=((x ||| 2 ^ k:Nat):Int)/\x ||| 2 ^ k<2 ^ 64:=by
 have hb:IntKind.bits .u64=64:=rfl
 have hm:min k (IntKind.bits .u64)=k:=by rw[hb];omega
 rw[hm]
 have hp:2 ^ k<2 ^ 64:=Nat.pow_lt_pow_right (by omega) hk
 have e1:IntKind.u64.wrap ((1:Int)*2 ^ k)=((2 ^ k:Nat):Int):=by
  rw[show(1:Int)*2 ^ k=((2 ^ k:Nat):Int) by simp,IntKind.wrap_u64]
  generalize 2 ^ k=p at hp
  omega
 have hlt:x ||| 2 ^ k<2 ^ 64:=Nat.or_lt_two_pow hx hp
 refine⟨?_,hlt⟩
 rw[e1,BitVec.toNat_or,BitVec.ofInt_natCast,BitVec.ofInt_natCast,BitVec.toNat_ofNat,BitVec.toNat_ofNat,hb,Nat.mod_eq_of_lt hx,Nat.mod_eq_of_lt hp,IntKind.wrap_u64]
 omega
theorem zpv(i:Nat)(hi:i<4096):IntKind.i64.wrap (Int.tdiv (i:Int) (64:Int))=((i / 64:Nat):Int):=by
 have:Int.tdiv (i:Int) 64=((i / 64:Nat):Int):=by rw[Int.tdiv_eq_ediv_of_nonneg (by omega)];omega
 rw[this,zq (by omega) (by omega)]
theorem zqF(i:Nat):Int.tmod (i:Int) 64=((i % 64:Nat):Int):=by
 rw[Int.tmod_eq_emod_of_nonneg (by omega)];omega
theorem zl9{a:Addr}{S:Nat->Bool}{i:Nat}(hi:i<4096){w:World}{R:VWP}(h:Bits w a S)(hR:R (.bool (S i)) w) :
  cR 41 #[.pointer (some a),.int .i64 i] w R:=by
 refine za.of (zgV _ _ R w ?_) λ_ _ h=>h
 unfold zbs
 obtain⟨x,h1,h2,_,h4⟩:=h.2 (i / 64) (by omega)
 rw[zpv i hi,zqF]
 refine⟨⟨by omega,by omega⟩,x,h2,zf (λhlt=>by omega) (λ_=>?_)⟩
 rw[Int.toNat_natCast,ztb x (i % 64) h1 (by omega),h4 _ (by omega),Nat.div_add_mod]
 exact hR
theorem zoa{a:Addr}{S:Nat->Bool}{i:Nat}(hi:i<4096){w:World}{R:VWP}(h:Bits w a S)
  (hR:∀x:Nat,Bits (w.drew.setCell (a.add (i / 64)) (.int .u64 x)) a (λj=>S j||j==i)->R (.tuple #[]) (w.drew.setCell (a.add (i / 64)) (.int .u64 x))) :
  cR 74 #[.pointer (some a),.int .i64 i] w R:=by
 refine za.of (zgU _ _ R w ?_) λ_ _ h=>h
 unfold zbr
 obtain⟨x,h1,h2,h3,h4⟩:=h.2 (i / 64) (by omega)
 rw[zpv i hi,zqF]
 refine⟨⟨by omega,by omega⟩,x,h2,zf (λhlt=>by omega) (λ_=>?_)⟩
 refine⟨⟨by omega,by omega⟩,⟨⟨_,h2⟩,h3⟩,Nw.mk ?_⟩
 obtain⟨e1,e2⟩:=zta x (i % 64) h1 (by omega)
 rw[Int.toNat_natCast,Int.toNat_natCast,e1]
 refine hR _ ⟨h.1,λj hj=>?_⟩
 have hblk:(a.add j).block=(a.add (i / 64)).block:=by rw[z0,z0]
 have hfz:∀v,(w.drew.setCell (a.add (i / 64)) v).frozen? (a.add j)=w.frozen? (a.add j):=λv=>by simp
 by_cases hj':j=i / 64
 ·subst hj'
  refine⟨x ||| 2 ^ (i % 64),e2,?_,by rw[hfz];exact h3,λk hk=>?_⟩
  ·exact World.cell?_setCell_same _ _ _ (by exact h2)
  ·rw[Nat.testBit_or,h4 k hk,Nat.testBit_two_pow]
   congr 1
   have:=Nat.div_add_mod i 64
   by_cases hki:i % 64=k
   ·simp[hki];omega
   ·simp[hki];omega
 ·obtain⟨y,g1,g2,g3,g4⟩:=h.2 j hj
  refine⟨y,g1,?_,by rw[hfz];exact g3,λk hk=>?_⟩
  ·rw[World.cell?_setCell_other]
   ·exact g2
   ·have hs:=h.1
    obtain⟨ab,ao,asp⟩:=a
    simp only at hs
    subst hs
    unfold Addr.add
    split<;>split<;>simp<;>omega
  ·rw[g4 k hk]
   have:(64*j+k==i)=false:=by simp;omega
   simp[this]
end Go.Proofs
namespace Go.Proofs
open Go.Gk Go.RowKit Go.Gr
abbrev iN(x:Nat):Value:=.int .i64 (x:Int)
abbrev IsN(w:World)(s:Sl)(l:List Nat):Prop:=IsS iN w s l
theorem zpF(x:Nat):(iN x).oneCell'=true:=rfl
theorem ziZ{w:World}{s:Sl}{l:List Nat}(h:IsN w s l){k:Nat}(hk:k<l.length){φ:Int->Prop}(hφ:φ (l[k]:Int)) :
  (0<=(k:Int)/\(k:Int)<(s.l:Int))/\zc s.a λa=>ldI w (a.add (Int.toNat (k:Int))) .i64 φ:=
 h.addr hk λa _ hc=>⟨(l[k]:Int),hc,hφ⟩
theorem zni{s:Sl}{l:List Nat}{w:World}{R:VWP}(h:Own w 3 1 s (l.map iN))
  (hR:∀w',Own w' 3 1 s (l.reverse.map iN)->Only s w w'->R (.tuple #[]) w') :
  cR 112 #[.slice s.a s.l s.c] w R:=by
 refine za.of (zck s R w ?_) λ_ _ h=>h
 have hlen:s.l=l.length:=by have:=h.1;simp at this;omega
 have hbd:=h.isS.bound
 unfold yN
 rw[hlen,zq (by omega) (by omega)]
 let M:Nat->List Nat:=λi=>(List.range l.length).map λk=>if k<i\/l.length<=k+i then l.getD (l.length-1-k) 0 else l.getD k 0
 have hM0:M 0=l:=by
  apply List.ext_getElem
  ·simp[M]
  ·intro k h1 h2
   have h2':¬l.length<=k:=by omega
   simp[M,h2',h2]
 refine zk.ghost (λj st w'=>∃i:Nat,2*i<=l.length+1/\j=l.length+1-i/\st=((i:Int),(l.length:Int)-1-i,())/\Only s w w'/\Own w' 3 1 s ((M i).map iN)) _ ⟨0,by omega,rfl,by simp,Only.refl _ _,by rw[hM0];exact h⟩ ?_
 rintro _ _ w' ⟨i,hi,rfl,rfl,hO,hX⟩ next hnext
 refine zf (λhlt=>?_) (λhge=>?_)
 ·have hlt:2*i+1<l.length:=by dsimp only at hlt;omega
  have hj:(l.length:Int)-1-i=((l.length-1-i:Nat):Int):=by omega
  have hX':Own w'.drew 3 1 s ((M i).map iN):=hX
  have hS:=hX'.isS
  have hml:(M i).length=l.length:=by simp[M]
  dsimp only
  rw[hj]
  have g1:(M i)[l.length-1-i]'(by rw[hml];omega)=l.getD (l.length-1-i) 0:=by
   simp only[M,List.getElem_map,List.getElem_range]
   rw[if_neg (by omega)]
  have g2:(M i)[i]'(by rw[hml];omega)=l.getD i 0:=by
   simp only[M,List.getElem_map,List.getElem_range]
   rw[if_neg (by omega)]
  rw[show(l.length:Int)=(s.l:Int) by omega]
  refine ziZ hS (by rw[hml];omega) (ziZ hS (by rw[hml];omega) ?_)
  rcases hX'.2 with e | ⟨b,cs,ha,hB,h1,h2,h3,h4⟩
  ·rw[e]at hlen;simp at hlen;omega
  ·refine⟨⟨by omega,by omega⟩,zj ha ⟨hB.wr (n:=i) (by omega),Nw.mk ?_⟩⟩
   have hB2:=hB.set i (iN ((M i)[l.length-1-i]'(by rw[hml];omega)))
   refine⟨⟨by omega,by omega⟩,zj ha ⟨hB2.wr (n:=l.length-1-i) (by rw[List.length_set];omega),Nw.mk ?_⟩⟩
   have hB3:=hB2.set (l.length-1-i) (iN ((M i)[i]'(by rw[hml];omega)))
   have e1:IntKind.i64.wrap ((i:Int)+1)=((i+1:Nat):Int):=zr (by omega)
   have e2:IntKind.i64.wrap (((l.length-1-i:Nat):Int)-1)=(l.length:Int)-1-((i+1:Nat):Int):=by rw[zq (by omega) (by omega)];omega
   rw[e1,e2]
   refine hnext (l.length+1-(i+1)) _ _ (by omega) ⟨i+1,by omega,rfl,rfl,(hO.drew.set ha _ _).set ha _ _,?_⟩
   refine⟨by simp[M,hlen],.inr ⟨b,_,ha,hB3,h1,h2,by simpa using h3,?_⟩⟩
   have hcs:∀k,k<l.length->cs[k]? =some (iN (l.getD (if k<i\/l.length<=k+i then l.length-1-k else k) 0)):=by
    intro k hk
    have:(cs.take (s.l*1))[k]? =cs[k]?:=List.getElem?_take_of_lt (by omega)
    rw[<-this,h4]
    simp only[M,List.getElem?_map,List.getElem?_range hk,Option.map_some]
    split<;>rfl
   apply List.ext_getElem?
   intro k
   by_cases hk:k<l.length
   ·rw[List.getElem?_take_of_lt (by omega)]
    simp only[M,List.getElem?_map,List.getElem?_range hk,Option.map_some]
    by_cases k1:k=l.length-1-i
    ·subst k1
     rw[List.getElem?_set_self (by rw[List.length_set];omega),g2,if_pos (by omega)]
     congr 3
     omega
    ·rw[List.getElem?_set_ne (by omega)]
     by_cases k2:k=i
     ·subst k2
      rw[List.getElem?_set_self (by omega),g1,if_pos (by omega)]
     ·rw[List.getElem?_set_ne (by omega),hcs k hk]
      by_cases k3:k<i\/l.length<=k+i
      ·rw[if_pos k3,if_pos (by omega)]
      ·rw[if_neg k3,if_neg (by omega)]
   ·rw[List.getElem?_eq_none (by simp;omega),List.getElem?_eq_none (by simp[M];omega)]
 ·have hge:l.length<=2*i+1:=by dsimp only at hge;omega
  refine hR w' ?_ hO
  have:M i=l.reverse:=by
   apply List.ext_getElem
   ·simp[M]
   ·intro k h1 h2
    have hk:k<l.length:=by simpa using h2
    simp only[M,List.getElem_map,List.getElem_range,List.getElem_reverse]
    by_cases k3:k<i\/l.length<=k+i
    ·rw[if_pos k3];simp[List.getD,show l.length-1-k<l.length by omega]
    ·rw[if_neg k3]
     have:k=l.length-1-k:=by omega
     simp only[List.getD,List.getElem?_eq_getElem hk,Option.getD_some]
     congr 1
  rw[<-this]
  exact hX
def zdT(bs:List Value)(S:Nat->Bool):Prop:=
 bs.length=64/\∀j,j<64->∃x:Nat,x<2 ^ 64/\bs[j]? =some (.int .u64 (x:Int))/\∀k,k<64->x.testBit k=S (64*j+k)
theorem zdT.zero:zdT (List.replicate 64 (.int .u64 (0:Int))) λ_=>false:=
 ⟨List.length_replicate,λj hj=>⟨0,by decide,by rw[List.getElem?_replicate,if_pos hj];rfl,λk _=>Nat.zero_testBit k⟩⟩
theorem zdT.bits{w:World}{b:Nat}{T:TypeId}{v0 v1 v2 v3:Value}{bs:List Value}{S:Nat->Bool}(h:Blk w b T (v0::v1::v2::v3::bs))(hb:zdT bs S):Bits w ((blk b).add 4) S:=by
 refine⟨by rw[zhm],λj hj=>?_⟩
 obtain⟨x,h1,h2,h3⟩:=hb.2 j hj
 rw[znm _ _ _ rfl]
 refine⟨x,h1,h.cell ?_,h.frozen _,h3⟩
 rw[show 4+j=j+1+1+1+1 by omega]
 simpa using h2
theorem Bits.list{w:World}{b:Nat}{T:TypeId}{v0 v1 v2 v3:Value}{bs:List Value}{S:Nat->Bool}(h:Blk w b T (v0::v1::v2::v3::bs))(hl:bs.length=64)(hb:Bits w ((blk b).add 4) S):zdT bs S:=by
 refine⟨hl,λj hj=>?_⟩
 obtain⟨x,h1,h2,_,h3⟩:=hb.2 j hj
 rw[znm _ _ _ rfl]at h2
 have hj':bs[j]? =some bs[j]:=List.getElem?_eq_getElem (by omega)
 have:=h.cell (n:=4+j) (v:=bs[j]) (by rw[show 4+j=j+1+1+1+1 by omega];exact hj')
 rw[h2]at this
 exact⟨x,h1,by rw[hj',<-Option.some.inj this],h3⟩
theorem zdT.congr{bs:List Value}{S S':Nat->Bool}(h:zdT bs S)(hs:∀i,S i=S' i):zdT bs S':=
 ⟨h.1,λj hj=>let⟨x,h1,h2,h3⟩:=h.2 j hj;⟨x,h1,h2,λk hk=>by rw[h3 k hk,hs]⟩⟩
structure IsSS {α:Type} (f:α->Value) (w:World) (s:Sl) (hs:List Sl) (ll:List (List α)):Prop where
 top:IsS Sl.val w s hs
 len:hs.length=ll.length
 row:∀(i:Nat) (h:i<hs.length) (h':i<ll.length),IsS f w hs[i] ll[i]
abbrev IsNN(w:World)(s:Sl)(hs:List Sl)(ll:List (List Nat)):Prop:=IsSS iN w s hs ll
theorem IsSS.below{α:Type}{f:α->Value}{w w':World}{s:Sl}{hs:List Sl}{ll:List (List α)}(h:IsSS f w s hs ll)(hb:Below w.heap.size w w'):IsSS f w' s hs ll:=
 ⟨h.top.below hb,h.len,λi h1 h2=>(h.row i h1 h2).below hb⟩
def zng(b:Nat)(s:Sl)(hs:List Sl):Prop:=(∀a,s.a=some a->a.block≠b)/\∀(i:Nat) (h:i<hs.length) a,hs[i].a=some a->a.block≠b
theorem _root_.Go.Gk.IsS.fr{α:Type}{f:α->Value}{w w':World}{s:Sl}{l:List α}(h:IsS f w s l){B b:Nat}(hb:Fr B (·=b) w w')(hB:w.heap.size<=B)(hn:∀a,s.a=some a->a.block≠b):IsS f w' s l:=
 h.of_block λa ha hlt=>hb.block _ (by omega) (hn a ha)
theorem IsSS.fr{α:Type}{f:α->Value}{w w':World}{s:Sl}{hs:List Sl}{ll:List (List α)}(h:IsSS f w s hs ll){B b:Nat}(hb:Fr B (·=b) w w')(hB:w.heap.size<=B)(hn:zng b s hs):IsSS f w' s hs ll:=
 ⟨h.top.fr hb hB hn.1,h.len,λi h1 h2=>(h.row i h1 h2).fr hb hB (hn.2 i h1)⟩
abbrev Yy(sn sa wk od:Sl)(bs:List Value):List Value:=sn.val::sa.val::wk.val::od.val::bs
structure CS (w1:World) (B gb:Nat) (sn sa:Sl) (w:World) (s:List Nat×List Nat):Prop where
 fr:Fr B (·=gb) w1 w
 st:∃wk od bs,Blk w gb 118 (Yy sn sa wk od bs)/\zdT bs (λi=>s.1.contains i)/\Own w 3 1 wk (s.1.map iN)/\Own w 3 1 od (s.2.map iN)/\
  zz B wk/\zz B od/\∀a b,wk.a=some a->od.a=some b->a.block≠b.block
structure CW (w1:World) (B b0 b1 gb:Nat) (sn:Sl) (hs:List Sl) (nx:List (List Nat)):Prop where
 size:w1.heap.size=B
 gblt:gb<B
 box0:Blk w1 b0 51 [.pointer (some (blk gb))]
 box1:Blk w1 b1 147 [.func (.func 111) #[] #[.pointer (some (blk b0)),.pointer (some (blk b1))]]
 ne0:b0≠gb
 ne1:b1≠gb
 next:IsNN w1 sn hs nx
 avoid:zng gb sn hs
 max:nx.length<=4096
 rows:∀i,∀t∈nx.getD i [],t<nx.length
theorem zet{w:World}{s:Sl}{l:List Nat}(h:Own w 3 1 s (l.map iN)):s.l=l.length:=by have:=h.1;simp at this;omega
theorem zeD{w:World}{s:Sl}{xs:List Value}(h:Own w 3 1 s xs){b:Nat}{T:TypeId}{cs:List Value}(hB:Blk w b T cs)(hT:T≠3){a:Addr}(ha:s.a=some a):a.block≠b:=by
 intro e
 obtain⟨cs',hB'⟩:=h.type ha
 rw[e]at hB'
 exact hT (hB.type hB')
set_option maxHeartbeats 1000000 in
theorem zqQ{w1:World}{B b0 b1 gb:Nat}{sn sa:Sl}{hs:List Sl}{nx:List (List Nat)}(cw:CW w1 B b0 b1 gb sn hs nx) :
  ∀(f i:Nat) (s:List Nat×List Nat) (w:World) (R:VWP),i<nx.length->i ∉ s.1->s.1.Nodup->(∀x∈s.1,x<nx.length)->nx.length<=s.1.length+f->s.2.length<=s.1.length->
   CS w1 B gb sn sa w s->(∀w',CS w1 B gb sn sa w' (yw nx f i s)->(yw nx f i s).2.length<=(yw nx f i s).1.length->R (.tuple #[]) w')->
   cR 111 #[.int .i64 (i:Int),.pointer (some (blk b0)),.pointer (some (blk b1))] w R:=by
 intro f
 induction f with
 |zero=>
  intro i s w R hi hni hnd hlt hf
  have:=zfs hnd hlt hi hni
  omega
 |succ f ih=>
  intro i s w R hi hni hnd hlt hf h2l hcs hR
  have hmax:=cw.max
  have hslt:=zfs hnd hlt hi hni
  refine za.of (zd0 (i:Int) (blk b0) (blk b1) R w ?_) λ_ _ h=>h
  have box0:∀{w':World},Fr B (·=gb) w1 w'->Blk w' b0 51 [.pointer (some (blk gb))]:=λhf=>cw.box0.of_block (hf.block _ (by have:=cw.box0.lt;have:=cw.size;omega) cw.ne0)
  have box1:∀{w':World},Fr B (·=gb) w1 w'->Blk w' b1 147 [.func (.func 111) #[] #[.pointer (some (blk b0)),.pointer (some (blk b1))]]:=λhf=>cw.box1.of_block (hf.block _ (by have:=cw.box1.lt;have:=cw.size;omega) cw.ne1)
  have next:∀{w':World},Fr B (·=gb) w1 w'->IsNN w' sn hs nx:=λhf=>cw.next.fr hf (by rw[cw.size];exact Nat.le_refl _) cw.avoid
  obtain⟨hfr,wk,od,bs,hG,hbits,hwk,hod,hfw,hfo,hap⟩:=hcs
  have hBsz:∀{w':World},Fr B (·=gb) w1 w'->B<=w'.heap.size:=λhf=>by have:=hf.size;have:=cw.size;omega
  refine⟨some (blk gb),(box0 hfr).cell0 rfl,?_⟩
  refine zoa (S:=λi=>s.1.contains i) (i:=i) (by omega) (hbits.bits hG) λx hx=>⟨rfl,?_⟩
  generalize hw2:w.drew.setCell (((blk gb).add 4).add (i / 64)) (.int .u64 (x:Int))=w2 at hx⊢
  have hG2:Blk w2 gb 118 (Yy sn sa wk od (bs.set (i / 64) (.int .u64 (x:Int)))):=by
   rw[<-hw2,znm _ _ _ rfl]
   have:=(hG.drew).set (4+i / 64) (.int .u64 (x:Int))
   rw[show 4+i / 64=i / 64+1+1+1+1 by omega]at this⊢
   exact this
  have hfr2:Fr B (·=gb) w1 w2:=by rw[<-hw2];exact hfr.drew.set (.inr (by rw[z0,z0])) _
  have hb2:=Bits.list hG2 (by rw[List.length_set];exact hbits.1) hx
  have stay:∀{sl:Sl} {xs:List Value},Own w 3 1 sl xs->Own w2 3 1 sl xs:=λh=>h.of_block λa ha=>by
   rw[<-hw2];exact Below.heap_setCell _ _ _ _ (by rw[z0,z0];exact zeD h hG (by decide) ha)
  have hwk2:=stay hwk
  have hod2:=stay hod
  clear hw2 stay hG hbits hwk hod hx
  generalize bs.set (i / 64) (.int .u64 (x:Int))=bs2 at hG2 hb2
  refine⟨some (blk gb),(box0 hfr2).cell0 rfl,⟨some (blk gb),(box0 hfr2).cell0 rfl,wk,hG2.cell rfl,Nw.gen λw3 hw3=>?_⟩⟩
  have hG3:Blk w3 gb 118 (Yy sn sa wk od bs2):=by rw[hw3];exact hG2.drew.alloc _
  have hfr3:Fr B (·=gb) w1 w3:=by rw[hw3];exact hfr2.drew.alloc (hBsz hfr2.drew) _
  have ht3:Blk w3 w2.drew.heap.size 3 [iN i]:=by rw[hw3];exact Blk.new w2.drew 3 #[iN i]
  have hwk3:Own w3 3 1 wk (s.1.map iN):=by rw[hw3];exact hwk2.drew.alloc _
  have hod3:Own w3 3 1 od (s.2.map iN):=by rw[hw3];exact hod2.drew.alloc _
  have hsz3:w3.heap.size=w2.heap.size+1:=by rw[hw3];simp
  refine⟨hG3.cell rfl,(box0 hfr3).cell0 rfl,(box0 hfr3).cell0 rfl,?_⟩
  have hwl:=zet hwk3
  refine YM eInt hwk3 rfl ht3 (by omega) (by omega) λr w4 hr hrl ⟨b,hrb,hbo,hg⟩=>?_
  have hbB:B<=b:=by
   rcases hbo with hb |rfl
   ·exact hfw _ hb
   ·exact hBsz hfr3
  have hfr4:Fr B (·=gb) w1 w4:=hfr3.grown hg hbB (hBsz hfr3)
  have hbgb:gb≠b:=by have:=cw.gblt;omega
  have hG4:Blk w4 gb 118 (Yy sn sa wk od bs2):=hG3.of_block (hg.block gb hG3.lt (λe=>hbgb (Option.some.inj e)))
  have hodne:∀a,od.a=some a->a.block≠b:=λa ha e=>by
   rcases hbo with hb |hb
   ·exact hap _ _ hb ha e.symm
   ·have:=(hod3.lt ha).2;omega
  have hod4:Own w4 3 1 od (s.2.map iN):=hod3.of_block λa ha=>hg.block _ (hod3.lt ha).2 (λe=>hodne a ha (Option.some.inj e))
  refine⟨(box0 hfr4).cell0 rfl,hG4.wr (by simp),Nw.gen λw5 hw5=>?_⟩
  have hG5:Blk w5 gb 118 (Yy sn sa r od bs2):=by rw[hw5];exact hG4.set 2 _
  have hfr5:Fr B (·=gb) w1 w5:=by rw[hw5];exact hfr4.set (.inr (by rw[z0])) _
  have stay5:∀{sl:Sl} {xs:List Value},Own w4 3 1 sl xs->Own w5 3 1 sl xs:=λh=>h.of_block λa ha=>by
   rw[hw5];exact Below.heap_setCell _ _ _ _ (by rw[z0];exact zeD h hG4 (by decide) ha)
  have hcs5:CS w1 B gb sn sa w5 (s.1++[i],s.2):=by
   refine⟨hfr5,r,od,bs2,hG5,hb2.congr λj=>?_,?_,stay5 hod4,λa ha=>?_,hfo,λa c ha hc=>?_⟩
   ·rw[Bool.eq_iff_iff];simp
   ·simpa using stay5 hr
   ·rw[hrb]at ha;cases ha;exact hbB
   ·rw[hrb]at ha;cases ha;exact(hodne c hc).symm
  clear hw3 hG3 hfr3 ht3 hwk3 hod3 hsz3 hG4 hod4 hw5 stay5 hr hg hG2 hb2 hwk2 hod2 hfr2 hfr4 hfr
  refine⟨some (blk gb),(box0 hfr5).cell0 rfl,sn,hG5.cell0 rfl,?_⟩
  have hnx5:=next hfr5
  have hlen:hs.length=nx.length:=hnx5.len
  refine zeY hnx5.top (k:=i) (by omega) ?_
  clear hG5 hnx5
  have hrow:∀{w':World},Fr B (·=gb) w1 w'->IsN w' (hs[i]'(by omega)) (nx.getD i []):=λhf=>by
   have:=(next hf).row i (by omega) hi
   simpa[List.getD,hi] using this
  generalize hrl':nx.getD i []=row at hrow
  have hrt:∀t∈row,t<nx.length:=λt ht=>cw.rows i t (by rw[hrl'];exact ht)
  have hrn:(hs[i]'(by omega)).l=row.length:=(hrow hfr5).len
  have base:Came nx.length s (s.1++[i],s.2):=⟨by
    rw[List.nodup_append]
    exact⟨hnd,by simp,λx hx y hy=>by simp at hy;subst hy;intro e;subst e;exact hni hx⟩,λx hx=>by
    simp at hx
    rcases hx with hx |rfl
    ·exact hlt x hx
    ·exact hi,[i],rfl⟩
  have rowsOk:∀i,∀t∈nx.getD i [],t<nx.length:=cw.rows
  refine zk.count row.length (hrow hfr5).bound (λk w'=>CS w1 B gb sn sa w' (zJ nx f (row.take k) (s.1++[i],s.2))/\Came nx.length (s.1++[i],s.2) (zJ nx f (row.take k) (s.1++[i],s.2))/\
   (zJ nx f (row.take k) (s.1++[i],s.2)).2.length<(zJ nx f (row.take k) (s.1++[i],s.2)).1.length) ⟨by simpa[zJ] using hcs5,?_,by simp[zJ];omega⟩ ?_
  ·simp only[List.take_zero]
   exact⟨base.nodup,base.lt,[],by simp[zJ]⟩
  rintro k w6 hk ⟨hcs6,hcame,hlen6⟩ nxt hnext
  generalize hst:zJ nx f (row.take k) (s.1++[i],s.2)=st at hcs6 hcame hlen6
  refine zf (λhlt6=>?_) (λhge=>?_)
  ·have hlt6:k<row.length:=by dsimp only at hlt6;omega
   have hsnoc:zJ nx f (row.take (k+1)) (s.1++[i],s.2)=if st.1.contains row[k] then st else yw nx f row[k] st:=by
    rw[List.take_succ_eq_append_getElem hlt6,zmo,hst]
   refine zl.cut (λ_ w'=>CS w1 B gb sn sa w' (zJ nx f (row.take (k+1)) (s.1++[i],s.2))/\Came nx.length (s.1++[i],s.2) (zJ nx f (row.take (k+1)) (s.1++[i],s.2))/\
    (zJ nx f (row.take (k+1)) (s.1++[i],s.2)).2.length<(zJ nx f (row.take (k+1)) (s.1++[i],s.2)).1.length) ?_ λ_ w' h=>hnext w' hlt6 h
   have hfr6:=hcs6.fr
   obtain⟨wk6,od6,bs6,hG6,hb6,_⟩:=hcs6.st
   refine ziZ (hrow hfr6) hlt6 ⟨some (blk gb),(box0 hfr6).cell0 rfl,?_⟩
   have hrk:=hrt row[k] (List.getElem_mem hlt6)
   refine zl9 (S:=λi=>st.1.contains i) (i:=row[k]) (by omega) (hb6.bits hG6) ⟨_,rfl,?_⟩
   rw[hsnoc]
   cases hc:st.1.contains row[k] with
   |true=>exact⟨hcs6,hcame,hlen6⟩
   |false=>
    have hnm:row[k] ∉ st.1:=by simpa using hc
    refine⟨_,(box1 hfr6).cell0 rfl,?_⟩
    have hmore:st.1.length≥(s.1++[i]).length:=by obtain⟨l,e⟩:=hcame.more;rw[e];simp
    have hvc:=zfO rowsOk f row[k] st hrk hcame.nodup hcame.lt hnm
    have:=ih row[k] st w6 (λv w'=>v =.tuple #[]/\CS w1 B gb sn sa w' (yw nx f row[k] st)/\Came nx.length (s.1++[i],s.2) (yw nx f row[k] st)/\(yw nx f row[k] st).2.length<(yw nx f row[k] st).1.length)
     hrk hnm hcame.nodup hcame.lt (by simp at hmore;omega) (by omega) hcs6 (λw' h _=>⟨rfl,h,?_,?_⟩)
    ·exact this
    ·obtain⟨l1,e1⟩:=hcame.more
     obtain⟨l2,e2⟩:=hvc.more
     exact⟨hvc.nodup,hvc.lt,l1++l2,by rw[e2,e1,List.append_assoc]⟩
    ·have:=znf nx f row[k] st
     omega
  ·
   have hkk:k=row.length:=by dsimp only at hge;omega
   subst hkk
   rw[List.take_length]at hst
   have hvis:yw nx (f+1) i s=(st.1,st.2++[i]):=by rw[zdC,hrl',hst]
   rw[hvis]at hR
   clear hst
   obtain⟨hfr6,wk6,od6,bs6,hG6,hb6,hwk6,hod6,hfw6,hfo6,hap6⟩:=hcs6
   refine⟨some (blk gb),(box0 hfr6.drew).cell0 rfl,some (blk gb),(box0 hfr6.drew).cell0 rfl,od6,hG6.drew.cell rfl,Nw.gen λw7 hw7=>?_⟩
   have hG7:Blk w7 gb 118 (Yy sn sa wk6 od6 bs6):=by rw[hw7];exact hG6.drew.alloc _
   have hfr7:Fr B (·=gb) w1 w7:=by rw[hw7];exact hfr6.drew.alloc (hBsz hfr6.drew) _
   have ht7:Blk w7 w6.drew.heap.size 3 [iN i]:=by rw[hw7];exact Blk.new w6.drew 3 #[iN i]
   have hwk7:Own w7 3 1 wk6 (st.1.map iN):=by rw[hw7];exact hwk6.drew.alloc _
   have hod7:Own w7 3 1 od6 (st.2.map iN):=by rw[hw7];exact hod6.drew.alloc _
   refine⟨hG7.cell rfl,(box0 hfr7).cell0 rfl,(box0 hfr7).cell0 rfl,?_⟩
   have hwl:=zet hod7
   have hsl:=YF hcame.nodup hcame.lt
   refine YM eInt hod7 rfl ht7 (by omega) (by omega) λr w8 hr hrl ⟨b,hrb,hbo,hg⟩=>?_
   have hbB:B<=b:=by
    rcases hbo with hb |rfl
    ·exact hfo6 _ hb
    ·exact hBsz hfr7
   have hfr8:Fr B (·=gb) w1 w8:=hfr7.grown hg hbB (hBsz hfr7)
   have hbgb:gb≠b:=by have:=cw.gblt;omega
   have hG8:Blk w8 gb 118 (Yy sn sa wk6 od6 bs6):=hG7.of_block (hg.block gb hG7.lt (λe=>hbgb (Option.some.inj e)))
   have hwkne:∀a,wk6.a=some a->a.block≠b:=λa ha e=>by
    rcases hbo with hb |hb
    ·exact hap6 _ _ ha hb e
    ·have:=(hwk7.lt ha).2;omega
   have hwk8:Own w8 3 1 wk6 (st.1.map iN):=hwk7.of_block λa ha=>hg.block _ (hwk7.lt ha).2 (λe=>hwkne a ha (Option.some.inj e))
   refine⟨(box0 hfr8).cell0 rfl,hG8.wr (by simp),Nw.gen λw9 hw9=>?_⟩
   have hG9:Blk w9 gb 118 (Yy sn sa wk6 r bs6):=by rw[hw9];exact hG8.set 3 _
   have hfr9:Fr B (·=gb) w1 w9:=by rw[hw9];exact hfr8.set (.inr (by rw[z0])) _
   have stay9:∀{sl:Sl} {xs:List Value},Own w8 3 1 sl xs->Own w9 3 1 sl xs:=λh=>h.of_block λa ha=>by
    rw[hw9];exact Below.heap_setCell _ _ _ _ (by rw[z0];exact zeD h hG8 (by decide) ha)
   refine hR w9 ⟨hfr9,wk6,r,bs6,hG9,hb6,stay9 hwk8,by simpa using stay9 hr,hfw6,λa ha=>?_,λa c ha hc=>?_⟩ (by simp;omega)
   ·rw[hrb]at ha;cases ha;exact hbB
   ·rw[hrb]at hc;cases hc;exact hwkne a ha
theorem ztl{B:Nat}{X:Nat->Prop}{w w' w'':World}{s:Sl}(h:Fr B X w w')(ho:Only s w' w'')(hs:zz B s):Fr B X w w'':=h.trans (Fr.of_below (ho.below hs))
theorem zpq{gb:Nat}{sn sa:Sl}{hs:List Sl}{nx:List (List Nat)}{w:World}{R:VWP}
  (hG:Blk w gb 118 (Yy sn sa ⟨none,0,0⟩ ⟨none,0,0⟩ (List.replicate 64 (.int .u64 (0:Int))))) (hnx:IsNN w sn hs nx) (hav:zng gb sn hs)
  (h0:0<nx.length) (hmax:nx.length<=4096) (hrows:∀i,∀t∈nx.getD i [],t<nx.length)
  (hR:∀w' wk od bs,Fr w.heap.size (·=gb) w w'->Blk w' gb 118 (Yy sn sa wk od bs)->zdT bs (λi=>(yK nx).contains i)->Own w' 3 1 wk ((yK nx).map iN)->
   Own w' 3 1 od ((zC nx).map iN)->zz w.heap.size wk->zz w.heap.size od->R (.tuple #[]) w') :
  cR 75 #[.pointer (some (blk gb))] w R:=by
 refine za.of (ze0 _ R w ?_) λ_ _ h=>h
 have hgl:=hG.lt
 refine Nw.gen λw1 hw1=>Nw.gen λw2 hw2=>?_
 have hz1:w1.heap.size=w.heap.size+1:=by rw[hw1];simp
 have hB0:Blk w2 w.heap.size 51 [.pointer (some (blk gb))]:=by rw[hw2,hw1];exact(Blk.new w _ #[_]).alloc _
 have hB1:Blk w2 w1.heap.size 147 [.nilFunc]:=by rw[hw2];exact Blk.new w1 _ #[_]
 have hb2:Below w.heap.size w w2:=by rw[hw2,hw1];exact((Below.refl _ _).alloc (Nat.le_refl _) _).alloc (by simp) _
 have hz2:w2.heap.size=w.heap.size+2:=by rw[hw2,hw1];simp
 refine⟨hB1.wr0 (by simp),Nw.gen λw3 hw3=>?_⟩
 have hz3:w3.heap.size=w.heap.size+2:=by rw[hw3];simpa[World.setCell] using hz2
 have hb3:Below w.heap.size w w3:=by rw[hw3];exact hb2.setCell (by simp;omega) _
 have hB0':Blk w3 w.heap.size 51 [.pointer (some (blk gb))]:=by rw[hw3];exact hB0.other (by simp;omega) _
 have hB1':Blk w3 w1.heap.size 147 [.func (.func 111) #[] #[.pointer (some (blk w.heap.size)),.pointer (some (blk w1.heap.size))]]:=by rw[hw3];exact hB1.set0 _
 have hG3:=hG.below hb3
 have cw:CW w3 w3.heap.size w.heap.size w1.heap.size gb sn hs nx:=
  ⟨rfl,by omega,hB0',hB1',by omega,by omega,hnx.below hb3,hav,hmax,hrows⟩
 refine⟨_,hB1'.cell0 rfl,?_⟩
 have cs:CS w3 w3.heap.size gb sn sa w3 ([],[]):=
  ⟨Fr.refl _ _ _,⟨none,0,0⟩,⟨none,0,0⟩,_,hG3,zdT.zero.congr (λi=>by simp),Own.nil _ _ _,Own.nil _ _ _,λa h=>(by cases h),λa h=>(by cases h),λa b h=>by cases h⟩
 refine zqQ cw nx.length 0 ([],[]) w3 _ h0 (by simp) (by simp) (by simp) (by simp) (by simp) cs λw4 hcs _=>⟨rfl,?_⟩
 obtain⟨hfr,wk,od,bs,hG4,hbits,hwk,hod,hfw,hfo,hap⟩:=hcs
 have hB04:Blk w4 w.heap.size 51 [.pointer (some (blk gb))]:=hB0'.of_block (hfr.block _ (by omega) (by show ¬w.heap.size=gb;omega))
 refine⟨some (blk gb),hB04.cell0 rfl,od,hG4.cell rfl,?_⟩
 refine zni hod λw5 hod5 honly=>⟨rfl,?_⟩
 have hne:∀a,od.a=some a->a.block≠gb:=λa ha=>zeD hod hG4 (by decide) ha
 have hG5:=hG4.of_block (honly.block gb hne)
 have hwk5:Own w5 3 1 wk ((yw nx nx.length 0 ([],[])).1.map iN):=hwk.of_block λa ha=>honly.block _ λb hb=>(hap a b ha hb).symm
 have hfr5:Fr w3.heap.size (·=gb) w3 w5:=ztl hfr honly hfo
 refine hR w5 wk od bs (Fr.trans (Fr.of_below hb3) (hfr5.mono (by omega) (λ_ _ h=>h))) hG5 hbits hwk5 (by simpa[zC] using hod5) (λa ha=>?_) (λa ha=>?_)
 ·have:=hfw a ha;omega
 ·have:=hfo a ha;omega
structure Fam (B:Nat) (w:World) (bh:Nat) (hs:List Sl) (ll:List (List Nat)) (ow:Nat->Nat) (off:Nat):Prop where
 head:Blk w bh 43 (hs.map Sl.val)
 len:hs.length=ll.length
 row:∀(i:Nat) (h:i<hs.length),Own w 3 1 hs[i] ((ll.getD i []).map iN)
 own:∀(i:Nat) (h:i<hs.length) a,hs[i].a=some a->ow a.block=off+i/\B<=a.block
def upd(ow:Nat->Nat)(b v:Nat):Nat->Nat:=λk=>if k=b then v else ow k
theorem Fam.ne{B:Nat}{w:World}{bh:Nat}{hs:List Sl}{ll:List (List Nat)}{ow:Nat->Nat}{off:Nat}(h:Fam B w bh hs ll ow off){i:Nat}(hi:i<hs.length){a:Addr}(ha:hs[i].a=some a):a.block≠bh:=
 zeD (h.row i hi) h.head (by decide) ha
theorem Fam.other{B:Nat}{w w':World}{bh:Nat}{hs:List Sl}{ll:List (List Nat)}{ow:Nat->Nat}{off b v:Nat}(h:Fam B w bh hs ll ow off)(hg:w.grownBy w' (some b))(hb:b≠bh)
  (hn:(∃v',ow b=v'/\∀i,i<hs.length->v'≠off+i)\/b=w.heap.size):Fam B w' bh hs ll (upd ow b v) off:=by
 have hrow:∀(i:Nat) (hi:i<hs.length) a,hs[i].a=some a->a.block≠b:=λi hi a ha e=>by
  rcases hn with⟨v',h1,h2⟩ |h1
  ·exact h2 i hi (by rw[<-h1,<-e];exact(h.own i hi a ha).1)
  ·have:=((h.row i hi).lt ha).2;omega
 refine⟨h.head.of_block (hg.block bh h.head.lt (λe=>hb (Option.some.inj e).symm)),h.len,λi hi=>(h.row i hi).of_block λa ha=>hg.block _ ((h.row i hi).lt ha).2 (λe=>hrow i hi a ha (Option.some.inj e)),λi hi a ha=>?_⟩
 refine⟨?_,(h.own i hi a ha).2⟩
 unfold upd
 rw[if_neg (hrow i hi a ha)]
 exact(h.own i hi a ha).1
theorem Fam.set_other{B:Nat}{w:World}{bh:Nat}{hs:List Sl}{ll:List (List Nat)}{ow:Nat->Nat}{off:Nat}(h:Fam B w bh hs ll ow off){b:Nat}{T:TypeId}{cs:List Value}(hB:Blk w b T cs)(hb:b≠bh)(hT:T≠3)(n:Nat)(v:Value) :
  Fam B (w.setCell ((blk b).add n) v) bh hs ll ow off:=by
 refine⟨h.head.other (by rw[z0];exact Ne.symm hb) v,h.len,λi hi=>(h.row i hi).of_block λa ha=>Below.heap_setCell _ _ _ _ (by rw[z0];exact zeD (h.row i hi) hB hT ha),h.own⟩
theorem Fam.grown{B:Nat}{w w':World}{bh:Nat}{hs:List Sl}{ll:List (List Nat)}{ow:Nat->Nat}{off:Nat}(h:Fam B w bh hs ll ow off)(hb:Below w.heap.size w w'):Fam B w' bh hs ll ow off:=
 ⟨h.head.below hb,h.len,λi hi=>(h.row i hi).below hb,h.own⟩
theorem Fam.push{B:Nat}{w w':World}{bh:Nat}{hs:List Sl}{ll:List (List Nat)}{ow:Nat->Nat}{off:Nat}(h:Fam B w bh hs ll ow off){i:Nat}(hi:i<hs.length){r:Sl}{x b:Nat}
  (hr:Own w' 3 1 r ((ll.getD i []).map iN++[iN x])) (hrb:r.a=some (blk b)) (hbo:hs[i].a=some (blk b)\/b=w.heap.size) (hB:B<=b) (hg:w.grownBy w' (some b)) :
  Blk w' bh 43 (hs.map Sl.val)/\Fam B (w'.setCell ((blk bh).add i) r.val) bh (hs.set i r) (ll.set i (ll.getD i []++[x])) (upd ow b (off+i)) off:=by
 have hbne:b≠bh:=by
  rcases hbo with hb |hb
  ·exact h.ne hi hb
  ·have:=h.head.lt;omega
 have hH:Blk w' bh 43 (hs.map Sl.val):=h.head.of_block (hg.block bh h.head.lt (λe=>hbne (Option.some.inj e).symm))
 have hrow:∀(j:Nat) (hj:j<hs.length) a,j≠i->hs[j].a=some a->a.block≠b:=λj hj a hne ha e=>by
  rcases hbo with hb |hb
  ·have h1:=(h.own j hj a ha).1
   have h2:=(h.own i hi _ hb).1
   rw[e]at h1
   simp only at h2
   omega
  ·have:=((h.row j hj).lt ha).2;omega
 have stay:∀{s:Sl} {xs:List Value},Own w' 3 1 s xs->Own (w'.setCell ((blk bh).add i) r.val) 3 1 s xs:=λho=>ho.of_block λa ha=>Below.heap_setCell _ _ _ _ (by rw[z0];exact zeD ho hH (by decide) ha)
 refine⟨hH,?_,by simp[h.len],λj hj=>?_,λj hj a ha=>?_⟩
 ·have:=hH.set i r.val
  rwa[<-List.map_set]at this
 ·have hj':j<hs.length:=by simpa using hj
  by_cases e:j=i
  ·subst e
   have:(ll.set j (ll.getD j []++[x])).getD j []=ll.getD j []++[x]:=by simp[List.getD,show j<ll.length by have:=h.len;omega]
   rw[List.getElem_set_self,this,List.map_append]
   exact stay hr
  ·have:(ll.set i (ll.getD i []++[x])).getD j []=ll.getD j []:=by simp only[List.getD];rw[List.getElem?_set_ne (by omega)]
   rw[List.getElem_set_ne (by omega),this]
   exact stay ((h.row j hj').of_block λa ha=>hg.block _ ((h.row j hj').lt ha).2 (λe'=>hrow j hj' a e ha (Option.some.inj e')))
 ·have hj':j<hs.length:=by simpa using hj
  by_cases e:j=i
  ·subst e
   rw[List.getElem_set_self,hrb]at ha
   cases ha
   exact⟨by simp[upd],hB⟩
  ·rw[List.getElem_set_ne (by omega)]at ha
   refine⟨?_,(h.own j hj' a ha).2⟩
   unfold upd
   rw[if_neg (hrow j hj' a e ha)]
   exact(h.own j hj' a ha).1
theorem Fam.isSS{B:Nat}{w:World}{bh n:Nat}{hs:List Sl}{ll:List (List Nat)}{ow:Nat->Nat}{off:Nat}(h:Fam B w bh hs ll ow off)(hn:hs.length=n)(hm:n<=9223372036854775807):IsNN w ⟨some (blk bh),n,n⟩ hs ll:=
 ⟨h.head.isS rfl hn.symm (Nat.le_refl _) hm,h.len,λi hi hi'=>by
  have:=(h.row i hi).isS
  simpa[List.getD,hi'] using this⟩
theorem Fam.avoids{B:Nat}{w:World}{bh n:Nat}{hs:List Sl}{ll:List (List Nat)}{ow:Nat->Nat}{off:Nat}(h:Fam B w bh hs ll ow off){b:Nat}{T:TypeId}{cs:List Value}(hB:Blk w b T cs)(hT:T≠3)(hT':T≠43):zng b ⟨some (blk bh),n,n⟩ hs:=
 ⟨λa ha e=>by
  cases ha
  have e:bh=b:=e
  subst e
  exact hT' (hB.type h.head),λi hi a ha=>zeD (h.row i hi) hB hT ha⟩
theorem Fam.new(B:Nat)(w:World)(n:Nat)(ow:Nat->Nat)(off bh:Nat)(hB:Blk w bh 43 (List.replicate n (.slice none 0 0))):Fam B w bh (List.replicate n ⟨none,0,0⟩) (List.replicate n []) ow off:=by
 refine⟨?_,by simp,λi hi=>?_,λi hi a ha=>?_⟩
 ·rw[List.map_replicate];exact hB
 ·have hi':i<n:=by simpa using hi
  simp only[List.getElem_replicate,List.getD,List.getElem?_replicate,if_pos hi',Option.getD_some,List.map_nil]
  exact Own.nil _ _ _
 ·simp at ha
def IsG(w:World)(gb:Nat)(nx:List (List Nat)):Prop:=
 ∃sn sa wk od bs hn ha,Blk w gb 118 (Yy sn sa wk od bs)/\IsNN w sn hn nx/\IsNN w sa ha (zM nx)/\IsN w wk (yK nx)/\IsN w od (zC nx)/\zdT bs λi=>(yK nx).contains i
theorem IsG.below{w w':World}{gb:Nat}{nx:List (List Nat)}(h:IsG w gb nx)(hb:Below w.heap.size w w'):IsG w' gb nx:=
 let⟨sn,sa,wk,od,bs,hn,ha,h1,h2,h3,h4,h5,h6⟩:=h
 ⟨sn,sa,wk,od,bs,hn,ha,h1.below hb,h2.below hb,h3.below hb,h4.below hb,h5.below hb,h6⟩
def IsGB(w:World)(B gb:Nat)(nx:List (List Nat)):Prop:=
 B<=gb/\∃sn sa wk od bs hn ha,Blk w gb 118 (Yy sn sa wk od bs)/\IsNN w sn hn nx/\IsNN w sa ha (zM nx)/\IsN w wk (yK nx)/\IsN w od (zC nx)/\zdT bs (λi=>(yK nx).contains i)/\
  zz B sn/\zz B sa/\zz B wk/\zz B od/\(∀(i:Nat) (h:i<hn.length),zz B hn[i])/\∀(i:Nat) (h:i<ha.length),zz B ha[i]
theorem IsGB.isG{w:World}{B gb:Nat}{nx:List (List Nat)}(h:IsGB w B gb nx):IsG w gb nx:=
 let⟨_,sn,sa,wk,od,bs,hn,ha,h1,h2,h3,h4,h5,h6,_⟩:=h
 ⟨sn,sa,wk,od,bs,hn,ha,h1,h2,h3,h4,h5,h6⟩
theorem IsGB.keep{w w':World}{B gb:Nat}{nx:List (List Nat)}(h:IsGB w B gb nx)(hk:∀k,B<=k->k<w.heap.size->w'.heap[k]? =w.heap[k]?):IsGB w' B gb nx:=by
 obtain⟨hg,sn,sa,wk,od,bs,hn,ha,h1,h2,h3,h4,h5,h6,f1,f2,f3,f4,f5,f6⟩:=h
 have st:∀{α:Type} {f:α->Value} {s:Sl} {l:List α},IsS f w s l->zz B s->IsS f w' s l:=λhs hf=>hs.of_block λa ha hlt=>hk _ (hf a ha) hlt
 exact⟨hg,sn,sa,wk,od,bs,hn,ha,h1.of_block (hk gb hg h1.lt),⟨st h2.top f1,h2.len,λi g1 g2=>st (h2.row i g1 g2) (f5 i g1)⟩,⟨st h3.top f2,h3.len,λi g1 g2=>st (h3.row i g1 g2) (f6 i g1)⟩,st h4 f3,st h5 f4,h6,f1,f2,f3,f4,f5,f6⟩
theorem IsGB.below{w w':World}{B gb:Nat}{nx:List (List Nat)}(h:IsGB w B gb nx)(hb:Below w.heap.size w w'):IsGB w' B gb nx:=h.keep λk _ hk=>hb.block k hk
structure OS (w0:World) (gb bn ba n:Nat) (w:World) (NX:List (List Nat)):Prop where
 below:Below w0.heap.size w0 w
 len:NX.length=n
 g:Blk w gb 118 (Yy ⟨some (blk bn),n,n⟩ ⟨some (blk ba),n,n⟩ ⟨none,0,0⟩ ⟨none,0,0⟩ (List.replicate 64 (.int .u64 (0:Int))))
 gB:w0.heap.size<=gb
 bnB:w0.heap.size<=bn
 baB:w0.heap.size<=ba
 ne:bn≠ba
 fam:∃hn ha ow,Fam w0.heap.size w bn hn NX ow 0/\Fam w0.heap.size w ba ha (zM NX) ow n
theorem OS.grown{w0 w w':World}{gb bn ba n:Nat}{NX:List (List Nat)}(h:OS w0 gb bn ba n w NX)(hb:Below w.heap.size w w'):OS w0 gb bn ba n w' NX:=
 let⟨hn,ha,ow,f1,f2⟩:=h.fam
 ⟨h.below.trans (hb.mono h.below.size),h.len,h.g.below hb,h.gB,h.bnB,h.baB,h.ne,hn,ha,ow,f1.grown hb,f2.grown hb⟩
set_option maxHeartbeats 1000000 in
theorem zru{w0:World}{gb bn ba n:Nat}{w:World}{NX:List (List Nat)}(h:OS w0 gb bn ba n w NX){i x:Nat}(hi:i<n)(hx:x<n)(hn:n<=4096)(hlen:(NX.getD i []).length<=4096)(hlenA:((zM NX).getD x []).length<=4096)
  (hni:(NX.getD i []).contains x=false) (hgt:∀j,i<j->NX.getD j []=[]) {sb:Nat} {T:TypeId} {cs:List Value} (hT:T≠3) (hT':T≠43) (hsb:Blk w sb T cs) {K:World->Prop}
  (hK:∀w',OS w0 gb bn ba n w' (NX.set i (NX.getD i []++[x]))->Blk w' sb T cs->K w') :
  zc (some (blk gb)) λa18=>
   ldS w.drew a18 λx19=>
   zc (some (blk gb)) λa20=>
   ldS w.drew a20 λx21=>
   (0<=(i:Int)/\(i:Int)<(x21.l:Int))/\
   zc x21.a λa22=>
   ldS w.drew (a22.add (Int.toNat (i:Int))) λx23=>
   Nw (w.drew.alloc (.cells #[(.int .i64 (x:Int))] 3)) λw14=>
   w14.cell? (a22.add (Int.toNat (i:Int)))=some (.slice x23.a x23.l x23.c)/\
   w14.cell? a20=some (.slice x21.a x21.l x21.c)/\
   w14.cell? a18=some (.slice x19.a x19.l x19.c)/\
   zp Tryz.prog 43 (.slice x23.a x23.l x23.c) (.slice (some (blk w.drew.heap.size)) 1 1) w14 λr24 w15=>
   w15.cell? a18=some (.slice x19.a x19.l x19.c)/\
   (0<=(i:Int)/\(i:Int)<(x19.l:Int))/\
   zc x19.a λa25=>
   Wr w15 (a25.add (Int.toNat (i:Int)))/\
   Nw (w15.setCell (a25.add (Int.toNat (i:Int))) (.slice r24.a r24.l r24.c)) λw16=>
   zc (some (blk gb)) λa26=>
   ldS w16.drew (a26.add 1) λx27=>
   zc (some (blk gb)) λa28=>
   ldS w16.drew (a28.add 1) λx29=>
   (0<=(x:Int)/\(x:Int)<(x29.l:Int))/\
   zc x29.a λa30=>
   ldS w16.drew (a30.add (Int.toNat (x:Int))) λx31=>
   Nw (w16.drew.alloc (.cells #[(.int .i64 (i:Int))] 3)) λw17=>
   w17.cell? (a30.add (Int.toNat (x:Int)))=some (.slice x31.a x31.l x31.c)/\
   w17.cell? (a28.add 1)=some (.slice x29.a x29.l x29.c)/\
   w17.cell? (a26.add 1)=some (.slice x27.a x27.l x27.c)/\
   zp Tryz.prog 43 (.slice x31.a x31.l x31.c) (.slice (some (blk w16.drew.heap.size)) 1 1) w17 λr32 w18=>
   w18.cell? (a26.add 1)=some (.slice x27.a x27.l x27.c)/\
   (0<=(x:Int)/\(x:Int)<(x27.l:Int))/\
   zc x27.a λa33=>
   Wr w18 (a33.add (Int.toNat (x:Int)))/\
   Nw (w18.setCell (a33.add (Int.toNat (x:Int))) (.slice r32.a r32.l r32.c)) λw19=>K w19:=by
 obtain⟨hbel,hNX,hG,hgB,hbnB,hbaB,hne,hn',ha',ow,f1,f2⟩:=h
 have hnl:hn'.length=n:=by rw[f1.len,hNX]
 have hal:ha'.length=n:=by rw[f2.len,Yi,hNX]
 have hBsz:w0.heap.size<=w.heap.size:=hbel.size
 have hmax:n<=9223372036854775807:=by omega
 refine⟨⟨some (blk bn),n,n⟩,hG.drew.cell0 rfl,⟨some (blk bn),n,n⟩,hG.drew.cell0 rfl,?_⟩
 refine zeY (s:=⟨some (blk bn),n,n⟩) (f1.isSS hnl hmax).top.drew (k:=i) (by omega) ?_
 refine Nw.gen λw14 hw14=>?_
 have hb14:Below w.heap.size w w14:=by rw[hw14];exact(Below.refl _ _).drew.alloc (by simp) _
 have ht14:Blk w14 w.drew.heap.size 3 [iN x]:=by rw[hw14];exact Blk.new w.drew 3 #[iN x]
 have f1':=f1.grown hb14
 have f2':=f2.grown hb14
 have hG':=hG.below hb14
 have hsb':=hsb.below hb14
 have hz14:w.heap.size<=w14.heap.size:=hb14.size
 refine⟨?_,hG'.cell0 rfl,hG'.cell0 rfl,?_⟩
 ·exact(f1'.isSS hnl hmax).top.cell _ rfl i (by omega)
 have hrow:=f1'.row i (by omega)
 have hrl:=zet hrow
 refine YM eInt hrow rfl ht14 (by omega) (by omega) λr w15 hr _ ⟨b,hrb,hbo,hg⟩=>?_
 have hbB:w0.heap.size<=b:=by
  rcases hbo with hb |rfl
  ·exact(f1'.own i (by omega) _ hb).2
  ·omega
 obtain⟨hH,f1p⟩:=f1'.push (by omega) hr hrb hbo hbB hg
 have hbT:∃cs,Blk w15 b 3 cs:=by obtain⟨cs,hc⟩:=hr.type hrb;exact⟨cs,hc⟩
 have hnot:∀{b':Nat} {T:TypeId} {cs:List Value},Blk w14 b' T cs->T≠3->b'≠b/\Blk w15 b' T cs:=λhB hT=>by
  have hb':_≠b:=λe=>by
   rcases hbo with hb |hb
   ·exact zeD hrow hB hT hb e.symm
   ·have:=hB.lt;omega
  exact⟨hb',hB.of_block (hg.block _ hB.lt (λe=>hb' (Option.some.inj e)))⟩
 have hG15:=(hnot hG' (by decide)).2
 have hgb:=(hnot hG' (by decide)).1
 have hbba:=(hnot f2'.head (by decide)).1
 have f2o:=f2'.other (v:=0+i) hg (Ne.symm hbba) (by
  rcases hbo with hb |hb
  ·exact .inl ⟨_,(f1'.own i (by omega) _ hb).1,λj hj=>by omega⟩
  ·exact .inr hb)
 refine⟨hG15.cell0 rfl,⟨by omega,by show(i:Int)<((n:Nat):Int);omega⟩,hH.wr (by simp;omega),Nw.gen λw16 hw16=>?_⟩
 have f1q:=f1p
 have f2q:=f2o.set_other hH hne (by decide) i r.val
 have hG16:Blk w16 gb 118 (Yy ⟨some (blk bn),n,n⟩ ⟨some (blk ba),n,n⟩ ⟨none,0,0⟩ ⟨none,0,0⟩ (List.replicate 64 (.int .u64 (0:Int)))):=by
  rw[hw16];exact hG15.other (by rw[z0];exact hG15.apart hH (by decide)) _
 have hsb15:=(hnot hsb' hT).2
 have hsb16:Blk w16 sb T cs:=by
  rw[hw16];exact hsb15.other (by rw[z0];exact hsb15.apart hH hT') _
 rw[show w15.setCell ((blk bn).add i) r.val=w16 from hw16.symm]at f1q f2q
 have hb16:Below w0.heap.size w0 w16:=by
  rw[hw16]
  exact((hbel.trans (hb14.mono hBsz)).trans (yf hg hbB (by omega))).setCell (by rw[z0];exact hbnB) _
 have hl1:(hn'.set i r).length=n:=by simp[hnl]
 have hBsz16:=hb16.size
 clear hw16 f1p f2o hH hG15 hnot hbT hr hg hrow f1' f2' hG' ht14 hw14 hb14 f1 f2 hG hsb hsb' hsb15
 refine⟨⟨some (blk ba),n,n⟩,hG16.drew.cell rfl,⟨some (blk ba),n,n⟩,hG16.drew.cell rfl,?_⟩
 refine zeY (s:=⟨some (blk ba),n,n⟩) (f2q.isSS hal hmax).top.drew (k:=x) (by omega) ?_
 refine Nw.gen λw17 hw17=>?_
 have hb17:Below w16.heap.size w16 w17:=by rw[hw17];exact(Below.refl _ _).drew.alloc (by simp) _
 have ht17:Blk w17 w16.drew.heap.size 3 [iN i]:=by rw[hw17];exact Blk.new w16.drew 3 #[iN i]
 have f1':=f1q.grown hb17
 have f2':=f2q.grown hb17
 have hG':=hG16.below hb17
 have hsb':=hsb16.below hb17
 have hz17:w16.heap.size<=w17.heap.size:=hb17.size
 refine⟨?_,hG'.cell rfl,hG'.cell rfl,?_⟩
 ·exact(f2'.isSS hal hmax).top.cell _ rfl x (by omega)
 have hrow:=f2'.row x (by omega)
 have hrl:=zet hrow
 refine YM eInt hrow rfl ht17 (by omega) (by omega) λr2 w18 hr _ ⟨b2,hrb2,hbo2,hg2⟩=>?_
 have hbB2:w0.heap.size<=b2:=by
  rcases hbo2 with hb |rfl
  ·exact(f2'.own x (by omega) _ hb).2
  ·omega
 obtain⟨hH,f2p⟩:=f2'.push (by omega) hr hrb2 hbo2 hbB2 hg2
 have hnot:∀{b':Nat} {T:TypeId} {cs:List Value},Blk w17 b' T cs->T≠3->b'≠b2/\Blk w18 b' T cs:=λhB hT=>by
  have hb':_≠b2:=λe=>by
   rcases hbo2 with hb |hb
   ·exact zeD hrow hB hT hb e.symm
   ·have:=hB.lt;omega
  exact⟨hb',hB.of_block (hg2.block _ hB.lt (λe=>hb' (Option.some.inj e)))⟩
 have hG18:=(hnot hG' (by decide)).2
 have hbbn:=(hnot f1'.head (by decide)).1
 have f1o:=f1'.other (v:=n+x) hg2 (Ne.symm hbbn) (by
  rcases hbo2 with hb |hb
  ·exact .inl ⟨_,(f2'.own x (by omega) _ hb).1,λj hj=>by omega⟩
  ·exact .inr hb)
 refine⟨hG18.cell rfl,⟨by omega,by show(x:Int)<((n:Nat):Int);omega⟩,hH.wr (by simp;omega),Nw.gen λw19 hw19=>?_⟩
 have f2z:=f2p
 have f1z:=f1o.set_other hH (Ne.symm hne) (by decide) x r2.val
 rw[show w18.setCell ((blk ba).add x) r2.val=w19 from hw19.symm]at f1z f2z
 have hsb18:=(hnot hsb' hT).2
 rw[<-zp0 (by omega) (by omega) hni hgt]at f2z
 refine hK w19 ⟨?_,by simp[hNX],?_,hgB,hbnB,hbaB,hne,hn'.set i r,ha'.set x r2,_,f1z,f2z⟩ ?_
 ·rw[hw19]
  exact((hb16.trans (hb17.mono hBsz16)).trans (yf hg2 hbB2 (by omega))).setCell (by rw[z0];exact hbaB) _
 ·rw[hw19];exact hG18.other (by rw[z0];exact hG18.apart hH (by decide)) _
 ·rw[hw19];exact hsb18.other (by rw[z0];exact hsb18.apart hH hT') _
theorem zn7{n:Nat}{b:Int}(hb:b=24\/b=8\/b=1)(h:n<=4096):(0<=(n:Int)/\(n:Int)<=(n:Int)/\b*(n:Int)<=281474976710656/\(n:Int)<=9223372036854775807):=by
 rcases hb with rfl |rfl |rfl<;>omega
theorem zny{w:World}{s:Sl}{hs:List Sl}(h:IsS Sl.val w s hs){n:Nat}(hn:s.l=n){k:Nat}(hk:k<hs.length){φ:Sl->Prop}(hφ:φ hs[k]) :
  (0<=(k:Int)/\(k:Int)<(n:Int))/\zc s.a λa=>ldS w (a.add (Int.toNat (k:Int))) φ:=by
 subst hn;exact zeY h hk hφ
abbrev zH(ll:List (List Int)):List (List Nat):=ll.map λl=>l.map Int.toNat
theorem znA(ll:List (List Int))(i:Nat)(hi:i<ll.length):(zH ll).getD i []=(ll[i]).map Int.toNat:=by simp[zH,List.getD,hi]
def Good(ll:List (List Int)):Prop:=∀l∈ll,∀x∈l,0<=x/\x<(ll.length:Int)
abbrev Zd(ll:List (List Int)):List (List Nat):=(zH ll).map ZY
theorem zgv(n:Nat):zM (List.replicate n ([]:List Nat))=List.replicate n []:=by
 apply List.ext_getElem
 ·simp[zM]
 ·intro j g1 g2
  simp only[zM,List.getElem_map,List.getElem_range,List.getElem_replicate]
  rw[List.filter_eq_nil_iff]
  intro a ha
  have ha:=List.mem_range.1 ha
  simp only[List.length_replicate]at ha
  simp[List.getD,ha]
theorem zcY(ll:List (List Int)):nxP (zH ll) 0 0=List.replicate ll.length []:=by
 rw[zs3];simp[zH]
set_option maxHeartbeats 1000000 in
theorem zmh{s:Sl}{hs:List Sl}{ll:List (List Int)}{w:World}{R:VWP}(h:IsII w s hs ll)
  (h2:ll.length=0->R (.tuple #[.pointer none,.int .i64 2]) w)
  (h4:4096<ll.length->R (.tuple #[.pointer none,.int .i64 4]) w)
  (hbad:0<ll.length->ll.length<=4096->¬Good ll->∀w',Below w.heap.size w w'->R (.tuple #[.pointer none,.int .i64 141]) w')
  (hok:0<ll.length->ll.length<=4096->Good ll->∀w' gb,Below w.heap.size w w'->IsGB w' w.heap.size gb (Zd ll)->IsG w' gb (Zd ll)->R (.tuple #[.pointer (some (blk gb)),.int .i64 0]) w') :
  cR 39 #[.slice s.a s.l s.c] w R:=by
 refine za.of (zl7 s R w ?_) λ_ _ h=>h
 have hsl:s.l=hs.length:=h.top.len
 have hhl:hs.length=ll.length:=h.len
 have hn:s.l=ll.length:=by omega
 unfold zij
 rw[hn]
 refine zm (λhe=>h2 (by omega)) (λhne=>zf (λhgt=>h4 (by omega)) (λhle=>?_))
 have hn0:0<ll.length:=by omega
 have hn1:ll.length<=4096:=by omega
 refine zl.cut (λst w7=>∃gb bn ba,st=(some (blk gb),())/\OS w gb bn ba ll.length w7 (nxP (zH ll) 0 0)) ⟨?_,?_⟩ ?_
 ·refine⟨zn7 (.inl rfl) hn1,Nw.gen λw1 hw1=>⟨zn7 (.inl rfl) hn1,Nw.gen λw2 hw2=>Nw.gen λw3 hw3=>⟨w2.heap.size,w.heap.size,w1.heap.size,rfl,?_⟩⟩⟩
  have hz1:w1.heap.size=w.heap.size+1:=by rw[hw1];simp
  have hz2:w2.heap.size=w.heap.size+2:=by rw[hw2];simp;omega
  have b1:Blk w1 w.heap.size 43 (List.replicate ll.length (.slice none 0 0)):=by rw[hw1];exact Blk.made w.drew _ _ _
  have b2:Blk w2 w1.heap.size 43 (List.replicate ll.length (.slice none 0 0)):=by rw[hw2];exact Blk.made w1 _ _ _
  have b1':Blk w3 w.heap.size 43 (List.replicate ll.length (.slice none 0 0)):=by rw[hw3,hw2];exact(b1.alloc _).alloc _
  have b2':Blk w3 w1.heap.size 43 (List.replicate ll.length (.slice none 0 0)):=by rw[hw3];exact b2.alloc _
  have hg:Blk w3 w2.heap.size 118 (Yy ⟨some (blk w.heap.size),ll.length,ll.length⟩ ⟨some (blk w1.heap.size),ll.length,ll.length⟩ ⟨none,0,0⟩ ⟨none,0,0⟩ (List.replicate 64 (.int .u64 (0:Int)))):=by
   rw[hw3];exact Blk.new w2 _ _
  refine⟨?_,by rw[zcY];simp,hg,by omega,Nat.le_refl _,by omega,by omega,List.replicate ll.length ⟨none,0,0⟩,List.replicate ll.length ⟨none,0,0⟩,λ_=>0,by rw[zcY];exact Fam.new _ w3 _ _ _ _ b1',by rw[zcY,zgv];exact Fam.new _ w3 _ _ _ _ b2'⟩
  ·rw[hw3,hw2,hw1];exact(((Below.refl _ _).drew.alloc (by simp) _).alloc (by simp) _).alloc (by simp;omega) _
 ·refine⟨zn7 (.inl rfl) hn1,Nw.gen λw1 hw1=>⟨zn7 (.inl rfl) hn1,Nw.gen λw2 hw2=>Nw.gen λw3 hw3=>⟨w2.heap.size,w1.heap.size,w.heap.size,rfl,?_⟩⟩⟩
  have hz1:w1.heap.size=w.heap.size+1:=by rw[hw1];simp
  have hz2:w2.heap.size=w.heap.size+2:=by rw[hw2];simp;omega
  have b1:Blk w1 w.heap.size 43 (List.replicate ll.length (.slice none 0 0)):=by rw[hw1];exact Blk.made w.drew _ _ _
  have b2:Blk w2 w1.heap.size 43 (List.replicate ll.length (.slice none 0 0)):=by rw[hw2];exact Blk.made w1 _ _ _
  have b1':Blk w3 w.heap.size 43 (List.replicate ll.length (.slice none 0 0)):=by rw[hw3,hw2];exact(b1.alloc _).alloc _
  have b2':Blk w3 w1.heap.size 43 (List.replicate ll.length (.slice none 0 0)):=by rw[hw3];exact b2.alloc _
  have hg:Blk w3 w2.heap.size 118 (Yy ⟨some (blk w1.heap.size),ll.length,ll.length⟩ ⟨some (blk w.heap.size),ll.length,ll.length⟩ ⟨none,0,0⟩ ⟨none,0,0⟩ (List.replicate 64 (.int .u64 (0:Int)))):=by
   rw[hw3];exact Blk.new w2 _ _
  refine⟨?_,by rw[zcY];simp,hg,by omega,by omega,Nat.le_refl _,by omega,List.replicate ll.length ⟨none,0,0⟩,List.replicate ll.length ⟨none,0,0⟩,λ_=>0,by rw[zcY];exact Fam.new _ w3 _ _ _ _ b2',by rw[zcY,zgv];exact Fam.new _ w3 _ _ _ _ b1'⟩
  ·rw[hw3,hw2,hw1];exact(((Below.refl _ _).drew.alloc (by simp) _).alloc (by simp) _).alloc (by simp;omega) _
 rintro _ w7 ⟨gb,bn,ba,rfl,hos⟩
 have hrl:(zH ll).length=ll.length:=by simp[zH]
 refine zk.count ll.length (by omega) (λi w'=>OS w gb bn ba ll.length w' (nxP (zH ll) i 0)/\∀j,j<i->∀(hj:j<ll.length),∀x∈ll[j],0<=x/\x<(ll.length:Int)) ⟨hos,λj hj=>by omega⟩ ?_
 rintro i w8 hi ⟨hos8,hgood⟩ next hnext
 refine zf (λhlt=>?_) (λhge=>?_)
 ·have hlt:i<ll.length:=by dsimp only at hlt;omega
  have hin:=h.below (w':=w8) (hos8.below.mono (Nat.le_refl _))
  refine zny hin.top hn (k:=i) (by omega) ?_
  refine Nw.gen λw9 hw9=>?_
  have hb9:Below w8.heap.size w8 w9:=by rw[hw9];exact(Below.refl _ _).alloc (Nat.le_refl _) _
  have hbits9:Bits w9 (blk w8.heap.size) λ_=>false:=by rw[hw9];exact Bits.new w8 _
  have hB9:Blk w9 w8.heap.size 116 (List.replicate 64 (.int .u64 (0:Int))):=by rw[hw9];exact Blk.new w8 _ _
  have hos9:=hos8.grown hb9
  have hsbB:w.heap.size<=w8.heap.size:=hos8.below.size
  have hrow:∀{w':World},Below w.heap.size w w'->IsI w' (hs[i]'(by omega)) ll[i]:=λhb=>(h.below hb).row i (by omega) hlt
  have hrn:(hs[i]'(by omega)).l=(ll[i]).length:=(hrow hos9.below).len
  have hgd:=znA ll i hlt
  clear hw9 hin
  refine zk.count (ll[i]).length (hrow hos9.below).bound (λk w'=>OS w gb bn ba ll.length w' (nxP (zH ll) i k)/\(∃cs,Blk w' w8.heap.size 116 cs)/\Bits w' (blk w8.heap.size) (λj=>((nxP (zH ll) i k).getD i []).contains j)/\
   ∀j,j<k->∀(hj:j<(ll[i]).length),0<=ll[i][j]/\ll[i][j]<(ll.length:Int)) ⟨hos9,⟨_,hB9⟩,?_,λj hj=>by omega⟩ ?_
  ·have e:(nxP (zH ll) i 0).getD i []=[]:=by rw[zft (by omega)];simp[ZY]
   rw[e];simpa using hbits9
  rintro k w10 hk ⟨hos10,⟨cs10,hB10⟩,hbits10,hgood10⟩ nxt hnxt
  refine zf (λhltk=>?_) (λhgek=>?_)
  ·have hltk:k<(ll[i]).length:=by dsimp only at hltk;omega
   refine zl.cut (λ_ w'=>OS w gb bn ba ll.length w' (nxP (zH ll) i (k+1))/\(∃cs,Blk w' w8.heap.size 116 cs)/\Bits w' (blk w8.heap.size) (λj=>((nxP (zH ll) i (k+1)).getD i []).contains j)/\
    0<=ll[i][k]/\ll[i][k]<(ll.length:Int)) ?_ λ_ w' hh=>hnxt w' hltk ⟨hh.1,hh.2.1,hh.2.2.1,λj hj hjl=>by
     by_cases e:j=k
     ·subst e;exact hh.2.2.2
     ·exact hgood10 j (by omega) hjl⟩
   refine zdz (hrow hos10.below) hltk ?_
   have bad:¬(0<=ll[i][k]/\ll[i][k]<(ll.length:Int))->R (.tuple #[.pointer none,.int .i64 141]) w10:=λhx=>
    hbad hn0 hn1 (λhG=>hx (hG _ (List.getElem_mem hlt) _ (List.getElem_mem hltk))) w10 hos10.below
   refine zl.cut (λ_ w'=>w'=w10/\0<=ll[i][k]/\ll[i][k]<(ll.length:Int)) (zf (λhx=>bad (by omega)) (λhx=>zf (λhx'=>bad (by omega)) (λhx'=>⟨rfl,by omega,by omega⟩))) ?_
   rintro _ wx ⟨ewx,hx0,hx1⟩
   subst wx
   obtain⟨x,hx⟩:=Int.eq_ofNat_of_zero_le hx0
   have hxn:x<ll.length:=by omega
   have hrk:k<((zH ll).getD i []).length:=by rw[hgd];simpa using hltk
   have hrx:((zH ll).getD i [])[k]=x:=by
    have:((zH ll).getD i [])[k]=(ll[i][k]).toNat:=(List.getElem_of_eq hgd hrk).trans (List.getElem_map _)
    rw[this,hx];rfl
   rw[hx]
   refine zl9 (i:=x) (by omega) hbits10 ⟨_,rfl,zF ?_⟩
   refine zo (λhc=>?_) (λhc=>?_)
   ·have hskip:=zs2 (rows:=zH ll) (i:=i) (k:=k) (by omega) hrk (by rw[hrx];exact hc)
    rw[hskip]
    exact⟨hos10,⟨_,hB10⟩,hbits10,by omega,by omega⟩
   ·have hpush:=zs1 (rows:=zH ll) (i:=i) (k:=k) (by omega) hrk (by rw[hrx];exact hc)
    rw[hrx]at hpush
    refine zoa (i:=x) (by omega) hbits10 λv hbits11=>⟨rfl,?_⟩
    generalize hw11:w10.drew.setCell ((blk w8.heap.size).add (x / 64)) (.int .u64 (v:Int))=w11 at hbits11⊢
    obtain⟨cs11,hB11⟩:∃cs,Blk w11 w8.heap.size 116 cs:=by rw[<-hw11];exact⟨_,hB10.drew.set _ _⟩
    have hos11:OS w gb bn ba ll.length w11 (nxP (zH ll) i k):=by
     obtain⟨o1,o2,o3,o4,o5,o6,o7,hn',ha',ow,f1,f2⟩:=hos10
     have hne3:gb≠w8.heap.size:=o3.apart hB10 (by decide)
     have hne1:w8.heap.size≠bn:=hB10.apart f1.head (by decide)
     have hne2:w8.heap.size≠ba:=hB10.apart f2.head (by decide)
     rw[<-hw11]
     exact⟨o1.drew.setCell (by rw[z0];exact hsbB) _,o2,o3.drew.other (by rw[z0];exact hne3) _,o4,o5,o6,o7,hn',ha',ow,
      (f1.grown (w':=_) (Below.refl _ _).drew).set_other (hB10.drew) hne1 (by decide) _ _,(f2.grown (w':=_) (Below.refl _ _).drew).set_other (hB10.drew) hne2 (by decide) _ _⟩
    have hlen:((nxP (zH ll) i k).getD i []).length<=ll.length:=by
     rw[zft (by omega),if_neg (by omega),if_pos rfl,hgd]
     refine zok λy hy=>?_
     obtain⟨j,hj,rfl⟩:=List.mem_iff_getElem.1 hy
     have hj':j<k/\j<(ll[i]).length:=by simp at hj;omega
     have:=hgood10 j hj'.1 hj'.2
     simp only[List.getElem_take,List.getElem_map]
     omega
    have hgt:∀j,i<j->(nxP (zH ll) i k).getD j []=[]:=λj hj=>by
     by_cases hjn:j<(zH ll).length
     ·rw[zft hjn,if_neg (by omega),if_neg (by omega)]
     ·rw[List.getD_eq_getElem?_getD,List.getElem?_eq_none (by rw[zi1];omega)];rfl
    refine zru hos11 hlt hxn hn1 (by omega) (by have:=zlp (nxP (zH ll) i k) x;rw[zi1]at this;omega) hc hgt (by decide) (by decide) hB11 λw' hos' hB'=>?_
    rw[hpush]
    refine⟨hos',⟨_,hB'⟩,?_,by omega,by omega⟩
    have e:∀j,(((nxP (zH ll) i k).set i ((nxP (zH ll) i k).getD i []++[x])).getD i []).contains j=(((nxP (zH ll) i k).getD i []).contains j||j==x):=by
     intro j
     have:((nxP (zH ll) i k).set i ((nxP (zH ll) i k).getD i []++[x])).getD i []=(nxP (zH ll) i k).getD i []++[x]:=by simp[List.getD,zi1,hlt]
     rw[this,Bool.eq_iff_iff]
     simp
    have hbits':Bits w' (blk w8.heap.size) (λj=>((nxP (zH ll) i k).getD i []).contains j||j==x):=
     hbits11.of_block ((show w'.heap[w8.heap.size]? =_ from hB').trans (show w11.heap[w8.heap.size]? =_ from hB11).symm)
    simpa only[e] using hbits'
  ·have hkk:k=(ll[i]).length:=by dsimp only at hgek;omega
   subst hkk
   refine hnext w10 hlt ⟨?_,λj hj hjl x hx=>?_⟩
   ·have:=zs0 (zH ll) i
    rw[hgd,List.length_map]at this
    rw[<-this]
    exact hos10
   ·by_cases e:j=i
    ·subst e
     obtain⟨m,hm,rfl⟩:=List.mem_iff_getElem.1 hx
     exact hgood10 m hm hm
    ·exact hgood j (by omega) hjl x hx
 ·
  have hi':i=ll.length:=by dsimp only at hge;omega
  subst hi'
  have hG:Good ll:=λl hl x hx=>by
   obtain⟨j,hj,rfl⟩:=List.mem_iff_getElem.1 hl
   exact hgood j hj hj x hx
  have hnx:nxP (zH ll) ll.length 0=Zd ll:=by have:=ztw (zH ll);rwa[hrl]at this
  rw[hnx]at hos8
  obtain⟨o1,o2,o3,o4,o5,o6,o7,hn',ha',ow,f1,f2⟩:=hos8
  have hl1:hn'.length=ll.length:=by rw[f1.len,o2]
  have hl2:ha'.length=ll.length:=by rw[f2.len,Yi,o2]
  have hrows:∀j,∀t∈(Zd ll).getD j [],t<(Zd ll).length:=by
   intro j t ht
   by_cases hj:j<ll.length
   ·have:(Zd ll).getD j []=ZY (ll[j].map Int.toNat):=by simp[Zd,zH,List.getD,hj]
    rw[this,zkc]at ht
    obtain⟨y,hy,rfl⟩:=List.mem_map.1 ht
    have:=hG _ (List.getElem_mem hj) y hy
    simp[Zd,zH]
    omega
   ·simp[Zd,zH,List.getD,hj]at ht
  refine zpq o3 (f1.isSS hl1 (by omega)) (f1.avoids o3 (by decide) (by decide)) (by rw[o2];exact hn0) (by rw[o2];exact hn1) hrows λw' wk od bs hfr hGw hbits hwk hod hfw hfo=>⟨rfl,?_⟩
  have hz:=o1.size
  have gB:IsGB w' w.heap.size gb (Zd ll):=by
   refine⟨o4,_,_,wk,od,bs,hn',ha',hGw,?_,?_,hwk.isS,hod.isS,hbits,(λa ha=>by cases ha;exact o5),(λa ha=>by cases ha;exact o6),(λa ha=>by have:=hfw a ha;omega),(λa ha=>by have:=hfo a ha;omega),(λi hi a ha=>(f1.own i hi a ha).2),λi hi a ha=>(f2.own i hi a ha).2⟩
   ·exact(f1.isSS hl1 (by omega)).fr hfr (Nat.le_refl _) (f1.avoids o3 (by decide) (by decide))
   ·exact(f2.isSS hl2 (by omega)).fr hfr (Nat.le_refl _) (f2.avoids o3 (by decide) (by decide))
  refine hok hn0 hn1 hG w' gb ?_ gB gB.isG
  exact o1.trans ((hfr.mono (B':=w.heap.size) (X':=λ_=>False) o1.size (λk hk e=>by omega)).below)
structure NxOk (nx:List (List Nat)):Prop where
 pos:0<nx.length
 max:nx.length<=4096
 rows:∀i,∀t∈nx.getD i [],t<nx.length
 nodup:∀i,(nx.getD i []).Nodup
theorem NxOk.row_le{nx:List (List Nat)}(h:NxOk nx)(i:Nat):(nx.getD i []).length<=nx.length:=YF (h.nodup i) (h.rows i)
theorem NxOk.came{nx:List (List Nat)}(h:NxOk nx):Came nx.length ([],[]) (yw nx nx.length 0 ([],[])):=
 zfO h.rows nx.length 0 ([],[]) h.pos (by simp) (by simp) (by simp)
theorem zrt(nx:List (List Nat)):(zC nx).length=(yK nx).length:=by
 have:=znf nx nx.length 0 ([],[])
 simp[zC,yK]at this⊢
 omega
theorem NxOk.walk_le{nx:List (List Nat)}(h:NxOk nx):(yK nx).length<=nx.length:=YF h.came.nodup h.came.lt
theorem ziq{ll:List (List Int)}{j:Nat}(hj:j<ll.length):(Zd ll).getD j []=ZY (ll[j].map Int.toNat):=by simp[Zd,zH,List.getD,hj]
theorem Zw(ll:List (List Int)):(Zd ll).length=ll.length:=by simp[Zd,zH]
theorem zoo{ll:List (List Int)}(h0:0<ll.length)(h1:ll.length<=4096)(hG:Good ll):NxOk (Zd ll):=by
 refine⟨by rw[Zw];exact h0,by rw[Zw];exact h1,λj t ht=>?_,λj=>?_⟩
 ·by_cases hj:j<ll.length
  ·rw[ziq hj,zkc]at ht
   obtain⟨y,hy,rfl⟩:=List.mem_map.1 ht
   have:=hG _ (List.getElem_mem hj) y hy
   rw[Zw]
   omega
  ·simp[Zd,zH,List.getD,hj]at ht
 ·by_cases hj:j<ll.length
  ·rw[ziq hj];exact zkw _
  ·simp[Zd,zH,List.getD,hj]
theorem _root_.Go.Gk.IsS.toI{w:World}{s:Sl}{l:List Nat}(h:IsS iN w s l):IsI w s (l.map λ(x:Nat)=>(x:Int)):=
 ⟨by rw[List.length_map];exact h.len,h.cap,h.max,h.nil,λa ha i hi=>by rw[List.getElem_map];exact h.cell a ha i (by simpa using hi)⟩
theorem zjQ{gb:Nat}{nx:List (List Nat)}{w:World}{R:VWP}(h:IsG w gb nx)(hR:R (.int .i64 (nx.length:Int)) w) :
  cR 15 #[.pointer (some (blk gb))] w R:=by
 refine za.of (zbo _ R w ?_) λ_ _ h=>h
 obtain⟨sn,sa,wk,od,bs,hn,ha,h1,h2,h3,h4,h5,h6⟩:=h
 refine⟨sn,h1.cell0 rfl,?_⟩
 have e:sn.l=nx.length:=by have:=h2.top.len;have:=h2.len;omega
 show R (.int .i64 (sn.l:Int)) w
 rw[e];exact hR
theorem zn1{gb:Nat}{nx:List (List Nat)}{i:Int}{w:World}{R:VWP}(h:IsG w gb nx)(hR:R (.bool (decide (0<=i/\i<nx.length))) w) :
  cR 40 #[.pointer (some (blk gb)),.int .i64 i] w R:=by
 refine za.of (zcd _ i R w ?_) λ_ _ h=>h
 refine zf (λh0=>zjQ h ⟨_,rfl,?_⟩) (λh0=>?_)
 ·have:decide (i<(nx.length:Int))=decide (0<=i/\i<nx.length):=by
   rw[decide_eq_decide];exact⟨λh=>⟨h0,h⟩,λh=>h.2⟩
  dsimp only[zB,Go.Gk.Sl.zw,zi,zu,zb,zh];rw[this];exact hR
 ·have:decide (0<=i/\i<(nx.length:Int))=false:=by rw[decide_eq_false_iff_not];omega
  rw[this]at hR;exact hR
def zgy(ll:List (List Nat))(i:Int):List Nat:=if 0<=i then ll.getD i.toNat [] else []
theorem zb3(ll:List (List Nat))(i:Nat):zgy ll (i:Int)=ll.getD i []:=by simp[zgy]
theorem zkh{ll:List (List Nat)}{i:Int}(h:¬(0<=i/\i<ll.length)):zgy ll i=[]:=by
 unfold zgy
 split
 ·rw[List.getD_eq_getElem?_getD,List.getElem?_eq_none (by omega)];rfl
 ·rfl
theorem zqN{gb:Nat}{nx:List (List Nat)}(hx:NxOk nx){i:Int}{w:World}{R:VWP}(h:IsG w gb nx)
  (hR:∀r w',Own w' 3 1 r ((zgy nx i).map iN)->zz w.heap.size r->Below w.heap.size w w'->R (.slice r.a r.l r.c) w') :
  cR 63 #[.pointer (some (blk gb)),.int .i64 i] w R:=by
 refine za.of (za7 _ i R w ?_) λ_ _ h=>h
 refine zn1 h ⟨_,rfl,zF (zf (λhi=>?_) (λhi=>?_))⟩
 ·obtain⟨sn,sa,wk,od,bs,hn,ha,h1,h2,h3,h4,h5,h6⟩:=h
  obtain⟨k,rfl⟩:=Int.eq_ofNat_of_zero_le hi.1
  have hk:k<nx.length:=by have:=hi.2;omega
  have hnl:=h2.len
  have hrl:=hx.row_le k
  have hrm:=hx.max
  have hsz:nx[k].length*8<=140737488355328:=by
   have e:nx[k]=nx.getD k []:=by simp[List.getD,hk]
   rw[e];omega
  refine⟨sn,h1.cell0 rfl,zeY h2.top (by omega) ?_⟩
  refine zii zpF (h2.row k (by omega) hk) hsz λr w' g1 g2 g3=>⟨r,rfl,hR r w' ?_ g2 g3⟩
  rw[zb3]
  simpa[List.getD,hk] using g1
 ·refine hR ⟨none,0,0⟩ w ?_ (λa ha=>by cases ha) (Below.refl _ _)
  rw[zkh (by omega)];exact Own.nil _ _ _
theorem zla{gb:Nat}{nx:List (List Nat)}(hx:NxOk nx){i:Int}{w:World}{R:VWP}(h:IsG w gb nx)
  (hR:∀r w',Own w' 3 1 r ((zgy (zM nx) i).map iN)->zz w.heap.size r->Below w.heap.size w w'->R (.slice r.a r.l r.c) w') :
  cR 17 #[.pointer (some (blk gb)),.int .i64 i] w R:=by
 refine za.of (zad _ i R w ?_) λ_ _ h=>h
 refine zn1 h ⟨_,rfl,zF (zf (λhi=>?_) (λhi=>?_))⟩
 ·obtain⟨sn,sa,wk,od,bs,hn,ha,h1,h2,h3,h4,h5,h6⟩:=h
  obtain⟨k,rfl⟩:=Int.eq_ofNat_of_zero_le hi.1
  have hk:k<(zM nx).length:=by rw[Yi];have:=hi.2;omega
  have hnl:=h3.len
  have hrl:=zlp nx k
  have hrm:=hx.max
  have hsz:(zM nx)[k].length*8<=140737488355328:=by
   have e:(zM nx)[k]=(zM nx).getD k []:=by simp[List.getD,hk]
   rw[e];omega
  refine⟨sa,h1.cell (n:=1) rfl,zeY h3.top (by omega) ?_⟩
  refine zii zpF (h3.row k (by omega) hk) hsz λr w' g1 g2 g3=>⟨r,rfl,hR r w' ?_ g2 g3⟩
  rw[zb3]
  simpa[List.getD,hk] using g1
 ·refine hR ⟨none,0,0⟩ w ?_ (λa ha=>by cases ha) (Below.refl _ _)
  rw[zkh (by rw[Yi];omega)];exact Own.nil _ _ _
theorem zpx{gb:Nat}{nx:List (List Nat)}(hx:NxOk nx){w:World}{R:VWP}(h:IsG w gb nx)
  (hR:∀r w',Own w' 3 1 r ((zC nx).map iN)->zz w.heap.size r->Below w.heap.size w w'->R (.slice r.a r.l r.c) w') :
  cR 94 #[.pointer (some (blk gb))] w R:=by
 refine za.of (zfd _ R w ?_) λ_ _ h=>h
 obtain⟨sn,sa,wk,od,bs,hn,ha,h1,h2,h3,h4,h5,h6⟩:=h
 refine⟨od,h1.cell (n:=3) rfl,zii zpF h5 (by have:=zrt nx;have:=hx.walk_le;have:=hx.max;omega) λr w' g1 g2 g3=>⟨r,rfl,hR r w' g1 g2 g3⟩⟩
def Yk(nx:List (List Nat))(i:Int):Bool:=decide (0<=i)&&(yK nx).contains i.toNat
theorem znh{gb:Nat}{nx:List (List Nat)}(hx:NxOk nx){i:Int}{w:World}{R:VWP}(h:IsG w gb nx)(hR:R (.bool (Yk nx i)) w) :
  cR 16 #[.pointer (some (blk gb)),.int .i64 i] w R:=by
 refine za.of (Yv _ i R w ?_) λ_ _ h=>h
 refine zn1 h ⟨_,rfl,zf (λhi=>?_) (λhi=>?_)⟩
 ·obtain⟨sn,sa,wk,od,bs,hn,ha,h1,h2,h3,h4,h5,h6⟩:=h
  obtain⟨k,rfl⟩:=Int.eq_ofNat_of_zero_le hi.1
  have hm:=hx.max
  have hk:k<4096:=by have:=hi.2;omega
  refine zl9 hk (zdT.bits h1 h6) ⟨_,rfl,?_⟩
  simpa[Yk] using hR
 ·have:Yk nx i=false:=by
   unfold Yk
   by_cases h0:0<=i
   ·have:(yK nx).contains i.toNat=false:=by
     rw[<-Bool.not_eq_true,List.contains_iff_mem]
     intro hm
     have:=hx.came.lt _ hm
     omega
    rw[this,Bool.and_false]
   ·simp[h0]
  rw[this]at hR
  exact hR
theorem zqR(l:List Nat)(x:Nat):(l.map λ(x:Nat)=>(x:Int)).contains (x:Int)=l.contains x:=by
 rw[Bool.eq_iff_iff]
 simp only[List.contains_iff_mem,List.mem_map]
 exact⟨λ⟨y,hy,e⟩=>by rw[show x=y by omega];exact hy,λh=>⟨x,h,rfl⟩⟩
theorem zon{nx:List (List Nat)}(hx:NxOk nx){i j:Nat}:i∈(zM nx).getD j []↔j∈nx.getD i []:=by
 by_cases hj:j<nx.length
 ·rw[zin hj,List.mem_filter,List.mem_range,List.contains_iff_mem]
  refine⟨λh=>h.2,λh=>⟨?_,h⟩⟩
  by_cases hi:i<nx.length
  ·exact hi
  ·simp[List.getD,hi]at h
 ·constructor
  ·intro h;simp[List.getD,Yi,hj]at h
  ·intro h;exact absurd (hx.rows i j h) hj
end Go.Proofs
namespace Go.Proofs
open Go.Gk
set_option linter.unusedVariables false
set_option maxRecDepth 100000
def zku:Ann:=(.q (.one (.q (.seq none Z10 (.q (.q (.q (.seq none (.q (.one (.loop ⟨[2,5,6,29,30],[(31,(.b (.int .i64)))]⟩ (.q (.seq none .c (.seq (some ⟨[2,5,6,29,30,31],[]⟩) (.one (.q (.seq (some ⟨[2,5,6,7,8,29,30,31],[]⟩) Z10 (.q (.seq none (.q (.one (.loop ⟨[2,5,6,7,29,30,31,50,51],[(9,(.b .bool)),(52,(.b (.int .i64)))]⟩ (.q (.seq none .c (.seq (some ⟨[2,5,6,7,29,30,31,50,51,52],[(9,(.b .bool))]⟩) (.one (.q (.q Z1W))) .nil)))))) (.seq (some ⟨[2,7],[]⟩) Z13 Z11)))))) .nil)))))) Z11))))))))
def zkq(p0:(Int×Int×Sl×Unit))(R:VWP)(w:World):Prop:=Nw (w.alloc (.cells #[zu p0.1,zu p0.2.1,p0.2.2.1.zw] 25)) λw1=>Nw (w1.alloc (.cells #[zi 0,zi 0] 29)) λw2=>da w2 (zB w) λx1 x2 x3=>dZ 67 #[.agg #[zu x1,zu x2,x3.zw]] w2 λx5 x6 w3=>Nw (w3.alloc (.cells (List.toArray (List.replicate 20 (zi 0))) 98)) λw4=>Nw (w4.alloc (.cells #[zi 0,zi 0] 29)) λw5=>dH w5 (zB w3) (zi x5.1) (zi x5.2.1) (zi x5.2.2.1) (zi x5.2.2.2.1) (zi x5.2.2.2.2.1) (zi x5.2.2.2.2.2.1) (zi x5.2.2.2.2.2.2.1) (zi x5.2.2.2.2.2.2.2.1) (zi x5.2.2.2.2.2.2.2.2.1) (zi x5.2.2.2.2.2.2.2.2.2.1) (zi x5.2.2.2.2.2.2.2.2.2.2.1) (zi x5.2.2.2.2.2.2.2.2.2.2.2.1) (zi x5.2.2.2.2.2.2.2.2.2.2.2.2.1) (zi x5.2.2.2.2.2.2.2.2.2.2.2.2.2.1) (zi x5.2.2.2.2.2.2.2.2.2.2.2.2.2.2.1) (zi x5.2.2.2.2.2.2.2.2.2.2.2.2.2.2.2.1) (zi x5.2.2.2.2.2.2.2.2.2.2.2.2.2.2.2.2.1) (zi x5.2.2.2.2.2.2.2.2.2.2.2.2.2.2.2.2.2.1) (zi x5.2.2.2.2.2.2.2.2.2.2.2.2.2.2.2.2.2.2.1) (zi x5.2.2.2.2.2.2.2.2.2.2.2.2.2.2.2.2.2.2.2.1) λw25=>df w25 (zB w4) (zi x6.1) (zi x6.2.1) λw27=>ldI w27 (zB w4) .i64 λx7=>ifB (x7 !=0) (db w27 (zB w4) λx8 x9=>df w27 (zB w1) (zi x8) (zi x9) λw29=>db w29 (zB w1) λx10 x11=>R (.agg #[zi x10,zi x11]) w29) (ldS w27 ((zB w).add 2) λx12=>dq 68 #[x12.zw] w27 λx14 w30=>(0<=(7:Int)/\(7:Int)<10)/\db w30 ((zB w3).add (7*2)) λx15 x16=>de w30 #[zi 0,zi 0] 97 (zi x15) (zi x16) λw33=>ldS w33 ((zB w).add 2) λx17=>zk (S:=Int×Unit) (λs18 w34 n19=>ifB (decide (s18.1<(x17.l:Int))) (zl (S:=Unit) (λm20=>(0<=s18.1/\s18.1<(x17.l:Int))/\zc x17.a λa22=>dm w34 (a22.add (s18.1.toNat *4)) λx23 x24 x25 x26=>dn w34 #[zh 0,zu 0,zu 0,.slice none 0 0] 50 (zh x23) (zu x24) (zu x25) (x26.zw) λw39=>zl (S:=Unit) (λm27=>ldI w39 ((zB w34).add 2) .u32 λx29=>ifB (x29 !=0) (ldI w39 ((zB w34).add 2) .u32 λx30=>zlF Tryz.prog 88 (.map x14) (zu x30) (BK.int .i64) w39 λ(x31:Int)=>ifB (decide (x31<s18.1)) (df w39 (zB w1) (zi 90) (zi s18.1) λw41=>db w41 (zB w1) λx32 x33=>R (.agg #[zi x32,zi x33]) w41) (m27 () w39)) (m27 () w39)) (λs28 w42=>dm w42 (zB w34) λx34 x35 x36 x37=>dk 69 #[.agg #[zh x34,zu x35,zu x36,x37.zw]] w42 λx39 w43=>zk (S:=Bool×Int×Unit) (λs40 w44 n41=>ifB (decide (s40.2.1<(x39.l:Int))) (zl (S:=Bool×Unit) (λm42=>(0<=s40.2.1/\s40.2.1<(x39.l:Int))/\zc x39.a λa44=>ldI w44 (a44.add s40.2.1.toNat) .u32 λx45=>zn5 Tryz.prog 88 (.map x14) (zu x45) (BK.int .i64) w44 λ(x46:Int) (b47:Bool)=>ifB (!b47) (df w44 (zB w1) (zi 91) (zi s18.1) λw46=>db w46 (zB w1) λx48 x49=>R (.agg #[zi x48,zi x49]) w46) (ifB s40.1 (m42 (true,()) w44) (m42 ((decide (x46≥s18.1)),()) w44))) (λs43 w47=>n41 (s43.1,(IntKind.i64.wrap (s40.2.1+(1:Int))),()) w47)) (zl (S:=Unit) (λm50=>ifB (!s40.1) (m20 () w44) (ldI w44 (zB w30) .i64 λx52=>ifB (decide (s18.1<x52)) (m20 () w44) (ldI w44 ((zB w30).add 1) .i64 λx53=>ifB (decide (s18.1≥x53)) (m20 () w44) (m50 () w44)))) (λs51 w48=>df w48 (zB w1) (zi 92) (zi s18.1) λw50=>db w50 (zB w1) λx54 x55=>R (.agg #[zi x54,zi x55]) w50))) (false,0,()) w43)) (λs21 w51=>n19 ((IntKind.i64.wrap (s18.1+(1:Int))),()) w51)) (df w34 (zB w1) (zi 0) (zi 0) λw53=>db w53 (zB w1) λx56 x57=>R (.agg #[zi x56,zi x57]) w53)) (0,()) w33)
theorem zkP(p0)(R)(w)(h:zkq p0 R w):cC 32 #[.agg #[.int .u32 p0.1,.int .u32 p0.2.1,.slice p0.2.2.1.a p0.2.2.1.l p0.2.2.1.c]] w R:=lwC zku Tryz.func32 h
def zbg:Ann:=(.q (.q (.seq none Z10 (.seq none (.q (.one (.loop ⟨[1,2],[(4,(.b (.int .i64)))]⟩ Z1X))) Z11))))
def zaP(p0:(Int×Int×Sl×Unit))(R:VWP)(w:World):Prop:=Nw (w.alloc (.cells #[zu p0.1,zu p0.2.1,p0.2.2.1.zw] 25)) λw1=>Nw (w1.alloc (.cells #[zi 0,zi 0] 29)) λw2=>da w2 (zB w) λx1 x2 x3=>dh 79 #[.agg #[zu x1,zu x2,x3.zw]] w2 λx5 w3=>de w3 #[zi 0,zi 0] 29 (zi x5.1) (zi x5.2.1) λw6=>ldI w6 (zB w3) .i64 λx6=>ifB (x6 !=0) (db w6 (zB w3) λx7 x8=>df w6 (zB w1) (zi x7) (zi x8) λw8=>db w8 (zB w1) λx9 x10=>R (.agg #[zi x9,zi x10]) w8) (zk (S:=Int×Unit) (λs11 w9 n12=>ldS w9 ((zB w).add 2) λx13=>ifB (decide (s11.1<(x13.l:Int))) (ldS w9 ((zB w).add 2) λx14=>dl 80 #[x14.zw,zi s11.1] w9 λx16 w10=>ifB (x16 !=0) (df w10 (zB w1) (zi x16) (zi s11.1) λw12=>db w12 (zB w1) λx17 x18=>R (.agg #[zi x17,zi x18]) w12) (n12 ((IntKind.i64.wrap (s11.1+(1:Int))),()) w10)) (df w9 (zB w1) (zi 0) (zi 0) λw14=>db w14 (zB w1) λx19 x20=>R (.agg #[zi x19,zi x20]) w14)) (0,()) w6)
theorem zdM(p0)(R)(w)(h:zaP p0 R w):cC 47 #[.agg #[.int .u32 p0.1,.int .u32 p0.2.1,.slice p0.2.2.1.a p0.2.2.1.l p0.2.2.1.c]] w R:=lwC zbg Tryz.func47 h
def zbh:Ann:=(.q (.seq none Z10 (.q (.seq none (.q (.one (.loop ⟨[0,1,5],[(6,(.b (.int .i64)))]⟩ Z14))) (.seq none (.q (.one (.loop ⟨[0,1,5],[(7,(.b (.int .i64)))]⟩ (.seq none Z13 (.seq (some ⟨[0,1,5,7],[]⟩) Z1L .nil))))) Z11)))))
def zaQ(p0:Sl)(p1:Int)(R:VWP)(w:World):Prop:=(0<=p1/\p1<(p0.l:Int))/\zc p0.a λa1=>ldI w ((a1.add (p1.toNat *4)).add 2) .u32 λx2=>dl 90 #[p0.zw,zu x2,zi p1] w λx4 w1=>ifB (decide (x4≥(0:Int))) (R (zi 90) w1) ((0<=p1/\p1<(p0.l:Int))/\zc p0.a λa5=>dm w1 (a5.add (p1.toNat *4)) λx6 x7 x8 x9=>dk 88 #[.agg #[zh x6,zu x7,zu x8,x9.zw]] w1 λx11 w2=>zk (S:=Int×Unit) (λs12 w3 n13=>ifB (decide (s12.1<(x11.l:Int))) ((0<=s12.1/\s12.1<(x11.l:Int))/\zc x11.a λa14=>ldI w3 (a14.add s12.1.toNat) .u32 λx15=>dl 90 #[p0.zw,zu x15,zi (p0.l:Int)] w3 λx17 w4=>ifB (decide (x17<(0:Int))) (R (zi 91) w4) (n13 ((IntKind.i64.wrap (s12.1+(1:Int))),()) w4)) (zk (S:=Int×Unit) (λs18 w5 n19=>ifB (decide (s18.1<(x11.l:Int))) (zl (S:=Unit) (λm20=>(0<=p1/\p1<(p0.l:Int))/\zc p0.a λa22=>dm w5 (a22.add (p1.toNat *4)) λx23 x24 x25 x26=>dl 117 #[.agg #[zh x23,zu x24,zu x25,x26.zw]] w5 λx28 w6=>ifB (x28==7) ((0<=s18.1/\s18.1<(x11.l:Int))/\zc x11.a λa29=>ldI w6 (a29.add s18.1.toNat) .u32 λx30=>dl 90 #[p0.zw,zu x30,zi p1] w6 λx32 w7=>ifB (decide (x32<(0:Int))) (R (zi 92) w7) (m20 () w7)) (m20 () w6)) (λs21 w8=>n19 ((IntKind.i64.wrap (s18.1+(1:Int))),()) w8)) (R (zi 0) w5)) (0,()) w3)) (0,()) w2)
theorem zdN(p0)(p1)(R)(w)(h:zaQ p0 p1 R w):cC 80 #[.slice p0.a p0.l p0.c,.int .i64 p1] w R:=lwC zbh Tryz.func80 h
set_option linter.unusedVariables false
set_option maxRecDepth 100000
def ziQ:Ann:=(.q (.q (.seq none (.q (.one (.loop ⟨[],[(9,(.b (.int .i64))),(10,(.agg [(.int .u16),(.int .u32),(.int .u32),.slice]))]⟩ (.seq none Z11 Z1S)))) Z11)))
def ziF(p0:Sl)(R:VWP)(w:World):Prop:=Nw (w.alloc (.map #[] 0)) λw1=>Nw (w1.alloc (.cells #[.map none] 88)) λw2=>Wr w2 (zB w1)/\Nw (w2.setCell (zB w1) (.map (some w.heap.size))) λw3=>dQ 107 #[p0.zw] w3 λx2 w4=>zik Tryz.prog Tryz.fs x2 w4 (T:=Int×(Int×Int×Int×Sl×Unit)×Unit) (λs3=>[(zi s3.1),(.agg #[zh s3.2.1.1,zu s3.2.1.2.1,zu s3.2.1.2.2.1,s3.2.1.2.2.2.1.zw])]) (λmk4 l5 s3 w5 S6=>dn w5 #[zh 0,zu 0,zu 0,.slice none 0 0] 50 (zh s3.2.1.1) (zu s3.2.1.2.1) (zu s3.2.1.2.2.1) (s3.2.1.2.2.2.1.zw) λw10=>w10.heap[l5]? =some (mk4 .ready none)/\Nw (w10.putObj l5 (mk4 .busy none)) λw11=>ldI w11 ((zB w5).add 2) .u32 λx8=>ifB (x8 !=0) (ldM w11 (zB w1) λx9=>ldI w11 ((zB w5).add 2) .u32 λx10=>updW Tryz.prog 88 (.map x9) (zu x10) (zi s3.1) w11 λw12=>w12.heap[l5]? =some (mk4 .busy none)/\S6 (.bool true) (w12.putObj l5 (mk4 .ready none))) (w11.heap[l5]? =some (mk4 .busy none)/\S6 (.bool true) (w11.putObj l5 (mk4 .ready none)))) (λmk4 l5 d7 w13=>yJ mk4 l5 .ready none w13 λw14=>ldM w14 (zB w1) λx11=>za4 (d7::[]) w14 λw15=>R (.map x11) w15)
theorem zjV(p0:Sl)(R:VWP)(w:World)(h:ziF p0 R w):Calls Tryz.prog 68 #[.slice p0.a p0.l p0.c] w (Ret R):=zht (fs:=Tryz.fs) (an:=ziQ) (args:=[(.slice p0.a p0.l p0.c)]) Tryz.fsOK Tryz.mixed Tryz.func68 (by kernel_rfl) (by kernel_rfl) (Eq.mpr (by kernel_rfl:zmM Tryz.prog Tryz.fs Tryz.f68 ziQ [(.slice p0.a p0.l p0.c)] w R=ziF p0 R w) h)
def zbi:Ann:=(.q (.seq none (.q (.one (.loop ⟨[0,1,2],[(7,(.b (.int .i64)))]⟩ (.seq none Z13 (.seq (some ⟨[0,1,2,7],[]⟩) Z1L .nil))))) Z11))
def zaR(p0:Sl)(p1:Int)(p2:Int)(R:VWP)(w:World):Prop:=zk (S:=Int×Unit) (λs1 w1 n2=>ifB (decide (s1.1<p2)) (zl (S:=Unit) (λm3=>(0<=s1.1/\s1.1<(p0.l:Int))/\zc p0.a λa5=>ldI w1 ((a5.add (s1.1.toNat *4)).add 2) .u32 λx6=>ifB (x6==p1) (ifB (p1 !=0) (R (zi s1.1) w1) (m3 () w1)) (m3 () w1)) (λs4 w2=>n2 ((IntKind.i64.wrap (s1.1+(1:Int))),()) w2)) (R (zi (-1:Int)) w1)) (0,()) w
theorem Yw(p0)(p1)(p2)(R)(w)(h:zaR p0 p1 p2 R w):cC 90 #[.slice p0.a p0.l p0.c,.int .u32 p1,.int .i64 p2] w R:=lwC zbi Tryz.func90 h
def yB:Ann:=Z16
def y9(p0:Sl)(R:VWP)(w:World):Prop:=Nw (w.alloc (.cells #[p0.zw] 23)) λw1=>R (.func (.func 141) #[] #[.pointer (some (zB w))]) w1
theorem ZD(p0)(R)(w)(h:y9 p0 R w):cC 107 #[.slice p0.a p0.l p0.c] w R:=lwC yB Tryz.func107 h
def yr:Ann:=(.q (.one (.loop ⟨[0,1],[(3,(.b (.int .i64)))]⟩ Z1g)))
def yq(p0:Value)(c0:Addr)(R:VWP)(w:World):Prop:=ldS w c0 λx1=>zk (S:=Int×Unit) (λs2 w1 n3=>ifB (decide (s2.1≥(0:Int))) (ldS w1 c0 λx4=>(0<=s2.1/\s2.1<(x4.l:Int))/\zc x4.a λa5=>dm w1 (a5.add (s2.1.toNat *4)) λx6 x7 x8 x9=>ZH Tryz.prog Tryz.fs p0 [(zi s2.1),(.agg #[zh x6,zu x7,zu x8,x9.zw])] w1 λv10 w2=>∃x11:Bool,v10=(.bool x11)/\ifB (!x11) (R (.tuple #[]) w2) (n3 ((IntKind.i64.wrap (s2.1-(1:Int))),()) w2)) (R (.tuple #[]) w1)) ((IntKind.i64.wrap ((x1.l:Int)-1)),()) w
theorem Zl(p0)(c0)(R)(w)(h:yq p0 c0 R w):cC 141 #[p0,.pointer (some c0)] w R:=lwC yr Tryz.func141 h
set_option linter.unusedVariables false
set_option maxRecDepth 100000
set_option linter.unusedVariables false
set_option maxRecDepth 100000
def Y8:Ann:=Z1M
def Y1(p0:(Int×Int×Sl×Unit))(R:VWP)(w:World):Prop:=Nw (w.alloc (.cells #[zu p0.1,zu p0.2.1,p0.2.2.1.zw] 25)) λw1=>Nw (w1.alloc (.cells #[zu 0,zu 0,.slice none 0 0] 25)) λw2=>ldS w2 ((zB w).add 2) λx1=>(0<=(x1.l:Int)/\(x1.l:Int)<=(x1.l:Int)/\40*(x1.l:Int)<=281474976710656/\(x1.l:Int)<=9223372036854775807)/\Nw (w2.alloc (.cells (madeCells #[zh 0,zu 0,zu 0,.slice none 0 0] (x1.l*4)) 50)) λw3=>zk (S:=Int×Unit) (λs2 w4 n3=>ldS w4 ((zB w).add 2) λx4=>ifB (decide (s2.1<(x4.l:Int))) (ldS w4 ((zB w).add 2) λx5=>(0<=s2.1/\s2.1<(x5.l:Int))/\zc x5.a λa6=>dm w4 (a6.add (s2.1.toNat *4)) λx7 x8 x9 x10=>dx51 29 #[.agg #[zh x7,zu x8,zu x9,x10.zw]] w4 λx12 w5=>(0<=s2.1/\s2.1<(x1.l:Int))/\Wr w5 ((zB w2).add (s2.1.toNat *4))/\Nw (w5.setCell ((zB w2).add (s2.1.toNat *4)) (zh x12.1)) λw6=>Wr w6 (((zB w2).add (s2.1.toNat *4)).add 1)/\Nw (w6.setCell (((zB w2).add (s2.1.toNat *4)).add 1) (zu x12.2.1)) λw7=>Wr w7 (((zB w2).add (s2.1.toNat *4)).add 2)/\Nw (w7.setCell (((zB w2).add (s2.1.toNat *4)).add 2) (zu x12.2.2.1)) λw8=>Wr w8 (((zB w2).add (s2.1.toNat *4)).add 3)/\Nw (w8.setCell (((zB w2).add (s2.1.toNat *4)).add 3) (x12.2.2.2.1.zw)) λw9=>n3 ((IntKind.i64.wrap (s2.1+(1:Int))),()) w9) (Wr w4 ((zB w).add 2)/\Nw (w4.setCell ((zB w).add 2) (.slice (some (zB w2)) x1.l x1.l)) λw10=>da w10 (zB w) λx13 x14 x15=>dx w10 (zB w1) (zu x13) (zu x14) (x15.zw) λw13=>da w13 (zB w1) λx16 x17 x18=>R (.agg #[zu x16,zu x17,x18.zw]) w13)) (0,()) w3
theorem zcp(p0)(R)(w)(h:Y1 p0 R w):cC 8 #[.agg #[.int .u32 p0.1,.int .u32 p0.2.1,.slice p0.2.2.1.a p0.2.2.1.l p0.2.2.1.c]] w R:=lwC Y8 Tryz.func8 h
def zbj:Ann:=(.q (.q (.seq none (.q (.one (.loop ⟨[1,5],[(6,(.b (.int .i64)))]⟩ Z14))) Z11)))
def zaS(p0:(Int×Int×Int×Sl×Unit))(p1:Int)(R:VWP)(w:World):Prop:=Nw (w.alloc (.cells #[zh p0.1,zu p0.2.1,zu p0.2.2.1,p0.2.2.2.1.zw] 50)) λw1=>dm w1 (zB w) λx1 x2 x3 x4=>dk 88 #[.agg #[zh x1,zu x2,zu x3,x4.zw]] w1 λx6 w2=>zk (S:=Int×Unit) (λs7 w3 n8=>ifB (decide (s7.1<(x6.l:Int))) ((0<=s7.1/\s7.1<(x6.l:Int))/\zc x6.a λa9=>ldI w3 (a9.add s7.1.toNat) .u32 λx10=>ifB (x10==p1) (R (.bool true) w3) (n8 ((IntKind.i64.wrap (s7.1+(1:Int))),()) w3)) (R (.bool false) w3)) (0,()) w2
theorem zdO(p0)(p1)(R)(w)(h:zaS p0 p1 R w):cC 92 #[.agg #[.int .u16 p0.1,.int .u32 p0.2.1,.int .u32 p0.2.2.1,.slice p0.2.2.2.1.a p0.2.2.2.1.l p0.2.2.2.1.c],.int .u32 p1] w R:=lwC zbj Tryz.func92 h
end Go.Proofs
namespace Go.Proofs
open Go.Gk Go.RowKit Go.Gm
def Cpy(w:World)(b:Nat)(pl:List PI):Prop:=
 ∃hs:List Ins,hs.length=pl.length/\Blk w b 50 (flat inV hs)/\∀(j:Nat) (h:j<hs.length) (h':j<pl.length),∃c,b<c/\hs[j]=mkIn pl[j] ⟨some (blk c),pl[j].2.2.2.length,pl[j].2.2.2.length⟩/\Blk w c 136 (flat agV pl[j].2.2.2)
theorem Cpy.isPl{w:World}{b:Nat}{pl:List PI}(h:Cpy w b pl)(hm:pl.length<=9223372036854775807)(hm':∀p∈pl,p.2.2.2.length<=9223372036854775807):IsPl w ⟨some (blk b),pl.length,pl.length⟩ pl:=by
 obtain⟨hs,h1,h2,h3⟩:=h
 refine⟨rfl,Nat.le_refl _,hm,(λh=>by cases h),λa ha k hk=>?_⟩
 cases ha
 obtain⟨c,h4,h5,h6⟩:=h3 k (by omega) hk
 refine⟨⟨some (blk c),pl[k].2.2.2.length,pl[k].2.2.2.length⟩,λj hj=>?_,Blk.isC zcN (by omega) h6 (hm' _ (List.getElem_mem hk))⟩
 rw[<-h5]
 have hg:=zl6 zq7 hs k (by omega) j hj
 have hlt:j<(inV (hs[k]'(by omega))).length:=hj
 rw[List.getElem?_eq_getElem hlt]at hg⊢
 exact h2.cell hg
theorem zfT{x:Mo}{pl:List PI}{w:World}{R:VWP}(hN:IsPl w x.2.2.1 pl)(hp:PlOk pl)
  (hR:∀b w',w.heap.size<=b->Cpy w' b pl->IsPl w' ⟨some (blk b),pl.length,pl.length⟩ pl->Below w.heap.size w w'->R (moA (x.1,x.2.1,⟨some (blk b),pl.length,pl.length⟩,())) w') :
  cR 8 #[moA x] w R:=by
 refine za.of (zcp x R w ?_) λ_ _ h=>h
 refine zn λw1 hB1 b1 z1=>?_
 have hB1:Blk w1 w.heap.size 25 (moV x):=hB1
 refine zn λw2 hC2 b2 z2=>?_
 have hC2:Blk w2 w1.heap.size 25 [.int .u32 0,.int .u32 0,.slice none 0 0]:=hC2
 have hB2:=hB1.below b2
 have hl:=hN.len
 have h40:=hp.len
 refine hB2.rS (n:=2) rfl ⟨⟨by omega,by omega,by omega,by omega⟩,?_⟩
 refine zn λw3 hD3 b3 z3=>?_
 have hb3:=(b1.on b2).on b3
 have hB3:=hB2.below b3
 have hC3:=hC2.below b3
 have hargs:∀p∈pl,p.2.2.2.length<=9223372036854775807:=λp h=>by have:=hp.args p h;omega
 refine zk.count pl.length hN.bound (λk w'=>Below w.heap.size w w'/\w3.heap.size<=w'.heap.size/\Blk w' w.heap.size 25 (moV x)/\Blk w' w1.heap.size 25 [.int .u32 0,.int .u32 0,.slice none 0 0]/\
   ∃(hs:List Ins) (r:List Value),hs.length=k/\Blk w' w2.heap.size 50 (flat inV hs++r)/\r.length=(pl.length-k)*4/\
    ∀(j:Nat) (h:j<hs.length) (h':j<pl.length),∃c,w2.heap.size<c/\hs[j]=mkIn pl[j] ⟨some (blk c),pl[j].2.2.2.length,pl[j].2.2.2.length⟩/\Blk w' c 136 (flat agV pl[j].2.2.2))
  ⟨hb3,Nat.le_refl _,hB3,hC3,[],_,rfl,by simpa[flat] using hD3,by rw[Array.length_toList,size_madeCells,hl];simp,λj h _=>by cases h⟩ ?_
 rintro k w4 hk ⟨hb,hz,hB,hC,hs,r,hhl,hD,hr,hrow⟩ next hnext
 refine hB.rS (n:=2) rfl (zf (λhlt=>?_) (λhge=>?_))
 ·have hlt:k<pl.length:=by dsimp only at hlt;omega
  refine hB.rS (n:=2) rfl (yu (hN.below hb) hlt λt ht=>?_)
  refine zmd (x:=mkIn pl[k] t) ht (hp.args _ (List.getElem_mem hlt)) λc w5 hc hA5 hI5 b5=>⟨mkIn pl[k] ⟨some (blk c),pl[k].2.2.2.length,pl[k].2.2.2.length⟩,rfl,?_⟩
  have hb5:=hb.on b5
  have hD5:=hD.below b5
  have hB5:=hB.below b5
  have hC5:=hC.below b5
  have s5:=b5.size
  refine⟨⟨by omega,by dsimp only;omega⟩,?_⟩
  have hfl:(flat inV hs).length=k*4:=by rw[zO zq7,hhl]
  obtain⟨r',hr',e⟩:=set4 (flat inV hs) (cs:=r) (m:=pl.length-(k+1)) (by rw[hr];congr 1;omega) (.int .u16 pl[k].1) (.int .u32 pl[k].2.1) (.int .u32 pl[k].2.2.1) (.slice (some (blk c)) pl[k].2.2.2.length pl[k].2.2.2.length)
  rw[hfl]at e
  have hcl:(flat inV hs++r).length=pl.length*4:=by rw[List.length_append,hfl,hr,<-Nat.add_mul];congr 1;omega
  dsimp only
  rw[show Int.toNat (k:Int)=k from rfl]
  simp only[zy]
  have hD1:=hD5.set (k*4) (.int .u16 pl[k].1)
  have hD2:=hD1.set (k*4+1) (.int .u32 pl[k].2.1)
  have hD3:=hD2.set (k*4+2) (.int .u32 pl[k].2.2.1)
  have hD4:=hD3.set (k*4+3) (.slice (some (blk c)) pl[k].2.2.2.length pl[k].2.2.2.length)
  have c1:=(((Chg.set w2.heap.size (k*4) w5 (.int .u16 pl[k].1)).trans (Chg.set w2.heap.size (k*4+1) _ (.int .u32 pl[k].2.1))).trans (Chg.set w2.heap.size (k*4+2) _ (.int .u32 pl[k].2.2.1))).trans
   (Chg.set w2.heap.size (k*4+3) _ (.slice (some (blk c)) pl[k].2.2.2.length pl[k].2.2.2.length))
  refine⟨hD5.wr (by omega),hD1.wr (by rw[List.length_set];omega),hD2.wr (by rw[List.length_set,List.length_set];omega),hD3.wr (by rw[List.length_set,List.length_set,List.length_set];omega),?_⟩
  refine hnext _ hlt ⟨c1.below hb5 (by omega),by rw[c1.size];omega,c1.blk hB5 (by omega),c1.blk hC5 (by omega),hs++[mkIn pl[k] ⟨some (blk c),pl[k].2.2.2.length,pl[k].2.2.2.length⟩],r',by simp[hhl],?_,hr',?_⟩
  ·rw[e]at hD4
   have e2:flat inV (hs++[mkIn pl[k] ⟨some (blk c),pl[k].2.2.2.length,pl[k].2.2.2.length⟩])=flat inV hs++inV (mkIn pl[k] ⟨some (blk c),pl[k].2.2.2.length,pl[k].2.2.2.length⟩):=by
    simp[flat]
   rw[e2]
   exact hD4
  ·intro j h h'
   by_cases hj:j<hs.length
   ·obtain⟨c',g1,g2,g3⟩:=hrow j hj h'
    refine⟨c',g1,?_,c1.blk (g3.below b5) (by omega)⟩
    rw[List.getElem_append_left hj]
    exact g2
   ·have hj':j=k:=by simp at h;omega
    subst hj'
    refine⟨c,by omega,?_,c1.blk hA5 (by omega)⟩
    rw[List.getElem_append_right (by omega)]
    simp[hhl]
 ·have hk':k=pl.length:=by dsimp only at hge;omega
  subst hk'
  simp only[Nat.sub_self,Nat.zero_mul]at hr
  have:r=[]:=List.eq_nil_of_length_eq_zero hr
  subst this
  rw[List.append_nil]at hD
  refine⟨hB.wr (n:=2) (by simp),?_⟩
  rw[hl]
  have c1:=Chg.set w.heap.size 2 w4 (.slice (some (blk w2.heap.size)) pl.length pl.length)
  have hB5:Blk _ w.heap.size 25 (moV (x.1,x.2.1,⟨some (blk w2.heap.size),pl.length,pl.length⟩,())):=hB.set 2 (.slice (some (blk w2.heap.size)) pl.length pl.length)
  have hb5:=c1.below hb (Nat.le_refl _)
  have hC5:=c1.blk hC (by omega)
  have hD5:=c1.blk hD (by omega)
  refine Nw.mk (Mo.load hB5 ?_)
  refine st3 hC5 rfl λw6 hC6 c6=>?_
  have hC6:Blk w6 w1.heap.size 25 (moV (x.1,x.2.1,⟨some (blk w2.heap.size),pl.length,pl.length⟩,())):=hC6
  have hcp:Cpy w6 w2.heap.size pl:=⟨hs,hhl,c6.blk hD5 (by omega),λj h h'=>by
   obtain⟨c',g1,g2,g3⟩:=hrow j h h'
   exact⟨c',g1,g2,c6.blk (c1.blk g3 (by omega)) (by omega)⟩⟩
  refine Mo.load hC6 ?_
  exact hR w2.heap.size w6 (by omega) hcp (hcp.isPl hN.bound hargs) (c6.below hb5 (by omega))
theorem zoY{x:Ins}{al:List Ag}{id:Int}{w:World}{R:VWP}(hI:IsAg w x.2.2.2.1 al)(h24:24*al.length<=140737488351232)
  (hR:∀w',Below w.heap.size w w'->R (.bool ((idsP x.2.1 al).contains id)) w'):cR 92 #[inA x,.int .u32 id] w R:=by
 refine za.of (zdO x id R w ?_) λ_ _ h=>h
 refine zn λw1 hB b1 z1=>?_
 have hB:Blk w1 w.heap.size 50 (inV x):=hB
 refine Ins.load hB ?_
 refine zke (x:=x) (hI.below b1) h24 λr w2 hO _ b2=>⟨r,rfl,?_⟩
 have hs:=hO.isS
 have hlen:=hs.len
 have hb2:=b1.on b2
 generalize idsP x.2.1 al=l at hs hlen hR
 refine zk.count l.length hs.bound (λk w'=>w'=w2/\∀j (hj:j<l.length),j<k->l[j]≠id) ⟨rfl,λj hj h=>by omega⟩ ?_
 rintro k w3 hk ⟨hw,hj⟩ next hnext
 subst hw
 have hR':=hR _ hb2
 refine zf (λh=>?_) (λh=>?_)
 ·have hlt:k<l.length:=by dsimp only at h;omega
  refine hs.addr hlt λa _ hc=>⟨_,hc,zm (λe=>?_) (λe=>hnext _ hlt ⟨rfl,λj hj' hjk=>?_⟩)⟩
  ·rwa[List.contains_iff_mem.2 (by rw[<-e];exact List.getElem_mem hlt)]at hR'
  ·by_cases e':j=k
   ·subst e';exact e
   ·exact hj j hj' (by omega)
 ·have hk':k=l.length:=by dsimp only at h;omega
  have hf:l.contains id=false:=by
   rw[<-Bool.not_eq_true,List.contains_iff_mem]
   intro hm
   obtain⟨i,hi,e⟩:=List.mem_iff_getElem.1 hm
   exact hj i hi (by omega) e
  rwa[hf]at hR'
abbrev Prs:=List (Int×Int)
def swp(S:Prs):Prs:=S.map λx=>(x.2,x.1)
abbrev idsA(l:List Ag):List Int:=(l.filter λa=>a.1==1).map (·.2.1)
def allI(p:PI):List Int:=p.2.1::p.2.2.1::idsA p.2.2.2
def allP(pl:List PI):List Int:=pl.flatMap allI
open Classical in
theorem zm5{p:PI}{bd:Int}(h:Ze p bd=0)(hb:0<bd)(h0:0<=p.2.1/\0<=p.2.2.1/\∀x∈p.2.2.2,0<=x.2.1) :
  (∀n∈allI p,0<=n/\n<bd)/\∀x∈p.2.2.2,x.1=1->x.2.2.size=0:=by
 unfold Ze at h
 cases hfr:frm p.1 with
 |none=>rw[zcb hfr]at h;cases h
 |some g=>
  rw[zcc hfr]at h
  have hek:errK g p.2.1 p.2.2.1 p.2.2.2 bd p.2.2.2.length=0:=by
   refine Classical.byContradiction λhne=>?_
   unfold za6 at h
   rw[if_pos hne]at h
   exact hne h
  obtain⟨e1,e2,e3⟩:=zeZ hek
  have hw:=zeV e3
  have idlt:∀{must:Bool} {n e:Int},idP must n bd e=0->e≠0->n<bd:=by
   intro must n e hi he
   unfold idP at hi
   split at hi
   ·rename_i hm
    split at hi
    ·cases hi
    ·rename_i hno
     cases must with
     |true=>exact Int.not_le.1 λhle=>hno ⟨rfl,hle⟩
     |false=>
      have:n=0:=by
       refine Classical.byContradiction λhn=>?_
       rw[bne_iff_ne.2 hn]at hm
       cases hm
      omega
   ·exact absurd hi he
  have hx:∀x∈p.2.2.2,x.1=1->(x.2.1<bd)/\x.2.2.size=0:=by
   intro x hx h1
   obtain⟨j,hj,rfl⟩:=List.mem_iff_getElem.1 hx
   have:=hw j hj
   unfold werr at this
   rw[zs hj]at this
   unfold zb4 at this
   split at this
   ·cases this
   ·split at this
    ·cases this
    ·rename_i n1
     split at this
     ·cases this
     ·rename_i n2
      refine⟨Int.not_le.1 λhle=>n2 ⟨h1,.inr hle⟩,?_⟩
      refine Classical.byContradiction λhne=>n1 (.inr ⟨by rw[h1];decide,hne⟩)
  refine⟨λn hn=>?_,λx hx' h1=>(hx x hx' h1).2⟩
  unfold allI at hn
  rcases List.mem_cons.1 hn with rfl |hn
  ·exact⟨h0.1,idlt e1 (by decide)⟩
  ·rcases List.mem_cons.1 hn with rfl |hn
   ·exact⟨h0.2.1,idlt e2 (by decide)⟩
   ·obtain⟨x,hx',rfl⟩:=List.mem_map.1 hn
    obtain⟨hx1,hx2⟩:=List.mem_filter.1 hx'
    exact⟨h0.2.2 x hx1,(hx x hx1 (by simpa using hx2)).1⟩
theorem _root_.Go.Gk.Blk.rM0{w:World}{b:Nat}{T:TypeId}{cs:List Value}(h:Blk w b T cs){x:Option Nat}(hn:cs[0]? =some (.map x)){φ:Option Nat->Prop}(hφ:φ x):ldM w (blk b) φ:=⟨x,h.cell0 hn,hφ⟩
theorem uU32:Tryz.prog.underlying 22=some (.int .u32):=by kernel_rfl
section
variable {w0 w:World} {r1 r2:Nat} {S:Prs} {R:VWP}
theorem ztf{w0 w:World}{s:Sl}{pl:List PI}(h:IsPl w0 s pl)(hb:Below w0.heap.size w0 w){k:Nat}(hk:k<pl.length){φ:Int->Int->Int->Sl->Prop}(hφ:∀t,IsAg w0 t pl[k].2.2.2->φ pl[k].1 pl[k].2.1 pl[k].2.2.1 t) :
  (0<=(k:Int)/\(k:Int)<(s.l:Int))/\zc s.a λa=>ldI w ((a.add (Int.toNat (k:Int)*4)).add 0) .u16 λx=>ldI w ((a.add (Int.toNat (k:Int)*4)).add 1) .u32 λy=>ldI w ((a.add (Int.toNat (k:Int)*4)).add 2) .u32 λz=>ldS w ((a.add (Int.toNat (k:Int)*4)).add 3) λt=>φ x y z t:=by
 obtain⟨a,ha⟩:=h.base hk
 obtain⟨t,h1,h2⟩:=h.elem a ha k hk
 have hc:∀j,j<4->w.cell? (a.add (k*4+j))=(inV (mkIn pl[k] t))[j]?:=by
  intro j hj
  have hc:=h1 j hj
  have hlt:j<(inV (mkIn pl[k] t)).length:=hj
  rw[List.getElem?_eq_getElem hlt]at hc⊢
  have hb1:=World.block_lt_of_cell? w0 _ hc
  rw[World.cell?_of_block (w:=w0) (hb.block _ hb1)]
  exact hc
 refine⟨⟨by omega,by have:=h.len;omega⟩,zj ha ⟨_,?_,_,?_,_,?_,t,?_,hφ t h2⟩⟩
 ·rw[zy];exact hc 0 (by omega)
 ·rw[zy];exact hc 1 (by omega)
 ·rw[zy];exact hc 2 (by omega)
 ·rw[zy];exact hc 3 (by omega)
end
end Go.Proofs
namespace Go.Proofs
open Go.Gk
set_option linter.unusedVariables false
set_option maxRecDepth 100000
def YE:Ann:=(.q (.seq (some ⟨[0,1],[]⟩) Z13 (.q (.seq (some ⟨[0,6],[]⟩) Z13 (.q (.q (.seq none (.one (.loop ⟨[7],[(8,(.b (.int .i64)))]⟩ Z1f)) Z11)))))))
def Y7(p0:Sl)(p1:Int)(R:VWP)(w:World):Prop:=zl (S:=Unit) (λm1=>ifB (decide (p1<(0:Int))) (False) (m1 () w)) (λs2 w1=>dx52 122 #[.int .u64 (IntKind.u64.wrap (p0.l:Int)),.int .u64 (IntKind.u64.wrap p1)] w1 λx4 x5 w2=>zl (S:=Unit) (λm6=>ifB (decide (x4>(0:Int))) (False) (ifB (decide (x5>(9223372036854775807:Int))) (False) (m6 () w2))) (λs7 w3=>(0<=(IntKind.i64.wrap x5)/\(IntKind.i64.wrap x5)<=(IntKind.i64.wrap x5)/\8*(IntKind.i64.wrap x5)<=281474976710656/\(IntKind.i64.wrap x5)<=9223372036854775807)/\Nw (w3.alloc (.cells (madeCells #[zi 0] ((Int.toNat (IntKind.i64.wrap x5))*1)) 3)) λw4=>zrM Tryz.prog #[43,43] (.slice (some (zB w3)) (Int.toNat (IntKind.i64.wrap x5)) (Int.toNat (IntKind.i64.wrap x5))) (p0.zw) w4 λx8 w5=>zk (S:=Int×Unit) (λs9 w6 n10=>ifB (decide (s9.1<((Int.toNat (IntKind.i64.wrap x5)):Int))) ((0<=s9.1/\s9.1<=((Int.toNat (IntKind.i64.wrap x5)):Int)/\((Int.toNat (IntKind.i64.wrap x5)):Int)<=((Int.toNat (IntKind.i64.wrap x5)):Int))/\(0<=(0:Int)/\0<=s9.1/\s9.1<=((Int.toNat (IntKind.i64.wrap x5)):Int))/\zrM Tryz.prog #[43,43] (.slice (if (Int.toNat (IntKind.i64.wrap x5))=s9.1.toNat then(some (zB w3)) else Option.map (λa=>a.add s9.1.toNat) (some (zB w3))) ((Int.toNat (IntKind.i64.wrap x5))-s9.1.toNat) ((Int.toNat (IntKind.i64.wrap x5))-s9.1.toNat)) (.slice (if (Int.toNat (IntKind.i64.wrap x5))=0 then(some (zB w3)) else Option.map (λa=>a.add 0) (some (zB w3))) (s9.1.toNat-0) ((Int.toNat (IntKind.i64.wrap x5))-0)) w6.drew λx11 w7=>n10 ((IntKind.i64.wrap (s9.1+x11)),()) w7) (R (.slice (some (zB w3)) (Int.toNat (IntKind.i64.wrap x5)) (Int.toNat (IntKind.i64.wrap x5))) w6)) (x8,()) w5))
theorem zcv(p0)(p1)(R)(w)(h:Y7 p0 p1 R w):cC 93 #[.slice p0.a p0.l p0.c,.int .i64 p1] w R:=lwC YE Tryz.func93 h
def zgu:Ann:=(.q (.seq none (.cond Z16 .nil) Z16))
def zgg(p0:Int)(p1:Int)(R:VWP)(w:World):Prop:=dx52 158 #[.int .u64 p0,.int .u64 p1] w λx2 x3 w1=>R (.tuple #[.int .u64 x2,.int .u64 x3]) w1
theorem zhE(p0)(p1)(R)(w)(h:zgg p0 p1 R w):cC 122 #[.int .u64 p0,.int .u64 p1] w R:=lwC zgu Tryz.func122 h
def zep:Ann:=Z1b
def zau(p0:Int)(p1:Int)(R:VWP)(w:World):Prop:=R (.tuple #[.int .u64 (IntKind.u64.wrap ((IntKind.u64.wrap ((IntKind.u64.wrap ((Int.fdiv p0 (2 ^ (min 32 (IntKind.bits .u64))))*(Int.fdiv p1 (2 ^ (min 32 (IntKind.bits .u64))))))+(Int.fdiv (IntKind.u64.wrap ((IntKind.u64.wrap ((Int.fdiv p0 (2 ^ (min 32 (IntKind.bits .u64))))*(IntKind.u64.wrap (BitVec.toNat (BitVec.ofInt (IntKind.bits .u64) p1 &&& BitVec.ofInt (IntKind.bits .u64) 4294967295):Int))))+(Int.fdiv (IntKind.u64.wrap ((IntKind.u64.wrap (BitVec.toNat (BitVec.ofInt (IntKind.bits .u64) p0 &&& BitVec.ofInt (IntKind.bits .u64) 4294967295):Int))*(IntKind.u64.wrap (BitVec.toNat (BitVec.ofInt (IntKind.bits .u64) p1 &&& BitVec.ofInt (IntKind.bits .u64) 4294967295):Int)))) (2 ^ (min 32 (IntKind.bits .u64)))))) (2 ^ (min 32 (IntKind.bits .u64))))))+(Int.fdiv (IntKind.u64.wrap ((IntKind.u64.wrap (BitVec.toNat (BitVec.ofInt (IntKind.bits .u64) (IntKind.u64.wrap ((IntKind.u64.wrap ((Int.fdiv p0 (2 ^ (min 32 (IntKind.bits .u64))))*(IntKind.u64.wrap (BitVec.toNat (BitVec.ofInt (IntKind.bits .u64) p1 &&& BitVec.ofInt (IntKind.bits .u64) 4294967295):Int))))+(Int.fdiv (IntKind.u64.wrap ((IntKind.u64.wrap (BitVec.toNat (BitVec.ofInt (IntKind.bits .u64) p0 &&& BitVec.ofInt (IntKind.bits .u64) 4294967295):Int))*(IntKind.u64.wrap (BitVec.toNat (BitVec.ofInt (IntKind.bits .u64) p1 &&& BitVec.ofInt (IntKind.bits .u64) 4294967295):Int)))) (2 ^ (min 32 (IntKind.bits .u64)))))) &&& BitVec.ofInt (IntKind.bits .u64) 4294967295):Int))+(IntKind.u64.wrap ((IntKind.u64.wrap (BitVec.toNat (BitVec.ofInt (IntKind.bits .u64) p0 &&& BitVec.ofInt (IntKind.bits .u64) 4294967295):Int))*(Int.fdiv p1 (2 ^ (min 32 (IntKind.bits .u64)))))))) (2 ^ (min 32 (IntKind.bits .u64)))))),.int .u64 (IntKind.u64.wrap (p0*p1))]) w
theorem zg9(p0)(p1)(R)(w)(h:zau p0 p1 R w):cC 158 #[.int .u64 p0,.int .u64 p1] w R:=lwC zep Tryz.func158 h
end Go.Proofs
namespace Go.Proofs
open Go.Gk Go.RowKit
theorem zne{n:Nat}(hn:n<=65536):IntKind.u64.wrap (n:Int)=n:=by rw[IntKind.wrap_u64];omega
theorem ziz{n:Nat}(hn:n<=65536):((BitVec.toNat (BitVec.ofInt (IntKind.bits .u64) (n:Int) &&& BitVec.ofInt (IntKind.bits .u64) (4294967295:Int)):Nat):Int)=n:=by
 have h:(BitVec.ofInt 64 (n:Int) &&& BitVec.ofInt 64 (4294967295:Int)).toNat=n:=by
  rw[BitVec.toNat_and,BitVec.toNat_ofInt,BitVec.toNat_ofInt]
  have e1:((n:Int) % ((2 ^ 64:Nat):Int)).toNat=n:=by omega
  have e2:((4294967295:Int) % ((2 ^ 64:Nat):Int)).toNat=2 ^ 32-1:=by decide
  rw[e1,e2,Nat.and_two_pow_sub_one_eq_mod]
  omega
 exact congrArg Int.ofNat h
theorem zqL{n:Nat}(hn:n<=65536){w:World}{R:VWP}(hR:R (.tuple #[.int .u64 0,.int .u64 (n:Int)]) w):cR 158 #[.int .u64 1,.int .u64 (n:Int)] w R:=by
 refine za.of (zg9 1 n R w ?_) λ_ _ h=>h
 unfold zau
 have e0:((2:Int) ^ (min 32 (IntKind.bits .u64)))=4294967296:=by decide
 have e1:Int.fdiv 1 4294967296=0:=by decide
 have e2:Int.fdiv (n:Int) 4294967296=0:=by rw[Int.fdiv_eq_ediv_of_nonneg _ (by decide)];omega
 have m1:((BitVec.toNat (BitVec.ofInt (IntKind.bits .u64) (1:Int) &&& BitVec.ofInt (IntKind.bits .u64) (4294967295:Int)):Nat):Int)=1:=ziz (n:=1) (by decide)
 have m0:((BitVec.toNat (BitVec.ofInt (IntKind.bits .u64) (0:Int) &&& BitVec.ofInt (IntKind.bits .u64) (4294967295:Int)):Nat):Int)=0:=ziz (n:=0) (by decide)
 have u0:IntKind.u64.wrap (0:Int)=0:=by decide
 have u1:IntKind.u64.wrap (1:Int)=1:=by decide
 have f0:Int.fdiv 0 4294967296=0:=by decide
 simp only[e0,e1,e2,ziz hn,m1,zne hn,u0,u1,Int.zero_mul,Int.one_mul,Int.mul_zero,Int.add_zero,f0,m0]
 exact hR
theorem zno{B:Nat}{w w':World}(h:Below B w w'){g:Nat}(hg:B<=g)(cs:Array Value):Below B w (w'.setRow g cs):=
 ⟨h.os,h.tape,h.output,by simpa[World.setRow] using h.size,λk hk=>(setRow_other w' g k cs (by omega)).trans (h.block k hk)⟩
theorem zm2{w:World}{b o:Nat}{cs:List Value}(hD:Blk w b 3 cs){a:Addr}{dl dc sl sc:Nat}{news:List Value}(hn:news.length=Nat.min sl dl)(hsrc:∀j v,news[j]? =some v->w.cell? (a.add j)=some v)
  (hfit:o+news.length<=cs.length) (h1:∀v∈news,v.oneCell'=true) {k:Int->World->Prop}
  (hk:∀w',Blk w' b 3 (cs.take o++news++cs.drop (o+news.length))->(∀B w0,Below B w0 w->B<=b->Below B w0 w')->k (news.length:Int) w') :
  zrM Tryz.prog #[43,43] (.slice (some ⟨b,o,none⟩) dl dc) (.slice (some a) sl sc) w k:=by
 have hun:(Tryz.prog).underlying 43=some (.slice 3):=by kernel_rfl
 have hsz:((Tryz.prog).info? 3).map (·.size)=some 1:=by kernel_rfl
 have hc:=run_copy_row (P:=Tryz.prog) w 43 43 0 3 b o dl dc a sl sc cs.toArray 3 news hun hsz hD hn hsrc (by simpa using hfit) h1
 refine⟨_,_,hc,hk _ ?_ λB w0 hb hB=>zno hb hB _⟩
 exact setRow_heap w b _ _ _ _ hD
set_option maxHeartbeats 1000000 in
theorem znY{n:Nat}(hn:n<=65536)(hn1:1<=n){v:Int}{xb:Nat}{w:World}{R:VWP}(hx:Blk w xb 3 [.int .i64 v])
  (hR:∀b w',Blk w' b 3 (List.replicate n (.int .i64 v))->w.heap.size<=b->Below w.heap.size w w'->R (.slice (some (blk b)) n n) w') :
  cR 93 #[.slice (some (blk xb)) 1 1,.int .i64 (n:Int)] w R:=by
 refine za.of (zcv ⟨some (blk xb),1,1⟩ n R w ?_) λ_ _ h=>h
 refine zl.cut (λ_ w'=>w'=w) (zf (λh=>by omega) λ_=>rfl) ?_
 rintro _ _ rfl
 rename_i w
 have e1:IntKind.u64.wrap (((1:Nat):Nat):Int)=1:=by decide
 dsimp only
 rw[e1,zne hn]
 refine za.of (zhE 1 n _ w ?_) λ_ _ h=>h
 refine zqL hn ⟨0,n,rfl,0,n,rfl,?_⟩
 refine zl.cut (λ_ w'=>w'=w) (zf (λh=>absurd h (by decide)) λ_=>zf (λh=>absurd h (by omega)) λ_=>rfl) ?_
 rintro _ _ rfl
 rename_i w
 have e2:IntKind.i64.wrap (n:Int)=n:=zq (by omega) (by omega)
 rw[e2]
 refine⟨⟨by omega,by omega,by omega,by omega⟩,Nw.gen λw4 hw4=>?_⟩
 obtain⟨z,hz⟩:∃z,z=Value.int .i64 0:=⟨_,rfl⟩
 obtain⟨u,hu⟩:∃u,u=Value.int .i64 v:=⟨_,rfl⟩
 have hu1:u.oneCell'=true:=by rw[hu];rfl
 dsimp only[zB,Go.Gk.Sl.zw,zi,zu,zb,zh]at hw4;rw[<-hz]at hw4
 rw[<-hu]at hx hR
 have hD4:Blk w4 w.heap.size 3 (List.replicate n z):=by rw[hw4];exact Blk.made w 3 z n
 have b4:Below w.heap.size w w4:=by rw[hw4];exact(Below.refl _ _).alloc (Nat.le_refl _) _
 have hx4:=hx.below b4
 have tn:Int.toNat ((n:Nat):Int)=n:=rfl
 rw[tn]
 refine zm2 hD4 (o:=0) (news:=[u]) (by simp[Nat.min_def];omega) (λj x hj=>by
   cases j with
   |zero=>simp at hj;subst hj;exact hx4.cell rfl
   |succ j=>simp at hj) (by simp;omega) (by simpa using hu1) λw5 hD5 hb5=>?_
 have hb5:=hb5 _ _ b4 (Nat.le_refl _)
 have hD5':Blk w5 w.heap.size 3 (List.replicate 1 u++List.replicate (n-1) z):=by
  simpa using hD5
 clear hD5 hD4 hx4 hw4
 refine zk.ghost (λj st w'=>∃m:Nat,1<=m/\m<=n/\j=n-m/\st=((m:Int),())/\Below w.heap.size w w'/\Blk w' w.heap.size 3 (List.replicate m u++List.replicate (n-m) z)) (n-1)
  ⟨1,Nat.le_refl _,hn1,rfl,rfl,hb5,hD5'⟩ ?_
 rintro _ _ w6 ⟨m,hm1,hmn,rfl,rfl,hb,hD⟩ next hnext
 refine zf (λhlt=>?_) (λhge=>?_)
 ·have hlt:m<n:=by dsimp only at hlt;omega
  have tm:Int.toNat ((m:Nat):Int)=m:=rfl
  refine⟨⟨by first |omega | (dsimp only;omega),by first |omega | (dsimp only;omega),by omega⟩,⟨by omega,by first |omega | (dsimp only;omega),by first |omega | (dsimp only;omega)⟩,?_⟩
  dsimp only
  rw[tm,if_neg (by omega:¬n=m),if_neg (by omega:¬n=0)]
  simp only[Option.map_some,Nat.sub_zero]
  have ea:(blk w.heap.size).add m=⟨w.heap.size,m,none⟩:=by rw[zhm]
  have e0:(blk w.heap.size).add 0=blk w.heap.size:=by rw[zhm]
  rw[ea,e0]
  obtain⟨q,hq⟩:∃q,q=Nat.min m (n-m):=⟨_,rfl⟩
  have hq1:1<=q/\q<=n-m/\q<=m:=by rw[hq];simp only[Nat.min_def];split<;>omega
  have hD':=hD.drew
  refine zm2 hD' (o:=m) (news:=List.replicate q u) (by rw[List.length_replicate,hq]) (λj x hj=>by
    have hj':j<q:=by have:=(List.getElem?_eq_some_iff.1 hj).1;simpa using this
    rw[List.getElem?_replicate,if_pos hj']at hj
    cases hj
    refine hD'.cell ?_
    rw[List.getElem?_append_left (by simp;omega),List.getElem?_replicate,if_pos (by omega)]) (by simp;omega) (λx hx=>by
    rw[List.eq_of_mem_replicate hx];exact hu1) λw7 hD7 hb7=>?_
  rw[List.length_replicate]at hD7⊢
  rw[show IntKind.i64.wrap ((m:Int)+(q:Int))=((m+q:Nat):Int) by rw[zq (by omega) (by omega)];omega]
  refine hnext (n-(m+q)) _ _ (by omega) ⟨m+q,by omega,by omega,rfl,rfl,hb7 _ _ hb.drew (Nat.le_refl _),?_⟩
  have:(List.replicate m u++List.replicate (n-m) z).take m++List.replicate q u++(List.replicate m u++List.replicate (n-m) z).drop (m+q)=List.replicate (m+q) u++List.replicate (n-(m+q)) z:=by
   rw[List.take_left' (by simp),List.drop_append,List.drop_replicate,List.drop_replicate,List.length_replicate,List.replicate_append_replicate]
   simp
   omega
  rw[<-this]
  exact hD7
 ·have:m=n:=by dsimp only at hge;omega
  subst this
  refine hR w.heap.size w6 ?_ (Nat.le_refl _) hb
  simpa using hD
end Go.Proofs
namespace Go.Proofs
open Go.Gk Go.RowKit Go.Gm
def KeyN(L:List (Int×Int)):Prop:=(L.map (·.1)).Nodup
theorem zo3(k v:Int):∀L:List (Int×Int),(setL L k v).map (·.1)=L.map (·.1)\/((setL L k v).map (·.1)=L.map (·.1)++[k]/\k ∉ L.map (·.1))
 | []=>.inr ⟨rfl,by simp⟩
 |p::r=>by
  simp only[setL]
  split
  ·rename_i e
   left
   simp[e]
  ·rename_i e
   rcases zo3 k v r with h | ⟨h1,h2⟩
   ·left
    simp[h]
   ·right
    refine⟨by simp[h1],?_⟩
    rw[List.map_cons,List.mem_cons,not_or]
    exact⟨e,h2⟩
theorem KeyN.set{L:List (Int×Int)}(h:KeyN L)(k v:Int):KeyN (setL L k v):=by
 unfold KeyN at h⊢
 rcases zo3 k v L with e | ⟨e,hk⟩
 ·rw[e];exact h
 ·rw[e]
  refine List.nodup_append.2 ⟨h,by simp,?_⟩
  intro a ha b hb e'
  rw[List.mem_singleton]at hb
  rw[e',hb]at ha
  exact hk ha
def mk1(pl:List PI)(id:Int)(k:Nat):Bool:=(pl.getD k pi0).2.2.1==id&&id !=0
def zK(pl:List PI)(id:Int)(n:Nat):Int:=match (List.range n).find? (mk1 pl id) with
 |some k=>(k:Int)
 |none=>-1
def MkOk(L:List (Int×Int))(pl:List PI)(k:Nat):Prop:=∀id,(zI L id=none->∀j,k<=j->j<pl.length->mk1 pl id j=false)/\
 ∀v,zI L id=some v->∃j:Nat,v=(j:Int)/\k<=j/\j<pl.length/\mk1 pl id j=true/\∀i,k<=i->i<j->mk1 pl id i=false
theorem MkOk.end(pl:List PI):MkOk [] pl pl.length:=λ_=>⟨λ_ j h1 h2=>by omega,λv h=>by cases h⟩
theorem MkOk.step{L:List (Int×Int)}{pl:List PI}{k:Nat}(h:MkOk L pl (k+1))(hk:k<pl.length):MkOk (if pl[k].2.2.1≠0 then setL L pl[k].2.2.1 k else L) pl k:=by
 have hm:∀id,mk1 pl id k=(pl[k].2.2.1==id&&id !=0):=λid=>by unfold mk1;rw[zs hk]
 intro id
 obtain⟨h1,h2⟩:=h id
 by_cases e0:pl[k].2.2.1=0
 ·rw[if_neg (λh=>h e0)]
  have hf:mk1 pl id k=false:=by
   rw[hm,e0]
   by_cases e:id=0
   ·rw[e];rfl
   ·rw[beq_eq_false_iff_ne.2 (λh=>e h.symm),Bool.false_and]
  refine⟨λhn j g1 g2=>?_,λv hv=>?_⟩
  ·by_cases e:j=k
   ·subst e;exact hf
   ·exact h1 hn j (by omega) g2
  ·obtain⟨j,q1,q2,q3,q4,q5⟩:=h2 v hv
   refine⟨j,q1,by omega,q3,q4,λi g1 g2=>?_⟩
   by_cases e:i=k
   ·subst e;exact hf
   ·exact q5 i (by omega) g2
 ·rw[if_pos e0,zfp]
  by_cases e:id=pl[k].2.2.1
  ·rw[if_pos e]
   refine⟨λhn=>by(cases hn),λv hv=>⟨k,(Option.some.inj hv).symm,Nat.le_refl _,hk,?_,λi g1 g2=>by omega⟩⟩
   rw[hm,e]
   simp[e0]
  ·rw[if_neg e]
   have hf:mk1 pl id k=false:=by rw[hm,beq_eq_false_iff_ne.2 (λh=>e h.symm),Bool.false_and]
   refine⟨λhn j g1 g2=>?_,λv hv=>?_⟩
   ·by_cases e:j=k
    ·subst e;exact hf
    ·exact h1 hn j (by omega) g2
   ·obtain⟨j,q1,q2,q3,q4,q5⟩:=h2 v hv
    refine⟨j,q1,by omega,q3,q4,λi g1 g2=>?_⟩
    by_cases e:i=k
    ·subst e;exact hf
    ·exact q5 i (by omega) g2
theorem zj7:Tryz.prog.underlying 88=some (.map 22 3):=by kernel_rfl
theorem zlb{y:Value}{s:Sl}{pl:List PI}{pb:Nat}{w:World}(Inv:Nat->World->Prop)(S:World->Prop)(h0:Inv pl.length w)
  (hkeep:∀k w',Inv k w'->w'.cell? (blk pb)=some (.slice s.a s.l s.c)/\IsPl w' s pl)
  (hround:∀k (hk:k<pl.length) t w',Inv (k+1) w'->ZH Tryz.prog Tryz.fs y [.int .i64 (k:Int),inA (mkIn pl[k] t)] w' λv w''=>(v =.bool true/\Inv k w'')\/(v =.bool false/\S w''))
  (hend:∀w',Inv 0 w'->S w'):Calls Tryz.prog 141 #[y,.pointer (some (blk pb))] w (Ret λ_ w'=>S w'):=by
 refine Zl y (blk pb) _ w ⟨s,(hkeep _ _ h0).1,?_⟩
 have hlen:=(hkeep _ _ h0).2.len
 have hmax:=(hkeep _ _ h0).2.bound
 dsimp only
 rw[hlen,zq (by omega) (by omega)]
 refine zk.ghost (λj st w'=>j<=pl.length/\st=((j:Int)-1,())/\Inv j w') pl.length ⟨Nat.le_refl _,rfl,h0⟩ ?_
 rintro k _ w1 ⟨hk,rfl,hI⟩ next hnext
 refine zf (λh=>?_) (λh=>?_)
 ·obtain⟨j,rfl⟩:∃j,k=j+1:=⟨k-1,by dsimp only at h;omega⟩
  have hlt:j<pl.length:=by omega
  obtain⟨c1,c2⟩:=hkeep _ _ hI
  have ej:(((j+1:Nat):Int)-1)=(j:Int):=by omega
  dsimp only
  rw[ej]
  refine⟨s,c1,yu c2 hlt λt _=>?_⟩
  refine ZH.mono (hround j hlt t w1 hI) λv w2 hv=>?_
  rcases hv with⟨rfl,hv⟩ | ⟨rfl,hv⟩
  ·refine⟨true,rfl,zE rfl ?_⟩
   rw[zq (by omega) (by omega)]
   exact hnext j _ _ (by omega) ⟨by omega,rfl,hv⟩
  ·exact⟨false,rfl,zD rfl hv⟩
 ·have hk0:k=0:=by dsimp only at h;omega
  subst hk0
  exact hend w1 hI
theorem zoD{s:Sl}{pl:List PI}{w:World}{R:VWP}(hN:IsPl w s pl)
  (hR:∀w' L,IsMp w' w.heap.size .i64 L->MkOk L pl 0->KeyN L->Below w.heap.size w w'->R (.map (some w.heap.size)) w'):cR 68 #[.slice s.a s.l s.c] w R:=by
 refine za.of (zjV s R w ?_) λ_ _ h=>h
 refine Nw.gen λw1 e1=>?_
 have m1:IsMp w1 w.heap.size .i64 []:=by rw[e1];exact IsMp.new _ _
 have b1:Below w.heap.size w w1:=by rw[e1];exact(Below.refl _ _).alloc (Nat.le_refl _) _
 have z1:w1.heap.size=w.heap.size+1:=by rw[e1];simp
 clear e1
 refine Nw.gen λw2 e2=>?_
 have hB2:Blk w2 w1.heap.size 88 [.map none]:=by rw[e2];exact Blk.new _ _ _
 have b2:Below w1.heap.size w1 w2:=by rw[e2];exact(Below.refl _ _).alloc (Nat.le_refl _) _
 have z2:w2.heap.size=w.heap.size+2:=by rw[e2];simp[z1]
 clear e2
 refine⟨hB2.wr0 (by simp),Nw.gen λw3 e3=>?_⟩
 have c3:Chg w1.heap.size w2 w3:=by rw[e3];exact Chg.set w1.heap.size 0 w2 _
 have hB3:Blk w3 w1.heap.size 88 [.map (some w.heap.size)]:=by rw[e3];exact hB2.set0 _
 clear e3
 have m3:=(m1.below b2).of_block (c3.block _ (by omega))
 have hb3:Below w.heap.size w w3:=c3.below (b1.on b2) (by omega)
 have z3:=c3.size
 refine za.of (ZD s _ w3 ?_) λ_ _ h=>h
 refine zn λw4 hC4 b4 z4=>⟨_,rfl,?_⟩
 have hC4:Blk w4 w3.heap.size 23 [.slice s.a s.l s.c]:=hC4
 intro mk hy
 have hcf:Tryz.fs.contains 141=true:=by kernel_rfl
 unfold zm0
 simp only[hcf]
 generalize hw5:((w4.alloc (.deferred (some []))).alloc (mk .ready none))=w5
 have b5:Below w4.heap.size w4 w5:=by rw[<-hw5];exact zd4 w4 _ _
 have hd5:w5.heap[w4.heap.size]? =some (.deferred (some [])):=by rw[<-hw5];exact zn2 w4 _ _
 have hl5:w5.heap[w4.heap.size+1]? =some (mk .ready none):=by rw[<-hw5];exact zn3 w4 _ _
 clear hw5
 have b35:=b4.on b5
 refine zlb (y:=.func (.yield (w4.heap.size+1)) #[] #[]) (s:=s) (pl:=pl)
  (λk w'=>w'.heap[w4.heap.size+1]? =some (mk .ready none)/\w'.heap[w4.heap.size]? =some (.deferred (some []))/\Blk w' w1.heap.size 88 [.map (some w.heap.size)]/\Blk w' w3.heap.size 23 [.slice s.a s.l s.c]/\Below w.heap.size w w'/\
   ∃L,IsMp w' w.heap.size .i64 L/\MkOk L pl k/\KeyN L) _
  ⟨hl5,hd5,hB3.below b35,hC4.below b5,hb3.on b35,[],m3.below b35,MkOk.end pl,by simp[KeyN]⟩ ?_ ?_ ?_
 ·rintro k w' ⟨h1,h2,h3,h4,h5,_⟩
  exact⟨h4.cell0 rfl,hN.below h5⟩
 ·rintro k hk t w' ⟨h1,h2,h3,h4,h5,L,h6,h7,h8⟩
  have hlt':w4.heap.size+1<w'.heap.size:=(Array.getElem?_eq_some_iff.1 h1).1
  refine hy ((k:Int),mkIn pl[k] t,()) w' _ h1 ?_
  refine box4 rfl λw6 hI6 b6 z6=>?_
  have hI6:Blk w6 w'.heap.size 50 (inV (mkIn pl[k] t)):=hI6
  have hl6:w6.heap[w4.heap.size+1]? =some (mk .ready none):=(b6.block _ hlt').trans h1
  refine⟨hl6,Nw.gen λw7 e7=>?_⟩
  have s6:=b6.size
  have hlt6:w4.heap.size+1<w6.heap.size:=by omega
  have ho7:∀b,b≠w4.heap.size+1->w7.heap[b]? =w6.heap[b]?:=λb hb=>by rw[e7];exact World.putObj_heap_other hb
  have z7:w7.heap.size=w6.heap.size:=by rw[e7];simp
  have hl7:w7.heap[w4.heap.size+1]? =some (mk .busy none):=by rw[e7];exact zd6 hlt6 _
  have hb7:Below w.heap.size w w7:=by rw[e7];exact(h5.on b6).putObj (by omega) _
  clear e7
  have d7:w7.heap[w4.heap.size]? =some (.deferred (some [])):=by rw[ho7 _ (by omega),b6.block _ (by omega)];exact h2
  have k3:=(h3.below b6).of_block (ho7 _ (by have:=b4.size;omega))
  have k4:=(h4.below b6).of_block (ho7 _ (by omega))
  have k6:=(h6.below b6).of_block (ho7 _ (by omega))
  have kI:=hI6.of_block (ho7 _ (by omega))
  have hst:=h7.step hk
  have hput:∀{w8:World},w8.heap[w4.heap.size+1]? =some (mk .busy none)->w4.heap.size+1<w8.heap.size:=λh=>(Array.getElem?_eq_some_iff.1 h).1
  refine kI.rI (n:=2) rfl (zt (λe=>?_) (λe=>?_))
  ·have e':pl[k].2.2.1≠0:=e
   rw[if_pos e']at hst
   refine k3.rM0 rfl (kI.rI (n:=2) rfl ?_)
   refine zqI zj7 uU32 k6 λw8 m8 c8=>?_
   have hl8:w8.heap[w4.heap.size+1]? =some (mk .busy none):=by rw[c8.block _ (by omega)];exact hl7
   refine⟨hl8,.inl ⟨rfl,zd6 (hput hl8) _,?_,?_,?_,?_,_,?_,hst,h8.set _ _⟩⟩
   ·rw[World.putObj_heap_other (by omega),c8.block _ (by omega)];exact d7
   ·exact(c8.blk k3 (by omega)).put (by omega) _
   ·exact(c8.blk k4 (by omega)).put (by omega) _
   ·exact(c8.below hb7 (Nat.le_refl _)).putObj (by omega) _
   ·exact m8.of_block (World.putObj_heap_other (by omega))
  ·have e':¬pl[k].2.2.1≠0:=λh=>h e
   rw[if_neg e']at hst
   refine⟨hl7,.inl ⟨rfl,zd6 (by omega) _,?_,?_,?_,?_,L,?_,hst,h8⟩⟩
   ·rw[World.putObj_heap_other (by omega)];exact d7
   ·exact k3.put (by omega) _
   ·exact k4.put (by omega) _
   ·exact hb7.putObj (by omega) _
   ·exact k6.of_block (World.putObj_heap_other (by omega))
 ·rintro w' ⟨h1,h2,h3,h4,h5,L,h6,h7,h8⟩
  refine⟨h1,?_⟩
  have k3:=h3.put (l:=w4.heap.size+1) (by omega) (mk .exhausted none)
  refine k3.rM0 rfl (zdy (by rw[World.putObj_heap_other (by omega)];exact h2) ?_)
  refine hR _ L ?_ h7 h8 ?_
  ·exact(h6.of_block (World.putObj_heap_other (by omega))).of_block (World.putObj_heap_other (by omega))
  ·exact(h5.putObj (by omega) _).putObj (by omega) _
theorem zj6(w:World)(r:Nat)(o:Obj):Chg r w (ChangeMaps.setBlock w r o):=
 ⟨rfl,rfl,rfl,by simp[ChangeMaps.setBlock],λk hk=>by simp[ChangeMaps.setBlock,Array.getElem?_setIfInBounds_ne (Ne.symm hk)]⟩
theorem zqu{n:Int}(h:0<=n)(h2:n<=4294967295):IntKind.u32.wrap n=n:=by
 rw[IntKind.wrap_u32]
 exact Int.emod_eq_of_lt h (Int.lt_of_le_of_lt h2 (by decide))
section
variable {x:Mo} {pl:List PI} {w:World} {R:VWP}
theorem zml(hp:PlOk pl)(h0:0<=x.2.1)(hs:(zG x.2.1 pl).1=0):∀p∈pl,0<=p.2.2.1/\p.2.2.1<x.2.1:=by
 obtain⟨nb,hf⟩:=Ye hs
 intro p hpm
 obtain⟨i,hi,rfl⟩:=List.mem_iff_getElem.1 hpm
 have:=(zm5 (hf i hi) (by omega) (by have:=hp.nums _ (List.getElem_mem hi);exact⟨this.1.1,this.2.1.1,λa ha=>(this.2.2 a ha).1⟩)).1 pl[i].2.2.1 (by unfold allI;simp)
 exact this
theorem zoW{s:Sl}{id n:Int}(hN:IsPl w s pl)(hn:n=(pl.length:Int))(hR:R (.int .i64 (zK pl id pl.length)) w):cR 90 #[.slice s.a s.l s.c,.int .u32 id,.int .i64 n] w R:=by
 subst hn
 refine za.of (Yw s id pl.length R w ?_) λ_ _ h=>h
 have hlen:=hN.len
 refine zk.count pl.length hN.bound (λk w'=>w'=w/\∀j,j<k->mk1 pl id j=false) ⟨rfl,λj hj=>by omega⟩ ?_
 rintro k w1 hk ⟨hw,hj⟩ next hnext
 subst hw
 refine zf (λh=>?_) (λh=>?_)
 ·have hlt:k<pl.length:=by dsimp only at h;omega
  have hm:mk1 pl id k=(pl[k].2.2.1==id&&id !=0):=by unfold mk1;rw[zs hlt]
  refine zl.cut (λ_ w'=>w'=w1/\mk1 pl id k=false) ?_ ?_
  ·refine zl3 hN hlt (zm (λe1=>?_) (λe1=>⟨rfl,by rw[hm,beq_eq_false_iff_ne.2 e1,Bool.false_and]⟩))
   refine zt (λe2=>?_) (λe2=>⟨rfl,by rw[hm,e2];simp⟩)
   have:zK pl id pl.length=(k:Int):=by
    unfold zK
    rw[YO hlt (by rw[hm,beq_iff_eq.2 e1,bne_iff_ne.2 e2];rfl) hj]
   rwa[this]at hR
  ·rintro _ w2 ⟨hw,hno⟩
   refine hnext w2 hlt ⟨hw,λj hj'=>?_⟩
   by_cases e:j=k
   ·subst e;exact hno
   ·exact hj j (by omega)
 ·have hk':k=pl.length:=by dsimp only at h;omega
  have:zK pl id pl.length=-1:=by
   unfold zK
   have:(List.range pl.length).find? (mk1 pl id)=none:=by
    rw[List.find?_eq_none]
    intro j hj'
    rw[hj j (by rw[hk'];exact List.mem_range.1 hj')]
    simp
   rw[this]
  rwa[this]at hR
end
abbrev T20:=Int×Int×Int×Int×Int×Int×Int×Int×Int×Int×Int×Int×Int×Int×Int×Int×Int×Int×Int×Int×Unit
abbrev l20(x:T20):List Int:=[x.1,x.2.1,x.2.2.1,x.2.2.2.1,x.2.2.2.2.1,x.2.2.2.2.2.1,x.2.2.2.2.2.2.1,x.2.2.2.2.2.2.2.1,x.2.2.2.2.2.2.2.2.1,x.2.2.2.2.2.2.2.2.2.1,x.2.2.2.2.2.2.2.2.2.2.1,x.2.2.2.2.2.2.2.2.2.2.2.1,x.2.2.2.2.2.2.2.2.2.2.2.2.1,x.2.2.2.2.2.2.2.2.2.2.2.2.2.1,x.2.2.2.2.2.2.2.2.2.2.2.2.2.2.1,x.2.2.2.2.2.2.2.2.2.2.2.2.2.2.2.1,x.2.2.2.2.2.2.2.2.2.2.2.2.2.2.2.2.1,x.2.2.2.2.2.2.2.2.2.2.2.2.2.2.2.2.2.1,x.2.2.2.2.2.2.2.2.2.2.2.2.2.2.2.2.2.2.1,x.2.2.2.2.2.2.2.2.2.2.2.2.2.2.2.2.2.2.2.1]
abbrev sp20(x:T20):List Value:=[.int .i64 x.1,.int .i64 x.2.1,.int .i64 x.2.2.1,.int .i64 x.2.2.2.1,.int .i64 x.2.2.2.2.1,.int .i64 x.2.2.2.2.2.1,.int .i64 x.2.2.2.2.2.2.1,.int .i64 x.2.2.2.2.2.2.2.1,.int .i64 x.2.2.2.2.2.2.2.2.1,.int .i64 x.2.2.2.2.2.2.2.2.2.1,.int .i64 x.2.2.2.2.2.2.2.2.2.2.1,.int .i64 x.2.2.2.2.2.2.2.2.2.2.2.1,.int .i64 x.2.2.2.2.2.2.2.2.2.2.2.2.1,.int .i64 x.2.2.2.2.2.2.2.2.2.2.2.2.2.1,.int .i64 x.2.2.2.2.2.2.2.2.2.2.2.2.2.2.1,.int .i64 x.2.2.2.2.2.2.2.2.2.2.2.2.2.2.2.1,.int .i64 x.2.2.2.2.2.2.2.2.2.2.2.2.2.2.2.2.1,.int .i64 x.2.2.2.2.2.2.2.2.2.2.2.2.2.2.2.2.2.1,.int .i64 x.2.2.2.2.2.2.2.2.2.2.2.2.2.2.2.2.2.2.1,.int .i64 x.2.2.2.2.2.2.2.2.2.2.2.2.2.2.2.2.2.2.2.1]
abbrev ag20(x:T20):Value:=.agg #[.int .i64 x.1,.int .i64 x.2.1,.int .i64 x.2.2.1,.int .i64 x.2.2.2.1,.int .i64 x.2.2.2.2.1,.int .i64 x.2.2.2.2.2.1,.int .i64 x.2.2.2.2.2.2.1,.int .i64 x.2.2.2.2.2.2.2.1,.int .i64 x.2.2.2.2.2.2.2.2.1,.int .i64 x.2.2.2.2.2.2.2.2.2.1,.int .i64 x.2.2.2.2.2.2.2.2.2.2.1,.int .i64 x.2.2.2.2.2.2.2.2.2.2.2.1,.int .i64 x.2.2.2.2.2.2.2.2.2.2.2.2.1,.int .i64 x.2.2.2.2.2.2.2.2.2.2.2.2.2.1,.int .i64 x.2.2.2.2.2.2.2.2.2.2.2.2.2.2.1,.int .i64 x.2.2.2.2.2.2.2.2.2.2.2.2.2.2.2.1,.int .i64 x.2.2.2.2.2.2.2.2.2.2.2.2.2.2.2.2.1,.int .i64 x.2.2.2.2.2.2.2.2.2.2.2.2.2.2.2.2.2.1,.int .i64 x.2.2.2.2.2.2.2.2.2.2.2.2.2.2.2.2.2.2.1,.int .i64 x.2.2.2.2.2.2.2.2.2.2.2.2.2.2.2.2.2.2.2.1]
theorem ztT{ps:List Int}(h:ps.length=20):∃x:T20,ps=l20 x:=by
 match ps,h with
 | [a0,a1,a2,a3,a4,a5,a6,a7,a8,a9,a10,a11,a12,a13,a14,a15,a16,a17,a18,a19],_=>exact⟨(a0,a1,a2,a3,a4,a5,a6,a7,a8,a9,a10,a11,a12,a13,a14,a15,a16,a17,a18,a19,()),rfl⟩
theorem _root_.Go.Gk.Blk.rI2{w:World}{b:Nat}{T:TypeId}{cs:List Value}(h:Blk w b T cs){m n:Nat}{κ:IntKind}{x:Int}(hn:cs[m+n]? =some (.int κ x)){φ:Int->Prop}(hφ:φ x):ldI w (((Gk.blk b).add m).add n) κ φ:=by
 rw[zy];exact h.rI hn hφ
theorem ld20{w:World}{b:Nat}{T:TypeId}{x:T20}(h:Blk w b T (sp20 x)){φ:Int->Int->Int->Int->Int->Int->Int->Int->Int->Int->Int->Int->Int->Int->Int->Int->Int->Int->Int->Int->Prop}(hφ:φ x.1 x.2.1 x.2.2.1 x.2.2.2.1 x.2.2.2.2.1 x.2.2.2.2.2.1 x.2.2.2.2.2.2.1 x.2.2.2.2.2.2.2.1 x.2.2.2.2.2.2.2.2.1 x.2.2.2.2.2.2.2.2.2.1 x.2.2.2.2.2.2.2.2.2.2.1 x.2.2.2.2.2.2.2.2.2.2.2.1 x.2.2.2.2.2.2.2.2.2.2.2.2.1 x.2.2.2.2.2.2.2.2.2.2.2.2.2.1 x.2.2.2.2.2.2.2.2.2.2.2.2.2.2.1 x.2.2.2.2.2.2.2.2.2.2.2.2.2.2.2.1 x.2.2.2.2.2.2.2.2.2.2.2.2.2.2.2.2.1 x.2.2.2.2.2.2.2.2.2.2.2.2.2.2.2.2.2.1 x.2.2.2.2.2.2.2.2.2.2.2.2.2.2.2.2.2.2.1 x.2.2.2.2.2.2.2.2.2.2.2.2.2.2.2.2.2.2.2.1) :
   ldI w ((blk b).add 0) .i64 λx0=>
   ldI w ((blk b).add 1) .i64 λx1=>
   ldI w ((blk b).add 2) .i64 λx2=>
   ldI w ((blk b).add 3) .i64 λx3=>
   ldI w ((blk b).add 4) .i64 λx4=>
   ldI w ((blk b).add 5) .i64 λx5=>
   ldI w ((blk b).add 6) .i64 λx6=>
   ldI w ((blk b).add 7) .i64 λx7=>
   ldI w ((blk b).add 8) .i64 λx8=>
   ldI w ((blk b).add 9) .i64 λx9=>
   ldI w ((blk b).add 10) .i64 λx10=>
   ldI w ((blk b).add 11) .i64 λx11=>
   ldI w ((blk b).add 12) .i64 λx12=>
   ldI w ((blk b).add 13) .i64 λx13=>
   ldI w ((blk b).add 14) .i64 λx14=>
   ldI w ((blk b).add 15) .i64 λx15=>
   ldI w ((blk b).add 16) .i64 λx16=>
   ldI w ((blk b).add 17) .i64 λx17=>
   ldI w ((blk b).add 18) .i64 λx18=>
   ldI w ((blk b).add 19) .i64 λx19=>
   φ x0 x1 x2 x3 x4 x5 x6 x7 x8 x9 x10 x11 x12 x13 x14 x15 x16 x17 x18 x19:=
 h.rI (n:=0) rfl (h.rI (n:=1) rfl (h.rI (n:=2) rfl (h.rI (n:=3) rfl (h.rI (n:=4) rfl (h.rI (n:=5) rfl (h.rI (n:=6) rfl (h.rI (n:=7) rfl (h.rI (n:=8) rfl (h.rI (n:=9) rfl (h.rI (n:=10) rfl (h.rI (n:=11) rfl (h.rI (n:=12) rfl (h.rI (n:=13) rfl (h.rI (n:=14) rfl (h.rI (n:=15) rfl (h.rI (n:=16) rfl (h.rI (n:=17) rfl (h.rI (n:=18) rfl (h.rI (n:=19) rfl (hφ))))))))))))))))))))
theorem zui{w:World}{b:Nat}{T:TypeId}{v0 v1:Value}{r:List Value}{x:T20}(h:Blk w b T (v0::v1::(sp20 x++r))){φ:Int->Int->Int->Int->Int->Int->Int->Int->Int->Int->Int->Int->Int->Int->Int->Int->Int->Int->Int->Int->Prop}(hφ:φ x.1 x.2.1 x.2.2.1 x.2.2.2.1 x.2.2.2.2.1 x.2.2.2.2.2.1 x.2.2.2.2.2.2.1 x.2.2.2.2.2.2.2.1 x.2.2.2.2.2.2.2.2.1 x.2.2.2.2.2.2.2.2.2.1 x.2.2.2.2.2.2.2.2.2.2.1 x.2.2.2.2.2.2.2.2.2.2.2.1 x.2.2.2.2.2.2.2.2.2.2.2.2.1 x.2.2.2.2.2.2.2.2.2.2.2.2.2.1 x.2.2.2.2.2.2.2.2.2.2.2.2.2.2.1 x.2.2.2.2.2.2.2.2.2.2.2.2.2.2.2.1 x.2.2.2.2.2.2.2.2.2.2.2.2.2.2.2.2.1 x.2.2.2.2.2.2.2.2.2.2.2.2.2.2.2.2.2.1 x.2.2.2.2.2.2.2.2.2.2.2.2.2.2.2.2.2.2.1 x.2.2.2.2.2.2.2.2.2.2.2.2.2.2.2.2.2.2.2.1) :
   ldI w (((blk b).add 2).add 0) .i64 λx0=>
   ldI w (((blk b).add 2).add 1) .i64 λx1=>
   ldI w (((blk b).add 2).add 2) .i64 λx2=>
   ldI w (((blk b).add 2).add 3) .i64 λx3=>
   ldI w (((blk b).add 2).add 4) .i64 λx4=>
   ldI w (((blk b).add 2).add 5) .i64 λx5=>
   ldI w (((blk b).add 2).add 6) .i64 λx6=>
   ldI w (((blk b).add 2).add 7) .i64 λx7=>
   ldI w (((blk b).add 2).add 8) .i64 λx8=>
   ldI w (((blk b).add 2).add 9) .i64 λx9=>
   ldI w (((blk b).add 2).add 10) .i64 λx10=>
   ldI w (((blk b).add 2).add 11) .i64 λx11=>
   ldI w (((blk b).add 2).add 12) .i64 λx12=>
   ldI w (((blk b).add 2).add 13) .i64 λx13=>
   ldI w (((blk b).add 2).add 14) .i64 λx14=>
   ldI w (((blk b).add 2).add 15) .i64 λx15=>
   ldI w (((blk b).add 2).add 16) .i64 λx16=>
   ldI w (((blk b).add 2).add 17) .i64 λx17=>
   ldI w (((blk b).add 2).add 18) .i64 λx18=>
   ldI w (((blk b).add 2).add 19) .i64 λx19=>
   φ x0 x1 x2 x3 x4 x5 x6 x7 x8 x9 x10 x11 x12 x13 x14 x15 x16 x17 x18 x19:=
 h.rI2 (m:=2) (n:=0) rfl (h.rI2 (m:=2) (n:=1) rfl (h.rI2 (m:=2) (n:=2) rfl (h.rI2 (m:=2) (n:=3) rfl (h.rI2 (m:=2) (n:=4) rfl (h.rI2 (m:=2) (n:=5) rfl (h.rI2 (m:=2) (n:=6) rfl (h.rI2 (m:=2) (n:=7) rfl (h.rI2 (m:=2) (n:=8) rfl (h.rI2 (m:=2) (n:=9) rfl (h.rI2 (m:=2) (n:=10) rfl (h.rI2 (m:=2) (n:=11) rfl (h.rI2 (m:=2) (n:=12) rfl (h.rI2 (m:=2) (n:=13) rfl (h.rI2 (m:=2) (n:=14) rfl (h.rI2 (m:=2) (n:=15) rfl (h.rI2 (m:=2) (n:=16) rfl (h.rI2 (m:=2) (n:=17) rfl (h.rI2 (m:=2) (n:=18) rfl (h.rI2 (m:=2) (n:=19) rfl (hφ))))))))))))))))))))
theorem st20{b:Nat}{T:TypeId}{cs:List Value}{x:T20}{K:World->Prop}{w:World}(hB:Blk w b T cs)(hl:cs.length=20)(hK:∀w',Blk w' b T (sp20 x)->Chg b w w'->K w') :
   Wr w (blk b)/\Nw (w.setCell (blk b) (.int .i64 x.1)) λu0=>
   Wr u0 ((blk b).add 1)/\Nw (u0.setCell ((blk b).add 1) (.int .i64 x.2.1)) λu1=>
   Wr u1 ((blk b).add 2)/\Nw (u1.setCell ((blk b).add 2) (.int .i64 x.2.2.1)) λu2=>
   Wr u2 ((blk b).add 3)/\Nw (u2.setCell ((blk b).add 3) (.int .i64 x.2.2.2.1)) λu3=>
   Wr u3 ((blk b).add 4)/\Nw (u3.setCell ((blk b).add 4) (.int .i64 x.2.2.2.2.1)) λu4=>
   Wr u4 ((blk b).add 5)/\Nw (u4.setCell ((blk b).add 5) (.int .i64 x.2.2.2.2.2.1)) λu5=>
   Wr u5 ((blk b).add 6)/\Nw (u5.setCell ((blk b).add 6) (.int .i64 x.2.2.2.2.2.2.1)) λu6=>
   Wr u6 ((blk b).add 7)/\Nw (u6.setCell ((blk b).add 7) (.int .i64 x.2.2.2.2.2.2.2.1)) λu7=>
   Wr u7 ((blk b).add 8)/\Nw (u7.setCell ((blk b).add 8) (.int .i64 x.2.2.2.2.2.2.2.2.1)) λu8=>
   Wr u8 ((blk b).add 9)/\Nw (u8.setCell ((blk b).add 9) (.int .i64 x.2.2.2.2.2.2.2.2.2.1)) λu9=>
   Wr u9 ((blk b).add 10)/\Nw (u9.setCell ((blk b).add 10) (.int .i64 x.2.2.2.2.2.2.2.2.2.2.1)) λu10=>
   Wr u10 ((blk b).add 11)/\Nw (u10.setCell ((blk b).add 11) (.int .i64 x.2.2.2.2.2.2.2.2.2.2.2.1)) λu11=>
   Wr u11 ((blk b).add 12)/\Nw (u11.setCell ((blk b).add 12) (.int .i64 x.2.2.2.2.2.2.2.2.2.2.2.2.1)) λu12=>
   Wr u12 ((blk b).add 13)/\Nw (u12.setCell ((blk b).add 13) (.int .i64 x.2.2.2.2.2.2.2.2.2.2.2.2.2.1)) λu13=>
   Wr u13 ((blk b).add 14)/\Nw (u13.setCell ((blk b).add 14) (.int .i64 x.2.2.2.2.2.2.2.2.2.2.2.2.2.2.1)) λu14=>
   Wr u14 ((blk b).add 15)/\Nw (u14.setCell ((blk b).add 15) (.int .i64 x.2.2.2.2.2.2.2.2.2.2.2.2.2.2.2.1)) λu15=>
   Wr u15 ((blk b).add 16)/\Nw (u15.setCell ((blk b).add 16) (.int .i64 x.2.2.2.2.2.2.2.2.2.2.2.2.2.2.2.2.1)) λu16=>
   Wr u16 ((blk b).add 17)/\Nw (u16.setCell ((blk b).add 17) (.int .i64 x.2.2.2.2.2.2.2.2.2.2.2.2.2.2.2.2.2.1)) λu17=>
   Wr u17 ((blk b).add 18)/\Nw (u17.setCell ((blk b).add 18) (.int .i64 x.2.2.2.2.2.2.2.2.2.2.2.2.2.2.2.2.2.2.1)) λu18=>
   Wr u18 ((blk b).add 19)/\Nw (u18.setCell ((blk b).add 19) (.int .i64 x.2.2.2.2.2.2.2.2.2.2.2.2.2.2.2.2.2.2.2.1)) λu19=>
   K u19:=
 Ym (vs:=sp20 x) hB hl hK
theorem Fns.chg{w w':World}{fs:Sl}{L:List Fe}{b:Nat}{T:TypeId}{cs:List Value}(h:Fns w fs L)(c:Chg b w w')(hB:Blk w b T cs)(h1:46≠T)(h2:3≠T)(h3:42≠T):Fns w' fs L:=by
 have f:Fr w.heap.size (λk=>k=b) w w':=c.fr
 exact⟨f.own h.own λb e e2=>by subst e2;exact zR h.own hB h1 e,λx hx=>
  ⟨f.own (h.row x hx).1 λb e e2=>by subst e2;exact zR (h.row x hx).1 hB h2 e,f.own (h.row x hx).2 λb e e2=>by subst e2;exact zR (h.row x hx).2 hB h3 e⟩⟩
section
variable {x:Mo} {pl:List PI} {w:World} {R:VWP}
theorem zmV(hN:IsPl w x.2.2.1 pl)(hp:PlOk pl)
  (hok:∀bc ps fs L w',layP x.2.1 pl=(0,0)->Ct w w' bc x.2.2.1 pl.length ps fs->Yh pl 10 pl.length ps->Fns w' fs L->zz w.heap.size fs->cutF pl pl.length=L.map (·.1)->Z0 pl pl.length->
   R (.tuple #[.pointer (some (blk bc)),.agg #[.int .i64 0,.int .i64 0]]) w')
  (hbad:∀w',Below w.heap.size w w'->(layP x.2.1 pl).1≠0->R (.tuple #[.pointer none,.agg #[.int .i64 (layP x.2.1 pl).1,.int .i64 ((layP x.2.1 pl).2:Int)]]) w') :
  cR 31 #[moA x] w R:=by
 refine za.of (zjp x R w ?_) λ_ _ h=>h
 refine zn λw1 hB1 b1 z1=>?_
 have hB1:Blk w1 w.heap.size 25 (moV x):=hB1
 refine zn λw2 hC2 b2 z2=>?_
 have hC2:Blk w2 w1.heap.size 29 [.int .i64 0,.int .i64 0]:=hC2
 have hb2:=b1.on b2
 have s1:=b1.size
 have hlen:=hN.len
 have h40:=hp.len
 refine Mo.load (hB1.below b2) ?_
 refine zpz (x:=x) (hN.below hb2) hp λw3 b3=>⟨((zG x.2.1 pl).1,((zG x.2.1 pl).2:Int),()),rfl,?_⟩
 refine box2 rfl λw4 h4 b4 z4=>?_
 have b24:=b3.on b4
 have hb4:=hb2.on b24
 have hB4:=(hB1.below b2).below b24
 have hC4:=hC2.below b24
 have s24:=b24.size
 refine h4.rI0 rfl (zt (λe=>?_) (λe=>?_))
 ·have e':(zG x.2.1 pl).1≠0:=e
  have hl:layP x.2.1 pl=zG x.2.1 pl:=if_pos e'
  rw[hl]at hbad
  refine Sp.load h4.drew ?_
  refine st2 hC4.drew rfl λw5 h5 c5=>Sp.load h5 ?_
  exact hbad w5 (c5.below hb4.drew (by omega)) e'
 ·have e':(zG x.2.1 pl).1=0:=e
  have hl:layP x.2.1 pl=chkP pl:=if_neg (λh=>h e')
  refine hB4.rS (n:=2) (x:=x.2.2.1) rfl ?_
  refine zn λw9 h9 b9 z9=>?_
  have h9:Blk w9 w4.heap.size 100 (ctV x.2.2.1 (0:Nat) (List.replicate 20 0) ⟨none,0,0⟩):=h9
  have hCt:Ct w4 w9 w4.heap.size x.2.2.1 0 (List.replicate 20 0) ⟨none,0,0⟩:=⟨Nat.le_refl _,b9,h9,List.length_replicate⟩
  have s4:=hb4.size
  dsimp only[zB,Go.Gk.Sl.zw,zi,zu,zb,zh]
  generalize hbc:w4.heap.size=bc at hCt z9
  refine zrR hCt (hN.below hb4) h40 (λps fs L w10 hC10 f10 hg ho hP hL hF hcut=>?_) (λn ps fs w10 hC10 f10 hS=>?_)
  ·refine⟨true,rfl,zD rfl ?_⟩
   have hlay:layP x.2.1 pl=(0,0):=by rw[hl,znp hg,if_neg (by rw[ho];decide)]
   have hR1:=hC4.below hC10.b0
   have hCw:Ct w w10 bc x.2.2.1 pl.length ps fs:=⟨by omega,hb4.on hC10.b0,hC10.blk,hC10.len⟩
   refine st2 hR1 rfl λw12 h12 c12=>Sp.load h12 ?_
   exact hok bc ps fs L w12 hlay (hCw.chg c12 (by omega) (by omega)) hP (hL.chg c12 hR1 (by decide) (by decide) (by decide)) (λa ha=>by have:=hF a ha;have:=b9.size;omega) hcut hg
  ·refine⟨false,rfl,zE rfl ?_⟩
   have bd:Below w10.heap.size w10 w10.drew:=(Below.refl _ _).drew
   have hlay:layP x.2.1 pl=(if n<pl.length then 50 else 51,n):=by rw[hl];exact hS.chk
   rw[hlay]at hbad
   have hBm:=(hB4.below hC10.b0)
   have hR1:=hC4.below hC10.b0
   have hbw:Below w.heap.size w w10:=hb4.on hC10.b0
   refine hC10.blk.drew.rI (n:=1) rfl (hBm.drew.rS (n:=2) (x:=x.2.2.1) rfl (zf (λh=>?_) (λh=>?_)))
   ·have hlt:n<pl.length:=by omega
    rw[if_pos hlt]at hbad
    refine hC10.blk.drew.drew.rI (n:=1) rfl (st2 hR1.drew.drew rfl λw13 h13 c13=>Sp.load h13 ?_)
    exact hbad w13 (c13.below hbw.drew.drew (by omega)) (show(50:Int)≠0 by decide)
   ·have hlt:¬n<pl.length:=by omega
    rw[if_neg hlt]at hbad
    refine hC10.blk.drew.drew.rI (n:=1) rfl (st2 hR1.drew.drew rfl λw13 h13 c13=>Sp.load h13 ?_)
    exact hbad w13 (c13.below hbw.drew.drew (by omega)) (show(51:Int)≠0 by decide)
theorem zpy(hN:IsPl w x.2.2.1 pl)(hp:PlOk pl)
  (hR:∀(y:T20) w',Below w.heap.size w w'->((layP x.2.1 pl).1=0->Yh pl 10 pl.length (l20 y)/\Z0 pl pl.length)->R (.tuple #[ag20 y,.agg #[.int .i64 (layP x.2.1 pl).1,.int .i64 ((layP x.2.1 pl).2:Int)]]) w') :
  cR 67 #[moA x] w R:=by
 refine za.of (ziy x R w ?_) λ_ _ h=>h
 refine zn λw1 hB1 b1 z1=>?_
 have hB1:Blk w1 w.heap.size 25 (moV x):=hB1
 refine zn λw2 hA2 b2 z2=>?_
 refine zn λw3 hC3 b3 z3=>?_
 have hC3:Blk w3 w2.heap.size 29 [.int .i64 0,.int .i64 0]:=hC3
 have hb23:=b2.on b3
 have hb3:=b1.on hb23
 have s1:=b1.size
 refine Mo.load (hB1.below hb23) ?_
 refine zmV (x:=x) (hN.below hb3) hp (λbc ps fs L w4 hlay hC4 hP hL hF hcut hg=>⟨some (blk bc),(0,0,()),rfl,?_⟩) (λw4 b4 hne=>⟨none,((layP x.2.1 pl).1,((layP x.2.1 pl).2:Int),()),rfl,?_⟩)
 ·rw[hlay]at hR
  refine box2 rfl λw7 h7 b7 z7=>?_
  have hC7:=hC4.below b7
  have b37:=hC4.b0.on b7
  have hA7:=((hA2.below b3).below b37).drew
  have hS7:=(hC3.below b37).drew
  have hbw:=(hb3.on b37).drew
  have s37:=b37.size
  have h7:=h7.drew
  obtain⟨y,rfl⟩:=ztT hC7.len
  have hct:=hC7.blk.drew
  generalize w7.drew=w8 at hct hA7 hS7 hbw h7
  refine zE rfl (zj rfl (zui (x:=y) hct ?_))
  refine Sp.load h7 ?_
  refine st20 (x:=y) hA7 rfl λw49 h49 c49=>?_
  have hS49:=c49.blk hS7 (by omega)
  have h7':=c49.blk h7 (by have:=hC4.b0.size;omega)
  refine⟨h7'.cell (n:=0) rfl,h7'.cell (n:=1) rfl,?_⟩
  refine st2 hS49 rfl λw51 h51 c51=>?_
  refine ld20 (x:=y) (c51.blk h49 (by omega)) (Sp.load h51 ?_)
  exact hR y w51 (c51.below (c49.below hbw (by omega)) (by omega)) λ_=>⟨hP,hg⟩
 ·refine box2 rfl λw7 h7 b7 z7=>?_
  have b37:=b4.on b7
  have hA7:=((hA2.below b3).below b37).drew
  have hS7:=(hC3.below b37).drew
  have hbw:=(hb3.on b37).drew
  have s37:=b37.size
  have s34:=b4.size
  have h7:=h7.drew
  generalize w7.drew=w8 at hA7 hS7 hbw h7
  refine zD rfl (Sp.load h7 ?_)
  refine st20 (x:=(0,0,0,0,0,0,0,0,0,0,0,0,0,0,0,0,0,0,0,0,())) hA7 rfl λw49 h49 c49=>?_
  have hS49:=c49.blk hS7 (by omega)
  have h7':=c49.blk h7 (by omega)
  refine⟨h7'.cell (n:=0) rfl,h7'.cell (n:=1) rfl,?_⟩
  refine st2 hS49 rfl λw51 h51 c51=>?_
  refine ld20 (x:=(0,0,0,0,0,0,0,0,0,0,0,0,0,0,0,0,0,0,0,0,())) (c51.blk h49 (by omega)) (Sp.load h51 ?_)
  exact hR _ w51 (c51.below (c49.below hbw (by omega)) (by omega)) λh=>absurd h hne
end
theorem zb0{pl:List PI}{id:Int}{n:Nat}:0<=zK pl id n↔∃k,k<n/\mk1 pl id k=true:=by
 unfold zK
 constructor
 ·intro h
  cases e:(List.range n).find? (mk1 pl id) with
  |none=>rw[e]at h;exact absurd h (by decide)
  |some k=>exact⟨k,List.mem_range.1 (List.mem_of_find?_eq_some e),List.find?_some e⟩
 ·rintro⟨k,h1,h2⟩
  cases e:(List.range n).find? (mk1 pl id) with
  |none=>
   rw[List.find?_eq_none]at e
   exact absurd h2 (e k (List.mem_range.2 h1))
  |some k=>exact Int.natCast_nonneg k
theorem zsv(pl:List PI)(k:Nat):mk1 pl 0 k=false:=by unfold mk1;simp
theorem MkOk.lt{L:List (Int×Int)}{pl:List PI}(h:MkOk L pl 0){id v:Int}(hv:zI L id=some v)(n:Nat):v<n↔0<=zK pl id n:=by
 obtain⟨j,rfl,_,q3,q4,q5⟩:=(h id).2 v hv
 rw[zb0]
 constructor
 ·intro hh
  exact⟨j,by omega,q4⟩
 ·rintro⟨k,h1,h2⟩
  rcases Nat.lt_or_ge k j with g |g
  ·rw[q5 k (Nat.zero_le _) g]at h2;cases h2
  ·omega
theorem MkOk.none{L:List (Int×Int)}{pl:List PI}(h:MkOk L pl 0){id:Int}(hv:zI L id=none):zK pl id pl.length<0:=by
 rcases Int.lt_or_le (zK pl id pl.length) 0 with g |g
 ·exact g
 ·obtain⟨k,h1,h2⟩:=zb0.1 g
  rw[(h id).1 hv k (Nat.zero_le _) h1]at h2
  cases h2
theorem MkOk.some{L:List (Int×Int)}{pl:List PI}(h:MkOk L pl 0){id v:Int}(hv:zI L id=some v):0<=zK pl id pl.length:=by
 obtain⟨j,_,_,q3,q4,_⟩:=(h id).2 v hv
 exact zb0.2 ⟨j,q3,q4⟩
def zL(pl:List PI)(n:Nat):List Int:=idsP (ix pl n).2.1 (ix pl n).2.2.2
def fltP(pl:List PI)(n:Nat):Int:=
 if 0<=zK pl (ix pl n).2.2.1 n then 90
 else if (zL pl n).any (λid=>decide (zK pl id pl.length<0))=true then 91
 else if zx (ix pl n)=7/\(zL pl n).any (λid=>decide (zK pl id n<0))=true then 92 else 0
def zV(bound:Int)(pl:List PI):Int×Nat:=if (layP bound pl).1≠0 then layP bound pl else match (List.range pl.length).find? (λk=>fltP pl k !=0) with
 |some k=>(fltP pl k,k)
 |none=>(0,0)
theorem zof{bound:Int}{pl:List PI}(h:(layP bound pl).1≠0):zV bound pl=layP bound pl:=if_pos h
theorem ziW{bound:Int}{pl:List PI}(h:¬(layP bound pl).1≠0){n:Nat}(hn:n<pl.length)(hj:∀j,j<n->fltP pl j=0)(hf:fltP pl n≠0):zV bound pl=(fltP pl n,n):=by
 unfold zV
 rw[if_neg h,YO hn (by rw[bne_iff_ne.2 hf]) λj hj'=>by rw[hj j hj'];rfl]
theorem zm1{bound:Int}{pl:List PI}(h:¬(layP bound pl).1≠0)(hj:∀j,j<pl.length->fltP pl j=0):zV bound pl=(0,0):=by
 unfold zV
 have:(List.range pl.length).find? (λk=>fltP pl k !=0)=none:=by
  rw[List.find?_eq_none]
  intro j hj'
  rw[hj j (List.mem_range.1 hj')]
  simp
 rw[if_neg h,this]
theorem zgL{α:Type}{l:List α}{p:α->Bool}{k:Nat}(hk:k<l.length)(h:p l[k]=true):l.any p=true:=List.any_eq_true.2 ⟨l[k],List.getElem_mem hk,h⟩
theorem zeU{α:Type}{l:List α}{p:α->Bool}(h:∀k (hk:k<l.length),p l[k]=false):l.any p=false:=by
 cases e:l.any p
 ·rfl
 ·obtain⟨x,h1,h2⟩:=List.any_eq_true.1 e
  obtain⟨k,hk,rfl⟩:=List.mem_iff_getElem.1 h1
  rw[h k hk]at h2
  cases h2
section
variable {x:Mo} {pl:List PI} {w:World} {R:VWP}
theorem zfL{s:Sl}{id:Int}{n:Nat}(hN:IsPl w s pl)(hn:n<=pl.length)(hR:R (.int .i64 (zK pl id n)) w):cR 90 #[.slice s.a s.l s.c,.int .u32 id,.int .i64 (n:Int)] w R:=by
 refine za.of (Yw s id n R w ?_) λ_ _ h=>h
 have hlen:=hN.len
 have hbd:=hN.bound
 refine zk.count n (by omega) (λk w'=>w'=w/\∀j,j<k->mk1 pl id j=false) ⟨rfl,λj hj=>by omega⟩ ?_
 rintro k w1 hk ⟨hw,hj⟩ next hnext
 subst hw
 refine zf (λh=>?_) (λh=>?_)
 ·have hkn:k<n:=by dsimp only at h;omega
  have hlt:k<pl.length:=by omega
  have hm:mk1 pl id k=(pl[k].2.2.1==id&&id !=0):=by unfold mk1;rw[zs hlt]
  refine zl.cut (λ_ w'=>w'=w1/\mk1 pl id k=false) ?_ ?_
  ·refine zl3 hN hlt (zm (λe1=>?_) (λe1=>⟨rfl,by rw[hm,beq_eq_false_iff_ne.2 e1,Bool.false_and]⟩))
   refine zt (λe2=>?_) (λe2=>⟨rfl,by rw[hm,e2];simp⟩)
   have:zK pl id n=(k:Int):=by
    unfold zK
    rw[YO hkn (by rw[hm,beq_iff_eq.2 e1,bne_iff_ne.2 e2];rfl) hj]
   rwa[this]at hR
  ·rintro _ w2 ⟨hw,hno⟩
   refine hnext w2 hkn ⟨hw,λj hj'=>?_⟩
   by_cases e:j=k
   ·subst e;exact hno
   ·exact hj j (by omega)
 ·have hk':k=n:=by dsimp only at h;omega
  have:zK pl id n=-1:=by
   unfold zK
   have:(List.range n).find? (mk1 pl id)=none:=by
    rw[List.find?_eq_none]
    intro j hj'
    rw[hj j (by rw[hk'];exact List.mem_range.1 hj')]
    simp
   rw[this]
  rwa[this]at hR
theorem znG{s:Sl}{n:Nat}(hN:IsPl w s pl)(hp:PlOk pl)(hn:n<pl.length)(hR:∀w',Below w.heap.size w w'->R (.int .i64 (fltP pl n)) w') :
  cR 80 #[.slice s.a s.l s.c,.int .i64 (n:Int)] w R:=by
 refine za.of (zdN s n R w ?_) λ_ _ h=>h
 have hlen:=hN.len
 have h40:=hp.len
 unfold fltP at hR
 have eix:pl[n]=ix pl n:=(yg hn).symm
 refine zl3 hN hn ?_
 rw[eix]
 refine zfL hN (by omega) ⟨_,rfl,zf (λh=>?_) (λh=>?_)⟩
 ·have:=hR w (Below.refl _ _)
  rwa[if_pos h]at this
 have hR:∀w',Below w.heap.size w w'->R (.int .i64 (if (zL pl n).any (λid=>decide (zK pl id pl.length<0))=true then 91 else if zx (ix pl n)=7/\(zL pl n).any (λid=>decide (zK pl id n<0))=true then 92 else 0)) w':=λw' hb=>by
  have:=hR w' hb
  rwa[if_neg h]at this
 refine yu hN hn λt ht=>?_
 refine zke (x:=mkIn pl[n] t) ht (hp.args _ (List.getElem_mem hn)) λr w2 hO hF b2=>⟨r,rfl,?_⟩
 have hO:Own w2 22 1 r ((zL pl n).map (Value.int .u32)):=by unfold zL;rw[<-eix];exact hO
 generalize zL pl n=ids at hO hR
 have hI2:=hO.isS
 have hrl:=hI2.len
 have hib:=hI2.bound
 refine zk.count ids.length hib (λk w'=>w'=w2/\∀j (hj:j<ids.length),j<k->decide (zK pl ids[j] pl.length<0)=false) ⟨rfl,λj hj h=>by omega⟩ ?_
 rintro k w3 hk ⟨hw,hj⟩ next hnext
 subst hw
 have hN3:=hN.below b2
 refine zf (λh=>?_) (λh=>?_)
 ·have hlt:k<ids.length:=by dsimp only at h;omega
  refine zcK hI2 hlt ?_
  refine zoW hN3 (by rw[hlen]) ⟨_,rfl,zf (λhneg=>?_) (λhneg=>?_)⟩
  ·have:=hR w3 b2
   rwa[if_pos (zgL hlt (decide_eq_true hneg))]at this
  ·refine hnext w3 hlt ⟨rfl,λj hjl hjk=>?_⟩
   by_cases e:j=k
   ·subst e;exact decide_eq_false hneg
   ·exact hj j hjl (by omega)
 ·have hk':k=ids.length:=by dsimp only at h;omega
  have n91:¬ids.any (λid=>decide (zK pl id pl.length<0))=true:=by rw[zeU λj hjl=>hj j hjl (by omega)];decide
  refine zk.count ids.length hib (λk w'=>Below w3.heap.size w3 w'/\∀j (hj:j<ids.length),j<k->¬(zx (ix pl n)=7/\zK pl ids[j] n<0)) ⟨Below.refl _ _,λj hj h=>by omega⟩ ?_
  rintro k w5 hk ⟨hb5,hj5⟩ next hnext
  have hb25:=b2.on hb5
  have hI5:=hI2.below hb5
  refine zf (λh=>?_) (λh=>?_)
  ·have hlt:k<ids.length:=by dsimp only at h;omega
   refine zl.cut (λ_ w'=>Below w3.heap.size w3 w'/\¬(zx (ix pl n)=7/\zK pl ids[k] n<0)) ?_ ?_
   ·refine yu (hN.below hb25) hn λt ht=>?_
    refine YQ (x:=mkIn pl[n] t) ht λw6 b6=>⟨_,rfl,?_⟩
    rw[show zx (piOf (mkIn pl[n] t) pl[n].2.2.2)=zx (ix pl n) by rw[<-eix]]
    have hb6:=hb5.on b6
    refine zm (λe7=>?_) (λe7=>⟨hb6,λ⟨g,_⟩=>e7 (by rw[g];rfl)⟩)
    refine zcK (hI5.below b6) hlt ?_
    refine zfL (hN.below (b2.on hb6)) (by omega) ⟨_,rfl,zf (λhneg=>?_) (λhneg=>⟨hb6,λ⟨_,g⟩=>hneg g⟩)⟩
    have:=hR w6 (b2.on hb6)
    rwa[if_neg n91,if_pos ⟨by omega,zgL hlt (decide_eq_true hneg)⟩]at this
   ·rintro _ w8 ⟨hb8,hno⟩
    refine hnext w8 hlt ⟨hb8,λj hjl hjk=>?_⟩
    by_cases e:j=k
    ·subst e;exact hno
    ·exact hj5 j hjl (by omega)
  ·have hk':k=ids.length:=by dsimp only at h;omega
   have n92:¬(zx (ix pl n)=7/\ids.any (λid=>decide (zK pl id n<0))=true):=by
    rintro⟨g1,g2⟩
    obtain⟨y,y1,y2⟩:=List.any_eq_true.1 g2
    obtain⟨j,hjl,rfl⟩:=List.mem_iff_getElem.1 y1
    exact hj5 j hjl (by omega) ⟨g1,of_decide_eq_true y2⟩
   have:=hR w5 hb25
   rwa[if_neg n91,if_neg n92]at this
theorem zjy(hN:IsPl w x.2.2.1 pl)(hp:PlOk pl)(hR:∀w',Below w.heap.size w w'->R (.agg #[.int .i64 (zV x.2.1 pl).1,.int .i64 ((zV x.2.1 pl).2:Int)]) w') :
  cR 47 #[moA x] w R:=by
 refine za.of (zdM x R w ?_) λ_ _ h=>h
 refine zn λw1 hB1 b1 z1=>?_
 have hB1:Blk w1 w.heap.size 25 (moV x):=hB1
 refine zn λw2 hC2 b2 z2=>?_
 have hC2:Blk w2 w1.heap.size 29 [.int .i64 0,.int .i64 0]:=hC2
 have hb2:=b1.on b2
 have s1:=b1.size
 have hlen:=hN.len
 have h40:=hp.len
 refine Mo.load (hB1.below b2) ?_
 refine zjx (x:=x) (hN.below hb2) hp λw3 b3=>⟨((layP x.2.1 pl).1,((layP x.2.1 pl).2:Int),()),rfl,?_⟩
 refine box2 rfl λw4 h4 b4 z4=>?_
 have b24:=b3.on b4
 have hb4:=hb2.on b24
 have hB4:=(hB1.below b2).below b24
 have hC4:=hC2.below b24
 have out:∀{w':World} {a b:Int},Below w4.heap.size w4 w'->(zV x.2.1 pl).1=a->(((zV x.2.1 pl).2:Nat):Int)=b->Wr w' (blk w1.heap.size)/\Nw (w'.setCell (blk w1.heap.size) (.int .i64 a)) λw7=>Wr w7 ((blk w1.heap.size).add 1)/\
   Nw (w7.setCell ((blk w1.heap.size).add 1) (.int .i64 b)) λw8=>ldI w8 ((blk w1.heap.size).add 0) .i64 λx9=>ldI w8 ((blk w1.heap.size).add 1) .i64 λx10=>R (.agg #[(.int .i64 x9),(.int .i64 x10)]) w8:=by
  intro w' a b hb e1 e2
  subst e1 e2
  exact st2 (hC4.below hb) rfl λw8 h8 c8=>Sp.load h8 (hR w8 (c8.below (hb4.on hb) (by omega)))
 refine h4.rI0 rfl (zt (λe=>?_) (λe=>?_))
 ·have e':(layP x.2.1 pl).1≠0:=e
  have hl:=zof e'
  exact Sp.load h4 (out (Below.refl _ _) (by rw[hl]) (by rw[hl]))
 ·have e':¬(layP x.2.1 pl).1≠0:=λh=>h e
  refine zk.count pl.length hN.bound (λk w'=>Below w4.heap.size w4 w'/\∀j,j<k->fltP pl j=0) ⟨Below.refl _ _,λj hj=>by omega⟩ ?_
  rintro k w5 hk ⟨hb5,hj5⟩ next hnext
  have hN5:=hN.below (hb4.on hb5)
  refine(hB4.below hb5).rS (n:=2) (x:=x.2.2.1) rfl (zf (λh=>?_) (λh=>?_))
  ·have hlt:k<pl.length:=by dsimp only at h;omega
   refine(hB4.below hb5).rS (n:=2) (x:=x.2.2.1) rfl ?_
   refine znG hN5 hp hlt λw6 b6=>⟨_,rfl,?_⟩
   have hb6:=hb5.on b6
   refine zt (λe1=>?_) (λe1=>?_)
   ·have hb:=ziW e' hlt hj5 e1
    exact out hb6 (by rw[hb]) (by rw[hb])
   ·refine hnext w6 hlt ⟨hb6,λj hjk=>?_⟩
    by_cases ej:j=k
    ·subst ej;exact e1
    ·exact hj5 j (by omega)
  ·have hk':k=pl.length:=by dsimp only at h;omega
   have hg:=zm1 e' (λj hj=>hj5 j (by omega))
   exact out hb5 (by rw[hg]) (by rw[hg];rfl)
end
theorem zInt:∃i,Tryz.prog.info? 3=some i/\i.zero=some (.int .i64 0):=⟨Tryz.t3,by kernel_rfl,rfl⟩
section
variable {x:Mo} {pl:List PI} {w:World} {R:VWP}
theorem zlc(hN:IsPl w x.2.2.1 pl)(hp:PlOk pl)(hR:∀w',Below w.heap.size w w'->R (.agg #[.int .i64 (zV x.2.1 pl).1,.int .i64 ((zV x.2.1 pl).2:Int)]) w') :
  cR 32 #[moA x] w R:=by
 refine za.of (zkP x R w ?_) λ_ _ h=>h
 refine zn λw1 hB1 b1 z1=>?_
 have hB1:Blk w1 w.heap.size 25 (moV x):=hB1
 refine zn λw2 hC2 b2 z2=>?_
 have hC2:Blk w2 w1.heap.size 29 [.int .i64 0,.int .i64 0]:=hC2
 have hb2:=b1.on b2
 have s1:=b1.size
 have hlen:=hN.len
 have h40:=hp.len
 refine Mo.load (hB1.below b2) ?_
 refine zpy (x:=x) (hN.below hb2) hp λy w3 b3 hP=>⟨y,((layP x.2.1 pl).1,((layP x.2.1 pl).2:Int),()),rfl,?_⟩
 refine zn λw4 hY4 b4 z4=>?_
 refine zn λw5 hE5 b5 z5=>?_
 have hE5:Blk w5 w4.heap.size 29 [.int .i64 0,.int .i64 0]:=hE5
 refine st20 (x:=y) (hY4.below b5) rfl λw25 hY25 c25=>?_
 refine st2 (c25.blk hE5 (by omega)) rfl λw27 hE27 c27=>?_
 have hY27:=c27.blk hY25 (by omega)
 have b327:Below w3.heap.size w3 w27:=c27.below (c25.below (b4.on b5) (Nat.le_refl _)) (by omega)
 have b227:=b3.on b327
 have hb27:=hb2.on b227
 have hB27:=(hB1.below b2).below b227
 have hC27:=hC2.below b227
 have out:∀{w':World} {a b:Int},Below w27.heap.size w27 w'->(zV x.2.1 pl).1=a->(((zV x.2.1 pl).2:Nat):Int)=b->Wr w' (blk w1.heap.size)/\Nw (w'.setCell (blk w1.heap.size) (.int .i64 a)) λw7=>Wr w7 ((blk w1.heap.size).add 1)/\
   Nw (w7.setCell ((blk w1.heap.size).add 1) (.int .i64 b)) λw8=>ldI w8 ((blk w1.heap.size).add 0) .i64 λx9=>ldI w8 ((blk w1.heap.size).add 1) .i64 λx10=>R (.agg #[(.int .i64 x9),(.int .i64 x10)]) w8:=by
  intro w' a b hb e1 e2
  subst e1 e2
  exact st2 (hC27.below hb) rfl λw8 h8 c8=>Sp.load h8 (hR w8 (c8.below (hb27.on hb) (by omega)))
 refine hE27.rI0 rfl (zt (λe=>?_) (λe=>?_))
 ·have e':(layP x.2.1 pl).1≠0:=e
  have hl:=zof e'
  exact Sp.load hE27 (out (Below.refl _ _) (by rw[hl]) (by rw[hl]))
 have e0:(layP x.2.1 pl).1=0:=e
 have e':¬(layP x.2.1 pl).1≠0:=λh=>h e
 obtain⟨hPT,hG⟩:=hP e0
 obtain⟨q1,q2,q3,q4⟩:=hPT 7 (by omega)
 generalize hfr:(l20 y).getD (2*7) 0=from_ at q1 q2 q4
 generalize hto:(l20 y).getD (2*7+1) 0=to_ at q2 q3 q4
 refine hB27.rS (n:=2) (x:=x.2.2.1) rfl ?_
 refine zoD (hN.below hb27) λw30 L hM30 hMk hKN b30=>⟨some w27.heap.size,rfl,⟨by omega,by omega⟩,?_⟩
 have hY30:=hY27.below b30
 refine hY30.rI2 (m:=7*2) (n:=0) (x:=from_) (by rw[<-hfr];rfl) (hY30.rI2 (m:=7*2) (n:=1) (x:=to_) (by rw[<-hto];rfl) ?_)
 refine box2 rfl λw33 hG33 b33 z33=>?_
 have b2733:=b30.on b33
 have hM33:=hM30.below b33
 have hB33:=hB27.below b2733
 refine hB33.rS (n:=2) (x:=x.2.2.1) rfl ?_
 refine zk.count pl.length hN.bound (λk w'=>Below w33.heap.size w33 w'/\∀j,j<k->fltP pl j=0) ⟨Below.refl _ _,λj hj=>by omega⟩ ?_
 rintro k w34 hk ⟨hb34,hj⟩ next hnext
 have hb2734:=b2733.on hb34
 have hN34:=hN.below (hb27.on hb2734)
 refine zf (λh=>?_) (λh=>?_)
 ·have hlt:k<pl.length:=by dsimp only at h;omega
  have eix:pl[k]=ix pl k:=(yg hlt).symm
  refine zl.cut (λ_ w'=>Below w33.heap.size w33 w'/\fltP pl k=0) ?_ ?_
  ·refine yu hN34 hlt λt ht=>?_
   refine box4 rfl λw39 h39 b39 z39=>?_
   have h39:Blk w39 w34.heap.size 50 (inV (mkIn pl[k] t)):=h39
   have hb39:=hb34.on b39
   refine zl.cut (λ_ w'=>w'=w39/\¬0<=zK pl (ix pl k).2.2.1 k) ?_ ?_
   ·refine h39.rI (n:=2) rfl (zt (λe1=>?_) (λe1=>⟨rfl,λg=>?_⟩))
    ·have e1:pl[k].2.2.1≠0:=e1
     refine h39.rI (n:=2) rfl (zso zj7 uU32 zInt (hM33.below hb39) ?_)
     have hmk:mk1 pl (ix pl k).2.2.1 k=true:=by unfold mk1;rw[<-eix,zs hlt,beq_self_eq_true,bne_iff_ne.2 e1];rfl
     cases hl:zI L pl[k].2.2.1 with
     |none=>
      have:=(hMk pl[k].2.2.1).1 hl k (Nat.zero_le _) hlt
      rw[<-eix]at hmk
      rw[hmk]at this
      cases this
     |some v=>
      have hv:=hMk.lt hl k
      rw[eix]at hv
      refine zf (λh=>?_) (λh=>⟨rfl,λg=>h (hv.2 g)⟩)
      have hf:fltP pl k=90:=by unfold fltP;rw[if_pos (hv.1 h)]
      have hb:=ziW e' hlt hj (by rw[hf];decide)
      exact out (b2733.on hb39) (by rw[hb,hf]) (by rw[hb])
    ·have e1:pl[k].2.2.1=0:=e1
     rw[<-eix,e1]at g
     obtain⟨j,_,h2⟩:=zb0.1 g
     rw[zsv]at h2
     cases h2
   ·rintro _ w42 ⟨rfl,n90⟩
    refine Ins.load h39 ?_
    have hfl:fltP pl k=if (zL pl k).any (λid=>decide (zK pl id pl.length<0))=true then 91 else if zx (ix pl k)=7/\(zL pl k).any (λid=>decide (zK pl id k<0))=true then 92 else 0:=by
     unfold fltP;rw[if_neg n90]
    refine zi7 (x:=mkIn pl[k] t) (ht.below b39) (hp.args _ (List.getElem_mem hlt)) λr w43 hO hF b43=>⟨r,rfl,?_⟩
    have hO:Own w43 22 1 r ((zL pl k).map (Value.int .u32)):=by unfold zL;rw[<-eix];exact hO
    generalize zL pl k=ids at hO hfl
    have hI:=hO.isS
    have hrl:=hI.len
    have hib:=hI.bound
    have hb43:=hb39.on b43
    refine zk.ghost (λj (st:Bool×Int×Unit) w'=>∃(i:Nat),j=ids.length-i/\i<=ids.length/\w'=w43/\st.2.1=(i:Int)/\(∀q (hq:q<ids.length),q<i->0<=zK pl ids[q] pl.length)/\(st.1=true↔∃q,∃hq:q<ids.length,q<i/\zK pl ids[q] k<0)) ids.length
     ⟨0,rfl,Nat.zero_le _,rfl,rfl,λq hq h=>by omega,⟨λh=>(by cases h),λ⟨q,hq,h,_⟩=>by omega⟩⟩ ?_
    rintro _ ⟨ah,_,_⟩ w44 ⟨i,rfl,hi,hw,e2,hmd,hah⟩ next2 hnext2
    dsimp only at e2 hah
    subst hw e2
    refine zf (λh=>?_) (λh=>?_)
    ·have hil:i<ids.length:=by dsimp only at h;omega
     refine zl.cut (λ(st:Bool×Unit) w'=>w'=w44/\0<=zK pl ids[i] pl.length/\(st.1=true↔ah=true\/zK pl ids[i] k<0)) ?_ ?_
     ·refine zcK hI hil (zmK zj7 uU32 zInt (hM33.below hb43) ?_)
      cases hl:zI L ids[i] with
      |none=>
       refine zD rfl ?_
       have hf:fltP pl k=91:=by rw[hfl,if_pos (zgL hil (decide_eq_true (hMk.none hl)))]
       have hb:=ziW e' hlt hj (by rw[hf];decide)
       exact out (b2733.on hb43) (by rw[hb,hf]) (by rw[hb])
      |some v=>
       refine zE rfl ?_
       have hv:=hMk.lt hl k
       refine zo (λhat=>⟨rfl,hMk.some hl,⟨λ_=>.inl hat,λ_=>rfl⟩⟩) (λhaf=>⟨rfl,hMk.some hl,?_⟩)
       show(decide (v≥(k:Int))=true↔_)
       have haf:ah=false:=haf
       rw[haf]
       constructor
       ·intro g
        have:=of_decide_eq_true g
        right
        rcases Int.lt_or_le (zK pl ids[i] k) 0 with q |q
        ·exact q
        ·have:=hv.2 q;omega
       ·rintro(g |g)
        ·cases g
        ·refine decide_eq_true ?_
         rcases Int.lt_or_le v k with q |q
         ·have:=hv.1 q;omega
         ·exact q
     ·rintro⟨ah',_⟩ w47 ⟨hw,hmi,hah'⟩
      dsimp only at hah'⊢
      subst hw
      rw[zr (by omega)]
      refine hnext2 (ids.length-(i+1)) _ _ (by omega) ⟨i+1,rfl,hil,rfl,rfl,λq hq h=>?_,?_⟩
      ·by_cases eq:q=i
       ·subst eq;exact hmi
       ·exact hmd q hq (by omega)
      ·dsimp only
       rw[hah',hah]
       constructor
       ·rintro(⟨q,hq,h1,h2⟩ |g)
        ·exact⟨q,hq,by omega,h2⟩
        ·exact⟨i,hil,by omega,g⟩
       ·rintro⟨q,hq,h1,h2⟩
        by_cases eq:q=i
        ·subst eq;exact .inr h2
        ·exact .inl ⟨q,hq,by omega,h2⟩
    ·have hil:i=ids.length:=by dsimp only at h;omega
     subst hil
     have n91:¬ids.any (λid=>decide (zK pl id pl.length<0))=true:=by
      rw[zeU (p:=λid=>decide (zK pl id pl.length<0)) λq hq=>decide_eq_false (by have:=hmd q hq hq;omega)]
      decide
     rw[if_neg n91]at hfl
     have hany:ids.any (λid=>decide (zK pl id k<0))=ah:=by
      rw[Bool.eq_iff_iff,hah]
      constructor
      ·intro g
       obtain⟨y',y1,y2⟩:=List.any_eq_true.1 g
       obtain⟨q,hq,rfl⟩:=List.mem_iff_getElem.1 y1
       exact⟨q,hq,hq,of_decide_eq_true y2⟩
      ·rintro⟨q,hq,_,h2⟩
       exact zgL hq (decide_eq_true h2)
     rw[hany]at hfl
     have hq4:=q4 k hlt
     have hG44:=hG33.below hb43
     refine zl.cut (λ_ w'=>w'=w44/\zx (ix pl k)=7/\ah=true) ?_ ?_
     ·refine zF (zo (λhat=>?_) (λhaf=>⟨hb43,by have haf:ah=false:=haf;rw[hfl,if_neg (λg=>by rw[haf]at g;cases g.2)]⟩))
      refine hG44.rI0 rfl (zf (λh1=>⟨hb43,?_⟩) (λh1=>?_))
      ·rw[hfl,if_neg (λg=>by have:=hq4.2 g.1;dsimp only at h1;omega)]
      ·refine hG44.rI (n:=1) rfl (zf (λh2=>⟨hb43,?_⟩) (λh2=>⟨rfl,hq4.1 ⟨by dsimp only at h1;omega,by dsimp only at h2;omega⟩,hat⟩))
       rw[hfl,if_neg (λg=>by have:=hq4.2 g.1;dsimp only at h2;omega)]
     ·rintro _ w48 ⟨rfl,g1,g2⟩
      have hf:fltP pl k=92:=by rw[hfl,if_pos ⟨g1,g2⟩]
      have hb:=ziW e' hlt hj (by rw[hf];decide)
      exact out (b2733.on hb43) (by rw[hb,hf]) (by rw[hb])
  ·rintro _ w51 ⟨hb51,hf⟩
   refine hnext w51 hlt ⟨hb51,λj hjk=>?_⟩
   by_cases ej:j=k
   ·subst ej;exact hf
   ·exact hj j (by omega)
 ·have hk':k=pl.length:=by dsimp only at h;omega
  have hg:=zm1 e' (λj hj'=>hj j (by omega))
  exact out hb2734 (by rw[hg]) (by rw[hg];rfl)
end
theorem zeq{bd:Int}{pl:List PI}(h:(zV bd pl).1=0):zV bd pl=(0,0)/\(layP bd pl).1=0/\∀k,k<pl.length->fltP pl k=0:=by
 unfold zV at h⊢
 by_cases h1:(layP bd pl).1≠0
 ·rw[if_pos h1]at h;exact absurd h h1
 ·rw[if_neg h1]at h⊢
  have h1:(layP bd pl).1=0:=Classical.not_not.1 h1
  cases hf:(List.range pl.length).find? (λk=>fltP pl k !=0) with
  |none=>
   refine⟨rfl,h1,λk hk=>?_⟩
   have:=List.find?_eq_none.1 hf k (List.mem_range.2 hk)
   simpa using this
  |some k=>
   rw[hf]at h
   have:=List.find?_some hf
   dsimp only at h
   rw[h]at this
   simp at this
theorem zfj{bd:Int}{pl:List PI}(h:(layP bd pl).1=0):(zG bd pl).1=0:=by
 unfold layP at h
 by_cases h1:(zG bd pl).1≠0
 ·rw[if_pos h1]at h;exact h
 ·exact Classical.not_not.1 h1
theorem ztk{pl:List PI}{k:Nat}(h:fltP pl k=0)(h0:(ix pl k).2.2.1≠0):∀j,j<k->j<pl.length->(ix pl j).2.2.1≠(ix pl k).2.2.1:=by
 intro j hj hl e
 have n90:¬0<=zK pl (ix pl k).2.2.1 k:=by
  intro g
  unfold fltP at h
  rw[if_pos g]at h
  cases h
 refine n90 (zb0.2 ⟨j,hj,?_⟩)
 unfold mk1
 rw[show pl.getD j pi0=ix pl j from ?_,e,beq_self_eq_true,bne_iff_ne.2 h0]
 ·rfl
 ·rw[zs hl,yg hl]
theorem zrb{bd:Int}{pl:List PI}(hp:PlOk pl)(h0:0<=bd)(h:(zG bd pl).1=0):∀n∈allP pl,0<=n/\n<bd:=by
 obtain⟨h1,h2⟩:=Ye h
 intro n hn
 obtain⟨p,hp',hn⟩:=List.mem_flatMap.1 hn
 obtain⟨k,hk,rfl⟩:=List.getElem_of_mem hp'
 have:=hp.nums _ (List.getElem_mem hk)
 exact(zm5 (h2 k hk) (by omega) ⟨this.1.1,this.2.1.1,λx hx=>(this.2.2 x hx).1⟩).1 n hn
theorem zuo{pl:List PI}{k:Nat}(hk:k<pl.length):pl[k].2.1∈allP pl/\pl[k].2.2.1∈allP pl/\∀a∈pl[k].2.2.2,a.1=1->a.2.1∈allP pl:=by
 have hm:∀{n},n∈allI pl[k]->n∈allP pl:=λh=>List.mem_flatMap.2 ⟨_,List.getElem_mem hk,h⟩
 refine⟨hm (by simp[allI]),hm (by simp[allI]),λa ha h1=>hm ?_⟩
 simp only[allI,List.mem_cons]
 right;right
 exact List.mem_map.2 ⟨a,List.mem_filter.2 ⟨ha,by simp[h1]⟩,rfl⟩
theorem ztn{α:Type}{l:List α}{i:Nat}{d:α}(h:l.length<=i):l.getD i d=d:=by simp[List.getD,h]
theorem zfa{p:PI}{b:Int}(h:Ze p b=0):∃f,frm p.1=some f/\idP f.ty p.2.1 b 40=0/\idP f.re p.2.2.1 b 41=0/\(∀j,j<p.2.2.2.length->werr f p.2.2.2 b j=0)/\
  YS f p.2.2.2.length=true/\zbp f p.2.2.2<=65535:=by
 unfold Ze at h
 cases hf:frm p.1 with
 |none=>rw[zcb hf]at h;cases h
 |some f=>
  rw[zcc hf]at h
  unfold za6 at h
  by_cases e1:errK f p.2.1 p.2.2.1 p.2.2.2 b p.2.2.2.length≠0
  ·rw[if_pos e1]at h;exact absurd h e1
  rw[if_neg e1]at h
  obtain⟨q1,q2,q3⟩:=zeZ (Classical.not_not.1 e1)
  by_cases e2:YS f p.2.2.2.length=false
  ·rw[if_pos e2]at h;exact absurd h (by decide)
  rw[if_neg e2]at h
  by_cases e3:65535<zbp f p.2.2.2
  ·rw[if_pos e3]at h;exact absurd h (by decide)
  exact⟨f,rfl,q1,q2,zeV q3,by simpa using e2,by omega⟩
theorem zug{bound:Int}{pl:List PI}(h:(zG bound pl).1=0):totP pl pl.length<=1048576:=by
 cases hl:pl.length with
 |zero=>simp[totP]
 |succ n=>
  unfold zG at h
  split at h
  ·cases h
  ·split at h
   ·dsimp only at h
    split at h
    ·rename_i hf;exact absurd h hf
    ·cases h
   ·rename_i hn
    have:=List.find?_eq_none.1 hn n (List.mem_range.2 (by omega))
    unfold badI at this
    simp only[Bool.or_eq_true,not_or,decide_eq_true_eq]at this
    omega
structure znl (bd:Int) (pl:List PI):Prop where
 shape:(zG bd pl).1=0
 lim:0<bd/\bd<=65536
 rng:∀n∈allP pl,0<=n/\n<bd
 new:∀k,k<pl.length->(ix pl k).2.2.1≠0->∀j,j<k->j<pl.length->(ix pl j).2.2.1≠(ix pl k).2.2.1
 made:∀n∈allP pl,n≠0->∃k,k<pl.length/\(ix pl k).2.2.1=n
 ok:zV bd pl=(0,0)
theorem znl.of{bd:Int}{pl:List PI}(hp:PlOk pl)(h0:0<=bd)(h:(zV bd pl).1=0):znl bd pl:=by
 obtain⟨c1,c2,c3⟩:=zeq h
 have hs:=zfj c2
 have hbd:=(Ye hs).1
 refine⟨hs,by omega,zrb hp h0 hs,λk hk h0=>ztk (c3 k hk) h0,λn hn h0=>?_,c1⟩
 obtain⟨p,hp',hn⟩:=List.mem_flatMap.1 hn
 obtain⟨k,hk,rfl⟩:=List.getElem_of_mem hp'
 have hr:n=pl[k].2.2.1\/n∈zL pl k:=by
  unfold zL idsP idsN
  rw[yg hk,List.take_length]
  simp only[allI,List.mem_cons]at hn
  rcases hn with e |e |e
  ·right
   refine List.mem_append_left _ ?_
   rw[if_neg (by rw[<-e];exact h0),e]
   exact List.mem_singleton.2 rfl
  ·exact .inl e
  ·right
   exact List.mem_append_right _ e
 rcases hr with e |e
 ·exact⟨k,hk,by rw[yg hk,e]⟩
 ·have hf:=c3 k hk
  unfold fltP at hf
  by_cases e1:0<=zK pl (ix pl k).2.2.1 k
  ·rw[if_pos e1]at hf;exact absurd hf (by decide)
  rw[if_neg e1]at hf
  by_cases e2:(zL pl k).any (λid=>decide (zK pl id pl.length<0))=true
  ·rw[if_pos e2]at hf;exact absurd hf (by decide)
  have:0<=zK pl n pl.length:=by
   rcases Int.lt_or_le (zK pl n pl.length) 0 with q |q
   ·exact absurd (List.any_eq_true.2 ⟨n,e,decide_eq_true q⟩) e2
   ·exact q
  obtain⟨j,hj,hm⟩:=zb0.1 this
  unfold mk1 at hm
  rw[Bool.and_eq_true]at hm
  exact⟨j,hj,beq_iff_eq.1 hm.1⟩
abbrev Fv:=Int×Int×Sl×Sl×Int×Unit
abbrev fvV(v:Fv):List Value:=[.int .u32 v.1,.int .i64 v.2.1,.slice v.2.2.1.a v.2.2.1.l v.2.2.1.c,.slice v.2.2.2.1.a v.2.2.2.1.l v.2.2.2.1.c,.int .i64 v.2.2.2.2.1]
abbrev fvA(v:Fv):Value:=.agg #[.int .u32 v.1,.int .i64 v.2.1,.slice v.2.2.1.a v.2.2.1.l v.2.2.1.c,.slice v.2.2.2.1.a v.2.2.2.1.l v.2.2.2.1.c,.int .i64 v.2.2.2.2.1]
abbrev IsBk(w:World)(s:Sl)(l:List (Int×Int×Int)):Prop:=IsC 3 blV w s l
structure IsFn (w:World) (v:Fv) (f:FnL):Prop where
 id:v.1=f.id
 at_:v.2.1=f.at_
 ps:IsI w v.2.2.1 f.ps
 bk:IsBk w v.2.2.2.1 f.bk
 en:v.2.2.2.2.1=f.en
noncomputable instance fnD:DecidableEq FnL:=λ_ _=>Classical.propDecidable _
section
variable {w w':World} {v:Fv} {f g:FnL} {R:VWP}
theorem IsFn.below(h:IsFn w v f)(hb:Below w.heap.size w w'):IsFn w' v f:=⟨h.id,h.at_,h.ps.below hb,IsC.below zU h.bk hb,h.en⟩
theorem Fv.load{b:Nat}{T:TypeId}(h:Blk w b T (fvV v)){φ:Int->Int->Sl->Sl->Int->Prop}(hφ:φ v.1 v.2.1 v.2.2.1 v.2.2.2.1 v.2.2.2.2.1) :
  ldI w ((blk b).add 0) .u32 λx1=>ldI w ((blk b).add 1) .i64 λx2=>ldS w ((blk b).add 2) λx3=>ldS w ((blk b).add 3) λx4=>ldI w ((blk b).add 4) .i64 λx5=>φ x1 x2 x3 x4 x5:=
 h.rI (n:=0) (x:=v.1) rfl (h.rI (n:=1) (x:=v.2.1) rfl (h.rS (n:=2) (x:=v.2.2.1) rfl (h.rS (n:=3) (x:=v.2.2.2.1) rfl (h.rI (n:=4) (x:=v.2.2.2.2.1) rfl hφ))))
theorem Fns.isFn{fs:Sl}{L:List Fe}(h:Fns w fs L){x:Fe}(hx:x∈L):IsFn w (x.1.id,x.1.at_,x.2.1,x.2.2,x.1.en,()) x.1:=
 ⟨rfl,rfl,(h.row x hx).1.isS,Own.isC zU (by omega) (h.row x hx).2,rfl⟩
theorem znx{fs:Sl}{L:List Fe}(h:Fns w fs L){k:Nat}(hk:k<L.length){φ:Int->Int->Sl->Sl->Int->Prop}(hφ:φ L[k].1.id L[k].1.at_ L[k].2.1 L[k].2.2 L[k].1.en) :
  (0<=(k:Int)/\(k:Int)<(fs.l:Int))/\zc fs.a λa=>ldI w ((a.add (Int.toNat (k:Int)*5)).add 0) .u32 λx1=>ldI w ((a.add (Int.toNat (k:Int)*5)).add 1) .i64 λx2=>ldS w ((a.add (Int.toNat (k:Int)*5)).add 2) λx3=>ldS w ((a.add (Int.toNat (k:Int)*5)).add 3) λx4=>ldI w ((a.add (Int.toNat (k:Int)*5)).add 4) .i64 λx5=>φ x1 x2 x3 x4 x5:=by
 have hc:IsC 5 feV w fs L:=Own.isC Yj (by omega) h.own
 obtain⟨a,ha⟩:=hc.base hk
 have hcell:=hc.cell a ha k hk
 refine⟨⟨by omega,by have:=h.len;omega⟩,zj ha ⟨_,?_,_,?_,_,?_,_,?_,_,?_,hφ⟩⟩
 ·rw[zy];exact hcell 0 (by omega)
 ·rw[zy];exact hcell 1 (by omega)
 ·rw[zy];exact hcell 2 (by omega)
 ·rw[zy];exact hcell 3 (by omega)
 ·rw[zy];exact hcell 4 (by omega)
theorem zf4{s:Sl}{l:List (Int×Int×Int)}(h:IsBk w s l){k:Nat}(hk:k<l.length){φ:Int->Int->Int->Prop}(hφ:φ l[k].1 l[k].2.1 l[k].2.2) :
  (0<=(k:Int)/\(k:Int)<(s.l:Int))/\zc s.a λa=>ldI w ((a.add (Int.toNat (k:Int)*3)).add 0) .u32 λx=>ldI w ((a.add (Int.toNat (k:Int)*3)).add 1) .i64 λy=>ldI w ((a.add (Int.toNat (k:Int)*3)).add 2) .i64 λz=>φ x y z:=by
 obtain⟨a,ha⟩:=h.base hk
 have hc:=h.cell a ha k hk
 refine⟨⟨by omega,by have:=h.len;omega⟩,zj ha ⟨_,?_,_,?_,_,?_,hφ⟩⟩
 ·rw[zy];exact hc 0 (by omega)
 ·rw[zy];exact hc 1 (by omega)
 ·rw[zy];exact hc 2 (by omega)
theorem zrA{s t:Sl}{l m:List Int}(hs:IsI w s l)(ht:IsI w t m)(hR:∀w',Below w.heap.size w w'->R (.bool (decide (l=m))) w'):cR 71 #[.slice s.a s.l s.c,.slice t.a t.l t.c] w R:=by
 refine za.of (zcU s t R w ?_) λ_ _ h=>h
 have h1:=hs.len
 have h2:=ht.len
 have no:l≠m->∀{w'},Below w.heap.size w w'->R (.bool false) w':=λh {w'} hb=>by
  have:=hR w' hb
  rwa[decide_eq_false h]at this
 refine zt (λe=>no (λh=>e (by rw[h1,h2,h])) (Below.refl _ _)) (λe=>?_)
 refine zk.count l.length hs.bound (λk w'=>Below w.heap.size w w'/\∀j (q1:j<l.length) (q2:j<m.length),j<k->l[j]=m[j]) ⟨Below.refl _ _,λj _ _ h=>by omega⟩ ?_
 rintro k w1 hk ⟨hb,hj⟩ next hnext
 refine zf (λh=>?_) (λh=>?_)
 ·have hlt:k<l.length:=by dsimp only at h;omega
  have hlm:k<m.length:=by omega
  refine zdz (hs.below hb.drew) hlt (zdz (ht.below hb.drew) hlm (zt (λe=>no (λg=>e (by subst g;rfl)) hb.drew) (λe=>hnext _ hlt ⟨hb.drew,λj q1 q2 hjk=>?_⟩)))
  by_cases ej:j=k
  ·subst ej;exact e
  ·exact hj j q1 q2 (by omega)
 ·have hk':k=l.length:=by dsimp only at h;omega
  have:=hR w1 hb
  rwa[decide_eq_true (List.ext_getElem (by omega) λj q1 q2=>hj j q1 q2 (by omega))]at this
theorem zr9{s t:Sl}{l m:List (Int×Int×Int)}(hs:IsBk w s l)(ht:IsBk w t m)(hR:∀w',Below w.heap.size w w'->R (.bool (decide (l=m))) w'):cR 72 #[.slice s.a s.l s.c,.slice t.a t.l t.c] w R:=by
 refine za.of (ZK s t R w ?_) λ_ _ h=>h
 have h1:=hs.len
 have h2:=ht.len
 have no:l≠m->∀{w'},Below w.heap.size w w'->R (.bool false) w':=λh {w'} hb=>by
  have:=hR w' hb
  rwa[decide_eq_false h]at this
 refine zt (λe=>no (λh=>e (by rw[h1,h2,h])) (Below.refl _ _)) (λe=>?_)
 refine zk.count l.length hs.bound (λk w'=>Below w.heap.size w w'/\∀j (q1:j<l.length) (q2:j<m.length),j<k->l[j]=m[j]) ⟨Below.refl _ _,λj _ _ h=>by omega⟩ ?_
 rintro k w1 hk ⟨hb,hj⟩ next hnext
 refine zf (λh=>?_) (λh=>?_)
 ·have hlt:k<l.length:=by dsimp only at h;omega
  have hlm:k<m.length:=by omega
  refine zf4 (IsC.below zU hs hb.drew) hlt (zf4 (IsC.below zU ht hb.drew) hlm (zF (zo (λe=>hnext _ hlt ⟨hb.drew,λj q1 q2 hjk=>?_⟩) (λe=>no (λg=>?_) hb.drew))))
  ·by_cases ej:j=k
   ·subst ej
    simp only[Bool.and_true,Bool.and_eq_true,beq_iff_eq]at e
    exact Prod.ext e.1 (Prod.ext e.2.1 e.2.2)
   ·exact hj j q1 q2 (by omega)
  ·subst g
   simp at e
 ·have hk':k=l.length:=by dsimp only at h;omega
  have:=hR w1 hb
  rwa[decide_eq_true (List.ext_getElem (by omega) λj q1 q2=>hj j q1 q2 (by omega))]at this
theorem zqp{u:Fv}(hf:IsFn w v f)(hg:IsFn w u g)(hR:∀w',Below w.heap.size w w'->R (.bool (decide (f=g))) w'):cR 35 #[fvA v,fvA u] w R:=by
 refine za.of (zjU v u R w ?_) λ_ _ h=>h
 refine zn λw1 hA1 b1 z1=>?_
 have hA1:Blk w1 w.heap.size 46 (fvV v):=hA1
 refine zn λw2 hB2 b2 z2=>?_
 have hB2:Blk w2 w1.heap.size 46 (fvV u):=hB2
 have hA2:=hA1.below b2
 have hb2:=b1.on b2
 have no:f≠g->∀{w'},Below w.heap.size w w'->R (.bool false) w':=λh {w'} hb=>by
  have:=hR w' hb
  rwa[decide_eq_false h]at this
 refine hA2.rI0 (x:=v.1) rfl (hB2.rI0 (x:=u.1) rfl (zm (λe1=>?_) (λe=>no (λh=>e (by rw[hf.id,hg.id,h])) hb2)))
 refine hA2.rI (n:=1) (x:=v.2.1) rfl (hB2.rI (n:=1) (x:=u.2.1) rfl (zm (λe2=>?_) (λe=>no (λh=>e (by rw[hf.at_,hg.at_,h])) hb2)))
 refine hA2.rI (n:=4) (x:=v.2.2.2.2.1) rfl (hB2.rI (n:=4) (x:=u.2.2.2.2.1) rfl (zm (λe3=>?_) (λe=>no (λh=>e (by rw[hf.en,hg.en,h])) hb2)))
 refine hA2.rS (n:=2) (x:=v.2.2.1) rfl (hB2.rS (n:=2) (x:=u.2.2.1) rfl ?_)
 refine zrA (hf.ps.below hb2) (hg.ps.below hb2) λw3 b3=>⟨_,rfl,?_⟩
 have hb3:=hb2.on b3
 refine zf (λe4=>?_) (λe=>no (λh=>e (by rw[h])) hb3)
 refine(hA2.below b3).rS (n:=3) (x:=v.2.2.2.1) rfl ((hB2.below b3).rS (n:=3) (x:=u.2.2.2.1) rfl ?_)
 refine zr9 (IsC.below zU hf.bk hb3) (IsC.below zU hg.bk hb3) λw4 b4=>⟨_,rfl,?_⟩
 have:=hR w4 (hb3.on b4)
 have e:decide (f.bk=g.bk)=decide (f=g):=by
  rw[decide_eq_decide]
  constructor
  ·intro e5
   have q1:=hf.id.symm.trans (e1.trans hg.id)
   have q2:=hf.at_.symm.trans (e2.trans hg.at_)
   have q3:=hf.en.symm.trans (e3.trans hg.en)
   cases f;cases g
   simp_all
  ·intro h;rw[h]
 rw[e]
 exact this
theorem znP{fs:Sl}{L:List Fe}{vb:Nat}(hL:Fns w fs L)(hV:Blk w vb 46 (fvV v))(hf:IsFn w v f)(hR:∀w',Below w.heap.size w w'->R (.bool (decide (f∈L.map (·.1)))) w') :
  cR 33 #[.slice fs.a fs.l fs.c,.func (.func 34) #[] #[.pointer (some (blk vb))]] w R:=by
 refine za.of (Zk fs _ R w ?_) λ_ _ h=>h
 refine za.of (Z5 fs _ _ w ?_) λ_ _ h=>h
 have hl:=hL.len
 have hcap:fs.l<=9223372036854775807:=by
  have hc:IsC 5 feV w fs L:=Own.isC Yj (by omega) hL.own
  have:=hc.bound
  omega
 have hcf:Tryz.fs.contains 34=true:=by kernel_rfl
 refine zk.count L.length (by omega) (λk w'=>Below w.heap.size w w'/\∀j (h:j<L.length),j<k->L[j].1≠f) ⟨Below.refl _ _,λj _ h=>by omega⟩ ?_
 rintro k w1 hk ⟨hb,hj⟩ next hnext
 refine zf (λh=>?_) (λh=>?_)
 ·have hlt:k<L.length:=by dsimp only at h;omega
  refine znx (hL.below hb) hlt ?_
  unfold ZH
  simp only[hcf]
  refine za.of (zjh (L[k].1.id,L[k].1.at_,L[k].2.1,L[k].2.2,L[k].1.en,()) (blk vb) _ w1 ?_) λ_ _ h=>h
  refine zn λw2 hX2 b2 z2=>?_
  have hX2:Blk w2 w1.heap.size 46 (fvV (L[k].1.id,L[k].1.at_,L[k].2.1,L[k].2.2,L[k].1.en,())):=hX2
  have hb2:=hb.on b2
  refine Fv.load hX2 (Fv.load (hV.below hb2) ?_)
  refine zqp (((hL.below hb2).isFn (List.getElem_mem hlt))) (hf.below hb2) λw3 b3=>⟨_,rfl,_,rfl,?_⟩
  have hb3:=hb2.on b3
  refine zf (λe=>?_) (λe=>hnext w3 hlt ⟨hb3,λj q1 q2=>?_⟩)
  ·refine⟨_,rfl,?_⟩
   have:=hR w3 hb3
   rw[decide_eq_true (List.mem_map.2 ⟨L[k],List.getElem_mem hlt,e⟩)]at this
   rwa[decide_eq_true (by omega)]
  ·by_cases ej:j=k
   ·subst ej;exact e
   ·exact hj j q1 (by omega)
 ·refine⟨_,rfl,?_⟩
  have:=hR w1 hb
  rw[decide_eq_false (λhm=>by
   obtain⟨x,hx,e⟩:=List.mem_map.1 hm
   obtain⟨j,hj',rfl⟩:=List.getElem_of_mem hx
   exact hj j hj' (by dsimp only at h;omega) e)]at this
  exact this
end
section
variable {x:Mo} {pl:List PI} {w:World} {R:VWP}
theorem znQ(hN:IsPl w x.2.2.1 pl)(hp:PlOk pl)
  (hok:∀fs L w',(layP x.2.1 pl).1=0->Below w.heap.size w w'->Fns w' fs L->L.map (·.1)=cutF pl pl.length->R (.tuple #[.slice fs.a fs.l fs.c,.agg #[.int .i64 0,.int .i64 0]]) w')
  (hbad:∀w',(layP x.2.1 pl).1≠0->Below w.heap.size w w'->R (.tuple #[.slice none 0 0,.agg #[.int .i64 (layP x.2.1 pl).1,.int .i64 ((layP x.2.1 pl).2:Int)]]) w') :
  cR 13 #[moA x] w R:=by
 refine za.of (zjY x R w ?_) λ_ _ h=>h
 refine zn λw1 hB1 b1 z1=>?_
 have hB1:Blk w1 w.heap.size 25 (moV x):=hB1
 refine zn λw2 hC2 b2 z2=>?_
 have hC2:Blk w2 w1.heap.size 29 [.int .i64 0,.int .i64 0]:=hC2
 have hb2:=b1.on b2
 refine Mo.load (hB1.below b2) ?_
 refine zmV (x:=x) (hN.below hb2) hp (λbc ps fs L w3 hlay hC3 hP hL hF hcut hg=>⟨some (blk bc),(0,0,()),rfl,?_⟩) (λw3 b3 hne=>⟨none,((layP x.2.1 pl).1,((layP x.2.1 pl).2:Int),()),rfl,?_⟩)
 ·refine box2 rfl λw6 h6 b6 z6=>?_
  have b26:=hC3.b0.on b6
  have hCc:=(hC3.below b6).drew
  have hS6:=(hC2.below b26).drew
  have h6':=h6.drew
  refine zE rfl (zj rfl ?_)
  refine hCc.blk.rS (n:=22) (x:=fs) (zrN hCc.len) ?_
  have s26:=b26.size
  refine Sp.load h6' (st2 hS6 rfl λw8 hS8 c8=>Sp.load hS8 ?_)
  have hL6:Fns w6.drew fs L:=(hL.below b6).below (Below.refl _ _).drew
  exact hok fs L w8 (by rw[hlay]) (c8.below ((hb2.on b26).drew) (by omega)) (hL6.chg c8 hS6 (by decide) (by decide) (by decide)) hcut.symm
 ·refine box2 rfl λw6 h6 b6 z6=>?_
  have b26:=b3.on b6
  have hS6:=(hC2.below b26).drew
  have h6':=h6.drew
  refine zD rfl (Sp.load h6' (st2 hS6 rfl λw8 hS8 c8=>Sp.load hS8 ?_))
  exact hbad w8 hne (c8.below ((hb2.on b26).drew) (by omega))
end
theorem ztF:Tryz.prog.underlying 104=some (.map 22 3):=by kernel_rfl
section
variable {w:World} {R:VWP} {r:Nat} {M:List (Int×Int)}
theorem zlq{s:Sl}{ls:List Int}(hM:IsMp w r .i64 M)(hs:IsS (Value.int .u32) w s ls)(hmax:8*ls.length<=140737488355328)
  (hok:∀t w',(∀n∈ls,(zI M n).isSome=true)->Own w' 3 1 t ((ls.map λn=>(zI M n).getD 0).map (Value.int .i64))->zz w.heap.size t->Below w.heap.size w w'->R (.tuple #[.slice t.a t.l t.c,.bool true]) w')
  (hbad:∀w',(∃n∈ls,zI M n=none)->Below w.heap.size w w'->R (.tuple #[.slice none 0 0,.bool false]) w') :
  cR 37 #[.map (some r),.slice s.a s.l s.c] w R:=by
 refine za.of (zfA (some r) s R w ?_) λ_ _ h=>h
 have hl:=hs.len
 refine zk.countSl ls.length hs.bound (λk t w'=>Own w' 3 1 t (((ls.take k).map λn=>(zI M n).getD 0).map (Value.int .i64))/\zz w.heap.size t/\Below w.heap.size w w'/\∀j (h:j<ls.length),j<k->(zI M ls[j]).isSome=true)
  ⟨Own.nil _ _ _,λa ha=>by(cases ha),Below.refl _ _,λj _ h=>by omega⟩ ?_
 rintro k t w1 hk ⟨hO,hF,hb,hj⟩ next hnext
 refine zf (λh=>?_) (λh=>?_)
 ·have hlt:k<ls.length:=by dsimp only at h;omega
  refine zcK (hs.below hb) hlt (zmK ztF uU32 zInt (hM.below hb) ?_)
  refine zF (zo (λhsome=>?_) (λhnone=>?_))
  ·refine zn λw2 hD2 b2 z2=>?_
   have htl:t.l=k:=by
    have:=hO.1
    rw[List.length_map,List.length_map,List.length_take]at this
    omega
   refine y8 eInt (hO.below b2) (hb.on b2) hF rfl hD2 (by omega) (by omega) λt' w3 hO3 hb3 hF3=>hnext t' w3 hlt ⟨?_,hF3,hb3,λj q1 q2=>?_⟩
   ·rw[List.take_succ_eq_append_getElem hlt,List.map_append,List.map_append]
    exact hO3
   ·by_cases ej:j=k
    ·subst ej;exact hsome
    ·exact hj j q1 (by omega)
  ·have hnone:(zI M ls[k]).isSome=false:=hnone
   exact hbad w1 ⟨ls[k],List.getElem_mem hlt,by simpa using hnone⟩ hb
 ·have hk':k=ls.length:=by dsimp only at h;omega
  subst hk'
  rw[List.take_length]at hO
  refine hok t w1 (λn hn=>?_) hO hF hb
  obtain⟨j,hj',rfl⟩:=List.getElem_of_mem hn
  exact hj j hj' hj'
def mrgP(M:List (Int×Int))(op:Int)(al:List Ag)(lop:Int):Option Mg:=
 if op=247 then(match zI M (al.getD 0 ag0).2.1 with
  |some a=>some (if lop=251 then 3 else 1,a,-1)
  |none=>none)
 else if op=246 then(match zI M (al.getD 0 ag0).2.1,zI M (al.getD 1 ag0).2.1 with
  |some a,some b=>some (2,a,b)
  |_,_=>none)
 else some (0,-1,-1)
theorem zlJ{i last:Ins}{al:List Ag}(hM:IsMp w r .i64 M)(hI:IsAg w i.2.2.2.1 al)(h1:i.1=247->0<al.length)(h2:i.1=246->1<al.length)
  (hR:∀(m:Mg) (b:Bool) w',Below w.heap.size w w'->(b=true->mrgP M i.1 al last.1=some m)->(b=false->mrgP M i.1 al last.1=none)->R (.tuple #[.agg #[.int .u8 m.1,.int .i64 m.2.1,.int .i64 m.2.2],.bool b]) w') :
  cR 36 #[.map (some r),inA i,inA last] w R:=by
 refine za.of (ze1 (some r) i last R w ?_) λ_ _ h=>h
 refine zn λw1 hA1 b1 z1=>?_
 have hA1:Blk w1 w.heap.size 50 (inV i):=hA1
 refine zn λw2 hB2 b2 z2=>?_
 have hB2:Blk w2 w1.heap.size 50 (inV last):=hB2
 refine zn λw3 hX3 b3 z3=>?_
 have hX3:Blk w3 w2.heap.size 106 [.int .u8 0,.int .i64 0,.int .i64 0]:=hX3
 refine box3 rfl λw7 hY7 b7 z7=>?_
 have hY7:Blk w7 w3.heap.size 106 (mgV (0,-1,-1)):=hY7
 have b17:=(b2.on b3).on b7
 have hb7:=b1.on b17
 have hA7:=hA1.below b17
 have hB7:=hB2.below (b3.on b7)
 have hX7:=hX3.below b7
 have hM7:=hM.below hb7
 have hI7:IsAg w7 i.2.2.2.1 al:=hI.below hb7
 have hal:=hI.len
 have out:∀{w':World} (y:Mg),Blk w' w2.heap.size 106 [.int .u8 0,.int .i64 0,.int .i64 0]->∀{K:Int->Int->Int->World->Prop},(∀w'',Chg w2.heap.size w' w''->K y.1 y.2.1 y.2.2 w'')->
   Wr w' (blk w2.heap.size)/\Nw (w'.setCell (blk w2.heap.size) (.int .u8 y.1)) λw10=>Wr w10 ((blk w2.heap.size).add 1)/\Nw (w10.setCell ((blk w2.heap.size).add 1) (.int .i64 y.2.1)) λw11=>Wr w11 ((blk w2.heap.size).add 2)/\Nw (w11.setCell ((blk w2.heap.size).add 2) (.int .i64 y.2.2)) λw12=>
    ldI w12 ((blk w2.heap.size).add 0) .u8 λx11=>ldI w12 ((blk w2.heap.size).add 1) .i64 λx12=>ldI w12 ((blk w2.heap.size).add 2) .i64 λx13=>K x11 x12 x13 w12:=λ{w'} y hX {K} hK=>
  st3 hX rfl λw'' hX'' c=>hX''.rI (n:=0) (x:=y.1) rfl (hX''.rI (n:=1) (x:=y.2.1) rfl (hX''.rI (n:=2) (x:=y.2.2) rfl (hK w'' c)))
 have ldY:∀{w':World},Blk w' w3.heap.size 106 (mgV (0,-1,-1))->∀{φ:Int->Int->Int->Prop},φ 0 (-1) (-1)->ldI w' ((blk w3.heap.size).add 0) .u8 λx8=>ldI w' ((blk w3.heap.size).add 1) .i64 λx9=>ldI w' ((blk w3.heap.size).add 2) .i64 λx10=>φ x8 x9 x10:=λ{w'} hY {φ} hφ=>
  hY.rI (n:=0) (x:=0) rfl (hY.rI (n:=1) (x:=-1) rfl (hY.rI (n:=2) (x:=-1) rfl hφ))
 refine hA7.rI0 (x:=i.1) rfl (zm (λe247=>?_) (λe247=>?_))
 ·have hl0:=h1 e247
  have hm:mrgP M i.1 al last.1=(match zI M (al.getD 0 ag0).2.1 with
    |some a=>some (if last.1=251 then 3 else 1,a,-1)
    |none=>none):=by unfold mrgP;rw[if_pos e247]
  refine hA7.rS (n:=3) (x:=i.2.2.2.1) rfl ?_
  refine zbt hI7 (k:=0) hl0 ?_
  refine zn λw8 hD8 b8 z8=>?_
  have hD8:Blk w8 w7.heap.size 22 (([al[0].2.1]:List Int).map (Value.int .u32)):=hD8
  refine zlq (s:=⟨some (blk w7.heap.size),1,1⟩) (ls:=[al[0].2.1]) (hM7.below b8) (hD8.isS rfl rfl (Nat.le_refl _) (by dsimp only;omega)) (by simp) (λt w9 hs hO9 hF9 b9=>⟨t,true,rfl,zE rfl ?_⟩) (λw9 hn b9=>⟨⟨none,0,0⟩,false,rfl,zD rfl ?_⟩)
  ·have b79:=b8.on b9
   have hs0:=hs _ (List.mem_singleton.2 rfl)
   obtain⟨a,ha⟩:=Option.isSome_iff_exists.1 hs0
   rw[zs hl0,ha]at hm
   have hO9:Own w9 3 1 t ([a].map (Value.int .i64)):=by
    simp only[List.map_cons,List.map_nil,ha,Option.getD_some]at hO9⊢
    exact hO9
   refine zl.cut (λ(st:Int×Unit) w'=>w'=w9/\st.1=if last.1=251 then 3 else 1) ?_ ?_
   ·refine(hB7.below b79).rI0 (x:=last.1) rfl (zm (λe=>⟨rfl,?_⟩) (λe=>⟨rfl,?_⟩))
    ·rw[if_pos e]
    ·rw[if_neg e]
   ·rintro⟨kd,_⟩ w9 ⟨rfl,rfl⟩
    refine zdz hO9.isS (k:=0) (by simp) ?_
    refine out (if last.1=251 then 3 else 1,a,-1) (hX7.below b79) λw12 c12=>?_
    exact hR _ true w12 (c12.below (hb7.on b79) (by have:=b1.size;have:=b2.size;omega)) (λ_=>hm) (λh=>by cases h)
  ·have b79:=b8.on b9
   obtain⟨n,hn1,hn2⟩:=hn
   rw[List.mem_singleton.1 hn1]at hn2
   rw[zs hl0,hn2]at hm
   refine ldY (hY7.below b79) (out (0,-1,-1) (hX7.below b79) λw12 c12=>?_)
   exact hR (0,-1,-1) false w12 (c12.below (hb7.on b79) (by have:=b1.size;have:=b2.size;omega)) (λh=>by cases h) (λ_=>hm)
 refine zm (λe246=>?_) (λe246=>?_)
 ·have hl0:=h2 e246
  have hm:mrgP M i.1 al last.1=(match zI M (al.getD 0 ag0).2.1,zI M (al.getD 1 ag0).2.1 with
    |some a,some b=>some (2,a,b)
    |_,_=>none):=by unfold mrgP;rw[if_neg e247,if_pos e246]
  have bd:Below w7.heap.size w7 w7.drew:=(Below.refl _ _).drew
  have hId:IsAg w7.drew i.2.2.2.1 al:=hI7.below bd
  refine hA7.drew.rS (n:=3) (x:=i.2.2.2.1) rfl ?_
  refine zbt hId (k:=0) (by omega) ?_
  refine hA7.drew.rS (n:=3) (x:=i.2.2.2.1) rfl ?_
  refine zbt hId (k:=1) hl0 ?_
  refine zn λw8 hD8 b8 z8=>?_
  have hD8:Blk w8 w7.drew.heap.size 22 (([al[0].2.1,al[1].2.1]:List Int).map (Value.int .u32)):=hD8
  have b78:=bd.on b8
  refine zlq (s:=⟨some (blk w7.drew.heap.size),2,2⟩) (ls:=[al[0].2.1,al[1].2.1]) (hM7.below b78) (hD8.isS rfl rfl (Nat.le_refl _) (by dsimp only;omega)) (by simp) (λt w9 hs hO9 hF9 b9=>⟨t,true,rfl,zE rfl ?_⟩) (λw9 hn b9=>⟨⟨none,0,0⟩,false,rfl,zD rfl ?_⟩)
  ·have b79:=b78.on b9
   obtain⟨a,ha⟩:=Option.isSome_iff_exists.1 (hs al[0].2.1 (by simp))
   obtain⟨b,hb⟩:=Option.isSome_iff_exists.1 (hs al[1].2.1 (by simp))
   rw[zs (show 0<al.length by omega),zs hl0,ha,hb]at hm
   have hO9:Own w9 3 1 t ([a,b].map (Value.int .i64)):=by
    simp only[List.map_cons,List.map_nil,ha,hb,Option.getD_some]at hO9⊢
    exact hO9
   refine zdz hO9.drew.isS (k:=0) (by simp) (zdz hO9.drew.isS (k:=1) (by simp) ?_)
   refine out (2,a,b) ((hX7.below b79).drew) λw12 c12=>?_
   exact hR _ true w12 (c12.below ((hb7.on b79).drew) (by have:=b1.size;have:=b2.size;omega)) (λ_=>hm) (λh=>by cases h)
  ·have b79:=b78.on b9
   obtain⟨n,hn1,hn2⟩:=hn
   have hm':mrgP M i.1 al last.1=none:=by
    rw[hm,zs (show 0<al.length by omega),zs hl0]
    rcases List.mem_cons.1 hn1 with e |e
    ·rw[<-e,hn2]
    ·rw[<-List.mem_singleton.1 e,hn2]
     cases zI M al[0].2.1<;>rfl
   refine ldY (hY7.below b79) (out (0,-1,-1) (hX7.below b79) λw12 c12=>?_)
   exact hR (0,-1,-1) false w12 (c12.below (hb7.on b79) (by have:=b1.size;have:=b2.size;omega)) (λh=>by cases h) (λ_=>hm')
 ·refine ldY hY7 (out (0,-1,-1) hX7 λw12 c12=>?_)
  exact hR (0,-1,-1) true w12 (c12.below hb7 (by have:=b1.size;have:=b2.size;omega)) (λ_=>by unfold mrgP;rw[if_neg e247,if_neg e246]) (λh=>by cases h)
end
theorem zb2{P:Program}{t e:TypeId}{sz bytes:Nat}(he:YT P t e sz bytes){w0 w:World}{s:Sl}{xs:List Value}(h:Own w e sz s xs)(hb:Below w0.heap.size w0 w)(hF:zz w0.heap.size s){vs:List Value}(hvs:vs.length=sz)(hv:∀u∈vs,u.oneCell'=true){b c:Nat}{T:TypeId}
  (hB:Blk w b T vs) (h63:s.l+1<=9223372036854775807) (hbytes:(s.l+1)*bytes<=140737488355328) {k:Sl->World->Prop}
  (hk:∀r w',Own w' e sz r (xs++vs)->Below w0.heap.size w0 w'->zz w0.heap.size r->w.heap.size<=w'.heap.size->(∀i,i<w.heap.size->s.a≠some (blk i)->w'.heap[i]? =w.heap[i]?)->k r w'):zp P t (.slice s.a s.l s.c) (.slice (some (blk b)) 1 c) w k:=by
 refine ZX he h (news:=vs) (by omega) (λj u hj=>hB.cell hj) hv h63 hbytes λr w' h1 hl' hg=>?_
 rcases hg with⟨_,_,h3⟩ | ⟨b',h3,h4,h5⟩
 ·rw[h3]at hl';omega
 ·have hbb:w0.heap.size<=b':=by
   rcases h4 with h4 |h4
   ·exact hF _ h4
   ·have:=hb.size
    omega
  refine hk r w' h1 (hb.trans (yf h5 hbb hb.size)) (λa ha=>by rw[h3]at ha;cases ha;exact hbb) (yf h5 (Nat.zero_le _) (Nat.zero_le _)).size λi hi hne=>h5.block _ hi λe=>?_
  have e:=Option.some.inj e
  subst e
  rcases h4 with h4 |h4
  ·exact hne h4
  ·omega
section
variable {w w' w0:World} {B:Nat} {s t:Sl} {pl:List PI} {p:PI}
theorem yI{T T':TypeId}{sz b:Nat}{xs cs:List Value}(h:Own w T sz s xs)(hB:Blk w b T' cs)(hT:T≠T'):s.a≠some (Gk.blk b):=λe=>by
 obtain⟨cs',h'⟩:=h.type e
 exact Blk.apart h' hB hT rfl
theorem Zz{T T':TypeId}{sz sz':Nat}{xs ys:List Value}(h:Own w T sz s xs)(k:Own w T' sz' t ys)(hT:T≠T'){a:Addr}(ha:t.a=some a):s.a≠some (Gk.blk a.block):=λe=>by
 obtain⟨cs',h'⟩:=k.type ha
 exact yI h h' hT e
end
theorem zou:∀(l:List Ag) (i:Nat) (h:i<l.length) (v:Int),(flat agV l).set (i*3+1) (.int .u32 v)=flat agV (l.set i (l[i].1,v,l[i].2.2))
 |a::l,0,_,v=>rfl
 |a::l,i+1,h,v=>by
  have ih:=zou l i (by simpa using h) v
  simp only[flat,List.flatMap_cons,List.set_cons_succ,List.getElem_cons_succ]at ih⊢
  rw[List.set_append_right _ _ (by rw[zcN];omega),zcN,<-ih]
  congr 2
  omega
theorem Own.num{w:World}{q:Sl}{b:Nat}{l:List Ag}(h:Own w 136 3 q (flat agV l))(ha:q.a=some (blk b)){i:Nat}(hi:i<l.length)(v:Int) :
  Wr w ((blk b).add (i*3+1))/\Own (w.setCell ((blk b).add (i*3+1)) (.int .u32 v)) 136 3 q (flat agV (l.set i (l[i].1,v,l[i].2.2))):=by
 obtain⟨h1,h2⟩:=h
 rw[zO zcN]at h1
 rcases h2 with rfl | ⟨b',cs,e,hB,h3,h4,h5,h6⟩
 ·cases ha
 ·rw[ha]at e
  have e:b=b':=by injection e with e;injection e
  subst e
  refine⟨hB.wr ?_,by rw[zO zcN,List.length_set];exact h1,.inr ⟨b,_,ha,hB.set _ _,h3,h4,by rw[List.length_set];exact h5,?_⟩⟩
  ·have:q.l*3<=q.c*3:=Nat.mul_le_mul_right _ h3
   omega
  ·rw[List.take_set,h6,zou l i hi v]
end Go.Proofs
