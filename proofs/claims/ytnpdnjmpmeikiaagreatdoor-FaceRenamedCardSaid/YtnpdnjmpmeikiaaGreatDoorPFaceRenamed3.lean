/- FaceRenamed, part 3; made small by a program. -/
import Derived.MapKept
import Derived.Test.YtnpdnjmpmeikiaaGreatDoorProg
import Derived.Lib.Bytealg
import Derived.Laws.CopyRow
import Derived.Maps.RangeRun
import Derived.ScopeJumps
import Derived.Test.YtnpdnjmpmeikiaaGreatDoorPFaceRenamed2
set_option linter.unusedVariables false
namespace Go.Gk
open Go.RowKit
theorem Blk.put{w:World}{b:Nat}{T:TypeId}{cs:List Value}(h:Blk w b T cs){l:Nat}(hl:b≠l)(o:Obj):Blk (w.putObj l o) b T cs:=h.of_block (World.putObj_heap_other hl)
theorem _root_.Go.RowKit.Below.putObj{B:Nat}{w w':World}(h:Below B w w'){b:Nat}(hb:B<=b)(o:Obj):Below B w (w'.putObj b o):=
 ⟨h.os,h.tape,h.output,by simpa using h.size,λk hk=>(World.putObj_heap_other (by omega)).trans (h.block k hk)⟩
theorem zlc(w:World)(o o':Obj):Below w.heap.size w ((w.alloc o).alloc o'):=(((Below.refl _ _).alloc (Nat.le_refl _) o).alloc (by simp) o')
theorem zrG(w:World)(o o':Obj):((w.alloc o).alloc o').heap.size=w.heap.size+2:=by simp
theorem zti(w:World)(o o':Obj):((w.alloc o).alloc o').heap[w.heap.size]? =some o:=(zg1 (w.alloc o) o' (by simp)).trans (World.alloc_heap_new w o)
theorem ztj(w:World)(o o':Obj):((w.alloc o).alloc o').heap[w.heap.size+1]? =some o':=by
 have:=World.alloc_heap_new (w.alloc o) o'
 simpa using this
theorem zkE{d:Nat}{w:World}{k:World->Prop}(h:w.heap[d]? =some (.deferred (some [])))(hk:k (w.putObj d (.deferred none))):ze9 [d] w k:=⟨h,hk⟩
theorem zJ.mono{P:Program}{fs:List Nat}{f:Value}{args:List Value}{w:World}{S T:VWP}(h:zJ P fs f args w S)(hk:∀v w',S v w'->T v w'):zJ P fs f args w T:=by
 revert h
 unfold zJ
 split
 ·split
  ·exact λh=>za.mono h hk
  ·rintro⟨v,w',h1,h2⟩
   exact⟨v,w',h1,hk _ _ h2⟩
 ·rintro⟨r,h1,h2,h3⟩
  exact⟨r,h1,h2,RoundIn.mono h3 λe w' he=>by cases e<;>first |exact hk _ _ he |exact he.elim⟩
 ·exact id
end Go.Gk
namespace Go.Gk
open Go.RowKit Go.MapKept
variable {P:Program}
def zU:List (Int×Int)->Int->Option Int
 | [],_=>none
 |p::r,k=>if k=p.1 then some p.2 else zU r k
def setL:List (Int×Int)->Int->Int->List (Int×Int)
 | [],k,v=>[(k,v)]
 |p::r,k,v=>if k=p.1 then(k,v)::r else p::setL r k v
theorem za1(k v k':Int):∀L,zU (setL L k v) k'=if k'=k then some v else zU L k'
 | []=>by simp only[setL,zU]
 |p::r=>by
  have ih:=za1 k v k' r
  simp only[setL]
  split
  ·rename_i e
   simp only[zU]
   split
   ·rfl
   ·rename_i e'
    rw[if_neg (by rw[<-e];exact e')]
  ·rename_i e
   simp only[zU]
   split
   ·rename_i e'
    rw[if_neg (by rw[e'];exact λh=>e h.symm)]
   ·exact ih
def IsMp(w:World)(r:Nat)(κ:IntKind)(L:List (Int×Int)):Prop:=
 ∃es clock,w.heap[r]? =some (.map es clock)/\es.toList.map (λe=>(e.key,e.val))=(L.map λp=>(Value.int .u32 p.1,Value.int κ p.2))/\(∀x∈es.toList,x.born<clock)/\(es.toList.map (·.born)).Nodup
theorem IsMp.lt{w:World}{r:Nat}{κ:IntKind}{L:List (Int×Int)}(h:IsMp w r κ L):r<w.heap.size:=by
 obtain⟨es,c,h,_⟩:=h
 exact(Array.getElem?_eq_some_iff.1 h).1
theorem IsMp.of_block{w w':World}{r:Nat}{κ:IntKind}{L:List (Int×Int)}(h:IsMp w r κ L)(hb:w'.heap[r]? =w.heap[r]?):IsMp w' r κ L:=by
 obtain⟨es,c,h,h2⟩:=h
 exact⟨es,c,hb.trans h,h2⟩
theorem IsMp.below{w w':World}{r:Nat}{κ:IntKind}{L:List (Int×Int)}(h:IsMp w r κ L)(hb:Below w.heap.size w w'):IsMp w' r κ L:=h.of_block (hb.block r h.lt)
theorem IsMp.new(w:World)(κ:IntKind):IsMp (w.alloc (.map #[] 0)) w.heap.size κ []:=⟨#[],0,by show(w.heap.push _)[w.heap.size]? =_;simp,rfl,(by simp),by simp⟩
theorem zh3(κ:IntKind)(k:Int):∀(es:List MapEntry) (L:List (Int×Int)) (i:Nat),es.map (λe=>(e.key,e.val))=(L.map λp=>(Value.int .u32 p.1,Value.int κ p.2))->
  ∃o,Instr.findNow (.int .u32) (.int .u32 k) es i=some o/\(match o with
   |none=>zU L k=none
   |some (j,v)=>∃m x,j=i+m/\m<es.length/\v =.int κ x/\zU L k=some x/\∃e,es[m]? =some e/\e.key =.int .u32 k/\∀v',(es.modify m λe=>{e with key:=.int .u32 k,val:=.int κ v'}).map (λe=>(e.key,e.val))=(setL L k v').map λp=>(Value.int .u32 p.1,Value.int κ p.2))
 | [],[],i,_=>⟨none,rfl,rfl⟩
 | [],_::_,_,h=>by simp at h
 |_::_,[],_,h=>by simp at h
 |e::es,p::L,i,h=>by
  simp only[List.map_cons,List.cons.injEq,Prod.mk.injEq]at h
  obtain⟨⟨h1,h2⟩,h3⟩:=h
  unfold Instr.findNow
  rw[h1]
  simp only[Instr.sameNow,if_true]
  by_cases hk:k=p.1
  ·rw[show(k==p.1)=true from beq_iff_eq.2 hk]
   refine⟨some (i,e.val),rfl,0,p.2,rfl,by simp,h2,by simp[zU,hk],e,rfl,by rw[h1,hk],λv'=>?_⟩
   simp[setL,hk,h3]
  ·rw[show(k==p.1)=false from beq_eq_false_iff_ne.2 hk]
   obtain⟨o,ho,hm⟩:=zh3 κ k es L (i+1) h3
   refine⟨o,ho,?_⟩
   cases o with
   |none=>simpa[zU,hk] using hm
   |some q=>
    obtain⟨j,v⟩:=q
    obtain⟨m,x,g1,g2,g3,g4,e',g5,g6,g7⟩:=hm
    refine⟨m+1,x,by omega,by simp;omega,g3,by simpa[zU,hk] using g4,e',by simpa using g5,g6,λv'=>?_⟩
    have:=g7 v'
    simp[setL,hk,h1,h2,this]
theorem zjX{t kt et:TypeId}(ht:P.underlying t=some (.map kt et))(hk:P.underlying kt=some (.int .u32)){κ:IntKind}(hz:∃i,P.info? et=some i/\i.zero=some (.int κ 0)){w:World}{r:Nat}{L:List (Int×Int)}(h:IsMp w r κ L)(k:Int)(ok:Bool) :
  (Instr.lookup t (.map (some r)) (.int .u32 k) ok).run P w =.ok (if ok then .tuple #[.int κ ((zU L k).getD 0),.bool (zU L k).isSome] else .int κ ((zU L k).getD 0)) w:=by
 obtain⟨es,c,hb,hes,_⟩:=h
 obtain⟨i,hi,hzi⟩:=hz
 obtain⟨o,ho,hm⟩:=zh3 κ k es.toList L 0 hes
 unfold Instr.lookup
 have hck:∀e,(Instr.checkKey e 10000 kt (.int .u32 k)).run P w =.ok () w:=λe=>run_checkKey (d:=.int .u32) hk (by simp[IsKey]) e 9999
 have hg:(getObj r).run P w =.ok (.map es c) w:=Go.MapKept.run_getObj_map hb
 simp only[Sem.run_bind,run_underlying ht,Result.andThen_ok,hg,Sem.run_pure,hck,run_findKey hk ho]
 cases o with
 |none=>
  have hzr:(zeroValue et).run P w =.ok (.int κ 0) w:=by simp[zeroValue,typeInfo,hi,hzi,Result.andThen]
  have hm:zU L k=none:=hm
  simp only[Sem.run_bind,hzr,Result.andThen_ok,Sem.run_pure,hm,Option.getD_none,Option.isSome_none]
 |some q=>
  obtain⟨j,v⟩:=q
  obtain⟨m,x,g1,g2,g3,g4,_⟩:=hm
  simp only[Sem.run_bind,Sem.run_pure,Result.andThen_ok,g3,g4,Option.getD_some,Option.isSome_some]
theorem zj1{t kt et:TypeId}(ht:P.underlying t=some (.map kt et))(hk:P.underlying kt=some (.int .u32)){κ:IntKind}(hz:∃i,P.info? et=some i/\i.zero=some (.int κ 0)){w:World}{r:Nat}{L:List (Int×Int)}(h:IsMp w r κ L){k:Int}{φ:Int->Bool->Prop}
  (hφ:φ ((zU L k).getD 0) (zU L k).isSome):lookOk P t (.map (some r)) (.int .u32 k) (BK.int κ) w φ:=⟨(zU L k).getD 0,(zU L k).isSome,zjX ht hk hz h k true,hφ⟩
theorem zox{t kt et:TypeId}(ht:P.underlying t=some (.map kt et))(hk:P.underlying kt=some (.int .u32)){κ:IntKind}(hz:∃i,P.info? et=some i/\i.zero=some (.int κ 0)){w:World}{r:Nat}{L:List (Int×Int)}(h:IsMp w r κ L){k:Int}{φ:Int->Prop}
  (hφ:φ ((zU L k).getD 0)):YT P t (.map (some r)) (.int .u32 k) (BK.int κ) w φ:=⟨(zU L k).getD 0,zjX ht hk hz h k false,hφ⟩
theorem zkz{t kt et:TypeId}(ht:P.underlying t=some (.map kt et))(hk:P.underlying kt=some (.int .u32)){κ:IntKind}{w:World}{r:Nat}{L:List (Int×Int)}(h:IsMp w r κ L){k v:Int}{K:World->Prop}
  (hK:∀w',IsMp w' r κ (setL L k v)->Go.Proofs.Chg r w w'->K w'):updW P t (.map (some r)) (.int .u32 k) (.int κ v) w K:=by
 have hlt:=h.lt
 obtain⟨es,c,hb,hes,hstamp,hnd⟩:=h
 obtain⟨o,ho,hm⟩:=zh3 κ k es.toList L 0 hes
 have hck:∀e,(Instr.checkKey e 10000 kt (.int .u32 k)).run P w =.ok () w:=λe=>run_checkKey (d:=.int .u32) hk (by simp[IsKey]) e 9999
 have hg:(getObj r).run P w =.ok (.map es c) w:=Go.MapKept.run_getObj_map hb
 have chg:∀ob:Obj,Go.Proofs.Chg r w {w with heap:=w.heap.setIfInBounds r ob}:=λob=>⟨rfl,rfl,rfl,by simp,λi hi=>by simp[Array.getElem?_setIfInBounds_ne (Ne.symm hi)]⟩
 unfold updW Instr.mapUpdate
 simp only[Sem.run_bind,run_underlying ht,Result.andThen_ok,hg,hck,run_findKey hk ho]
 cases o with
 |none=>
  simp only[run_setObj_map _ hb]
  refine⟨_,rfl,hK _ ⟨_,_,(heap_set hb).1,?_,λx hx=>?_,?_⟩ (chg _)⟩
  rotate_left
  ·rw[Array.toList_push]at hx
   rcases List.mem_append.1 hx with hx |hx
   ·exact Nat.lt_succ_of_lt (hstamp x hx)
   ·rw[List.mem_singleton.1 hx]
    exact Nat.lt_succ_self c
  ·rw[Array.toList_push,List.map_append]
   refine List.nodup_append.2 ⟨hnd,by simp,?_⟩
   intro a ha b hb e
   obtain⟨x,hx,rfl⟩:=List.mem_map.1 ha
   simp only[List.map_cons,List.map_nil,List.mem_singleton]at hb
   have:=hstamp x hx
   omega
  simp only[Array.toList_push,List.map_append,hes,List.map_cons,List.map_nil]
  have:∀L:List (Int×Int),zU L k=none->setL L k v=L++[(k,v)]:=by
   intro L
   induction L with
   |nil=>intro _;rfl
   |cons p r ih=>
    intro hn
    simp only[zU]at hn
    split at hn
    ·cases hn
    ·rename_i e
     simp only[setL]
     rw[if_neg e,ih hn]
     rfl
  rw[this L hm]
  simp
 |some q=>
  obtain⟨j,v0⟩:=q
  obtain⟨m,x,g1,g2,g3,g4,e,g5,g6,g7⟩:=hm
  have hj:j=m:=by omega
  subst hj
  have hst:(Instr.keyThatStays (((es[j]?).map (·.key)).getD (.int .u32 k)) (.int .u32 k)).run P w =.ok (.int .u32 k) w:=by
   have:((es[j]?).map (·.key)).getD (.int .u32 k) =.int .u32 k:=by
    rw[<-Array.getElem?_toList,g5]
    exact g6
   rw[this]
   unfold Instr.keyThatStays
   rw[if_pos (by simp[Instr.sameBits])]
   rfl
  simp only[Sem.run_bind,hst,Result.andThen_ok,run_setObj_map _ hb]
  have hbn:(es.modify j λe=>{e with key:=.int .u32 k,val:=.int κ v}).toList.map (·.born)=es.toList.map (·.born):=by
   rw[Array.toList_modify]
   apply List.ext_getElem
   ·simp
   ·intro n q1 q2
    simp only[List.getElem_map,List.getElem_modify]
    split<;>rfl
  refine⟨_,rfl,hK _ ⟨_,_,(heap_set hb).1,?_,λx hx=>?_,by rw[hbn];exact hnd⟩ (chg _)⟩
  rotate_left
  ·have:x.born∈es.toList.map (·.born):=by rw[<-hbn];exact List.mem_map.2 ⟨x,hx,rfl⟩
   obtain⟨y,hy,e⟩:=List.mem_map.1 this
   rw[<-e]
   exact hstamp y hy
  have:=g7 v
  rw[<-this]
  congr 1
  rw[Array.toList_modify]
end Go.Gk
namespace Go.Gm
open Go.Gk
def numS(n:Int)(c:UInt8):Int:=IntKind.u32.wrap (IntKind.u32.wrap (10*n)+IntKind.u32.wrap (IntKind.i32.wrap ((c.toNat:Int)-48)))
def numP(s:Bs):Int:=s.foldl numS 0
abbrev EnS:=Int×Bs×Bool×List (Int×Bs)
def enS(st:EnS)(c:UInt8):EnS:=
 if c=32 then(if st.2.2.1=true then(st.1,[],false,st.2.2.2++[(st.1,st.2.1)]) else(numP st.2.1,[],true,st.2.2.2)) else(st.1,st.2.1++[c],st.2.2.1,st.2.2.2)
def enG(s:Bs):EnS:=s.foldl enS (0,[],false,[])
def enL(c:Int):List (Int×Bs):=(enG ((Gm.look tabN c).getD [])).2.2.2
theorem zsM(s:Bs)(c:UInt8):enG (s++[c])=enS (enG s) c:=by simp[enG,List.foldl_append]
theorem zuu(st:EnS)(c:UInt8):st.2.2.2 <+:(enS st c).2.2.2:=by
 unfold enS
 split
 ·split
  ·exact List.prefix_append _ _
  ·exact List.prefix_refl _
 ·exact List.prefix_refl _
theorem zr6(l:Bs):∀st:EnS,st.2.2.2 <+:(l.foldl enS st).2.2.2:=by
 induction l with
 |nil=>intro st;exact List.prefix_refl _
 |cons c l ih=>intro st;exact(zuu st c).trans (ih _)
theorem zut(s:Bs)(k:Nat):(enG (s.take k)).2.2.2 <+:(enG s).2.2.2:=by
 have:enG s=(s.drop k).foldl enS (enG (s.take k)):=by
  unfold enG
  rw[<-List.foldl_append,List.take_append_drop]
 rw[this]
 exact zr6 _ _
theorem zsN(s:Bs):(enG s).2.1.length<=s.length:=by
 suffices h:∀(l:Bs) (st:EnS),(l.foldl enS st).2.1.length<=st.2.1.length+l.length by
  have:=h s (0,[],false,[])
  unfold enG
  simpa using this
 intro l
 induction l with
 |nil=>intro st;simp
 |cons c l ih=>
  intro st
  have h1:=ih (enS st c)
  have h2:(enS st c).2.1.length<=st.2.1.length+1:=by
   unfold enS
   split
   ·split<;>simp
   ·simp
  simp only[List.foldl_cons,List.length_cons]
  omega
theorem zry{s:Bs}(h:∀c∈s,c<128):∀c∈(enG s).2.1,c<128:=by
 suffices g:∀(l:Bs) (st:EnS),(∀c∈l,c<128)->(∀c∈st.2.1,c<128)->∀c∈(l.foldl enS st).2.1,c<128 from g s (0,[],false,[]) h (by simp)
 intro l
 induction l with
 |nil=>intro st _ h;exact h
 |cons c l ih=>
  intro st hl hs
  refine ih (enS st c) (λd hd=>hl d (List.mem_cons_of_mem _ hd)) ?_
  unfold enS
  split
  ·split<;>simp
  ·intro d hd
   rcases List.mem_append.1 hd with h |h
   ·exact hs d h
   ·rw[List.mem_singleton.1 h];exact hl c List.mem_cons_self
theorem zo6:tabN.all (λp=>p.2.all (·<128)&&decide (p.2.length<=200))=true:=by decide +kernel
theorem zpK:tabN.all (λp=>decide ((enG p.2).2.2.2=(tabM.filter λq=>decide (q.1=p.1)).map (·.2)))=true:=by decide +kernel
def zhh(c n:Int):Bool:=tabM.any λq=>decide (q.1=c)&&decide (q.2.1=n)
theorem zrV(c:Int):(∀b∈(Gm.look tabN c).getD [],b<128)/\((Gm.look tabN c).getD []).length<=200:=by
 cases h:Gm.look tabN c with
 |none=>simp
 |some s=>
  have:=List.all_eq_true.1 zo6 _ (ZE h)
  simp only[Bool.and_eq_true,List.all_eq_true,decide_eq_true_eq]at this
  exact this
theorem zoc(c n:Int):zhh c n=true↔∃x∈enL c,x.1=n:=by
 unfold zhh enL
 rw[List.any_eq_true]
 cases h:Gm.look tabN c with
 |none=>
  constructor
  ·rintro⟨q,hq,e⟩
   rw[Bool.and_eq_true,decide_eq_true_eq]at e
   have:=List.all_eq_true.1 zo7 _ hq
   rw[e.1,h]at this
   cases this
  ·rintro⟨x,hx,_⟩
   cases hx
 |some s=>
  have:=of_decide_eq_true (List.all_eq_true.1 zpK _ (ZE h))
  simp only[Option.getD_some]at this⊢
  rw[this]
  constructor
  ·rintro⟨q,hq,e⟩
   rw[Bool.and_eq_true,decide_eq_true_eq,decide_eq_true_eq]at e
   exact⟨q.2,List.mem_map.2 ⟨q,List.mem_filter.2 ⟨hq,decide_eq_true e.1⟩,rfl⟩,e.2⟩
  ·rintro⟨x,hx,e⟩
   obtain⟨q,hq,rfl⟩:=List.mem_map.1 hx
   obtain⟨h1,h2⟩:=List.mem_filter.1 hq
   refine⟨q,h1,?_⟩
   rw[Bool.and_eq_true,decide_eq_true_eq]
   exact⟨of_decide_eq_true h2,decide_eq_true e⟩
end Go.Gm
namespace Go.Proofs
open Go.Gk Go.RowKit Go.Gm
theorem zgn{w:World}{l:Nat}(h:l<w.heap.size)(o:Obj):(w.putObj l o).heap[l]? =some o:=by simp[World.putObj,h]
theorem zoB{s:Bs}(h128:∀c∈s,c<128){w:World}{R:VWP}(hR:∀w',Below w.heap.size w w'->R (.int .u32 (numP s)) w'):cR 216 #[.string (bs s)] w R:=by
 refine za.of (zfY (bs s) R w ?_) λ_ _ h=>h
 refine Nw.gen λw1 e1=>?_
 have hI1:w1.heap[w.heap.size]? =some (.stringIter (bs s) 0):=by
  rw[e1]
  show(w.heap.push _)[w.heap.size]? =_
  simp
 have z1:w1.heap.size=w.heap.size+1:=by rw[e1];simp
 have b1:Below w.heap.size w w1:=by rw[e1];exact(Below.refl _ _).alloc (Nat.le_refl _) _
 clear e1
 refine zm.ghost (λj st w'=>∃k,k<=s.length/\j=s.length-k/\st=(numP (s.take k),())/\w'.heap.size=w.heap.size+1/\Below w.heap.size w w'/\w'.heap[w.heap.size]? =some (.stringIter (bs s) k)) s.length ⟨0,Nat.zero_le _,rfl,rfl,z1,b1,hI1⟩ ?_
 rintro _ _ w2 ⟨k,hk,rfl,rfl,hz,hb,hI⟩ next hnext
 refine⟨bs s,k,hI,λhlt=>?_,λhge=>?_⟩
 ·rw[yp]at hlt
  rw[zce hlt (h128 _ (List.getElem_mem hlt))]
  dsimp only
  have hc:=Chg.iter w.heap.size w2 (bs s) (k+1)
  refine hnext (s.length-(k+1)) _ _ (by omega) ⟨k+1,hlt,rfl,?_,hc.size.trans hz,hc.below hb (Nat.le_refl _),zcl (by omega)⟩
  rw[List.take_succ_eq_append_getElem hlt]
  unfold numP
  rw[List.foldl_append]
  rfl
 ·rw[yp]at hge
  have hk:k=s.length:=by omega
  subst hk
  rw[List.take_length]
  exact hR w2 hb
theorem zn4{y:Value}{c:Int}{pb:Nat}{w:World}(hp:w.cell? (blk pb)=some (.int .u8 c))(Inv:Nat->World->Prop)(S:World->Prop)(h0:Inv 0 w)(hkeep:∀j w' w'',Inv j w'->w.heap.size<=w'.heap.size->Below w.heap.size w' w''->Inv j w'')
  (hround:∀j (hj:j<(enL c).length) w',Inv j w'->zJ Tryz.prog Tryz.fs y [.int .u32 (enL c)[j].1,.string (bs (enL c)[j].2)] w' λv w''=>((v =.bool true/\Inv (j+1) w'')\/(v =.bool false/\S w''))/\w''.heap.size=w'.heap.size/\∀b,w.heap.size<=b->w''.heap[b]? =w'.heap[b]?)
  (hend:∀w',Inv (enL c).length w'->S w'):Calls Tryz.prog 215 #[y,.pointer (some (blk pb))] w (Ret λ_ w'=>S w'):=by
 refine zft y (blk pb) _ w ⟨c,hp,?_⟩
 refine za.of (zbY c _ w ?_) λ_ _ h=>h
 rw[zqP]
 have hrow:=zrV c
 have hL:enL c=(enG ((Gm.look tabN c).getD [])).2.2.2:=rfl
 suffices go:∀s:Bs,s=(Gm.look tabN c).getD []->(∃x:ByteArray,Value.string (bs s) =.string x/\_) from zea (λx hx=>go x (by rw[hx];rfl)) (λhx=>go [] (by rw[hx];rfl))
 intro s hs
 rw[<-hs]at hrow hL
 obtain⟨h128,hlen⟩:=hrow
 refine⟨bs s,rfl,?_⟩
 refine Nw.gen λw1 e1=>?_
 have hI1:w1.heap[w.heap.size]? =some (.stringIter (bs s) 0):=by
  rw[e1]
  show(w.heap.push _)[w.heap.size]? =_
  simp
 have z1:w1.heap.size=w.heap.size+1:=by rw[e1];simp
 have b1:Below w.heap.size w w1:=by rw[e1];exact(Below.refl _ _).alloc (Nat.le_refl _) _
 clear e1
 refine zm.ghost (λj st w'=>∃k,k<=s.length/\j=s.length-k/\st=((enG (s.take k)).1,bs (enG (s.take k)).2.1,(enG (s.take k)).2.2.1,())/\w.heap.size<w'.heap.size/\Inv (enG (s.take k)).2.2.2.length w'/\w'.heap[w.heap.size]? =some (.stringIter (bs s) k))
  s.length ⟨0,Nat.zero_le _,rfl,rfl,by omega,hkeep 0 w w1 h0 (Nat.le_refl _) b1,hI1⟩ ?_
 rintro _ _ w2 ⟨k,hk,rfl,rfl,hz,hIn,hI⟩ next hnext
 refine⟨bs s,k,hI,λhlt=>?_,λhge=>?_⟩
 ·rw[yp]at hlt
  have hc128:=h128 _ (List.getElem_mem hlt)
  rw[zce hlt hc128]
  dsimp only
  have hc:=Chg.iter w.heap.size w2 (bs s) (k+1)
  have hI3:=zcl (w:=w2) (s:=bs s) (p:=k+1) (r:=w.heap.size) (by omega)
  generalize YX w2 w.heap.size (bs s) (k+1)=w3 at hc hI3
  have hIn3:=hkeep _ w2 w3 hIn (by omega) (hc.below (Below.refl _ _) (Nat.le_refl _))
  have hz3:=hc.size
  have htk:s.take (k+1)=s.take k++[s[k]]:=List.take_succ_eq_append_getElem hlt
  have hst:enG (s.take (k+1))=enS (enG (s.take k)) s[k]:=by rw[htk,zsM]
  have hpre:=zut s (k+1)
  have hwl:=zsN (s.take k)
  rw[List.length_take]at hwl
  have hwa:=zry (s:=s.take k) (λc hc=>h128 c (List.mem_of_mem_take hc))
  rw[hst]at hpre
  have hnx:∀w',w.heap.size<w'.heap.size->Inv (enG (s.take (k+1))).2.2.2.length w'->w'.heap[w.heap.size]? =some (.stringIter (bs s) (k+1))->next ((enG (s.take (k+1))).1,bs (enG (s.take (k+1))).2.1,(enG (s.take (k+1))).2.2.1,()) w':=
   λw' h1 h2 h3=>hnext (s.length-(k+1)) _ _ (by omega) ⟨k+1,hlt,rfl,rfl,h1,h2,h3⟩
  rw[hst]at hnx
  clear hnext
  generalize enG (s.take k)=st at hnx hpre hwl hwa hIn3⊢
  obtain⟨n,word,nb,out⟩:=st
  dsimp only at hwl hwa hIn3⊢
  by_cases e:s[k]=32
  ·have e32:((s[k].toNat:Nat):Int)=32:=by rw[e];rfl
   cases nb with
   |false=>
    have hS:enS (n,word,false,out) s[k]=(numP word,[],true,out):=by unfold enS;rw[if_pos e,if_neg (by simp)]
    rw[hS]at hnx
    refine zo.cut (λst w'=>st=(numP word,())/\w.heap.size<w'.heap.size/\Inv out.length w'/\w'.heap[w.heap.size]? =some (.stringIter (bs s) (k+1))) ?_ ?_
    ·refine zC (λh=>absurd e32 h) (λ_=>zA (λ_=>?_) (λh=>by cases h))
     refine zoB hwa λw4 b4=>⟨_,rfl,rfl,?_,?_,?_⟩
     ·have:=b4.size
      omega
     ·exact hkeep _ w3 w4 hIn3 (by omega) (b4.mono (by omega))
     ·rw[b4.block _ (by omega)];exact hI3
    ·rintro⟨m,_⟩ w' ⟨h1,h2,h3,h4⟩
     cases h1
     exact hnx w' h2 h3 h4
   |true=>
    have hS:enS (n,word,true,out) s[k]=(n,[],false,out++[(n,word)]):=by unfold enS;rw[if_pos e,if_pos rfl]
    rw[hS]at hnx hpre
    dsimp only at hpre hnx
    rw[<-hL]at hpre
    have hj:out.length<(enL c).length:=by
     have:=hpre.length_le
     rw[List.length_append,List.length_singleton]at this
     omega
    have hjv:(enL c)[out.length]=(n,word):=by
     obtain⟨t,ht⟩:=hpre
     have:(enL c)[out.length]? =some (n,word):=by
      rw[<-ht]
      simp
     rw[List.getElem?_eq_getElem hj]at this
     exact Option.some.inj this
    refine zo.cut (λst w'=>st=(n,())/\w.heap.size<w'.heap.size/\Inv (out++[(n,word)]).length w'/\w'.heap[w.heap.size]? =some (.stringIter (bs s) (k+1))) ?_ ?_
    ·refine zC (λh=>absurd e32 h) (λ_=>zA (λh=>by cases h) (λ_=>?_))
     have hr:=hround out.length hj w3 hIn3
     rw[hjv]at hr
     refine zJ.mono hr λv w4 hv=>?_
     obtain⟨hv,hsz,hold⟩:=hv
     rcases hv with⟨rfl,hv⟩ | ⟨rfl,hv⟩
     ·refine⟨true,rfl,zK rfl ⟨rfl,by omega,?_,?_⟩⟩
      ·rw[List.length_append];exact hv
      ·rw[hold _ (Nat.le_refl _)];exact hI3
     ·exact⟨false,rfl,zR rfl hv⟩
    ·rintro⟨m,_⟩ w' ⟨h1,h2,h3,h4⟩
     cases h1
     exact hnx w' h2 h3 h4
  ·have hS:enS (n,word,nb,out) s[k]=(n,word++[s[k]],nb,out):=by unfold enS;rw[if_neg e]
   rw[hS]at hnx
   refine zo.cut (λ_ _=>False) ?_ (λ_ _ h=>h.elim)
   refine zC (λ_=>?_) (λh=>absurd (UInt8.toNat.inj (b:=32) (by have:((s[k].toNat:Nat):Int)=32:=h;show s[k].toNat=32;omega)) e)
   rw[zeD hc128,zlS]
   refine⟨?_,hnx w3 (by omega) hIn3 hI3⟩
   unfold zco
   rw[yp,yp,List.length_singleton]
   omega
 ·rw[yp]at hge
  have hk:k=s.length:=by omega
  subst hk
  rw[List.take_length,<-hL]at hIn
  exact hend w2 hIn
theorem zri{c n:Int}{w:World}{R:VWP}(hR:∀s w',Below w.heap.size w w'->R (.tuple #[.string s,.bool (zhh c n)]) w'):cR 209 #[.int .u8 c,.int .u32 n] w R:=by
 refine za.of (zh4 c n R w ?_) λ_ _ h=>h
 refine zk λw1 hN1 b1 z1=>?_
 refine zk λw2 hS2 b2 z2=>?_
 refine zk λw3 hO3 b3 z3=>?_
 have hN3:=(hN1.below b2).below b3
 have hS3:=hS2.below b3
 have hb3:=(b1.on b2).on b3
 refine za.of (zgL c _ w3 ?_) λ_ _ h=>h
 refine zk λw4 hC4 b4 z4=>⟨_,rfl,?_⟩
 have hN4:Blk w4 w.heap.size 22 [.int .u32 n]:=hN3.below b4
 have hS4:Blk w4 w1.heap.size 9 [.string (bs [])]:=hS3.below b4
 have hO4:Blk w4 w2.heap.size 4 [.bool false]:=hO3.below b4
 have hb4:=hb3.on b4
 intro mk hy
 have hcf:Tryz.fs.contains 215=true:=by kernel_rfl
 unfold zqr
 simp only[hcf]
 generalize hw5:((w4.alloc (.deferred (some []))).alloc (mk .ready none))=w5
 have b5:Below w4.heap.size w4 w5:=by rw[<-hw5];exact zlc w4 _ _
 have z5:w5.heap.size=w4.heap.size+2:=by rw[<-hw5];exact zrG w4 _ _
 have hd5:w5.heap[w4.heap.size]? =some (.deferred (some [])):=by rw[<-hw5];exact zti w4 _ _
 have hl5:w5.heap[w4.heap.size+1]? =some (mk .ready none):=by rw[<-hw5];exact ztj w4 _ _
 clear hw5
 have fin0:∀(b:Bool) (s:ByteArray) w',Below w.heap.size w w'->Blk w' w1.heap.size 9 [.string s]->Blk w' w2.heap.size 4 [.bool b]->b=zhh c n->w'.heap[w4.heap.size]? =some (.deferred (some []))->
   ze9 [w4.heap.size] w' λw13=>zy w13 (blk w1.heap.size) λx9=>ldB w13 (blk w2.heap.size) λx10=>R (.tuple #[(.string x9),(.bool x10)]) w13:=by
  intro b s w' h1 h2 h3 h4 h5
  refine zkE h5 ?_
  refine⟨s,(h2.put (by omega) _).cell0 rfl,b,(h3.put (by omega) _).cell0 rfl,?_⟩
  rw[h4]
  exact hR s _ (h1.putObj (by have:=hb4.size;omega) _)
 refine zn4 (y:=.func (.yield (w4.heap.size+1)) #[] #[]) ((hC4.below b5).cell0 rfl)
  (λj w'=>w'.heap[w4.heap.size+1]? =some (mk .ready none)/\w'.heap[w4.heap.size]? =some (.deferred (some []))/\Blk w' w.heap.size 22 [.int .u32 n]/\Blk w' w1.heap.size 9 [.string (bs [])]/\Blk w' w2.heap.size 4 [.bool false]/\
   Below w.heap.size w w'/\∀i (hi:i<(enL c).length),i<j->(enL c)[i].1≠n) _
  ⟨hl5,hd5,hN4.below b5,hS4.below b5,hO4.below b5,hb4.on b5,λi hi h=>by omega⟩ ?_ ?_ ?_
 ·rintro j w' w'' ⟨h1,h2,h3,h4,h5,h6,h7⟩ hsz hbb
  refine⟨(hbb.block _ (by omega)).trans h1,(hbb.block _ (by omega)).trans h2,h3.of_block (hbb.block _ (by omega)),h4.of_block (hbb.block _ (by omega)),h5.of_block (hbb.block _ (by omega)),h6.trans (hbb.mono (by omega)),h7⟩
 ·rintro j hj w' ⟨h1,h2,h3,h4,h5,h6,h7⟩
  refine hy ((enL c)[j].1,bs (enL c)[j].2,()) w' _ h1 ⟨h1,Nw.gen λw6 e6=>?_⟩
  have ho6:∀b,b≠w4.heap.size+1->w6.heap[b]? =w'.heap[b]?:=λb hb=>by rw[e6];exact World.putObj_heap_other hb
  have z6:w6.heap.size=w'.heap.size:=by rw[e6];simp
  have hlt':w4.heap.size+1<w'.heap.size:=(Array.getElem?_eq_some_iff.1 h1).1
  have hl6:w6.heap[w4.heap.size+1]? =some (mk .busy none):=by rw[e6];simp[World.putObj,hlt']
  have h66:Below w.heap.size w w6:=by rw[e6];exact h6.putObj (by have:=hb4.size;omega) _
  clear e6
  refine⟨n,(h3.of_block (ho6 _ (by omega))).cell0 rfl,?_⟩
  refine zl (λe=>?_) (λe=>?_)
  ·have k4:=h4.of_block (ho6 _ (by omega))
   have k5:=h5.of_block (ho6 _ (by omega))
   refine⟨k4.wr0 (by simp),Nw.gen λw7 e7=>?_⟩
   have c7:Chg w1.heap.size w6 w7:=by rw[e7];exact Chg.set w1.heap.size 0 w6 _
   have k4':Blk w7 w1.heap.size 9 [.string (bs (enL c)[j].2)]:=by rw[e7];exact k4.set0 _
   clear e7
   have k5':=c7.blk k5 (by omega)
   refine⟨k5'.wr0 (by simp),Nw.gen λw8 e8=>?_⟩
   have c8:Chg w2.heap.size w7 w8:=by rw[e8];exact Chg.set w2.heap.size 0 w7 _
   have k5'':Blk w8 w2.heap.size 4 [.bool true]:=by rw[e8];exact k5'.set0 _
   clear e8
   have k4'':=c8.blk k4' (by omega)
   have hl8:w8.heap[w4.heap.size+1]? =some (mk .busy none):=by rw[c8.block _ (by omega),c7.block _ (by omega)];exact hl6
   have b8:=c8.below (c7.below h66 (by have:=b1.size;omega)) (by have:=b1.size;have:=b2.size;omega)
   refine⟨hl8,.inr ⟨rfl,?_⟩,?_,?_⟩
   ·refine .inr ⟨?_,?_⟩
    ·exact zgn (by have:=c8.size;have:=c7.size;omega) _
    ·refine fin0 true (bs (enL c)[j].2) _ ?_ ?_ ?_ ?_ ?_
     ·exact(b8.putObj (by have:=hb4.size;omega) _).putObj (by have:=hb4.size;omega) _
     ·exact(k4''.put (by omega) _).put (by omega) _
     ·exact(k5''.put (by omega) _).put (by omega) _
     ·exact((zoc c n).2 ⟨_,List.getElem_mem hj,e⟩).symm
     ·rw[World.putObj_heap_other (by omega),World.putObj_heap_other (by omega),c8.block _ (by omega),c7.block _ (by omega),ho6 _ (by omega)]
      exact h2
   ·have:=c8.size;have:=c7.size
    simp[World.putObj]
    omega
   ·intro b hb
    rw[World.putObj_heap_other (by omega),c8.block _ (by omega),c7.block _ (by omega),ho6 _ (by omega)]
  ·refine⟨hl6,.inl ⟨rfl,?_,?_,?_,?_,?_,?_,?_⟩,?_,?_⟩
   ·exact zgn (by omega) _
   ·rw[World.putObj_heap_other (by omega),ho6 _ (by omega)];exact h2
   ·exact(h3.of_block (ho6 _ (by omega))).put (by omega) _
   ·exact(h4.of_block (ho6 _ (by omega))).put (by omega) _
   ·exact(h5.of_block (ho6 _ (by omega))).put (by omega) _
   ·exact h66.putObj (by have:=hb4.size;omega) _
   ·intro i hi hij
    by_cases e':i=j
    ·subst e';exact e
    ·exact h7 i hi (by omega)
   ·simp[World.putObj];omega
   ·intro b hb
    rw[World.putObj_heap_other (by omega),ho6 _ (by omega)]
 ·rintro w' ⟨h1,h2,h3,h4,h5,h6,h7⟩
  have hlt':w4.heap.size+1<w'.heap.size:=(Array.getElem?_eq_some_iff.1 h1).1
  refine .inl ⟨h1,?_⟩
  have k4:=h4.put (l:=w4.heap.size+1) (by omega) (mk .exhausted none)
  have k5:=h5.put (l:=w4.heap.size+1) (by omega) (mk .exhausted none)
  refine⟨k4.wr0 (by simp),Nw.gen λw7 e7=>?_⟩
  have c7:Chg w1.heap.size (w'.putObj (w4.heap.size+1) (mk .exhausted none)) w7:=by rw[e7];exact Chg.set w1.heap.size 0 _ _
  have k4':Blk w7 w1.heap.size 9 [.string (bs [])]:=by rw[e7];exact k4.set0 _
  clear e7
  have k5':=c7.blk k5 (by omega)
  refine⟨k5'.wr0 (by simp),Nw.gen λw8 e8=>?_⟩
  have c8:Chg w2.heap.size w7 w8:=by rw[e8];exact Chg.set w2.heap.size 0 w7 _
  have k5'':Blk w8 w2.heap.size 4 [.bool false]:=by rw[e8];exact k5'.set0 _
  clear e8
  refine fin0 false (bs []) w8 ?_ (c8.blk k4' (by omega)) k5'' ?_ ?_
  ·exact c8.below (c7.below (h6.putObj (by have:=hb4.size;omega) _) (by have:=b1.size;omega)) (by have:=b1.size;have:=b2.size;omega)
  ·symm
   rw[Bool.eq_false_iff]
   intro h
   obtain⟨x,hx,e⟩:=(zoc c n).1 h
   obtain⟨i,hi,rfl⟩:=List.mem_iff_getElem.1 hx
   exact h7 i hi hi e
  ·rw[c8.block _ (by omega),c7.block _ (by omega),World.putObj_heap_other (by omega)]
   exact h2
end Go.Proofs
namespace Go.Gm
open Go.Gk Go.Proofs
abbrev Fl.ty(f:Fl):Bool:=f.2.1
abbrev Fl.re(f:Fl):Bool:=f.2.2.1
def idP(must:Bool)(n bound e:Int):Int:=if must=(n !=0) then(if must=true/\bound<=n then 43 else 0) else e
def nul(s:ByteArray):Bool:=s.data.toList.contains 0
def ZH(c:Int)(a:Ag)(bound:Int):Int:=
 if c=0\/a.1≠yJ c then 42
 else if (a.1=3/\a.2.1≠0)\/(a.1≠3/\a.2.2.size≠0) then 42
 else if a.1=1/\(a.2.1=0\/bound<=a.2.1) then 43
 else if a.1=4/\zhh c a.2.1=false then 31
 else if nul a.2.2=true then 13 else 0
abbrev ag0:Ag:=(0,0,bs [])
def werr(g:Fl)(al:List Ag)(bound:Int)(j:Nat):Int:=ZH (letP g j:Int) (al.getD j ag0) bound
def argK(g:Fl)(al:List Ag)(bound:Int)(k:Nat):Int:=match (List.range k).find? λj=>werr g al bound j !=0 with
 |some j=>werr g al bound j
 |none=>0
def errK(g:Fl)(ty re:Int)(al:List Ag)(bound:Int)(k:Nat):Int:=
 if idP g.ty ty bound 40≠0 then idP g.ty ty bound 40 else if idP g.re re bound 41≠0 then idP g.re re bound 41 else argK g al bound k
theorem zrn(g:Fl)(al:List Ag)(bound:Int):argK g al bound 0=0:=rfl
theorem zrm(g:Fl)(al:List Ag)(bound:Int)(k:Nat):argK g al bound (k+1)=if argK g al bound k=0 then werr g al bound k else argK g al bound k:=by
 unfold argK
 rw[List.range_succ,List.find?_append]
 cases h:(List.range k).find? λj=>werr g al bound j !=0 with
 |some j=>
  have:=List.find?_some h
  simp only[Option.some_or]
  rw[if_neg (by simpa using this)]
 |none=>
  simp only[Option.none_or,if_true]
  by_cases e:werr g al bound k=0
  ·simp[e]
  ·simp[e]
theorem zg4(g:Fl)(ty re:Int)(al:List Ag)(bound:Int)(k:Nat):errK g ty re al bound (k+1)=if errK g ty re al bound k=0 then werr g al bound k else errK g ty re al bound k:=by
 unfold errK
 by_cases h1:idP g.ty ty bound 40=0
 ·by_cases h2:idP g.re re bound 41=0
  ·simp only[h1,h2,ne_eq,not_true_eq_false,if_false]
   exact zrm g al bound k
  ·simp[h1,h2]
 ·simp[h1]
theorem zir{g:Fl}{al:List Ag}{bound:Int}{k:Nat}(h:argK g al bound k=0):∀j,j<k->werr g al bound j=0:=by
 intro j hj
 unfold argK at h
 split at h
 ·rename_i i hi
  have:=List.find?_some hi
  rw[h]at this
  simp at this
 ·rename_i hn
  have:=List.find?_eq_none.1 hn j (List.mem_range.2 hj)
  simpa using this
theorem ziw{g:Fl}{ty re:Int}{al:List Ag}{bound:Int}{k:Nat}(h:errK g ty re al bound k=0):idP g.ty ty bound 40=0/\idP g.re re bound 41=0/\argK g al bound k=0:=by
 unfold errK at h
 split at h
 ·rename_i h1;exact absurd h h1
 ·rename_i h1
  split at h
  ·rename_i h2;exact absurd h h2
  ·rename_i h2
   exact⟨Decidable.not_not.1 h1,Decidable.not_not.1 h2,h⟩
def Yp(g:Fl)(n:Nat):Bool:=if n<g.fixed.length then false else if g.rest.length=0 then n==g.fixed.length else(n-g.fixed.length) % g.rest.length==0
def cost(a:Ag):Nat:=if a.1=3 then a.2.2.size / 4+1 else 1
def zef(al:List Ag)(k:Nat):Nat:=((al.take k).map cost).sum
def zbl(g:Fl)(al:List Ag):Nat:=1+(g.ty.toNat +g.re.toNat +zef al al.length)
def zeE(g:Fl)(ty re:Int)(al:List Ag)(bound:Int):Int:=
 if errK g ty re al bound al.length≠0 then errK g ty re al bound al.length else if Yp g al.length=false then 42 else if 65535<zbl g al then 25 else 0
def zfR(op ty re:Int)(al:List Ag)(bound:Int):Int:=match frm op with
 |none=>30
 |some g=>zeE g ty re al bound
theorem zfS{op ty re:Int}{al:List Ag}{bound:Int}(h:frm op=none):zfR op ty re al bound=30:=by unfold zfR;rw[h]
theorem zdy{op ty re:Int}{al:List Ag}{bound:Int}{g:Fl}(h:frm op=some g):zfR op ty re al bound=zeE g ty re al bound:=by unfold zfR;rw[h]
theorem zhw{al:List Ag}{k:Nat}(hk:k<al.length):zef al (k+1)=zef al k+cost al[k]:=by
 unfold zef
 rw[List.take_succ_eq_append_getElem hk,List.map_append,List.sum_append]
 simp
def zqa(g:Fl):Bool:=!(g.rest.contains 115)&&(List.range g.fixed.length).all λi=>(List.range g.fixed.length).all λj=>!(g.fixed.getD i 0==115&&g.fixed.getD j 0==115)||i==j
theorem zoY:tabR.all (λp=>zqa p.2)=true:=by decide +kernel
theorem zov{c:Int}(h:yJ c=3):c=115:=by
 unfold yJ at h
 split at h
 ·cases h
 ·split at h
  ·cases h
  ·split at h
   ·assumption
   ·split at h<;>cases h
theorem zmn{op:Int}{g:Fl}(hg:frm op=some g){k:Nat}(h:yJ (letP g k:Int)=3):k<g.fixed.length/\g.fixed.getD k 0=115:=by
 have hc:=zov h
 have ht:=List.all_eq_true.1 zoY _ (ZE (show Gm.look tabR op=some g from hg))
 simp only[zqa,Bool.and_eq_true,Bool.not_eq_true']at ht
 unfold letP at hc
 split at hc
 ·rename_i hlt
  exact⟨hlt,UInt8.toNat.inj (show(g.fixed.getD k 0).toNat=115 by omega)⟩
 ·split at hc
  ·cases hc
  ·split at hc
   ·cases hc
   ·rename_i h1 h2 h3
    have hlt:(k-g.fixed.length) % g.rest.length<g.rest.length:=Nat.mod_lt _ (by omega)
    rw[zp hlt]at hc
    have:g.rest[(k-g.fixed.length) % g.rest.length]=115:=UInt8.toNat.inj (show _=115 by omega)
    have hm:=List.getElem_mem hlt
    rw[this]at hm
    have:=List.contains_iff_mem.2 hm
    rw[ht.1]at this
    cases this
theorem zsd{op:Int}{g:Fl}(hg:frm op=some g){i j:Nat}(hi:yJ (letP g i:Int)=3)(hj:yJ (letP g j:Int)=3):i=j:=by
 obtain⟨h1,h2⟩:=zmn hg hi
 obtain⟨h3,h4⟩:=zmn hg hj
 have ht:=List.all_eq_true.1 zoY _ (ZE (show Gm.look tabR op=some g from hg))
 simp only[zqa,Bool.and_eq_true]at ht
 have:=List.all_eq_true.1 (List.all_eq_true.1 ht.2 i (List.mem_range.2 h1)) j (List.mem_range.2 h3)
 rw[h2,h4]at this
 simpa using this
def tx(al:List Ag)(k:Nat):Nat:=((al.take k).map λa=>if a.1=3 then 1 else 0).sum
theorem zkx{al:List Ag}{k:Nat}(hk:k<al.length):tx al (k+1)=tx al k+(if al[k].1=3 then 1 else 0):=by
 unfold tx
 rw[List.take_succ_eq_append_getElem hk,List.map_append,List.sum_append]
 simp
theorem zrc{al:List Ag}:∀{k:Nat},k<=al.length->(∀j (hj:j<al.length),j<k->al[j].1≠3)->tx al k=0
 | 0,_,_=>by simp[tx]
 |k+1,hk,h=>by
  rw[zkx (by omega),zrc (k:=k) (by omega) (λj hj hjk=>h j hj (by omega)),if_neg (h k (by omega) (by omega))]
theorem yK{c:Int}{a:Ag}{bound:Int}(h:ZH c a bound=0):c≠0/\a.1=yJ c:=by
 unfold ZH at h
 split at h
 ·cases h
 ·rename_i h1
  constructor
  ·intro e;exact h1 (.inl e)
  ·exact Classical.byContradiction λe=>h1 (.inr e)
theorem ztP{op:Int}{g:Fl}(hg:frm op=some g){al:List Ag}{bound:Int}:∀{k:Nat},k<=al.length->(∀j,j<k->werr g al bound j=0)->tx al k<=1
 | 0,_,_=>by simp[tx]
 |k+1,hk,h=>by
  rw[zkx (by omega)]
  split
  ·rename_i h3
   have hz:tx al k=0:=by
    refine zrc (by omega) λj hj hjk e=>?_
    have a1:=(yK (h j (by omega))).2
    have a2:=(yK (h k (by omega))).2
    rw[zp hj]at a1
    rw[zp (by omega)]at a2
    have:=zsd hg (a1.symm.trans e) (a2.symm.trans h3)
    omega
   omega
  ·have:=ztP hg (k:=k) (by omega) λj hj=>h j (by omega)
   omega
theorem znR{al:List Ag}(hs:∀x∈al,x.2.2.size<=9223372036854775807):∀{k:Nat},k<=al.length->zef al k<=k+2305843009213693952*tx al k
 | 0,_=>by simp[zef]
 |k+1,hk=>by
  have:=znR hs (k:=k) (by omega)
  rw[zhw (by omega),zkx (by omega)]
  have h1:=hs _ (List.getElem_mem (show k<al.length by omega))
  unfold cost
  split<;>omega
theorem znQ{al:List Ag}:∀{k:Nat},k<=al.length->k<=zef al k
 | 0,_=>Nat.zero_le _
 |k+1,hk=>by
  have:=znQ (al:=al) (k:=k) (by omega)
  rw[zhw (by omega)]
  unfold cost
  split<;>omega
theorem zr4{op:Int}{g:Fl}(hg:frm op=some g){al:List Ag}{bound:Int}(h:∀j,j<al.length->werr g al bound j=0):(fitP op (al.map (·.1))).2=Yp g al.length:=by
 have hb:∀j,j<(al.map (·.1)).length->bad g (al.map (·.1)) j=false:=by
  intro j hj
  have hj':j<al.length:=by simpa using hj
  obtain⟨h1,h2⟩:=yK (h j hj')
  rw[zp hj']at h2
  unfold bad
  rw[zp hj,List.getElem_map,h2]
  have:=zrH hg (k:=j) (by omega)
  simp[this]
 rw[zmc hg,zoh hb,List.length_map]
 have hz:g.rest.length=0->al.length<=g.fixed.length:=by
  intro h0
  refine Classical.byContradiction λhgt=>?_
  have:=(yK (h g.fixed.length (by omega))).1
  apply this
  unfold letP
  rw[if_neg (by omega),if_pos h0]
  rfl
 unfold Yp zcT
 by_cases h1:al.length<g.fixed.length
 ·rw[if_pos h1,decide_eq_true h1,Bool.true_or,if_pos rfl]
 ·rw[if_neg h1,decide_eq_false h1,Bool.false_or]
  by_cases h2:g.rest.length=0
  ·have h3:al.length=g.fixed.length:=by have:=hz h2;omega
   rw[if_pos h2,decide_eq_false (by omega),Bool.false_and,h3]
   simp
  ·rw[if_neg h2,decide_eq_true h2,Bool.true_and]
   by_cases h3:(al.length-g.fixed.length) % g.rest.length=0
   ·rw[h3];rfl
   ·rw[decide_eq_true h3,if_pos rfl]
    exact(beq_eq_false_iff_ne.2 h3).symm
def yH(p:PI)(bound:Int):Int:=zfR p.1 p.2.1 p.2.2.1 p.2.2.2 bound
def zew(p:PI):Nat:=match frm p.1 with
 |none=>0
 |some g=>zbl g p.2.2.2
def totP(pl:List PI)(k:Nat):Nat:=5+((pl.take k).map zew).sum
theorem zj9{pl:List PI}{k:Nat}(hk:k<pl.length):totP pl (k+1)=totP pl k+zew pl[k]:=by
 unfold totP
 rw[List.take_succ_eq_append_getElem hk,List.map_append,List.sum_append]
 simp
 omega
abbrev pi0:PI:=(0,0,0,[])
def badI(pl:List PI)(bound:Int)(k:Nat):Bool:=yH (pl.getD k pi0) bound !=0||decide (1048576<totP pl (k+1))
def zx(bound:Int)(pl:List PI):Int×Nat:=
 if bound=0\/65536<bound then(24,0) else match (List.range pl.length).find? (badI pl bound) with
  |some k=>(if yH (pl.getD k pi0) bound≠0 then yH (pl.getD k pi0) bound else 4,k)
  |none=>(0,0)
theorem zjZ{bound:Int}{pl:List PI}(h:bound=0\/65536<bound):zx bound pl=(24,0):=by unfold zx;rw[if_pos h]
theorem zoS{bound:Int}{pl:List PI}(h:¬(bound=0\/65536<bound)){k:Nat}(hk:k<pl.length)(hj:∀j,j<k->badI pl bound j=false)(hf:yH pl[k] bound≠0):zx bound pl=(yH pl[k] bound,k):=by
 unfold zx
 rw[if_neg h,zcK hk (by unfold badI;rw[zp hk,bne_iff_ne.2 hf];rfl) hj]
 simp only[zp hk]
 rw[if_pos hf]
theorem zoT{bound:Int}{pl:List PI}(h:¬(bound=0\/65536<bound)){k:Nat}(hk:k<pl.length)(hj:∀j,j<k->badI pl bound j=false)(hf:yH pl[k] bound=0)(ht:1048576<totP pl (k+1)):zx bound pl=(4,k):=by
 unfold zx
 rw[if_neg h,zcK hk (by unfold badI;rw[decide_eq_true ht,Bool.or_true]) hj]
 simp only[zp hk]
 rw[if_neg (by rw[hf];simp)]
theorem zls{bound:Int}{pl:List PI}(h:¬(bound=0\/65536<bound))(hj:∀j,j<pl.length->badI pl bound j=false):zx bound pl=(0,0):=by
 unfold zx
 rw[if_neg h]
 have:(List.range pl.length).find? (badI pl bound)=none:=by
  rw[List.find?_eq_none]
  intro j hj'
  rw[hj j (List.mem_range.1 hj')]
  simp
 rw[this]
theorem zkA{pl:List PI}{bound:Int}{k:Nat}(hk:k<pl.length)(hf:yH pl[k] bound=0)(ht:¬1048576<totP pl (k+1)):badI pl bound k=false:=by
 unfold badI
 rw[zp hk,hf,decide_eq_false ht]
 rfl
theorem Ye{bound:Int}{pl:List PI}(h:(zx bound pl).1=0):¬(bound=0\/65536<bound)/\∀k (hk:k<pl.length),yH pl[k] bound=0:=by
 unfold zx at h
 split at h
 ·cases h
 ·rename_i hb
  refine⟨hb,λk hk=>?_⟩
  split at h
  ·rename_i j hj
   dsimp only at h
   split at h
   ·rename_i hf;exact absurd h hf
   ·cases h
  ·rename_i hn
   have:=List.find?_eq_none.1 hn k (List.mem_range.2 hk)
   unfold badI at this
   rw[zp hk]at this
   simp only[Bool.or_eq_true,not_or,bne_iff_ne,ne_eq,Decidable.not_not]at this
   exact this.1
theorem znF(x:ByteArray):(x.toList==(BM #[]).toList)=decide (x.size=0):=by
 obtain⟨a⟩:=x
 have:=Yo (a:=a.toList)
 unfold bs at this
 rw[Array.toArray_toList]at this
 rw[this]
 simp only[ByteArray.size]
 rw[Bool.eq_iff_iff,List.isEmpty_iff,decide_eq_true_iff]
 constructor
 ·intro h;rw[<-Array.length_toList,h];rfl
 ·intro h;exact List.eq_nil_of_length_eq_zero (by rw[Array.length_toList];exact h)
end Go.Gm
namespace Go.Proofs
open Go.Gk
set_option linter.unusedVariables false
set_option maxRecDepth 100000
def YN:Ann:=(.q (.q (.seq none (.q (.one (.loop ⟨[1,2,3],[(4,(.b (.int .i64)))]⟩ (.seq none (.q .c) (.seq none (.one .nil) .nil))))) (.q (.q .nil)))))
def YG(p0:(Int×Int×Int×Sl×Unit))(R:VWP)(w:World):Prop:=Nw (w.alloc (.cells #[zh p0.1,zu p0.2.1,zu p0.2.2.1,p0.2.2.2.1.zw] 44)) λw1=>Nw (w1.alloc (.cells #[zh 0,zu 0,zu 0,.slice none 0 0] 44)) λw2=>ldS w2 ((zB w).add 3) λx1=>(0<=(x1.l:Int)/\(x1.l:Int)<=(x1.l:Int)/\24*(x1.l:Int)<=281474976710656/\(x1.l:Int)<=9223372036854775807)/\Nw (w2.alloc (.cells (madeCells #[zb 0,zu 0,.string (BM #[])] (x1.l*3)) 123)) λw3=>zm (S:=Int×Unit) (λs2 w4 n3=>ldS w4 ((zB w).add 3) λx4=>ifB (decide (s2.1<(x4.l:Int))) (ldS w4 ((zB w).add 3) λx5=>(0<=s2.1/\s2.1<(x5.l:Int))/\zc x5.a λa6=>dn w4 (a6.add (s2.1.toNat *3)) λx7 x8 x9=>(0<=s2.1/\s2.1<(x1.l:Int))/\Wr w4 ((zB w2).add (s2.1.toNat *3))/\Nw (w4.setCell ((zB w2).add (s2.1.toNat *3)) (zb x7)) λw5=>Wr w5 (((zB w2).add (s2.1.toNat *3)).add 1)/\Nw (w5.setCell (((zB w2).add (s2.1.toNat *3)).add 1) (zu x8)) λw6=>Wr w6 (((zB w2).add (s2.1.toNat *3)).add 2)/\Nw (w6.setCell (((zB w2).add (s2.1.toNat *3)).add 2) (.string x9)) λw7=>n3 ((IntKind.i64.wrap (s2.1+(1:Int))),()) w7) (Wr w4 ((zB w).add 3)/\Nw (w4.setCell ((zB w).add 3) (.slice (some (zB w2)) x1.l x1.l)) λw8=>dc w8 (zB w) λx10 x11 x12 x13=>dJ w8 (zB w1) (zh x10) (zu x11) (zu x12) (x13.zw) λw12=>dc w12 (zB w1) λx14 x15 x16 x17=>R (.agg #[zh x14,zu x15,zu x16,x17.zw]) w12)) (0,()) w3
theorem zcM(p0)(R)(w)(h:YG p0 R w):Calls Tryz.prog 33 #[.agg #[.int .u16 p0.1,.int .u32 p0.2.1,.int .u32 p0.2.2.1,.slice p0.2.2.2.1.a p0.2.2.2.1.l p0.2.2.2.1.c]] w (Ret R):=lwC YN Tryz.func33 (by kernel_rfl) (by kernel_rfl) h
end Go.Proofs
namespace Go.Proofs
open Go.Gk Go.RowKit Go.Gm
theorem zm.countSl{body:Sl×Int×Unit->World->(Sl×Int×Unit->World->Prop)->Prop}{w:World}{s0:Sl}(n:Nat)(hn:n<=9223372036854775807)(I:Nat->Sl->World->Prop)(h0:I 0 s0 w)
  (h:∀k r w,k<=n->I k r w->∀next:Sl×Int×Unit->World->Prop,(∀r' w',k<n->I (k+1) r' w'->next (r',IntKind.i64.wrap ((k:Int)+1),()) w')->body (r,(k:Int),()) w next):zm body (s0,(0:Int),()) w:=by
 refine zm.ghost (λj s w=>∃(k:Nat) (r:Sl),k<=n/\j=n-k/\s=(r,(k:Int),())/\I k r w) n ⟨0,s0,Nat.zero_le _,rfl,rfl,h0⟩ ?_
 rintro _ _ w ⟨k,r,hk,rfl,rfl,hI⟩ next hnext
 refine h k r w hk hI next λr' w' hlt hI'=>?_
 rw[zE (by omega)]
 exact hnext (n-(k+1)) _ _ (by omega) ⟨k+1,r',by omega,rfl,rfl,hI'⟩
theorem zhE{P:Program}{t e:TypeId}{bytes:Nat}(he:Yq P t e 1 bytes){w0 w:World}{s:Sl}{xs:List Value}(h:Own w e 1 s xs)(hb:Below w0.heap.size w0 w)(hF:zM w0.heap.size s){v:Value}(hv:v.oneCell'=true){b c:Nat}{T:TypeId}
  (hB:Blk w b T [v]) (h63:s.l+1<=9223372036854775807) (hbytes:(s.l+1)*bytes<=140737488355328) {k:Sl->World->Prop}
  (hk:∀r w',Own w' e 1 r (xs++[v])->Below w0.heap.size w0 w'->zM w0.heap.size r->k r w'):zz P t (.slice s.a s.l s.c) (.slice (some (blk b)) 1 c) w k:=by
 refine zhs he h hv hB h63 hbytes λr w' h1 _ ⟨b',h3,h4,h5⟩=>?_
 have hbb:w0.heap.size<=b':=by
  rcases h4 with h4 |h4
  ·exact hF _ h4
  ·have:=hb.size
   omega
 exact hk r w' h1 (hb.trans (zT h5 hbb hb.size)) λa ha=>by rw[h3]at ha;cases ha;exact hbb
theorem eU8:Yq Tryz.prog 217 5 1 1:=⟨by kernel_rfl,Tryz.t5,.int .u8 0,by kernel_rfl,rfl,rfl,rfl,rfl⟩
theorem zax{w:World}{s:Sl}{l:List Int}(h:IsS (Value.int .u32) w s l){k:Nat}(hk:k<l.length){φ:Int->Prop}(hφ:φ l[k]) :
  (0<=(k:Int)/\(k:Int)<(s.l:Int))/\zc s.a λa=>ldI w (a.add (Int.toNat (k:Int))) .u32 φ:=h.addr hk λ_ _ hc=>⟨l[k],hc,hφ⟩
theorem eU32:Yq Tryz.prog 56 22 1 4:=⟨by kernel_rfl,Tryz.t22,.int .u32 0,by kernel_rfl,rfl,rfl,rfl,rfl⟩
section
variable {x:Ins} {al:List Ag} {w:World} {R:VWP}
theorem zl5(hI:IsAg w x.2.2.2.1 al)(h24:24*al.length<=140737488351232)
  (hR:∀b w',w.heap.size<=b->Blk w' b 123 (flat agV al)->IsAg w' ⟨some (blk b),al.length,al.length⟩ al->Below w.heap.size w w'->R (inA (x.1,x.2.1,x.2.2.1,⟨some (blk b),al.length,al.length⟩,())) w') :
  cR 33 #[inA x] w R:=by
 refine za.of (zcM x R w ?_) λ_ _ h=>h
 refine zk λw1 hB1 b1 z1=>?_
 have hB1:Blk w1 w.heap.size 44 (inV x):=hB1
 refine zk λw2 hC2 b2 z2=>?_
 have hC2:Blk w2 w1.heap.size 44 [.int .u16 0,.int .u32 0,.int .u32 0,.slice none 0 0]:=hC2
 have hB2:=hB1.below b2
 have hl:=hI.len
 refine hB2.rS (n:=3) rfl ⟨⟨by omega,by omega,by omega,by omega⟩,?_⟩
 refine zk λw3 hD3 b3 z3=>?_
 have hb3:=(b1.on b2).on b3
 have hB3:=hB2.below b3
 have hC3:=hC2.below b3
 rw[hl]
 refine zm.count al.length hI.bound (λk w'=>Below w.heap.size w w'/\w'.heap.size=w3.heap.size/\Blk w' w.heap.size 44 (inV x)/\Blk w' w1.heap.size 44 [.int .u16 0,.int .u32 0,.int .u32 0,.slice none 0 0]/\
   ∃r,Blk w' w2.heap.size 123 (flat agV (al.take k)++r)/\r.length=(al.length-k)*3) ⟨hb3,rfl,hB3,hC3,_,by simpa[flat] using hD3,by rw[Array.length_toList,size_madeCells,hl];simp⟩ ?_
 rintro k w4 hk ⟨hb,hz,hB,hC,r,hD,hr⟩ next hnext
 refine hB.rS (n:=3) rfl ?_
 refine zj (λhlt=>?_) (λhge=>?_)
 ·have hlt:k<al.length:=by dsimp only at hlt;omega
  refine hB.rS (n:=3) rfl ?_
  have hm:=hI.below hb
  refine zfQ hm hlt ⟨⟨by omega,by dsimp only;omega⟩,?_⟩
  have hfl:(flat agV (al.take k)).length=k*3:=by rw[zH zF,List.length_take,Nat.min_eq_left (by omega)]
  obtain⟨r',hr',e⟩:=set3 (flat agV (al.take k)) (cs:=r) (m:=al.length-(k+1)) (by rw[hr];congr 1;omega) (.int .u8 al[k].1) (.int .u32 al[k].2.1) (.string al[k].2.2)
  rw[hfl]at e
  have hcl:(flat agV (al.take k)++r).length=al.length*3:=by rw[List.length_append,hfl,hr,<-Nat.add_mul];congr 1;omega
  rw[show Int.toNat (k:Int)=k from rfl]
  simp only[zn]
  have hD1:=hD.set (k*3) (.int .u8 al[k].1)
  have hD2:=hD1.set (k*3+1) (.int .u32 al[k].2.1)
  have hD3:=hD2.set (k*3+2) (.string al[k].2.2)
  have c1:=((Chg.set w2.heap.size (k*3) w4 (.int .u8 al[k].1)).trans (Chg.set w2.heap.size (k*3+1) _ (.int .u32 al[k].2.1))).trans (Chg.set w2.heap.size (k*3+2) _ (.string al[k].2.2))
  refine⟨hD.wr (by omega),hD1.wr (by rw[List.length_set];omega),hD2.wr (by rw[List.length_set,List.length_set];omega),hnext _ hlt ⟨c1.below hb (by omega),c1.size.trans hz,c1.blk hB (by omega),c1.blk hC (by omega),r',?_,hr'⟩⟩
  rw[e]at hD3
  have e2:flat agV (al.take (k+1))=flat agV (al.take k)++agV al[k]:=by
   rw[List.take_succ_eq_append_getElem hlt]
   show(al.take k++[al[k]]).flatMap agV=_
   rw[List.flatMap_append]
   rfl
  rw[e2]
  exact hD3
 ·have hk':k=al.length:=by dsimp only at hge;omega
  subst hk'
  simp only[Nat.sub_self,Nat.zero_mul]at hr
  have:r=[]:=List.eq_nil_of_length_eq_zero hr
  subst this
  rw[List.take_length,List.append_nil]at hD
  refine⟨hB.wr (n:=3) (by simp),?_⟩
  have c1:=Chg.set w.heap.size 3 w4 (.slice (some (blk w2.heap.size)) al.length al.length)
  have hB5:Blk _ w.heap.size 44 (inV (x.1,x.2.1,x.2.2.1,⟨some (blk w2.heap.size),al.length,al.length⟩,())):=hB.set 3 (.slice (some (blk w2.heap.size)) al.length al.length)
  have hb5:=c1.below hb (Nat.le_refl _)
  have hC5:=c1.blk hC (by omega)
  have hD5:=c1.blk hD (by omega)
  refine Nw.mk (Ins.load hB5 ?_)
  refine st4 hC5 rfl λw6 hC6 c6=>?_
  have hC6:Blk w6 w1.heap.size 44 (inV (x.1,x.2.1,x.2.2.1,⟨some (blk w2.heap.size),al.length,al.length⟩,())):=hC6
  have hD6:=c6.blk hD5 (by omega)
  refine Ins.load hC6 ?_
  exact hR w2.heap.size w6 (by omega) hD6 (Blk.isC zF (by omega) hD6 hI.bound) (c6.below hb5 (by omega))
theorem zlT{a b:ByteArray}:(a==b)=true↔a=b:=by
 obtain⟨a⟩:=a
 obtain⟨b⟩:=b
 show(a==b)=true↔_
 simp
end
end Go.Proofs
namespace Go.Proofs
open Go.Gk Go.RowKit Go.Gm
theorem zte(l:List UInt8)(c:UInt8):(Lib.indexByte l c=-1\/0<=Lib.indexByte l c)/\(0<=Lib.indexByte l c↔l.contains c=true):=by
 induction l with
 |nil=>exact⟨.inl rfl,by simp[Lib.indexByte]⟩
 |cons b l ih=>
  obtain⟨h1,h2⟩:=ih
  unfold Lib.indexByte
  by_cases e:b=c
  ·subst e
   simp
  ·rw[if_neg (by simpa using e)]
   have e':(c==b)=false:=beq_eq_false_iff_ne.2 λh=>e h.symm
   rw[List.contains_cons,e',Bool.false_or,<-h2]
   rcases h1 with h1 |h1
   ·rw[h1];simp
   ·rw[if_neg (by simp;omega)]
    constructor
    ·right;omega
    ·constructor<;>intro _<;>omega
theorem zk1{s:ByteArray}{w:World}{R:VWP}(hR:∀i:Int,(0<=i↔nul s=true)->R (.int .i64 i) w):cR 206 #[.string s,.int .u8 0] w R:=by
 refine za.of (zey s 0 R w ?_) λ_ _ h=>h
 refine za.of (ZU s 0 _ w ?_) λ_ _ h=>h
 refine⟨.int .i64 (Lib.indexByte s.data.toList 0),w,?_,_,rfl,_,rfl,hR _ (zte _ _).2⟩
 rw[run_callFunc_extern Tryz.func214 (by kernel_rfl) (by kernel_rfl) (by kernel_rfl) (e:=Extern.BytealgIndexByte.indexByte) (by kernel_rfl),Lib.run_indexByteString]
 rfl
theorem zs0{s:ByteArray}(h:nul s=false){k:Nat}(hk:k<s.size):zdu s (k:Int)≠0:=by
 intro e
 unfold zdu at e
 rw[Int.toNat_natCast]at e
 have hk':k<s.data.size:=hk
 have e1:s.data.getD k 0=s.data[k]:=by rw[Array.getD_eq_getD_getElem?,Array.getElem?_eq_getElem hk'];rfl
 rw[e1]at e
 have e2:s.data[k]=0:=UInt8.toNat.inj (show(s.data[k]).toNat=0 by omega)
 have hm:(0:UInt8)∈s.data.toList:=by
  rw[<-e2,<-Array.getElem_toList]
  exact List.getElem_mem _
 have:=List.contains_iff_mem.2 hm
 unfold nul at h
 rw[h]at this
 cases this
theorem zso{s:ByteArray}(hs:s.size<=9223372036854775807):IntKind.i64.wrap (IntKind.i64.wrap (Int.tdiv (s.size:Int) 4)+1)=((s.size / 4+1:Nat):Int):=by
 rw[show Int.tdiv (s.size:Int) 4=((s.size / 4:Nat):Int) from(Int.ofNat_tdiv s.size 4).symm]
 have:s.size / 4<=2305843009213693951:=by omega
 generalize s.size / 4=q at this
 rw[zq (x:=(q:Int)) (by omega) (by omega),zq (by omega) (by omega)]
 omega
theorem zje{s:ByteArray}(hs:s.size<=9223372036854775807){w:World}{R:VWP}(hR:R (.int .i64 ((s.size / 4+1:Nat):Int)) w):cR 208 #[.string s] w R:=by
 refine za.of (zjB s R w ?_) λ_ _ h=>h
 show R (.int .i64 _) w
 rw[zso hs]
 exact hR
theorem setU{w:World}{b:Nat}{T:TypeId}{xs:List Int}(hB:Blk w b T (xs.map (Value.int .u32)))(k:Nat)(v:Int):∃ys:List Int,Blk (w.setCell ((blk b).add k) (.int .u32 v)) b T (ys.map (Value.int .u32))/\ys.length=xs.length:=
 ⟨xs.set k v,by rw[List.map_set];exact hB.set k _,by simp⟩
theorem zn9{s:ByteArray}(hs:s.size<=9223372036854775807)(hn:nul s=false){w:World}{R:VWP}
  (h1:65535<s.size / 4+1->R (.tuple #[.slice none 0 0,.int .i64 4]) w)
  (h2:s.size / 4+1<=65535->∀(b:Nat) (xs:List Int) w',w.heap.size<=b->Blk w' b 22 (xs.map (Value.int .u32))->xs.length=s.size / 4+1->Below w.heap.size w w'->R (.tuple #[.slice (some (blk b)) (s.size / 4+1) (s.size / 4+1),.int .i64 0]) w') :
  cR 207 #[.string s] w R:=by
 refine za.of (zhM s R w ?_) λ_ _ h=>h
 refine zm.count s.size hs (λk w'=>w'=w) rfl ?_
 rintro k wk hk hw next hnext
 subst hw
 refine zj (λh=>?_) (λh=>?_)
 ·have hlt:k<s.size:=by dsimp only at h;omega
  exact⟨⟨by omega,by omega⟩,zl (λe=>absurd e (zs0 hn hlt)) (λ_=>hnext _ hlt rfl)⟩
 ·refine zje hs ⟨_,rfl,?_⟩
  refine zj (λhgt=>h1 (by omega)) (λhle=>?_)
  have hle:s.size / 4+1<=65535:=by omega
  refine zje hs ⟨_,rfl,?_⟩
  dsimp only[zB,Go.Gk.Sl.zw,zi,zu,zb,zh];rw[Int.toNat_natCast]
  refine⟨⟨by omega,by omega,by omega,by omega⟩,?_⟩
  refine Nw.gen λw4 e4=>?_
  have hB4:Blk w4 wk.heap.size 22 (List.replicate (s.size / 4+1) (.int .u32 0)):=by rw[e4];exact Blk.made wk _ _ _
  have z4:w4.heap.size=wk.heap.size+1:=by rw[e4];simp
  have b4:Below wk.heap.size wk w4:=by rw[e4];exact(Below.refl _ _).alloc (Nat.le_refl _) _
  clear e4
  refine zm.count s.size hs (λk w'=>Below wk.heap.size wk w'/\∃xs:List Int,Blk w' wk.heap.size 22 (xs.map (Value.int .u32))/\xs.length=s.size / 4+1) ⟨b4,List.replicate (s.size / 4+1) 0,by simpa using hB4,by simp⟩ ?_
  rintro k w5 hk ⟨hb,xs,hB,hxl⟩ next hnext
  refine zj (λh=>?_) (λh=>?_)
  ·have hlt:k<s.size:=by dsimp only at h;omega
   have e1:IntKind.i64.wrap (Int.tdiv (k:Int) 4)=((k / 4:Nat):Int):=by
    rw[show Int.tdiv (k:Int) 4=((k / 4:Nat):Int) from(Int.ofNat_tdiv k 4).symm]
    exact zq (by omega) (by omega)
   have e2:IntKind.i64.wrap (8*Int.tmod (k:Int) 4)=((8*(k % 4):Nat):Int):=by
    rw[show Int.tmod (k:Int) 4=((k % 4:Nat):Int) from(Int.ofNat_tmod k 4).symm,zq (by omega) (by omega)]
    omega
   have hq:k / 4<xs.length:=by omega
   dsimp only
   rw[e1,e2,Int.toNat_natCast]
   refine⟨⟨by omega,by omega⟩,hB.drew.rI (n:=k / 4) (x:=xs[k / 4]) (by simp[hq]) ⟨⟨by omega,by omega⟩,zj (λh=>absurd h (by omega)) (λ_=>⟨⟨by omega,by omega⟩,hB.drew.wr (by simpa using hq),?_⟩)⟩⟩
   refine Nw.mk (hnext _ hlt ⟨(Chg.set _ _ _ _).below hb.drew (Nat.le_refl _),?_⟩)
   exact(setU hB.drew (k / 4) _).imp λys h=>⟨h.1,h.2.trans hxl⟩
  ·exact h2 hle _ xs w5 (Nat.le_refl _) hB hxl hb
abbrev wrV(f:Fm)(bd:Int)(s:Sl)(room:Nat):List Value:=
 [.int .u16 f.1,.string f.2.1,.bool f.2.2.1,.bool f.2.2.2.1,.string f.2.2.2.2.1,.string f.2.2.2.2.2.1,.int .i64 f.2.2.2.2.2.2.1,.int .u8 f.2.2.2.2.2.2.2.1,.int .u32 bd,.slice s.a s.l s.c,.int .i64 (room:Int)]
def Oth(b:Nat)(w w':World):Prop:=∀k T cs,Blk w k T cs->k≠b->T≠22->Blk w' k T cs
theorem Oth.refl(b:Nat)(w:World):Oth b w w:=λ_ _ _ h _ _=>h
theorem Oth.trans{b:Nat}{w w' w2:World}(h:Oth b w w')(h':Oth b w' w2):Oth b w w2:=λk T cs hB h1 h2=>h' k T cs (h k T cs hB h1 h2) h1 h2
theorem Oth.below{b:Nat}{w w':World}(h:Below w.heap.size w w'):Oth b w w':=λ_ _ _ hB _ _=>hB.below h
structure WtS (w0 w:World) (b:Nat) (f:Fm) (bd:Int) (room n:Nat):Prop where
 old:w0.heap.size<=b
 below:Below w0.heap.size w0 w
 own:∃r xs,Blk w b 279 (wrV f bd r room)/\Own w 22 1 r xs/\zM w0.heap.size r/\r.l=n
section
variable {w0 w:World} {b:Nat} {f:Fm} {bd:Int} {room n:Nat} {R:VWP}
theorem WtS.step{w':World}(h:WtS w0 w b f bd room n)(hb:Below w.heap.size w w'):WtS w0 w' b f bd room n:=by
 obtain⟨h1,h2,r,xs,h3,h4,h5,h6⟩:=h
 exact⟨h1,h2.on hb,r,xs,h3.below hb,h4.below hb,h5,h6⟩
theorem WtS.drew(h:WtS w0 w b f bd room n):WtS w0 w.drew b f bd room n:=h.step (Below.refl _ _).drew
theorem WtS.app(h:WtS w0 w b f bd room n){c m k:Nat}{news:List Value}{T:TypeId}(hB:Blk w c T news)(hl:news.length=m)(h1:∀u∈news,u.oneCell'=true)(hm:0<m)(hn:(n+m)*4<=140737488355328){r:Sl}{xs:List Value}
  (hW:Blk w b 279 (wrV f bd r room)) (hO:Own w 22 1 r xs) (hF:zM w0.heap.size r) (hrl:r.l=n) {K:Sl->World->Prop}
  (hK:∀r' w2,Blk w2 b 279 (wrV f bd r room)->(∀room' w4,Chg b w2 w4->Blk w4 b 279 (wrV f bd r' room')->WtS w0 w4 b f bd room' (n+m)/\Oth b w w4)->K r' w2) :
  zz Tryz.prog 56 (.slice r.a r.l r.c) (.slice (some (blk c)) m k) w K:=by
 have hold:=h.old
 have hbel:=h.below
 refine yG eU32 hO (news:=news) (by omega) (λj u hj=>hB.cell hj) h1 (by omega) (by omega) λr' w2 hO' hl' hg=>?_
 rcases hg with⟨_,_,h3⟩ | ⟨b',hb',hab,hg⟩
 ·rw[h3]at hl';omega
 ·have hbb:w0.heap.size<=b':=by
   rcases hab with h |h
   ·exact hF _ h
   ·have:=hbel.size
    omega
  have hne:∀{k T cs},Blk w k T cs->T≠22->k≠b':=by
   intro k T cs hk hT e
   subst e
   rcases hab with h |h
   ·obtain⟨cs',hc⟩:=hO.type h
    exact hT (hk.type hc)
   ·have:=hk.lt
    omega
  have hkeep:∀{k T cs},Blk w k T cs->T≠22->Blk w2 k T cs:=λhk hT=>hk.of_block (hg.block _ hk.lt (λe=>hne hk hT (Option.some.inj e)))
  have hb2:Below w0.heap.size w0 w2:=hbel.trans (zT hg hbb hbel.size)
  refine hK r' w2 (hkeep hW (by decide)) λroom' w4 cc hW4=>?_
  have hO4:Own w4 22 1 r' (xs++news):=hO'.of_block λa ha=>cc.block _ (by
   rw[hb']at ha
   cases ha
   exact(hne hW (by decide)).symm)
  refine⟨⟨hold,cc.below hb2 hold,r',_,hW4,hO4,?_,by omega⟩,?_⟩
  ·intro a ha
   rw[hb']at ha
   cases ha
   exact hbb
  ·intro k T cs hk h1 h2
   exact cc.blk (hkeep hk h2) h1
theorem zoJ(h:WtS w0 w b f bd room n){x:Int}(hr:room<=4611686018427387904)(hn:(n+1)*4<=140737488355328)(hR:∀w',WtS w0 w' b f bd (room+1) (n+1)->Oth b w w'->R (.tuple #[]) w') :
  cR 192 #[.pointer (some (blk b)),.int .u32 x] w R:=by
 refine za.of (zfr (some (blk b)) x R w ?_) λ_ _ h=>h
 obtain⟨r,xs,hW,hO,hF,hrl⟩:=h.own
 refine ze rfl (hW.rS (n:=9) (x:=r) rfl ?_)
 refine zk λw1 hB1 b1 z1=>?_
 refine(h.step b1).app hB1 (m:=1) rfl (by simp[Value.oneCell']) (by omega) hn (hW.below b1) (hO.below b1) hF hrl λr' w2 hW2 hfin=>?_
 refine ze rfl ⟨hW2.wr (n:=9) (by simp),Nw.gen λw3 e3=>?_⟩
 have c3:Chg b w2 w3:=by rw[e3];exact Chg.set _ _ _ _
 have hW3:Blk w3 b 279 (wrV f bd r' room):=by rw[e3];exact hW2.set 9 _
 clear e3
 refine ze rfl (hW3.rI (n:=10) rfl (ze rfl ⟨hW3.wr (n:=10) (by simp),Nw.mk ?_⟩))
 have e:IntKind.i64.wrap ((room:Int)+1)=((room+1:Nat):Int):=by rw[zq (by omega) (by omega)];omega
 rw[e]
 obtain⟨k1,k2⟩:=hfin (room+1) _ (c3.trans (Chg.set b 10 w3 (.int .i64 ((room+1:Nat):Int)))) (hW3.set 10 _)
 exact hR _ k1 ((Oth.below b1).trans k2)
theorem ztc{x bd:Int}(hR:R (.int .i64 (if x=0 then 43 else if bd<=x then 43 else 0)) w):cR 193 #[.int .u32 x,.int .u32 bd] w R:=by
 refine za.of (zl9 x bd R w ?_) λ_ _ h=>h
 refine zl (λe=>by rwa[if_pos e]at hR) (λe=>?_)
 rw[if_neg e]at hR
 exact zj (λh=>by rwa[if_pos h]at hR) (λh=>by rwa[if_neg h]at hR)
theorem zmj(h:WtS w0 w b f bd room n){must:Bool}{x e:Int}(hr:room<=4611686018427387904)(hn:(n+1)*4<=140737488355328)
  (hR:∀w' room' n',WtS w0 w' b f bd room' n'->room'<=room+1->n'<=n+1->(idP must x bd e=0->e≠0->room'=room+must.toNat/\n'=n+must.toNat)->R (.int .i64 (idP must x bd e)) w') :
  cR 180 #[.pointer (some (blk b)),.bool must,.int .u32 x,.int .i64 e] w R:=by
 refine za.of (zeA (some (blk b)) must x e R w ?_) λ_ _ h=>h
 unfold idP at hR
 refine zL (zA (λhm=>?_) (λhm=>?_))
 ·have hm:must=(x !=0):=eq_of_beq hm
  rw[if_pos hm]at hR
  refine zL (zA (λht=>?_) (λhf=>?_))
  ·refine zoJ h hr hn λw1 h1 _=>⟨rfl,?_⟩
   obtain⟨r,xs,hW,_⟩:=h1.own
   refine ze rfl (hW.rI (n:=8) rfl ?_)
   refine ztc ⟨_,rfl,?_⟩
   have hx:x≠0:=by rw[ht]at hm;exact bne_iff_ne.1 hm.symm
   rw[if_neg hx]
   have:=hR w1 (room+1) (n+1) h1 (Nat.le_refl _) (Nat.le_refl _) (λ_ _=>by rw[ht];exact⟨rfl,rfl⟩)
   simpa[ht] using this
  ·have:=hR w room n h (by omega) (by omega) (λ_ _=>by rw[hf];exact⟨rfl,rfl⟩)
   simpa[hf] using this
 ·have hm:¬must=(x !=0):=λh=>by rw[h]at hm;simp at hm
  have:=hR w room n h (by omega) (by omega) (λh0 he=>by rw[if_neg hm]at h0;exact absurd h0 he)
  rwa[if_neg hm]at this
theorem zse(h:WtS w0 w b f bd room n){s:ByteArray}(hs:s.size<=9223372036854775807)(hr:room<=4611686018427387904)(hn:(n+65535)*4<=140737488355328)
  (hR:∀w' room' n',WtS w0 w' b f bd room' n'->Oth b w w'->(nul s=false->room'=room+(s.size / 4+1)/\(n'=n+(s.size / 4+1)\/65535<s.size / 4+1)/\n'<=n+65535)->R (.int .i64 (if nul s=true then 13 else 0)) w') :
  cR 196 #[.pointer (some (blk b)),.string s] w R:=by
 refine za.of (zeB (some (blk b)) s R w ?_) λ_ _ h=>h
 refine zk1 λi hi=>⟨_,rfl,?_⟩
 refine zj (λh0=>?_) (λh0=>?_)
 ·have hnul:=hi.1 h0
  have:=hR w room n h (Oth.refl _ _) (λh=>by rw[hnul]at h;cases h)
  rwa[if_pos hnul]at this
 ·have hnul:nul s=false:=by
   rw[<-Bool.not_eq_true]
   exact λhn=>h0 (hi.2 hn)
  rw[if_neg (by rw[hnul];simp)]at hR
  have hdiv:s.size / 4<=2305843009213693951:=by omega
  refine zn9 hs hnul (λhgt=>⟨⟨none,0,0⟩,_,rfl,?_⟩) (λhle c ys w2 hc hB2 hyl b2=>⟨⟨some (blk c),s.size / 4+1,s.size / 4+1⟩,_,rfl,?_⟩)
  ·refine zR rfl ?_
   obtain⟨r,xs,hW,hO,hF,hrl⟩:=h.own
   have hW1:=hW.drew
   refine ze rfl (hW1.rI (n:=10) rfl ?_)
   refine zje hs ⟨_,rfl,hW1.cell (n:=10) rfl,ze rfl ⟨hW1.wr (n:=10) (by simp),Nw.mk ?_⟩⟩
   have e:IntKind.i64.wrap ((room:Int)+((s.size / 4+1:Nat):Int))=((room+(s.size / 4+1):Nat):Int):=by
    generalize s.size / 4=q at hdiv
    rw[zq (by omega) (by omega)]
    omega
   rw[e]
   have cc:=Chg.set b 10 w.drew (.int .i64 ((room+(s.size / 4+1):Nat):Int))
   refine hR _ (room+(s.size / 4+1)) n ⟨h.old,cc.below h.below.drew h.old,r,xs,hW1.set 10 _,hO.drew.of_block λa ha=>cc.block _ ?_,hF,hrl⟩ (λk T cs hk h1 _=>cc.blk hk.drew h1) (λ_=>⟨rfl,.inr hgt,by omega⟩)
   obtain⟨cs',hc⟩:=hO.type ha
   exact hc.apart hW (by decide)
  ·refine zK rfl ?_
   have h2:=h.step b2
   obtain⟨r,xs,hW,hO,hF,hrl⟩:=h2.own
   refine ze rfl (hW.rS (n:=9) (x:=r) rfl ?_)
   refine h2.app hB2 (m:=s.size / 4+1) (by rw[List.length_map];exact hyl) (by simp[Value.oneCell']) (by omega) (by omega) hW hO hF hrl λr' w3 hW3 hfin=>?_
   refine ze rfl ⟨hW3.wr (n:=9) (by simp),Nw.gen λw4 e4=>?_⟩
   have c4:Chg b w3 w4:=by rw[e4];exact Chg.set _ _ _ _
   have hW4:Blk w4 b 279 (wrV f bd r' room):=by rw[e4];exact hW3.set 9 _
   clear e4
   refine ze rfl (hW4.rI (n:=10) rfl (ze rfl ⟨hW4.wr (n:=10) (by simp),Nw.mk ?_⟩))
   have e:IntKind.i64.wrap ((room:Int)+((s.size / 4+1:Nat):Int))=((room+(s.size / 4+1):Nat):Int):=by
    generalize s.size / 4=q at hdiv
    rw[zq (by omega) (by omega)]
    omega
   dsimp only
   rw[e]
   obtain⟨k1,k2⟩:=hfin (room+(s.size / 4+1)) _ (c4.trans (Chg.set b 10 w4 (.int .i64 ((room+(s.size / 4+1):Nat):Int)))) (hW4.set 10 _)
   exact hR _ _ _ k1 ((Oth.below b2).trans k2) (λ_=>⟨rfl,.inl rfl,by omega⟩)
end
theorem zn7{op:Int}{i:Nat}{w:World}{R:VWP}(hi:i<=9223372036854775807)(hR:∀w',Below w.heap.size w w'->R (.int .u8 (letP (flOf op) i:Int)) w') :
  cR 194 #[.int .u16 op,.int .i64 (i:Int)] w R:=by
 refine za.of (zfW op i R w ?_) λ_ _ h=>h
 have hg:=lOk (zqC op)
 have hfm:=fmIs op
 refine zi7 λw1 b1=>⟨fmO op (frm op),(frm op).isSome,rfl,?_⟩
 refine box8 rfl λw2 hB b2 z2=>?_
 have hB:Blk w2 w1.heap.size 274 (fmV (fmO op (frm op))):=hB
 refine Fm.load hB ?_
 exact zjQ hfm hg hi λw3 b3=>⟨_,rfl,hR w3 ((b1.on b2).on b3)⟩
theorem zpJ{c n:Int}{w:World}{R:VWP}(hR:∀w',Below w.heap.size w w'->R (.int .i64 (if zhh c n=false then 31 else 0)) w') :
  cR 197 #[.int .u8 c,.int .u32 n] w R:=by
 refine za.of (zjj c n R w ?_) λ_ _ h=>h
 refine zri λs w1 b1=>⟨s,_,rfl,?_⟩
 have:=hR w1 b1
 refine zL (zA (λh=>?_) (λh=>?_))
 ·rwa[if_neg (by rw[h];simp)]at this
 ·rwa[if_pos h]at this
section
variable {w0 w:World} {b:Nat} {f:Fm} {bd:Int} {room n:Nat} {R:VWP}
theorem zsw(h:WtS w0 w b f bd room n){k:Nat}(hk:k<=9223372036854775807){a:Ag}(hs:a.2.2.size<=9223372036854775807)(hr:room<=4611686018427387904)(hn:(n+65535)*4<=140737488355328)
  (hR:∀w' room' n',WtS w0 w' b f bd room' n'->(ZH (letP (flOf f.1) k:Int) a bd=0->room'=room+cost a/\(n'=n+cost a\/65535<cost a)/\n'<=n+(if a.1=3 then 65535 else 1))->R (.int .i64 (ZH (letP (flOf f.1) k:Int) a bd)) w') :
  cR 181 #[.pointer (some (blk b)),.int .i64 (k:Int),.agg #[.int .u8 a.1,.int .u32 a.2.1,.string a.2.2]] w R:=by
 refine za.of (zfq (some (blk b)) k (a.1,a.2.1,a.2.2,()) R w ?_) λ_ _ h=>h
 refine zk λw1 hA1 b1 z1=>?_
 have hA1:Blk w1 w.heap.size 123 [.int .u8 a.1,.int .u32 a.2.1,.string a.2.2]:=hA1
 have h1:=h.step b1
 obtain⟨r1,xs1,hW1,_⟩:=h1.own
 refine ze rfl (hW1.rI0 rfl ?_)
 refine zn7 hk λw2 b2=>⟨_,rfl,?_⟩
 generalize letP (flOf f.1) k=c at hR
 have hA2:=hA1.below b2
 have h2:=h1.step b2
 refine hA2.rI0 rfl ?_
 have hbne:w.heap.size≠b:=by
  obtain⟨r,xs,hW,_⟩:=h.own
  have:=hW.lt
  omega
 have key:ZH (c:Int) a bd=if (c:Int)=0\/a.1≠yJ c then 42 else if (a.1=3/\a.2.1≠0)\/(a.1≠3/\a.2.2.size≠0) then 42
   else if a.1=1/\(a.2.1=0\/bd<=a.2.1) then 43 else if a.1=4/\zhh c a.2.1=false then 31 else if nul a.2.2=true then 13 else 0:=rfl
 refine zo.cut (λ_ w'=>WtS w0 w' b f bd room n/\Blk w' w.heap.size 123 [.int .u8 a.1,.int .u32 a.2.1,.string a.2.2]/\¬((c:Int)=0\/a.1≠yJ c)/\a.1≠3/\a.2.2.size=0) ?_ ?_
 ·refine zl (λe=>?_) (λe=>?_)
  ·have:=hR w2.drew room n h2.drew (λh=>by rw[key,if_pos (.inl e)]at h;cases h)
   rwa[key,if_pos (.inl e)]at this
  ·refine hA2.drew.rI0 rfl ?_
   refine zlM ⟨_,rfl,hA2.drew.cell0 rfl,?_⟩
   refine zC (λe2=>?_) (λe2=>?_)
   ·have:=hR w2.drew room n h2.drew (λh=>by rw[key,if_pos (.inr e2)]at h;cases h)
    rwa[key,if_pos (.inr e2)]at this
   ·have hno:¬((c:Int)=0\/a.1≠yJ c):=λh=>h.elim e (λh=>h e2)
    rw[if_neg hno]at key
    refine zl (λe3=>?_) (λe3=>?_)
    ·refine hA2.drew.rI (n:=1) rfl (zC (λe4=>?_) (λe4=>?_))
     ·have:=hR w2.drew room n h2.drew (λh=>by rw[key,if_pos (.inl ⟨e3,e4⟩)]at h;cases h)
      rwa[key,if_pos (.inl ⟨e3,e4⟩)]at this
     ·refine zL (zl (λ_=>zl (λ_=>?_) (λh=>absurd e3 h)) (λh=>absurd e3 h))
      refine hA2.drew.rT (n:=2) rfl ?_
      have e3':a.1=3:=e3
      rw[if_neg (λh=>h.elim (λh=>h.2 e4) (λh=>h.1 e3)),if_neg (λh=>by have:=h.1;omega),if_neg (λh=>by have:=h.1;omega)]at key
      refine zse h2.drew hs hr hn λw3 room' n' h3 _ hrn=>⟨_,rfl,?_⟩
      have:=hR w3 room' n' h3 (λh0=>by
       have hnul:nul a.2.2=false:=by
        rw[key]at h0
        split at h0
        ·cases h0
        ·rename_i hh;simpa using hh
       obtain⟨g1,g2,g3⟩:=hrn hnul
       unfold cost
       rw[if_pos e3',if_pos e3']
       exact⟨g1,g2,g3⟩)
      rwa[key]at this
    ·refine zL (zl (λh=>absurd h e3) (λ_=>?_))
     refine hA2.drew.rT (n:=2) rfl ?_
     rw[znF]
     refine zL (zj (λe5=>?_) (λe5=>?_))
     ·exact zl (λh=>absurd h e3) (λ_=>⟨h2.drew,hA2.drew,hno,e3,e5⟩)
     ·have:=hR w2.drew room n h2.drew (λh=>by rw[key,if_pos (.inr ⟨e3,e5⟩)]at h;cases h)
      rwa[key,if_pos (.inr ⟨e3,e5⟩)]at this
 ·rintro _ w3 ⟨h3,hA3,hno,hn3,hsz⟩
  have hnul:nul a.2.2=false:=by
   unfold nul
   have:a.2.2.data.toList=[]:=List.eq_nil_of_length_eq_zero (by rw[Array.length_toList];exact hsz)
   rw[this]
   rfl
  rw[if_neg hno,if_neg (λh=>h.elim (λh=>hn3 h.1) (λh=>h.2 hsz)),hnul]at key
  simp only[Bool.false_eq_true,if_false]at key
  have hcost:cost a=1:=by unfold cost;rw[if_neg hn3]
  refine hA3.rI (n:=1) rfl ?_
  refine zoJ h3 hr (by omega) λw4 h4 o4=>⟨rfl,?_⟩
  have hA4:=o4 _ _ _ hA3 hbne (by decide)
  have fin:∀w',Below w4.heap.size w4 w'->R (.int .i64 (ZH c a bd)) w':=λw' hb=>hR w' (room+1) (n+1) (h4.step hb) (λ_=>by rw[hcost,if_neg hn3];exact⟨rfl,.inl rfl,Nat.le_refl _⟩)
  refine hA4.rI0 rfl (zl (λe1=>?_) (λe1=>?_))
  ·refine hA4.drew.rI (n:=1) rfl ?_
   obtain⟨r,xs,hW,_⟩:=h4.own
   refine ze rfl (hW.drew.rI (n:=8) rfl ?_)
   refine ztc ⟨_,rfl,?_⟩
   have:=fin w4.drew (Below.refl _ _).drew
   have e1':a.1=1:=e1
   have ev:ZH c a bd=if a.2.1=0 then 43 else if bd<=a.2.1 then 43 else 0:=by
    rw[key]
    by_cases x1:a.2.1=0
    ·rw[if_pos ⟨e1',.inl x1⟩,if_pos x1]
    ·rw[if_neg x1]
     by_cases x2:bd<=a.2.1
     ·rw[if_pos ⟨e1',.inr x2⟩,if_pos x2]
     ·rw[if_neg (λh=>h.2.elim x1 x2),if_neg (λh=>by have:=h.1;omega),if_neg x2]
   rwa[ev]at this
  ·rw[if_neg (λh=>e1 h.1)]at key
   refine zl (λe4=>?_) (λe4=>?_)
   ·refine hA4.rI (n:=1) rfl ?_
    refine zpJ λw5 b5=>⟨_,rfl,?_⟩
    have:=fin w5 b5
    have e4':a.1=4:=e4
    have ev:ZH c a bd=if zhh c a.2.1=false then 31 else 0:=by
     rw[key]
     by_cases x1:zhh c a.2.1=false
     ·rw[if_pos ⟨e4',x1⟩,if_pos x1]
     ·rw[if_neg (λh=>x1 h.2),if_neg x1]
    rwa[ev]at this
   ·have:=fin w4 (Below.refl _ _)
    rwa[key,if_neg (λh=>e4 h.1)]at this
end
theorem zqi{f:Fm}{s:Sl}{al:List Ag}{w:World}{R:VWP}(hI:IsAg w s al)(h24:24*al.length<=140737488351232)
  (hR:∀w',Below w.heap.size w w'->R (.int .i64 (if (fitP f.1 (al.map (·.1))).2=true then 0 else 42)) w'):cR 182 #[fmA f,.slice s.a s.l s.c] w R:=by
 refine za.of (zjk f s R w ?_) λ_ _ h=>h
 refine zk λw1 hB b1 z1=>?_
 have hB:Blk w1 w.heap.size 274 (fmV f):=hB
 have hlen:=hI.len
 refine zm.countSl al.length hI.bound (λk r w'=>Own w' 5 1 r ((al.take k).map λa=>Value.int .u8 a.1)/\zM w1.heap.size r/\Below w1.heap.size w1 w') ⟨Own.nil _ _ _,λa ha=>by(cases ha),Below.refl _ _⟩ ?_
 rintro k r w2 hk ⟨hO,hF,hb⟩ next hnext
 have hb0:=b1.on hb
 have hI2:=hI.below hb0
 refine zj (λh=>?_) (λh=>?_)
 ·have hlt:k<al.length:=by dsimp only at h;omega
  refine zfQ hI2 hlt ?_
  refine box3 rfl λw3 h3 b3 z3=>?_
  refine h3.rI0 rfl ?_
  refine zk λw4 h4 b4 z4=>?_
  have hrl:r.l=k:=by have:=hO.1;simp[Nat.min_eq_left hk]at this;omega
  refine zhE eU8 ((hO.below b3).below b4) ((hb.on b3).on b4) hF (v:=.int .u8 al[k].1) rfl h4 (by omega) (by omega) λr' w5 h5 b5 F5=>?_
  refine hnext r' w5 hlt ⟨?_,F5,b5⟩
  rw[List.take_succ_eq_append_getElem hlt,List.map_append]
  exact h5
 ·have hk:k=al.length:=by dsimp only at h;omega
  subst hk
  rw[List.take_length]at hO
  have hB2:=hB.below hb
  refine hB2.rI0 rfl ?_
  have hO':Own w2 5 1 r ((al.map (·.1)).map (Value.int .u8)):=by rw[List.map_map];exact hO
  refine zrj hO'.isS λw3 b3=>⟨_,_,rfl,?_⟩
  have:=hR w3 (hb0.on b3)
  refine zL (zA (λh=>by rwa[if_pos h]at this) (λh=>by rwa[if_neg (by rw[h];simp)]at this))
end Go.Proofs
namespace Go.Proofs
open Go.Gk Go.RowKit Go.Gm
theorem zr1(g:Fl)(ty re:Int)(al:List Ag)(bd:Int):zeE g ty re al bd =
  (let e1:=errK g ty re al bd al.length;let e2:=if e1=0 then(if Yp g al.length=true then 0 else 42) else e1;if e2=0 then(if 65535<zbl g al then 25 else 0) else e2):=by
 unfold zeE
 dsimp only
 by_cases h1:errK g ty re al bd al.length=0
 ·rw[if_neg (λh=>h h1),if_pos h1]
  cases hw:Yp g al.length
  ·simp
  ·simp
 ·rw[if_pos h1,if_neg h1,if_neg h1]
theorem bnd3{n n' k t C:Nat}(h1:n<=2+k+C*t)(h2:n'<=n+C):n'<=2+(k+1)+C*(t+1):=by
 rw[Nat.mul_add,Nat.mul_one]
 generalize C*t=q at h1
 omega
theorem bnd1{n n' k t C:Nat}(h1:n<=2+k+C*t)(h2:n'<=n+1):n'<=2+(k+1)+C*(t+0):=by
 rw[Nat.add_zero]
 generalize C*t=q at h1
 omega
theorem zsn{x:Ins}{al:List Ag}{bd:Int}{w:World}{R:VWP}(hI:IsAg w x.2.2.2.1 al)(h24:24*al.length<=140737488351232)(hs:∀y∈al,y.2.2.size<=9223372036854775807)
  (hR:∀(r:Sl) (op:Int) w',Below w.heap.size w w'->(zfR x.1 x.2.1 x.2.2.1 al bd=0->1+r.l=zew (x.1,x.2.1,x.2.2.1,al)/\zew (x.1,x.2.1,x.2.2.1,al)<=65535)->
   R (.tuple #[.agg #[.int .u16 op,.slice r.a r.l r.c],.int .i64 (zfR x.1 x.2.1 x.2.2.1 al bd)]) w') :
  cR 162 #[inA x,.int .u32 bd] w R:=by
 refine za.of (zkH x bd R w ?_) λ_ _ h=>h
 refine zk λw1 hB1 b1 z1=>?_
 have hB1:Blk w1 w.heap.size 44 (inV x):=hB1
 refine zk λw2 hC2 b2 z2=>?_
 have hC2:Blk w2 w1.heap.size 251 [.int .u16 0,.slice none 0 0]:=hC2
 have hB2:=hB1.below b2
 have hb2:=b1.on b2
 refine hB2.rI0 rfl ?_
 refine zi7 λw3 b3=>⟨fmO x.1 (frm x.1),(frm x.1).isSome,rfl,?_⟩
 refine box8 rfl λw4 hF4 b4 z4=>?_
 have hF4:Blk w4 w3.heap.size 274 (fmV (fmO x.1 (frm x.1))):=hF4
 have b24:=b3.on b4
 have hb4:=hb2.on b24
 have hB4:=hB2.below b24
 have hC4:=hC2.below b24
 have s1:=b1.size
 have s2:=b2.size
 have s3:=b3.size
 have s4:=b4.size
 have hlen:=hI.len
 refine zA (λhn=>?_) (λhn=>?_)
 ·have hfr:frm x.1=none:=by
   cases h:frm x.1 with
   |none=>rfl
   |some g=>rw[h]at hn;cases hn
  have hfp:zfR x.1 x.2.1 x.2.2.1 al bd=30:=zfS hfr
  rw[hfp]at hR
  refine st2 hC4 rfl λw5 hC5 c5=>?_
  refine hC5.rI (n:=0) rfl (hC5.rS (n:=1) (x:=⟨none,0,0⟩) rfl ?_)
  exact hR ⟨none,0,0⟩ 0 w5 (c5.below hb4 (by omega)) (λh=>by cases h)
 ·obtain⟨g,hfr⟩:∃g,frm x.1=some g:=by
   cases h:frm x.1 with
   |none=>rw[h]at hn;cases hn
   |some g=>exact⟨g,rfl⟩
  have efl:flOf x.1=g:=by unfold flOf;rw[hfr];rfl
  rw[hfr]at hF4
  rw[zdy hfr,show zew (x.1,x.2.1,x.2.2.1,al)=zbl g al by unfold zew;dsimp only;rw[hfr]]at hR
  have hop:(fmO x.1 (some g)).1=x.1:=rfl
  have hty:(fmO x.1 (some g)).2.2.1=g.ty:=rfl
  have hre:(fmO x.1 (some g)).2.2.2.1=g.re:=rfl
  have hwh:=@zr4 x.1 g hfr al bd
  generalize fmO x.1 (some g)=fm at hF4 hop hty hre
  refine Fm.load hF4 ?_
  refine zk λw5 hW5 b5 z5=>?_
  have hW5:Blk w5 w4.heap.size 279 (wrV fm bd ⟨none,0,0⟩ 0):=hW5
  have hS5:WtS w4 w5 w4.heap.size fm bd 0 0:=⟨Nat.le_refl _,b5,⟨none,0,0⟩,[],hW5,Own.nil _ _ _,(λa ha=>by cases ha),rfl⟩
  have hF5:=hF4.below b5
  have hB5:=hB4.below b5
  refine hF5.rB (n:=2) rfl (hB5.rI (n:=1) rfl ?_)
  refine zmj hS5 (by omega) (by omega) λw6 room6 n6 hS6 hr6 hn6 he6=>⟨_,rfl,?_⟩
  rw[hty]at he6⊢
  have e0:errK g x.2.1 x.2.2.1 al bd 0=if idP g.ty x.2.1 bd 40=0 then idP g.re x.2.2.1 bd 41 else idP g.ty x.2.1 bd 40:=by
   unfold errK
   rw[zrn]
   by_cases h1:idP g.ty x.2.1 bd 40=0
   ·rw[if_neg (λh=>h h1),if_pos h1]
    by_cases h2:idP g.re x.2.2.1 bd 41=0
    ·rw[if_neg (λh=>h h2),h2]
    ·rw[if_pos h2]
   ·rw[if_pos h1,if_neg h1]
  refine zo.cut (λst w'=>st.1=errK g x.2.1 x.2.2.1 al bd 0/\∃room n,WtS w4 w' w4.heap.size fm bd room n/\(errK g x.2.1 x.2.2.1 al bd 0=0->room=g.ty.toNat +g.re.toNat/\n=room)) ?_ ?_
  ·refine zl (λe=>?_) (λe=>?_)
   ·rw[if_pos e]at e0
    obtain⟨g1,g2⟩:=he6 e (by decide)
    have hF6:=hF4.below hS6.below
    have hB6:=hB4.below hS6.below
    refine hF6.rB (n:=3) rfl (hB6.rI (n:=2) rfl ?_)
    refine zmj hS6 (by omega) (by omega) λw7 room7 n7 hS7 hr7 hn7 he7=>⟨_,rfl,?_,room7,n7,hS7,λh0=>?_⟩
    ·rw[e0,hre]
    ·rw[e0]at h0
     rw[hre]at he7
     obtain⟨g3,g4⟩:=he7 h0 (by decide)
     omega
   ·rw[if_neg e]at e0
    exact⟨e0.symm,room6,n6,hS6,λh0=>absurd (e0.symm.trans h0) e⟩
  ·rintro⟨ev,_⟩ w7 ⟨hev,room7,n7,hS7,hz7⟩
   dsimp only at hev
   subst hev
   have hB7:=hB4.below hS7.below
   refine hB7.rS (n:=3) rfl ?_
   have htn:g.ty.toNat +g.re.toNat<=2:=by cases g.ty<;>cases g.re<;>decide
   refine zm.ghost (λj st w'=>∃k,k<=al.length/\j=al.length-k/\st=(errK g x.2.1 x.2.2.1 al bd k,(k:Int),())/\∃room n,WtS w4 w' w4.heap.size fm bd room n/\
    (errK g x.2.1 x.2.2.1 al bd k=0->room=g.ty.toNat +g.re.toNat +zef al k/\(n=room\/65535<room)/\n<=2+k+65535*tx al k)) al.length
    ⟨0,Nat.zero_le _,rfl,rfl,room7,n7,hS7,λh=>by obtain⟨g1,g2⟩:=hz7 h;refine⟨by rw[g1];simp[zef],.inl g2,?_⟩;simp[tx];omega⟩ ?_
   rintro _ _ w8 ⟨k,hk,rfl,rfl,room8,n8,hS8,hz8⟩ next hnext
   refine zj (λh=>?_) (λh=>?_)
   ·have hlt:k<al.length:=by dsimp only at h;omega
    have hI8:=hI.below (hb4.on hS8.below)
    refine zo.cut (λst w'=>st.1=errK g x.2.1 x.2.2.1 al bd (k+1)/\∃room n,WtS w4 w' w4.heap.size fm bd room n/\
     (errK g x.2.1 x.2.2.1 al bd (k+1)=0->room=g.ty.toNat +g.re.toNat +zef al (k+1)/\(n=room\/65535<room)/\n<=2+(k+1)+65535*tx al (k+1))) ?_ ?_
    ·refine zfQ hI8 hlt ?_
     refine box3 rfl λw9 hA9 b9 z9=>?_
     have hS9:=hS8.step b9
     refine zl (λe=>?_) (λe=>?_)
     ·obtain⟨g1,g2,g3⟩:=hz8 e
      obtain⟨_,_,ha⟩:=ziw e
      have hwe:=zir ha
      have htx:=ztP hfr (k:=k) (by omega) hwe
      have hcn:=znR hs (k:=k) (by omega)
      refine hA9.rI (n:=0) rfl (hA9.rI (n:=1) rfl (hA9.rT (n:=2) rfl ?_))
      refine zsw hS9 (k:=k) (by omega) (hs _ (List.getElem_mem hlt)) (by omega) (by omega) λw10 room' n' hS10 hz10=>⟨_,rfl,?_,room',n',hS10,λh0=>?_⟩
      ·rw[zg4,if_pos e,hop,efl]
       unfold werr
       rw[zp hlt]
      ·rw[zg4,if_pos e]at h0
       unfold werr at h0
       rw[zp hlt]at h0
       rw[hop,efl]at hz10
       obtain⟨q1,q2,q3⟩:=hz10 h0
       rw[zhw hlt,zkx hlt]
       refine⟨by omega,by omega,?_⟩
       split at q3<;>rename_i h3
       ·rw[if_pos h3];exact bnd3 g3 q3
       ·rw[if_neg h3];exact bnd1 g3 q3
     ·refine⟨?_,room8,n8,hS9,λh0=>?_⟩
      ·rw[zg4,if_neg e]
      ·rw[zg4,if_neg e]at h0
       exact absurd h0 e
    ·rintro⟨ev,_⟩ w9 ⟨hev,room9,n9,hS9,hz9⟩
     dsimp only at hev
     subst hev
     dsimp only
     rw[zE (by omega)]
     exact hnext (al.length-(k+1)) _ _ (by omega) ⟨k+1,hlt,rfl,rfl,room9,n9,hS9,hz9⟩
   ·have hk':k=al.length:=by dsimp only at h;omega
    subst hk'
    have hff:=zr1 g x.2.1 x.2.2.1 al bd
    dsimp only at hff
    have hb8:=hS8.below
    have hF8:=hF4.below hb8
    have hB8:=hB4.below hb8
    have hI8:=hI.below (hb4.on hb8)
    refine zo.cut (λst w'=>st.1=(if errK g x.2.1 x.2.2.1 al bd al.length=0 then(if Yp g al.length=true then 0 else 42) else errK g x.2.1 x.2.2.1 al bd al.length)/\WtS w4 w' w4.heap.size fm bd room8 n8) ?_ ?_
    ·refine zl (λe=>?_) (λe=>?_)
     ·refine Fm.load hF8 ?_
      refine hB8.rS (n:=3) rfl ?_
      refine zqi (f:=fm) hI8 h24 λw9 b9=>⟨_,rfl,?_,hS8.step b9⟩
      obtain⟨_,_,ha⟩:=ziw e
      rw[if_pos e,hop,hwh (zir ha)]
     ·exact⟨by rw[if_neg e],hS8⟩
    ·rintro⟨ev,_⟩ w9 ⟨hev,hS9⟩
     dsimp only at hev
     rw[<-hev]at hff
     have hroom:ev=0->errK g x.2.1 x.2.2.1 al bd al.length=0:=by
      intro h
      rw[h]at hev
      refine Classical.byContradiction λhne=>?_
      rw[if_neg hne]at hev
      exact hne hev.symm
     obtain⟨r,xs,hW9,hO9,hFr9,hrl9⟩:=hS9.own
     refine zo.cut (λst w'=>st.1=zeE g x.2.1 x.2.2.1 al bd/\w'=w9) ?_ ?_
     ·refine zl (λe=>?_) (λe=>?_)
      ·have e':ev=0:=e
       rw[if_pos e']at hff
       obtain⟨g1,_,_⟩:=hz8 (hroom e')
       have hrp:zbl g al=1+room8:=by unfold zbl;rw[g1]
       refine hW9.rI (n:=10) rfl (zj (λhge=>⟨?_,rfl⟩) (λhlt=>⟨?_,rfl⟩))
       ·rw[hff,if_pos (by omega)]
       ·rw[hff,if_neg (by omega)];exact e
      ·have e':¬ev=0:=e
       rw[if_neg e']at hff
       exact⟨hff.symm,rfl⟩
     ·rintro⟨ev2,_⟩ w' ⟨hev2,hw'⟩
      dsimp only at hev2
      subst hw'
      have hb9:=hb4.on hS9.below
      have hC9:=hC4.below hS9.below
      have hB9:=hB4.below hS9.below
      refine zC (λe=>?_) (λe=>?_)
      ·refine st2 hC9 rfl λw10 hC10 c10=>?_
       refine hC10.rI (n:=0) rfl (hC10.rS (n:=1) (x:=⟨none,0,0⟩) rfl ?_)
       have:=hR ⟨none,0,0⟩ 0 w10 (c10.below hb9 (by omega)) (λh=>absurd (hev2.trans h) e)
       rw[<-hev2]at this
       exact this
      ·have e':ev2=0:=e
       refine hB9.drew.rI0 rfl (hW9.drew.rS (n:=9) (x:=r) rfl ?_)
       refine st2 hC9.drew rfl λw10 hC10 c10=>?_
       refine hC10.rI (n:=0) rfl (hC10.rS (n:=1) (x:=r) rfl ?_)
       have hf0:zeE g x.2.1 x.2.2.1 al bd=0:=hev2.symm.trans e'
       have:=hR r x.1 w10 (c10.below hb9.drew (by omega)) (λ_=>by
        rw[hf0]at hff
        have h0:ev=0:=by
         refine Classical.byContradiction λhne=>?_
         rw[if_neg hne]at hff
         exact hne hff.symm
        rw[if_pos h0]at hff
        have hle:¬65535<zbl g al:=by
         intro h
         rw[if_pos h]at hff
         cases hff
        obtain⟨g1,g2,_⟩:=hz8 (hroom h0)
        have hrp:zbl g al=1+room8:=by unfold zbl;rw[g1]
        omega)
       rw[hf0]at this
       exact this
theorem znS{w:World}{R:VWP}(hR:∀w',Below w.heap.size w w'->R (.tuple #[.int .i64 5,.agg #[.int .i64 0,.int .i64 0]]) w'):cR 178 #[.slice none 0 0] w R:=by
 refine za.of (zgK ⟨none,0,0⟩ R w ?_) λ_ _ h=>h
 refine zk λw1 hB b1 z1=>?_
 have hB:Blk w1 w.heap.size 29 [.int .i64 0,.int .i64 0]:=hB
 refine zm.ghost (λj st w'=>j=0/\st=((5:Int),(0:Int),())/\w'=w1) 0 ⟨rfl,rfl,rfl⟩ ?_
 rintro _ _ w' ⟨rfl,rfl,hw⟩ next hnext
 subst hw
 refine zj (λh=>absurd h (by simp)) (λ_=>?_)
 refine st2 hB rfl λw2 h2 c2=>?_
 exact Sp.load h2 (hR w2 (c2.below b1 (Nat.le_refl _)))
theorem zsp{w:World}{R:VWP}(hR:∀w',Below w.heap.size w w'->R (.tuple #[.int .i64 5,.int .i64 0]) w'):cR 161 #[.slice none 0 0] w R:=by
 refine za.of (zjt ⟨none,0,0⟩ R w ?_) λ_ _ h=>h
 refine znS λw1 b1=>⟨5,(0,0,()),rfl,?_⟩
 refine box2 rfl λw2 h2 b2 z2=>?_
 exact h2.drew.rI0 rfl (hR w2.drew (b1.on b2).drew)
theorem eRaw:Yq Tryz.prog 211 251 2 32:=⟨by kernel_rfl,Tryz.t251,.agg #[.int .u16 0,.slice none 0 0],by kernel_rfl,rfl,rfl,rfl,rfl⟩
theorem zpR{P:Program}{t e:TypeId}{sz bytes:Nat}(he:Yq P t e sz bytes){w0 w:World}{s:Sl}{xs:List Value}(h:Own w e sz s xs)(hb:Below w0.heap.size w0 w)(hF:zM w0.heap.size s){vs:List Value}(hvs:vs.length=sz)(hv:∀u∈vs,u.oneCell'=true){b c:Nat}{T:TypeId}
  (hB:Blk w b T vs) (h63:s.l+1<=9223372036854775807) (hbytes:(s.l+1)*bytes<=140737488355328) {k:Sl->World->Prop}
  (hk:∀r w',Own w' e sz r (xs++vs)->r.l=s.l+1->Below w0.heap.size w0 w'->zM w0.heap.size r->k r w'):zz P t (.slice s.a s.l s.c) (.slice (some (blk b)) 1 c) w k:=by
 refine yG he h (news:=vs) (by omega) (λj u hj=>hB.cell hj) hv h63 hbytes λr w' h1 hl' hg=>?_
 rcases hg with⟨_,_,h3⟩ | ⟨b',h3,h4,h5⟩
 ·rw[h3]at hl';omega
 ·have hbb:w0.heap.size<=b':=by
   rcases h4 with h4 |h4
   ·exact hF _ h4
   ·have:=hb.size
    omega
  exact hk r w' h1 hl' (hb.trans (zT h5 hbb hb.size)) λa ha=>by rw[h3]at ha;cases ha;exact hbb
theorem zrT{x:Mo}{pl:List PI}{w:World}{R:VWP}(hN:IsPl w x.2.2.1 pl)(hp:PlOk pl)(hR:∀(r:Sl) w',Below w.heap.size w w'->R (.tuple #[.slice r.a r.l r.c,.agg #[.int .i64 (zx x.2.1 pl).1,.int .i64 ((zx x.2.1 pl).2:Int)]]) w') :
  cR 131 #[moA x] w R:=by
 refine za.of (zkh x R w ?_) λ_ _ h=>h
 refine zk λw1 hB1 b1 z1=>?_
 have hB1:Blk w1 w.heap.size 25 (moV x):=hB1
 refine zk λw2 hC2 b2 z2=>?_
 have hC2:Blk w2 w1.heap.size 29 [.int .i64 0,.int .i64 0]:=hC2
 have hB2:=hB1.below b2
 have hb2:=b1.on b2
 have s1:=b1.size
 have s2:=b2.size
 have hlen:=hN.len
 have h40:=hp.len
 have spot:∀{w' cs},Blk w' w1.heap.size 29 cs->cs.length=2->Below w.heap.size w w'->∀(r:Sl) (e a:Int),(e,a)=((zx x.2.1 pl).1,((zx x.2.1 pl).2:Int))->
   Wr w' (blk w1.heap.size)/\Nw (w'.setCell (blk w1.heap.size) (.int .i64 e)) λw3=>Wr w3 ((blk w1.heap.size).add 1)/\Nw (w3.setCell ((blk w1.heap.size).add 1) (.int .i64 a)) λw4=>
    ldI w4 ((blk w1.heap.size).add 0) .i64 λx4=>ldI w4 ((blk w1.heap.size).add 1) .i64 λx5=>R (.tuple #[.slice r.a r.l r.c,.agg #[.int .i64 x4,.int .i64 x5]]) w4:=by
  intro w' cs hC hl hb r e a hea
  refine st2 hC hl λw3 h3 c3=>Sp.load h3 ?_
  rw[Prod.mk.injEq]at hea
  rw[hea.1,hea.2]
  exact hR r w3 (c3.below hb (by omega))
 refine zo.cut (λ_ w'=>w'=w2/\¬(x.2.1=0\/65536<x.2.1)) ?_ ?_
 ·refine hB2.rI (n:=1) rfl (zl (λe=>?_) (λe=>?_))
  ·exact spot hC2 rfl hb2 ⟨none,0,0⟩ 24 0 (by rw[zjZ (.inl e)];rfl)
  ·refine hB2.rI (n:=1) rfl (zj (λh=>?_) (λh=>⟨rfl,λh'=>h'.elim e h⟩))
   exact spot hC2 rfl hb2 ⟨none,0,0⟩ 24 0 (by rw[zjZ (.inr h)];rfl)
 ·rintro _ w' ⟨hw,hbd⟩
  subst hw
  refine zsp λw3 b3=>⟨_,_,rfl,?_⟩
  have hB3:=hB2.below b3
  have hC3:=hC2.below b3
  have hb3:=hb2.on b3
  refine hB3.rS (n:=2) rfl ?_
  rw[show IntKind.i64.wrap (1048576-5)=1048571 by decide +kernel]
  refine zm.ghost (λj st w4=>∃(k:Nat) (r:Sl) (xs:List Value),k<=pl.length/\j=pl.length-k/\st=((1048576:Int)-(totP pl k:Int),r,(k:Int),())/\totP pl k<=1048576/\(∀i,i<k->badI pl x.2.1 i=false)/\Own w4 251 2 r xs/\zM w'.heap.size r/\r.l=k/\
   Below w'.heap.size w' w4) pl.length ⟨0,⟨none,0,0⟩,[],Nat.zero_le _,rfl,rfl,(by simp[totP]),λi hi=>by omega,Own.nil _ _ _,λa ha=>by(cases ha),rfl,b3⟩ ?_
  rintro _ _ w4 ⟨k,r,xs,hk,rfl,rfl,htot,hj,hO,hF,hrl,hb4⟩ next hnext
  have hbw4:=hb2.on hb4
  have hB4:=hB2.below hb4
  have hC4:=hC2.below hb4
  refine zj (λh=>?_) (λh=>?_)
  ·have hlt:k<pl.length:=by dsimp only at h;omega
   have hmem:=List.getElem_mem hlt
   refine zeC (hN.below hbw4) hlt λt ht=>?_
   refine box4 rfl λw5 hI5 b5 z5=>?_
   have hI5:Blk w5 w4.heap.size 44 (inV (mkIn pl[k] t)):=hI5
   refine Ins.load hI5 ?_
   refine(hB4.below b5).rI (n:=1) rfl ?_
   refine zsn (x:=mkIn pl[k] t) (ht.below b5) (hp.args _ hmem) (hp.text _ hmem) λq op w6 b6 hq=>⟨(op,q,()),_,rfl,?_⟩
   refine box2 rfl λw7 h7 b7 z7=>?_
   have h7:Blk w7 w6.heap.size 251 [.int .u16 op,.slice q.a q.l q.c]:=h7
   have b57:=(b5.on b6).on b7
   have hb7:=hb4.on b57
   refine h7.rS (n:=1) (x:=q) rfl ?_
   change yH pl[k] x.2.1=0->1+q.l=zew pl[k]/\zew pl[k]<=65535 at hq
   show ifB (yH pl[k] x.2.1 !=0) _ _
   refine zC (λe=>?_) (λe=>?_)
   ·exact spot (hC4.below b57) rfl (hbw4.on b57) ⟨none,0,0⟩ _ _ (by rw[zoS hbd hlt hj e];rfl)
   ·obtain⟨q1,q2⟩:=hq e
    have ht1:=zj9 hlt
    have hleft:IntKind.i64.wrap (((1048576:Int)-(totP pl k:Int))-IntKind.i64.wrap (1+(q.l:Int)))=(1048576:Int)-(totP pl (k+1):Int):=by
     rw[zq (x:=(1:Int)+(q.l:Int)) (by omega) (by omega),zq (by omega) (by omega)]
     omega
    dsimp only
    rw[hleft]
    refine zj (λhlt0=>?_) (λhge0=>?_)
    ·exact spot (hC4.below b57) rfl (hbw4.on b57) ⟨none,0,0⟩ _ _ (by rw[zoT hbd hlt hj e (by omega)])
    ·have hbk:=zkA hlt e (show ¬1048576<totP pl (k+1) by omega)
     refine h7.rI (n:=0) rfl (h7.rS (n:=1) (x:=q) rfl ?_)
     refine zk λw8 h8 b8 z8=>?_
     have h8:Blk w8 w7.heap.size 251 [.int .u16 op,.slice q.a q.l q.c]:=h8
     refine zpR eRaw ((hO.below b57).below b8) (hb7.on b8) hF rfl (by simp[Value.oneCell']) h8 (by omega) (by omega) λr' w9 hO9 hl9 b9 F9=>?_
     rw[zE (by omega)]
     refine hnext (pl.length-(k+1)) _ _ (by omega) ⟨k+1,r',_,hlt,rfl,rfl,by omega,λi hi=>?_,hO9,F9,by omega,b9⟩
     by_cases e':i=k
     ·subst e';exact hbk
     ·exact hj i (by omega)
  ·have hk':k=pl.length:=by dsimp only at h;omega
   subst hk'
   exact spot hC4 rfl hbw4 r 0 0 (by rw[zls hbd hj];rfl)
theorem zpg{x:Mo}{pl:List PI}{w:World}{R:VWP}(hN:IsPl w x.2.2.1 pl)(hp:PlOk pl)(hR:∀w',Below w.heap.size w w'->R (.agg #[.int .i64 (zx x.2.1 pl).1,.int .i64 ((zx x.2.1 pl).2:Int)]) w') :
  cR 100 #[moA x] w R:=by
 refine za.of (zji x R w ?_) λ_ _ h=>h
 refine zk λw1 hB1 b1 z1=>?_
 have hB1:Blk w1 w.heap.size 25 (moV x):=hB1
 refine zk λw2 hC2 b2 z2=>?_
 have hC2:Blk w2 w1.heap.size 29 [.int .i64 0,.int .i64 0]:=hC2
 have hb2:=b1.on b2
 refine Mo.load (hB1.below b2) ?_
 refine zrT (x:=x) (hN.below hb2) hp λr w3 b3=>⟨r,((zx x.2.1 pl).1,((zx x.2.1 pl).2:Int),()),rfl,?_⟩
 refine box2 rfl λw4 h4 b4 z4=>?_
 refine Sp.load h4 ?_
 refine st2 ((hC2.below b3).below b4) rfl λw5 h5 c5=>?_
 refine Sp.load h5 (hR w5 (c5.below ((hb2.on b3).on b4) (by have:=b1.size;omega)))
end Go.Proofs
namespace Go.Proofs
open Go.Gk Go.RowKit Go.Gm
def idsN(ty:Int)(al:List Ag)(k:Nat):List Int:=(if ty=0 then [] else [ty])++((al.take k).filter λa=>a.1==1).map (·.2.1)
def idsP(ty:Int)(al:List Ag):List Int:=idsN ty al al.length
theorem zmk{ty:Int}{al:List Ag}{k:Nat}(hk:k<al.length):idsN ty al (k+1)=idsN ty al k++(if al[k].1=1 then [al[k].2.1] else []):=by
 unfold idsN
 rw[List.take_succ_eq_append_getElem hk,List.filter_append,List.map_append,<-List.append_assoc]
 congr 1
 by_cases e:al[k].1=1
 ·rw[if_pos e]
  have:(al[k].1==1)=true:=beq_iff_eq.2 e
  simp[this]
 ·rw[if_neg e]
  have:(al[k].1==1)=false:=beq_eq_false_iff_ne.2 e
  simp[this]
theorem ztd(ty:Int)(al:List Ag)(k:Nat):(idsN ty al k).length<=k+1:=by
 unfold idsN
 rw[List.length_append,List.length_map]
 have h1:=List.length_filter_le (λa:Ag=>a.1==1) (al.take k)
 rw[List.length_take]at h1
 have h2:(if ty=0 then([]:List Int) else [ty]).length<=1:=by split<;>simp
 omega
section
variable {x:Ins} {al:List Ag} {w:World} {R:VWP}
theorem zn6(hI:IsAg w x.2.2.2.1 al)(h24:24*al.length<=140737488351232)
  (hR:∀r w',Own w' 22 1 r ((idsP x.2.1 al).map (Value.int .u32))->zM w.heap.size r->Below w.heap.size w w'->R (.slice r.a r.l r.c) w'):cR 73 #[inA x] w R:=by
 refine za.of (zkG x R w ?_) λ_ _ h=>h
 refine zk λw1 hB b1 z1=>?_
 have hB:Blk w1 w.heap.size 44 (inV x):=hB
 have hlen:=hI.len
 refine zo.cut (λst w'=>Own w' 22 1 st.1 ((idsN x.2.1 al 0).map (Value.int .u32))/\zM w1.heap.size st.1/\Below w1.heap.size w1 w') ?_ ?_
 ·refine hB.rI (n:=1) rfl (zC (λe=>?_) (λe=>?_))
  ·refine hB.rI (n:=1) rfl ?_
   refine zk λw2 h2 b2 z2=>?_
   refine zhE eU32 (Own.nil _ _ _) b2 (λa ha=>by cases ha) (v:=.int .u32 x.2.1) rfl h2 (by decide) (by decide) λr w3 h3 b3 F3=>⟨?_,F3,b3⟩
   unfold idsN
   rw[if_neg e]
   simpa using h3
  ·refine⟨?_,λa ha=>by(cases ha),Below.refl _ _⟩
   unfold idsN
   rw[if_pos e]
   simpa using Own.nil w1 22 1
 ·rintro⟨r0,_⟩ w2 ⟨hO2,hF2,hb2⟩
  dsimp only at hO2 hF2⊢
  refine(hB.below hb2).rS (n:=3) rfl ?_
  refine zm.countSl al.length hI.bound (λk r w'=>Own w' 22 1 r ((idsN x.2.1 al k).map (Value.int .u32))/\zM w1.heap.size r/\Below w1.heap.size w1 w') ⟨hO2,hF2,hb2⟩ ?_
  rintro k r w3 hk ⟨hO,hF,hb⟩ next hnext
  have hb0:=b1.on hb
  have hI3:=hI.below hb0
  refine zj (λh=>?_) (λh=>?_)
  ·have hlt:k<al.length:=by dsimp only at h;omega
   refine zo.cut (λst w'=>Own w' 22 1 st.1 ((idsN x.2.1 al (k+1)).map (Value.int .u32))/\zM w1.heap.size st.1/\Below w1.heap.size w1 w') ?_ ?_
   ·refine zfQ hI3 hlt ?_
    refine box3 rfl λw4 h4 b4 z4=>?_
    have hrl:r.l<=k+1:=by have:=hO.1;have h2:=ztd x.2.1 al k;rw[List.length_map]at this;omega
    refine h4.rI0 rfl (zl (λe=>?_) (λe=>?_))
    ·refine h4.rI (n:=1) rfl ?_
     refine zk λw5 h5 b5 z5=>?_
     refine zhE eU32 ((hO.below b4).below b5) ((hb.on b4).on b5) hF (v:=.int .u32 al[k].2.1) rfl h5 (by omega) (by omega) λr' w6 h6 b6 F6=>⟨?_,F6,b6⟩
     rw[zmk hlt,if_pos e,List.map_append]
     exact h6
    ·refine⟨?_,hF,hb.on b4⟩
     rw[zmk hlt,if_neg e,List.append_nil]
     exact hO.below b4
   ·rintro⟨r',_⟩ w' ⟨h1,h2,h3⟩
    exact hnext r' w' hlt ⟨h1,h2,h3⟩
  ·have hk:k=al.length:=by dsimp only at h;omega
   subst hk
   exact hR r w3 hO (λa ha=>by have:=hF a ha;have:=b1.size;omega) hb0
end
end Go.Proofs
namespace Go.Proofs
open Go.Gk Go.RowKit Go.Gm
def Cpy(w:World)(b:Nat)(pl:List PI):Prop:=
 ∃hs:List Ins,hs.length=pl.length/\Blk w b 44 (flat inV hs)/\∀(j:Nat) (h:j<hs.length) (h':j<pl.length),∃c,b<c/\hs[j]=mkIn pl[j] ⟨some (blk c),pl[j].2.2.2.length,pl[j].2.2.2.length⟩/\Blk w c 123 (flat agV pl[j].2.2.2)
theorem Cpy.isPl{w:World}{b:Nat}{pl:List PI}(h:Cpy w b pl)(hm:pl.length<=9223372036854775807)(hm':∀p∈pl,p.2.2.2.length<=9223372036854775807):IsPl w ⟨some (blk b),pl.length,pl.length⟩ pl:=by
 obtain⟨hs,h1,h2,h3⟩:=h
 refine⟨rfl,Nat.le_refl _,hm,(λh=>by cases h),λa ha k hk=>?_⟩
 cases ha
 obtain⟨c,h4,h5,h6⟩:=h3 k (by omega) hk
 refine⟨⟨some (blk c),pl[k].2.2.2.length,pl[k].2.2.2.length⟩,λj hj=>?_,Blk.isC zF (by omega) h6 (hm' _ (List.getElem_mem hk))⟩
 rw[<-h5]
 have hg:=zi5 ziA hs k (by omega) j hj
 have hlt:j<(inV (hs[k]'(by omega))).length:=hj
 rw[List.getElem?_eq_getElem hlt]at hg⊢
 exact h2.cell hg
theorem zeY{x:Mo}{pl:List PI}{w:World}{R:VWP}(hN:IsPl w x.2.2.1 pl)(hp:PlOk pl)
  (hR:∀b w',w.heap.size<=b->Cpy w' b pl->IsPl w' ⟨some (blk b),pl.length,pl.length⟩ pl->Below w.heap.size w w'->R (moA (x.1,x.2.1,⟨some (blk b),pl.length,pl.length⟩,())) w') :
  cR 9 #[moA x] w R:=by
 refine za.of (zbu x R w ?_) λ_ _ h=>h
 refine zk λw1 hB1 b1 z1=>?_
 have hB1:Blk w1 w.heap.size 25 (moV x):=hB1
 refine zk λw2 hC2 b2 z2=>?_
 have hC2:Blk w2 w1.heap.size 25 [.int .u32 0,.int .u32 0,.slice none 0 0]:=hC2
 have hB2:=hB1.below b2
 have hl:=hN.len
 have h40:=hp.len
 refine hB2.rS (n:=2) rfl ⟨⟨by omega,by omega,by omega,by omega⟩,?_⟩
 refine zk λw3 hD3 b3 z3=>?_
 have hb3:=(b1.on b2).on b3
 have hB3:=hB2.below b3
 have hC3:=hC2.below b3
 have hargs:∀p∈pl,p.2.2.2.length<=9223372036854775807:=λp h=>by have:=hp.args p h;omega
 refine zm.count pl.length hN.bound (λk w'=>Below w.heap.size w w'/\w3.heap.size<=w'.heap.size/\Blk w' w.heap.size 25 (moV x)/\Blk w' w1.heap.size 25 [.int .u32 0,.int .u32 0,.slice none 0 0]/\
   ∃(hs:List Ins) (r:List Value),hs.length=k/\Blk w' w2.heap.size 44 (flat inV hs++r)/\r.length=(pl.length-k)*4/\
    ∀(j:Nat) (h:j<hs.length) (h':j<pl.length),∃c,w2.heap.size<c/\hs[j]=mkIn pl[j] ⟨some (blk c),pl[j].2.2.2.length,pl[j].2.2.2.length⟩/\Blk w' c 123 (flat agV pl[j].2.2.2))
  ⟨hb3,Nat.le_refl _,hB3,hC3,[],_,rfl,by simpa[flat] using hD3,by rw[Array.length_toList,size_madeCells,hl];simp,λj h _=>by cases h⟩ ?_
 rintro k w4 hk ⟨hb,hz,hB,hC,hs,r,hhl,hD,hr,hrow⟩ next hnext
 refine hB.rS (n:=2) rfl (zj (λhlt=>?_) (λhge=>?_))
 ·have hlt:k<pl.length:=by dsimp only at hlt;omega
  refine hB.rS (n:=2) rfl (zeC (hN.below hb) hlt λt ht=>?_)
  refine zl5 (x:=mkIn pl[k] t) ht (hp.args _ (List.getElem_mem hlt)) λc w5 hc hA5 hI5 b5=>⟨mkIn pl[k] ⟨some (blk c),pl[k].2.2.2.length,pl[k].2.2.2.length⟩,rfl,?_⟩
  have hb5:=hb.on b5
  have hD5:=hD.below b5
  have hB5:=hB.below b5
  have hC5:=hC.below b5
  have s5:=b5.size
  refine⟨⟨by omega,by dsimp only;omega⟩,?_⟩
  have hfl:(flat inV hs).length=k*4:=by rw[zH ziA,hhl]
  obtain⟨r',hr',e⟩:=set4 (flat inV hs) (cs:=r) (m:=pl.length-(k+1)) (by rw[hr];congr 1;omega) (.int .u16 pl[k].1) (.int .u32 pl[k].2.1) (.int .u32 pl[k].2.2.1) (.slice (some (blk c)) pl[k].2.2.2.length pl[k].2.2.2.length)
  rw[hfl]at e
  have hcl:(flat inV hs++r).length=pl.length*4:=by rw[List.length_append,hfl,hr,<-Nat.add_mul];congr 1;omega
  dsimp only
  rw[show Int.toNat (k:Int)=k from rfl]
  simp only[zn]
  have hD1:=hD5.set (k*4) (.int .u16 pl[k].1)
  have hD2:=hD1.set (k*4+1) (.int .u32 pl[k].2.1)
  have hD3:=hD2.set (k*4+2) (.int .u32 pl[k].2.2.1)
  have hD4:=hD3.set (k*4+3) (.slice (some (blk c)) pl[k].2.2.2.length pl[k].2.2.2.length)
  have c1:=(((Chg.set w2.heap.size (k*4) w5 (.int .u16 pl[k].1)).trans (Chg.set w2.heap.size (k*4+1) _ (.int .u32 pl[k].2.1))).trans (Chg.set w2.heap.size (k*4+2) _ (.int .u32 pl[k].2.2.1))).trans
   (Chg.set w2.heap.size (k*4+3) _ (.slice (some (blk c)) pl[k].2.2.2.length pl[k].2.2.2.length))
  refine⟨hD5.wr (by omega),hD1.wr (by rw[List.length_set];omega),hD2.wr (by rw[List.length_set,List.length_set];omega),hD3.wr (by rw[List.length_set,List.length_set,List.length_set];omega),?_⟩
  refine hnext _ hlt ⟨c1.below hb5 (by omega),by rw[c1.size];omega,c1.blk hB5 (by omega),c1.blk hC5 (by omega),hs++[mkIn pl[k] ⟨some (blk c),pl[k].2.2.2.length,pl[k].2.2.2.length⟩],r',by simp[hhl],?_,hr',?_⟩
  ·rw[e]at hD4
   have e2:flat inV (hs++[mkIn pl[k] ⟨some (blk c),pl[k].2.2.2.length,pl[k].2.2.2.length⟩])=flat inV hs++inV (mkIn pl[k] ⟨some (blk c),pl[k].2.2.2.length,pl[k].2.2.2.length⟩):=by
    simp[flat]
   rw[e2]
   exact hD4
  ·intro j h h'
   by_cases hj:j<hs.length
   ·obtain⟨c',g1,g2,g3⟩:=hrow j hj h'
    refine⟨c',g1,?_,c1.blk (g3.below b5) (by omega)⟩
    rw[List.getElem_append_left hj]
    exact g2
   ·have hj':j=k:=by simp at h;omega
    subst hj'
    refine⟨c,by omega,?_,c1.blk hA5 (by omega)⟩
    rw[List.getElem_append_right (by omega)]
    simp[hhl]
 ·have hk':k=pl.length:=by dsimp only at hge;omega
  subst hk'
  simp only[Nat.sub_self,Nat.zero_mul]at hr
  have:r=[]:=List.eq_nil_of_length_eq_zero hr
  subst this
  rw[List.append_nil]at hD
  refine⟨hB.wr (n:=2) (by simp),?_⟩
  rw[hl]
  have c1:=Chg.set w.heap.size 2 w4 (.slice (some (blk w2.heap.size)) pl.length pl.length)
  have hB5:Blk _ w.heap.size 25 (moV (x.1,x.2.1,⟨some (blk w2.heap.size),pl.length,pl.length⟩,())):=hB.set 2 (.slice (some (blk w2.heap.size)) pl.length pl.length)
  have hb5:=c1.below hb (Nat.le_refl _)
  have hC5:=c1.blk hC (by omega)
  have hD5:=c1.blk hD (by omega)
  refine Nw.mk (Mo.load hB5 ?_)
  refine st3 hC5 rfl λw6 hC6 c6=>?_
  have hC6:Blk w6 w1.heap.size 25 (moV (x.1,x.2.1,⟨some (blk w2.heap.size),pl.length,pl.length⟩,())):=hC6
  have hcp:Cpy w6 w2.heap.size pl:=⟨hs,hhl,c6.blk hD5 (by omega),λj h h'=>by
   obtain⟨c',g1,g2,g3⟩:=hrow j h h'
   exact⟨c',g1,g2,c6.blk (c1.blk g3 (by omega)) (by omega)⟩⟩
  refine Mo.load hC6 ?_
  exact hR w2.heap.size w6 (by omega) hcp (hcp.isPl hN.bound hargs) (c6.below hb5 (by omega))
end Go.Proofs
namespace Go.Proofs
open Go.Gk Go.RowKit Go.Gm
abbrev idsA(l:List Ag):List Int:=(l.filter λa=>a.1==1).map (·.2.1)
def allI(p:PI):List Int:=p.2.1::p.2.2.1::idsA p.2.2.2
def allP(pl:List PI):List Int:=pl.flatMap allI
open Classical in
theorem zr2{p:PI}{bd:Int}(h:yH p bd=0)(hb:0<bd)(h0:0<=p.2.1/\0<=p.2.2.1/\∀x∈p.2.2.2,0<=x.2.1) :
  (∀n∈allI p,0<=n/\n<bd)/\∀x∈p.2.2.2,x.1=1->x.2.2.size=0:=by
 unfold yH at h
 cases hfr:frm p.1 with
 |none=>rw[zfS hfr]at h;cases h
 |some g=>
  rw[zdy hfr]at h
  have hek:errK g p.2.1 p.2.2.1 p.2.2.2 bd p.2.2.2.length=0:=by
   refine Classical.byContradiction λhne=>?_
   unfold zeE at h
   rw[if_pos hne]at h
   exact hne h
  obtain⟨e1,e2,e3⟩:=ziw hek
  have hw:=zir e3
  have idlt:∀{must:Bool} {n e:Int},idP must n bd e=0->e≠0->n<bd:=by
   intro must n e hi he
   unfold idP at hi
   split at hi
   ·rename_i hm
    split at hi
    ·cases hi
    ·rename_i hno
     cases must with
     |true=>exact Int.not_le.1 λhle=>hno ⟨rfl,hle⟩
     |false=>
      have:n=0:=by
       refine Classical.byContradiction λhn=>?_
       rw[bne_iff_ne.2 hn]at hm
       cases hm
      omega
   ·exact absurd hi he
  have hx:∀x∈p.2.2.2,x.1=1->(x.2.1<bd)/\x.2.2.size=0:=by
   intro x hx h1
   obtain⟨j,hj,rfl⟩:=List.mem_iff_getElem.1 hx
   have:=hw j hj
   unfold werr at this
   rw[zp hj]at this
   unfold ZH at this
   split at this
   ·cases this
   ·split at this
    ·cases this
    ·rename_i n1
     split at this
     ·cases this
     ·rename_i n2
      refine⟨Int.not_le.1 λhle=>n2 ⟨h1,.inr hle⟩,?_⟩
      refine Classical.byContradiction λhne=>n1 (.inr ⟨by rw[h1];decide,hne⟩)
  refine⟨λn hn=>?_,λx hx' h1=>(hx x hx' h1).2⟩
  unfold allI at hn
  rcases List.mem_cons.1 hn with rfl |hn
  ·exact⟨h0.1,idlt e1 (by decide)⟩
  ·rcases List.mem_cons.1 hn with rfl |hn
   ·exact⟨h0.2.1,idlt e2 (by decide)⟩
   ·obtain⟨x,hx',rfl⟩:=List.mem_map.1 hn
    obtain⟨hx1,hx2⟩:=List.mem_filter.1 hx'
    exact⟨h0.2.2 x hx1,(hx x hx1 (by simpa using hx2)).1⟩
end Go.Proofs
namespace Go.Proofs
open Go.Gk Go.RowKit Go.Gm
theorem _root_.Go.Gk.Blk.rM0{w:World}{b:Nat}{T:TypeId}{cs:List Value}(h:Blk w b T cs){x:Option Nat}(hn:cs[0]? =some (.map x)){φ:Option Nat->Prop}(hφ:φ x):ldM w (blk b) φ:=⟨x,h.cell0 hn,hφ⟩
theorem uMap:Tryz.prog.underlying 116=some (.map 22 22):=by kernel_rfl
theorem uU32:Tryz.prog.underlying 22=some (.int .u32):=by kernel_rfl
theorem zU32:∃i,Tryz.prog.info? 22=some i/\i.zero=some (.int .u32 0):=⟨Tryz.t22,by kernel_rfl,rfl⟩
end Go.Proofs
namespace Go.Proofs
open Go.Gk
set_option linter.unusedVariables false
set_option maxRecDepth 100000
def Yb:Ann:=(.q (.seq (some ⟨[0,1],[]⟩) (.q .c) (.q (.seq (some ⟨[0,6],[]⟩) (.q .c) (.q (.q (.seq none (.one (.loop ⟨[7],[(8,(.b (.int .i64)))]⟩ (.seq none (.q .c) (.one .nil)))) (.q .nil))))))))
def ZY(p0:Sl)(p1:Int)(R:VWP)(w:World):Prop:=zo (S:=Unit) (λm1=>ifB (decide (p1<(0:Int))) (False) (m1 () w)) (λs2 w1=>dK 111 #[.int .u64 (IntKind.u64.wrap (p0.l:Int)),.int .u64 (IntKind.u64.wrap p1)] w1 λx4 x5 w2=>zo (S:=Unit) (λm6=>ifB (decide (x4>(0:Int))) (False) (ifB (decide (x5>(9223372036854775807:Int))) (False) (m6 () w2))) (λs7 w3=>(0<=(IntKind.i64.wrap x5)/\(IntKind.i64.wrap x5)<=(IntKind.i64.wrap x5)/\8*(IntKind.i64.wrap x5)<=281474976710656/\(IntKind.i64.wrap x5)<=9223372036854775807)/\Nw (w3.alloc (.cells (madeCells #[zi 0] ((Int.toNat (IntKind.i64.wrap x5))*1)) 3)) λw4=>znP Tryz.prog #[99,99] (.slice (some (zB w3)) (Int.toNat (IntKind.i64.wrap x5)) (Int.toNat (IntKind.i64.wrap x5))) (p0.zw) w4 λx8 w5=>zm (S:=Int×Unit) (λs9 w6 n10=>ifB (decide (s9.1<((Int.toNat (IntKind.i64.wrap x5)):Int))) ((0<=s9.1/\s9.1<=((Int.toNat (IntKind.i64.wrap x5)):Int)/\((Int.toNat (IntKind.i64.wrap x5)):Int)<=((Int.toNat (IntKind.i64.wrap x5)):Int))/\(0<=(0:Int)/\0<=s9.1/\s9.1<=((Int.toNat (IntKind.i64.wrap x5)):Int))/\znP Tryz.prog #[99,99] (.slice (if (Int.toNat (IntKind.i64.wrap x5))=s9.1.toNat then(some (zB w3)) else Option.map (λa=>a.add s9.1.toNat) (some (zB w3))) ((Int.toNat (IntKind.i64.wrap x5))-s9.1.toNat) ((Int.toNat (IntKind.i64.wrap x5))-s9.1.toNat)) (.slice (if (Int.toNat (IntKind.i64.wrap x5))=0 then(some (zB w3)) else Option.map (λa=>a.add 0) (some (zB w3))) (s9.1.toNat-0) ((Int.toNat (IntKind.i64.wrap x5))-0)) w6.drew λx11 w7=>n10 ((IntKind.i64.wrap (s9.1+x11)),()) w7) (R (.slice (some (zB w3)) (Int.toNat (IntKind.i64.wrap x5)) (Int.toNat (IntKind.i64.wrap x5))) w6)) (x8,()) w5))
theorem Zy(p0)(p1)(R)(w)(h:ZY p0 p1 R w):Calls Tryz.prog 78 #[.slice p0.a p0.l p0.c,.int .i64 p1] w (Ret R):=lwC Yb Tryz.func78 (by kernel_rfl) (by kernel_rfl) h
def zfl:Ann:=(.q (.seq none (.cond (.q (.q .nil)) .nil) (.q (.q .nil))))
def zfd(p0:Int)(p1:Int)(R:VWP)(w:World):Prop:=dK 150 #[.int .u64 p0,.int .u64 p1] w λx2 x3 w1=>R (.tuple #[.int .u64 x2,.int .u64 x3]) w1
theorem zbZ(p0)(p1)(R)(w)(h:zfd p0 p1 R w):Calls Tryz.prog 111 #[.int .u64 p0,.int .u64 p1] w (Ret R):=lwC zfl Tryz.func111 (by kernel_rfl) (by kernel_rfl) h
def zds:Ann:=(.q (.q (.q (.q (.q (.q (.q (.q (.q (.q (.q (.q .nil))))))))))))
def YH(p0:Int)(p1:Int)(R:VWP)(w:World):Prop:=R (.tuple #[.int .u64 (IntKind.u64.wrap ((IntKind.u64.wrap ((IntKind.u64.wrap ((Int.fdiv p0 (2 ^ (min 32 (IntKind.bits .u64))))*(Int.fdiv p1 (2 ^ (min 32 (IntKind.bits .u64))))))+(Int.fdiv (IntKind.u64.wrap ((IntKind.u64.wrap ((Int.fdiv p0 (2 ^ (min 32 (IntKind.bits .u64))))*(IntKind.u64.wrap (BitVec.toNat (BitVec.ofInt (IntKind.bits .u64) p1 &&& BitVec.ofInt (IntKind.bits .u64) 4294967295):Int))))+(Int.fdiv (IntKind.u64.wrap ((IntKind.u64.wrap (BitVec.toNat (BitVec.ofInt (IntKind.bits .u64) p0 &&& BitVec.ofInt (IntKind.bits .u64) 4294967295):Int))*(IntKind.u64.wrap (BitVec.toNat (BitVec.ofInt (IntKind.bits .u64) p1 &&& BitVec.ofInt (IntKind.bits .u64) 4294967295):Int)))) (2 ^ (min 32 (IntKind.bits .u64)))))) (2 ^ (min 32 (IntKind.bits .u64))))))+(Int.fdiv (IntKind.u64.wrap ((IntKind.u64.wrap (BitVec.toNat (BitVec.ofInt (IntKind.bits .u64) (IntKind.u64.wrap ((IntKind.u64.wrap ((Int.fdiv p0 (2 ^ (min 32 (IntKind.bits .u64))))*(IntKind.u64.wrap (BitVec.toNat (BitVec.ofInt (IntKind.bits .u64) p1 &&& BitVec.ofInt (IntKind.bits .u64) 4294967295):Int))))+(Int.fdiv (IntKind.u64.wrap ((IntKind.u64.wrap (BitVec.toNat (BitVec.ofInt (IntKind.bits .u64) p0 &&& BitVec.ofInt (IntKind.bits .u64) 4294967295):Int))*(IntKind.u64.wrap (BitVec.toNat (BitVec.ofInt (IntKind.bits .u64) p1 &&& BitVec.ofInt (IntKind.bits .u64) 4294967295):Int)))) (2 ^ (min 32 (IntKind.bits .u64)))))) &&& BitVec.ofInt (IntKind.bits .u64) 4294967295):Int))+(IntKind.u64.wrap ((IntKind.u64.wrap (BitVec.toNat (BitVec.ofInt (IntKind.bits .u64) p0 &&& BitVec.ofInt (IntKind.bits .u64) 4294967295):Int))*(Int.fdiv p1 (2 ^ (min 32 (IntKind.bits .u64)))))))) (2 ^ (min 32 (IntKind.bits .u64)))))),.int .u64 (IntKind.u64.wrap (p0*p1))]) w
theorem zfv(p0)(p1)(R)(w)(h:YH p0 p1 R w):Calls Tryz.prog 150 #[.int .u64 p0,.int .u64 p1] w (Ret R):=lwC zds Tryz.func150 (by kernel_rfl) (by kernel_rfl) h
end Go.Proofs
namespace Go.Proofs
open Go.Gk Go.RowKit
theorem zm4{n:Nat}(hn:n<=65536):IntKind.u64.wrap (n:Int)=n:=by rw[IntKind.wrap_u64];omega
theorem zhB{n:Nat}(hn:n<=65536):((BitVec.toNat (BitVec.ofInt (IntKind.bits .u64) (n:Int) &&& BitVec.ofInt (IntKind.bits .u64) (4294967295:Int)):Nat):Int)=n:=by
 have h:(BitVec.ofInt 64 (n:Int) &&& BitVec.ofInt 64 (4294967295:Int)).toNat=n:=by
  rw[BitVec.toNat_and,BitVec.toNat_ofInt,BitVec.toNat_ofInt]
  have e1:((n:Int) % ((2 ^ 64:Nat):Int)).toNat=n:=by omega
  have e2:((4294967295:Int) % ((2 ^ 64:Nat):Int)).toNat=2 ^ 32-1:=by decide
  rw[e1,e2,Nat.and_two_pow_sub_one_eq_mod]
  omega
 exact congrArg Int.ofNat h
theorem zlP{n:Nat}(hn:n<=65536){w:World}{R:VWP}(hR:R (.tuple #[.int .u64 0,.int .u64 (n:Int)]) w):cR 150 #[.int .u64 1,.int .u64 (n:Int)] w R:=by
 refine za.of (zfv 1 n R w ?_) λ_ _ h=>h
 unfold YH
 have e0:((2:Int) ^ (min 32 (IntKind.bits .u64)))=4294967296:=by decide
 have e1:Int.fdiv 1 4294967296=0:=by decide
 have e2:Int.fdiv (n:Int) 4294967296=0:=by rw[Int.fdiv_eq_ediv_of_nonneg _ (by decide)];omega
 have m1:((BitVec.toNat (BitVec.ofInt (IntKind.bits .u64) (1:Int) &&& BitVec.ofInt (IntKind.bits .u64) (4294967295:Int)):Nat):Int)=1:=zhB (n:=1) (by decide)
 have m0:((BitVec.toNat (BitVec.ofInt (IntKind.bits .u64) (0:Int) &&& BitVec.ofInt (IntKind.bits .u64) (4294967295:Int)):Nat):Int)=0:=zhB (n:=0) (by decide)
 have u0:IntKind.u64.wrap (0:Int)=0:=by decide
 have u1:IntKind.u64.wrap (1:Int)=1:=by decide
 have f0:Int.fdiv 0 4294967296=0:=by decide
 simp only[e0,e1,e2,zhB hn,m1,zm4 hn,u0,u1,Int.zero_mul,Int.one_mul,Int.mul_zero,Int.add_zero,f0,m0]
 exact hR
theorem zmG{B:Nat}{w w':World}(h:Below B w w'){g:Nat}(hg:B<=g)(cs:Array Value):Below B w (w'.setRow g cs):=
 ⟨h.os,h.tape,h.output,by simpa[World.setRow] using h.size,λk hk=>(setRow_other w' g k cs (by omega)).trans (h.block k hk)⟩
theorem zjm{w:World}{b o:Nat}{cs:List Value}(hD:Blk w b 3 cs){a:Addr}{dl dc sl sc:Nat}{news:List Value}(hn:news.length=Nat.min sl dl)(hsrc:∀j v,news[j]? =some v->w.cell? (a.add j)=some v)
  (hfit:o+news.length<=cs.length) (h1:∀v∈news,v.oneCell'=true) {k:Int->World->Prop}
  (hk:∀w',Blk w' b 3 (cs.take o++news++cs.drop (o+news.length))->(∀B w0,Below B w0 w->B<=b->Below B w0 w')->k (news.length:Int) w') :
  znP Tryz.prog #[99,99] (.slice (some ⟨b,o,none⟩) dl dc) (.slice (some a) sl sc) w k:=by
 have hun:(Tryz.prog).underlying 99=some (.slice 3):=by kernel_rfl
 have hsz:((Tryz.prog).info? 3).map (·.size)=some 1:=by kernel_rfl
 have hc:=run_copy_row (P:=Tryz.prog) w 99 99 0 3 b o dl dc a sl sc cs.toArray 3 news hun hsz hD hn hsrc (by simpa using hfit) h1
 refine⟨_,_,hc,hk _ ?_ λB w0 hb hB=>zmG hb hB _⟩
 exact setRow_heap w b _ _ _ _ hD
set_option maxHeartbeats 1000000 in
theorem znA{n:Nat}(hn:n<=65536)(hn1:1<=n){v:Int}{xb:Nat}{w:World}{R:VWP}(hx:Blk w xb 3 [.int .i64 v])
  (hR:∀b w',Blk w' b 3 (List.replicate n (.int .i64 v))->w.heap.size<=b->Below w.heap.size w w'->R (.slice (some (blk b)) n n) w') :
  cR 78 #[.slice (some (blk xb)) 1 1,.int .i64 (n:Int)] w R:=by
 refine za.of (Zy ⟨some (blk xb),1,1⟩ n R w ?_) λ_ _ h=>h
 refine zo.cut (λ_ w'=>w'=w) (zj (λh=>by omega) λ_=>rfl) ?_
 rintro _ _ rfl
 rename_i w
 have e1:IntKind.u64.wrap (((1:Nat):Nat):Int)=1:=by decide
 dsimp only
 rw[e1,zm4 hn]
 refine za.of (zbZ 1 n _ w ?_) λ_ _ h=>h
 refine zlP hn ⟨0,n,rfl,0,n,rfl,?_⟩
 refine zo.cut (λ_ w'=>w'=w) (zj (λh=>absurd h (by decide)) λ_=>zj (λh=>absurd h (by omega)) λ_=>rfl) ?_
 rintro _ _ rfl
 rename_i w
 have e2:IntKind.i64.wrap (n:Int)=n:=zq (by omega) (by omega)
 rw[e2]
 refine⟨⟨by omega,by omega,by omega,by omega⟩,Nw.gen λw4 hw4=>?_⟩
 obtain⟨z,hz⟩:∃z,z=Value.int .i64 0:=⟨_,rfl⟩
 obtain⟨u,hu⟩:∃u,u=Value.int .i64 v:=⟨_,rfl⟩
 have hu1:u.oneCell'=true:=by rw[hu];rfl
 dsimp only[zB,Go.Gk.Sl.zw,zi,zu,zb,zh]at hw4;rw[<-hz]at hw4
 rw[<-hu]at hx hR
 have hD4:Blk w4 w.heap.size 3 (List.replicate n z):=by rw[hw4];exact Blk.made w 3 z n
 have b4:Below w.heap.size w w4:=by rw[hw4];exact(Below.refl _ _).alloc (Nat.le_refl _) _
 have hx4:=hx.below b4
 have tn:Int.toNat ((n:Nat):Int)=n:=rfl
 rw[tn]
 refine zjm hD4 (o:=0) (news:=[u]) (by simp[Nat.min_def];omega) (λj x hj=>by
   cases j with
   |zero=>simp at hj;subst hj;exact hx4.cell rfl
   |succ j=>simp at hj) (by simp;omega) (by simpa using hu1) λw5 hD5 hb5=>?_
 have hb5:=hb5 _ _ b4 (Nat.le_refl _)
 have hD5':Blk w5 w.heap.size 3 (List.replicate 1 u++List.replicate (n-1) z):=by
  simpa using hD5
 clear hD5 hD4 hx4 hw4
 refine zm.ghost (λj st w'=>∃m:Nat,1<=m/\m<=n/\j=n-m/\st=((m:Int),())/\Below w.heap.size w w'/\Blk w' w.heap.size 3 (List.replicate m u++List.replicate (n-m) z)) (n-1)
  ⟨1,Nat.le_refl _,hn1,rfl,rfl,hb5,hD5'⟩ ?_
 rintro _ _ w6 ⟨m,hm1,hmn,rfl,rfl,hb,hD⟩ next hnext
 refine zj (λhlt=>?_) (λhge=>?_)
 ·have hlt:m<n:=by dsimp only at hlt;omega
  have tm:Int.toNat ((m:Nat):Int)=m:=rfl
  refine⟨⟨by first |omega | (dsimp only;omega),by first |omega | (dsimp only;omega),by omega⟩,⟨by omega,by first |omega | (dsimp only;omega),by first |omega | (dsimp only;omega)⟩,?_⟩
  dsimp only
  rw[tm,if_neg (by omega:¬n=m),if_neg (by omega:¬n=0)]
  simp only[Option.map_some,Nat.sub_zero]
  have ea:(blk w.heap.size).add m=⟨w.heap.size,m,none⟩:=by rw[zcc]
  have e0:(blk w.heap.size).add 0=blk w.heap.size:=by rw[zcc]
  rw[ea,e0]
  obtain⟨q,hq⟩:∃q,q=Nat.min m (n-m):=⟨_,rfl⟩
  have hq1:1<=q/\q<=n-m/\q<=m:=by rw[hq];simp only[Nat.min_def];split<;>omega
  have hD':=hD.drew
  refine zjm hD' (o:=m) (news:=List.replicate q u) (by rw[List.length_replicate,hq]) (λj x hj=>by
    have hj':j<q:=by have:=(List.getElem?_eq_some_iff.1 hj).1;simpa using this
    rw[List.getElem?_replicate,if_pos hj']at hj
    cases hj
    refine hD'.cell ?_
    rw[List.getElem?_append_left (by simp;omega),List.getElem?_replicate,if_pos (by omega)]) (by simp;omega) (λx hx=>by
    rw[List.eq_of_mem_replicate hx];exact hu1) λw7 hD7 hb7=>?_
  rw[List.length_replicate]at hD7⊢
  rw[show IntKind.i64.wrap ((m:Int)+(q:Int))=((m+q:Nat):Int) by rw[zq (by omega) (by omega)];omega]
  refine hnext (n-(m+q)) _ _ (by omega) ⟨m+q,by omega,by omega,rfl,rfl,hb7 _ _ hb.drew (Nat.le_refl _),?_⟩
  have:(List.replicate m u++List.replicate (n-m) z).take m++List.replicate q u++(List.replicate m u++List.replicate (n-m) z).drop (m+q)=List.replicate (m+q) u++List.replicate (n-(m+q)) z:=by
   rw[List.take_left' (by simp),List.drop_append,List.drop_replicate,List.drop_replicate,List.length_replicate,List.replicate_append_replicate]
   simp
   omega
  rw[<-this]
  exact hD7
 ·have:m=n:=by dsimp only at hge;omega
  subst this
  refine hR w.heap.size w6 ?_ (Nat.le_refl _) hb
  simpa using hD
end Go.Proofs
namespace Go.Proofs
open Go.Gk Go.RowKit Go.Gm
def KeyN(L:List (Int×Int)):Prop:=(L.map (·.1)).Nodup
theorem zou(k v:Int):∀L:List (Int×Int),(setL L k v).map (·.1)=L.map (·.1)\/((setL L k v).map (·.1)=L.map (·.1)++[k]/\k ∉ L.map (·.1))
 | []=>.inr ⟨rfl,by simp⟩
 |p::r=>by
  simp only[setL]
  split
  ·rename_i e
   left
   simp[e]
  ·rename_i e
   rcases zou k v r with h | ⟨h1,h2⟩
   ·left
    simp[h]
   ·right
    refine⟨by simp[h1],?_⟩
    rw[List.map_cons,List.mem_cons,not_or]
    exact⟨e,h2⟩
theorem KeyN.set{L:List (Int×Int)}(h:KeyN L)(k v:Int):KeyN (setL L k v):=by
 unfold KeyN at h⊢
 rcases zou k v L with e | ⟨e,hk⟩
 ·rw[e];exact h
 ·rw[e]
  refine List.nodup_append.2 ⟨h,by simp,?_⟩
  intro a ha b hb e'
  rw[List.mem_singleton]at hb
  rw[e',hb]at ha
  exact hk ha
def mk1(pl:List PI)(id:Int)(k:Nat):Bool:=(pl.getD k pi0).2.2.1==id&&id !=0
def zO(pl:List PI)(id:Int)(n:Nat):Int:=match (List.range n).find? (mk1 pl id) with
 |some k=>(k:Int)
 |none=>-1
def MkOk(L:List (Int×Int))(pl:List PI)(k:Nat):Prop:=∀id,(zU L id=none->∀j,k<=j->j<pl.length->mk1 pl id j=false)/\
 ∀v,zU L id=some v->∃j:Nat,v=(j:Int)/\k<=j/\j<pl.length/\mk1 pl id j=true/\∀i,k<=i->i<j->mk1 pl id i=false
theorem MkOk.end(pl:List PI):MkOk [] pl pl.length:=λ_=>⟨λ_ j h1 h2=>by omega,λv h=>by cases h⟩
theorem MkOk.step{L:List (Int×Int)}{pl:List PI}{k:Nat}(h:MkOk L pl (k+1))(hk:k<pl.length):MkOk (if pl[k].2.2.1≠0 then setL L pl[k].2.2.1 k else L) pl k:=by
 have hm:∀id,mk1 pl id k=(pl[k].2.2.1==id&&id !=0):=λid=>by unfold mk1;rw[zp hk]
 intro id
 obtain⟨h1,h2⟩:=h id
 by_cases e0:pl[k].2.2.1=0
 ·rw[if_neg (λh=>h e0)]
  have hf:mk1 pl id k=false:=by
   rw[hm,e0]
   by_cases e:id=0
   ·rw[e];rfl
   ·rw[beq_eq_false_iff_ne.2 (λh=>e h.symm),Bool.false_and]
  refine⟨λhn j g1 g2=>?_,λv hv=>?_⟩
  ·by_cases e:j=k
   ·subst e;exact hf
   ·exact h1 hn j (by omega) g2
  ·obtain⟨j,q1,q2,q3,q4,q5⟩:=h2 v hv
   refine⟨j,q1,by omega,q3,q4,λi g1 g2=>?_⟩
   by_cases e:i=k
   ·subst e;exact hf
   ·exact q5 i (by omega) g2
 ·rw[if_pos e0,za1]
  by_cases e:id=pl[k].2.2.1
  ·rw[if_pos e]
   refine⟨λhn=>by(cases hn),λv hv=>⟨k,(Option.some.inj hv).symm,Nat.le_refl _,hk,?_,λi g1 g2=>by omega⟩⟩
   rw[hm,e]
   simp[e0]
  ·rw[if_neg e]
   have hf:mk1 pl id k=false:=by rw[hm,beq_eq_false_iff_ne.2 (λh=>e h.symm),Bool.false_and]
   refine⟨λhn j g1 g2=>?_,λv hv=>?_⟩
   ·by_cases e:j=k
    ·subst e;exact hf
    ·exact h1 hn j (by omega) g2
   ·obtain⟨j,q1,q2,q3,q4,q5⟩:=h2 v hv
    refine⟨j,q1,by omega,q3,q4,λi g1 g2=>?_⟩
    by_cases e:i=k
    ·subst e;exact hf
    ·exact q5 i (by omega) g2
theorem zm5:Tryz.prog.underlying 98=some (.map 22 3):=by kernel_rfl
theorem zk0{y:Value}{s:Sl}{pl:List PI}{pb:Nat}{w:World}(Inv:Nat->World->Prop)(S:World->Prop)(h0:Inv pl.length w)
  (hkeep:∀k w',Inv k w'->w'.cell? (blk pb)=some (.slice s.a s.l s.c)/\IsPl w' s pl)
  (hround:∀k (hk:k<pl.length) t w',Inv (k+1) w'->zJ Tryz.prog Tryz.fs y [.int .i64 (k:Int),inA (mkIn pl[k] t)] w' λv w''=>(v =.bool true/\Inv k w'')\/(v =.bool false/\S w''))
  (hend:∀w',Inv 0 w'->S w'):Calls Tryz.prog 137 #[y,.pointer (some (blk pb))] w (Ret λ_ w'=>S w'):=by
 refine Zp y (blk pb) _ w ⟨s,(hkeep _ _ h0).1,?_⟩
 have hlen:=(hkeep _ _ h0).2.len
 have hmax:=(hkeep _ _ h0).2.bound
 dsimp only
 rw[hlen,zq (by omega) (by omega)]
 refine zm.ghost (λj st w'=>j<=pl.length/\st=((j:Int)-1,())/\Inv j w') pl.length ⟨Nat.le_refl _,rfl,h0⟩ ?_
 rintro k _ w1 ⟨hk,rfl,hI⟩ next hnext
 refine zj (λh=>?_) (λh=>?_)
 ·obtain⟨j,rfl⟩:∃j,k=j+1:=⟨k-1,by dsimp only at h;omega⟩
  have hlt:j<pl.length:=by omega
  obtain⟨c1,c2⟩:=hkeep _ _ hI
  have ej:(((j+1:Nat):Int)-1)=(j:Int):=by omega
  dsimp only
  rw[ej]
  refine⟨s,c1,zeC c2 hlt λt _=>?_⟩
  refine zJ.mono (hround j hlt t w1 hI) λv w2 hv=>?_
  rcases hv with⟨rfl,hv⟩ | ⟨rfl,hv⟩
  ·refine⟨true,rfl,zK rfl ?_⟩
   rw[zq (by omega) (by omega)]
   exact hnext j _ _ (by omega) ⟨by omega,rfl,hv⟩
  ·exact⟨false,rfl,zR rfl hv⟩
 ·have hk0:k=0:=by dsimp only at h;omega
  subst hk0
  exact hend w1 hI
theorem zo1{s:Sl}{pl:List PI}{w:World}{R:VWP}(hN:IsPl w s pl)
  (hR:∀w' L,IsMp w' w.heap.size .i64 L->MkOk L pl 0->KeyN L->Below w.heap.size w w'->R (.map (some w.heap.size)) w'):cR 72 #[.slice s.a s.l s.c] w R:=by
 refine za.of (zjw s R w ?_) λ_ _ h=>h
 refine Nw.gen λw1 e1=>?_
 have m1:IsMp w1 w.heap.size .i64 []:=by rw[e1];exact IsMp.new _ _
 have b1:Below w.heap.size w w1:=by rw[e1];exact(Below.refl _ _).alloc (Nat.le_refl _) _
 have z1:w1.heap.size=w.heap.size+1:=by rw[e1];simp
 clear e1
 refine Nw.gen λw2 e2=>?_
 have hB2:Blk w2 w1.heap.size 98 [.map none]:=by rw[e2];exact Blk.new _ _ _
 have b2:Below w1.heap.size w1 w2:=by rw[e2];exact(Below.refl _ _).alloc (Nat.le_refl _) _
 have z2:w2.heap.size=w.heap.size+2:=by rw[e2];simp[z1]
 clear e2
 refine⟨hB2.wr0 (by simp),Nw.gen λw3 e3=>?_⟩
 have c3:Chg w1.heap.size w2 w3:=by rw[e3];exact Chg.set w1.heap.size 0 w2 _
 have hB3:Blk w3 w1.heap.size 98 [.map (some w.heap.size)]:=by rw[e3];exact hB2.set0 _
 clear e3
 have m3:=(m1.below b2).of_block (c3.block _ (by omega))
 have hb3:Below w.heap.size w w3:=c3.below (b1.on b2) (by omega)
 have z3:=c3.size
 refine za.of (Z2 s _ w3 ?_) λ_ _ h=>h
 refine zk λw4 hC4 b4 z4=>⟨_,rfl,?_⟩
 have hC4:Blk w4 w3.heap.size 23 [.slice s.a s.l s.c]:=hC4
 intro mk hy
 have hcf:Tryz.fs.contains 137=true:=by kernel_rfl
 unfold zqr
 simp only[hcf]
 generalize hw5:((w4.alloc (.deferred (some []))).alloc (mk .ready none))=w5
 have b5:Below w4.heap.size w4 w5:=by rw[<-hw5];exact zlc w4 _ _
 have hd5:w5.heap[w4.heap.size]? =some (.deferred (some [])):=by rw[<-hw5];exact zti w4 _ _
 have hl5:w5.heap[w4.heap.size+1]? =some (mk .ready none):=by rw[<-hw5];exact ztj w4 _ _
 clear hw5
 have b35:=b4.on b5
 refine zk0 (y:=.func (.yield (w4.heap.size+1)) #[] #[]) (s:=s) (pl:=pl)
  (λk w'=>w'.heap[w4.heap.size+1]? =some (mk .ready none)/\w'.heap[w4.heap.size]? =some (.deferred (some []))/\Blk w' w1.heap.size 98 [.map (some w.heap.size)]/\Blk w' w3.heap.size 23 [.slice s.a s.l s.c]/\Below w.heap.size w w'/\
   ∃L,IsMp w' w.heap.size .i64 L/\MkOk L pl k/\KeyN L) _
  ⟨hl5,hd5,hB3.below b35,hC4.below b5,hb3.on b35,[],m3.below b35,MkOk.end pl,by simp[KeyN]⟩ ?_ ?_ ?_
 ·rintro k w' ⟨h1,h2,h3,h4,h5,_⟩
  exact⟨h4.cell0 rfl,hN.below h5⟩
 ·rintro k hk t w' ⟨h1,h2,h3,h4,h5,L,h6,h7,h8⟩
  have hlt':w4.heap.size+1<w'.heap.size:=(Array.getElem?_eq_some_iff.1 h1).1
  refine hy ((k:Int),mkIn pl[k] t,()) w' _ h1 ?_
  refine box4 rfl λw6 hI6 b6 z6=>?_
  have hI6:Blk w6 w'.heap.size 44 (inV (mkIn pl[k] t)):=hI6
  have hl6:w6.heap[w4.heap.size+1]? =some (mk .ready none):=(b6.block _ hlt').trans h1
  refine⟨hl6,Nw.gen λw7 e7=>?_⟩
  have s6:=b6.size
  have hlt6:w4.heap.size+1<w6.heap.size:=by omega
  have ho7:∀b,b≠w4.heap.size+1->w7.heap[b]? =w6.heap[b]?:=λb hb=>by rw[e7];exact World.putObj_heap_other hb
  have z7:w7.heap.size=w6.heap.size:=by rw[e7];simp
  have hl7:w7.heap[w4.heap.size+1]? =some (mk .busy none):=by rw[e7];exact zgn hlt6 _
  have hb7:Below w.heap.size w w7:=by rw[e7];exact(h5.on b6).putObj (by omega) _
  clear e7
  have d7:w7.heap[w4.heap.size]? =some (.deferred (some [])):=by rw[ho7 _ (by omega),b6.block _ (by omega)];exact h2
  have k3:=(h3.below b6).of_block (ho7 _ (by have:=b4.size;omega))
  have k4:=(h4.below b6).of_block (ho7 _ (by omega))
  have k6:=(h6.below b6).of_block (ho7 _ (by omega))
  have kI:=hI6.of_block (ho7 _ (by omega))
  have hst:=h7.step hk
  have hput:∀{w8:World},w8.heap[w4.heap.size+1]? =some (mk .busy none)->w4.heap.size+1<w8.heap.size:=λh=>(Array.getElem?_eq_some_iff.1 h).1
  refine kI.rI (n:=2) rfl (zC (λe=>?_) (λe=>?_))
  ·have e':pl[k].2.2.1≠0:=e
   rw[if_pos e']at hst
   refine k3.rM0 rfl (kI.rI (n:=2) rfl ?_)
   refine zkz zm5 uU32 k6 λw8 m8 c8=>?_
   have hl8:w8.heap[w4.heap.size+1]? =some (mk .busy none):=by rw[c8.block _ (by omega)];exact hl7
   refine⟨hl8,.inl ⟨rfl,zgn (hput hl8) _,?_,?_,?_,?_,_,?_,hst,h8.set _ _⟩⟩
   ·rw[World.putObj_heap_other (by omega),c8.block _ (by omega)];exact d7
   ·exact(c8.blk k3 (by omega)).put (by omega) _
   ·exact(c8.blk k4 (by omega)).put (by omega) _
   ·exact(c8.below hb7 (Nat.le_refl _)).putObj (by omega) _
   ·exact m8.of_block (World.putObj_heap_other (by omega))
  ·have e':¬pl[k].2.2.1≠0:=λh=>h e
   rw[if_neg e']at hst
   refine⟨hl7,.inl ⟨rfl,zgn (by omega) _,?_,?_,?_,?_,L,?_,hst,h8⟩⟩
   ·rw[World.putObj_heap_other (by omega)];exact d7
   ·exact k3.put (by omega) _
   ·exact k4.put (by omega) _
   ·exact hb7.putObj (by omega) _
   ·exact k6.of_block (World.putObj_heap_other (by omega))
 ·rintro w' ⟨h1,h2,h3,h4,h5,L,h6,h7,h8⟩
  refine⟨h1,?_⟩
  have k3:=h3.put (l:=w4.heap.size+1) (by omega) (mk .exhausted none)
  refine k3.rM0 rfl (zkE (by rw[World.putObj_heap_other (by omega)];exact h2) ?_)
  refine hR _ L ?_ h7 h8 ?_
  ·exact(h6.of_block (World.putObj_heap_other (by omega))).of_block (World.putObj_heap_other (by omega))
  ·exact(h5.putObj (by omega) _).putObj (by omega) _
end Go.Proofs
namespace Go.Proofs
open Go.Gk Go.RowKit Go.Gm
theorem zl3{n:Int}(h:0<=n)(h2:n<=4294967295):IntKind.u32.wrap n=n:=by
 rw[IntKind.wrap_u32]
 exact Int.emod_eq_of_lt h (Int.lt_of_le_of_lt h2 (by decide))
end Go.Proofs
namespace Go.Gk
open Go
def zd0(l:Nat):Code->Bool
 | .label l'=>Nat.beq l' l
 |_=>false
def zeR(l:Nat):Code->Option Code
 | .seq a b=>match zd0 l a with
  |true=>some b
  |false=>match findLabel a l with
   |none=>zeR l b
   |some _=>none
 |_=>none
theorem ziB{l:Nat}{a:Code}(h:zd0 l a=true):a =.label l:=by
 cases a<;>simp only[zd0]at h<;>first |cases h |skip
 rename_i l'
 have:=Nat.eq_of_beq_eq_true h
 rw[this]
theorem zka{l:Nat}:∀{c B:Code},zeR l c=some B->findLabel c l=some (.seq .skip B)
 | .seq a b,B,h=>by
  simp only[zeR]at h
  split at h
  ·rename_i hl
   cases h
   rw[ziB hl]
   simp[findLabel]
  ·split at h
   ·rename_i hf
    simp only[findLabel,hf]
    exact zka h
   ·cases h
 | .skip,_,h | .label _,_,h | .ret,_,h | .exit _,_,h | .goto _,_,h=>by cases h
 | .region ..,_,h | .cond ..,_,h | .block ..,_,h | .loop ..,_,h | .scope ..,_,h=>by cases h
 | .rangeFunc ..,_,h=>by cases h
def zvk(l:Nat)(next:Env->World->Prop)(K:Exit->Env->World->Prop):Exit->Env->World->Prop
 | .goto l',e,w=>match Nat.beq l' l with
  |true=>next e w
  |false=>False
 |x,e,w=>K x e w
def lwA(P:Program)(fs:List Nat)(l:Nat):Code->Ann->Env->World->(Exit->Env->World->Prop)->Prop
 | .seq a b,.seq none aa ab,e,w,K=>match zd0 l a with
  |true=>False
  |false=>lw P fs a aa e w (seqK (λe w=>lwA P fs l b ab e w K) K)
 | .seq a b,.seq (some j) aa ab,e,w,K=>match zd0 l a with
  |true=>False
  |false=>match zeN j.keep (wr a) with
   |true=>zo (λM=>lw P fs a aa e w (seqK (λe w=>match zem j.sg e with |some s=>M s w |none=>False) K))
     (λs w=>lwA P fs l b ab (Y6 j.sg s (zbi j.keep e)) w K)
   |false=>False
 | .seq a b,.loop j ab,e,w,K=>match zd0 l a with
  |true=>match zeN j.keep (wr b) with
   |true=>match zem j.sg e with
    |some s=>zm (λs w next=>lw P fs b ab (Y6 j.sg s (zbi j.keep e)) w (zvk l (λe w=>match zem j.sg e with |some s=>next s w |none=>False) K)) s w
    |none=>False
   |false=>False
  |false=>False
 |_,_,_,_,_=>False
def ztq(P:Program)(fs:List Nat)(l:Nat)(fn:Func)(an:Ann)(args:List Value)(w:World)(R:VWP):Prop:=
 match fn.body with
 |some (.seq r (.scope c))=>match an with
  | .seq none ar (.one ac)=>match zeR l c with
   |some _=>lw P fs r ar (zhf args 0) w (seqK (λe w=>lwA P fs l c ac e w (zlq (retK P fn.results.toList R))) (zlq (retK P fn.results.toList R)))
   |none=>False
  |_=>False
 |_=>False
section
variable {P:Program}
def JB(P:Program)(l:Nat)(B:Code)(Q:Exit->Act->World->Prop):Nat->Act->World->Prop
 | 0,_,_=>False
 |n+1,a,w=>(Code.seq .skip B).wp P (Exit.jump l (JB P l B Q n) Q) a w
theorem zvV{p:Nat->Prop}:∀n,p n->∃n,p n/\∀m,p m->n<=m:=by
 intro n
 induction n using Nat.strongRecOn with
 |_ n ih=>
  intro h
  by_cases hm:∃m,m<n/\p m
  ·obtain⟨m,h1,h2⟩:=hm
   exact ih m h1 h2
  ·exact⟨n,h,λm hp=>Nat.le_of_not_lt λhlt=>hm ⟨m,hlt,hp⟩⟩
theorem zrB{l:Nat}{J J':Act->World->Prop}{Q Q':Exit->Act->World->Prop}(hJ:∀a w,J a w->J' a w)(hQ:∀x a w,Q x a w->Q' x a w):∀x a w,Exit.jump l J Q x a w->Exit.jump l J' Q' x a w:=by
 intro x a w h
 cases x with
 |goto l'=>exact⟨h.1,hJ _ _ h.2⟩
 |_=>exact hQ _ _ _ h
theorem zpe{c B:Code}{l:Nat}{Q:Exit->Act->World->Prop}{a:Act}{w:World}(hf:findLabel c l=some (.seq .skip B))
  (first:c.wp P (Exit.jump l (λa w=>∃n,JB P l B Q n a w) Q) a w):(Code.scope c).wp P Q a w:=by
 have hl:∀(a:Act) (w:World),(∃n,JB P l B Q n a w)->∃n,JB P l B Q n a w/\∀m,JB P l B Q m a w->n<=m:=λa w ⟨n,h⟩=>zvV n h
 classical
 refine wp_scope_jumps l (λa w=>∃n,JB P l B Q n a w) (λa w=>if h:∃n,JB P l B Q n a w then Classical.choose (hl a w h) else 0) hf first ?_
 intro a w hJ
 have hs:=Classical.choose_spec (hl a w hJ)
 simp only[dif_pos hJ]
 generalize Classical.choose (hl a w hJ)=n at hs
 cases n with
 |zero=>exact hs.1.elim
 |succ k=>
  refine Code.wp_mono (zrB ?_ λ_ _ _ h=>h) hs.1
  intro a' w' h'
  have hJ':∃n,JB P l B Q n a' w':=⟨k,h'⟩
  refine⟨hJ',?_⟩
  rw[dif_pos hJ']
  have:=(Classical.choose_spec (hl a' w' hJ')).2 k h'
  omega
theorem zqN{fs:List Nat}(hfs:zab P fs)(hm:P.follows .mixedOrders=true){n:Nat}{c:Code}{an:Ann}{e:Env}{w:World}{K:Exit->Env->World->Prop}{a:Act}
  (hd:∀d,d∈wr c->d<n) (hr:Rep [] n a e) (h:lw P fs c an e w K):c.wp P (CQ [] n (wr c) a K) a w:=
 (wpIn_wide (n:=0)).1 (Code.wpIn_mono (F:=Wf none) (λ_ _ _ h=>h) (zeu (ro:=none) hfs hm c an e w K a hd hr h))
theorem zrK{fs:List Nat}(hfs:zab P fs)(hm:P.follows .mixedOrders=true){n l:Nat}{ws:List Nat}{a0:Act}{K:Exit->Env->World->Prop}{B:Code}(hK:∀l e w,¬K (.goto l) e w) :
  ∀(c:Code) (an:Ann) (e:Env) (w:World) (a:Act),zeR l c=some B->(∀d,d∈wr c->d<n)->(∀d,d∈wr c->d∈ws)->Rep [] n a e->Same ws a0 a->lwA P fs l c an e w K->
   c.wp P (Exit.jump l (λa w=>∃k,JB P l B (CQ [] n ws a0 K) k a w) (CQ [] n ws a0 K)) a w:=by
 intro c
 induction c with
 |seq x y ihx ihy=>
  intro an e w a hB hd hw hr hs h
  have hdx:∀d,d∈wr x->d<n:=λd hh=>hd d (List.mem_append_left _ hh)
  have hdy:∀d,d∈wr y->d<n:=λd hh=>hd d (List.mem_append_right _ hh)
  have hwx:∀d,d∈wr x->d∈ws:=λd hh=>hw d (List.mem_append_left _ hh)
  have hwy:∀d,d∈wr y->d∈ws:=λd hh=>hw d (List.mem_append_right _ hh)
  cases an with
  |seq j aa ab=>
   have hnl:zd0 l x=false->zeR l y=some B:=by
    intro hx
    simp only[zeR,hx]at hB
    split at hB
    ·exact hB
    ·cases hB
   have hB':zeR l y=some B:=by
    refine hnl ?_
    cases hx:zd0 l x with
    |false=>rfl
    |true=>
     exfalso
     cases j<;>simp only[lwA,hx]at h
   cases j with
   |none=>
    simp only[lwA]at h
    split at h
    ·exact h.elim
    refine wp_seq (Code.wp_mono ?_ (zqN hfs hm hdx hr h))
    rintro z a' w' ⟨e',hr',hs',h'⟩
    have hs2:=hs.trans (hs'.mono hwx)
    cases z with
    |normal=>exact ihy ab e' w' a' hB' hdy hwy hr' hs2 h'
    |goto l'=>exact(hK _ _ _ h').elim
    |_=>exact⟨e',hr',hs2,h'⟩
   |some j=>
    simp only[lwA]at h
    split at h
    ·exact h.elim
    split at h
    ·rename_i hk
     obtain⟨M,h1,h2⟩:=h
     refine wp_seq (Code.wp_mono ?_ (zqN hfs hm hdx hr h1))
     rintro z a' w' ⟨e',hr',hs',h'⟩
     have hs2:=hs.trans (hs'.mono hwx)
     cases z with
     |normal=>
      simp only[seqK]at h'
      split at h'
      ·rename_i s hg
       exact ihy ab _ w' a' hB' hdy hwy (Zj hr' hg (hr.keep hs' hr'.1 hr'.2.1 hk)) hs2 (h2 s w' h')
      ·exact h'.elim
     |goto l'=>exact(hK _ _ _ h').elim
     |_=>exact⟨e',hr',hs2,h'⟩
    ·exact h.elim
  |loop j ab=>
   simp only[lwA]at h
   split at h
   ·rename_i hx
    have hB':y=B:=by
     simp only[zeR,hx]at hB
     exact Option.some.inj hB
    subst hB'
    split at h
    ·rename_i hk
     split at h
     ·rename_i s hg
      obtain⟨I,μ,h0,hround⟩:=h
      rw[ziB hx]
      have pass:∀(J:Act->World->Prop) s w' a',I s w'->Rep [] n a' (Y6 j.sg s (zbi j.keep e))->Same ws a0 a'->Same (wr y) a a'->
        (∀s2 w2 a2,I s2 w2->μ s2 w2<μ s w'->Rep [] n a2 (Y6 j.sg s2 (zbi j.keep e))->Same ws a0 a2->Same (wr y) a a2->J a2 w2)->y.wp P (Exit.jump l J (CQ [] n ws a0 K)) a' w':=by
       intro J s w' a' hI hr' hs' hsy hJ
       refine Code.wp_mono ?_ (zqN hfs hm hdy hr' (hround s w' hI))
       rintro z a2 w2 ⟨e2,hr2,hs2,h2⟩
       have hs3:=hs'.trans (hs2.mono hwy)
       cases z with
       |goto l'=>
        simp only[zvk]at h2
        split at h2
        ·rename_i hl
         split at h2
         ·rename_i s2 hg2
          exact⟨Nat.eq_of_beq_eq_true hl,hJ s2 w2 a2 h2.1 h2.2 (Zj hr2 hg2 (hr.keep (hsy.trans hs2) hr2.1 hr2.2.1 hk)) hs3 (hsy.trans hs2)⟩
         ·exact h2.elim
        ·exact h2.elim
       |_=>exact⟨e2,hr2,hs3,h2⟩
      have key:∀k s w' a',μ s w'<k->I s w'->Rep [] n a' (Y6 j.sg s (zbi j.keep e))->Same ws a0 a'->Same (wr y) a a'->JB P l y (CQ [] n ws a0 K) k a' w':=by
       intro k
       induction k with
       |zero=>intro s w' a' hlt;omega
       |succ k ih=>
        intro s w' a' hlt hI hr' hs' hsy
        refine wp_seq (wp_skip ?_)
        exact pass _ s w' a' hI hr' hs' hsy λs2 w2 a2 i1 i2 i3 i4 i5=>ih s2 w2 a2 (by omega) i1 i3 i4 i5
      refine wp_seq (wp_label ?_)
      exact pass _ s w a h0 (Zj hr hg (hr.keep (Same.refl _ _) hr.1 hr.2.1 hk)) hs (Same.refl _ _) λs2 w2 a2 i1 i2 i3 i4 i5=>⟨_,key (μ s2 w2+1) s2 w2 a2 (by omega) i1 i3 i4 i5⟩
     ·exact h.elim
    ·exact h.elim
   ·exact h.elim
  |_=>exact h.elim
 |_=>intro an e w a hB;cases hB
theorem zrL{l:Nat}{fs:List Nat}(hfs:zab P fs)(hm:P.follows .mixedOrders=true){f:Nat}{fn:Func}{an:Ann}{args:List Value}{w:World}{R:VWP}
  (hf:P.funcs[f]? =some fn) (hn:(match fn.body with |some c=>zmQ fn.ntmps c |none=>false)=true) (hz:Nat.ble args.length fn.ntmps=true) (h:ztq P fs l fn an args w R) :
  Calls P f args.toArray w (Ret R):=by
 unfold ztq at h
 split at h
 ·rename_i r c hb
  split at h
  ·rename_i ar ac
   split at h
   ·rename_i B hB
    rw[hb]at hn
    simp only at hn
    have hz':=Nat.le_of_ble_eq_true hz
    have hdst:∀d,d∈wr (.seq r (.scope c))->d<fn.ntmps:=λd hd=>by simp only[zmQ,List.all_eq_true]at hn;exact Nat.le_of_ble_eq_true (hn d hd)
    refine calls_of_wp hf hb ?_
    have hr:Rep [] fn.ntmps {tmps:=args.toArray++Array.replicate (fn.ntmps-args.toArray.size) undef,defers:=[]} (zhf args 0):=by
     refine⟨by simp;omega,rfl,λt v ht=>?_⟩
     obtain⟨_,h2⟩:=ze7 _ _ _ _ ht
     rw[Nat.sub_zero]at h2
     have hlt:t<args.length:=by
      rcases Nat.lt_or_ge t args.length with h |h
      ·exact h
      ·rw[List.getElem?_eq_none h]at h2;cases h2
     have:args[t]=v:=by rw[List.getElem?_eq_getElem hlt]at h2;exact Option.some.inj h2
     have hlt2:t<args.length+(fn.ntmps-args.length):=by omega
     simp[hlt,hlt2,this]
    have fin:∀x a w' e',Rep [] fn.ntmps a e'->zlq (retK P fn.results.toList R) x e' w'->retK P fn.results.toList R x e' w':=by
     intro x a w' e' _ h
     cases x with
     |goto=>exact h.elim
     |_=>exact h
    refine wp_seq (Code.wp_mono ?_ (zqN hfs hm (λd hd=>hdst d (List.mem_append_left _ hd)) hr h))
    rintro x a w' ⟨e',hr',_,h'⟩
    cases x with
    |normal=>
     refine Code.wp_mono ?_ (zpe (zka hB) (zrK hfs hm (ws:=wr c) (a0:=a) (K:=zlq (retK P fn.results.toList R)) (λ_ _ _ h=>h) c ac e' w' a hB (λd hd=>hdst d (List.mem_append_right _ hd)) (λ_ hd=>hd) hr' (Same.refl _ _) h'))
     rintro x a w' ⟨e',hr',_,h'⟩
     have h':=fin _ _ _ _ hr' h'
     cases x with
     |normal=>exact⟨hr'.2.1,Y7 hr' h'⟩
     |ret=>exact⟨hr'.2.1,Y7 hr' h'⟩
     |_=>exact h'.elim
    |ret=>exact⟨hr'.2.1,Y7 hr' h'⟩
    |_=>exact h'.elim
   ·exact h.elim
  ·exact h.elim
 ·exact h.elim
end
end Go.Gk
namespace Go.Proofs
open Go.Gk
set_option linter.unusedVariables false
set_option maxRecDepth 100000
def zfJ:Ann:=(.q (.q (.seq none (.q (.cond (.q .nil) .nil)) (.q .nil))))
def zf8(p0:(Int×Int×Sl×Unit))(R:VWP)(w:World):Prop:=Nw (w.alloc (.cells #[zu p0.1,zu p0.2.1,p0.2.2.1.zw] 25)) λw1=>Nw (w1.alloc (.cells (List.toArray (List.replicate 20 (zi 0))) 82)) λw2=>Nw (w2.alloc (.cells #[zi 0,zi 0] 29)) λw3=>da w3 (zB w) λx1 x2 x3=>dM 61 #[.agg #[zu x1,zu x2,x3.zw]] w3 λx5 x6 w4=>dd w4 #[zi 0,zi 0] 29 (zi x6.1) (zi x6.2.1) λw7=>ifB (Option.isNone x5) (db w7.drew (zB w4) λx7 x8=>dj w7.drew (zB w1) (zi 0) (zi 0) (zi 0) (zi 0) (zi 0) (zi 0) (zi 0) (zi 0) (zi 0) (zi 0) (zi 0) (zi 0) (zi 0) (zi 0) (zi 0) (zi 0) (zi 0) (zi 0) (zi 0) (zi 0) λw27=>w27.cell? ((zB w4).add 0)=some (zi x7)/\w27.cell? ((zB w4).add 1)=some (zi x8)/\df w27 (zB w2) (zi x7) (zi x8) λw29=>dL w29 (zB w1) λx9 x10 x11 x12 x13 x14 x15 x16 x17 x18 x19 x20 x21 x22 x23 x24 x25 x26 x27 x28=>db w29 (zB w2) λx29 x30=>R (.tuple #[.agg #[zi x9,zi x10,zi x11,zi x12,zi x13,zi x14,zi x15,zi x16,zi x17,zi x18,zi x19,zi x20,zi x21,zi x22,zi x23,zi x24,zi x25,zi x26,zi x27,zi x28],.agg #[zi x29,zi x30]]) w29) (zc x5 λa31=>dL w7.drew (a31.add 2) λx32 x33 x34 x35 x36 x37 x38 x39 x40 x41 x42 x43 x44 x45 x46 x47 x48 x49 x50 x51=>db w7.drew (zB w4) λx52 x53=>dj w7.drew (zB w1) (zi x32) (zi x33) (zi x34) (zi x35) (zi x36) (zi x37) (zi x38) (zi x39) (zi x40) (zi x41) (zi x42) (zi x43) (zi x44) (zi x45) (zi x46) (zi x47) (zi x48) (zi x49) (zi x50) (zi x51) λw49=>w49.cell? ((zB w4).add 0)=some (zi x52)/\w49.cell? ((zB w4).add 1)=some (zi x53)/\df w49 (zB w2) (zi x52) (zi x53) λw51=>dL w51 (zB w1) λx54 x55 x56 x57 x58 x59 x60 x61 x62 x63 x64 x65 x66 x67 x68 x69 x70 x71 x72 x73=>db w51 (zB w2) λx74 x75=>R (.tuple #[.agg #[zi x54,zi x55,zi x56,zi x57,zi x58,zi x59,zi x60,zi x61,zi x62,zi x63,zi x64,zi x65,zi x66,zi x67,zi x68,zi x69,zi x70,zi x71,zi x72,zi x73],.agg #[zi x74,zi x75]]) w51)
theorem zh9(p0)(R)(w)(h:zf8 p0 R w):Calls Tryz.prog 35 #[.agg #[.int .u32 p0.1,.int .u32 p0.2.1,.slice p0.2.2.1.a p0.2.2.1.l p0.2.2.1.c]] w (Ret R):=lwC zfJ Tryz.func35 (by kernel_rfl) (by kernel_rfl) h
def zil:Ann:=(.q (.q (.seq none (.q (.cond (.q .nil) .nil)) (.q .nil))))
def zhY(p0:(Int×Int×Sl×Unit))(R:VWP)(w:World):Prop:=Nw (w.alloc (.cells #[zu p0.1,zu p0.2.1,p0.2.2.1.zw] 25)) λw1=>Nw (w1.alloc (.cells #[zi 0,zi 0] 29)) λw2=>da w2 (zB w) λx1 x2 x3=>dM 61 #[.agg #[zu x1,zu x2,x3.zw]] w2 λx5 x6 w3=>dd w3 #[zi 0,zi 0] 29 (zi x6.1) (zi x6.2.1) λw6=>ifB (Option.isNone x5) (db w6.drew (zB w3) λx7 x8=>df w6.drew (zB w1) (zi x7) (zi x8) λw8=>db w8 (zB w1) λx9 x10=>R (.tuple #[.slice none 0 0,.agg #[zi x9,zi x10]]) w8) (zc x5 λa11=>ldS w6.drew (a11.add 22) λx12=>db w6.drew (zB w3) λx13 x14=>df w6.drew (zB w1) (zi x13) (zi x14) λw10=>db w10 (zB w1) λx15 x16=>R (.tuple #[x12.zw,.agg #[zi x15,zi x16]]) w10)
theorem zjz(p0)(R)(w)(h:zhY p0 R w):Calls Tryz.prog 41 #[.agg #[.int .u32 p0.1,.int .u32 p0.2.1,.slice p0.2.2.1.a p0.2.2.1.l p0.2.2.1.c]] w (Ret R):=lwC zil Tryz.func41 (by kernel_rfl) (by kernel_rfl) h
def zhd:Ann:=(.q (.seq none (.q (.q (.cond (.q .nil) .nil))) (.q (.seq none (.one (.q (.cond (.q .nil) (.q (.cond (.q .nil) .nil))))) (.q .nil)))))
def zgV(p0:(Int×Int×Sl×Unit))(R:VWP)(w:World):Prop:=Nw (w.alloc (.cells #[zu p0.1,zu p0.2.1,p0.2.2.1.zw] 25)) λw1=>Nw (w1.alloc (.cells #[zi 0,zi 0] 29)) λw2=>da w2 (zB w) λx1 x2 x3=>dh 100 #[.agg #[zu x1,zu x2,x3.zw]] w2 λx5 w3=>dd w3 #[zi 0,zi 0] 29 (zi x5.1) (zi x5.2.1) λw6=>ldI w6 (zB w3) .i64 λx6=>ifB (x6 !=0) (db w6.drew (zB w3) λx7 x8=>df w6.drew (zB w1) (zi x7) (zi x8) λw8=>db w8 (zB w1) λx9 x10=>R (.tuple #[.pointer none,.agg #[zi x9,zi x10]]) w8) (ldS w6 ((zB w).add 2) λx11=>Nw (w6.alloc (.cells (List.toArray ([(x11.zw)]++List.replicate 21 (zi 0)++[(.slice none 0 0)])) 152)) λw9=>dN 101 #[.pointer (some (zB w6))] w9 λx13 w10=>ifB x13 (df w10 (zB w1) (zi 0) (zi 0) λw12=>db w12 (zB w1) λx14 x15=>R (.tuple #[.pointer (some (zB w6)),.agg #[zi x14,zi x15]]) w12) (ldI w10.drew ((zB w6).add 1) .i64 λx16=>ldS w10.drew ((zB w).add 2) λx17=>ifB (decide (x16<(x17.l:Int))) (ldI w10.drew.drew ((zB w6).add 1) .i64 λx18=>df w10.drew.drew (zB w1) (zi 50) (zi x18) λw14=>db w14 (zB w1) λx19 x20=>R (.tuple #[.pointer none,.agg #[zi x19,zi x20]]) w14) (ldI w10.drew.drew ((zB w6).add 1) .i64 λx21=>df w10.drew.drew (zB w1) (zi 51) (zi x21) λw16=>db w16 (zB w1) λx22 x23=>R (.tuple #[.pointer none,.agg #[zi x22,zi x23]]) w16)))
theorem ziH(p0)(R)(w)(h:zgV p0 R w):Calls Tryz.prog 61 #[.agg #[.int .u32 p0.1,.int .u32 p0.2.1,.slice p0.2.2.1.a p0.2.2.1.l p0.2.2.1.c]] w (Ret R):=lwC zhd Tryz.func61 (by kernel_rfl) (by kernel_rfl) h
def zbO:Ann:=(.q (.one (.seq none (.q (.cond (.q .nil) .nil)) (.q (.q (.loop ⟨[0],[]⟩ (.seq none (.q (.cond (.q .nil) .nil)) (.seq none (.q (.cond (.q .nil) .nil)) (.q (.q (.q (.q (.seq none (.one (.loop ⟨[0,3],[]⟩ (.seq none (.q .c) (.one (.seq none (.q (.cond (.q .nil) .nil)) .nil))))) (.seq (some ⟨[0,3],[]⟩) (.q (.cond (.q .nil) .nil)) (.q (.q (.q .nil)))))))))))))))))
def zb5(p0:Option Addr)(R:VWP)(w:World):Prop:=dN 132 #[.pointer p0] w λx2 w1=>ifB (!x2) (R (.bool false) w1) (zc p0 λa3=>ldI w1.drew (a3.add 1) .i64 λx4=>zc p0 λa5=>ldS w1.drew a5 λx6=>zc p0 λa7=>(0<=(8:Int)/\(8:Int)<10)/\Wr w1.drew ((a7.add 2).add (8*2))/\Nw (w1.drew.setCell ((a7.add 2).add (8*2)) (zi x4)) λw2=>Wr w2 (((a7.add 2).add (8*2)).add 1)/\Nw (w2.setCell (((a7.add 2).add (8*2)).add 1) (zi (x6.l:Int))) λw3=>zc p0 λa8=>ldS w3.drew a8 λx9=>zc p0 λa10=>ldS w3.drew a10 λx11=>zc p0 λa12=>(0<=(9:Int)/\(9:Int)<10)/\Wr w3.drew ((a12.add 2).add (9*2))/\Nw (w3.drew.setCell ((a12.add 2).add (9*2)) (zi (x9.l:Int))) λw4=>Wr w4 (((a12.add 2).add (9*2)).add 1)/\Nw (w4.setCell (((a12.add 2).add (9*2)).add 1) (zi (x11.l:Int))) λw5=>zm (S:=Unit) (λs13 w6 n14=>dq 133 #[.pointer p0] w6 λx16 w7=>ifB (decide (x16<(0:Int))) (R (.bool true) w7) (dq 133 #[.pointer p0] w7 λx18 w8=>ifB (x18 !=1) (R (.bool false) w8) (zc p0 λa19=>ldS w8.drew a19 λx20=>zc p0 λa21=>ldI w8.drew (a21.add 1) .i64 λx22=>(0<=x22/\x22<(x20.l:Int))/\zc x20.a λa23=>ldI w8.drew ((a23.add (x22.toNat *4)).add 2) .u32 λx24=>zc p0 λa25=>ldI w8.drew (a25.add 1) .i64 λx26=>Nw (w8.drew.alloc (.cells #[zu 0,zi 0,.slice none 0 0,.slice none 0 0,zi 0] 102)) λw9=>w9.cell? (a25.add 1)=some (zi x26)/\w9.cell? ((a23.add (x22.toNat *4)).add 2)=some (zu x24)/\w9.cell? (a21.add 1)=some (zi x22)/\w9.cell? a19=some (x20.zw)/\dP w9 (blk w8.drew.heap.size) (zu x24) (zi x26) (.slice none 0 0) (.slice none 0 0) (zi 0) λw14=>zc p0 λa27=>ldI w14 (a27.add 1) .i64 λx28=>zc p0 λa29=>Wr w14 (a29.add 1)/\Nw (w14.setCell (a29.add 1) (zi (IntKind.i64.wrap (x28+(1:Int))))) λw15=>dm 134 #[.pointer p0,zi 2] w15 λx31 w16=>Wr w16 ((blk w8.drew.heap.size).add 2)/\Nw (w16.setCell ((blk w8.drew.heap.size).add 2) (x31.zw)) λw17=>zm (S:=Unit) (λs32 w18 n33=>dq 133 #[.pointer p0] w18 λx35 w19=>ifB (x35==3) (dN 135 #[.pointer p0,.pointer (some (blk w8.drew.heap.size))] w19 λx37 w20=>ifB (!x37) (R (.bool false) w20) (n33 () w20)) (zo (S:=Unit) (λm38=>ldS w19 ((blk w8.drew.heap.size).add 3) λx40=>ifB ((x40.l:Int)==0) (R (.bool false) w19) (dq 133 #[.pointer p0] w19 λx42 w21=>ifB (x42 !=8) (R (.bool false) w21) (m38 () w21))) (λs39 w22=>zc p0 λa43=>ldI w22 (a43.add 1) .i64 λx44=>Wr w22 ((blk w8.drew.heap.size).add 4)/\Nw (w22.setCell ((blk w8.drew.heap.size).add 4) (zi x44)) λw23=>zc p0 λa45=>ldI w23 (a45.add 1) .i64 λx46=>zc p0 λa47=>Wr w23 (a47.add 1)/\Nw (w23.setCell (a47.add 1) (zi (IntKind.i64.wrap (x46+(1:Int))))) λw24=>zc p0 λa48=>ldS w24.drew (a48.add 22) λx49=>dO w24.drew (blk w8.drew.heap.size) λx50 x51 x52 x53 x54=>Nw (w24.drew.alloc (.cells #[zu x50,zi x51,x52.zw,x53.zw,zi x54] 102)) λw25=>w25.cell? (a48.add 22)=some (x49.zw)/\zz Tryz.prog 95 (x49.zw) (.slice (some (blk w24.drew.heap.size)) 1 1) w25 λr55 w26=>zc p0 λa56=>Wr w26 (a56.add 22)/\Nw (w26.setCell (a56.add 22) (r55.zw)) λw27=>n14 () w27))) () w17))) () w5)
theorem zeo(p0:Option Addr)(R:VWP)(w:World)(h:zb5 p0 R w):Calls Tryz.prog 101 #[.pointer p0] w (Ret R):=zrL (l:=0) (fs:=Tryz.fs) (an:=zbO) (args:=[(.pointer p0)]) Tryz.fsOK Tryz.mixed Tryz.func101 (by kernel_rfl) (by kernel_rfl) (Eq.mpr (by kernel_rfl:ztq Tryz.prog Tryz.fs 0 Tryz.f101 zbO [(.pointer p0)] w R=zb5 p0 R w) h)
def zbQ:Ann:=(.q (.seq none (.q (.one (.loop ⟨[0],[(5,(.b (.int .u8)))]⟩ (.q (.seq none .c (.seq (some ⟨[0,5],[]⟩) (.one (.q (.q (.seq (some ⟨[0,3,4,5],[]⟩) (.one (.loop ⟨[0,3,4,5],[]⟩ (.seq (some ⟨[0,3,4,5],[]⟩) (.q .c) (.one (.q (.q .c)))))) (.q (.q (.cond (.q .nil) .nil))))))) .nil)))))) (.q .nil)))
def zb7(p0:Option Addr)(R:VWP)(w:World):Prop:=zm (S:=Int×Unit) (λs1 w1 n2=>ifB (decide (s1.1<(8:Int))) (zo (S:=Unit) (λm3=>zc p0 λa5=>ldI w1 (a5.add 1) .i64 λx6=>zo (S:=Unit) (λm7=>zm (S:=Unit) (λs9 w2 n10=>zo (S:=Unit) (λm11=>dq 133 #[.pointer p0] w2.drew λx14 w3=>ifB (x14==9) (zc p0 λa15=>ldS w3 a15 λx16=>zc p0 λa17=>ldI w3 (a17.add 1) .i64 λx18=>(0<=x18/\x18<(x16.l:Int))/\zc x16.a λa19=>dc w3 (a19.add (x18.toNat *4)) λx20 x21 x22 x23=>dA 163 #[.agg #[zh x20,zu x21,zu x22,x23.zw]] w3 λx25 w4=>ifB (x25==s1.1) (m11 () w4) (m7 () w4)) (m7 () w3)) (λs12 w5=>zc p0 λa26=>ldI w5 (a26.add 1) .i64 λx27=>zc p0 λa28=>Wr w5 (a28.add 1)/\Nw (w5.setCell (a28.add 1) (zi (IntKind.i64.wrap (x27+(1:Int))))) λw6=>ifB (s1.1==1) (m7 () w6) (n10 () w6))) () w1) (λs8 w7=>zc p0 λa29=>ldI w7.drew (a29.add 1) .i64 λx30=>zc p0 λa31=>(0<=s1.1/\s1.1<(10:Int))/\Wr w7.drew ((a31.add 2).add (s1.1.toNat *2))/\Nw (w7.drew.setCell ((a31.add 2).add (s1.1.toNat *2)) (zi x6)) λw8=>Wr w8 (((a31.add 2).add (s1.1.toNat *2)).add 1)/\Nw (w8.setCell (((a31.add 2).add (s1.1.toNat *2)).add 1) (zi x30)) λw9=>ifB (s1.1==1) (zc p0 λa32=>ldI w9 (a32.add 1) .i64 λx33=>ifB (x33==x6) (R (.bool false) w9) (m3 () w9)) (m3 () w9))) (λs4 w10=>n2 ((IntKind.u8.wrap (s1.1+(1:Int))),()) w10)) (R (.bool true) w1)) (0,()) w
theorem zeq(p0)(R)(w)(h:zb7 p0 R w):Calls Tryz.prog 132 #[.pointer p0] w (Ret R):=lwC zbQ Tryz.func132 (by kernel_rfl) (by kernel_rfl) h
def zaX:Ann:=(.q (.seq none (.q (.cond (.q .nil) .nil)) (.q .nil)))
def zaK(p0:Option Addr)(R:VWP)(w:World):Prop:=zc p0 λa1=>ldI w.drew (a1.add 1) .i64 λx2=>zc p0 λa3=>ldS w.drew a3 λx4=>ifB (x2==(x4.l:Int)) (R (zi (-1:Int)) w.drew) (zc p0 λa5=>ldS w.drew.drew a5 λx6=>zc p0 λa7=>ldI w.drew.drew (a7.add 1) .i64 λx8=>(0<=x8/\x8<(x6.l:Int))/\zc x6.a λa9=>dc w.drew.drew (a9.add (x8.toNat *4)) λx10 x11 x12 x13=>dq 164 #[.agg #[zh x10,zu x11,zu x12,x13.zw]] w.drew.drew λx15 w1=>R (zi x15) w1)
theorem zdF(p0)(R)(w)(h:zaK p0 R w):Calls Tryz.prog 133 #[.pointer p0] w (Ret R):=lwC zaX Tryz.func133 (by kernel_rfl) (by kernel_rfl) h
def zbP:Ann:=(.q (.q (.seq none (.one (.loop ⟨[0,1],[(5,(.b .slice))]⟩ (.seq none (.q .c) (.one (.q .nil))))) (.q .nil))))
def zb6(p0:Option Addr)(p1:Int)(R:VWP)(w:World):Prop:=zm (S:=Sl×Unit) (λs1 w1 n2=>dq 133 #[.pointer p0] w1 λx4 w2=>ifB (x4==p1) (zc p0 λa5=>ldI w2 (a5.add 1) .i64 λx6=>Nw (w2.alloc (.cells #[zi x6] 3)) λw3=>zz Tryz.prog 99 (s1.1.zw) (.slice (some (zB w2)) 1 1) w3 λr7 w4=>zc p0 λa8=>ldI w4 (a8.add 1) .i64 λx9=>zc p0 λa10=>Wr w4 (a10.add 1)/\Nw (w4.setCell (a10.add 1) (zi (IntKind.i64.wrap (x9+(1:Int))))) λw5=>n2 (r7,()) w5) (R (s1.1.zw) w2)) ((Sl.mk none 0 0),()) w
theorem zep(p0)(p1)(R)(w)(h:zb6 p0 p1 R w):Calls Tryz.prog 134 #[.pointer p0,.int .i64 p1] w (Ret R):=lwC zbP Tryz.func134 (by kernel_rfl) (by kernel_rfl) h
def zav:Ann:=(.q (.q (.q (.seq (some ⟨[0,1,5],[]⟩) (.q .c) (.q (.seq none (.q (.one (.seq (some ⟨[0,1,5],[]⟩) (.one (.seq none (.one (.seq none (.seq none (.q .c) (.q .c)) .nil)) (.q (.q (.cond (.q .nil) .nil))))) (.seq none (.q (.q (.q (.q .nil)))) .nil)))) (.q .nil)))))))
def zal(p0:Option Addr)(p1:Option Addr)(R:VWP)(w:World):Prop:=zc p0 λa1=>ldS w.drew a1 λx2=>zc p0 λa3=>ldI w.drew (a3.add 1) .i64 λx4=>(0<=x4/\x4<(x2.l:Int))/\zc x2.a λa5=>ldI w.drew ((a5.add (x4.toNat *4)).add 2) .u32 λx6=>zc p0 λa7=>ldI w.drew (a7.add 1) .i64 λx8=>Nw (w.drew.alloc (.cells #[zu 0,zi 0,zi 0] 257)) λw1=>w1.cell? (a7.add 1)=some (zi x8)/\w1.cell? ((a5.add (x4.toNat *4)).add 2)=some (zu x6)/\w1.cell? (a3.add 1)=some (zi x4)/\w1.cell? a1=some (x2.zw)/\de w1 (blk w.drew.heap.size) (zu x6) (zi x8) (zi 0) λw4=>zc p0 λa9=>ldI w4 (a9.add 1) .i64 λx10=>zc p0 λa11=>Wr w4 (a11.add 1)/\Nw (w4.setCell (a11.add 1) (zi (IntKind.i64.wrap (x10+(1:Int))))) λw5=>zo (S:=Unit) (λm12=>zc p1 λa14=>ldS w5 (a14.add 3) λx15=>ifB ((x15.l:Int)==0) (dm 134 #[.pointer p0,zi 5] w5 λx17 w6=>m12 () w6) (dm 134 #[.pointer p0,zi 4] w5 λx19 w7=>m12 () w7)) (λs13 w8=>dm 134 #[.pointer p0,zi 0] w8 λx21 w9=>dq 133 #[.pointer p0] w9 λx23 w10=>zo (S:=Unit) (λm24=>ifB (x23==6) (zc p0 λa26=>ldI w10 (a26.add 1) .i64 λx27=>zc p0 λa28=>Wr w10 (a28.add 1)/\Nw (w10.setCell (a28.add 1) (zi (IntKind.i64.wrap (x27+(1:Int))))) λw11=>dq 133 #[.pointer p0] w11.drew λx30 w12=>ifB (x30 !=7) (R (.bool false) w12) (zc p0 λa31=>ldS w12 a31 λx32=>zc p0 λa33=>ldI w12 (a33.add 1) .i64 λx34=>(0<=(IntKind.i64.wrap (x34-(1:Int)))/\(IntKind.i64.wrap (x34-(1:Int)))<(x32.l:Int))/\zc x32.a λa35=>ldI w12 (a35.add ((Int.toNat (IntKind.i64.wrap (x34-(1:Int))))*4)) .u16 λx36=>zc p0 λa37=>ldS w12 a37 λx38=>zc p0 λa39=>ldI w12 (a39.add 1) .i64 λx40=>(0<=x40/\x40<(x38.l:Int))/\zc x38.a λa41=>ldI w12 (a41.add (x40.toNat *4)) .u16 λx42=>dN 165 #[zh x36,zh x42] w12 λx44 w13=>ifB (!x44) (R (.bool false) w13) (m24 () w13))) (ifB (x23==7) (m24 () w10) (R (.bool false) w10))) (λs25 w14=>zc p0 λa45=>ldI w14 (a45.add 1) .i64 λx46=>zc p0 λa47=>Wr w14 (a47.add 1)/\Nw (w14.setCell (a47.add 1) (zi (IntKind.i64.wrap (x46+(1:Int))))) λw15=>zc p0 λa48=>ldI w15 (a48.add 1) .i64 λx49=>Wr w15 ((blk w.drew.heap.size).add 2)/\Nw (w15.setCell ((blk w.drew.heap.size).add 2) (zi x49)) λw16=>zc p1 λa50=>ldS w16.drew (a50.add 3) λx51=>dQ w16.drew (blk w.drew.heap.size) λx52 x53 x54=>Nw (w16.drew.alloc (.cells #[zu x52,zi x53,zi x54] 257)) λw17=>w17.cell? (a50.add 3)=some (x51.zw)/\zz Tryz.prog 100 (x51.zw) (.slice (some (blk w16.drew.heap.size)) 1 1) w17 λr55 w18=>zc p1 λa56=>Wr w18 (a56.add 3)/\Nw (w18.setCell (a56.add 3) (r55.zw)) λw19=>R (.bool true) w19))
theorem zdb(p0)(p1)(R)(w)(h:zal p0 p1 R w):Calls Tryz.prog 135 #[.pointer p0,.pointer p1] w (Ret R):=lwC zav Tryz.func135 (by kernel_rfl) (by kernel_rfl) h
def zhc:Ann:=(.q (.seq none (.q (.cond (.q .nil) .nil)) (.q (.q .nil))))
def zgU(p0:(Int×Int×Int×Sl×Unit))(R:VWP)(w:World):Prop:=Nw (w.alloc (.cells #[zh p0.1,zu p0.2.1,zu p0.2.2.1,p0.2.2.2.1.zw] 44)) λw1=>dc w1 (zB w) λx1 x2 x3 x4=>dN 183 #[.agg #[zh x1,zu x2,zu x3,x4.zw]] w1 λx6 w2=>ifB x6 (R (zb 8) w2) (ldI w2 (zB w) .u16 λx7=>dy 179 #[zh x7] w2 λx9 x10 w3=>Nw (w3.alloc (.cells #[zh 0,.string (BM #[]),.bool false,.bool false,.string (BM #[]),.string (BM #[]),zi 0,zb 0] 274)) λw4=>dx w4 (zB w3) (zh x9.1) (.string x9.2.1) (.bool x9.2.2.1) (.bool x9.2.2.2.1) (.string x9.2.2.2.2.1) (.string x9.2.2.2.2.2.1) (zi x9.2.2.2.2.2.2.1) (zb x9.2.2.2.2.2.2.2.1) λw12=>ldI w12 ((zB w3).add 7) .u8 λx11=>R (zb x11) w12)
theorem ziG(p0)(R)(w)(h:zgU p0 R w):Calls Tryz.prog 163 #[.agg #[.int .u16 p0.1,.int .u32 p0.2.1,.int .u32 p0.2.2.1,.slice p0.2.2.2.1.a p0.2.2.2.1.l p0.2.2.2.1.c]] w (Ret R):=lwC zhc Tryz.func163 (by kernel_rfl) (by kernel_rfl) h
def zhb:Ann:=(.q (.seq none (.q (.cond (.q .nil) .nil)) (.seq none (.q (.one (.seq none (.one (.one (.seq none (.one (.seq none (.one (.seq none (.one (.seq none (.one (.seq none (.one (.seq none (.one (.seq none (.seq none (.q .c) (.seq none (.q .c) (.seq none (.q .c) (.seq none (.q .c) (.seq none (.q .c) (.seq none (.q .c) (.seq none (.q .c) (.q .c)))))))) .nil)) (.seq none (.q .nil) .nil))) (.seq none (.q .nil) .nil))) (.seq none (.q .nil) .nil))) (.seq none (.q .nil) .nil))) (.seq none (.q .nil) .nil))) (.seq none (.q .nil) .nil)))) (.seq none (.q .nil) .nil)))) (.seq none (.q (.cond (.q .nil) .nil)) (.q .nil)))))
def zgT(p0:(Int×Int×Int×Sl×Unit))(R:VWP)(w:World):Prop:=Nw (w.alloc (.cells #[zh p0.1,zu p0.2.1,zu p0.2.2.1,p0.2.2.2.1.zw] 44)) λw1=>dc w1 (zB w) λx1 x2 x3 x4=>dA 163 #[.agg #[zh x1,zu x2,zu x3,x4.zw]] w1 λx6 w2=>ifB (x6 !=8) (R (zi 9) w2) (ldI w2 (zB w) .u16 λx7=>ifB (x7==54) (R (zi 1) w2) (ifB (x7==55) (R (zi 2) w2) (ifB (x7==56) (R (zi 8) w2) (ifB (x7==248) (R (zi 3) w2) (ifB (x7==245) (R (zi 4) w2) (ifB (x7==59) (R (zi 5) w2) (ifB (x7==246) (R (zi 6) w2) (ifB (x7==247) (R (zi 6) w2) (ldI w2 (zB w) .u16 λx8=>dN 184 #[zh x8] w2 λx10 w3=>ifB x10 (R (zi 7) w3) (R (zi 0) w3))))))))))
theorem ziF(p0)(R)(w)(h:zgT p0 R w):Calls Tryz.prog 164 #[.agg #[.int .u16 p0.1,.int .u32 p0.2.1,.int .u32 p0.2.2.1,.slice p0.2.2.2.1.a p0.2.2.2.1.l p0.2.2.2.1.c]] w (Ret R):=lwC zhb Tryz.func164 (by kernel_rfl) (by kernel_rfl) h
def zim:Ann:=(.q (.seq none (.q (.one (.q (.cond (.q .nil) (.q (.cond (.q .nil) (.q (.cond (.q .nil) .nil)))))))) (.q .nil)))
def zhZ(p0:Int)(p1:Int)(R:VWP)(w:World):Prop:=ifB (p1==251) (R (.bool (p0==247)) w) (ifB (p1==249) (R (.bool (p0==246)) w) (ifB (p1==250) (R (.bool true) w) (R (.bool false) w)))
theorem zj0(p0)(p1)(R)(w)(h:zhZ p0 p1 R w):Calls Tryz.prog 165 #[.int .u16 p0,.int .u16 p1] w (Ret R):=lwC zim Tryz.func165 (by kernel_rfl) (by kernel_rfl) h
def zdr:Ann:=(.q (.q .nil))
def zdj(p0:(Int×Int×Int×Sl×Unit))(R:VWP)(w:World):Prop:=Nw (w.alloc (.cells #[zh p0.1,zu p0.2.1,zu p0.2.2.1,p0.2.2.2.1.zw] 44)) λw1=>ldI w1 (zB w) .u16 λx1=>ifB (x1==59) (ldS w1 ((zB w).add 3) λx2=>ifB (decide ((x2.l:Int)>0)) (ldS w1 ((zB w).add 3) λx3=>(0<=(0:Int)/\0<(x3.l:Int))/\zc x3.a λa4=>ldI w1 ((a4.add (0*3)).add 1) .u32 λx5=>R (.bool (x5==7)) w1) (R (.bool false) w1)) (R (.bool false) w1)
theorem zfu(p0)(R)(w)(h:zdj p0 R w):Calls Tryz.prog 183 #[.agg #[.int .u16 p0.1,.int .u32 p0.2.1,.int .u32 p0.2.2.1,.slice p0.2.2.2.1.a p0.2.2.2.1.l p0.2.2.2.1.c]] w (Ret R):=lwC zdr Tryz.func183 (by kernel_rfl) (by kernel_rfl) h
def zha:Ann:=(.q (.q .nil))
def zgS(p0:Int)(R:VWP)(w:World):Prop:=ifB (decide (p0≥(249:Int))) (R (.bool (decide (p0<=(255:Int)))) w) (R (.bool false) w)
theorem ziE(p0)(R)(w)(h:zgS p0 R w):Calls Tryz.prog 184 #[.int .u16 p0] w (Ret R):=lwC zha Tryz.func184 (by kernel_rfl) (by kernel_rfl) h
end Go.Proofs
