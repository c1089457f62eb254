/- FaceRenamed, part 5; made small by a program. -/
import Derived.WideKeyRuns
import Derived.Test.YtnpdnjmpmeikiaaGreatDoorProg
import Derived.Test.YtnpdnjmpmeikiaaGreatDoorPFaceRenamed4
set_option linter.unusedVariables false
set_option linter.unusedSectionVars false
namespace Go.Gk
open Go.RowKit Go.MapKept
variable {P:Program} {α κ:Type}
structure PkOk (P:Program) (kt:TypeId) (kv:κ->Value) [DecidableEq κ]:Prop where
 chk:∀k e w,(Instr.checkKey e 10000 kt (kv k)).run P w =.ok () w
 eq:∀a b w,(Op.equal kt (kv a) (kv b)).run P w =.ok (decide (a=b)) w
 wide:(match P.underlying kt with |some (.array _ _) |some (.struct _)=>true |_=>false)=true
 bits:∀k,Instr.sameBits 10000 (kv k) (kv k)=true
variable {kv:κ->Value} {f:α->Value} {w w':World} {r:Nat} {L:List (κ×α)} [DecidableEq κ]
theorem zmE{kt:TypeId}(hk:PkOk P kt kv)(f:α->Value)(k:κ)(w:World):∀(es:List MapEntry) (L:List (κ×α)) (i:Nat),es.map (λe=>(e.key,e.val))=(L.map λp=>(kv p.1,f p.2))->
  ∃o,(Instr.findAsking kt (kv k) es i).run P w =.ok o w/\(match o with
   |none=>zG L k=none
   |some (j,v)=>∃m x,j=i+m/\m<es.length/\v=f x/\zG L k=some x/\∃e,es[m]? =some e/\e.key=kv k/\
     ∀v',(es.modify m λe=>{e with val:=f v'}).map (λe=>(e.key,e.val))=(setG L k v').map λp=>(kv p.1,f p.2))
 | [],[],i,_=>⟨none,by simp[Instr.findAsking],rfl⟩
 | [],_::_,_,h=>by simp at h
 |_::_,[],_,h=>by simp at h
 |e::es,p::L,i,h=>by
  simp only[List.map_cons,List.cons.injEq,Prod.mk.injEq]at h
  obtain⟨⟨h1,h2⟩,h3⟩:=h
  unfold Instr.findAsking
  rw[h1]
  by_cases hkp:k=p.1
  ·refine⟨some (i,e.val),by simp[hk.eq,hkp,Result.andThen],0,p.2,rfl,by simp,h2,by simp[zG,hkp],e,rfl,by rw[h1,hkp],λv'=>?_⟩
   simp[setG,hkp,h1,h3]
  ·obtain⟨o,ho,hm⟩:=zmE hk f k w es L (i+1) h3
   refine⟨o,by simp[hk.eq,hkp,Result.andThen,ho],?_⟩
   cases o with
   |none=>simpa[zG,hkp] using hm
   |some q=>
    obtain⟨j,v⟩:=q
    obtain⟨m,x,g1,g2,g3,g4,e',g5,g6,g7⟩:=hm
    refine⟨m+1,x,by omega,by simp;omega,g3,by simpa[zG,hkp] using g4,e',by simpa using g5,g6,λv'=>?_⟩
    have:=g7 v'
    simp[setG,hkp,h1,h2,this]
def zql(w:World)(r:Nat)(kv:κ->Value)(f:α->Value)(L:List (κ×α))(k:κ)(n:Int):Prop:=
 ∃es clock j,w.heap[r]? =some (.map es clock)/\es.toList.map (λe=>(e.key,e.val))=(L.map λp=>(kv p.1,f p.2))/\(∀x∈es.toList,x.born<clock)/\(es.toList.map (·.born)).Nodup/\
  (∃e,es.toList[j]? =some e/\(e.born:Int)=n)/\∀v',(es.toList.modify j λe=>{e with val:=f v'}).map (λe=>(e.key,e.val))=(setG L k v').map λp=>(kv p.1,f p.2)
theorem zql.isMg{k:κ}{n:Int}(h:zql w r kv f L k n):IsMg w r kv f L:=by
 obtain⟨es,c,j,h1,h2,h3,h4,_⟩:=h
 exact⟨es,c,h1,h2,h3,h4⟩
theorem zgs(L:List (κ×α))(k:κ)(a b:α):setG (setG L k a) k b=setG L k b:=by
 induction L with
 |nil=>simp[setG]
 |cons p L ih=>
  by_cases h:k=p.1
  ·simp[setG,h]
  ·simp[setG,h,ih]
theorem zo4{kt:TypeId}(hk:PkOk P kt kv){t et:TypeId}(ht:P.underlying t=some (.map kt et)){z:α}(hz:∃i,P.info? et=some i/\i.zero=some (f z))(h:IsMg w r kv f L){k:κ}{x:Value}(hx:x=kv k){K:Value->Int->World->Prop}
  (hK:∀v n w',zql w' r kv f (setG L k ((zG L k).getD z)) k n->Go.Proofs.Chg r w w'->K v n w'):zo5 P t (.map (some r)) x w K:=by
 subst hx
 obtain⟨es,c,hb,hes,hstamp,hnd⟩:=h
 obtain⟨i,hi,hzi⟩:=hz
 obtain⟨o,ho,hm⟩:=zmE hk f k w es.toList L 0 hes
 have hfk:(Instr.findKey kt (kv k) es.toList).run P w =.ok o w:=(run_findKey_eq w hk.wide _ _).trans ho
 have hg:(getObj r).run P w =.ok (.map es c) w:=Go.MapKept.run_getObj_map hb
 unfold zo5 Instr.mapEntry
 simp only[Sem.run_bind,run_underlying ht,Result.andThen_ok,hg,hk.chk,hfk]
 cases o with
 |none=>
  have hm:zG L k=none:=hm
  have hzr:(zeroValue et).run P w =.ok (f z) w:=by simp[zeroValue,typeInfo,hi,hzi,Result.andThen]
  simp only[Sem.run_bind,hzr,Result.andThen_ok,run_setObj_map _ hb,Sem.run_pure]
  refine⟨_,_,_,rfl,hK _ _ _ ⟨_,_,es.size,(heap_set hb).1,?_,λx hx=>?_,?_,⟨_,by simp;rfl,rfl⟩,λv'=>?_⟩ (zaz _ _ _)⟩
  ·simp only[Array.toList_push,List.map_append,hes,List.map_cons,List.map_nil,hm,Option.getD_none]
   rw[zgG hm]
   simp
  ·rw[Array.toList_push]at hx
   rcases List.mem_append.1 hx with hx |hx
   ·exact Nat.lt_succ_of_lt (hstamp x hx)
   ·rw[List.mem_singleton.1 hx]
    exact Nat.lt_succ_self c
  ·rw[Array.toList_push,List.map_append]
   refine List.nodup_append.2 ⟨hnd,by simp,?_⟩
   intro a ha b hb e
   obtain⟨x,hx,rfl⟩:=List.mem_map.1 ha
   simp only[List.map_cons,List.map_nil,List.mem_singleton]at hb
   have:=hstamp x hx
   omega
  ·rw[zgs,zgG hm,Array.toList_push]
   have hsz:es.size=es.toList.length:=by simp
   rw[hsz,List.modify_eq_take_drop]
   simp[hes]
 |some q=>
  obtain⟨j,v0⟩:=q
  obtain⟨m,x,g1,g2,g3,g4,e,g5,g6,g7⟩:=hm
  have hj:j=m:=by omega
  subst hj
  have hst:(Instr.keyThatStays (((es[j]?).map (·.key)).getD (kv k)) (kv k)).run P w =.ok (kv k) w:=by
   have:((es[j]?).map (·.key)).getD (kv k)=kv k:=by
    rw[<-Array.getElem?_toList,g5]
    exact g6
   rw[this]
   simp[Instr.keyThatStays,hk.bits]
  have hej:es[j]? =some e:=by rw[<-Array.getElem?_toList];exact g5
  have hid:(es.toList.modify j λe=>{e with key:=kv k})=es.toList:=by
   apply List.ext_getElem?
   intro n
   rw[List.getElem?_modify]
   by_cases hn:j=n
   ·subst hn
    rw[g5]
    simp[<-g6]
   ·cases es.toList[n]?<;>simp[hn]
  have hset:setG L k ((zG L k).getD z)=L:=by
   rw[g4,Option.getD_some]
   clear hK g7 g5 g6 hes
   induction L with
   |nil=>simp[zG]at g4
   |cons p L ih=>
    by_cases hp:k=p.1
    ·simp only[zG,if_pos hp,Option.some.injEq]at g4
     simp[setG,hp,<-g4]
    ·simp only[zG,if_neg hp]at g4
     simp[setG,if_neg hp,ih g4]
  simp only[Sem.run_bind,hst,Result.andThen_ok,run_setObj_map _ hb,Sem.run_pure]
  refine⟨_,_,_,rfl,hK _ _ _ ?_ (zaz _ _ _)⟩
  rw[hset]
  refine⟨_,_,j,(heap_set hb).1,?_,λx hx=>?_,?_,⟨e,?_,?_⟩,λv'=>?_⟩
  ·rw[Array.toList_modify,hid];exact hes
  ·rw[Array.toList_modify,hid]at hx;exact hstamp x hx
  ·rw[Array.toList_modify,hid];exact hnd
  ·rw[Array.toList_modify,hid];exact g5
  ·simp[hej]
  ·rw[Array.toList_modify,hid];exact g7 v'
theorem zq5{t:TypeId}{k:κ}{n:Int}(h:zql w r kv f L k n){v:α}{y:Value}(hy:y=f v){K:World->Prop}
  (hK:∀w',IsMg w' r kv f (setG L k v)->Go.Proofs.Chg r w w'->K w'):estW P t (.map (some r)) (.int .i64 n) y w K:=by
 subst hy
 obtain⟨es,c,j,hb,hes,hstamp,hnd,⟨e,he,hn⟩,hm⟩:=h
 have hg:(getObj r).run P w =.ok (.map es c) w:=Go.MapKept.run_getObj_map hb
 obtain⟨hjl,hje⟩:=List.getElem?_eq_some_iff.1 he
 have hidx:es.findIdx? (λe=>(e.born:Int)==n)=some j:=by
  have:es.toList.findIdx? (λe=>(e.born:Int)==n)=some j:=by
   rw[List.findIdx?_eq_some_iff_getElem]
   refine⟨hjl,by rw[hje];simp[hn],λi hi=>?_⟩
   have hil:i<es.toList.length:=Nat.lt_trans hi hjl
   have:=List.nodup_iff_pairwise_ne.1 hnd
   rw[List.pairwise_map]at this
   have:=List.pairwise_iff_getElem.1 this i j hil hjl hi
   rw[hje]at this
   simp only[beq_iff_eq]
   omega
  rw[<-List.findIdx?_toArray,Array.toArray_toList]at this
  exact this
 have hbn:(es.modify j λe=>{e with val:=f v}).toList.map (·.born)=es.toList.map (·.born):=by
  rw[Array.toList_modify]
  apply List.ext_getElem
  ·simp
  ·intro n q1 q2
   simp only[List.getElem_map,List.getElem_modify]
   split<;>rfl
 unfold estW Instr.entryStore
 simp only[Sem.run_bind,hg,Result.andThen_ok,asInt,asIntOf,Sem.run_pure,hidx,run_setObj_map _ hb]
 refine⟨_,rfl,hK _ ⟨_,_,(heap_set hb).1,?_,λx hx=>?_,by rw[hbn];exact hnd⟩ (zaz _ _ _)⟩
 ·rw[Array.toList_modify];exact hm v
 ·have:x.born∈es.toList.map (·.born):=by rw[<-hbn];exact List.mem_map.2 ⟨x,hx,rfl⟩
  obtain⟨y,hy,e⟩:=List.mem_map.1 this
  rw[<-e]
  exact hstamp y hy
theorem zrX{kt:TypeId}(hk:PkOk P kt kv){t et:TypeId}(ht:P.underlying t=some (.map kt et)){z:Value}(hz:∃i,P.info? et=some i/\i.zero=some z)(h:IsMg w r kv f L)(k:κ) :
  (Instr.lookup t (.map (some r)) (kv k) false).run P w =.ok (((zG L k).map f).getD z) w:=by
 obtain⟨es,c,hb,hes,_⟩:=h
 obtain⟨i,hi,hzi⟩:=hz
 obtain⟨o,ho,hm⟩:=zmE hk f k w es.toList L 0 hes
 have hfk:(Instr.findKey kt (kv k) es.toList).run P w =.ok o w:=(run_findKey_eq w hk.wide _ _).trans ho
 have hg:(getObj r).run P w =.ok (.map es c) w:=Go.MapKept.run_getObj_map hb
 unfold Instr.lookup
 simp only[Sem.run_bind,run_underlying ht,Result.andThen_ok,hg,Sem.run_pure,hk.chk,hfk]
 cases o with
 |none=>
  have hzr:(zeroValue et).run P w =.ok z w:=by simp[zeroValue,typeInfo,hi,hzi,Result.andThen]
  have hm:zG L k=none:=hm
  simp only[Sem.run_bind,hzr,Result.andThen_ok,Sem.run_pure,hm,Option.map_none,Option.getD_none,if_false,Bool.false_eq_true]
 |some q=>
  obtain⟨j,v⟩:=q
  obtain⟨m,x,g1,g2,g3,g4,_⟩:=hm
  simp only[Sem.run_bind,Sem.run_pure,Result.andThen_ok,g3,g4,Option.map_some,Option.getD_some,if_false,Bool.false_eq_true]
theorem zrI{β:BK}{kt:TypeId}(hk:PkOk P kt kv){t et:TypeId}(ht:P.underlying t=some (.map kt et)){z:β.T}(hz:∃i,P.info? et=some i/\i.zero=some (β.v z)){L:List (κ×β.T)}(h:IsMg w r kv β.v L){k:κ}{x:Value}(hx:x=kv k)
  {φ:β.T->Prop} (hφ:φ ((zG L k).getD z)):YT P t (.map (some r)) x β w φ:=by
 subst hx
 refine⟨(zG L k).getD z,?_,hφ⟩
 rw[zrX hk ht hz h k]
 cases zG L k<;>rfl
theorem zhA{i:IntKind}{kt:TypeId}(hk:PkOk P kt kv){t et:TypeId}(ht:P.underlying t=some (.map kt et)){z:Int}(hz:∃j,P.info? et=some j/\j.zero=some (.int i z)){L:List (κ×Int)}(h:IsMg w r kv (Value.int i) L){k:κ}{x:Value}(hx:x=kv k)
  {φ:Int->Prop} (hφ:φ ((zG L k).getD z)):YT P t (.map (some r)) x (BK.int i) w φ:=zrI (β:=BK.int i) hk ht hz h hx hφ
abbrev zjS(p:Int×Int):Value:=.agg #[.int .i64 p.1,.int .i64 p.2]
theorem zuE{kt e:TypeId}(hu:P.underlying kt=some (.array 2 e))(he:P.underlying e=some (.int .i64))(hi:∃i,P.info? e=some i/\Nat.beq i.size 1=true)(hg:P.eqGuardType P.depth kt=false):PkOk P kt zjS:=by
 obtain⟨i,hi,hs⟩:=hi
 refine⟨λk em w=>?_,λa b w=>?_,by rw[hu],λk=>?_⟩
 ·have hagg:∀w,(isAgg e).run P w =.ok false w:=λw=>by simp[isAgg,zs he]
  have hp0:∀(u v:Value) (w:World),(part e #[u,v] 0).run P w =.ok u w:=λu v w=>by simp[part,hagg]
  have hp1:∀(u v:Value) (w:World),(part e #[u,v] 1).run P w =.ok v w:=λu v w=>by simp[part,hagg]
  have h1:=Nat.eq_of_beq_eq_true hs
  have hck:∀n v w,(Instr.checkKey em (n+1) e (.int .i64 v)).run P w =.ok () w:=λn v w=>by
   unfold Instr.checkKey
   simp[zs he]
  rw[show(10000:Nat)=9998+1+1 from rfl]
  generalize 9998=D
  unfold Instr.checkKey
  simp only[Sem.run_bind,zs hu,Result.andThen_ok]
  simp only[Std.Legacy.Range.forIn_eq_forIn_range',Std.Legacy.Range.size]
  rw[show List.range' 0 ((2-0+1-1) / 1) 1=[0,1] from rfl]
  have hso:∀w,(sizeOf e).run P w =.ok 1 w:=λw=>by simp[yr hi,h1]
  simp only[List.forIn_cons,List.forIn_nil,Sem.run_bind,hso,Nat.zero_mul,Nat.one_mul,hp0,hp1,Result.andThen_ok,hck,Sem.run_pure]
 ·have:zgi P kt (zjS a) (zjS b)=some (a.1==b.1&&a.2==b.2):=by
   unfold zgi
   simp only[hu,he,hi,hs,hg,decide_true,Bool.not_false,Bool.and_true]
  rw[(zgj this w).1]
  congr 1
  obtain⟨a1,a2⟩:=a
  obtain⟨b1,b2⟩:=b
  simp only[Prod.mk.injEq]
  by_cases h1:a1=b1<;>by_cases h2:a2=b2<;>simp[h1,h2]
 ·rw[show(10000:Nat)=9998+1+1 from rfl]
  simp[Instr.sameBits]
theorem zpF{kv:κ->Value}{f:α->Value}{w:World}{k:World->Prop}(hK:∀w',IsMg w' w.heap.size kv f []->Go.RowKit.Below w.heap.size w w'->w'.heap.size=w.heap.size+1->k w'):Nw (w.alloc (.map #[] 0)) k:=
 hK _ (IsMg.new w kv f) ((Below.refl _ _).alloc (Nat.le_refl _) _) (by simp)
end Go.Gk
namespace Go.Proofs
open Go.Gk
set_option linter.unusedVariables false
set_option linter.unusedSectionVars false
set_option maxRecDepth 100000
def zc4:Ann:=(.q (.q .nil))
def zcw(p0:Int)(R:VWP)(w:World):Prop:=Nw (w.alloc (.cells #[zb 0,zu 0,.string (BM #[])] 123)) λw1=>de w1 (zB w) (zb 4) (zu p0) (.string (BM #[])) λw4=>dn w4 (zB w) λx1 x2 x3=>R (.agg #[zb x1,zu x2,.string x3]) w4
theorem zeJ(p0)(R)(w)(h:zcw p0 R w):Calls Tryz.prog 68 #[.int .u32 p0] w (Ret R):=lwC zc4 Tryz.func68 (by kernel_rfl) (by kernel_rfl) h
def zdY:Ann:=(.q (.q .nil))
def zdO(p0:Int)(R:VWP)(w:World):Prop:=Nw (w.alloc (.cells #[zb 0,zu 0,.string (BM #[])] 123)) λw1=>de w1 (zB w) (zb 1) (zu p0) (.string (BM #[])) λw4=>dn w4 (zB w) λx1 x2 x3=>R (.agg #[zb x1,zu x2,.string x3]) w4
theorem zgb(p0)(R)(w)(h:zdO p0 R w):Calls Tryz.prog 69 #[.int .u32 p0] w (Ret R):=lwC zdY Tryz.func69 (by kernel_rfl) (by kernel_rfl) h
def zc6:Ann:=(.q (.q .nil))
def zcy(p0:ByteArray)(R:VWP)(w:World):Prop:=Nw (w.alloc (.cells #[zb 0,zu 0,.string (BM #[])] 123)) λw1=>de w1 (zB w) (zb 3) (zu 0) (.string p0) λw4=>dn w4 (zB w) λx1 x2 x3=>R (.agg #[zb x1,zu x2,.string x3]) w4
theorem zeL(p0)(R)(w)(h:zcy p0 R w):Calls Tryz.prog 70 #[.string p0] w (Ret R):=lwC zc6 Tryz.func70 (by kernel_rfl) (by kernel_rfl) h
def zaV:Ann:=(.q (.q .nil))
def zaI(p0:Int)(R:VWP)(w:World):Prop:=Nw (w.alloc (.cells #[zb 0,zu 0,.string (BM #[])] 123)) λw1=>de w1 (zB w) (zb 2) (zu p0) (.string (BM #[])) λw4=>dn w4 (zB w) λx1 x2 x3=>R (.agg #[zb x1,zu x2,.string x3]) w4
theorem zdD(p0)(R)(w)(h:zaI p0 R w):Calls Tryz.prog 71 #[.int .u32 p0] w (Ret R):=lwC zaV Tryz.func71 (by kernel_rfl) (by kernel_rfl) h
end Go.Proofs
namespace Go.Proofs
open Go.Gk
set_option linter.unusedVariables false
set_option linter.unusedSectionVars false
set_option maxRecDepth 100000
def zjJ:Ann:=(.q (.seq none (.q (.q (.cond (.q .nil) .nil))) (.q (.seq none (.q (.one (.loop ⟨[3,5,25,26],[(27,(.b (.int .i64)))]⟩ (.q (.seq none .c (.seq none (.one (.q (.q (.seq (some ⟨[3,5,6,7,8,9,25,26,27],[(10,(.b (.int .i64)))]⟩) (.q .c) (.seq none (.q (.cond (.q .nil) .nil)) (.seq (some ⟨[3,5,7,25,26,27],[]⟩) (.q (.cond (.q .nil) .nil)) .nil)))))) .nil)))))) (.q .nil)))))
def zjF(p0:(Int×Int×Sl×Unit))(R:VWP)(w:World):Prop:=Nw (w.alloc (.cells #[zu p0.1,zu p0.2.1,p0.2.2.1.zw] 25)) λw1=>Nw (w1.alloc (.cells #[zi 0,zi 0] 29)) λw2=>da w2 (zB w) λx1 x2 x3=>dh 40 #[.agg #[zu x1,zu x2,x3.zw]] w2 λx5 w3=>dd w3 #[zi 0,zi 0] 29 (zi x5.1) (zi x5.2.1) λw6=>ldI w6 (zB w3) .i64 λx6=>ifB (x6 !=0) (db w6.drew (zB w3) λx7 x8=>df w6.drew (zB w1) (zi x7) (zi x8) λw8=>db w8 (zB w1) λx9 x10=>R (.tuple #[.pointer none,.agg #[zi x9,zi x10]]) w8) (Nw (w6.alloc (.map #[] 0)) λw9=>Nw (w9.alloc (.cells #[.map (some w6.heap.size),.slice none 0 0] 136)) λw10=>Nw (w10.alloc (.map #[] 0)) λw11=>Nw (w11.alloc (.map #[] 0)) λw12=>Nw (w12.alloc (.cells #[.pointer (some (zB w9)),.map (some w10.heap.size),.map (some w11.heap.size)] 140)) λw13=>ldS w13 ((zB w).add 2) λx11=>zm (S:=Int×Unit) (λs12 w14 n13=>ifB (decide (s12.1<(x11.l:Int))) ((0<=s12.1/\s12.1<(x11.l:Int))/\zc x11.a λa14=>dc w14 (a14.add (s12.1.toNat *4)) λx15 x16 x17 x18=>dg w14 #[zh 0,zu 0,zu 0,.slice none 0 0] 44 (zh x15) (zu x16) (zu x17) (x18.zw) λw19=>dc w19 (zB w14) λx19 x20 x21 x22=>dT 59 #[.pointer (some (zB w12)),.agg #[zh x19,zu x20,zu x21,x22.zw]] w19 λx24 x25 x26 w20=>dS w20 #[zb 0,zi 0,zi 0,.bool false,zu 0,zu 0,zi 0,.slice none 0 0] 144 (zb x24.1) (zi x24.2.1) (zi x24.2.2.1) (.bool x24.2.2.2.1) (zu x24.2.2.2.2.1) (zu x24.2.2.2.2.2.1) (zi x24.2.2.2.2.2.2.1) (x24.2.2.2.2.2.2.2.1.zw) λw29=>zo (S:=Int×Unit) (λm27=>ifB x25 (ifB (x26==0) (dc w29 (zB w14) λx29 x30 x31 x32=>dN 60 #[.pointer (some (zB w12)),.agg #[zh x29,zu x30,zu x31,x32.zw]] w29 λx34 w30=>ifB x34 (m27 (101,()) w30) (m27 (x26,()) w30)) (m27 (x26,()) w29)) (m27 (x26,()) w29)) (λs28 w31=>ifB (s28.1 !=0) (df w31 (zB w1) (zi s28.1) (zi s12.1) λw33=>db w33 (zB w1) λx35 x36=>R (.tuple #[.pointer none,.agg #[zi x35,zi x36]]) w33) (zo (S:=Unit) (λm37=>ifB x25 (ldP w31.drew (zB w12) λx39=>zc x39 λa40=>ldM w31.drew a40 λx41=>ldI w31.drew ((zB w14).add 2) .u32 λx42=>dR w31.drew (zB w20) λx43 x44 x45 x46 x47 x48 x49 x50=>updW Tryz.prog 134 (.map x41) (zu x42) (.agg #[zb x43,zi x44,zi x45,.bool x46,zu x47,zu x48,zi x49,x50.zw]) w31.drew λw34=>ldP w34.drew (zB w12) λx51=>ldP w34.drew (zB w12) λx52=>zc x52 λa53=>ldS w34.drew (a53.add 1) λx54=>ldI w34.drew ((zB w14).add 2) .u32 λx55=>Nw (w34.drew.alloc (.cells #[zu x55] 22)) λw35=>w35.cell? (a53.add 1)=some (x54.zw)/\w35.cell? (zB w12)=some (.pointer x52)/\w35.cell? (zB w12)=some (.pointer x51)/\zz Tryz.prog 56 (x54.zw) (.slice (some (blk w34.drew.heap.size)) 1 1) w35 λr56 w36=>w36.cell? (zB w12)=some (.pointer x51)/\zc x51 λa57=>Wr w36 (a57.add 1)/\Nw (w36.setCell (a57.add 1) (r56.zw)) λw37=>m37 () w37) (m37 () w31)) (λs38 w38=>ldM w38.drew ((zB w12).add 1) λx58=>ldI w38.drew ((zB w14).add 2) .u32 λx59=>dc w38.drew (zB w14) λx60 x61 x62 x63=>updW Tryz.prog 137 (.map x58) (zu x59) (.agg #[zh x60,zu x61,zu x62,x63.zw]) w38.drew λw39=>n13 ((IntKind.i64.wrap (s12.1+(1:Int))),()) w39)))) (ldP w14 (zB w12) λx64=>df w14 (zB w1) (zi 0) (zi 0) λw41=>db w41 (zB w1) λx65 x66=>R (.tuple #[.pointer x64,.agg #[zi x65,zi x66]]) w41)) (0,()) w13)
theorem zkl(p0)(R)(w)(h:zjF p0 R w):Calls Tryz.prog 34 #[.agg #[.int .u32 p0.1,.int .u32 p0.2.1,.slice p0.2.2.1.a p0.2.2.1.l p0.2.2.1.c]] w (Ret R):=lwC zjJ Tryz.func34 (by kernel_rfl) (by kernel_rfl) h
def zc9:Ann:=(.q (.q .nil))
def zc1(p0:Option Addr)(p1:Int)(R:VWP)(w:World):Prop:=dU 80 #[.pointer p0,zu p1] w λx2 w1=>R (zi x2.2.1) w1
theorem zeW(p0)(p1)(R)(w)(h:zc1 p0 p1 R w):Calls Tryz.prog 46 #[.pointer p0,.int .u32 p1] w (Ret R):=lwC zc9 Tryz.func46 (by kernel_rfl) (by kernel_rfl) h
def zdt:Ann:=(.q (.q (.seq none (.q (.one (.loop ⟨[0,3,4,13,14],[(7,(.b .slice)),(15,(.b (.int .i64)))]⟩ (.q (.seq none .c (.seq none (.one (.q .nil)) .nil)))))) (.q (.q (.seq (some ⟨[4,10],[(11,(.b (.int .i64)))]⟩) (.q (.one (.q (.cond .nil (.q (.cond .nil (.q (.cond (.seq (some ⟨[4,7,10],[(11,(.b (.int .i64)))]⟩) (.q .c) .nil) (.q (.cond .nil (.q (.cond .nil (.q (.cond .nil (.q (.cond (.seq (some ⟨[4,7,10],[(11,(.b (.int .i64)))]⟩) (.q .c) .nil) (.q (.cond .nil (.q .nil))))))))))))))))))) (.q .nil)))))))
def zdk(p0:Option Addr)(p1:(Int×Int×Int×Sl×Unit))(R:VWP)(w:World):Prop:=Nw (w.alloc (.cells #[zh p1.1,zu p1.2.1,zu p1.2.2.1,p1.2.2.2.1.zw] 44)) λw1=>Nw (w1.alloc (.cells #[zb 0,zi 0,zi 0,.bool false,zu 0,zu 0,zi 0,.slice none 0 0] 144)) λw2=>ldS w2 ((zB w).add 3) λx1=>zm (S:=Sl×Int×Unit) (λs2 w3 n3=>ifB (decide (s2.2.1<(x1.l:Int))) ((0<=s2.2.1/\s2.2.1<(x1.l:Int))/\zc x1.a λa4=>dn w3 (a4.add (s2.2.1.toNat *3)) λx5 x6 x7=>Nw (w3.alloc (.cells #[zb 0,zu 0,.string (BM #[])] 123)) λw4=>de w4 (zB w3) (zb x5) (zu x6) (.string x7) λw7=>ldI w7 ((zB w3).add 1) .u32 λx8=>Nw (w7.alloc (.cells #[zu x8] 22)) λw8=>zz Tryz.prog 56 (s2.1.zw) (.slice (some (zB w7)) 1 1) w8 λr9 w9=>n3 (r9,(IntKind.i64.wrap (s2.2.1+(1:Int))),()) w9) (Nw (w3.alloc (.cells #[zb 0,zi 0,zi 0,.bool false,zu 0,zu 0,zi 0,.slice none 0 0] 144)) λw10=>zo (S:=Int×Unit) (λm10=>ldI w10 (zB w) .u16 λx12=>ifB (x12==19) (Wr w10 (zB w3)/\Nw (w10.setCell (zB w3) (zb 1)) λw11=>m10 (0,()) w11) (ifB (x12==20) (de w10 (zB w3) (zb 2) (zi 1) (zi 1) λw14=>m10 (0,()) w14) (ifB (x12==21) (zo (S:=Int×Unit) (λm13=>(0<=(0:Int)/\0<(s2.1.l:Int))/\zc s2.1.a λa15=>ldI w10 (a15.add 0) .u32 λx16=>ifB (x16 !=32) (m13 (102,()) w10) ((0<=(1:Int)/\1<(s2.1.l:Int))/\zc s2.1.a λa17=>ldI w10 (a17.add 1) .u32 λx18=>ifB (decide (x18>(1:Int))) (m13 (102,()) w10) (m13 (0,()) w10))) (λs14 w15=>(0<=(1:Int)/\1<(s2.1.l:Int))/\zc s2.1.a λa19=>ldI w15 (a19.add 1) .u32 λx20=>dx w15 (zB w3) (zb 3) (zi 1) (zi 1) (.bool (x20==1)) (zu 0) (zu 0) (zi 0) (.slice none 0 0) λw23=>m10 (s14.1,()) w23)) (ifB (x12==23) (zc p0 λa21=>ldP w10.drew a21 λx22=>(0<=(0:Int)/\0<(s2.1.l:Int))/\zc s2.1.a λa23=>ldI w10.drew (a23.add 0) .u32 λx24=>(0<=(1:Int)/\1<(s2.1.l:Int))/\zc s2.1.a λa25=>ldI w10.drew (a25.add 1) .u32 λx26=>dV 94 #[.pointer x22,zu x24,zu x26] w10.drew λx28 x29 w24=>dx w24 (zB w3) (zb x28.1) (zi x28.2.1) (zi x28.2.2.1) (.bool x28.2.2.2.1) (zu x28.2.2.2.2.1) (zu x28.2.2.2.2.2.1) (zi x28.2.2.2.2.2.2.1) (x28.2.2.2.2.2.2.2.1.zw) λw32=>m10 (x29,()) w32) (ifB (x12==28) ((0<=(0:Int)/\0<(s2.1.l:Int))/\zc s2.1.a λa30=>ldI w10.drew (a30.add 0) .u32 λx31=>(0<=(1:Int)/\1<(s2.1.l:Int))/\zc s2.1.a λa32=>ldI w10.drew (a32.add 1) .u32 λx33=>dV 95 #[.pointer p0,zu x31,zu x33] w10.drew λx35 x36 w33=>dx w33 (zB w3) (zb x35.1) (zi x35.2.1) (zi x35.2.2.1) (.bool x35.2.2.2.1) (zu x35.2.2.2.2.1) (zu x35.2.2.2.2.2.1) (zi x35.2.2.2.2.2.2.1) (x35.2.2.2.2.2.2.2.1.zw) λw41=>m10 (x36,()) w41) (ifB (x12==30) (zc p0 λa37=>ldP w10 a37 λx38=>dV 96 #[.pointer x38,s2.1.zw] w10 λx40 x41 w42=>dx w42 (zB w3) (zb x40.1) (zi x40.2.1) (zi x40.2.2.1) (.bool x40.2.2.2.1) (zu x40.2.2.2.2.1) (zu x40.2.2.2.2.2.1) (zi x40.2.2.2.2.2.2.1) (x40.2.2.2.2.2.2.2.1.zw) λw50=>m10 (x41,()) w50) (ifB (x12==32) (zo (S:=Int×Unit) (λm42=>zc p0 λa44=>ldP w10.drew a44 λx45=>(0<=(1:Int)/\1<(s2.1.l:Int))/\zc s2.1.a λa46=>ldI w10.drew (a46.add 1) .u32 λx47=>dN 97 #[.pointer x45,zu x47] w10.drew λx49 w51=>ifB (!x49) (m42 (100,()) w51) (m42 (0,()) w51)) (λs43 w52=>(0<=(0:Int)/\0<(s2.1.l:Int))/\zc s2.1.a λa50=>ldI w52.drew (a50.add 0) .u32 λx51=>(0<=(1:Int)/\1<=(s2.1.l:Int)/\(s2.1.l:Int)<=(s2.1.c:Int))/\dx w52.drew (zB w3) (zb 7) (zi 0) (zi 0) (.bool false) (zu x51) (zu 0) (zi 0) (.slice (if s2.1.c=1 then s2.1.a else Option.map (λa=>a.add 1) s2.1.a) (s2.1.l-1) (s2.1.c-1)) λw60=>m10 (s43.1,()) w60)) (ifB (x12==33) (zc p0 λa52=>ldP w10 a52 λx53=>dV 98 #[.pointer x53,s2.1.zw] w10 λx55 x56 w61=>dx w61 (zB w3) (zb x55.1) (zi x55.2.1) (zi x55.2.2.1) (.bool x55.2.2.2.1) (zu x55.2.2.2.2.1) (zu x55.2.2.2.2.2.1) (zi x55.2.2.2.2.2.2.1) (x55.2.2.2.2.2.2.2.1.zw) λw69=>m10 (x56,()) w69) (dx w10 (zB w1) (zb 0) (zi 0) (zi 0) (.bool false) (zu 0) (zu 0) (zi 0) (.slice none 0 0) λw77=>dR w77 (zB w1) λx57 x58 x59 x60 x61 x62 x63 x64=>R (.tuple #[.agg #[zb x57,zi x58,zi x59,.bool x60,zu x61,zu x62,zi x63,x64.zw],.bool false,zi 0]) w77))))))))) (λs11 w78=>dR w78 (zB w3) λx65 x66 x67 x68 x69 x70 x71 x72=>dx w78 (zB w1) (zb x65) (zi x66) (zi x67) (.bool x68) (zu x69) (zu x70) (zi x71) (x72.zw) λw86=>dR w86 (zB w1) λx73 x74 x75 x76 x77 x78 x79 x80=>R (.tuple #[.agg #[zb x73,zi x74,zi x75,.bool x76,zu x77,zu x78,zi x79,x80.zw],.bool true,zi s11.1]) w86))) ((Sl.mk none 0 0),0,()) w2
theorem zfw(p0)(p1)(R)(w)(h:zdk p0 p1 R w):Calls Tryz.prog 59 #[.pointer p0,.agg #[.int .u16 p1.1,.int .u32 p1.2.1,.int .u32 p1.2.2.1,.slice p1.2.2.2.1.a p1.2.2.2.1.l p1.2.2.2.1.c]] w (Ret R):=lwC zdt Tryz.func59 (by kernel_rfl) (by kernel_rfl) h
def zbW:Ann:=(.q (.seq (some ⟨[0,3],[]⟩) (.q (.cond (.q .nil) .nil)) (.q (.seq none (.q (.one (.loop ⟨[0,21,22],[(5,(.b .str)),(23,(.b (.int .i64)))]⟩ (.q (.seq none .c (.seq none (.one (.q .nil)) .nil)))))) (.q (.q .nil))))))
def zbD(p0:Option Addr)(p1:(Int×Int×Int×Sl×Unit))(R:VWP)(w:World):Prop:=Nw (w.alloc (.cells #[zh p1.1,zu p1.2.1,zu p1.2.2.1,p1.2.2.2.1.zw] 44)) λw1=>zo (S:=Unit) (λm1=>ldI w1 (zB w) .u16 λx3=>ifB (x3==28) (R (.bool false) w1) (ldI w1 (zB w) .u16 λx4=>ifB (x4==30) (R (.bool false) w1) (m1 () w1))) (λs2 w2=>ldI w2 (zB w) .u16 λx5=>dF 99 #[zi (IntKind.i64.wrap x5)] w2 λx7 w3=>ldS w3 ((zB w).add 3) λx8=>zm (S:=ByteArray×Int×Unit) (λs9 w4 n10=>ifB (decide (s9.2.1<(x8.l:Int))) ((0<=s9.2.1/\s9.2.1<(x8.l:Int))/\zc x8.a λa11=>dn w4 (a11.add (s9.2.1.toNat *3)) λx12 x13 x14=>Nw (w4.alloc (.cells #[zb 0,zu 0,.string (BM #[])] 123)) λw5=>de w5 (zB w4) (zb x12) (zu x13) (.string x14) λw8=>ldI w8 ((zB w4).add 1) .u32 λx15=>dF 99 #[zi (IntKind.i64.wrap x15)] w8 λx17 w9=>zco (BM #[32]) x17/\zco s9.1 ((BM #[32])++x17)/\n10 ((s9.1++((BM #[32])++x17)),(IntKind.i64.wrap (s9.2.1+(1:Int))),()) w9) (zc p0 λa18=>ldM w4 (a18.add 2) λx19=>YT Tryz.prog 138 (.map x19) (.string s9.1) (BK.int .i64) w4 λ(x20:Int)=>updW Tryz.prog 138 (.map x19) (.string s9.1) (zi (IntKind.i64.wrap (x20+(1:Int)))) w4 λw10=>zc p0 λa21=>ldM w10 (a21.add 2) λx22=>YT Tryz.prog 138 (.map x22) (.string s9.1) (BK.int .i64) w10 λ(x23:Int)=>R (.bool (decide (x23>(1:Int)))) w10)) (x7,0,()) w3)
theorem ze3(p0)(p1)(R)(w)(h:zbD p0 p1 R w):Calls Tryz.prog 60 #[.pointer p0,.agg #[.int .u16 p1.1,.int .u32 p1.2.1,.int .u32 p1.2.2.1,.slice p1.2.2.2.1.a p1.2.2.2.1.l p1.2.2.2.1.c]] w (Ret R):=lwC zbW Tryz.func60 (by kernel_rfl) (by kernel_rfl) h
def zdZ:Ann:=(.q (.seq none (.q (.cond (.q .nil) .nil)) (.q .nil)))
def zdP(p0:Option Addr)(p1:Int)(R:VWP)(w:World):Prop:=Nw (w.alloc (.cells #[zb 0,zi 0,zi 0,.bool false,zu 0,zu 0,zi 0,.slice none 0 0] 144)) λw1=>ifB (Option.isNone p0) (dx w1 (zB w) (zb 0) (zi 0) (zi 0) (.bool false) (zu 0) (zu 0) (zi 0) (.slice none 0 0) λw9=>dR w9 (zB w) λx1 x2 x3 x4 x5 x6 x7 x8=>R (.agg #[zb x1,zi x2,zi x3,.bool x4,zu x5,zu x6,zi x7,x8.zw]) w9) (zc p0 λa9=>ldM w1 a9 λx10=>za2 Tryz.prog 134 (.map x10) (zu p1) [(.int .u8),(.int .i64),(.int .i64),.bool,(.int .u32),(.int .u32),(.int .i64),.slice] w1 λ(x11:(Int×Int×Int×Bool×Int×Int×Int×Sl×Unit))=>dx w1 (zB w) (zb x11.1) (zi x11.2.1) (zi x11.2.2.1) (.bool x11.2.2.2.1) (zu x11.2.2.2.2.1) (zu x11.2.2.2.2.2.1) (zi x11.2.2.2.2.2.2.1) (x11.2.2.2.2.2.2.2.1.zw) λw17=>dR w17 (zB w) λx12 x13 x14 x15 x16 x17 x18 x19=>R (.agg #[zb x12,zi x13,zi x14,.bool x15,zu x16,zu x17,zi x18,x19.zw]) w17)
theorem zgx(p0)(p1)(R)(w)(h:zdP p0 p1 R w):Calls Tryz.prog 80 #[.pointer p0,.int .u32 p1] w (Ret R):=lwC zdZ Tryz.func80 (by kernel_rfl) (by kernel_rfl) h
def zaY:Ann:=(.q (.q .nil))
def zaL(p0:Option Addr)(p1:Int)(R:VWP)(w:World):Prop:=dU 80 #[.pointer p0,zu p1] w λx2 w1=>R (.bool x2.2.2.2.1) w1
theorem zdG(p0)(p1)(R)(w)(h:zaL p0 p1 R w):Calls Tryz.prog 91 #[.pointer p0,.int .u32 p1] w (Ret R):=lwC zaY Tryz.func91 (by kernel_rfl) (by kernel_rfl) h
def zaZ:Ann:=(.q (.q (.seq (some ⟨[1,2,6,8],[]⟩) (.one (.q (.cond (.q .nil) (.q (.cond (.q .nil) .nil))))) (.q .nil))))
def zaM(p0:Option Addr)(p1:Int)(p2:Int)(R:VWP)(w:World):Prop:=Nw (w.alloc (.cells #[zb 0,zi 0,zi 0,.bool false,zu 0,zu 0,zi 0,.slice none 0 0] 144)) λw1=>zc p0 λa1=>ldM w1 a1 λx2=>za2 Tryz.prog 134 (.map x2) (zu p1) [(.int .u8),(.int .i64),(.int .i64),.bool,(.int .u32),(.int .u32),(.int .i64),.slice] w1 λ(x3:(Int×Int×Int×Bool×Int×Int×Int×Sl×Unit))=>dS w1 #[zb 0,zi 0,zi 0,.bool false,zu 0,zu 0,zi 0,.slice none 0 0] 144 (zb x3.1) (zi x3.2.1) (zi x3.2.2.1) (.bool x3.2.2.2.1) (zu x3.2.2.2.2.1) (zu x3.2.2.2.2.2.1) (zi x3.2.2.2.2.2.2.1) (x3.2.2.2.2.2.2.2.1.zw) λw10=>zo (S:=Unit) (λm4=>ldI w10 (zB w1) .u8 λx6=>ifB (x6 !=2) (ldI w10 (zB w1) .u8 λx7=>ifB (x7 !=3) (dx w10 (zB w) (zb 0) (zi 0) (zi 0) (.bool false) (zu 0) (zu 0) (zi 0) (.slice none 0 0) λw18=>dR w18 (zB w) λx8 x9 x10 x11 x12 x13 x14 x15=>R (.tuple #[.agg #[zb x8,zi x9,zi x10,.bool x11,zu x12,zu x13,zi x14,x15.zw],zi 100]) w18) (ifB (decide (p2<(2:Int))) (dx w10 (zB w) (zb 0) (zi 0) (zi 0) (.bool false) (zu 0) (zu 0) (zi 0) (.slice none 0 0) λw26=>dR w26 (zB w) λx16 x17 x18 x19 x20 x21 x22 x23=>R (.tuple #[.agg #[zb x16,zi x17,zi x18,.bool x19,zu x20,zu x21,zi x22,x23.zw],zi 102]) w26) (ifB (decide (p2>(4:Int))) (dx w10 (zB w) (zb 0) (zi 0) (zi 0) (.bool false) (zu 0) (zu 0) (zi 0) (.slice none 0 0) λw34=>dR w34 (zB w) λx24 x25 x26 x27 x28 x29 x30 x31=>R (.tuple #[.agg #[zb x24,zi x25,zi x26,.bool x27,zu x28,zu x29,zi x30,x31.zw],zi 102]) w34) (m4 () w10)))) (ifB (decide (p2<(2:Int))) (dx w10 (zB w) (zb 0) (zi 0) (zi 0) (.bool false) (zu 0) (zu 0) (zi 0) (.slice none 0 0) λw42=>dR w42 (zB w) λx32 x33 x34 x35 x36 x37 x38 x39=>R (.tuple #[.agg #[zb x32,zi x33,zi x34,.bool x35,zu x36,zu x37,zi x38,x39.zw],zi 102]) w42) (ifB (decide (p2>(4:Int))) (dx w10 (zB w) (zb 0) (zi 0) (zi 0) (.bool false) (zu 0) (zu 0) (zi 0) (.slice none 0 0) λw50=>dR w50 (zB w) λx40 x41 x42 x43 x44 x45 x46 x47=>R (.tuple #[.agg #[zb x40,zi x41,zi x42,.bool x43,zu x44,zu x45,zi x46,x47.zw],zi 102]) w50) (m4 () w10)))) (λs5 w51=>ldI w51 ((zB w1).add 2) .i64 λx48=>dV 129 #[.agg #[zb 4,zi 0,zi 0,.bool false,zu 0,zu p1,zi (IntKind.i64.wrap p2),.slice none 0 0],zi (IntKind.i64.wrap p2),zi x48] w51 λx50 x51 w52=>dx w52 (zB w) (zb x50.1) (zi x50.2.1) (zi x50.2.2.1) (.bool x50.2.2.2.1) (zu x50.2.2.2.2.1) (zu x50.2.2.2.2.2.1) (zi x50.2.2.2.2.2.2.1) (x50.2.2.2.2.2.2.2.1.zw) λw60=>dR w60 (zB w) λx52 x53 x54 x55 x56 x57 x58 x59=>R (.tuple #[.agg #[zb x52,zi x53,zi x54,.bool x55,zu x56,zu x57,zi x58,x59.zw],zi x51]) w60)
theorem zdH(p0)(p1)(p2)(R)(w)(h:zaM p0 p1 p2 R w):Calls Tryz.prog 94 #[.pointer p0,.int .u32 p1,.int .u32 p2] w (Ret R):=lwC zaZ Tryz.func94 (by kernel_rfl) (by kernel_rfl) h
def zbX:Ann:=(.q (.q (.seq none (.q (.cond (.q .nil) .nil)) (.q (.seq (some ⟨[1,6,8,9],[]⟩) (.q (.cond (.q .nil) .nil)) (.q (.q .nil)))))))
def zbE(p0:Option Addr)(p1:Int)(p2:Int)(R:VWP)(w:World):Prop:=Nw (w.alloc (.cells #[zb 0,zi 0,zi 0,.bool false,zu 0,zu 0,zi 0,.slice none 0 0] 144)) λw1=>zc p0 λa1=>ldP w1 a1 λx2=>zc x2 λa3=>ldM w1 a3 λx4=>za2 Tryz.prog 134 (.map x4) (zu p1) [(.int .u8),(.int .i64),(.int .i64),.bool,(.int .u32),(.int .u32),(.int .i64),.slice] w1 λ(x5:(Int×Int×Int×Bool×Int×Int×Int×Sl×Unit))=>dS w1 #[zb 0,zi 0,zi 0,.bool false,zu 0,zu 0,zi 0,.slice none 0 0] 144 (zb x5.1) (zi x5.2.1) (zi x5.2.2.1) (.bool x5.2.2.2.1) (zu x5.2.2.2.2.1) (zu x5.2.2.2.2.2.1) (zi x5.2.2.2.2.2.2.1) (x5.2.2.2.2.2.2.2.1.zw) λw10=>ldI w10 ((zB w1).add 1) .i64 λx6=>ifB (x6==0) (dx w10 (zB w) (zb 0) (zi 0) (zi 0) (.bool false) (zu 0) (zu 0) (zi 0) (.slice none 0 0) λw18=>dR w18 (zB w) λx7 x8 x9 x10 x11 x12 x13 x14=>R (.tuple #[.agg #[zb x7,zi x8,zi x9,.bool x10,zu x11,zu x12,zi x13,x14.zw],zi 100]) w18) (zc p0 λa15=>ldM w10 (a15.add 1) λx16=>za2 Tryz.prog 137 (.map x16) (zu p2) [(.int .u16),(.int .u32),(.int .u32),.slice] w10 λ(x17:(Int×Int×Int×Sl×Unit))=>dg w10 #[zh 0,zu 0,zu 0,.slice none 0 0] 44 (zh x17.1) (zu x17.2.1) (zu x17.2.2.1) (x17.2.2.2.1.zw) λw23=>zo (S:=Unit) (λm18=>ldI w23.drew (zB w10) .u16 λx20=>ifB (x20 !=43) (dx w23.drew (zB w) (zb 0) (zi 0) (zi 0) (.bool false) (zu 0) (zu 0) (zi 0) (.slice none 0 0) λw31=>dR w31 (zB w) λx21 x22 x23 x24 x25 x26 x27 x28=>R (.tuple #[.agg #[zb x21,zi x22,zi x23,.bool x24,zu x25,zu x26,zi x27,x28.zw],zi 102]) w31) (zc p0 λa29=>ldP w23.drew a29 λx30=>zc x30 λa31=>ldM w23.drew a31 λx32=>ldI w23.drew ((zB w10).add 1) .u32 λx33=>za2 Tryz.prog 134 (.map x32) (zu x33) [(.int .u8),(.int .i64),(.int .i64),.bool,(.int .u32),(.int .u32),(.int .i64),.slice] w23.drew λ(x34:(Int×Int×Int×Bool×Int×Int×Int×Sl×Unit))=>ifB (x34.1 !=3) (dx w23.drew (zB w) (zb 0) (zi 0) (zi 0) (.bool false) (zu 0) (zu 0) (zi 0) (.slice none 0 0) λw39=>dR w39 (zB w) λx35 x36 x37 x38 x39 x40 x41 x42=>R (.tuple #[.agg #[zb x35,zi x36,zi x37,.bool x38,zu x39,zu x40,zi x41,x42.zw],zi 102]) w39) (ldS w23.drew ((zB w10).add 3) λx43=>(0<=(0:Int)/\0<(x43.l:Int))/\zc x43.a λa44=>ldI w23.drew ((a44.add (0*3)).add 1) .u32 λx45=>ifB (decide (x45<(1:Int))) (dx w23.drew (zB w) (zb 0) (zi 0) (zi 0) (.bool false) (zu 0) (zu 0) (zi 0) (.slice none 0 0) λw47=>dR w47 (zB w) λx46 x47 x48 x49 x50 x51 x52 x53=>R (.tuple #[.agg #[zb x46,zi x47,zi x48,.bool x49,zu x50,zu x51,zi x52,x53.zw],zi 102]) w47) (ldS w23.drew ((zB w10).add 3) λx54=>(0<=(0:Int)/\0<(x54.l:Int))/\zc x54.a λa55=>ldI w23.drew ((a55.add (0*3)).add 1) .u32 λx56=>ifB (decide (x56>(4096:Int))) (dx w23.drew (zB w) (zb 0) (zi 0) (zi 0) (.bool false) (zu 0) (zu 0) (zi 0) (.slice none 0 0) λw55=>dR w55 (zB w) λx57 x58 x59 x60 x61 x62 x63 x64=>R (.tuple #[.agg #[zb x57,zi x58,zi x59,.bool x60,zu x61,zu x62,zi x63,x64.zw],zi 102]) w55) (m18 () w23.drew))))) (λs19 w56=>ldS w56 ((zB w10).add 3) λx65=>(0<=(0:Int)/\0<(x65.l:Int))/\zc x65.a λa66=>ldI w56 ((a66.add (0*3)).add 1) .u32 λx67=>ldI w56 ((zB w1).add 1) .i64 λx68=>ldI w56 ((zB w1).add 2) .i64 λx69=>dV 129 #[.agg #[zb 5,zi 0,zi 0,.bool false,zu 0,zu p1,zi (IntKind.i64.wrap x67),.slice none 0 0],zi (IntKind.i64.wrap ((IntKind.i64.wrap x67)*x68)),zi x69] w56 λx71 x72 w57=>dx w57 (zB w) (zb x71.1) (zi x71.2.1) (zi x71.2.2.1) (.bool x71.2.2.2.1) (zu x71.2.2.2.2.1) (zu x71.2.2.2.2.2.1) (zi x71.2.2.2.2.2.2.1) (x71.2.2.2.2.2.2.2.1.zw) λw65=>dR w65 (zB w) λx73 x74 x75 x76 x77 x78 x79 x80=>R (.tuple #[.agg #[zb x73,zi x74,zi x75,.bool x76,zu x77,zu x78,zi x79,x80.zw],zi x72]) w65))
theorem ze4(p0)(p1)(p2)(R)(w)(h:zbE p0 p1 p2 R w):Calls Tryz.prog 95 #[.pointer p0,.int .u32 p1,.int .u32 p2] w (Ret R):=lwC zbX Tryz.func95 (by kernel_rfl) (by kernel_rfl) h
def zaw:Ann:=(.q (.seq (some ⟨[0,1,4],[]⟩) (.q (.cond (.q .nil) .nil)) (.q (.seq none (.q (.one (.loop ⟨[0,1,4,19,20],[(6,(.b (.int .i64))),(7,(.b (.int .i64))),(21,(.b (.int .i64)))]⟩ (.q (.seq none .c (.seq none (.one (.q (.seq none (.q (.cond (.q .nil) .nil)) (.q .nil)))) .nil)))))) (.q .nil)))))
def zam(p0:Option Addr)(p1:Sl)(R:VWP)(w:World):Prop:=Nw (w.alloc (.cells #[zb 0,zi 0,zi 0,.bool false,zu 0,zu 0,zi 0,.slice none 0 0] 144)) λw1=>zo (S:=Unit) (λm1=>ifB (decide ((p1.l:Int)<1)) (dx w1 (zB w) (zb 0) (zi 0) (zi 0) (.bool false) (zu 0) (zu 0) (zi 0) (.slice none 0 0) λw9=>dR w9 (zB w) λx3 x4 x5 x6 x7 x8 x9 x10=>R (.tuple #[.agg #[zb x3,zi x4,zi x5,.bool x6,zu x7,zu x8,zi x9,x10.zw],zi 102]) w9) (ifB (decide ((p1.l:Int)>256)) (dx w1 (zB w) (zb 0) (zi 0) (zi 0) (.bool false) (zu 0) (zu 0) (zi 0) (.slice none 0 0) λw17=>dR w17 (zB w) λx11 x12 x13 x14 x15 x16 x17 x18=>R (.tuple #[.agg #[zb x11,zi x12,zi x13,.bool x14,zu x15,zu x16,zi x17,x18.zw],zi 102]) w17) (m1 () w1))) (λs2 w18=>zm (S:=Int×Int×Int×Unit) (λs19 w19 n20=>ifB (decide (s19.2.2.1<(p1.l:Int))) ((0<=s19.2.2.1/\s19.2.2.1<(p1.l:Int))/\zc p1.a λa21=>ldI w19 (a21.add s19.2.2.1.toNat) .u32 λx22=>dN 97 #[.pointer p0,zu x22] w19 λx24 w20=>ifB (!x24) (dx w20 (zB w) (zb 0) (zi 0) (zi 0) (.bool false) (zu 0) (zu 0) (zi 0) (.slice none 0 0) λw28=>dR w28 (zB w) λx25 x26 x27 x28 x29 x30 x31 x32=>R (.tuple #[.agg #[zb x25,zi x26,zi x27,.bool x28,zu x29,zu x30,zi x31,x32.zw],zi 100]) w28) (zc p0 λa33=>ldM w20 a33 λx34=>za2 Tryz.prog 134 (.map x34) (zu x22) [(.int .u8),(.int .i64),(.int .i64),.bool,(.int .u32),(.int .u32),(.int .i64),.slice] w20 λ(x35:(Int×Int×Int×Bool×Int×Int×Int×Sl×Unit))=>zc p0 λa36=>ldM w20 a36 λx37=>za2 Tryz.prog 134 (.map x37) (zu x22) [(.int .u8),(.int .i64),(.int .i64),.bool,(.int .u32),(.int .u32),(.int .i64),.slice] w20 λ(x38:(Int×Int×Int×Bool×Int×Int×Int×Sl×Unit))=>n20 ((IntKind.i64.wrap (s19.1+x35.2.1)),(if x38.2.2.1>s19.2.1 then x38.2.2.1 else s19.2.1),(IntKind.i64.wrap (s19.2.2.1+(1:Int))),()) w20)) (dV 129 #[.agg #[zb 6,zi 0,zi 0,.bool false,zu 0,zu 0,zi 0,p1.zw],zi s19.1,zi s19.2.1] w19 λx40 x41 w29=>dx w29 (zB w) (zb x40.1) (zi x40.2.1) (zi x40.2.2.1) (.bool x40.2.2.2.1) (zu x40.2.2.2.2.1) (zu x40.2.2.2.2.2.1) (zi x40.2.2.2.2.2.2.1) (x40.2.2.2.2.2.2.2.1.zw) λw37=>dR w37 (zB w) λx42 x43 x44 x45 x46 x47 x48 x49=>R (.tuple #[.agg #[zb x42,zi x43,zi x44,.bool x45,zu x46,zu x47,zi x48,x49.zw],zi x41]) w37)) (0,0,0,()) w18)
theorem zdc(p0)(p1)(R)(w)(h:zam p0 p1 R w):Calls Tryz.prog 96 #[.pointer p0,.slice p1.a p1.l p1.c] w (Ret R):=lwC zaw Tryz.func96 (by kernel_rfl) (by kernel_rfl) h
def zbV:Ann:=(.q (.q .nil))
def zbC(p0:Option Addr)(p1:Int)(R:VWP)(w:World):Prop:=zc p0 λa1=>ldM w a1 λx2=>za2 Tryz.prog 134 (.map x2) (zu p1) [(.int .u8),(.int .i64),(.int .i64),.bool,(.int .u32),(.int .u32),(.int .i64),.slice] w λ(x3:(Int×Int×Int×Bool×Int×Int×Int×Sl×Unit))=>R (.bool (decide (x3.2.1>(0:Int)))) w
theorem ze2(p0)(p1)(R)(w)(h:zbC p0 p1 R w):Calls Tryz.prog 97 #[.pointer p0,.int .u32 p1] w (Ret R):=lwC zbV Tryz.func97 (by kernel_rfl) (by kernel_rfl) h
def YO:Ann:=(.q (.seq none (.q (.one (.loop ⟨[0,1,4,9,10],[(11,(.b (.int .i64)))]⟩ (.q (.seq none .c (.seq (some ⟨[0,1,4,9,10,11],[]⟩) (.one (.q (.q (.seq (some ⟨[0,1,4,7,9,10,11],[(8,(.b (.int .u8)))]⟩) (.q .c) (.q (.cond (.q .nil) .nil)))))) .nil)))))) (.q .nil)))
def YI(p0:Option Addr)(p1:Sl)(R:VWP)(w:World):Prop:=Nw (w.alloc (.cells #[zb 0,zi 0,zi 0,.bool false,zu 0,zu 0,zi 0,.slice none 0 0] 144)) λw1=>zm (S:=Int×Unit) (λs1 w2 n2=>ifB (decide (s1.1<(p1.l:Int))) (zo (S:=Unit) (λm3=>(0<=s1.1/\s1.1<(p1.l:Int))/\zc p1.a λa5=>ldI w2 (a5.add s1.1.toNat) .u32 λx6=>zo (S:=Int×Unit) (λm7=>ifB (s1.1==0) (m7 (1,()) w2) (m7 (7,()) w2)) (λs8 w3=>dN 97 #[.pointer p0,zu x6] w3 λx10 w4=>ifB (!x10) (zc p0 λa11=>ldM w4 a11 λx12=>za2 Tryz.prog 134 (.map x12) (zu x6) [(.int .u8),(.int .i64),(.int .i64),.bool,(.int .u32),(.int .u32),(.int .i64),.slice] w4 λ(x13:(Int×Int×Int×Bool×Int×Int×Int×Sl×Unit))=>ifB (x13.1 !=s8.1) (dx w4 (zB w) (zb 0) (zi 0) (zi 0) (.bool false) (zu 0) (zu 0) (zi 0) (.slice none 0 0) λw12=>dR w12 (zB w) λx14 x15 x16 x17 x18 x19 x20 x21=>R (.tuple #[.agg #[zb x14,zi x15,zi x16,.bool x17,zu x18,zu x19,zi x20,x21.zw],zi 100]) w12) (m3 () w4)) (m3 () w4))) (λs4 w13=>n2 ((IntKind.i64.wrap (s1.1+(1:Int))),()) w13)) (dx w2 (zB w) (zb 8) (zi 0) (zi 0) (.bool false) (zu 0) (zu 0) (zi 0) (p1.zw) λw21=>dR w21 (zB w) λx22 x23 x24 x25 x26 x27 x28 x29=>R (.tuple #[.agg #[zb x22,zi x23,zi x24,.bool x25,zu x26,zu x27,zi x28,x29.zw],zi 0]) w21)) (0,()) w1
theorem zcR(p0)(p1)(R)(w)(h:YI p0 p1 R w):Calls Tryz.prog 98 #[.pointer p0,.slice p1.a p1.l p1.c] w (Ret R):=lwC YO Tryz.func98 (by kernel_rfl) (by kernel_rfl) h
def zbU:Ann:=(.q (.q .nil))
def zbB(p0:Option Addr)(p1:Int)(R:VWP)(w:World):Prop:=dU 80 #[.pointer p0,zu p1] w λx2 w1=>R (.bool (decide (x2.2.1>(0:Int)))) w1
theorem ze1(p0)(p1)(R)(w)(h:zbB p0 p1 R w):Calls Tryz.prog 102 #[.pointer p0,.int .u32 p1] w (Ret R):=lwC zbU Tryz.func102 (by kernel_rfl) (by kernel_rfl) h
def zbT:Ann:=(.q (.q (.q .nil)))
def zbA(p0:Option Addr)(p1:Int)(R:VWP)(w:World):Prop:=dU 80 #[.pointer p0,zu p1] w λx2 w1=>dS w1 #[zb 0,zi 0,zi 0,.bool false,zu 0,zu 0,zi 0,.slice none 0 0] 144 (zb x2.1) (zi x2.2.1) (zi x2.2.2.1) (.bool x2.2.2.2.1) (zu x2.2.2.2.2.1) (zu x2.2.2.2.2.2.1) (zi x2.2.2.2.2.2.2.1) (x2.2.2.2.2.2.2.2.1.zw) λw10=>ldI w10 ((zB w1).add 6) .i64 λx3=>ldS w10 ((zB w1).add 7) λx4=>R (zi (IntKind.i64.wrap (x3+(x4.l:Int)))) w10
theorem ze0(p0)(p1)(R)(w)(h:zbA p0 p1 R w):Calls Tryz.prog 104 #[.pointer p0,.int .u32 p1] w (Ret R):=lwC zbT Tryz.func104 (by kernel_rfl) (by kernel_rfl) h
def zc8:Ann:=(.q (.q (.seq (some ⟨[2,8],[]⟩) (.one (.q (.cond (.q .nil) (.q (.cond (.q .nil) .nil))))) (.q .nil))))
def zc0(p0:Option Addr)(p1:Int)(p2:Int)(R:VWP)(w:World):Prop:=dU 80 #[.pointer p0,zu p1] w λx2 w1=>dS w1 #[zb 0,zi 0,zi 0,.bool false,zu 0,zu 0,zi 0,.slice none 0 0] 144 (zb x2.1) (zi x2.2.1) (zi x2.2.2.1) (.bool x2.2.2.2.1) (zu x2.2.2.2.2.1) (zu x2.2.2.2.2.2.1) (zi x2.2.2.2.2.2.2.1) (x2.2.2.2.2.2.2.2.1.zw) λw10=>zo (S:=Unit) (λm3=>ifB (decide (p2<(0:Int))) (R (.tuple #[zu 0,.bool false]) w10) (ldI w10 ((zB w1).add 6) .i64 λx5=>ldS w10 ((zB w1).add 7) λx6=>ifB (decide (p2≥(IntKind.i64.wrap (x5+(x6.l:Int))))) (R (.tuple #[zu 0,.bool false]) w10) (ldI w10 ((zB w1).add 6) .i64 λx7=>ifB (decide (x7>(0:Int))) (ldI w10 ((zB w1).add 5) .u32 λx8=>R (.tuple #[zu x8,.bool true]) w10) (m3 () w10)))) (λs4 w11=>ldS w11 ((zB w1).add 7) λx9=>(0<=p2/\p2<(x9.l:Int))/\zc x9.a λa10=>ldI w11 (a10.add p2.toNat) .u32 λx11=>R (.tuple #[zu x11,.bool true]) w11)
theorem zeV(p0)(p1)(p2)(R)(w)(h:zc0 p0 p1 p2 R w):Calls Tryz.prog 105 #[.pointer p0,.int .u32 p1,.int .i64 p2] w (Ret R):=lwC zc8 Tryz.func105 (by kernel_rfl) (by kernel_rfl) h
def zbS:Ann:=(.q (.q (.q .nil)))
def zb9(p0:Option Addr)(p1:Int)(R:VWP)(w:World):Prop:=dU 80 #[.pointer p0,zu p1] w λx2 w1=>dS w1 #[zb 0,zi 0,zi 0,.bool false,zu 0,zu 0,zi 0,.slice none 0 0] 144 (zb x2.1) (zi x2.2.1) (zi x2.2.2.1) (.bool x2.2.2.2.1) (zu x2.2.2.2.2.1) (zu x2.2.2.2.2.2.1) (zi x2.2.2.2.2.2.2.1) (x2.2.2.2.2.2.2.2.1.zw) λw10=>ldI w10.drew ((zB w1).add 4) .u32 λx3=>ldI w10.drew (zB w1) .u8 λx4=>R (.tuple #[zu x3,.bool (x4==7)]) w10.drew
theorem zez(p0)(p1)(R)(w)(h:zb9 p0 p1 R w):Calls Tryz.prog 107 #[.pointer p0,.int .u32 p1] w (Ret R):=lwC zbS Tryz.func107 (by kernel_rfl) (by kernel_rfl) h
def zc7:Ann:=(.q (.q .nil))
def zcz(p0:Option Addr)(p1:Int)(R:VWP)(w:World):Prop:=dU 80 #[.pointer p0,zu p1] w λx2 w1=>R (zb x2.1) w1
theorem zeU(p0)(p1)(R)(w)(h:zcz p0 p1 R w):Calls Tryz.prog 113 #[.pointer p0,.int .u32 p1] w (Ret R):=lwC zc7 Tryz.func113 (by kernel_rfl) (by kernel_rfl) h
def zhe:Ann:=(.q (.q (.q (.seq none (.one (.q (.cond (.q .nil) (.q (.cond (.q .nil) .nil))))) (.q .nil)))))
def zgW(p0:(Int×Int×Int×Bool×Int×Int×Int×Sl×Unit))(p1:Int)(p2:Int)(R:VWP)(w:World):Prop:=Nw (w.alloc (.cells #[zb p0.1,zi p0.2.1,zi p0.2.2.1,.bool p0.2.2.2.1,zu p0.2.2.2.2.1,zu p0.2.2.2.2.2.1,zi p0.2.2.2.2.2.2.1,p0.2.2.2.2.2.2.2.1.zw] 144)) λw1=>Nw (w1.alloc (.cells #[zb 0,zi 0,zi 0,.bool false,zu 0,zu 0,zi 0,.slice none 0 0] 144)) λw2=>Wr w2 ((zB w).add 1)/\Nw (w2.setCell ((zB w).add 1) (zi p1)) λw3=>Wr w3 ((zB w).add 2)/\Nw (w3.setCell ((zB w).add 2) (zi (IntKind.i64.wrap (p2+(1:Int))))) λw4=>ifB (decide (p1>(4096:Int))) (dx w4 (zB w1) (zb 0) (zi 0) (zi 0) (.bool false) (zu 0) (zu 0) (zi 0) (.slice none 0 0) λw12=>dR w12 (zB w1) λx1 x2 x3 x4 x5 x6 x7 x8=>R (.tuple #[.agg #[zb x1,zi x2,zi x3,.bool x4,zu x5,zu x6,zi x7,x8.zw],zi 102]) w12) (ldI w4 ((zB w).add 2) .i64 λx9=>ifB (decide (x9>(16:Int))) (dx w4 (zB w1) (zb 0) (zi 0) (zi 0) (.bool false) (zu 0) (zu 0) (zi 0) (.slice none 0 0) λw20=>dR w20 (zB w1) λx10 x11 x12 x13 x14 x15 x16 x17=>R (.tuple #[.agg #[zb x10,zi x11,zi x12,.bool x13,zu x14,zu x15,zi x16,x17.zw],zi 4]) w20) (dR w4 (zB w) λx18 x19 x20 x21 x22 x23 x24 x25=>dx w4 (zB w1) (zb x18) (zi x19) (zi x20) (.bool x21) (zu x22) (zu x23) (zi x24) (x25.zw) λw28=>dR w28 (zB w1) λx26 x27 x28 x29 x30 x31 x32 x33=>R (.tuple #[.agg #[zb x26,zi x27,zi x28,.bool x29,zu x30,zu x31,zi x32,x33.zw],zi 0]) w28))
theorem ziX(p0)(p1)(p2)(R)(w)(h:zgW p0 p1 p2 R w):Calls Tryz.prog 129 #[.agg #[.int .u8 p0.1,.int .i64 p0.2.1,.int .i64 p0.2.2.1,.bool p0.2.2.2.1,.int .u32 p0.2.2.2.2.1,.int .u32 p0.2.2.2.2.2.1,.int .i64 p0.2.2.2.2.2.2.1,.slice p0.2.2.2.2.2.2.2.1.a p0.2.2.2.2.2.2.2.1.l p0.2.2.2.2.2.2.2.1.c],.int .i64 p1,.int .i64 p2] w (Ret R):=lwC zhe Tryz.func129 (by kernel_rfl) (by kernel_rfl) h
end Go.Proofs
namespace Go.Proofs
open Go.Gk Go.RowKit Go.Gm
abbrev Tv:=Int×Int×Int×Bool×Int×Int×Int×Sl×Unit
abbrev tyV(v:Tv):List Value:=[.int .u8 v.1,.int .i64 v.2.1,.int .i64 v.2.2.1,.bool v.2.2.2.1,.int .u32 v.2.2.2.2.1,.int .u32 v.2.2.2.2.2.1,.int .i64 v.2.2.2.2.2.2.1,.slice v.2.2.2.2.2.2.2.1.a v.2.2.2.2.2.2.2.1.l v.2.2.2.2.2.2.2.1.c]
abbrev tyA(v:Tv):Value:=.agg #[.int .u8 v.1,.int .i64 v.2.1,.int .i64 v.2.2.1,.bool v.2.2.2.1,.int .u32 v.2.2.2.2.1,.int .u32 v.2.2.2.2.2.1,.int .i64 v.2.2.2.2.2.2.1,.slice v.2.2.2.2.2.2.2.1.a v.2.2.2.2.2.2.2.1.l v.2.2.2.2.2.2.2.1.c]
abbrev tyK:List BK:=[(.int .u8),(.int .i64),(.int .i64),.bool,(.int .u32),(.int .u32),(.int .i64),.slice]
def tv0:Tv:=(0,0,0,false,0,0,0,⟨none,0,0⟩,())
abbrev ty0:Array Value:=#[(.int .u8 (0:Int)),(.int .i64 (0:Int)),(.int .i64 (0:Int)),(.bool false),(.int .u32 (0:Int)),(.int .u32 (0:Int)),(.int .i64 (0:Int)),(.slice none 0 0)]
inductive Al2 {α β:Type} (R:α->β->Prop):List α->List β->Prop
 |nil:Al2 R [] []
 |cons {a:α} {c:β} {l:List α} {m:List β} (h:R a c) (t:Al2 R l m):Al2 R (a::l) (c::m)
theorem boxT{T:TypeId}{cs:Array Value}{v0 v1 v2 v3 v4 v5 v6 v7:Value}{K:World->Prop}{w:World}(hl:cs.size=8)(hK:∀w',Blk w' w.heap.size T [v0,v1,v2,v3,v4,v5,v6,v7]->Below w.heap.size w w'->w'.heap.size=w.heap.size+1->K w') :
  Nw (w.alloc (.cells cs T)) λw0=>Wr w0 (blk w.heap.size)/\Nw (w0.setCell (blk w.heap.size) v0) λw1=>Wr w1 ((blk w.heap.size).add 1)/\Nw (w1.setCell ((blk w.heap.size).add 1) v1) λw2=>Wr w2 ((blk w.heap.size).add 2)/\Nw (w2.setCell ((blk w.heap.size).add 2) v2) λw3=>Wr w3 ((blk w.heap.size).add 3)/\Nw (w3.setCell ((blk w.heap.size).add 3) v3) λw4=>
   Wr w4 ((blk w.heap.size).add 4)/\Nw (w4.setCell ((blk w.heap.size).add 4) v4) λw5=>Wr w5 ((blk w.heap.size).add 5)/\Nw (w5.setCell ((blk w.heap.size).add 5) v5) λw6=>Wr w6 ((blk w.heap.size).add 6)/\Nw (w6.setCell ((blk w.heap.size).add 6) v6) λw7=>Wr w7 ((blk w.heap.size).add 7)/\Nw (w7.setCell ((blk w.heap.size).add 7) v7) λw8=>K w8:=
 zfL (vs:=[v0,v1,v2,v3,v4,v5,v6,v7]) hl hK
section
variable {w w':World} {R:VWP} {B tb r b:Nat} {v:Tv} {t:Tp} {T:TyL} {id:Int}
theorem Tv.load{Ty:TypeId}(h:Blk w b Ty (tyV v)){φ:Int->Int->Int->Bool->Int->Int->Int->Sl->Prop}(hφ:φ v.1 v.2.1 v.2.2.1 v.2.2.2.1 v.2.2.2.2.1 v.2.2.2.2.2.1 v.2.2.2.2.2.2.1 v.2.2.2.2.2.2.2.1) :
  ldI w ((blk b).add 0) .u8 λx1=>ldI w ((blk b).add 1) .i64 λx2=>ldI w ((blk b).add 2) .i64 λx3=>ldB w ((blk b).add 3) λx4=>ldI w ((blk b).add 4) .u32 λx5=>ldI w ((blk b).add 5) .u32 λx6=>ldI w ((blk b).add 6) .i64 λx7=>ldS w ((blk b).add 7) λx8=>φ x1 x2 x3 x4 x5 x6 x7 x8:=
 ⟨_,h.cell (n:=0) rfl,_,h.cell (n:=1) rfl,_,h.cell (n:=2) rfl,_,h.cell (n:=3) rfl,_,h.cell (n:=4) rfl,_,h.cell (n:=5) rfl,_,h.cell (n:=6) rfl,_,h.cell (n:=7) rfl,hφ⟩
structure TvOk (B:Nat) (w:World) (v:Tv) (t:Tp):Prop where
 kind:v.1=t.kind
 size:v.2.1=(t.size:Int)
 depth:v.2.2.1=(t.depth:Int)
 sg:v.2.2.2.1=t.sg
 cls:v.2.2.2.2.1=t.cls
 part:v.2.2.2.2.2.1=t.part
 times:v.2.2.2.2.2.2.1=(t.times:Int)
 ps:IsS (Value.int .u32) w v.2.2.2.2.2.2.2.1 t.ps
 fr:zM B v.2.2.2.2.2.2.2.1
theorem nilS{α:Type}(f:α->Value)(w:World):IsS f w ⟨none,0,0⟩ []:=(Own.nil w 22 1:Own w 22 1 ⟨none,0,0⟩ (([]:List α).map f)).isS
theorem zlg(B:Nat):zM B ⟨none,0,0⟩:=λa ha=>by cases ha
theorem TvOk.zero(B:Nat)(w:World):TvOk B w tv0 tp0:=⟨rfl,rfl,rfl,rfl,rfl,rfl,rfl,nilS _ w,zlg B⟩
theorem TvOk.keep(h:TvOk B w v t)(hb:∀k,B<=k->k<w.heap.size->w'.heap[k]? =w.heap[k]?):TvOk B w' v t:=
 ⟨h.kind,h.size,h.depth,h.sg,h.cls,h.part,h.times,h.ps.of_block λa ha hlt=>hb _ (h.fr a ha) hlt,h.fr⟩
theorem TvOk.below(h:TvOk B w v t)(hb:Below w.heap.size w w'):TvOk B w' v t:=h.keep λk _ h2=>hb.block k h2
theorem TvOk.mono{B':Nat}(h:TvOk B w v t)(hB:B'<=B):TvOk B' w v t:=⟨h.kind,h.size,h.depth,h.sg,h.cls,h.part,h.times,h.ps,λa ha=>Nat.le_trans hB (h.fr a ha)⟩
abbrev TyR(B:Nat)(w:World)(a:Int×Tv)(c:Int×Tp):Prop:=a.1=c.1/\TvOk B w a.2 c.2
structure IsTy (w:World) (B r:Nat) (T:TyL):Prop where
 ex:∃V:List (Int×Tv),IsMq w r (aggQ tyK) V/\Al2 (TyR B w) V T
 lo:B<=r
theorem zqL{α β:Type}{R:α->β->Prop}{id:Int}:∀{V:List (Int×α)} {T:List (Int×β)},Al2 (λa c=>a.1=c.1/\R a.2 c.2) V T->(zD V id=none/\zD T id=none)\/∃v t,zD V id=some v/\zD T id=some t/\R v t
 | [],[],_=>.inl ⟨rfl,rfl⟩
 |a::V,c::T,.cons h1 h2=>by
  simp only[zD]
  by_cases e:id=a.1
  ·rw[if_pos e,if_pos (e.trans h1.1)]
   exact .inr ⟨_,_,rfl,rfl,h1.2⟩
  ·rw[if_neg e,if_neg (λq=>e (q.trans h1.1.symm))]
   exact zqL h2
theorem setR{α β:Type}{R:α->β->Prop}{id:Int}{v:α}{t:β}(hv:R v t):∀{V:List (Int×α)} {T:List (Int×β)},Al2 (λa c=>a.1=c.1/\R a.2 c.2) V T->Al2 (λa c=>a.1=c.1/\R a.2 c.2) (setQ V id v) (setQ T id t)
 | [],[],_=>.cons ⟨rfl,hv⟩ .nil
 |a::V,c::T,.cons h1 h2=>by
  simp only[setQ]
  by_cases e:id=a.1
  ·rw[if_pos e,if_pos (e.trans h1.1)]
   exact .cons ⟨rfl,hv⟩ h2
  ·rw[if_neg e,if_neg (λq=>e (q.trans h1.1.symm))]
   exact .cons h1 (setR hv h2)
theorem allR{α β:Type}{R S:α->β->Prop}(h:∀a c,R a c->S a c):∀{V:List α} {T:List β},Al2 R V T->Al2 S V T
 | [],[],_=>.nil
 |_::_,_::_,.cons h1 h2=>.cons (h _ _ h1) (allR h h2)
theorem IsTy.keep(h:IsTy w B r T)(hb:∀k,B<=k->k<w.heap.size->w'.heap[k]? =w.heap[k]?):IsTy w' B r T:=by
 obtain⟨⟨V,h1,h2⟩,h3⟩:=h
 exact⟨⟨V,h1.of_block (hb r h3 h1.lt),allR (λa c q=>⟨q.1,q.2.keep hb⟩) h2⟩,h3⟩
theorem uTy:Tryz.prog.underlying 134=some (.map 22 144):=by kernel_rfl
theorem zTy:∃i,Tryz.prog.info? 144=some i/\i.zero=some (aggQ tyK tv0):=by
 have h:(Tryz.prog.info? 144).map (·.zero)=some (some (aggQ tyK tv0)):=by kernel_rfl
 cases hi:Tryz.prog.info? 144 with
 |none=>rw[hi]at h;cases h
 |some i=>rw[hi]at h;exact⟨i,rfl,by injection h⟩
theorem IsTy.look(h:IsTy w B r T)(hb:Below w.heap.size w w'){φ:HL tyK->Prop}(hφ:∀v,TvOk B w v (tA T id)->φ v):za2 Tryz.prog 134 (.map (some r)) (.int .u32 id) tyK w' φ:=by
 obtain⟨⟨V,h1,h2⟩,h3⟩:=h
 have key:TvOk B w ((zD (α:=Tv) V id).getD tv0) (tA T id):=by
  unfold tA
  rcases zqL h2 (id:=id) with⟨e1,e2⟩ | ⟨v,t,e1,e2,e3⟩
  ·rw[e1,e2]
   exact TvOk.zero B w
  ·rw[e1,e2]
   exact e3
 exact zmo (ks:=tyK) (d:=tv0) uTy Tryz.underlying22 zTy (h1.below hb) (hφ _ key)
structure IsTb (w:World) (B tb:Nat) (T:TyL):Prop where
 ex:∃(r:Nat) (o:Sl),Blk w tb 136 [.map (some r),.slice o.a o.l o.c]/\IsTy w B r T
 lo:B<=tb
theorem IsTb.keep(h:IsTb w B tb T)(hb:∀k,B<=k->k<w.heap.size->w'.heap[k]? =w.heap[k]?):IsTb w' B tb T:=by
 obtain⟨⟨r,o,h1,h2⟩,h3⟩:=h
 exact⟨⟨r,o,h1.of_block (hb tb h3 h1.lt),h2.keep hb⟩,h3⟩
theorem IsTb.below(h:IsTb w B tb T)(hb:Below w.heap.size w w'):IsTb w' B tb T:=h.keep λk _ h2=>hb.block k h2
theorem zhD(h:IsTb w B tb T)(hR:R (.bool (decide (0<(tA T id).size))) w):cR 97 #[.pointer (some (blk tb)),.int .u32 id] w R:=by
 refine za.of (ze2 _ id R w ?_) λ_ _ h=>h
 obtain⟨⟨r,o,h1,h2⟩,h3⟩:=h
 refine ze rfl ⟨some r,h1.cell0 rfl,h2.look (Below.refl _ _) λv hv=>?_⟩
 have:decide (v.2.1>(0:Int))=decide (0<(tA T id).size):=by
  rw[hv.size]
  exact decide_eq_decide.2 (by omega)
 rw[this]
 exact hR
theorem ze8(h:IsTb w B tb T)(hR:∀w' v,TvOk B w' v (tA T id)->Below w.heap.size w w'->R (tyA v) w'):cR 80 #[.pointer (some (blk tb)),.int .u32 id] w R:=by
 refine za.of (zgx _ id R w ?_) λ_ _ h=>h
 refine zk λw1 hD1 b1 z1=>zK rfl ?_
 have hD1:Blk w1 w.heap.size 144 ty0.toList:=hD1
 obtain⟨⟨r,o,h1,hT⟩,h3⟩:=h
 refine ze rfl ⟨some r,(h1.below b1).cell0 rfl,hT.look b1 λv hv=>?_⟩
 refine st8 hD1 rfl λw2 h2 c2=>?_
 have b2:=c2.below b1 (Nat.le_refl _)
 exact Tv.load h2 (hR w2 v (hv.below b2) b2)
theorem zkB{K:World->Prop}(hK:∀w',Blk w' w.heap.size 144 (tyV v)->Below w.heap.size w w'->w'.heap.size=w.heap.size+1->K w') :
  Nw (w.alloc (.cells ty0 144)) λw0=>Wr w0 (blk w.heap.size)/\Nw (w0.setCell (blk w.heap.size) (.int .u8 v.1)) λw1=>Wr w1 ((blk w.heap.size).add 1)/\Nw (w1.setCell ((blk w.heap.size).add 1) (.int .i64 v.2.1)) λw2=>Wr w2 ((blk w.heap.size).add 2)/\Nw (w2.setCell ((blk w.heap.size).add 2) (.int .i64 v.2.2.1)) λw3=>
   Wr w3 ((blk w.heap.size).add 3)/\Nw (w3.setCell ((blk w.heap.size).add 3) (.bool v.2.2.2.1)) λw4=>Wr w4 ((blk w.heap.size).add 4)/\Nw (w4.setCell ((blk w.heap.size).add 4) (.int .u32 v.2.2.2.2.1)) λw5=>Wr w5 ((blk w.heap.size).add 5)/\Nw (w5.setCell ((blk w.heap.size).add 5) (.int .u32 v.2.2.2.2.2.1)) λw6=>
   Wr w6 ((blk w.heap.size).add 6)/\Nw (w6.setCell ((blk w.heap.size).add 6) (.int .i64 v.2.2.2.2.2.2.1)) λw7=>Wr w7 ((blk w.heap.size).add 7)/\Nw (w7.setCell ((blk w.heap.size).add 7) (.slice v.2.2.2.2.2.2.2.1.a v.2.2.2.2.2.2.2.1.l v.2.2.2.2.2.2.2.1.c)) λw8=>K w8:=
 boxT rfl hK
theorem zd2(h:IsTb w B tb T)(hR:∀w',Below w.heap.size w w'->R (.int .u8 (tA T id).kind) w'):cR 113 #[.pointer (some (blk tb)),.int .u32 id] w R:=by
 refine za.of (zeU _ id R w ?_) λ_ _ h=>h
 refine ze8 h λw1 v hv b1=>⟨v,rfl,?_⟩
 have:=hR w1 b1
 rwa[<-hv.kind]at this
theorem zgv(h:IsTb w B tb T)(hR:∀w',Below w.heap.size w w'->R (.int .i64 ((tA T id).size:Int)) w'):cR 46 #[.pointer (some (blk tb)),.int .u32 id] w R:=by
 refine za.of (zeW _ id R w ?_) λ_ _ h=>h
 refine ze8 h λw1 v hv b1=>⟨v,rfl,?_⟩
 have:=hR w1 b1
 rwa[<-hv.size]at this
theorem zlG(h:IsTb w B tb T)(hR:∀w',Below w.heap.size w w'->R (.bool (tA T id).sg) w'):cR 91 #[.pointer (some (blk tb)),.int .u32 id] w R:=by
 refine za.of (zdG _ id R w ?_) λ_ _ h=>h
 refine ze8 h λw1 v hv b1=>⟨v,rfl,?_⟩
 have:=hR w1 b1
 rwa[<-hv.sg]at this
theorem znz(h:IsTb w B tb T)(hR:∀w',Below w.heap.size w w'->R (.bool (decide (0<(tA T id).size))) w'):cR 102 #[.pointer (some (blk tb)),.int .u32 id] w R:=by
 refine za.of (ze1 _ id R w ?_) λ_ _ h=>h
 refine ze8 h λw1 v hv b1=>⟨v,rfl,?_⟩
 have:=hR w1 b1
 have e:decide (v.2.1>(0:Int))=decide (0<(tA T id).size):=by
  rw[hv.size]
  exact decide_eq_decide.2 (by omega)
 rwa[<-e]at this
theorem znx(h:IsTb w B tb T)(hR:∀w',Below w.heap.size w w'->R (.tuple #[.int .u32 (tA T id).cls,.bool ((tA T id).kind==7)]) w'):cR 107 #[.pointer (some (blk tb)),.int .u32 id] w R:=by
 refine za.of (zez _ id R w ?_) λ_ _ h=>h
 refine ze8 h λw1 v hv b1=>⟨v,rfl,?_⟩
 refine zkB λw2 h2 b2 z2=>h2.drew.rI (n:=4) rfl (h2.drew.rI0 rfl ?_)
 have:=hR w2.drew (b1.on b2).drew
 rwa[<-hv.cls,<-hv.kind]at this
theorem ztL{T:TyL}(hT:TbOk T)(id:Int):(tA T id).times<=4096/\(0<(tA T id).times->(tA T id).ps=[]):=by
 by_cases hs:(tA T id).kind=0
 ·unfold tA at hs⊢
  cases hl:zD T id with
  |none=>exact⟨Nat.zero_le _,λq=>absurd q (by decide)⟩
  |some t=>
   rw[hl]at hs
   have:=(hT id t hl).kd
   have hs:t.kind=0:=hs
   omega
 ·have h:=zoX hT hs
  by_cases e:(tA T id).kind=4\/(tA T id).kind=5
  ·exact⟨(h.many e).2.1,λ_=>(h.many e).2.2⟩
  ·have:=(h.few e).1
   exact⟨by omega,λq=>by omega⟩
theorem zny(h:IsTb w B tb T)(hT:TbOk T)(hR:∀w',Below w.heap.size w w'->R (.int .i64 ((tA T id).cnt:Int)) w'):cR 104 #[.pointer (some (blk tb)),.int .u32 id] w R:=by
 refine za.of (ze0 _ id R w ?_) λ_ _ h=>h
 refine ze8 h λw1 v hv b1=>⟨v,rfl,?_⟩
 refine zkB λw2 h2 b2 z2=>h2.rI (n:=6) rfl (h2.rS (n:=7) rfl ?_)
 obtain⟨t1,t2⟩:=ztL hT id
 have hl:=hv.ps.len
 have hb:=hv.ps.bound
 have e:IntKind.i64.wrap (v.2.2.2.2.2.2.1+(v.2.2.2.2.2.2.2.1.l:Int))=((tA T id).cnt:Int):=by
  rw[hv.times,hl]
  unfold Tp.cnt
  by_cases q:0<(tA T id).times
  ·rw[t2 q]
   show IntKind.i64.wrap (((tA T id).times:Int)+((0:Nat):Int))=_
   rw[zq (by omega) (by omega)]
   rfl
  ·have:(tA T id).times=0:=by omega
   rw[this,zq (by omega) (by omega)]
   omega
 rw[e]
 exact hR w2 (b1.on b2)
theorem zgu{k:Int}(h:IsTb w B tb T)(hT:TbOk T)(hR:∀w',Below w.heap.size w w'->R (.tuple #[.int .u32 ((tA T id).prt k).1,.bool ((tA T id).prt k).2]) w'):cR 105 #[.pointer (some (blk tb)),.int .u32 id,.int .i64 k] w R:=by
 refine za.of (zeV _ id k R w ?_) λ_ _ h=>h
 refine ze8 h λw1 v hv b1=>⟨v,rfl,?_⟩
 refine zkB λw2 h2 b2 z2=>?_
 have hR:=hR w2 (b1.on b2)
 obtain⟨t1,t2⟩:=ztL hT id
 have hl:=hv.ps.len
 have hb:=hv.ps.bound
 have e:IntKind.i64.wrap (v.2.2.2.2.2.2.1+(v.2.2.2.2.2.2.2.1.l:Int))=((tA T id).cnt:Int):=by
  rw[hv.times,hl]
  unfold Tp.cnt
  by_cases q:0<(tA T id).times
  ·rw[t2 q]
   show IntKind.i64.wrap (((tA T id).times:Int)+((0:Nat):Int))=_
   rw[zq (by omega) (by omega)]
   rfl
  ·have:(tA T id).times=0:=by omega
   rw[this,zq (by omega) (by omega)]
   omega
 unfold Tp.prt at hR
 refine zo.cut (λ(_:Unit) w'=>w'=w2/\0<=k/\k<((tA T id).cnt:Int)/\¬0<(tA T id).times) ?_ ?_
 ·refine zj (λg=>?_) (λg=>?_)
  ·rw[if_pos (.inl g)]at hR
   exact hR
  refine h2.rI (n:=6) rfl (h2.rS (n:=7) rfl ?_)
  rw[e]
  refine zj (λg2=>?_) (λg2=>?_)
  ·rw[if_pos (.inr g2)]at hR
   exact hR
  rw[if_neg (by omega)]at hR
  refine h2.rI (n:=6) rfl (zj (λg3=>?_) (λg3=>⟨rfl,by omega,by omega,λq=>g3 (by rw[hv.times];omega)⟩))
  rw[hv.times]at g3
  rw[if_pos (by omega)]at hR
  refine h2.rI (n:=5) rfl ?_
  rw[hv.part]
  exact hR
 ·rintro _ w3 ⟨rfl,g1,g2,g3⟩
  rw[if_neg (by omega),if_neg g3]at hR
  have hcl:(tA T id).cnt=(tA T id).ps.length:=by unfold Tp.cnt;omega
  obtain⟨j,rfl⟩:=Int.eq_ofNat_of_zero_le g1
  have hj:j<(tA T id).ps.length:=by omega
  refine h2.rS (n:=7) rfl (zax (hv.ps.below b2) hj ?_)
  rw[Int.toNat_natCast,zp hj]at hR
  exact hR
end
end Go.Proofs
namespace Go.Proofs
open Go.Gk Go.RowKit Go.Gm
section
variable {w w':World} {R:VWP} {B B' tb r b:Nat} {v:Tv} {t:Tp} {T:TyL} {id:Int} {pl:List PI} {k:Nat}
theorem outT{w1:World}{cs:List Value}{e:Int}(hD:Blk w1 b 144 cs)(hl:cs.length=8)(hb:w.heap.size<=b)(h01:Below w.heap.size w w1)(hR:∀w',Below w.heap.size w w'->R (.tuple #[tyA v,.int .i64 e]) w') :
  Wr w1 (blk b)/\Nw (w1.setCell (blk b) (.int .u8 v.1)) λw2=>Wr w2 ((blk b).add 1)/\Nw (w2.setCell ((blk b).add 1) (.int .i64 v.2.1)) λw3=>Wr w3 ((blk b).add 2)/\Nw (w3.setCell ((blk b).add 2) (.int .i64 v.2.2.1)) λw4=>Wr w4 ((blk b).add 3)/\Nw (w4.setCell ((blk b).add 3) (.bool v.2.2.2.1)) λw5=>
   Wr w5 ((blk b).add 4)/\Nw (w5.setCell ((blk b).add 4) (.int .u32 v.2.2.2.2.1)) λw6=>Wr w6 ((blk b).add 5)/\Nw (w6.setCell ((blk b).add 5) (.int .u32 v.2.2.2.2.2.1)) λw7=>Wr w7 ((blk b).add 6)/\Nw (w7.setCell ((blk b).add 6) (.int .i64 v.2.2.2.2.2.2.1)) λw8=>Wr w8 ((blk b).add 7)/\Nw (w8.setCell ((blk b).add 7) (.slice v.2.2.2.2.2.2.2.1.a v.2.2.2.2.2.2.2.1.l v.2.2.2.2.2.2.2.1.c)) λw9=>
   ldI w9 ((blk b).add 0) .u8 λx1=>ldI w9 ((blk b).add 1) .i64 λx2=>ldI w9 ((blk b).add 2) .i64 λx3=>ldB w9 ((blk b).add 3) λx4=>ldI w9 ((blk b).add 4) .u32 λx5=>ldI w9 ((blk b).add 5) .u32 λx6=>ldI w9 ((blk b).add 6) .i64 λx7=>ldS w9 ((blk b).add 7) λx8=>
   R (.tuple #[.agg #[.int .u8 x1,.int .i64 x2,.int .i64 x3,.bool x4,.int .u32 x5,.int .u32 x6,.int .i64 x7,.slice x8.a x8.l x8.c],.int .i64 e]) w9:=
 st8 hD hl λw2 h2 c2=>Tv.load (v:=v) h2 (hR w2 (c2.below h01 hb))
def whV(v:Tv)(s d:Nat):Tv:=if 4096<s then tv0 else if 16<d+1 then tv0 else(v.1,(s:Int),((d+1:Nat):Int),v.2.2.2)
theorem zvN{s d:Nat}(h:4096<s):whV v s d=tv0/\whT t s d=(tp0,102):=⟨if_pos h,if_pos h⟩
theorem zve{s d:Nat}(h:¬4096<s)(h2:16<d+1):whV v s d=tv0/\whT t s d=(tp0,4):=⟨(if_neg h).trans (if_pos h2),(if_neg h).trans (if_pos h2)⟩
theorem zvf{s d:Nat}(h:¬4096<s)(h2:¬16<d+1):whV v s d=(v.1,(s:Int),((d+1:Nat):Int),v.2.2.2)/\whT t s d=({t with size:=s,depth:=d+1},0):=⟨(if_neg h).trans (if_neg h2),(if_neg h).trans (if_neg h2)⟩
theorem zqg{s d:Nat}(h:TvOk B w v t):TvOk B w (whV v s d) (whT t s d).1:=by
 unfold whV whT
 by_cases h1:4096<s
 ·rw[if_pos h1,if_pos h1]
  exact TvOk.zero B w
 rw[if_neg h1,if_neg h1]
 by_cases h2:16<d+1
 ·rw[if_pos h2,if_pos h2]
  exact TvOk.zero B w
 rw[if_neg h2,if_neg h2]
 exact⟨h.kind,rfl,rfl,h.sg,h.cls,h.part,h.times,h.ps,h.fr⟩
def SlOf(v:Tv)(s:Sl):Prop:=v.2.2.2.2.2.2.2.1=s\/v.2.2.2.2.2.2.2.1=⟨none,0,0⟩
theorem zqh(v:Tv)(s d:Nat):SlOf (whV v s d) v.2.2.2.2.2.2.2.1:=by
 unfold whV
 split
 ·exact .inr rfl
 split
 ·exact .inr rfl
 exact .inl rfl
theorem TvOk.moved(h:TvOk B w v t)(hb:∀a,v.2.2.2.2.2.2.2.1.a=some a->w'.heap[a.block]? =w.heap[a.block]?):TvOk B w' v t:=
 ⟨h.kind,h.size,h.depth,h.sg,h.cls,h.part,h.times,h.ps.of_block λa ha _=>hb a ha,h.fr⟩
theorem zeS{s d:Nat}(hd:d<=4294967295)(hR:∀w',Below w.heap.size w w'->R (.tuple #[tyA (whV v s d),.int .i64 (whT t s d).2]) w'):cR 129 #[tyA v,.int .i64 (s:Int),.int .i64 (d:Int)] w R:=by
 refine za.of (ziX v (s:Int) (d:Int) R w ?_) λ_ _ h=>h
 refine zk λw1 hX1 b1 z1=>?_
 have hX1:Blk w1 w.heap.size 144 (tyV v):=hX1
 refine zk λw2 hD2 b2 z2=>?_
 have hD2:Blk w2 w1.heap.size 144 ty0.toList:=hD2
 have hX2:=hX1.below b2
 have e1:IntKind.i64.wrap ((d:Int)+1)=((d+1:Nat):Int):=zE (by omega)
 rw[e1]
 refine⟨hX2.wr (n:=1) (by show 1<8;decide),Nw.gen λw3 e3=>?_⟩
 have c3:Chg w.heap.size w2 w3:=by rw[e3];exact Chg.set _ _ _ _
 have hX3:Blk w3 w.heap.size 144 (tyV (v.1,(s:Int),v.2.2)):=by rw[e3];exact hX2.set 1 _
 refine⟨hX3.wr (n:=2) (by show 2<8;decide),Nw.gen λw4 e4=>?_⟩
 have c4:Chg w.heap.size w3 w4:=by rw[e4];exact Chg.set _ _ _ _
 have hX4:Blk w4 w.heap.size 144 (tyV (v.1,(s:Int),((d+1:Nat):Int),v.2.2.2)):=by rw[e4];exact hX3.set 2 _
 have hD4:=c4.blk (c3.blk hD2 (by omega)) (by omega)
 have b4:Below w.heap.size w w4:=c4.below (c3.below (b1.on b2) (Nat.le_refl _)) (Nat.le_refl _)
 refine zj (λg=>?_) (λg=>hX4.rI (n:=2) (x:=((d+1:Nat):Int)) rfl (zj (λg2=>?_) (λg2=>Tv.load hX4 ?_)))
 ·obtain⟨q1,q2⟩:=zvN (v:=v) (t:=t) (s:=s) (d:=d) (by omega)
  rw[q1,q2]at hR
  exact outT (v:=tv0) hD4 rfl (by omega) b4 hR
 ·obtain⟨q1,q2⟩:=zve (v:=v) (t:=t) (s:=s) (d:=d) (by omega) (by omega)
  rw[q1,q2]at hR
  exact outT (v:=tv0) hD4 rfl (by omega) b4 hR
 ·obtain⟨q1,q2⟩:=zvf (v:=v) (t:=t) (s:=s) (d:=d) (by omega) (by omega)
  rw[q1,q2]at hR
  exact outT (v:=(v.1,(s:Int),((d+1:Nat):Int),v.2.2.2)) hD4 rfl (by omega) b4 hR
theorem ziV(hT:TbOk T)(id:Int):(tA T id).depth<=16/\(tA T id).size<=4096:=by
 by_cases hs:(tA T id).kind=0
 ·unfold tA at hs⊢
  cases hl:zD T id with
  |none=>exact⟨Nat.zero_le _,Nat.zero_le _⟩
  |some t=>
   rw[hl]at hs
   have:=(hT id t hl).kd
   have hs:t.kind=0:=hs
   omega
 ·have h:=(zoX hT hs).max
  exact⟨h.2,h.1⟩
theorem zlH{part n:Int}(h:IsTb w B tb T)(hT:TbOk T)(hn:0<=n/\n<=4294967295)(hR:∀w' v,TvOk B' w v (vecT T part n).1->SlOf v ⟨none,0,0⟩->Below w.heap.size w w'->R (.tuple #[tyA v,.int .i64 (vecT T part n).2]) w') :
  cR 94 #[.pointer (some (blk tb)),.int .u32 part,.int .u32 n] w R:=by
 refine za.of (zdH _ part n R w ?_) λ_ _ h=>h
 refine zk λw1 hD1 b1 z1=>?_
 have hD1:Blk w1 w.heap.size 144 ty0.toList:=hD1
 obtain⟨⟨r,o,h1,hTy⟩,h3⟩:=h
 refine ze rfl ⟨some r,(h1.below b1).cell0 rfl,hTy.look b1 λv hv=>?_⟩
 refine zkB λw2 h2 b2 z2=>?_
 have hD2:=hD1.below b2
 have b02:=b1.on b2
 have hd:=(ziV hT part).1
 unfold vecT at hR
 have out100:((tA T part).kind≠2/\(tA T part).kind≠3)->∀w',Below w.heap.size w w'->R (.tuple #[tyA tv0,.int .i64 100]) w':=λg w' hb=>by
  have:=hR w' tv0 (by rw[if_pos g];exact TvOk.zero B' w) (.inr rfl) hb
  rwa[if_pos g]at this
 have out102:¬((tA T part).kind≠2/\(tA T part).kind≠3)->(n<2\/4<n)->∀w',Below w.heap.size w w'->R (.tuple #[tyA tv0,.int .i64 102]) w':=λg g2 w' hb=>by
  have:=hR w' tv0 (by rw[if_neg g,if_pos g2];exact TvOk.zero B' w) (.inr rfl) hb
  rwa[if_neg g,if_pos g2]at this
 refine zo.cut (λ(_:Unit) w'=>w'=w2/\¬((tA T part).kind≠2/\(tA T part).kind≠3)/\2<=n/\n<=4) ?_ ?_
 ·have two:¬((tA T part).kind≠2/\(tA T part).kind≠3)->ifB (decide (n<2)) (Wr w2 (blk w.heap.size)/\_) (ifB (decide (n>4)) _ (w2=w2/\¬((tA T part).kind≠2/\(tA T part).kind≠3)/\2<=n/\n<=4)):=λg=>
   zj (λg2=>outT (v:=tv0) hD2 rfl (Nat.le_refl _) b02 (out102 g (.inl g2))) (λg2=>zj (λg3=>outT (v:=tv0) hD2 rfl (Nat.le_refl _) b02 (out102 g (.inr g3))) (λg3=>⟨rfl,g,by omega,by omega⟩))
  refine h2.rI0 (x:=v.1) rfl (zC (λe1=>h2.rI0 (x:=v.1) rfl (zC (λe2=>?_) (λe2=>?_))) (λe1=>?_))
  ·rw[hv.kind]at e1 e2
   exact outT (v:=tv0) hD2 rfl (Nat.le_refl _) b02 (out100 ⟨e1,e2⟩)
  ·rw[hv.kind]at e2
   exact two λq=>q.2 e2
  ·rw[hv.kind]at e1
   exact two λq=>q.1 e1
 ·rintro _ w3 ⟨rfl,g,g2,g3⟩
  refine h2.rI (n:=2) (x:=v.2.2.1) rfl ?_
  obtain⟨m,rfl⟩:=Int.eq_ofNat_of_zero_le hn.1
  have ew:IntKind.i64.wrap (m:Int)=(m:Int):=zq (by omega) (by omega)
  rw[ew,hv.depth]
  have hv4:TvOk B' w (4,0,0,false,0,part,(m:Int),⟨none,0,0⟩,()) {tp0 with kind:=4,part:=part,times:=m}:=⟨rfl,rfl,rfl,rfl,rfl,rfl,rfl,nilS _ w,zlg B'⟩
  refine zeS (t:={tp0 with kind:=4,part:=part,times:=m}) (v:=(4,0,0,false,0,part,(m:Int),⟨none,0,0⟩,())) (s:=m) (d:=(tA T part).depth) (by omega) λw4 b4=>⟨_,_,rfl,?_⟩
  refine outT (hD2.below b4) rfl (Nat.le_refl _) (b02.on b4) λw5 b5=>?_
  have:=hR w5 _ (by rw[if_neg g,if_neg (by omega)];exact zqg (s:=m) (d:=(tA T part).depth) hv4) (zqh _ _ _) b5
  rwa[if_neg g,if_neg (by omega)]at this
abbrev insK:List BK:=[(.int .u16),(.int .u32),(.int .u32),.slice]
def ins0:Ins:=(0,0,0,⟨none,0,0⟩,())
structure IsMd (w0 w:World) (r:Nat) (pl:List PI) (k:Nat):Prop where
 ex:∃M:List (Int×Ins),IsMq w r (aggQ insK) M/\∀id:Int,id≠0->∃t,(zD M id).getD ins0=mkIn (mdP pl id k) t/\IsAg w0 t (mdP pl id k).2.2.2
 b0:Below w0.heap.size w0 w
theorem IsMd.below{w0:World}(h:IsMd w0 w r pl k)(hb:Below w.heap.size w w'):IsMd w0 w' r pl k:=by
 obtain⟨⟨M,h1,h2⟩,h3⟩:=h
 exact⟨⟨M,h1.below hb,h2⟩,h3.on hb⟩
theorem uMd:Tryz.prog.underlying 137=some (.map 22 44):=by kernel_rfl
theorem zMd:∃i,Tryz.prog.info? 44=some i/\i.zero=some (aggQ insK ins0):=by
 have h:(Tryz.prog.info? 44).map (·.zero)=some (some (aggQ insK ins0)):=by kernel_rfl
 cases hi:Tryz.prog.info? 44 with
 |none=>rw[hi]at h;cases h
 |some i=>rw[hi]at h;exact⟨i,rfl,by injection h⟩
theorem IsMd.look{w0:World}(h:IsMd w0 w r pl k)(hb:Below w.heap.size w w')(h0:id≠0){φ:HL insK->Prop}(hφ:∀t,IsAg w t (mdP pl id k).2.2.2->φ (mkIn (mdP pl id k) t)):za2 Tryz.prog 137 (.map (some r)) (.int .u32 id) insK w' φ:=by
 obtain⟨⟨M,h1,h2⟩,h3⟩:=h
 obtain⟨t,e1,e2⟩:=h2 id h0
 have key:φ ((zD (α:=Ins) M id).getD ins0):=by rw[e1];exact hφ t (IsC.below zF e2 h3)
 exact zmo (ks:=insK) (d:=ins0) uMd Tryz.underlying22 zMd (h1.below hb) key
structure IsMk (w0 w:World) (B kb tb rm rs:Nat) (T:TyL) (pl:List PI) (k:Nat):Prop where
 blk:Blk w kb 140 [.pointer (some (Gk.blk tb)),.map (some rm),.map (some rs)]
 tb:IsTb w B tb T
 md:IsMd w0 w rm pl k
theorem IsMk.below{w0:World}{kb rm rs:Nat}(h:IsMk w0 w B kb tb rm rs T pl k)(hb:Below w.heap.size w w'):IsMk w0 w' B kb tb rm rs T pl k:=⟨h.blk.below hb,h.tb.below hb,h.md.below hb⟩
theorem znw{w0:World}{kb rm rs:Nat}{part len:Int}(h:IsMk w0 w B kb tb rm rs T pl k)(hT:TbOk T)(h0:len≠0)(hc:(mdP pl len k).1=43->0<(mdP pl len k).2.2.2.length/\cN (mdP pl len k)<=4294967295)
  (hR:∀w' v,TvOk B' w v (arrT T (mdP pl len k) part).1->SlOf v ⟨none,0,0⟩->Below w.heap.size w w'->R (.tuple #[tyA v,.int .i64 (arrT T (mdP pl len k) part).2]) w') :
  cR 95 #[.pointer (some (blk kb)),.int .u32 part,.int .u32 len] w R:=by
 refine za.of (ze4 _ part len R w ?_) λ_ _ h=>h
 refine zk λw1 hD1 b1 z1=>?_
 have hD1:Blk w1 w.heap.size 144 ty0.toList:=hD1
 obtain⟨⟨r,o,h1,hTy⟩,h3⟩:=h.tb
 have hk1:=h.blk.below b1
 refine ze rfl ⟨_,hk1.cell0 rfl,ze rfl ⟨some r,(h1.below b1).cell0 rfl,hTy.look b1 λv hv=>?_⟩⟩
 refine zkB λw2 h2 b2 z2=>?_
 have hD2:=hD1.below b2
 have b02:=b1.on b2
 have hd:=ziV hT part
 unfold arrT at hR
 generalize hcc:mdP pl len k=c at hc hR
 have out:∀e,(arrT T c part=(tp0,e))->∀w',Below w.heap.size w w'->R (.tuple #[tyA tv0,.int .i64 e]) w':=λe he w' hb=>by
  unfold arrT at he
  have:=hR w' tv0 (by rw[he];exact TvOk.zero B' w) (.inr rfl) hb
  rwa[he]at this
 refine h2.rI (n:=1) (x:=v.2.1) rfl (zl (λe=>?_) (λe=>?_))
 ·rw[hv.size]at e
  exact outT (v:=tv0) hD2 rfl (Nat.le_refl _) b02 (out 100 (if_pos (by omega)))
 rw[hv.size]at e
 have e0:¬(tA T part).size=0:=by omega
 have hk2:=hk1.below b2
 refine ze rfl ⟨some rm,hk2.cell (n:=1) rfl,h.md.look b02 h0 λt ht=>?_⟩
 rw[hcc]at ht⊢
 refine box4 rfl λw3 hI3 b3 z3=>?_
 have hI3:Blk w3 w2.heap.size 44 (inV (mkIn c t)):=hI3
 have b03:=(b02.on b3).drew
 have hI3d:=hI3.drew
 have hD3:=(hD2.below b3).drew
 have hA3:IsAg w3.drew t c.2.2.2:=IsC.below zF ht b03
 refine zo.cut (λ(_:Unit) w'=>w'=w3.drew/\¬(c.1≠43\/(tA T c.2.1).kind≠3\/cN c<1\/4096<cN c)) ?_ ?_
 ·refine hI3d.rI0 (x:=c.1) rfl (zC (λe1=>?_) (λe1=>?_))
  ·exact outT (v:=tv0) hD3 rfl (Nat.le_refl _) b03 (out 102 (by unfold arrT;rw[if_neg e0,if_pos (.inl e1)]))
  obtain⟨g1,g2⟩:=hc e1
  have hk3:=(hk2.below b3).drew
  refine ze rfl ⟨_,hk3.cell0 rfl,ze rfl ⟨some r,(h1.below b03).cell0 rfl,hI3d.rI (n:=1) (x:=c.2.1) rfl (hTy.look b03 λv2 hv2=>?_)⟩⟩
  refine zC (λe2=>?_) (λe2=>?_)
  ·rw[hv2.kind]at e2
   exact outT (v:=tv0) hD3 rfl (Nat.le_refl _) b03 (out 102 (by unfold arrT;rw[if_neg e0,if_pos (.inr (.inl e2))]))
  rw[hv2.kind]at e2
  have hcn:c.2.2.2[0].2.1=cN c:=by unfold cN;rw[zp g1]
  refine hI3d.rS (n:=3) (x:=t) rfl (zkO hA3 (k:=0) g1 ?_)
  rw[hcn]
  refine zj (λe3=>?_) (λe3=>hI3d.rS (n:=3) (x:=t) rfl (zkO hA3 (k:=0) g1 ?_))
  ·exact outT (v:=tv0) hD3 rfl (Nat.le_refl _) b03 (out 102 (by unfold arrT;rw[if_neg e0,if_pos (.inr (.inr (.inl e3)))]))
  rw[hcn]
  refine zj (λe4=>?_) (λe4=>⟨rfl,by omega⟩)
  exact outT (v:=tv0) hD3 rfl (Nat.le_refl _) b03 (out 102 (by unfold arrT;rw[if_neg e0,if_pos (.inr (.inr (.inr e4)))]))
 ·rintro _ w4 ⟨rfl,g⟩
  obtain⟨g1,g2⟩:=hc (by omega)
  have hcn:c.2.2.2[0].2.1=cN c:=by unfold cN;rw[zp g1]
  refine hI3d.rS (n:=3) (x:=t) rfl (zkO hA3 (k:=0) g1 ?_)
  rw[hcn]
  obtain⟨m,hm⟩:=Int.eq_ofNat_of_zero_le (show 0<=cN c by omega)
  have ew:IntKind.i64.wrap (cN c)=(m:Int):=by rw[hm];exact zq (by omega) (by omega)
  rw[ew]
  have h2d:=(h2.below b3).drew
  refine h2d.rI (n:=1) (x:=v.2.1) rfl (h2d.rI (n:=2) (x:=v.2.2.1) rfl ?_)
  rw[hv.size,hv.depth]
  have hmul:m*(tA T part).size<=4096*4096:=Nat.mul_le_mul (by omega) hd.2
  have ew2:IntKind.i64.wrap ((m:Int)*((tA T part).size:Int))=((m*(tA T part).size:Nat):Int):=by
   rw[<-Int.natCast_mul]
   exact zq (by omega) (by omega)
  rw[ew2]
  have hv4:TvOk B' w (5,0,0,false,0,part,(m:Int),⟨none,0,0⟩,()) {tp0 with kind:=5,part:=part,times:=m}:=⟨rfl,rfl,rfl,rfl,rfl,rfl,rfl,nilS _ w,zlg B'⟩
  refine zeS (t:={tp0 with kind:=5,part:=part,times:=m}) (v:=(5,0,0,false,0,part,(m:Int),⟨none,0,0⟩,())) (s:=m*(tA T part).size) (d:=(tA T part).depth) (by omega) λw5 b5=>⟨_,_,rfl,?_⟩
  refine outT (hD3.below b5) rfl (Nat.le_refl _) (b03.on b5) λw6 b6=>?_
  have em:(cN c).toNat=m:=by omega
  have:=hR w6 _ (by rw[if_neg e0,if_neg g,em];exact zqg (s:=m*(tA T part).size) (d:=(tA T part).depth) hv4) (zqh _ _ _) b6
  rwa[if_neg e0,if_neg g,em]at this
theorem zsa{l:List Int}{j:Nat}(hj:j<l.length):sumT T (l.take (j+1))=sumT T (l.take j)+(tA T l[j]).size:=by
 unfold sumT
 rw[List.take_succ_eq_append_getElem hj,List.map_append,List.sum_append]
 simp
theorem zpw{l:List Int}{j:Nat}(hj:j<l.length):Zi T (l.take (j+1))=Nat.max (Zi T (l.take j)) (tA T l[j]).depth:=by
 unfold Zi
 rw[List.take_succ_eq_append_getElem hj,List.foldl_append]
 rfl
theorem zuZ{l:List Int}(hT:TbOk T):sumT T l<=4096*l.length:=by
 unfold sumT
 induction l with
 |nil=>exact Nat.le_refl _
 |cons a r ih=>
  have:=(ziV hT a).2
  rw[List.map_cons,List.sum_cons,List.length_cons]
  omega
theorem zpv{l:List Int}(hT:TbOk T):Zi T l<=16:=by
 have:∀(l:List Int) (d:Nat),d<=16->l.foldl (λd p=>Nat.max d (tA T p).depth) d<=16:=by
  intro l
  induction l with
  |nil=>intro d h;exact h
  |cons a r ih=>
   intro d h
   exact ih _ (Nat.max_le.2 ⟨h,(ziV hT a).1⟩)
 exact this l 0 (Nat.zero_le _)
theorem zlv{s:Sl}{l:List Int}(h:IsTb w B tb T)(hT:TbOk T)(hs:IsS (Value.int .u32) w s l)(hf:zM B' s)(hR:∀w' v,TvOk B' w v (memT T l).1->SlOf v s->Below w.heap.size w w'->R (.tuple #[tyA v,.int .i64 (memT T l).2]) w') :
  cR 96 #[.pointer (some (blk tb)),.slice s.a s.l s.c] w R:=by
 refine za.of (zdc _ s R w ?_) λ_ _ h=>h
 refine zk λw1 hD1 b1 z1=>?_
 have hD1:Blk w1 w.heap.size 144 ty0.toList:=hD1
 obtain⟨⟨r,o,h1,hTy⟩,h3⟩:=id h
 have hl:=hs.len
 have out:∀e,(memT T l=(tp0,e))->∀w',Below w.heap.size w w'->R (.tuple #[tyA tv0,.int .i64 e]) w':=λe he w' hb=>by
  have:=hR w' tv0 (by rw[he];exact TvOk.zero B' w) (.inr rfl) hb
  rwa[he]at this
 refine zo.cut (λ(_:Unit) w'=>w'=w1/\¬(l.length<1\/256<l.length)) ?_ ?_
 ·refine zj (λg=>?_) (λg=>zj (λg2=>?_) (λg2=>⟨rfl,by omega⟩))
  ·exact outT (v:=tv0) hD1 rfl (Nat.le_refl _) b1 (out 102 (if_pos (by omega)))
  ·exact outT (v:=tv0) hD1 rfl (Nat.le_refl _) b1 (out 102 (if_pos (by omega)))
 rintro _ w2 ⟨rfl,g⟩
 refine zm.ghost (λm (st:Int×Int×Int×Unit) w'=>∃j:Nat,st=((sumT T (l.take j):Int),(Zi T (l.take j):Int),(j:Int),())/\j<=l.length/\m=l.length-j/\w'=w2/\∀i (hi:i<l.length),i<j->(tA T l[i]).size≠0) l.length ⟨0,rfl,Nat.zero_le _,rfl,rfl,λi _ h=>by omega⟩ ?_
 rintro _ _ _ ⟨j,rfl,hj,rfl,rfl,hall⟩ next hnext
 have hs1:=hs.below b1
 refine zj (λg2=>?_) (λg2=>?_)
 ·have hjl:j<l.length:=by dsimp only at g2;omega
  refine zax hs1 hjl (zhD (h.below b1) ⟨_,rfl,zL (zj (λg3=>?_) (λg3=>?_))⟩)
  ·refine ze rfl ⟨some r,(h1.below b1).cell0 rfl,hTy.look b1 λv hv=>ze rfl ⟨some r,(h1.below b1).cell0 rfl,hTy.look b1 λv2 hv2=>?_⟩⟩
   have e1:=zsa (T:=T) hjl
   have e2:=zpw (T:=T) hjl
   have b1':=zuZ hT (l:=l.take j)
   have b2':=(ziV hT l[j]).2
   rw[List.length_take]at b1'
   have ew:IntKind.i64.wrap ((sumT T (l.take j):Int)+v.2.1)=(sumT T (l.take (j+1)):Int):=by
    rw[hv.size,e1,zq (by omega) (by omega)]
    omega
   have ed:(if v2.2.2.1>(Zi T (l.take j):Int) then v2.2.2.1 else(Zi T (l.take j):Int))=(Zi T (l.take (j+1)):Int):=by
    rw[hv2.depth,e2]
    split
    ·rename_i q
     rw[show Nat.max (Zi T (l.take j)) (tA T l[j]).depth=(tA T l[j]).depth from Nat.max_eq_right (by omega)]
    ·rename_i q
     rw[show Nat.max (Zi T (l.take j)) (tA T l[j]).depth=Zi T (l.take j) from Nat.max_eq_left (by omega)]
   dsimp only
   rw[ew,ed,zE (by omega)]
   refine hnext (l.length-(j+1)) _ _ (by omega) ⟨j+1,rfl,by omega,rfl,rfl,λi hi h=>?_⟩
   by_cases e:i=j
   ·subst e;omega
   ·exact hall i hi (by omega)
  ·exact outT (v:=tv0) hD1 rfl (Nat.le_refl _) b1 (out 100 (by unfold memT;rw[if_neg g,if_pos (List.any_eq_true.2 ⟨l[j],List.getElem_mem hjl,by rw[beq_iff_eq];omega⟩)]))
 ·have hje:j=l.length:=by dsimp only at g2;omega
  subst hje
  have hno:¬(l.any (λp=>(tA T p).size==0)=true):=λq=>by
   obtain⟨p,hp,e⟩:=List.any_eq_true.1 q
   obtain⟨i,hi,rfl⟩:=List.getElem_of_mem hp
   exact hall i hi hi (by simpa using e)
  dsimp only
  rw[List.take_length]
  have hv4:TvOk B' w (6,0,0,false,0,0,0,s,()) {tp0 with kind:=6,ps:=l}:=⟨rfl,rfl,rfl,rfl,rfl,rfl,rfl,hs,hf⟩
  have:=zpv hT (l:=l)
  refine zeS (t:={tp0 with kind:=6,ps:=l}) (v:=(6,0,0,false,0,0,0,s,())) (s:=sumT T l) (d:=Zi T l) (by omega) λw5 b5=>⟨_,_,rfl,?_⟩
  refine outT (hD1.below b5) rfl (Nat.le_refl _) (b1.on b5) λw6 b6=>?_
  have:=hR w6 _ (by unfold memT;rw[if_neg g,if_neg hno];exact zqg (s:=sumT T l) (d:=Zi T l) hv4) (zqh _ _ _) b6
  unfold memT at this
  rwa[if_neg g,if_neg hno]at this
theorem zkk{s:Sl}{l:List Int}(h:IsTb w B tb T)(hs:IsS (Value.int .u32) w s l)(hf:zM B' s)(hlm:l.length<=4294967295)(hR:∀w' v,TvOk B' w v (fnT T l).1->SlOf v s->Below w.heap.size w w'->R (.tuple #[tyA v,.int .i64 (fnT T l).2]) w') :
  cR 98 #[.pointer (some (blk tb)),.slice s.a s.l s.c] w R:=by
 refine za.of (zcR _ s R w ?_) λ_ _ h=>h
 refine zk λw1 hD1 b1 z1=>?_
 have hD1:Blk w1 w.heap.size 144 ty0.toList:=hD1
 obtain⟨⟨r,o,h1,hTy⟩,h3⟩:=id h
 have hl:=hs.len
 have hs1:=hs.below b1
 have bad:∀j,j<l.length->(tA T (l.getD j 0)).size=0->(tA T (l.getD j 0)).kind≠othK j->fnT T l=(tp0,100):=λj hj e1 e2=>by
  unfold fnT
  rw[if_pos (List.any_eq_true.2 ⟨j,List.mem_range.2 hj,by rw[Bool.and_eq_true,beq_iff_eq,bne_iff_ne];exact⟨e1,e2⟩⟩)]
 refine zm.ghost (λm (st:Int×Unit) w'=>∃j:Nat,st=((j:Int),())/\j<=l.length/\m=l.length-j/\w1=w'/\∀i,i<j->¬((tA T (l.getD i 0)).size=0/\(tA T (l.getD i 0)).kind≠othK i)) l.length ⟨0,rfl,Nat.zero_le _,rfl,rfl,λi h=>by omega⟩ ?_
 rintro _ _ _ ⟨j,rfl,hj,rfl,rfl,hall⟩ next hnext
 refine zj (λg2=>?_) (λg2=>?_)
 ·have hjl:j<l.length:=by dsimp only at g2;omega
  have hgd:l.getD j 0=l[j]:=zp hjl
  have go:¬((tA T (l.getD j 0)).size=0/\(tA T (l.getD j 0)).kind≠othK j)->next (IntKind.i64.wrap ((j:Int)+1),()) w1:=λq=>by
   rw[zE (by omega)]
   refine hnext (l.length-(j+1)) _ _ (by omega) ⟨j+1,rfl,by omega,rfl,rfl,λi h=>?_⟩
   by_cases e:i=j
   ·subst e;exact q
   ·exact hall i (by omega)
  refine zo.cut (λ(_:Unit) w'=>w'=w1/\¬((tA T (l.getD j 0)).size=0/\(tA T (l.getD j 0)).kind≠othK j)) (zax hs1 hjl ?_) λ_ w2 q=>by obtain⟨rfl,q⟩:=q;exact go q
  refine zo.cut (λ(st:Int×Unit) w'=>st=(othK j,())/\w'=w1) ?_ ?_
  ·refine zl (λe=>⟨?_,rfl⟩) (λe=>⟨?_,rfl⟩)
   ·unfold othK
    rw[if_pos (by omega)]
   ·unfold othK
    rw[if_neg (by omega)]
  ·rintro _ _ ⟨rfl,rfl⟩
   refine zhD (h.below b1) ⟨_,rfl,zL (zj (λg3=>⟨rfl,λq=>by rw[hgd]at q;omega⟩) (λg3=>?_))⟩
   refine ze rfl ⟨some r,(h1.below b1).cell0 rfl,hTy.look b1 λv hv=>zC (λe=>?_) (λe=>⟨rfl,λq=>?_⟩)⟩
   ·rw[hv.kind]at e
    have he:=bad j hjl (by rw[hgd];omega) (by rw[hgd];exact e)
    refine outT (v:=tv0) hD1 rfl (Nat.le_refl _) b1 λw' hb=>?_
    have:=hR w' tv0 (by rw[he];exact TvOk.zero B' w) (.inr rfl) hb
    rwa[he]at this
   ·rw[hv.kind]at e
    rw[hgd]at q
    exact q.2 e
 ·have hje:j=l.length:=by dsimp only at g2;omega
  subst hje
  have hfn:fnT T l=({tp0 with kind:=8,ps:=l},0):=by
   unfold fnT
   rw[if_neg]
   intro q
   obtain⟨i,hi,e⟩:=List.any_eq_true.1 q
   rw[Bool.and_eq_true,beq_iff_eq,bne_iff_ne]at e
   exact hall i (List.mem_range.1 hi) e
  refine outT (v:=(8,0,0,false,0,0,0,s,())) hD1 rfl (Nat.le_refl _) b1 λw' hb=>?_
  have:=hR w' (8,0,0,false,0,0,0,s,()) (by rw[hfn];exact⟨rfl,rfl,rfl,rfl,rfl,rfl,rfl,hs,hf⟩) (.inl rfl) hb
  rwa[hfn]at this
end
end Go.Proofs
namespace Go.Proofs
open Go.Gk Go.RowKit Go.Gm
theorem zvh:Yq Tryz.prog 23 44 4 40:=⟨by kernel_rfl,Tryz.t44,.agg #[.int .u16 0,.int .u32 0,.int .u32 0,.slice none 0 0],by kernel_rfl,rfl,rfl,rfl,rfl⟩
theorem eArg:Yq Tryz.prog 42 123 3 24:=⟨by kernel_rfl,Tryz.t123,.agg #[.int .u8 0,.int .u32 0,.string (BM #[])],by kernel_rfl,rfl,rfl,rfl,rfl⟩
theorem zj4{P:Program}{t e:TypeId}{sz bytes:Nat}(he:Yq P t e sz bytes){w0 w:World}{s:Sl}{xs:List Value}(h:Own w e sz s xs)(hb:Below w0.heap.size w0 w)(hF:zM w0.heap.size s){vs:List Value}(hvs:vs.length=sz)(hv:∀u∈vs,u.oneCell'=true){b c:Nat}{T:TypeId}
  (hB:Blk w b T vs) (h63:s.l+1<=9223372036854775807) (hbytes:(s.l+1)*bytes<=140737488355328) {k:Sl->World->Prop}
  (hk:∀r w',Own w' e sz r (xs++vs)->Below w0.heap.size w0 w'->zM w0.heap.size r->w.heap.size<=w'.heap.size->(∀i,i<w.heap.size->s.a≠some (blk i)->w'.heap[i]? =w.heap[i]?)->k r w'):zz P t (.slice s.a s.l s.c) (.slice (some (blk b)) 1 c) w k:=by
 refine yG he h (news:=vs) (by omega) (λj u hj=>hB.cell hj) hv h63 hbytes λr w' h1 hl' hg=>?_
 rcases hg with⟨_,_,h3⟩ | ⟨b',h3,h4,h5⟩
 ·rw[h3]at hl';omega
 ·have hbb:w0.heap.size<=b':=by
   rcases h4 with h4 |h4
   ·exact hF _ h4
   ·have:=hb.size
    omega
  refine hk r w' h1 (hb.trans (zT h5 hbb hb.size)) (λa ha=>by rw[h3]at ha;cases ha;exact hbb) (zT h5 (Nat.zero_le _) (Nat.zero_le _)).size λi hi hne=>h5.block _ hi λe=>?_
  have e:=Option.some.inj e
  subst e
  rcases h4 with h4 |h4
  ·exact hne h4
  ·omega
def yE(w:World)(B:Nat)(s:Sl)(pl:List PI):Prop:=
 ∃hs:List Ins,hs.length=pl.length/\Own w 44 4 s (flat inV hs)/\zM B s/\∀(j:Nat) (h:j<hs.length) (h':j<pl.length),∃t,hs[j]=mkIn pl[j] t/\Own w 123 3 t (flat agV pl[j].2.2.2)/\zM B t
section
variable {w w' w0:World} {B:Nat} {s t:Sl} {pl:List PI} {p:PI}
theorem yE.keep(h:yE w B s pl)(hk:∀i,B<=i->i<w.heap.size->w'.heap[i]? =w.heap[i]?):yE w' B s pl:=by
 obtain⟨hs,h1,h2,h3,h4⟩:=h
 refine⟨hs,h1,h2.of_block λa ha=>hk _ (h3 a ha) (h2.lt ha).2,h3,λj hj hj'=>?_⟩
 obtain⟨t,e,h5,h6⟩:=h4 j hj hj'
 exact⟨t,e,h5.of_block λa ha=>hk _ (h6 a ha) (h5.lt ha).2,h6⟩
theorem yE.below(h:yE w B s pl)(hb:Below w.heap.size w w'):yE w' B s pl:=h.keep λi _ hi=>hb.block i hi
theorem yE.nil(w:World)(B:Nat):yE w B ⟨none,0,0⟩ []:=⟨[],rfl,Own.nil _ _ _,λa ha=>by(cases ha),λj h=>by(cases h)⟩
theorem yE.isPl(h:yE w B s pl):IsPl w s pl:=by
 obtain⟨hs,h1,h2,h3,h4⟩:=h
 have hc:IsC 4 inV w s hs:=Own.isC ziA (by omega) h2
 refine⟨by rw[hc.len,h1],hc.cap,hc.max,hc.nil,λa ha k hk=>?_⟩
 obtain⟨t,e,h5,h6⟩:=h4 k (by omega) hk
 refine⟨t,λj hj=>?_,Own.isC zF (by omega) h5⟩
 rw[<-e]
 exact hc.cell a ha k (by omega) j hj
theorem ym{T T':TypeId}{sz b:Nat}{xs cs:List Value}(h:Own w T sz s xs)(hB:Blk w b T' cs)(hT:T≠T'):s.a≠some (Gk.blk b):=λe=>by
 obtain⟨cs',h'⟩:=h.type e
 exact Blk.apart h' hB hT rfl
theorem zeO{T T':TypeId}{sz sz':Nat}{xs ys:List Value}(h:Own w T sz s xs)(k:Own w T' sz' t ys)(hT:T≠T'){a:Addr}(ha:t.a=some a):s.a≠some (Gk.blk a.block):=λe=>by
 obtain⟨cs',h'⟩:=k.type ha
 exact ym h h' hT e
theorem yE.push{b c:Nat}(h:yE w w0.heap.size s pl)(hb:Below w0.heap.size w0 w)(ht:Own w 123 3 t (flat agV p.2.2.2))(hF:zM w0.heap.size t)(hB:Blk w b 44 (inV (mkIn p t)))(hl:40*(pl.length+1)<=140737488355328){K:Sl->World->Prop}
  (hK:∀r w',yE w' w0.heap.size r (pl++[p])->Below w0.heap.size w0 w'->w.heap.size<=w'.heap.size->(∀i T cs,Blk w i T cs->T≠44->w'.heap[i]? =w.heap[i]?)->K r w'):zz Tryz.prog 23 (.slice s.a s.l s.c) (.slice (some (blk b)) 1 c) w K:=by
 have hsl:=h.isPl.len
 obtain⟨hs,h1,h2,h3,h4⟩:=h
 refine zj4 zvh h2 hb h3 rfl (by simp[Value.oneCell']) hB (by omega) (by omega) λr w' k1 k2 k3 k4 k5=>hK r w' ⟨hs++[mkIn p t],by simp[h1],?_,k3,?_⟩ k2 k4 λi T cs hi hT=>k5 i hi.lt (ym h2 hi hT.symm)
 ·simpa[flat] using k1
 ·intro j hj hj'
  by_cases hlt:j<hs.length
  ·obtain⟨t',e,h5,h6⟩:=h4 j hlt (by omega)
   rw[List.getElem_append_left hlt]
   have e2:(pl++[p])[j]=pl[j]'(by omega):=List.getElem_append_left (by omega)
   rw[e2]
   exact⟨t',e,h5.of_block λa ha=>k5 _ (h5.lt ha).2 (zeO h2 h5 (by decide) ha),h6⟩
  ·have ej:j=hs.length:=by simp at hj;omega
   subst ej
   have e2:(pl++[p])[hs.length]=p:=by simp[h1]
   rw[e2]
   exact⟨t,by simp,ht.of_block λa ha=>k5 _ (ht.lt ha).2 (zeO h2 ht (by decide) ha),hF⟩
end
theorem zn2{s:Sl}{l:List Ag}{w:World}{R:VWP}(h:IsAg w s l)(h24:24*l.length<=140737488351232)
  (hR:∀r w',Own w' 123 3 r (flat agV l)->zM w.heap.size r->Below w.heap.size w w'->R (.slice r.a r.l r.c) w') :
  cR 81 #[.slice s.a s.l s.c] w R:=by
 refine za.of (Yf s R w ?_) λ_ _ h=>h
 refine zA (λhn=>?_) (λhn=>?_)
 ·have hn:s.a=none:=by simpa using hn
  have hc:=h.nil hn
  have:l=[]:=List.eq_nil_of_length_eq_zero (by have:=h.len;have:=h.cap;omega)
  subst this
  exact hR ⟨none,0,0⟩ w (Own.nil _ _ _) (λa ha=>by cases ha) (Below.refl _ _)
 ·obtain⟨a,ha⟩:∃a,s.a=some a:=by
   cases hs:s.a with
   |none=>rw[hs]at hn;cases hn
   |some a=>exact⟨a,rfl⟩
  refine Nw.gen λw1 hw1=>?_
  have hB:Blk w1 w.heap.size 123 []:=by rw[hw1];exact Blk.new w 123 #[]
  have hb1:Below w.heap.size w w1:=by rw[hw1];exact(Below.refl _ _).alloc (Nat.le_refl _) _
  have hO:Own w1 123 3 ⟨some (blk w.heap.size),0,0⟩ []:=⟨rfl,.inr ⟨_,[],rfl,hB,Nat.le_refl _,by simp,rfl,rfl⟩⟩
  have h':=IsAg.below h hb1
  dsimp only[zB,Go.Gk.Sl.zw,zi,zu,zb,zh];rw[ha,h.len]
  refine yG eArg hO (m:=l.length) (news:=flat agV l) (zH zF l) (λj u hj=>?_) (λu hu=>?_) (by have:=h.bound;simp;omega) (by simp;omega) λr w' h1 _ h3=>?_
  ·have hlt:j<l.length*3:=by
    have:=(List.getElem?_eq_some_iff.1 hj).1
    rwa[zH zF]at this
   have e:j=j / 3*3+j % 3:=by omega
   have hg:=zi5 zF l (j / 3) (by omega) (j % 3) (by omega)
   have hc:=h'.cell a ha (j / 3) (by omega) (j % 3) (by omega)
   rw[e]at hj
   rw[e,hc,<-hg,hj]
  ·obtain⟨x,_,hx⟩:=List.mem_flatMap.1 hu
   simp only[agV,List.mem_cons,List.not_mem_nil,or_false]at hx
   rcases hx with rfl |rfl |rfl<;>rfl
  ·have h1:Own w' 123 3 r (flat agV l):=by simpa using h1
   rcases h3 with⟨h4,h5,h6⟩ | ⟨b,h4,h5,h6⟩
   ·subst h5
    exact hR _ _ h1 (λa ha=>by rw[h4]at ha;cases ha) hb1
   ·have hbb:w.heap.size<=b:=by
     rcases h5 with h5 |h5
     ·cases h5;exact Nat.le_refl _
     ·have:=hb1.size;omega
    exact hR _ _ h1 (λa ha=>by rw[h4]at ha;cases ha;exact hbb) (hb1.trans (zT h6 hbb hb1.size))
theorem zoi:∀(l:List Ag) (i:Nat) (h:i<l.length) (v:Int),(flat agV l).set (i*3+1) (.int .u32 v)=flat agV (l.set i (l[i].1,v,l[i].2.2))
 |a::l,0,_,v=>rfl
 |a::l,i+1,h,v=>by
  have ih:=zoi l i (by simpa using h) v
  simp only[flat,List.flatMap_cons,List.set_cons_succ,List.getElem_cons_succ]at ih⊢
  rw[List.set_append_right _ _ (by rw[zF];omega),zF,<-ih]
  congr 2
  omega
theorem Own.num{w:World}{q:Sl}{b:Nat}{l:List Ag}(h:Own w 123 3 q (flat agV l))(ha:q.a=some (blk b)){i:Nat}(hi:i<l.length)(v:Int) :
  Wr w ((blk b).add (i*3+1))/\Own (w.setCell ((blk b).add (i*3+1)) (.int .u32 v)) 123 3 q (flat agV (l.set i (l[i].1,v,l[i].2.2))):=by
 obtain⟨h1,h2⟩:=h
 rw[zH zF]at h1
 rcases h2 with rfl | ⟨b',cs,e,hB,h3,h4,h5,h6⟩
 ·cases ha
 ·rw[ha]at e
  have e:b=b':=by injection e with e;injection e
  subst e
  refine⟨hB.wr ?_,by rw[zH zF,List.length_set];exact h1,.inr ⟨b,_,ha,hB.set _ _,h3,h4,by rw[List.length_set];exact h5,?_⟩⟩
  ·have:q.l*3<=q.c*3:=Nat.mul_le_mul_right _ h3
   omega
  ·rw[List.take_set,h6,zoi l i hi v]
end Go.Proofs
namespace Go.Proofs
open Go.Gk Go.RowKit Go.Gm
theorem zqK{P:Program}{t kt et:TypeId}(ht:P.underlying t=some (.map kt et)){w:World}{r:Nat}{κ:IntKind}{L:List (Int×Int)}(h:IsMp w r κ L){φ:Int->Prop}(hφ:φ (L.length:Int)):lenW P t (.map (some r)) w φ:=by
 obtain⟨es,c,hb,hes,_⟩:=h
 have hl:es.size=L.length:=by
  have:=congrArg List.length hes
  simpa using this
 refine⟨(L.length:Int),?_,hφ⟩
 have hg:(getObj r).run P w =.ok (.map es c) w:=Go.MapKept.run_getObj_map hb
 unfold Builtin.len_
 simp only[List.getElem?_toArray,List.getElem?_cons_zero,Sem.run_bind,run_underlying ht,Result.andThen_ok,hg,Sem.run_pure,hl,goInt]
theorem zwa{b:Nat}{T:TypeId}{v0 v1 v2 v3 u1 u2 u3:Value}{K:World->Prop}{w:World}(hB:Blk w b T [v0,v1,v2,v3])(hK:∀w',Blk w' b T [v0,u1,u2,u3]->Chg b w w'->K w') :
  Wr w ((blk b).add 1)/\Nw (w.setCell ((blk b).add 1) u1) λw1=>Wr w1 ((blk b).add 2)/\Nw (w1.setCell ((blk b).add 2) u2) λw2=>Wr w2 ((blk b).add 3)/\Nw (w2.setCell ((blk b).add 3) u3) λw3=>K w3:=
 ⟨hB.wr (by simp),Nw.mk ⟨(hB.set 1 u1).wr (by simp),Nw.mk ⟨((hB.set 1 u1).set 2 u2).wr (by simp),Nw.mk (hK _ (((hB.set 1 u1).set 2 u2).set 3 u3) (((Chg.set b 1 w u1).trans (Chg.set b 2 _ u2)).trans (Chg.set b 3 _ u3)))⟩⟩⟩
theorem yE.chg{w w':World}{B b:Nat}{s:Sl}{pl:List PI}(h:yE w B s pl)(c:Chg b w w')(hb:b<B):yE w' B s pl:=h.keep λi hi _=>c.block i (by omega)
theorem yE.lower{w:World}{B B':Nat}{s:Sl}{pl:List PI}(h:yE w B s pl)(hB:B'<=B):yE w B' s pl:=by
 obtain⟨hs,h1,h2,h3,h4⟩:=h
 refine⟨hs,h1,h2,λa ha=>Nat.le_trans hB (h3 a ha),λj hj hj'=>?_⟩
 obtain⟨t,e,h5,h6⟩:=h4 j hj hj'
 exact⟨t,e,h5,λa ha=>Nat.le_trans hB (h6 a ha)⟩
def upTo(g:Int->Int)(al:List Ag)(i:Nat):List Ag:=(al.take i).map (zY g)++al.drop i
section
variable {g:Int->Int} {al:List Ag} {i:Nat}
theorem ziY:(upTo g al i).length=al.length:=by
 unfold upTo
 rw[List.length_append,List.length_map,List.length_take,List.length_drop]
 omega
theorem zly(hi:i<al.length)(h:i<(upTo g al i).length):(upTo g al i)[i]=al[i]:=by
 have e:(upTo g al i)[i]? =some al[i]:=by
  unfold upTo
  rw[List.getElem?_append_right (by rw[List.length_map,List.length_take];omega),List.length_map,List.length_take,Nat.min_eq_left (Nat.le_of_lt hi),Nat.sub_self,List.getElem?_drop,Nat.add_zero,List.getElem?_eq_getElem hi]
 exact(List.getElem?_eq_some_iff.1 e).2
theorem zpb(hi:i<al.length):(upTo g al i).set i (zY g al[i])=upTo g al (i+1):=by
 unfold upTo
 rw[List.set_append_right _ _ (by rw[List.length_map,List.length_take];omega),List.take_succ_eq_append_getElem hi,List.map_append,List.length_map,List.length_take,Nat.min_eq_left (Nat.le_of_lt hi),Nat.sub_self,List.drop_eq_getElem_cons hi,List.set_cons_zero,List.append_assoc]
 rfl
theorem zsi(hi:i<al.length)(e:al[i].1≠1):upTo g al (i+1)=upTo g al i:=by
 rw[<-zpb hi,zcQ g e,<-zly (g:=g) hi (by rw[ziY];exact hi),List.set_getElem_self]
theorem ztW:upTo g al al.length=al.map (zY g):=by unfold upTo;simp
theorem zsj:upTo g al 0=al:=by unfold upTo;simp
end
theorem zqb(g:Int->Int){pl:List PI}{k:Nat}(hk:k<pl.length):zv g (pl.take (k+1))=zv g (pl.take k)++[zS g pl[k]]:=by
 unfold zv
 rw[List.take_succ_eq_append_getElem hk,List.map_append]
 rfl
section
variable {x:Mo} {pl:List PI} {w:World} {R:VWP}
theorem zoZ{f:Value}{g:Int->Int}(hN:IsPl w x.2.2.1 pl)(hp:PlOk pl)
  (hf:∀w',Below w.heap.size w w'->∀n∈allP pl,zJ Tryz.prog Tryz.fs f [.int .u32 n] w' λv w''=>v =.int .u32 (g n)/\Below w'.heap.size w' w'')
  (hR:∀s w',yE w' w.heap.size s (zv g pl)->Below w.heap.size w w'->R (moA (x.1,x.2.1,s,())) w'):cR 51 #[moA x,f] w R:=by
 refine za.of (zjx x f R w ?_) λ_ _ h=>h
 refine zk λw1 hB1 b1 z1=>?_
 have hB1:Blk w1 w.heap.size 25 (moV x):=hB1
 refine zk λw2 hC2 b2 z2=>?_
 have hC2:Blk w2 w1.heap.size 25 [.int .u32 0,.int .u32 0,.slice none 0 0]:=hC2
 have hB2:=hB1.below b2
 have hl:=hN.len
 have h40:=hp.len
 refine hB2.rS (n:=2) (x:=x.2.2.1) rfl ⟨⟨by omega,by omega,by omega,by omega⟩,?_⟩
 refine zk λw3 hD3 b3 z3=>?_
 have hb3:=(b1.on b2).on b3
 have hB3:=hB2.below b3
 have hC3:=hC2.below b3
 refine hB3.rS (n:=2) (x:=x.2.2.1) rfl ?_
 have hO3:yE w3 w.heap.size ⟨some (blk w2.heap.size),0,x.2.2.1.l⟩ (zv g (pl.take 0)):=by
  refine⟨[],rfl,⟨rfl,.inr ⟨_,_,rfl,hD3,Nat.zero_le _,(by dsimp only;omega),?_,rfl⟩⟩,λa ha=>?_,λj h=>by(cases h)⟩
  ·rw[Array.length_toList,size_madeCells]
  ·cases ha
   show w.heap.size<=w2.heap.size
   omega
 refine zm.countSl pl.length hN.bound (λk r w'=>yE w' w.heap.size r (zv g (pl.take k))/\Below w.heap.size w w'/\w3.heap.size<=w'.heap.size/\Blk w' w.heap.size 25 (moV x)/\Blk w' w1.heap.size 25 [.int .u32 0,.int .u32 0,.slice none 0 0])
  ⟨hO3,hb3,Nat.le_refl _,hB3,hC3⟩ ?_
 rintro k r w4 hk ⟨hO,hb,hz,hB,hC⟩ next hnext
 refine zj (λh=>?_) (λh=>?_)
 ·have hlt:k<pl.length:=by dsimp only at h;omega
  obtain⟨m1,m2,m3⟩:=zcm hlt
  have h24:=hp.args _ (List.getElem_mem hlt)
  refine zeC (hN.below hb) hlt λt ht=>?_
  refine box4 rfl λw5 hI5 b5 z5=>?_
  have hI5:Blk w5 w4.heap.size 44 (inV (mkIn pl[k] t)):=hI5
  have bd:Below w5.heap.size w5 w5.drew:=(Below.refl _ _).drew
  refine hI5.drew.rI (n:=1) (x:=pl[k].2.1) rfl (hI5.drew.rI (n:=2) (x:=pl[k].2.2.1) rfl (hI5.drew.rS (n:=3) (x:=t) rfl ?_))
  have hb5:=(hb.on b5).on bd
  refine zJ.mono (hf _ hb5 _ m1) λv w6 ⟨hv,b6⟩=>⟨g pl[k].2.1,hv,?_⟩
  have hI6:=hI5.drew.below b6
  have hb6:=hb5.on b6
  refine⟨hI6.cell (n:=3) rfl,hI6.cell (n:=2) rfl,?_⟩
  refine zJ.mono (hf _ hb6 _ m2) λv w7 ⟨hv',b7⟩=>⟨g pl[k].2.2.1,hv',?_⟩
  have hI7:=hI6.below b7
  have hb7:=hb6.on b7
  have b47:=((b5.on bd).on b6).on b7
  refine⟨hI7.cell (n:=3) rfl,?_⟩
  refine zn2 (ht.below b47) h24 λq w8 hq hqF b8=>⟨q,rfl,?_⟩
  have hI8:=hI7.below b8
  have s47:=b47.size
  have hi7:=hI7.lt
  refine zwa hI8 λw9 hI9 c9=>?_
  have hI9:Blk w9 w4.heap.size 44 (inV (pl[k].1,g pl[k].2.1,g pl[k].2.2.1,q,())):=hI9
  have hq9:Own w9 123 3 q (flat agV (upTo g pl[k].2.2.2 0)):=by
   rw[zsj]
   exact hq.of_block λa ha=>c9.block _ (by have:=hqF a ha;omega)
  have b49:Below w4.heap.size w4 w9:=c9.below (b47.on b8) (Nat.le_refl _)
  have hb9:=hb.on b49
  have s9:=c9.size
  have s8:=b8.size
  have hql:q.l=pl[k].2.2.2.length:=by
   have:=hq.1
   rw[zH zF]at this
   omega
  refine hI9.rS (n:=3) (x:=q) rfl ?_
  refine zm.count pl[k].2.2.2.length (by omega) (λi w'=>Own w' 123 3 q (flat agV (upTo g pl[k].2.2.2 i))/\Blk w' w4.heap.size 44 (inV (pl[k].1,g pl[k].2.1,g pl[k].2.2.1,q,()))/\Below w7.heap.size w9 w') ⟨hq9,hI9,Below.refl _ _⟩ ?_
  rintro i w10 hi ⟨hq10,hI10,f10⟩ next2 hnext2
  have s10:=f10.size
  refine zj (λh=>?_) (λh=>?_)
  ·have hil:i<pl[k].2.2.2.length:=by dsimp only at h;omega
   refine zo.cut (λ_ w'=>Own w' 123 3 q (flat agV (upTo g pl[k].2.2.2 (i+1)))/\Blk w' w4.heap.size 44 (inV (pl[k].1,g pl[k].2.1,g pl[k].2.2.1,q,()))/\Below w7.heap.size w9 w') ?_ (λ_ w' hP=>hnext2 w' hil hP)
   have hul:i<(upTo g pl[k].2.2.2 i).length:=by rw[ziY];exact hil
   have hIs:IsAg w10 q (upTo g pl[k].2.2.2 i):=Own.isC zF (by omega) hq10
   refine zfQ hIs hul ?_
   rw[zly hil hul]
   refine box3 rfl λw11 hA11 b11 z11=>?_
   have f11:Below w7.heap.size w9 w11:=f10.trans (b11.mono (by omega))
   refine hA11.rI0 rfl (zl (λe=>?_) (λe=>?_))
   ·have hI11:=hI10.below b11
    have bd11:Below w11.heap.size w11 w11.drew:=(Below.refl _ _).drew
    have s11:=b11.size
    refine hI11.drew.rS (n:=3) (x:=q) rfl (hA11.drew.rI (n:=1) (x:=pl[k].2.2.2[i].2.1) rfl ?_)
    refine zJ.mono (hf _ ((hb9.trans (f11.mono (by have:=hb7.size;omega))).drew) _ (m3 _ (List.getElem_mem hil) e)) λv w12 ⟨hv2,b12⟩=>⟨g pl[k].2.2.2[i].2.1,hv2,?_⟩
    have b1112:=bd11.on b12
    have hI12:=hI11.below b1112
    have hq12:=(hq10.below b11).below b1112
    obtain⟨a,ha⟩:=hIs.base hul
    have ha':q.a=some (blk a.block):=by rw[ha];exact congrArg some (hq10.lt ha).1
    obtain⟨n1,n2⟩:=Own.num hq12 ha' (by rw[ziY];exact hil) (g pl[k].2.2.2[i].2.1)
    have haF:=hqF a ha
    refine⟨hI12.cell (n:=3) rfl,⟨by omega,by dsimp only;omega⟩,ze ha' ?_⟩
    dsimp only
    rw[show Int.toNat (i:Int)=i from rfl,zn]
    refine⟨n1,Nw.mk ⟨?_,(Chg.set a.block _ w12 _).blk hI12 (by omega),?_⟩⟩
    ·have hs:=zpb (g:=g) hil
     have hg:=zly (g:=g) hil (by rw[ziY];exact hil)
     have hA:zY g pl[k].2.2.2[i]=(pl[k].2.2.2[i].1,g pl[k].2.2.2[i].2.1,pl[k].2.2.2[i].2.2):=by unfold zY;rw[if_pos e]
     rw[hg]at n2
     rw[hA]at hs
     rw[hs]at n2
     exact n2
    ·have f12:Below w7.heap.size w9 w12:=f11.trans (b1112.mono (by omega))
     exact f12.setCell (by rw[yP];exact haF) _
   ·refine⟨?_,hI10.below b11,f11⟩
    rw[zsi hil e]
    exact hq10.below b11
  ·have hi':i=pl[k].2.2.2.length:=by dsimp only at h;omega
   subst hi'
   rw[ztW]at hq10
   have hb10:=hb9.trans (f10.mono (by have:=hb7.size;omega))
   have b410:Below w4.heap.size w4 w10:=b49.trans (f10.mono (by omega))
   have s410:=b410.size
   refine Ins.load hI10 ?_
   refine zk λw11 hD11 b11 z11=>?_
   have hD11:Blk w11 w10.heap.size 44 (inV (mkIn (zS g pl[k]) q)):=hD11
   refine yE.push (w0:=w) (p:=zS g pl[k]) (t:=q) ((hO.below b410).below b11) (hb10.on b11) (hq10.below b11) (λa ha=>by have:=hqF a ha;have:=hb7.size;omega) hD11 (by rw[ye,List.length_take];omega) λr' w12 hO12 hb12 hz12 hk12=>?_
   rw[<-zqb g hlt]at hO12
   have s11:=b11.size
   refine hnext r' w12 hlt ⟨hO12,hb12,by omega,?_,?_⟩
   ·exact((hB.below b410).below b11).of_block (hk12 _ _ _ ((hB.below b410).below b11) (by decide))
   ·exact((hC.below b410).below b11).of_block (hk12 _ _ _ ((hC.below b410).below b11) (by decide))
 ·have hk':k=pl.length:=by dsimp only at h;omega
  subst hk'
  rw[List.take_length]at hO
  have c1:=Chg.set w.heap.size 2 w4 (.slice r.a r.l r.c)
  refine⟨hB.wr (n:=2) (by simp),Nw.mk ?_⟩
  have hB5:Blk _ w.heap.size 25 (moV (x.1,x.2.1,r,())):=hB.set 2 (.slice r.a r.l r.c)
  have hC5:=c1.blk hC (by omega)
  refine Mo.load hB5 ?_
  refine st3 hC5 rfl λw6 hC6 c6=>?_
  have hC6:Blk w6 w1.heap.size 25 (moV (x.1,x.2.1,r,())):=hC6
  refine Mo.load hC6 ?_
  have hO6:yE w6 w.heap.size r (zv g pl):=by
   obtain⟨hs,h1,h2,h3,h4⟩:=hO
   have keep:∀i T cs,Blk w4 i T cs->T≠25->w6.heap[i]? =w4.heap[i]?:=λi T cs hi hT=>by
    rw[c6.block i (Blk.apart hi hC hT),c1.block i (Blk.apart hi hB hT)]
   refine⟨hs,h1,h2.of_block λa ha=>?_,h3,λj hj hj'=>?_⟩
   ·obtain⟨cs,hc⟩:=h2.type ha
    exact keep _ _ _ hc (by decide)
   ·obtain⟨t,e,h5,h6⟩:=h4 j hj hj'
    refine⟨t,e,h5.of_block λa ha=>?_,h6⟩
    obtain⟨cs,hc⟩:=h5.type ha
    exact keep _ _ _ hc (by decide)
  exact hR r w6 hO6 (c6.below (c1.below hb (Nat.le_refl _)) (by omega))
end
end Go.Proofs
namespace Go.Proofs
open Go.Gk Go.RowKit Go.Gm
structure Wl (w0 w:World) (r:Sl) (D:List Int):Prop where
 own:Own w 22 1 r (D.map (Value.int .u32))
 fr:zM w0.heap.size r
 below:Below w0.heap.size w0 w
theorem Wl.on{w0 w w':World}{r:Sl}{D:List Int}(h:Wl w0 w r D)(hb:Below w.heap.size w w'):Wl w0 w' r D:=⟨h.own.below hb,h.fr,h.below.on hb⟩
theorem Wl.len{w0 w:World}{r:Sl}{D:List Int}(h:Wl w0 w r D):r.l=D.length:=by have:=h.own.1;rw[List.length_map]at this;omega
theorem Wl.nil(w:World):Wl w w ⟨none,0,0⟩ []:=⟨Own.nil _ _ _,λa ha=>(by cases ha),Below.refl _ _⟩
theorem Wl.push{w0 w:World}{r:Sl}{D:List Int}{v:Int}(h:Wl w0 w r D)(hl:D.length<=4398046511104){k:Sl->World->Prop}(hk:∀r' w',Wl w0 w' r' (D++[v])->(∀b T cs,22≠T->Blk w b T cs->Blk w' b T cs)->k r' w') :
  Nw (w.alloc (.cells #[.int .u32 v] 22)) λw1=>zz Tryz.prog 56 (.slice r.a r.l r.c) (.slice (some (blk w.heap.size)) 1 1) w1 k:=by
 refine zk λw1 h1 b1 z1=>?_
 have h1:Blk w1 w.heap.size 22 [.int .u32 v]:=h1
 have hl2:=h.len
 have h2:=h.on b1
 refine zj4 eU32 h2.own h2.below h.fr (vs:=[.int .u32 v]) rfl (λu hu=>by rw[List.mem_singleton.1 hu];rfl) h1 (by omega) (by omega) λr' w' g1 g2 g3 _ g5=>hk r' w' ⟨?_,g3,g2⟩ λb T cs hne hB=>?_
 ·rw[List.map_append]
  exact g1
 ·have hB1:=hB.below b1
  exact hB1.of_block (g5 b hB1.lt (ym h2.own hB1 hne))
theorem zwb{w:World}{s:Sl}{l:List Int}(h:IsS (Value.int .u32) w s l)(h1:2<=l.length):IsS (Value.int .u32) w ⟨if s.c=1 then s.a else Option.map (λa=>a.add 1) s.a,s.l-1,s.c-1⟩ (l.drop 1):=by
 have hl:=h.len
 have hc:=h.cap
 have hm:=h.max
 have hn:¬s.c=1:=by omega
 rw[if_neg hn]
 refine⟨by rw[List.length_drop];show s.l-1=_;omega,by show s.l-1<=s.c-1;omega,by show s.c-1<=_;omega,λe=>?_,λa ha i hi=>?_⟩
 ·show s.c-1=0
  cases hs:s.a with
  |none=>have:=h.nil hs;omega
  |some a=>rw[hs]at e;cases e
 ·have ha:Option.map (λa:Addr=>a.add 1) s.a=some a:=ha
  cases hs:s.a with
  |none=>rw[hs]at ha;cases ha
  |some a0=>
   rw[hs]at ha
   have ha:a0.add 1=a:=by injection ha
   rw[<-ha,zn]
   rw[List.length_drop]at hi
   rw[List.getElem_drop]
   exact h.cell a0 hs (1+i) (by omega)
theorem zp5{B:Nat}{s:Sl}(h:zM B s):zM B ⟨if s.c=1 then s.a else Option.map (λa=>a.add 1) s.a,s.l-1,s.c-1⟩:=λa ha=>by
 have ha:(if s.c=1 then s.a else Option.map (λa:Addr=>a.add 1) s.a)=some a:=ha
 split at ha
 ·exact h a ha
 ·cases hs:s.a with
  |none=>rw[hs]at ha;cases ha
  |some a0=>
   rw[hs]at ha
   have ha:a0.add 1=a:=by injection ha
   rw[<-ha,yP]
   exact h a0 hs
section
variable {w w':World} {R:VWP} {B kb tb rm rs b k:Nat} {v:Tv} {T:TyL} {pl:List PI} {t:Sl} {bd:Int}
theorem Yj{j:Nat}(hj:j<(ix pl k).2.2.2.length):(agN pl k)[j]'(by unfold agN;rw[List.length_map];exact hj)=agI pl k j:=by
 unfold agN agI
 rw[List.getElem_map,zp hj]
theorem zio:(agN pl k).length=(ix pl k).2.2.2.length:=List.length_map _
theorem zpi(hp:PlOk pl)(hk:k<pl.length){j:Nat}(hj:j<(ix pl k).2.2.2.length):0<=agI pl k j/\agI pl k j<=4294967295:=by
 unfold agI
 rw[zI hk]at hj
 rw[zI hk,zp hj]
 exact(hp.nums _ (List.getElem_mem hk)).2.2 _ (List.getElem_mem hj)
theorem YP(hs:(zx bd pl).1=0)(hk:k<pl.length):pl[k].2.2.2.length<=65535:=by
 obtain⟨f,_,_,_,_,_,h⟩:=Zz ((Ye hs).2 k hk)
 unfold zbl at h
 have:=znQ (al:=pl[k].2.2.2) (Nat.le_refl _)
 omega
theorem zsv{op:Int}{ty re:Bool}{fixed rest:Bs}{most:Nat}(hs:(zx bd pl).1=0)(hk:k<pl.length)(h:(ix pl k).1=op)(hf:yb op ty re fixed rest most=true){j:Nat}(hj:j<(ix pl k).2.2.2.length)(hjf:j<fixed.length) :
  ((ix pl k).2.2.2.getD j ag0).1=yJ ((fixed.getD j 0).toNat:Int):=by
 obtain⟨f,_,f3,_,_,_,_,_,hw⟩:=zck hs hk h hf
 have:=hw j hj
 unfold werr at this
 rw[(yK this).2]
 unfold letP
 rw[f3,if_pos hjf]
def OneR(R:VWP)(w:World)(o:Option (Tp×Int)):Prop:=match o with
 |none=>∀w',Below w.heap.size w w'->R (.tuple #[tyA tv0,.bool false,.int .i64 0]) w'
 |some p=>∀w' v,(p.2=0->TvOk w.heap.size w' v p.1)->Below w.heap.size w w'->R (.tuple #[tyA v,.bool true,.int .i64 p.2]) w'
set_option maxHeartbeats 4000000 in
theorem zt4{w0:World}(h:IsMk w0 w B kb tb rm rs T pl k)(hT:TbOk T)(hp:PlOk pl)(hs:(zx bd pl).1=0)(hk:k<pl.length)(hI:IsAg w t pl[k].2.2.2)(hm:∀id,(mdP pl id k).1=43->0<(mdP pl id k).2.2.2.length/\cN (mdP pl id k)<=4294967295)(hR:OneR R w (oneT T pl k)) :
  cR 59 #[.pointer (some (blk kb)),inA (mkIn pl[k] t)] w R:=by
 refine za.of (zfw _ (mkIn pl[k] t) R w ?_) λ_ _ h=>h
 have hix:=zI hk
 have hal:pl[k].2.2.2=(ix pl k).2.2.2:=by rw[hix]
 have hop:pl[k].1=(ix pl k).1:=by rw[hix]
 refine zk λw1 hI1 b1 z1=>?_
 have hI1:Blk w1 w.heap.size 44 (inV (mkIn pl[k] t)):=hI1
 refine zk λw2 hD2 b2 z2=>?_
 have hD2:Blk w2 w1.heap.size 144 ty0.toList:=hD2
 have b02:=b1.on b2
 have hA2:IsAg w2 t pl[k].2.2.2:=IsC.below zF hI b02
 have htl:=hA2.len
 have hlen:=YP hs hk
 refine(hI1.below b2).rS (n:=3) (x:=t) rfl ?_
 refine zm.ghost (λm (st:Sl×Int×Unit) w'=>∃(r:Sl) (j:Nat),st=(r,(j:Int),())/\j<=pl[k].2.2.2.length/\m=pl[k].2.2.2.length-j/\Wl w2 w' r ((agN pl k).take j)) pl[k].2.2.2.length ⟨⟨none,0,0⟩,0,rfl,Nat.zero_le _,rfl,by rw[List.take_zero];exact Wl.nil w2⟩ ?_
 rintro _ _ w3 ⟨r,j,rfl,hj,rfl,hW⟩ next hnext
 have b3:=hW.below
 refine zj (λg=>?_) (λg=>?_)
 ·have hjl:j<pl[k].2.2.2.length:=by dsimp only at g;omega
  refine zfQ (IsC.below zF hA2 b3) hjl (box3 rfl λw7 h7 b7 z7=>h7.rI (n:=1) (x:=pl[k].2.2.2[j].2.1) rfl ?_)
  refine(hW.on b7).push (by rw[List.length_take];omega) λr' w' h' _=>?_
  dsimp only
  rw[zE (by omega)]
  refine hnext (pl[k].2.2.2.length-(j+1)) _ w' (by omega) ⟨r',j+1,rfl,by omega,rfl,?_⟩
  have hj':j<(ix pl k).2.2.2.length:=by rw[<-hal];exact hjl
  rw[List.take_succ_eq_append_getElem (by rw[zio];exact hj'),Yj hj']
  have:agI pl k j=pl[k].2.2.2[j].2.1:=by
   unfold agI
   rw[<-hal,zp hjl]
  rw[this]
  exact h'
 have hje:j=pl[k].2.2.2.length:=by dsimp only at g;omega
 subst hje
 rw[hal,<-zio (pl:=pl) (k:=k),List.take_length]at hW
 have hS3:=hW.own.isS
 have hSl:=hS3.len
 refine zk λw10 hX10 b10 z10=>?_
 have hX10:Blk w10 w3.heap.size 144 (tyV tv0):=hX10
 have b210:=b3.on b10
 have b010:=b02.on b210
 have hI10:=(hI1.below b2).below b210
 have hD10:=hD2.below b210
 have hS10:=hS3.below b10
 have hM10:=h.below b010
 have lt1:=b1.size
 have lt2:=b2.size
 have lt3:=b3.size
 have eqk:∀{j:Nat},j<(ix pl k).2.2.2.length->(agN pl k).getD j 0=agI pl k j:=λ{j} hj=>by rw[zp (by rw[zio];exact hj),Yj hj]
 have hnl:(agN pl k).length=(ix pl k).2.2.2.length:=zio
 refine zo.cut (λ(st:Int×Unit) w'=>∃(p:Tp×Int) (v:Tv),oneT T pl k=some p/\st=(p.2,())/\Blk w' w3.heap.size 144 (tyV v)/\(p.2=0->TvOk w2.heap.size w' v p.1)/\Below w3.heap.size w3 w') ?_ ?_
 rotate_left
 ·rintro _ w' ⟨p,v,ho,rfl,hX,hv,hb⟩
  rw[ho]at hR
  have hD':=(hD2.below b3).below hb
  refine Tv.load hX (st8 hD' rfl λw4 h4 c4=>Tv.load (v:=v) h4 (hR w4 v (λe=>?_) (c4.below ((b02.on b3).on hb) (by omega))))
  have q:=hv e
  exact⟨q.kind,q.size,q.depth,q.sg,q.cls,q.part,q.times,q.ps.of_block λa ha _=>c4.block _ λe2=>by have:=q.fr a ha;omega,λa ha=>by have:=q.fr a ha;omega⟩
 have out:∀{w':World} {p:Tp×Int} (v:Tv) {cs:List Value},oneT T pl k=some p->Blk w' w3.heap.size 144 cs->cs.length=8->Below w3.heap.size w3 w'->(p.2=0->∀w2',Below w3.heap.size w3 w2'->TvOk w2.heap.size w2' v p.1)->
   stC (Gk.blk w3.heap.size) 0 (tyV v) w' λw2'=>∃(p':Tp×Int) (v:Tv),oneT T pl k=some p'/\((p.2,()):Int×Unit)=(p'.2,())/\Blk w2' w3.heap.size 144 (tyV v)/\(p'.2=0->TvOk w2.heap.size w2' v p'.1)/\Below w3.heap.size w3 w2':=λ{w' p} v {cs} ho hB hl hb hv=>
  ZL hB hl λw4 h4 c4=>⟨p,v,ho,rfl,h4,λe=>hv e w4 (c4.below hb (Nat.le_refl _)),c4.below hb (Nat.le_refl _)⟩
 have b310:Below w3.heap.size w3 w10:=b10
 have nilA:∀a,(⟨none,0,0⟩:Sl).a=some a->a.block<w3.heap.size:=λa ha=>(by cases ha)
 have rA:∀a,r.a=some a->a.block<w3.heap.size:=λa ha=>(hW.own.lt ha).2
 have kept:∀{v:Tv} {s:Sl} {w4:World} {a:Addr},SlOf v s->(∀a,s.a=some a->a.block<w3.heap.size)->Below w3.heap.size w3 w4->v.2.2.2.2.2.2.2.1.a=some a->w4.heap[a.block]? =w10.heap[a.block]?:=λ{v s w4 a} hsl hs hb ha=>by
  have hlt:a.block<w3.heap.size:=by
   rcases hsl with e |e
   ·rw[e]at ha;exact hs a ha
   ·rw[e]at ha;cases ha
  rw[hb.block _ hlt,b310.block _ hlt]
 have lit:∀(v:Tv) (t:Tp) (w':World),v.2.2.2.2.2.2.2.1=⟨none,0,0⟩->t.ps=[]->v.1=t.kind->v.2.1=(t.size:Int)->v.2.2.1=(t.depth:Int)->v.2.2.2.1=t.sg->v.2.2.2.2.1=t.cls->v.2.2.2.2.2.1=t.part->v.2.2.2.2.2.2.1=(t.times:Int)->TvOk w2.heap.size w' v t:=λv t w' e1 e2 q1 q2 q3 q4 q5 q6 q7=>
  ⟨q1,q2,q3,q4,q5,q6,q7,by rw[e1,e2];exact nilS _ w',by rw[e1];exact zlg _⟩
 refine hI10.rI0 (x:=pl[k].1) rfl ?_
 rw[hop]
 refine zl (λe19=>?_) (λn19=>?_)
 ·refine⟨hX10.wr (n:=0) (by show 0<8;decide),Nw.gen λw11 e11=>?_⟩
  have c11:Chg w3.heap.size w10 w11:=by rw[e11];exact Chg.set _ 0 _ _
  have h11:Blk w11 w3.heap.size 144 (tyV (1,0,0,false,0,0,0,⟨none,0,0⟩,())):=by rw[e11];exact hX10.set 0 _
  exact⟨({tp0 with kind:=1},0),(1,0,0,false,0,0,0,⟨none,0,0⟩,()),by unfold oneT;rw[if_pos e19],rfl,h11,λ_=>lit _ _ _ rfl rfl rfl rfl rfl rfl rfl rfl rfl,c11.below b310 (Nat.le_refl _)⟩
 refine zl (λe20=>?_) (λn20=>?_)
 ·refine⟨hX10.wr (n:=0) (by show 0<8;decide),Nw.gen λw11 e11=>?_⟩
  have c11:Chg w3.heap.size w10 w11:=by rw[e11];exact Chg.set _ 0 _ _
  have h11:Blk w11 w3.heap.size 144 (tyV (2,0,0,false,0,0,0,⟨none,0,0⟩,())):=by rw[e11];exact hX10.set 0 _
  refine⟨h11.wr (n:=1) (by show 1<8;decide),Nw.gen λw12 e12=>?_⟩
  have c12:Chg w3.heap.size w11 w12:=by rw[e12];exact Chg.set _ _ _ _
  have h12:Blk w12 w3.heap.size 144 (tyV (2,1,0,false,0,0,0,⟨none,0,0⟩,())):=by rw[e12];exact h11.set 1 _
  refine⟨h12.wr (n:=2) (by show 2<8;decide),Nw.gen λw13 e13=>?_⟩
  have c13:Chg w3.heap.size w12 w13:=by rw[e13];exact Chg.set _ _ _ _
  have h13:Blk w13 w3.heap.size 144 (tyV (2,1,1,false,0,0,0,⟨none,0,0⟩,())):=by rw[e13];exact h12.set 2 _
  exact⟨({tp0 with kind:=2,size:=1,depth:=1},0),(2,1,1,false,0,0,0,⟨none,0,0⟩,()),by unfold oneT;rw[if_neg n19,if_pos e20],rfl,h13,λ_=>lit _ _ _ rfl rfl rfl rfl rfl rfl rfl rfl rfl,c13.below (c12.below (c11.below b310 (Nat.le_refl _)) (Nat.le_refl _)) (Nat.le_refl _)⟩
 refine zl (λe21=>?_) (λn21=>?_)
 ·have hl2:(ix pl k).2.2.2.length=2:=yc hs hk e21 zg6
  have ho:oneT T pl k=some ({tp0 with kind:=3,size:=1,depth:=1,sg:=agI pl k 1==1},if agI pl k 0≠32\/1<agI pl k 1 then 102 else 0):=by unfold oneT;rw[if_neg n19,if_neg n20,if_pos e21]
  refine zo.cut (λ(st:Int×Unit) w'=>st=((if agI pl k 0≠32\/1<agI pl k 1 then(102:Int) else 0),())/\w'=w10) ?_ ?_
  ·refine zax (k:=0) hS10 (by omega) ?_
   rw[Yj (by omega)]
   refine zC (λq=>⟨by rw[if_pos (.inl q)],rfl⟩) (λq=>zax (k:=1) hS10 (by omega) ?_)
   rw[Yj (by omega)]
   exact zj (λq2=>⟨by rw[if_pos (.inr q2)],rfl⟩) (λq2=>⟨by rw[if_neg (by omega)],rfl⟩)
  ·rintro _ _ ⟨rfl,rfl⟩
   refine zax (k:=1) hS10 (by omega) ?_
   rw[Yj (by omega)]
   exact out (3,1,1,agI pl k 1==1,0,0,0,⟨none,0,0⟩,()) ho hX10 rfl b310 λ_ w' _=>lit _ _ _ rfl rfl rfl rfl rfl rfl rfl rfl rfl
 refine zl (λe23=>?_) (λn23=>?_)
 ·have hl2:(ix pl k).2.2.2.length=2:=yc hs hk e23 zdz
  have ho:oneT T pl k=some (vecT T (agI pl k 0) (agI pl k 1)):=by unfold oneT;rw[if_neg n19,if_neg n20,if_neg n21,if_pos e23]
  have hMd:=hM10.below ((Below.refl _ _).drew:Below w10.heap.size w10 w10.drew)
  refine ze rfl ⟨_,hMd.blk.cell0 rfl,zax (k:=0) hS10.drew (by omega) ?_⟩
  rw[Yj (by omega)]
  refine zax (k:=1) hS10.drew (by omega) ?_
  rw[Yj (by omega)]
  refine zlH (B':=w2.heap.size) hMd.tb hT (zpi hp hk (by omega)) λw' v hv hsl hb=>⟨v,_,rfl,?_⟩
  exact out v ho ((hX10.drew).below hb) rfl (b310.drew.on hb) λ_ w4 hb4=>hv.moved λa ha=>kept hsl nilA hb4 ha
 refine zl (λe28=>?_) (λn28=>?_)
 ·have hl2:(ix pl k).2.2.2.length=2:=yc hs hk e28 za8
  have ho:oneT T pl k=some (arrT T (mdP pl (agI pl k 1) k) (agI pl k 0)):=by unfold oneT;rw[if_neg n19,if_neg n20,if_neg n21,if_neg n23,if_pos e28]
  have hMd:=hM10.below ((Below.refl _ _).drew:Below w10.heap.size w10 w10.drew)
  refine zax (k:=0) hS10.drew (by omega) ?_
  rw[Yj (by omega)]
  refine zax (k:=1) hS10.drew (by omega) ?_
  rw[Yj (by omega)]
  have h1:agI pl k 1≠0:=by
   obtain⟨f,_,f3,_,_,_,_,_,hw⟩:=zck hs hk e28 za8
   have hk1:=zsv hs hk e28 za8 (j:=1) (by omega) (by decide)
   have:=hw 1 (by omega)
   unfold werr at this
   exact zuc this (by rw[hk1];decide +kernel)
  refine znw (B':=w2.heap.size) hMd hT h1 (hm _) λw' v hv hsl hb=>⟨v,_,rfl,?_⟩
  exact out v ho ((hX10.drew).below hb) rfl (b310.drew.on hb) λ_ w4 hb4=>hv.moved λa ha=>kept hsl nilA hb4 ha
 refine zl (λe30=>?_) (λn30=>?_)
 ·have ho:oneT T pl k=some (memT T (agN pl k)):=by unfold oneT;rw[if_neg n19,if_neg n20,if_neg n21,if_neg n23,if_neg n28,if_pos e30]
  refine ze rfl ⟨_,hM10.blk.cell0 rfl,?_⟩
  refine zlv (B':=w2.heap.size) hM10.tb hT hS10 hW.fr λw' v hv hsl hb=>⟨v,_,rfl,?_⟩
  exact out v ho (hX10.below hb) rfl (b310.on hb) λ_ w4 hb4=>hv.moved λa ha=>kept hsl rA hb4 ha
 refine zl (λe32=>?_) (λn32=>?_)
 ·have hl2:(ix pl k).2.2.2.length=2:=yc hs hk e32 zcj
  have ho:oneT T pl k=some ({tp0 with kind:=7,cls:=agI pl k 0,ps:=(agN pl k).drop 1},if (tA T (agI pl k 1)).size=0 then 100 else 0):=by unfold oneT;rw[if_neg n19,if_neg n20,if_neg n21,if_neg n23,if_neg n28,if_neg n30,if_pos e32]
  have hMd:=hM10.below ((Below.refl _ _).drew:Below w10.heap.size w10 w10.drew)
  refine zo.cut (λ(st:Int×Unit) w'=>st=((if (tA T (agI pl k 1)).size=0 then(100:Int) else 0),())/\w'=w10.drew) ?_ ?_
  ·refine ze rfl ⟨_,hMd.blk.cell0 rfl,zax (k:=1) hS10.drew (by omega) ?_⟩
   rw[Yj (by omega)]
   refine zhD hMd.tb ⟨_,rfl,zL (zj (λg=>⟨by rw[if_neg (by omega)],rfl⟩) (λg=>⟨by rw[if_pos (by omega)],rfl⟩))⟩
  ·rintro _ _ ⟨rfl,rfl⟩
   refine zax (k:=0) hS10.drew.drew (by omega) ?_
   rw[Yj (by omega)]
   refine⟨⟨by omega,by show(1:Int)<=(r.l:Int);omega,by show(r.l:Int)<=(r.c:Int);have:=hS10.cap;omega⟩,?_⟩
   refine out (7,0,0,false,agI pl k 0,0,0,⟨if r.c=1 then r.a else Option.map (λa=>a.add 1) r.a,r.l-1,r.c-1⟩,()) ho hX10.drew.drew rfl b310.drew.drew λ_ w4 hb4=>?_
   have hS4:=hS3.below hb4
   exact⟨rfl,rfl,rfl,rfl,rfl,rfl,rfl,zwb hS4 (by omega),zp5 hW.fr⟩
 refine zl (λe33=>?_) (λn33=>?_)
 ·have ho:oneT T pl k=some (fnT T (agN pl k)):=by unfold oneT;rw[if_neg n19,if_neg n20,if_neg n21,if_neg n23,if_neg n28,if_neg n30,if_neg n32,if_pos e33]
  refine ze rfl ⟨_,hM10.blk.cell0 rfl,?_⟩
  refine zkk (B':=w2.heap.size) hM10.tb hS10 hW.fr (by rw[hnl,<-hal];omega) λw' v hv hsl hb=>⟨v,_,rfl,?_⟩
  exact out v ho (hX10.below hb) rfl (b310.on hb) λ_ w4 hb4=>hv.moved λa ha=>kept hsl rA hb4 ha
 ·have ho:oneT T pl k=none:=by unfold oneT;rw[if_neg n19,if_neg n20,if_neg n21,if_neg n23,if_neg n28,if_neg n30,if_neg n32,if_neg n33]
  rw[ho]at hR
  refine st8 hD10 rfl λw4 h4 c4=>Tv.load (v:=tv0) h4 (hR w4 (c4.below b010 (by omega)))
end
end Go.Proofs
namespace Go.Proofs
open Go.Gk Go.RowKit Go.Gm
structure Z0 (w:World) (r:Nat) (pl:List PI) (n:Nat):Prop where
 ex:∃S:List (List UInt8×Int),IsMg w r strV (Value.int .i64) S/\∀key,0<=(zG S key).getD 0/\(zG S key).getD 0<=(n:Int)/\(0<(zG S key).getD 0↔∃j,j<n/\agOp (ix pl j).1=true/\keyT pl j=key)
section
variable {w w':World} {R:VWP} {kb rs k:Nat} {pl:List PI} {t:Sl} {bd:Int}
theorem Z0.of_block(h:Z0 w rs pl k)(hb:w'.heap[rs]? =w.heap[rs]?):Z0 w' rs pl k:=by
 obtain⟨S,h1,h2⟩:=h
 exact⟨S,h1.of_block hb,h2⟩
theorem Z0.lt(h:Z0 w rs pl k):rs<w.heap.size:=by
 obtain⟨S,h1,h2⟩:=h
 exact h1.lt
theorem Z0.below(h:Z0 w rs pl k)(hb:Below w.heap.size w w'):Z0 w' rs pl k:=h.of_block (hb.block _ h.lt)
theorem Z0.skip(h:Z0 w rs pl k)(hn:agOp (ix pl k).1=false):Z0 w rs pl (k+1):=by
 obtain⟨S,h1,h2⟩:=h
 refine⟨S,h1,λkey=>?_⟩
 obtain⟨g1,g2,g3⟩:=h2 key
 refine⟨g1,by omega,g3.trans ⟨λ⟨j,q1,q2⟩=>⟨j,by omega,q2⟩,λ⟨j,q1,q2,q3⟩=>⟨j,?_,q2,q3⟩⟩⟩
 have:j≠k:=by rintro rfl;rw[hn]at q2;cases q2
 omega
theorem ztS:Tryz.prog.underlying 138=some (.map 9 3):=by kernel_rfl
theorem zvq:∃i,Tryz.prog.info? 3=some i/\i.zero=some ((BK.int .i64).v (0:Int)):=by
 have h:(Tryz.prog.info? 3).map (·.zero)=some (some (.int .i64 0)):=by kernel_rfl
 cases hi:Tryz.prog.info? 3 with
 |none=>rw[hi]at h;cases h
 |some i=>rw[hi]at h;exact⟨i,rfl,by injection h⟩
theorem zsy(a b:List UInt8):(⟨a.toArray⟩:ByteArray)++(⟨b.toArray⟩:ByteArray)=⟨(a++b).toArray⟩:=by
 refine ByteArray.ext ?_
 rw[ByteArray.data_append,List.append_toArray]
theorem zmF(a:List UInt8):(⟨a.toArray⟩:ByteArray).size=a.length:=List.size_toArray
set_option maxHeartbeats 1000000 in
theorem zpj{kb:Nat}{cs:List Value}(hK:Blk w kb 140 cs)(hc:cs[2]? =some (.map (some rs)))(hS:Z0 w rs pl k)(ht:Tab w)(hp:PlOk pl)(hs:(zx bd pl).1=0)(hk:k<pl.length)(hop:0<=(ix pl k).1/\(ix pl k).1<=65535)(hI:IsAg w t pl[k].2.2.2)
  (hty:agOp (ix pl k).1=true\/(ix pl k).1=28\/(ix pl k).1=30)
  (hR:∀w',Fr w.heap.size (λi=>i=rs) w w'->Z0 w' rs pl (k+1)->R (.bool (agnT pl k)) w'):cR 60 #[.pointer (some (blk kb)),inA (mkIn pl[k] t)] w R:=by
 refine za.of (ze3 _ (mkIn pl[k] t) R w ?_) λ_ _ h=>h
 have hix:=zI hk
 have hal:pl[k].2.2.2=(ix pl k).2.2.2:=by rw[hix]
 have hop1:pl[k].1=(ix pl k).1:=by rw[hix]
 refine zk λw1 hI1 b1 z1=>?_
 have hI1:Blk w1 w.heap.size 44 (inV (mkIn pl[k] t)):=hI1
 have fr:∀{w'},Below w.heap.size w w'->Fr w.heap.size (λi=>i=rs) w w':=λhb=>⟨hb.os,hb.tape,hb.output,hb.size,λi hi _=>hb.block i hi⟩
 have idle:((ix pl k).1=28\/(ix pl k).1=30)->R (.bool false) w1:=λq=>by
  have hn:agOp (ix pl k).1=false:=by
   rcases q with q |q<;>rw[q]<;>rfl
  have:=hR w1 (fr b1) ((hS.skip hn).below b1)
  have e:agnT pl k=false:=by
   unfold agnT
   rcases q with q |q<;>rw[q]<;>simp
  rwa[e]at this
 refine zo.cut (λ(_:Unit) w'=>w'=w1/\agOp (ix pl k).1=true) ?_ ?_
 ·refine hI1.rI0 (x:=pl[k].1) rfl ?_
  rw[hop1]
  refine zl (λq=>idle (.inl q)) (λq=>hI1.rI0 (x:=pl[k].1) rfl ?_)
  rw[hop1]
  refine zl (λq2=>idle (.inr q2)) (λq2=>⟨rfl,?_⟩)
  rcases hty with h |h |h
  ·exact h
  ·exact absurd h q
  ·exact absurd h q2
 rintro _ w2 ⟨rfl,hag⟩
 have ht2:=ht.below b1
 refine hI1.rI0 (x:=pl[k].1) rfl ?_
 rw[hop1,zq (by omega) (by omega)]
 refine zlK (by omega) (by omega) ht2 λw3 b3=>⟨_,rfl,?_⟩
 have b03:=b1.on b3
 have hlen:=YP hs hk
 have hA3:IsAg w3 t pl[k].2.2.2:=IsC.below zF hI b03
 have htl:=hA3.len
 have hpos:=zmC hp hk
 have hnl:(agN pl k).length=(ix pl k).2.2.2.length:=zio
 obtain⟨on,hon⟩:=Int.eq_ofNat_of_zero_le hop.1
 refine(hI1.below b3).rS (n:=3) (x:=t) rfl ?_
 refine zm.ghost (λm (st:ByteArray×Int×Unit) w'=>∃j:Nat,st=((⟨(Lib.itoa (ix pl k).1++spc ((agN pl k).take j)).toArray⟩:ByteArray),(j:Int),())/\j<=pl[k].2.2.2.length/\m=pl[k].2.2.2.length-j/\Below w3.heap.size w3 w') pl[k].2.2.2.length ⟨0,by rw[List.take_zero];unfold spc;rw[List.flatMap_nil,List.append_nil];rfl,Nat.zero_le _,rfl,Below.refl _ _⟩ ?_
 rintro _ _ w4 ⟨j,rfl,hj,rfl,b4⟩ next hnext
 have b04:=b03.on b4
 refine zj (λg=>?_) (λg=>?_)
 ·have hjl:j<pl[k].2.2.2.length:=by dsimp only at g;omega
  have hj':j<(ix pl k).2.2.2.length:=by rw[<-hal];exact hjl
  have hval:pl[k].2.2.2[j].2.1=agI pl k j:=by
   unfold agI
   rw[<-hal,zp hjl]
  obtain⟨p1,p2⟩:=zpi hp hk hj'
  obtain⟨an,han⟩:=Int.eq_ofNat_of_zero_le p1
  refine zfQ (IsC.below zF hA3 b4) hjl (box3 rfl λw7 h7 b7 z7=>h7.rI (n:=1) (x:=pl[k].2.2.2[j].2.1) rfl ?_)
  rw[hval,zq (by omega) (by omega)]
  refine zlK (by omega) (by omega) (ht.below (b04.on b7)) λw8 b8=>⟨_,rfl,?_⟩
  have l1:=zla (n:=an) (by omega)
  have l2:=zla (n:=on) (by omega)
  have l3:=zuV (l:=(agN pl k).take j) λa ha=>hpos a (List.mem_of_mem_take ha)
  rw[List.length_take]at l3
  have e32:(BM #[32])++(⟨(Lib.itoa (agI pl k j)).toArray⟩:ByteArray)=⟨(32::Lib.itoa (agI pl k j)).toArray⟩:=zsy [32] _
  have es:(⟨(Lib.itoa (ix pl k).1++spc ((agN pl k).take j)).toArray⟩:ByteArray)++(⟨(32::Lib.itoa (agI pl k j)).toArray⟩:ByteArray)=⟨(Lib.itoa (ix pl k).1++spc ((agN pl k).take (j+1))).toArray⟩:=by
   rw[zsy,List.take_succ_eq_append_getElem (by rw[hnl];exact hj'),Yj hj',ztI,List.append_assoc]
  rw[<-han]at l1
  rw[<-hon]at l2
  refine⟨?_,?_,?_⟩
  ·show(((BM #[32]).size+(⟨(Lib.itoa (agI pl k j)).toArray⟩:ByteArray).size:Nat):Int)<=9223372036854775807
   rw[zmF (Lib.itoa (agI pl k j)),show(BM #[32]).size=1 from rfl]
   omega
  ·unfold zco
   rw[e32,zmF,zmF,List.length_append,List.length_cons]
   omega
  ·dsimp only
   rw[e32,es,zE (by omega)]
   exact hnext (pl[k].2.2.2.length-(j+1)) _ w8 (by omega) ⟨j+1,rfl,by omega,rfl,(b4.on b7).on b8⟩
 have hje:j=pl[k].2.2.2.length:=by dsimp only at g;omega
 subst hje
 dsimp only
 rw[hal,<-hnl,List.take_length]
 show zc (some (Gk.blk kb)) _
 have hkey:Lib.itoa (ix pl k).1++spc (agN pl k)=keyT pl k:=rfl
 rw[hkey]
 obtain⟨S,hS1,hS2⟩:=hS.below b04
 have hK4:=hK.below b04
 refine ze rfl ⟨some rs,hK4.cell hc,?_⟩
 obtain⟨g1,g2,g3⟩:=hS2 (keyT pl k)
 have hlenp:=hp.len
 refine zet (β:=.int .i64) (κ:=List UInt8) zpZ ztS Tryz.underlying9 zvq hS1 (k:=keyT pl k) rfl ?_
 have ew:IntKind.i64.wrap ((zG S (keyT pl k)).getD 0+1)=(zG S (keyT pl k)).getD 0+1:=zq (by omega) (by omega)
 show updW _ _ _ _ (.int .i64 (IntKind.i64.wrap ((zG S (keyT pl k)).getD 0+1))) _ _
 rw[ew]
 refine zd3 zpZ ztS Tryz.underlying9 hS1 (k:=keyT pl k) (v:=(zG S (keyT pl k)).getD 0+1) rfl rfl λw5 hS5 c5=>?_
 have hne:rs≠kb:=hS1.notBlk hK4
 have hK5:=c5.blk hK4 (Ne.symm hne)
 refine ze rfl ⟨some rs,hK5.cell hc,?_⟩
 refine zet (β:=.int .i64) (κ:=List UInt8) zpZ ztS Tryz.underlying9 zvq hS5 (k:=keyT pl k) rfl ?_
 have e5:(zG (setG S (keyT pl k) ((zG S (keyT pl k)).getD 0+1)) (keyT pl k)).getD 0=(zG S (keyT pl k)).getD 0+1:=by rw[Y4,if_pos rfl];rfl
 show R (.bool (decide ((zG (setG S (keyT pl k) ((zG S (keyT pl k)).getD 0+1)) (keyT pl k)).getD 0>1))) w5
 rw[e5]
 have hbool:decide ((zG S (keyT pl k)).getD 0+1>1)=agnT pl k:=by
  have h1:=zsr hp hk hag
  rw[<-g3]at h1
  by_cases q:0<(zG S (keyT pl k)).getD 0
  ·rw[h1.2 q]
   exact decide_eq_true (by omega)
  ·cases hb:agnT pl k with
   |true=>exact absurd (h1.1 hb) q
   |false=>exact decide_eq_false (by omega)
 rw[hbool]
 refine hR w5 ⟨c5.os.trans b04.os,c5.tape.trans b04.tape,c5.output.trans b04.output,by rw[c5.size];exact b04.size,λi hi hx=>(c5.block i hx).trans (b04.block i hi)⟩ ⟨_,hS5,λkey=>?_⟩
 rw[Y4]
 by_cases e:key=keyT pl k
 ·rw[if_pos e]
  refine⟨by show(0:Int)<=_+1;omega,by show _+1<=_;omega,⟨λ_=>⟨k,by omega,hag,e.symm⟩,λ_=>by show(0:Int)<_+1;omega⟩⟩
 ·rw[if_neg e]
  obtain⟨f1,f2,f3⟩:=hS2 key
  refine⟨f1,by omega,f3.trans ⟨λ⟨j,q1,q2⟩=>⟨j,by omega,q2⟩,λ⟨j,q1,q2,q3⟩=>⟨j,?_,q2,q3⟩⟩⟩
  have:j≠k:=by rintro rfl;exact e q3.symm
  omega
end
end Go.Proofs
